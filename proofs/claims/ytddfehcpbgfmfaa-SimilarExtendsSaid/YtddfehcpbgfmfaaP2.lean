/- A part of the proof: P2. No conditions of its own. -/
import Derived.Test.YtddfehcpbgfmfaaP1
namespace Xn
open Go Go.Ev Go.Proofs
set_option linter.unusedSimpArgs false
set_option linter.unusedVariables false
set_option linter.defProp false
set_option maxRecDepth 8000
set_option maxHeartbeats 40000000
def ls43 := And.intro @ap_49_49 (And.intro @ap_52_52 (And.intro @bs_49_1 (And.intro @bs_52_1 (And.intro @bu_58_0_1_2_3 (And.intro @faP_25_0 (And.intro @faP_25_1 (And.intro @faP_25_2 (And.intro @faP_25_3 (And.intro @faP_58_4 (And.intro @idxL_23 (And.intro @idxR_49 (And.intro @varld_4_0_0 (And.intro @varld_4_0_1 (And.intro @varld_4_0_2 (@varld_4_0_3)))))))))))))))
theorem R06_rows_rcall {rec : (List Row) → Node → Int → Option (List Row)} (hrec : ∀ x0 x1 x2 r, rec x0 x1 x2 = some r → callW Try.prog A0 43 [.ref 0 0 x0.length 5, .p (.agg [.v (.int .i64 x1.Kind), .v (.string x1.Text), .lst false x1.Gaps.length (encL en_str x1.Gaps), .lst false x1.Kids.length (encL en_Node x1.Kids)]), iv x2] [.arr (encL en_Row x0)] = some (.ref 1 0 r.length 5, [.dead, .arr (encL en_Row r)])) {H : List Ob} {id n : Nat} {b1 b2 : Bool} {x0 : (List Row)} {x1 : Node} {x2 : Int} {r : (List Row)} : H[id]? = some (.arr (encL en_Row x0)) → n = x0.length → ∀ (h : rec x0 x1 x2 = some r), callD (callW Try.prog A0) A0 H 43 [.ref id 0 n 5, .p (.agg [.v (.int .i64 x1.Kind), .v (.string x1.Text), .lst b1 x1.Gaps.length (encL en_str x1.Gaps), .lst b2 x1.Kids.length (encL en_Node x1.Kids)]), iv x2] = some (.ref H.length 0 r.length 5, some (H.set id .dead ++ [.arr (encL en_Row r)])) := by
  intro hid hn h; subst hn; exact callD_mut1 (args := [.agg [.v (.int .i64 x1.Kind), .v (.string x1.Text), .lst false x1.Gaps.length (encL en_str x1.Gaps), .lst false x1.Kids.length (encL en_Node x1.Kids)], .v (.int .i64 x2)]) (by simp only [List.map_cons, List.map_nil, wkDv, wk, wks, wkL]) rfl hid (hrec x0 x1 x2 _ h)
noncomputable def L43_0 : Code := (loopsOf (bodyOf Try.f43)).getD 0 .skip
def g43_0 : List Ghost := [.own 8 1, .keep [0, 4, 7, 8, 9]]
def F43_0 (s7 : Int) (w2_0 : Int) (w2_1 : ByteArray) (w2_2 : (List ByteArray)) (w2_3 : (List Node)) : (Int × (List Row) × (List Int)) → St := fun (s9, y1, y3) => ⟨[.ref 1 0 y1.length 5, .junk, .junk, .junk, .ptr 2 0, .junk, .junk, iv s7, .ref 3 0 y3.length 1, iv s9, .junk, .junk, .junk, .junk, .junk, .junk, .junk, .junk, .junk, .junk, .junk, .junk, .junk, .junk, .junk, .junk, .junk, .junk, .junk, .junk, .junk, .junk, .junk, .junk, .junk, .junk, .junk, .junk, .junk, .junk, .junk, .junk, .junk, .junk, .junk, .junk, .junk, .junk, .junk], [.dead, .arr (encL en_Row y1), .var [iv w2_0, .p (.v (.string w2_1)), .p (.lst false w2_2.length (encL en_str w2_2)), .p (.lst false w2_3.length (encL en_Node w2_3))], .arr (encL en_i64 y3)], 1⟩
theorem L43_0_ok {rec : (List Row) → Node → Int → Option (List Row)} (hrec : ∀ x0 x1 x2 r, rec x0 x1 x2 = some r → callW Try.prog A0 43 [.ref 0 0 x0.length 5, .p (.agg [.v (.int .i64 x1.Kind), .v (.string x1.Text), .lst false x1.Gaps.length (encL en_str x1.Gaps), .lst false x1.Kids.length (encL en_Node x1.Kids)]), iv x2] [.arr (encL en_Row x0)] = some (.ref 1 0 r.length 5, [.dead, .arr (encL en_Row r)])) (s7 : Int) (w2_0 : Int) (w2_1 : ByteArray) (w2_2 : (List ByteArray)) (w2_3 : (List Node)) : ∀ s st o, ghostsD g43_0 st = some (F43_0 s7 w2_0 w2_1 w2_2 w2_3 s) → iter (R06_rows_L0 rec s7 w2_0 w2_1 w2_2 w2_3) s = some o →
    Wp (evW Try.prog A0 43 (.loop L43_0) st) (OutQ (F43_0 s7 w2_0 w2_1 w2_2 w2_3) g43_0 (fun n s st => n = 0 ∧ ghostsD [.keep [0, 4, 7, 8, 9]] st = some (F43_0 s7 w2_0 w2_1 w2_2 w2_3 s)) (fun r st => finishD Try.prog A0 43 Try.f43 st = some (.ref 1 0 r.length 5, [.dead, .arr (encL en_Row r)])) o) := by
 refine Wp.iter ?_
 intro s st o hg h
 obtain ⟨s9, y1, y3⟩ := s
 unfold R06_rows_L0 at h
 unfold g43_0 F43_0 at hg ⊢
 (try simp only [] at h hg)
 unfold L43_0 bodyOf Try.f43; simp only [Option.getD_some, loopsOf, List.append_nil, List.nil_append, List.cons_append, List.getD_cons_zero, List.getD_cons_succ]
 by_cases h3 : s9 < (w2_3.length : Int)
 ·rw [if_pos h3] at h
  have h3' : decide (s9 < (w2_3.length : Int)) = true := decide_eq_true h3
  by_cases hw_ : (y3.length + 1) * 8 ≤ 140737488355328
  case neg => rw [if_neg hw_] at h; cases h
  rw [if_pos hw_] at h
  have h5 := hw_
  have h4 : ∀ (H : List Ob) (id : Nat), apOb H id 0 y3.length 1 1 1 8 [.v (.int .i64 (y1.length : Int))] (some (.arr (encL en_i64 y3))) = some (.ref H.length 0 (y3 ++ [(y1.length : Int)]).length 1, H.set id .dead ++ [.arr (encL en_i64 (y3 ++ [(y1.length : Int)]))]) := fun H id => ap_enc (y := [(y1.length : Int)]) en_i64_len (by first | rfl | omega) rfl (by first | (simp only [encL_cons, encL_nil, en_i64_eq, List.cons_append, List.nil_append]; done) | (simp only [encL_cons, encL_nil, en_i64_eq, List.cons_append, List.nil_append]; rfl) | rfl) (by assumption)
  obtain ⟨v6, h7, h⟩ := bsm h
  obtain ⟨h7a, h7b, _⟩ := rd_some h7
  have h8 := lk_frz_25 h7
  obtain ⟨r9, h10, h⟩ := bsm h
  have h11 : ∀ H, H[1]? = some (.arr (encL en_Row y1)) → callD (callW Try.prog A0) A0 H 43 [.ref 1 0 y1.length 5, .p (.agg [.v (.int .i64 v6.Kind), .v (.string v6.Text), .lst false v6.Gaps.length (encL en_str v6.Gaps), .lst false v6.Kids.length (encL en_Node v6.Kids)]), iv s7] = some (.ref H.length 0 r9.length 5, some (H.set 1 .dead ++ [.arr (encL en_Row r9)])) := fun H hid => R06_rows_rcall hrec (H := H) (id := 1) hid (by first | rfl | omega) h10
  have h11' := h11 [.dead, .arr (encL en_Row y1), .var [iv w2_0, .p (.v (.string w2_1)), .p (.lst false w2_2.length (encL en_str w2_2)), .p (.lst false w2_3.length (encL en_Node w2_3))], .dead, .arr (encL en_i64 (y3 ++ [(y1.length : Int)]))] rfl
  obtain rfl := Option.some.inj h
  simp (maxSteps := 10000000) (implicitDefEqProofs := false) (disch := first | assumption | omega | exact rfl) only [bs, rs43, ls43, Nat.reduceAdd, ↓reduceIte, lenD_lst u23, lenD_ref u49, loadD_iagg a25 z25, loadD_ptr a22, loadD_ptr a23, loadD_ptr a3, loadD_ptr a9, own_ref, wksL_en_i64, wksL_en_str, wks_nil_, hg, ↓h3', h4, h8, h11']
  exact ⟨rfl, by kernel_rfl⟩
 ·rw [if_neg h3] at h
  have h3' : decide (s9 < (w2_3.length : Int)) = false := decide_eq_false h3
  obtain rfl := Option.some.inj h
  simp (maxSteps := 10000000) (implicitDefEqProofs := false) (disch := first | assumption | omega | exact rfl) only [bs, rs43, ls43, Nat.reduceAdd, ↓reduceIte, lenD_lst u23, lenD_ref u49, loadD_iagg a25 z25, loadD_ptr a22, loadD_ptr a23, loadD_ptr a3, loadD_ptr a9, own_ref, wksL_en_i64, wksL_en_str, wks_nil_, hg, ↓h3']
  exact ⟨rfl, rfl, by kernel_rfl⟩
theorem f43_ok {rec : (List Row) → Node → Int → Option (List Row)} (hrec : ∀ x0 x1 x2 r, rec x0 x1 x2 = some r → callW Try.prog A0 43 [.ref 0 0 x0.length 5, .p (.agg [.v (.int .i64 x1.Kind), .v (.string x1.Text), .lst false x1.Gaps.length (encL en_str x1.Gaps), .lst false x1.Kids.length (encL en_Node x1.Kids)]), iv x2] [.arr (encL en_Row x0)] = some (.ref 1 0 r.length 5, [.dead, .arr (encL en_Row r)]))  (x0 : (List Row)) (x1 : Node) (x2 : Int) (r : (List Row)) (h : R06_rows.body rec x0 x1 x2 = some r) : callW Try.prog A0 43 [.ref 0 0 x0.length 5, .p (.agg [.v (.int .i64 x1.Kind), .v (.string x1.Text), .lst false x1.Gaps.length (encL en_str x1.Gaps), .lst false x1.Kids.length (encL en_Node x1.Kids)]), iv x2] [.arr (encL en_Row x0)] = some (.ref 1 0 r.length 5, [.dead, .arr (encL en_Row r)]) := by
 refine call_ofH (fn := Try.f43) (c := bodyOf Try.f43) rfl rfl (by kernel_rfl) (by kernel_rfl) ?_
 rw [show initS Try.f43 [.ref 0 0 x0.length 5, .p (.agg [.v (.int .i64 x1.Kind), .v (.string x1.Text), .lst false x1.Gaps.length (encL en_str x1.Gaps), .lst false x1.Kids.length (encL en_Node x1.Kids)]), iv x2] [.arr (encL en_Row x0)] = ⟨.ref 0 0 x0.length 5 :: .p (.agg [.v (.int .i64 x1.Kind), .v (.string x1.Text), .lst false x1.Gaps.length (encL en_str x1.Gaps), .lst false x1.Kids.length (encL en_Node x1.Kids)]) :: iv x2 :: List.replicate 46 undefD, [.arr (encL en_Row x0)], 1⟩ from by kernel_rfl]
 unfold R06_rows.body at h
 unfold bodyOf Try.f43; simp only [Option.getD_some, loopsOf, List.append_nil, List.nil_append, List.cons_append, List.getD_cons_zero, List.getD_cons_succ]
 simp only [List.replicate]
 by_cases hw_ : (x0.length + 1) * 80 ≤ 140737488355328
 case neg => rw [if_neg hw_] at h; cases h
 rw [if_pos hw_] at h
 have h2 := hw_
 have h1 : ∀ (H : List Ob) (id : Nat), apOb H id 0 x0.length 1 5 5 80 [.v (.int .i64 x2), .v (.int .i64 x1.Kind), .v (.string x1.Text), .lst false x1.Gaps.length (encL en_str x1.Gaps), .lst false 0 []] (some (.arr (encL en_Row x0))) = some (.ref H.length 0 (x0 ++ [(Row.mk x2 x1.Kind x1.Text x1.Gaps ([] : List Int))]).length 5, H.set id .dead ++ [.arr (encL en_Row (x0 ++ [(Row.mk x2 x1.Kind x1.Text x1.Gaps ([] : List Int))]))]) := fun H id => ap_enc (y := [(Row.mk x2 x1.Kind x1.Text x1.Gaps ([] : List Int))]) en_Row_len (by first | rfl | omega) rfl (by first | (simp only [encL_cons, encL_nil, en_Row_eq, List.cons_append, List.nil_append]; done) | (simp only [encL_cons, encL_nil, en_Row_eq, List.cons_append, List.nil_append]; rfl) | rfl) (by assumption)
 obtain ⟨o, h12, h⟩ := bsm h
 simp (maxSteps := 10000000) (implicitDefEqProofs := false) (disch := first | assumption | omega | exact rfl) only [bs, rs43, ls43, Nat.reduceAdd, ↓reduceIte, lenD_lst u23, lenD_ref u49, loadD_iagg a25 z25, loadD_ptr a22, loadD_ptr a23, loadD_ptr a3, loadD_ptr a9, own_ref, wksL_en_i64, wksL_en_str, wks_nil_, h1]
 refine Wp.ctx (fun x => seqW _ _ _ _ (blockW _ (x))) (L43_0_ok hrec (x0.length : Int) x1.Kind x1.Text x1.Gaps x1.Kids ((0 : Int), (x0 ++ [(Row.mk x2 x1.Kind x1.Text x1.Gaps ([] : List Int))]), ([] : List Int)) _ o (by kernel_rfl) h12) ?_
 intro e st hq
 cases o with
 | next _ => (first | cases h | (simp at h))
 | jmp n_ s_ =>
  obtain ⟨rfl, rfl, hq⟩ := hq
  obtain ⟨s9_13, y1_13, y3_13⟩ := s_
  unfold F43_0 at hq
  (try simp only [] at h hq)
  obtain ⟨v14, h15, h⟩ := bsm h
  obtain ⟨h15a, h15b, _⟩ := rd_some h15
  have h16 : storeD Try.prog [.dead, .arr (encL en_Row y1_13), .var [iv x1.Kind, .p (.v (.string x1.Text)), .p (.lst false x1.Gaps.length (encL en_str x1.Gaps)), .p (.lst false x1.Kids.length (encL en_Node x1.Kids))], .arr (encL en_i64 y3_13)] 52 (.ptr 1 ((x0.length : Int).toNat * 5 + 4)) (.ref 3 0 y3_13.length 1) = some [.dead, .arr (encL en_Row (y1_13.set (x0.length : Int).toNat (Row.mk v14.Parent v14.Kind v14.Text v14.Gaps y3_13))), .var [iv x1.Kind, .p (.v (.string x1.Text)), .p (.lst false x1.Gaps.length (encL en_str x1.Gaps)), .p (.lst false x1.Kids.length (encL en_Node x1.Kids))], .frz (encL en_i64 y3_13)] := (storeD_row (v' := (Row.mk v14.Parent v14.Kind v14.Text v14.Gaps y3_13)) (k := 4) z52 en_Row_len en_i64_len rfl rfl rfl (by first | rfl | omega) h15 (by decide) (by rw [en_Row_eq, en_Row_eq]; rfl)).trans rfl
  have h17 : (y1_13.set (x0.length : Int).toNat (Row.mk v14.Parent v14.Kind v14.Text v14.Gaps y3_13)).length = y1_13.length := List.length_set
  obtain rfl := Option.some.inj h
  simp (maxSteps := 10000000) (implicitDefEqProofs := false) (disch := first | assumption | omega | exact rfl) only [bs, rs43, ls43, Nat.reduceAdd, ↓reduceIte, lenD_lst u23, lenD_ref u49, loadD_iagg a25 z25, loadD_ptr a22, loadD_ptr a23, loadD_ptr a3, loadD_ptr a9, own_ref, wksL_en_i64, wksL_en_str, wks_nil_, h1, hq, h16]
  refine ⟨by first | exact .inl trivial | exact .inr trivial | simp, ?_⟩
  show _ = _
  simp only [List.length_set, cpL_len]; kernel_rfl
 | ret _ => (first | cases h | (simp at h))
def ls43n := And.intro @ap_49_49 (And.intro @ap_52_52 (And.intro @bs_49_1 (And.intro @bs_52_1 (And.intro @bu_58_0_1_2_3 (And.intro @faP_25_0 (And.intro @faP_25_1 (And.intro @faP_25_2 (And.intro @faP_25_3 (And.intro @faP_58_4 (And.intro @idxL_23 (And.intro @idxR_49 (And.intro @varld_4_0_0 (And.intro @varld_4_0_1 (And.intro @varld_4_0_2 (@varld_4_0_3)))))))))))))))
def F43n_0 (s7 : Int) (w1_0 : Int) (w1_1 : ByteArray) (w1_2 : (List ByteArray)) (w1_3 : (List Node)) : (Int × (List Row) × (List Int)) → St := fun (s9, y0, y2) => ⟨[.ref 0 0 y0.length 5, .junk, .junk, .junk, .ptr 1 0, .junk, .junk, iv s7, .ref 2 0 y2.length 1, iv s9, .junk, .junk, .junk, .junk, .junk, .junk, .junk, .junk, .junk, .junk, .junk, .junk, .junk, .junk, .junk, .junk, .junk, .junk, .junk, .junk, .junk, .junk, .junk, .junk, .junk, .junk, .junk, .junk, .junk, .junk, .junk, .junk, .junk, .junk, .junk, .junk, .junk, .junk, .junk], [.arr (encL en_Row y0), .var [iv w1_0, .p (.v (.string w1_1)), .p (.lst false w1_2.length (encL en_str w1_2)), .p (.lst false w1_3.length (encL en_Node w1_3))], .arr (encL en_i64 y2)], 0⟩
theorem L43n_0_ok {rec : (List Row) → Node → Int → Option (List Row)} (hrec : ∀ x0 x1 x2 r, rec x0 x1 x2 = some r → callW Try.prog A0 43 [.ref 0 0 x0.length 5, .p (.agg [.v (.int .i64 x1.Kind), .v (.string x1.Text), .lst false x1.Gaps.length (encL en_str x1.Gaps), .lst false x1.Kids.length (encL en_Node x1.Kids)]), iv x2] [.arr (encL en_Row x0)] = some (.ref 1 0 r.length 5, [.dead, .arr (encL en_Row r)])) (s7 : Int) (w1_0 : Int) (w1_1 : ByteArray) (w1_2 : (List ByteArray)) (w1_3 : (List Node)) : ∀ s st o, ghostsD g43_0 st = some (F43n_0 s7 w1_0 w1_1 w1_2 w1_3 s) → iter (R06_rows_L0 rec s7 w1_0 w1_1 w1_2 w1_3) s = some o →
    Wp (evW Try.prog A0 43 (.loop L43_0) st) (OutQ (F43n_0 s7 w1_0 w1_1 w1_2 w1_3) g43_0 (fun n s st => n = 0 ∧ ghostsD [.keep [0, 4, 7, 8, 9]] st = some (F43n_0 s7 w1_0 w1_1 w1_2 w1_3 s)) (fun r st => finishD Try.prog A0 43 Try.f43 st = some (.ref 0 0 r.length 5, [.arr (encL en_Row r)])) o) := by
 refine Wp.iter ?_
 intro s st o hg h
 obtain ⟨s9, y0, y2⟩ := s
 unfold R06_rows_L0 at h
 unfold g43_0 F43n_0 at hg ⊢
 (try simp only [] at h hg)
 unfold L43_0 bodyOf Try.f43; simp only [Option.getD_some, loopsOf, List.append_nil, List.nil_append, List.cons_append, List.getD_cons_zero, List.getD_cons_succ]
 by_cases h3 : s9 < (w1_3.length : Int)
 ·rw [if_pos h3] at h
  have h3' : decide (s9 < (w1_3.length : Int)) = true := decide_eq_true h3
  by_cases hw_ : (y2.length + 1) * 8 ≤ 140737488355328
  case neg => rw [if_neg hw_] at h; cases h
  rw [if_pos hw_] at h
  have h5 := hw_
  have h4 : ∀ (H : List Ob) (id : Nat), apOb H id 0 y2.length 1 1 1 8 [.v (.int .i64 (y0.length : Int))] (some (.arr (encL en_i64 y2))) = some (.ref H.length 0 (y2 ++ [(y0.length : Int)]).length 1, H.set id .dead ++ [.arr (encL en_i64 (y2 ++ [(y0.length : Int)]))]) := fun H id => ap_enc (y := [(y0.length : Int)]) en_i64_len (by first | rfl | omega) rfl (by first | (simp only [encL_cons, encL_nil, en_i64_eq, List.cons_append, List.nil_append]; done) | (simp only [encL_cons, encL_nil, en_i64_eq, List.cons_append, List.nil_append]; rfl) | rfl) (by assumption)
  obtain ⟨v6, h7, h⟩ := bsm h
  obtain ⟨h7a, h7b, _⟩ := rd_some h7
  have h8 := lk_frz_25 h7
  obtain ⟨r9, h10, h⟩ := bsm h
  have h11 : ∀ H, H[0]? = some (.arr (encL en_Row y0)) → callD (callW Try.prog A0) A0 H 43 [.ref 0 0 y0.length 5, .p (.agg [.v (.int .i64 v6.Kind), .v (.string v6.Text), .lst false v6.Gaps.length (encL en_str v6.Gaps), .lst false v6.Kids.length (encL en_Node v6.Kids)]), iv s7] = some (.ref H.length 0 r9.length 5, some (H.set 0 .dead ++ [.arr (encL en_Row r9)])) := fun H hid => R06_rows_rcall hrec (H := H) (id := 0) hid (by first | rfl | omega) h10
  have h11' := h11 [.arr (encL en_Row y0), .var [iv w1_0, .p (.v (.string w1_1)), .p (.lst false w1_2.length (encL en_str w1_2)), .p (.lst false w1_3.length (encL en_Node w1_3))], .dead, .arr (encL en_i64 (y2 ++ [(y0.length : Int)]))] rfl
  obtain rfl := Option.some.inj h
  simp (maxSteps := 10000000) (implicitDefEqProofs := false) (disch := first | assumption | omega | exact rfl) only [bs, rs43, ls43n, Nat.reduceAdd, ↓reduceIte, lenD_lst u23, lenD_ref u49, loadD_iagg a25 z25, loadD_ptr a22, loadD_ptr a23, loadD_ptr a3, loadD_ptr a9, own_ref, wksL_en_i64, wksL_en_str, wks_nil_, hg, ↓h3', h4, h8, h11']
  exact ⟨rfl, by kernel_rfl⟩
 ·rw [if_neg h3] at h
  have h3' : decide (s9 < (w1_3.length : Int)) = false := decide_eq_false h3
  obtain rfl := Option.some.inj h
  simp (maxSteps := 10000000) (implicitDefEqProofs := false) (disch := first | assumption | omega | exact rfl) only [bs, rs43, ls43n, Nat.reduceAdd, ↓reduceIte, lenD_lst u23, lenD_ref u49, loadD_iagg a25 z25, loadD_ptr a22, loadD_ptr a23, loadD_ptr a3, loadD_ptr a9, own_ref, wksL_en_i64, wksL_en_str, wks_nil_, hg, ↓h3']
  exact ⟨rfl, rfl, by kernel_rfl⟩
theorem f43n_ok {rec : (List Row) → Node → Int → Option (List Row)} (hrec : ∀ x0 x1 x2 r, rec x0 x1 x2 = some r → callW Try.prog A0 43 [.ref 0 0 x0.length 5, .p (.agg [.v (.int .i64 x1.Kind), .v (.string x1.Text), .lst false x1.Gaps.length (encL en_str x1.Gaps), .lst false x1.Kids.length (encL en_Node x1.Kids)]), iv x2] [.arr (encL en_Row x0)] = some (.ref 1 0 r.length 5, [.dead, .arr (encL en_Row r)]))  (x0 : (List Row)) (x1 : Node) (x2 : Int) (hx0 : x0 = []) (r : (List Row)) (h : R06_rows.body rec x0 x1 x2 = some r) : callW Try.prog A0 43 [.p (.lst true 0 []), .p (.agg [.v (.int .i64 x1.Kind), .v (.string x1.Text), .lst false x1.Gaps.length (encL en_str x1.Gaps), .lst false x1.Kids.length (encL en_Node x1.Kids)]), iv x2] [] = some (.ref 0 0 r.length 5, [.arr (encL en_Row r)]) := by
 refine call_ofH (fn := Try.f43) (c := bodyOf Try.f43) rfl rfl (by kernel_rfl) (by kernel_rfl) ?_
 rw [show initS Try.f43 [.p (.lst true 0 []), .p (.agg [.v (.int .i64 x1.Kind), .v (.string x1.Text), .lst false x1.Gaps.length (encL en_str x1.Gaps), .lst false x1.Kids.length (encL en_Node x1.Kids)]), iv x2] [] = ⟨.p (.lst true 0 []) :: .p (.agg [.v (.int .i64 x1.Kind), .v (.string x1.Text), .lst false x1.Gaps.length (encL en_str x1.Gaps), .lst false x1.Kids.length (encL en_Node x1.Kids)]) :: iv x2 :: List.replicate 46 undefD, [], 0⟩ from by kernel_rfl]
 unfold R06_rows.body at h
 unfold bodyOf Try.f43; simp only [Option.getD_some, loopsOf, List.append_nil, List.nil_append, List.cons_append, List.getD_cons_zero, List.getD_cons_succ]
 simp only [List.replicate]
 have hown := own_nil' (en := en_Row) hx0 5
 by_cases hw_ : (x0.length + 1) * 80 ≤ 140737488355328
 case neg => rw [if_neg hw_] at h; cases h
 rw [if_pos hw_] at h
 have h2 := hw_
 have h1 : ∀ (H : List Ob) (id : Nat), apOb H id 0 x0.length 1 5 5 80 [.v (.int .i64 x2), .v (.int .i64 x1.Kind), .v (.string x1.Text), .lst false x1.Gaps.length (encL en_str x1.Gaps), .lst false 0 []] (some (.arr (encL en_Row x0))) = some (.ref H.length 0 (x0 ++ [(Row.mk x2 x1.Kind x1.Text x1.Gaps ([] : List Int))]).length 5, H.set id .dead ++ [.arr (encL en_Row (x0 ++ [(Row.mk x2 x1.Kind x1.Text x1.Gaps ([] : List Int))]))]) := fun H id => ap_enc (y := [(Row.mk x2 x1.Kind x1.Text x1.Gaps ([] : List Int))]) en_Row_len (by first | rfl | omega) rfl (by first | (simp only [encL_cons, encL_nil, en_Row_eq, List.cons_append, List.nil_append]; done) | (simp only [encL_cons, encL_nil, en_Row_eq, List.cons_append, List.nil_append]; rfl) | rfl) (by assumption)
 obtain ⟨o, h12, h⟩ := bsm h
 simp (maxSteps := 10000000) (implicitDefEqProofs := false) (disch := first | assumption | omega | exact rfl) only [bs, rs43, ls43n, Nat.reduceAdd, ↓reduceIte, lenD_lst u23, lenD_ref u49, loadD_iagg a25 z25, loadD_ptr a22, loadD_ptr a23, loadD_ptr a3, loadD_ptr a9, own_ref, wksL_en_i64, wksL_en_str, wks_nil_, hown, h1]
 refine Wp.ctx (fun x => seqW _ _ _ _ (blockW _ (x))) (L43n_0_ok hrec (x0.length : Int) x1.Kind x1.Text x1.Gaps x1.Kids ((0 : Int), (x0 ++ [(Row.mk x2 x1.Kind x1.Text x1.Gaps ([] : List Int))]), ([] : List Int)) _ o (by kernel_rfl) h12) ?_
 intro e st hq
 cases o with
 | next _ => (first | cases h | (simp at h))
 | jmp n_ s_ =>
  obtain ⟨rfl, rfl, hq⟩ := hq
  obtain ⟨s9_13, y0_13, y2_13⟩ := s_
  unfold F43n_0 at hq
  (try simp only [] at h hq)
  obtain ⟨v14, h15, h⟩ := bsm h
  obtain ⟨h15a, h15b, _⟩ := rd_some h15
  have h16 : storeD Try.prog [.arr (encL en_Row y0_13), .var [iv x1.Kind, .p (.v (.string x1.Text)), .p (.lst false x1.Gaps.length (encL en_str x1.Gaps)), .p (.lst false x1.Kids.length (encL en_Node x1.Kids))], .arr (encL en_i64 y2_13)] 52 (.ptr 0 ((x0.length : Int).toNat * 5 + 4)) (.ref 2 0 y2_13.length 1) = some [.arr (encL en_Row (y0_13.set (x0.length : Int).toNat (Row.mk v14.Parent v14.Kind v14.Text v14.Gaps y2_13))), .var [iv x1.Kind, .p (.v (.string x1.Text)), .p (.lst false x1.Gaps.length (encL en_str x1.Gaps)), .p (.lst false x1.Kids.length (encL en_Node x1.Kids))], .frz (encL en_i64 y2_13)] := (storeD_row (v' := (Row.mk v14.Parent v14.Kind v14.Text v14.Gaps y2_13)) (k := 4) z52 en_Row_len en_i64_len rfl rfl rfl (by first | rfl | omega) h15 (by decide) (by rw [en_Row_eq, en_Row_eq]; rfl)).trans rfl
  have h17 : (y0_13.set (x0.length : Int).toNat (Row.mk v14.Parent v14.Kind v14.Text v14.Gaps y2_13)).length = y0_13.length := List.length_set
  obtain rfl := Option.some.inj h
  simp (maxSteps := 10000000) (implicitDefEqProofs := false) (disch := first | assumption | omega | exact rfl) only [bs, rs43, ls43n, Nat.reduceAdd, ↓reduceIte, lenD_lst u23, lenD_ref u49, loadD_iagg a25 z25, loadD_ptr a22, loadD_ptr a23, loadD_ptr a3, loadD_ptr a9, own_ref, wksL_en_i64, wksL_en_str, wks_nil_, hown, h1, hq, h16]
  refine ⟨by first | exact .inl trivial | exact .inr trivial | simp, ?_⟩
  show _ = _
  simp only [List.length_set, cpL_len]; kernel_rfl
 | ret _ => (first | cases h | (simp at h))
theorem f43_spec : ∀ (x0 : (List Row)) (x1 : Node) (x2 : Int) r, R06_rowsS x0 x1 x2 = some r → callW Try.prog A0 43 [.ref 0 0 x0.length 5, .p (.agg [.v (.int .i64 x1.Kind), .v (.string x1.Text), .lst false x1.Gaps.length (encL en_str x1.Gaps), .lst false x1.Kids.length (encL en_Node x1.Kids)]), iv x2] [.arr (encL en_Row x0)] = some (.ref 1 0 r.length 5, [.dead, .arr (encL en_Row r)]) := by
  have key : ∀ n (x0 : (List Row)) (x1 : Node) (x2 : Int) r, R06_rowsS_mu x0 x1 x2 < n → R06_rowsS x0 x1 x2 = some r → callW Try.prog A0 43 [.ref 0 0 x0.length 5, .p (.agg [.v (.int .i64 x1.Kind), .v (.string x1.Text), .lst false x1.Gaps.length (encL en_str x1.Gaps), .lst false x1.Kids.length (encL en_Node x1.Kids)]), iv x2] [.arr (encL en_Row x0)] = some (.ref 1 0 r.length 5, [.dead, .arr (encL en_Row r)]) := by
    intro n
    induction n with
    | zero => intro x0 x1 x2 r h; omega
    | succ n ih =>
      intro x0 x1 x2 r hn h
      refine f43_ok (rec := fun x0' x1' x2' => if R06_rowsS_mu x0' x1' x2' < R06_rowsS_mu x0 x1 x2 then R06_rowsS x0' x1' x2' else none) ?_ x0 x1 x2 r (R06_rowsS_body x0 x1 x2 r h)
      intro x0' x1' x2' r' h'
      by_cases hm : R06_rowsS_mu x0' x1' x2' < R06_rowsS_mu x0 x1 x2
      · rw [if_pos hm] at h'; exact ih x0' x1' x2' r' (by omega) h'
      · rw [if_neg hm] at h'; cases h'
  intro x0 x1 x2 r h
  exact key _ x0 x1 x2 r (Nat.lt_succ_self _) h
theorem f43n_spec (x1 : Node) (x2 : Int) r (h : R06_rowsS ([] : List Row) x1 x2 = some r) : callW Try.prog A0 43 [.p (.lst true 0 []), .p (.agg [.v (.int .i64 x1.Kind), .v (.string x1.Text), .lst false x1.Gaps.length (encL en_str x1.Gaps), .lst false x1.Kids.length (encL en_Node x1.Kids)]), iv x2] [] = some (.ref 0 0 r.length 5, [.arr (encL en_Row r)]) := by
  refine f43n_ok (rec := fun x0' x1' x2' => if R06_rowsS_mu x0' x1' x2' < R06_rowsS_mu ([] : List Row) x1 x2 then R06_rowsS x0' x1' x2' else none) ?_ ([] : List Row) x1 x2 rfl r (R06_rowsS_body ([] : List Row) x1 x2 r h)
  intro x0' x1' x2' r' h'
  by_cases hm : R06_rowsS_mu x0' x1' x2' < R06_rowsS_mu ([] : List Row) x1 x2
  · rw [if_pos hm] at h'; exact f43_spec x0' x1' x2' r' h'
  · rw [if_neg hm] at h'; cases h'
theorem R06_rows_calln {b1 b2 : Bool} {H : List Ob} {x1 : Node} {x2 : Int} {r : (List Row)} (h : R06_rowsS ([] : List Row) x1 x2 = some r) : callD (callW Try.prog A0) A0 H 43 [.p (.lst true 0 []), .p (.agg [.v (.int .i64 x1.Kind), .v (.string x1.Text), .lst b1 x1.Gaps.length (encL en_str x1.Gaps), .lst b2 x1.Kids.length (encL en_Node x1.Kids)]), iv x2] = some (.ref H.length 0 r.length 5, some (H ++ [.arr (encL en_Row r)])) :=
  callD_mut0 (args := [.lst true 0 [], .agg [.v (.int .i64 x1.Kind), .v (.string x1.Text), .lst false x1.Gaps.length (encL en_str x1.Gaps), .lst false x1.Kids.length (encL en_Node x1.Kids)], .v (.int .i64 x2)]) (by simp only [List.map_cons, List.map_nil, wkDv, wk, wks, wkL]) rfl (f43n_spec x1 x2 _ h)
def ls26 := @varlv_4_0_4
theorem f26_ok  (x0 : Node) (r : (List Row)) (h : R06_Rows x0 = some r) : callW Try.prog A0 26 [.p (.agg [.v (.int .i64 x0.Kind), .v (.string x0.Text), .lst false x0.Gaps.length (encL en_str x0.Gaps), .lst false x0.Kids.length (encL en_Node x0.Kids)])] [] = some (.p (.lst false r.length (encL en_Row r)), []) := by
 refine call_ofH (fn := Try.f26) (c := bodyOf Try.f26) rfl rfl (by kernel_rfl) (by kernel_rfl) ?_
 rw [show initS Try.f26 [.p (.agg [.v (.int .i64 x0.Kind), .v (.string x0.Text), .lst false x0.Gaps.length (encL en_str x0.Gaps), .lst false x0.Kids.length (encL en_Node x0.Kids)])] [] = ⟨.p (.agg [.v (.int .i64 x0.Kind), .v (.string x0.Text), .lst false x0.Gaps.length (encL en_str x0.Gaps), .lst false x0.Kids.length (encL en_Node x0.Kids)]) :: List.replicate 6 undefD, [], 0⟩ from by kernel_rfl]
 unfold R06_Rows at h
 unfold bodyOf Try.f26; simp only [Option.getD_some, loopsOf, List.append_nil, List.nil_append, List.cons_append, List.getD_cons_zero, List.getD_cons_succ]
 simp only [List.replicate]
 obtain ⟨r1, h2, h⟩ := bsm h
 have h3 : ∀ H, callD (callW Try.prog A0) A0 H 43 [.p (.lst true 0 []), .p (.agg [.v (.int .i64 x0.Kind), .v (.string x0.Text), .lst false x0.Gaps.length (encL en_str x0.Gaps), .lst false x0.Kids.length (encL en_Node x0.Kids)]), iv (-1 : Int)] = some (.ref H.length 0 r1.length 5, some (H ++ [.arr (encL en_Row r1)])) := fun H => R06_rows_calln (H := H) h2
 obtain rfl := Option.some.inj h
 simp (maxSteps := 10000000) (implicitDefEqProofs := false) (disch := first | assumption | omega | exact rfl) only [bs, rs26, ls26, Nat.reduceAdd, ↓reduceIte, loadD_pagg a25 z25, h3]
 refine ⟨by first | exact .inl trivial | exact .inr trivial | simp, ?_⟩
 exact finish_is (ds := [.ref 1 0 r1.length 5]) (x := .lst false r1.length (encL en_Row r1)) (y := .lst false r1.length (encL en_Row r1)) (l := [1]) rfl rfl rfl (purify1_enc en_Row_len rfl (by first | rfl | omega)) (by first | rfl | (simp only [wk, wks, wkL]; first | done | rfl))
theorem R06_Rows_call {b1 b2 : Bool} {H : List Ob} {x0 : Node} {r : (List Row)} (h : R06_Rows x0 = some r) : callD (callW Try.prog A0) A0 H 26 [.p (.agg [.v (.int .i64 x0.Kind), .v (.string x0.Text), .lst b1 x0.Gaps.length (encL en_str x0.Gaps), .lst b2 x0.Kids.length (encL en_Node x0.Kids)])] = some (.p (.lst false r.length (encL en_Row r)), none) :=
  callD_fun (args := [.agg [.v (.int .i64 x0.Kind), .v (.string x0.Text), .lst b1 x0.Gaps.length (encL en_str x0.Gaps), .lst b2 x0.Kids.length (encL en_Node x0.Kids)]]) rfl rfl rfl (by simp only [List.map_cons, List.map_nil, wk, wks, wkL]; exact f26_ok x0 _ h)
def ls35 := And.intro @faI_39_0 (And.intro @faI_39_1 (@idxL_26))
noncomputable def L35_0 : Code := (loopsOf (bodyOf Try.f35)).getD 0 .skip
def g35_0 : List Ghost := [.weak [0], .keep [0, 1, 2, 7]]
def F35_0 (s0 : (List Pair)) (s1 : Int) (s2 : Bool) : Int → St := fun s7 => ⟨[.p (.lst false s0.length (encL en_Pair s0)), iv s1, bv s2, .junk, .junk, .junk, .junk, iv s7, .junk, .junk, .junk, .junk, .junk, .junk, .junk, .junk, .junk, .junk, .junk, .junk, .junk, .junk, .junk, .junk, .junk, .junk, .junk, .junk, .junk, .junk, .junk, .junk, .junk, .junk, .junk, .junk, .junk], [], 0⟩
theorem L35_0_ok (s0 : (List Pair)) (s1 : Int) (s2 : Bool) : ∀ s st o, ghostsD g35_0 st = some (F35_0 s0 s1 s2 s) → iter (R22_has_L0 s0 s1 s2) s = some o →
    Wp (evW Try.prog A0 35 (.loop L35_0) st) (OutQ (F35_0 s0 s1 s2) g35_0 (fun n s st => n = 0 ∧ ghostsD [.keep [0, 1, 2, 7]] st = some (F35_0 s0 s1 s2 s)) (fun r st => finishD Try.prog A0 35 Try.f35 st = some (.p (.v (.bool r)), [])) o) := by
 refine Wp.iter ?_
 intro s st o hg h
 generalize s = s7 at hg h
 unfold R22_has_L0 at h
 unfold g35_0 F35_0 at hg ⊢
 (try simp only [] at h hg)
 unfold L35_0 bodyOf Try.f35; simp only [Option.getD_some, loopsOf, List.append_nil, List.nil_append, List.cons_append, List.getD_cons_zero, List.getD_cons_succ]
 by_cases h1 : s7 < (s0.length : Int)
 ·rw [if_pos h1] at h
  have h1' : decide (s7 < (s0.length : Int)) = true := decide_eq_true h1
  by_cases h2 : s2 = true
  ·rw [if_pos h2] at h
   obtain ⟨v3, h4, h⟩ := bsm h
   obtain ⟨h4a, h4b, _⟩ := rd_some h4
   have h5 := ce_39__0 h4
   by_cases h6 : v3.Old = s1
   ·rw [if_pos h6] at h
    have h6' : decide (v3.Old = s1) = true := decide_eq_true h6
    obtain rfl := Option.some.inj h
    simp (maxSteps := 10000000) (implicitDefEqProofs := false) (disch := first | assumption | omega | exact rfl) only [bs, rs35, ls35, Nat.reduceAdd, ↓reduceIte, lenD_lst u26, loadD_iptr a3, hg, ↓h1', h2, h5, ↓h6']
    refine ⟨rfl, ?_⟩
    exact finish_is (ds := [bv true]) (x := .v (.bool true)) (y := .v (.bool true)) (l := []) rfl rfl rfl rfl (by first | rfl | (simp only [wk, wks, wkL]; first | done | rfl))
   ·rw [if_neg h6] at h
    have h6' : decide (v3.Old = s1) = false := decide_eq_false h6
    obtain rfl := Option.some.inj h
    simp (maxSteps := 10000000) (implicitDefEqProofs := false) (disch := first | assumption | omega | exact rfl) only [bs, rs35, ls35, Nat.reduceAdd, ↓reduceIte, lenD_lst u26, loadD_iptr a3, hg, ↓h1', h2, h5, ↓h6']
    exact ⟨rfl, by kernel_rfl⟩
  ·rw [if_neg h2] at h
   replace h2 := Bool.eq_false_iff.2 h2
   obtain ⟨v7, h8, h⟩ := bsm h
   obtain ⟨h8a, h8b, _⟩ := rd_some h8
   have h9 := ce_39__1 h8
   by_cases h10 : v7.New = s1
   ·rw [if_pos h10] at h
    have h10' : decide (v7.New = s1) = true := decide_eq_true h10
    obtain rfl := Option.some.inj h
    simp (maxSteps := 10000000) (implicitDefEqProofs := false) (disch := first | assumption | omega | exact rfl) only [bs, rs35, ls35, Nat.reduceAdd, ↓reduceIte, lenD_lst u26, loadD_iptr a3, hg, ↓h1', h2, h9, ↓h10']
    refine ⟨rfl, ?_⟩
    exact finish_is (ds := [bv true]) (x := .v (.bool true)) (y := .v (.bool true)) (l := []) rfl rfl rfl rfl (by first | rfl | (simp only [wk, wks, wkL]; first | done | rfl))
   ·rw [if_neg h10] at h
    have h10' : decide (v7.New = s1) = false := decide_eq_false h10
    obtain rfl := Option.some.inj h
    simp (maxSteps := 10000000) (implicitDefEqProofs := false) (disch := first | assumption | omega | exact rfl) only [bs, rs35, ls35, Nat.reduceAdd, ↓reduceIte, lenD_lst u26, loadD_iptr a3, hg, ↓h1', h2, h9, ↓h10']
    exact ⟨rfl, by kernel_rfl⟩
 ·rw [if_neg h1] at h
  have h1' : decide (s7 < (s0.length : Int)) = false := decide_eq_false h1
  obtain rfl := Option.some.inj h
  simp (maxSteps := 10000000) (implicitDefEqProofs := false) (disch := first | assumption | omega | exact rfl) only [bs, rs35, ls35, Nat.reduceAdd, ↓reduceIte, lenD_lst u26, loadD_iptr a3, hg, ↓h1']
  exact ⟨rfl, rfl, by kernel_rfl⟩
theorem f35_ok  (x0 : (List Pair)) (x1 : Int) (x2 : Bool) (r : Bool) (h : R22_has x0 x1 x2 = some r) : callW Try.prog A0 35 [.p (.lst false x0.length (encL en_Pair x0)), iv x1, bv x2] [] = some (.p (.v (.bool r)), []) := by
 refine call_ofH (fn := Try.f35) (c := bodyOf Try.f35) rfl rfl (by kernel_rfl) (by kernel_rfl) ?_
 rw [show initS Try.f35 [.p (.lst false x0.length (encL en_Pair x0)), iv x1, bv x2] [] = ⟨.p (.lst false x0.length (encL en_Pair x0)) :: iv x1 :: bv x2 :: List.replicate 34 undefD, [], 0⟩ from by kernel_rfl]
 unfold R22_has at h
 unfold bodyOf Try.f35; simp only [Option.getD_some, loopsOf, List.append_nil, List.nil_append, List.cons_append, List.getD_cons_zero, List.getD_cons_succ]
 simp only [List.replicate]
 obtain ⟨o, h11, h⟩ := bsm h
 simp (maxSteps := 10000000) (implicitDefEqProofs := false) (disch := first | assumption | omega | exact rfl) only [bs, rs35, ls35, Nat.reduceAdd, ↓reduceIte, lenD_lst u26, loadD_iptr a3]
 refine Wp.ctx (fun x => seqW _ _ _ _ (blockW _ (x))) (L35_0_ok x0 x1 x2 (0 : Int) _ o (by kernel_rfl) h11) ?_
 intro e st hq
 cases o with
 | next _ => (first | cases h | (simp at h))
 | jmp n_ s_ =>
  obtain ⟨rfl, rfl, hq⟩ := hq
  generalize s_ = s7_12 at h hq
  unfold F35_0 at hq
  (try simp only [] at h hq)
  obtain rfl := Option.some.inj h
  simp (maxSteps := 10000000) (implicitDefEqProofs := false) (disch := first | assumption | omega | exact rfl) only [bs, rs35, ls35, Nat.reduceAdd, ↓reduceIte, lenD_lst u26, loadD_iptr a3, hq]
  refine ⟨by first | exact .inl trivial | exact .inr trivial | simp, ?_⟩
  exact finish_is (ds := [bv false]) (x := .v (.bool false)) (y := .v (.bool false)) (l := []) rfl rfl rfl rfl (by first | rfl | (simp only [wk, wks, wkL]; first | done | rfl))
 | ret r13 =>
  obtain ⟨rfl, hq⟩ := hq
  obtain rfl := Option.some.inj h
  simp (maxSteps := 10000000) (implicitDefEqProofs := false) (disch := first | assumption | omega | exact rfl) only [bs, rs35, ls35, Nat.reduceAdd, ↓reduceIte, lenD_lst u26, loadD_iptr a3]
  exact ⟨by first | exact .inl trivial | exact .inr trivial | simp, hq⟩
theorem R22_has_call {b1 : Bool} {H : List Ob} {x0 : (List Pair)} {x1 : Int} {x2 : Bool} {r : Bool} (h : R22_has x0 x1 x2 = some r) : callD (callW Try.prog A0) A0 H 35 [.p (.lst b1 x0.length (encL en_Pair x0)), iv x1, bv x2] = some (.p (.v (.bool r)), none) :=
  callD_fun (args := [.lst b1 x0.length (encL en_Pair x0), .v (.int .i64 x1), .v (.bool x2)]) rfl rfl rfl (by simp only [List.map_cons, List.map_nil, wk, wks, wkL]; exact f35_ok x0 x1 x2 _ h)
def ls15 := And.intro @al_39 (And.intro @faI_39_0 (And.intro @faI_58_1 (And.intro @faP_39_0 (And.intro @faP_39_1 (And.intro @idxL_26 (And.intro @idxL_49 (And.intro @sa_2_0_2 (And.intro @shi_26 (And.intro @varld_2_0_0 (And.intro @varld_2_0_1 (@varlv_4_0_4)))))))))))
noncomputable def L15_0 : Code := (loopsOf (bodyOf Try.f15)).getD 0 .skip
def g15_0 : List Ghost := [.weak [2, 7, 8], .keep [2, 7, 8, 9]]
def F15_0 (s2 : (List Pair)) (s7 : (List Row)) (s8 : (List Row)) : Int → St := fun s9 => ⟨[.junk, .junk, .p (.lst false s2.length (encL en_Pair s2)), .junk, .junk, .junk, .junk, .p (.lst false s7.length (encL en_Row s7)), .p (.lst false s8.length (encL en_Row s8)), iv s9, .junk, .junk, .junk, .junk, .junk, .junk, .junk, .junk, .junk, .junk, .junk, .junk, .junk, .junk, .junk, .junk, .junk, .junk, .junk, .junk, .junk, .junk, .junk, .junk, .junk, .junk, .junk, .junk, .junk, .junk, .junk, .junk, .junk, .junk, .junk, .junk, .junk, .junk, .junk, .junk, .junk, .junk, .junk, .junk, .junk, .junk, .junk, .junk, .junk, .junk, .junk, .junk, .junk, .junk, .junk, .junk, .junk, .junk, .junk, .junk, .junk, .junk, .junk, .junk, .junk, .junk, .junk, .junk, .junk, .junk, .junk, .junk, .junk, .junk, .junk, .junk, .junk, .junk, .junk, .junk, .junk, .junk], [], 0⟩
theorem L15_0_ok (s2 : (List Pair)) (s7 : (List Row)) (s8 : (List Row)) : ∀ s st o, ghostsD g15_0 st = some (F15_0 s2 s7 s8 s) → iter (R22_Partial_L0 s2 s7 s8) s = some o →
    Wp (evW Try.prog A0 15 (.loop L15_0) st) (OutQ (F15_0 s2 s7 s8) g15_0 (fun n s st => n = 0 ∧ ghostsD [.keep [2, 7, 8, 9]] st = some (F15_0 s2 s7 s8 s)) (fun r st => finishD Try.prog A0 15 Try.f15 st = some (.p (.v (.bool r)), [])) o) := by
 refine Wp.iter ?_
 intro s st o hg h
 generalize s = s9 at hg h
 unfold R22_Partial_L0 at h
 unfold g15_0 F15_0 at hg ⊢
 (try simp only [] at h hg)
 unfold L15_0 bodyOf Try.f15; simp only [Option.getD_some, loopsOf, List.append_nil, List.nil_append, List.cons_append, List.getD_cons_zero, List.getD_cons_succ]
 by_cases h7 : s9 < (s2.length : Int)
 ·rw [if_pos h7] at h
  have h7' : decide (s9 < (s2.length : Int)) = true := decide_eq_true h7
  obtain ⟨v8, h9, h⟩ := bsm h
  obtain ⟨h9a, h9b, _⟩ := rd_some h9
  have h10 := lk_frz_39 h9
  by_cases h11 : v8.Old < (0 : Int)
  ·rw [if_pos h11] at h
   have h11' : decide (v8.Old < (0 : Int)) = true := decide_eq_true h11
   obtain rfl := Option.some.inj h
   simp (maxSteps := 10000000) (implicitDefEqProofs := false) (disch := first | assumption | omega | exact rfl) only [bs, rs15, ls15, Nat.reduceAdd, ↓reduceIte, binD_neq_bool Try.underlying4, lenD_lst u26, lenD_lst u49, loadD_iagg a39 z39, loadD_iptr a3, loadD_pagg a25 z25, loadD_ptr a3, storeD_agg z39, hg, ↓h7', h10, ↓h11']
   refine ⟨rfl, ?_⟩
   exact finish_is (ds := [bv false]) (x := .v (.bool false)) (y := .v (.bool false)) (l := []) rfl rfl rfl rfl (by first | rfl | (simp only [wk, wks, wkL]; first | done | rfl))
  ·rw [if_neg h11] at h
   have h11' : decide (v8.Old < (0 : Int)) = false := decide_eq_false h11
   by_cases h12 : (s7.length : Int) ≤ v8.Old
   ·rw [if_pos h12] at h
    have h12' : decide ((s7.length : Int) ≤ v8.Old) = true := decide_eq_true h12
    obtain rfl := Option.some.inj h
    simp (maxSteps := 10000000) (implicitDefEqProofs := false) (disch := first | assumption | omega | exact rfl) only [bs, rs15, ls15, Nat.reduceAdd, ↓reduceIte, binD_neq_bool Try.underlying4, lenD_lst u26, lenD_lst u49, loadD_iagg a39 z39, loadD_iptr a3, loadD_pagg a25 z25, loadD_ptr a3, storeD_agg z39, hg, ↓h7', h10, ↓h11', ↓h12']
    refine ⟨rfl, ?_⟩
    exact finish_is (ds := [bv false]) (x := .v (.bool false)) (y := .v (.bool false)) (l := []) rfl rfl rfl rfl (by first | rfl | (simp only [wk, wks, wkL]; first | done | rfl))
   ·rw [if_neg h12] at h
    have h12' : decide ((s7.length : Int) ≤ v8.Old) = false := decide_eq_false h12
    by_cases h13 : v8.New < (0 : Int)
    ·rw [if_pos h13] at h
     have h13' : decide (v8.New < (0 : Int)) = true := decide_eq_true h13
     obtain rfl := Option.some.inj h
     simp (maxSteps := 10000000) (implicitDefEqProofs := false) (disch := first | assumption | omega | exact rfl) only [bs, rs15, ls15, Nat.reduceAdd, ↓reduceIte, binD_neq_bool Try.underlying4, lenD_lst u26, lenD_lst u49, loadD_iagg a39 z39, loadD_iptr a3, loadD_pagg a25 z25, loadD_ptr a3, storeD_agg z39, hg, ↓h7', h10, ↓h11', ↓h12', ↓h13']
     refine ⟨rfl, ?_⟩
     exact finish_is (ds := [bv false]) (x := .v (.bool false)) (y := .v (.bool false)) (l := []) rfl rfl rfl rfl (by first | rfl | (simp only [wk, wks, wkL]; first | done | rfl))
    ·rw [if_neg h13] at h
     have h13' : decide (v8.New < (0 : Int)) = false := decide_eq_false h13
     by_cases h14 : (s8.length : Int) ≤ v8.New
     ·rw [if_pos h14] at h
      have h14' : decide ((s8.length : Int) ≤ v8.New) = true := decide_eq_true h14
      obtain rfl := Option.some.inj h
      simp (maxSteps := 10000000) (implicitDefEqProofs := false) (disch := first | assumption | omega | exact rfl) only [bs, rs15, ls15, Nat.reduceAdd, ↓reduceIte, binD_neq_bool Try.underlying4, lenD_lst u26, lenD_lst u49, loadD_iagg a39 z39, loadD_iptr a3, loadD_pagg a25 z25, loadD_ptr a3, storeD_agg z39, hg, ↓h7', h10, ↓h11', ↓h12', ↓h13', ↓h14']
      refine ⟨rfl, ?_⟩
      exact finish_is (ds := [bv false]) (x := .v (.bool false)) (y := .v (.bool false)) (l := []) rfl rfl rfl rfl (by first | rfl | (simp only [wk, wks, wkL]; first | done | rfl))
     ·rw [if_neg h14] at h
      have h14' : decide ((s8.length : Int) ≤ v8.New) = false := decide_eq_false h14
      by_cases h15 : (0 : Int) < s9
      ·rw [if_pos h15] at h
       have h15' : decide ((0 : Int) < s9) = true := decide_eq_true h15
       obtain ⟨v16, h17, h⟩ := bsm h
       obtain ⟨h17a, h17b, _⟩ := rd_some h17
       have h18 := ce_39__0 h17
       by_cases h19 : v8.Old ≤ v16.Old
       ·rw [if_pos h19] at h
        have h19' : decide (v8.Old ≤ v16.Old) = true := decide_eq_true h19
        obtain rfl := Option.some.inj h
        simp (maxSteps := 10000000) (implicitDefEqProofs := false) (disch := first | assumption | omega | exact rfl) only [bs, rs15, ls15, Nat.reduceAdd, ↓reduceIte, binD_neq_bool Try.underlying4, lenD_lst u26, lenD_lst u49, loadD_iagg a39 z39, loadD_iptr a3, loadD_pagg a25 z25, loadD_ptr a3, storeD_agg z39, hg, ↓h7', h10, ↓h11', ↓h12', ↓h13', ↓h14', ↓h15', h18, ↓h19']
        refine ⟨rfl, ?_⟩
        exact finish_is (ds := [bv false]) (x := .v (.bool false)) (y := .v (.bool false)) (l := []) rfl rfl rfl rfl (by first | rfl | (simp only [wk, wks, wkL]; first | done | rfl))
       ·rw [if_neg h19] at h
        have h19' : decide (v8.Old ≤ v16.Old) = false := decide_eq_false h19
        by_cases hw_ : s9 ≤ (s2.length : Int)
        case neg => rw [if_neg hw_] at h; cases h
        rw [if_pos hw_] at h
        have h20 := hw_
        obtain ⟨r21, h22, h⟩ := bsm h
        have h23 : ∀ H, callD (callW Try.prog A0) A0 H 35 [.p (.lst false (s2.take s9.toNat).length (encL en_Pair (s2.take s9.toNat))), iv v8.New, bv false] = some (.p (.v (.bool r21)), none) := fun H => R22_has_call h22
        by_cases h24 : r21 = true
        ·rw [if_pos h24] at h
         obtain rfl := Option.some.inj h
         simp (maxSteps := 10000000) (implicitDefEqProofs := false) (disch := first | assumption | omega | exact rfl) only [bs, rs15, ls15, Nat.reduceAdd, ↓reduceIte, binD_neq_bool Try.underlying4, lenD_lst u26, lenD_lst u49, loadD_iagg a39 z39, loadD_iptr a3, loadD_pagg a25 z25, loadD_ptr a3, storeD_agg z39, hg, ↓h7', h10, ↓h11', ↓h12', ↓h13', ↓h14', ↓h15', h18, ↓h19', h23, h24]
         refine ⟨rfl, ?_⟩
         exact finish_is (ds := [bv false]) (x := .v (.bool false)) (y := .v (.bool false)) (l := []) rfl rfl rfl rfl (by first | rfl | (simp only [wk, wks, wkL]; first | done | rfl))
        ·rw [if_neg h24] at h
         replace h24 := Bool.eq_false_iff.2 h24
         obtain ⟨v25, h26, h⟩ := bsm h
         obtain ⟨h26a, h26b, _⟩ := rd_some h26
         have h27 := ce_58__1 h26
         obtain ⟨v28, h29, h⟩ := bsm h
         obtain ⟨h29a, h29b, _⟩ := rd_some h29
         have h30 := ce_58__1 h29
         by_cases h31 : v25.Kind = v28.Kind
         ·rw [if_pos h31] at h
          have h31' : decide (v25.Kind = v28.Kind) = true := decide_eq_true h31
          by_cases h32 : (decide (v8.Old = (0 : Int))) = (decide (v8.New = (0 : Int)))
          ·rw [if_pos h32] at h
           have h32' : decide ((decide (v8.Old = (0 : Int))) = (decide (v8.New = (0 : Int)))) = true := decide_eq_true h32
           obtain rfl := Option.some.inj h
           simp (maxSteps := 10000000) (implicitDefEqProofs := false) (disch := first | assumption | omega | exact rfl) only [bs, rs15, ls15, Nat.reduceAdd, ↓reduceIte, binD_neq_bool Try.underlying4, lenD_lst u26, lenD_lst u49, loadD_iagg a39 z39, loadD_iptr a3, loadD_pagg a25 z25, loadD_ptr a3, storeD_agg z39, hg, ↓h7', h10, ↓h11', ↓h12', ↓h13', ↓h14', ↓h15', h18, ↓h19', h23, h24, h27, h30, ↓h31', ↓h32']
           exact ⟨rfl, by kernel_rfl⟩
          ·rw [if_neg h32] at h
           have h32' : decide ((decide (v8.Old = (0 : Int))) = (decide (v8.New = (0 : Int)))) = false := decide_eq_false h32
           obtain rfl := Option.some.inj h
           simp (maxSteps := 10000000) (implicitDefEqProofs := false) (disch := first | assumption | omega | exact rfl) only [bs, rs15, ls15, Nat.reduceAdd, ↓reduceIte, binD_neq_bool Try.underlying4, lenD_lst u26, lenD_lst u49, loadD_iagg a39 z39, loadD_iptr a3, loadD_pagg a25 z25, loadD_ptr a3, storeD_agg z39, hg, ↓h7', h10, ↓h11', ↓h12', ↓h13', ↓h14', ↓h15', h18, ↓h19', h23, h24, h27, h30, ↓h31', ↓h32']
           refine ⟨rfl, ?_⟩
           exact finish_is (ds := [bv false]) (x := .v (.bool false)) (y := .v (.bool false)) (l := []) rfl rfl rfl rfl (by first | rfl | (simp only [wk, wks, wkL]; first | done | rfl))
         ·rw [if_neg h31] at h
          have h31' : decide (v25.Kind = v28.Kind) = false := decide_eq_false h31
          obtain rfl := Option.some.inj h
          simp (maxSteps := 10000000) (implicitDefEqProofs := false) (disch := first | assumption | omega | exact rfl) only [bs, rs15, ls15, Nat.reduceAdd, ↓reduceIte, binD_neq_bool Try.underlying4, lenD_lst u26, lenD_lst u49, loadD_iagg a39 z39, loadD_iptr a3, loadD_pagg a25 z25, loadD_ptr a3, storeD_agg z39, hg, ↓h7', h10, ↓h11', ↓h12', ↓h13', ↓h14', ↓h15', h18, ↓h19', h23, h24, h27, h30, ↓h31']
          refine ⟨rfl, ?_⟩
          exact finish_is (ds := [bv false]) (x := .v (.bool false)) (y := .v (.bool false)) (l := []) rfl rfl rfl rfl (by first | rfl | (simp only [wk, wks, wkL]; first | done | rfl))
      ·rw [if_neg h15] at h
       have h15' : decide ((0 : Int) < s9) = false := decide_eq_false h15
       by_cases hw_ : s9 ≤ (s2.length : Int)
       case neg => rw [if_neg hw_] at h; cases h
       rw [if_pos hw_] at h
       have h33 := hw_
       obtain ⟨r34, h35, h⟩ := bsm h
       have h36 : ∀ H, callD (callW Try.prog A0) A0 H 35 [.p (.lst false (s2.take s9.toNat).length (encL en_Pair (s2.take s9.toNat))), iv v8.New, bv false] = some (.p (.v (.bool r34)), none) := fun H => R22_has_call h35
       by_cases h37 : r34 = true
       ·rw [if_pos h37] at h
        obtain rfl := Option.some.inj h
        simp (maxSteps := 10000000) (implicitDefEqProofs := false) (disch := first | assumption | omega | exact rfl) only [bs, rs15, ls15, Nat.reduceAdd, ↓reduceIte, binD_neq_bool Try.underlying4, lenD_lst u26, lenD_lst u49, loadD_iagg a39 z39, loadD_iptr a3, loadD_pagg a25 z25, loadD_ptr a3, storeD_agg z39, hg, ↓h7', h10, ↓h11', ↓h12', ↓h13', ↓h14', ↓h15', h36, h37]
        refine ⟨rfl, ?_⟩
        exact finish_is (ds := [bv false]) (x := .v (.bool false)) (y := .v (.bool false)) (l := []) rfl rfl rfl rfl (by first | rfl | (simp only [wk, wks, wkL]; first | done | rfl))
       ·rw [if_neg h37] at h
        replace h37 := Bool.eq_false_iff.2 h37
        obtain ⟨v38, h39, h⟩ := bsm h
        obtain ⟨h39a, h39b, _⟩ := rd_some h39
        have h40 := ce_58__1 h39
        obtain ⟨v41, h42, h⟩ := bsm h
        obtain ⟨h42a, h42b, _⟩ := rd_some h42
        have h43 := ce_58__1 h42
        by_cases h44 : v38.Kind = v41.Kind
        ·rw [if_pos h44] at h
         have h44' : decide (v38.Kind = v41.Kind) = true := decide_eq_true h44
         by_cases h45 : (decide (v8.Old = (0 : Int))) = (decide (v8.New = (0 : Int)))
         ·rw [if_pos h45] at h
          have h45' : decide ((decide (v8.Old = (0 : Int))) = (decide (v8.New = (0 : Int)))) = true := decide_eq_true h45
          obtain rfl := Option.some.inj h
          simp (maxSteps := 10000000) (implicitDefEqProofs := false) (disch := first | assumption | omega | exact rfl) only [bs, rs15, ls15, Nat.reduceAdd, ↓reduceIte, binD_neq_bool Try.underlying4, lenD_lst u26, lenD_lst u49, loadD_iagg a39 z39, loadD_iptr a3, loadD_pagg a25 z25, loadD_ptr a3, storeD_agg z39, hg, ↓h7', h10, ↓h11', ↓h12', ↓h13', ↓h14', ↓h15', h36, h37, h40, h43, ↓h44', ↓h45']
          exact ⟨rfl, by kernel_rfl⟩
         ·rw [if_neg h45] at h
          have h45' : decide ((decide (v8.Old = (0 : Int))) = (decide (v8.New = (0 : Int)))) = false := decide_eq_false h45
          obtain rfl := Option.some.inj h
          simp (maxSteps := 10000000) (implicitDefEqProofs := false) (disch := first | assumption | omega | exact rfl) only [bs, rs15, ls15, Nat.reduceAdd, ↓reduceIte, binD_neq_bool Try.underlying4, lenD_lst u26, lenD_lst u49, loadD_iagg a39 z39, loadD_iptr a3, loadD_pagg a25 z25, loadD_ptr a3, storeD_agg z39, hg, ↓h7', h10, ↓h11', ↓h12', ↓h13', ↓h14', ↓h15', h36, h37, h40, h43, ↓h44', ↓h45']
          refine ⟨rfl, ?_⟩
          exact finish_is (ds := [bv false]) (x := .v (.bool false)) (y := .v (.bool false)) (l := []) rfl rfl rfl rfl (by first | rfl | (simp only [wk, wks, wkL]; first | done | rfl))
        ·rw [if_neg h44] at h
         have h44' : decide (v38.Kind = v41.Kind) = false := decide_eq_false h44
         obtain rfl := Option.some.inj h
         simp (maxSteps := 10000000) (implicitDefEqProofs := false) (disch := first | assumption | omega | exact rfl) only [bs, rs15, ls15, Nat.reduceAdd, ↓reduceIte, binD_neq_bool Try.underlying4, lenD_lst u26, lenD_lst u49, loadD_iagg a39 z39, loadD_iptr a3, loadD_pagg a25 z25, loadD_ptr a3, storeD_agg z39, hg, ↓h7', h10, ↓h11', ↓h12', ↓h13', ↓h14', ↓h15', h36, h37, h40, h43, ↓h44']
         refine ⟨rfl, ?_⟩
         exact finish_is (ds := [bv false]) (x := .v (.bool false)) (y := .v (.bool false)) (l := []) rfl rfl rfl rfl (by first | rfl | (simp only [wk, wks, wkL]; first | done | rfl))
 ·rw [if_neg h7] at h
  have h7' : decide (s9 < (s2.length : Int)) = false := decide_eq_false h7
  obtain rfl := Option.some.inj h
  simp (maxSteps := 10000000) (implicitDefEqProofs := false) (disch := first | assumption | omega | exact rfl) only [bs, rs15, ls15, Nat.reduceAdd, ↓reduceIte, binD_neq_bool Try.underlying4, lenD_lst u26, lenD_lst u49, loadD_iagg a39 z39, loadD_iptr a3, loadD_pagg a25 z25, loadD_ptr a3, storeD_agg z39, hg, ↓h7']
  exact ⟨rfl, rfl, by kernel_rfl⟩
theorem f15_ok  (x0 : Node) (x1 : Node) (x2 : (List Pair)) (r : Bool) (h : R22_Partial x0 x1 x2 = some r) : callW Try.prog A0 15 [.p (.agg [.v (.int .i64 x0.Kind), .v (.string x0.Text), .lst false x0.Gaps.length (encL en_str x0.Gaps), .lst false x0.Kids.length (encL en_Node x0.Kids)]), .p (.agg [.v (.int .i64 x1.Kind), .v (.string x1.Text), .lst false x1.Gaps.length (encL en_str x1.Gaps), .lst false x1.Kids.length (encL en_Node x1.Kids)]), .p (.lst false x2.length (encL en_Pair x2))] [] = some (.p (.v (.bool r)), []) := by
 refine call_ofH (fn := Try.f15) (c := bodyOf Try.f15) rfl rfl (by kernel_rfl) (by kernel_rfl) ?_
 rw [show initS Try.f15 [.p (.agg [.v (.int .i64 x0.Kind), .v (.string x0.Text), .lst false x0.Gaps.length (encL en_str x0.Gaps), .lst false x0.Kids.length (encL en_Node x0.Kids)]), .p (.agg [.v (.int .i64 x1.Kind), .v (.string x1.Text), .lst false x1.Gaps.length (encL en_str x1.Gaps), .lst false x1.Kids.length (encL en_Node x1.Kids)]), .p (.lst false x2.length (encL en_Pair x2))] [] = ⟨.p (.agg [.v (.int .i64 x0.Kind), .v (.string x0.Text), .lst false x0.Gaps.length (encL en_str x0.Gaps), .lst false x0.Kids.length (encL en_Node x0.Kids)]) :: .p (.agg [.v (.int .i64 x1.Kind), .v (.string x1.Text), .lst false x1.Gaps.length (encL en_str x1.Gaps), .lst false x1.Kids.length (encL en_Node x1.Kids)]) :: .p (.lst false x2.length (encL en_Pair x2)) :: List.replicate 89 undefD, [], 0⟩ from by kernel_rfl]
 unfold R22_Partial at h
 unfold bodyOf Try.f15; simp only [Option.getD_some, loopsOf, List.append_nil, List.nil_append, List.cons_append, List.getD_cons_zero, List.getD_cons_succ]
 simp only [List.replicate]
 obtain ⟨r1, h2, h⟩ := bsm h
 have h3 : ∀ H, callD (callW Try.prog A0) A0 H 26 [.p (.agg [.v (.int .i64 x0.Kind), .v (.string x0.Text), .lst false x0.Gaps.length (encL en_str x0.Gaps), .lst false x0.Kids.length (encL en_Node x0.Kids)])] = some (.p (.lst false r1.length (encL en_Row r1)), none) := fun H => R06_Rows_call h2
 obtain ⟨r4, h5, h⟩ := bsm h
 have h6 : ∀ H, callD (callW Try.prog A0) A0 H 26 [.p (.agg [.v (.int .i64 x1.Kind), .v (.string x1.Text), .lst false x1.Gaps.length (encL en_str x1.Gaps), .lst false x1.Kids.length (encL en_Node x1.Kids)])] = some (.p (.lst false r4.length (encL en_Row r4)), none) := fun H => R06_Rows_call h5
 obtain ⟨o, h46, h⟩ := bsm h
 simp (maxSteps := 10000000) (implicitDefEqProofs := false) (disch := first | assumption | omega | exact rfl) only [bs, rs15, ls15, Nat.reduceAdd, ↓reduceIte, binD_neq_bool Try.underlying4, lenD_lst u26, lenD_lst u49, loadD_iagg a39 z39, loadD_iptr a3, loadD_pagg a25 z25, loadD_ptr a3, storeD_agg z39, h3, h6]
 refine Wp.ctx (fun x => seqW _ _ _ _ (blockW _ (x))) (L15_0_ok x2 r1 r4 (0 : Int) _ o (by kernel_rfl) h46) ?_
 intro e st hq
 cases o with
 | next _ => (first | cases h | (simp at h))
 | jmp n_ s_ =>
  obtain ⟨rfl, rfl, hq⟩ := hq
  generalize s_ = s9_47 at h hq
  unfold F15_0 at hq
  (try simp only [] at h hq)
  obtain rfl := Option.some.inj h
  simp (maxSteps := 10000000) (implicitDefEqProofs := false) (disch := first | assumption | omega | exact rfl) only [bs, rs15, ls15, Nat.reduceAdd, ↓reduceIte, binD_neq_bool Try.underlying4, lenD_lst u26, lenD_lst u49, loadD_iagg a39 z39, loadD_iptr a3, loadD_pagg a25 z25, loadD_ptr a3, storeD_agg z39, h3, h6, hq]
  refine ⟨by first | exact .inl trivial | exact .inr trivial | simp, ?_⟩
  exact finish_is (ds := [bv true]) (x := .v (.bool true)) (y := .v (.bool true)) (l := []) rfl rfl rfl rfl (by first | rfl | (simp only [wk, wks, wkL]; first | done | rfl))
 | ret r48 =>
  obtain ⟨rfl, hq⟩ := hq
  obtain rfl := Option.some.inj h
  simp (maxSteps := 10000000) (implicitDefEqProofs := false) (disch := first | assumption | omega | exact rfl) only [bs, rs15, ls15, Nat.reduceAdd, ↓reduceIte, binD_neq_bool Try.underlying4, lenD_lst u26, lenD_lst u49, loadD_iagg a39 z39, loadD_iptr a3, loadD_pagg a25 z25, loadD_ptr a3, storeD_agg z39]
  exact ⟨by first | exact .inl trivial | exact .inr trivial | simp, hq⟩
theorem R22_Partial_call {b1 b2 b3 b4 b5 : Bool} {H : List Ob} {x0 : Node} {x1 : Node} {x2 : (List Pair)} {r : Bool} (h : R22_Partial x0 x1 x2 = some r) : callD (callW Try.prog A0) A0 H 15 [.p (.agg [.v (.int .i64 x0.Kind), .v (.string x0.Text), .lst b1 x0.Gaps.length (encL en_str x0.Gaps), .lst b2 x0.Kids.length (encL en_Node x0.Kids)]), .p (.agg [.v (.int .i64 x1.Kind), .v (.string x1.Text), .lst b3 x1.Gaps.length (encL en_str x1.Gaps), .lst b4 x1.Kids.length (encL en_Node x1.Kids)]), .p (.lst b5 x2.length (encL en_Pair x2))] = some (.p (.v (.bool r)), none) :=
  callD_fun (args := [.agg [.v (.int .i64 x0.Kind), .v (.string x0.Text), .lst b1 x0.Gaps.length (encL en_str x0.Gaps), .lst b2 x0.Kids.length (encL en_Node x0.Kids)], .agg [.v (.int .i64 x1.Kind), .v (.string x1.Text), .lst b3 x1.Gaps.length (encL en_str x1.Gaps), .lst b4 x1.Kids.length (encL en_Node x1.Kids)], .lst b5 x2.length (encL en_Pair x2)]) rfl rfl rfl (by simp only [List.map_cons, List.map_nil, wk, wks, wkL]; exact f15_ok x0 x1 x2 _ h)
def ls16 := And.intro @eql_39 (And.intro @idxL_26 (@varlv_2_0_2))
noncomputable def L16_0 : Code := (loopsOf (bodyOf Try.f16)).getD 0 .skip
def g16_0 : List Ghost := [.weak [0], .keep [0, 3, 5]]
def F16_0 (s0 : (List Pair)) (w0_0 : Int) (w0_1 : Int) : Int → St := fun s5 => ⟨[.p (.lst false s0.length (encL en_Pair s0)), .junk, .junk, .ptr 0 0, .junk, iv s5, .junk, .junk, .junk, .junk, .junk, .junk, .junk, .junk, .junk, .junk, .junk, .junk], [.var [iv w0_0, iv w0_1]], 0⟩
theorem L16_0_ok (s0 : (List Pair)) (w0_0 : Int) (w0_1 : Int) : ∀ s st o, ghostsD g16_0 st = some (F16_0 s0 w0_0 w0_1 s) → iter (law22_has_L0 s0 w0_0 w0_1) s = some o →
    Wp (evW Try.prog A0 16 (.loop L16_0) st) (OutQ (F16_0 s0 w0_0 w0_1) g16_0 (fun n s st => n = 0 ∧ ghostsD [.keep [0, 3, 5]] st = some (F16_0 s0 w0_0 w0_1 s)) (fun r st => finishD Try.prog A0 16 Try.f16 st = some (.p (.v (.bool r)), [])) o) := by
 refine Wp.iter ?_
 intro s st o hg h
 generalize s = s5 at hg h
 unfold law22_has_L0 at h
 unfold g16_0 F16_0 at hg ⊢
 (try simp only [] at h hg)
 unfold L16_0 bodyOf Try.f16; simp only [Option.getD_some, loopsOf, List.append_nil, List.nil_append, List.cons_append, List.getD_cons_zero, List.getD_cons_succ]
 by_cases h1 : s5 < (s0.length : Int)
 ·rw [if_pos h1] at h
  have h1' : decide (s5 < (s0.length : Int)) = true := decide_eq_true h1
  obtain ⟨v2, h3, h⟩ := bsm h
  obtain ⟨h3a, h3b, _⟩ := rd_some h3
  have h4 := lk_frz_39 h3
  by_cases h5 : v2.Old = w0_0 ∧ v2.New = w0_1
  ·rw [if_pos h5] at h
   have h5' : decide (v2.Old = w0_0 ∧ v2.New = w0_1) = true := decide_eq_true h5
   obtain rfl := Option.some.inj h
   simp (maxSteps := 10000000) (implicitDefEqProofs := false) (disch := first | assumption | omega | exact rfl) only [bs, rs16, ls16, Nat.reduceAdd, ↓reduceIte, lenD_lst u26, loadD_iagg a39 z39, loadD_pagg a39 z39, hg, ↓h1', h4, ↓h5']
   refine ⟨rfl, ?_⟩
   exact finish_is (ds := [bv true]) (x := .v (.bool true)) (y := .v (.bool true)) (l := []) rfl rfl rfl rfl (by first | rfl | (simp only [wk, wks, wkL]; first | done | rfl))
  ·rw [if_neg h5] at h
   have h5' : decide (v2.Old = w0_0 ∧ v2.New = w0_1) = false := decide_eq_false h5
   obtain rfl := Option.some.inj h
   simp (maxSteps := 10000000) (implicitDefEqProofs := false) (disch := first | assumption | omega | exact rfl) only [bs, rs16, ls16, Nat.reduceAdd, ↓reduceIte, lenD_lst u26, loadD_iagg a39 z39, loadD_pagg a39 z39, hg, ↓h1', h4, ↓h5']
   exact ⟨rfl, by kernel_rfl⟩
 ·rw [if_neg h1] at h
  have h1' : decide (s5 < (s0.length : Int)) = false := decide_eq_false h1
  obtain rfl := Option.some.inj h
  simp (maxSteps := 10000000) (implicitDefEqProofs := false) (disch := first | assumption | omega | exact rfl) only [bs, rs16, ls16, Nat.reduceAdd, ↓reduceIte, lenD_lst u26, loadD_iagg a39 z39, loadD_pagg a39 z39, hg, ↓h1']
  exact ⟨rfl, rfl, by kernel_rfl⟩
theorem f16_ok  (x0 : (List Pair)) (x1 : Pair) (r : Bool) (h : law22_has x0 x1 = some r) : callW Try.prog A0 16 [.p (.lst false x0.length (encL en_Pair x0)), .p (.agg [.v (.int .i64 x1.Old), .v (.int .i64 x1.New)])] [] = some (.p (.v (.bool r)), []) := by
 refine call_ofH (fn := Try.f16) (c := bodyOf Try.f16) rfl rfl (by kernel_rfl) (by kernel_rfl) ?_
 rw [show initS Try.f16 [.p (.lst false x0.length (encL en_Pair x0)), .p (.agg [.v (.int .i64 x1.Old), .v (.int .i64 x1.New)])] [] = ⟨.p (.lst false x0.length (encL en_Pair x0)) :: .p (.agg [.v (.int .i64 x1.Old), .v (.int .i64 x1.New)]) :: List.replicate 16 undefD, [], 0⟩ from by kernel_rfl]
 unfold law22_has at h
 unfold bodyOf Try.f16; simp only [Option.getD_some, loopsOf, List.append_nil, List.nil_append, List.cons_append, List.getD_cons_zero, List.getD_cons_succ]
 simp only [List.replicate]
 obtain ⟨o, h6, h⟩ := bsm h
 simp (maxSteps := 10000000) (implicitDefEqProofs := false) (disch := first | assumption | omega | exact rfl) only [bs, rs16, ls16, Nat.reduceAdd, ↓reduceIte, lenD_lst u26, loadD_iagg a39 z39, loadD_pagg a39 z39]
 refine Wp.ctx (fun x => seqW _ _ _ _ (blockW _ (x))) (L16_0_ok x0 x1.Old x1.New (0 : Int) _ o (by kernel_rfl) h6) ?_
 intro e st hq
 cases o with
 | next _ => (first | cases h | (simp at h))
 | jmp n_ s_ =>
  obtain ⟨rfl, rfl, hq⟩ := hq
  generalize s_ = s5_7 at h hq
  unfold F16_0 at hq
  (try simp only [] at h hq)
  obtain rfl := Option.some.inj h
  simp (maxSteps := 10000000) (implicitDefEqProofs := false) (disch := first | assumption | omega | exact rfl) only [bs, rs16, ls16, Nat.reduceAdd, ↓reduceIte, lenD_lst u26, loadD_iagg a39 z39, loadD_pagg a39 z39, hq]
  refine ⟨by first | exact .inl trivial | exact .inr trivial | simp, ?_⟩
  exact finish_is (ds := [bv false]) (x := .v (.bool false)) (y := .v (.bool false)) (l := []) rfl rfl rfl rfl (by first | rfl | (simp only [wk, wks, wkL]; first | done | rfl))
 | ret r8 =>
  obtain ⟨rfl, hq⟩ := hq
  obtain rfl := Option.some.inj h
  simp (maxSteps := 10000000) (implicitDefEqProofs := false) (disch := first | assumption | omega | exact rfl) only [bs, rs16, ls16, Nat.reduceAdd, ↓reduceIte, lenD_lst u26, loadD_iagg a39 z39, loadD_pagg a39 z39]
  exact ⟨by first | exact .inl trivial | exact .inr trivial | simp, hq⟩
theorem law22_has_call {b1 : Bool} {H : List Ob} {x0 : (List Pair)} {x1 : Pair} {r : Bool} (h : law22_has x0 x1 = some r) : callD (callW Try.prog A0) A0 H 16 [.p (.lst b1 x0.length (encL en_Pair x0)), .p (.agg [.v (.int .i64 x1.Old), .v (.int .i64 x1.New)])] = some (.p (.v (.bool r)), none) :=
  callD_fun (args := [.lst b1 x0.length (encL en_Pair x0), .agg [.v (.int .i64 x1.Old), .v (.int .i64 x1.New)]]) rfl rfl rfl (by simp only [List.map_cons, List.map_nil, wk, wks, wkL]; exact f16_ok x0 x1 _ h)
def ls40 := And.intro @al_25 (And.intro @bu_25_ (And.intro @ex_3_0 (And.intro @ex_3_1 (And.intro @ex_3_2 (And.intro @faP_25_3 (And.intro @idxL_23 (And.intro @sa_4_0_4 (And.intro @varld_4_0_3 (@varlv_4_0_4)))))))))
theorem tree_locate_rcall {rec : Node → Int → Option (Node × Int × Bool)} (hrec : ∀ x0 x1 r, rec x0 x1 = some r → callW Try.prog A0 40 [.p (.agg [.v (.int .i64 x0.Kind), .v (.string x0.Text), .lst false x0.Gaps.length (encL en_str x0.Gaps), .lst false x0.Kids.length (encL en_Node x0.Kids)]), iv x1] [] = some (.p (.tup [.agg [.v (.int .i64 r.1.Kind), .v (.string r.1.Text), .lst false r.1.Gaps.length (encL en_str r.1.Gaps), .lst false r.1.Kids.length (encL en_Node r.1.Kids)], .v (.int .i64 r.2.1), .v (.bool r.2.2)]), [])) {b1 b2 : Bool} {H : List Ob} {x0 : Node} {x1 : Int} {r : (Node × Int × Bool)} (h : rec x0 x1 = some r) : callD (callW Try.prog A0) A0 H 40 [.p (.agg [.v (.int .i64 x0.Kind), .v (.string x0.Text), .lst b1 x0.Gaps.length (encL en_str x0.Gaps), .lst b2 x0.Kids.length (encL en_Node x0.Kids)]), iv x1] = some (.p (.tup [.agg [.v (.int .i64 r.1.Kind), .v (.string r.1.Text), .lst false r.1.Gaps.length (encL en_str r.1.Gaps), .lst false r.1.Kids.length (encL en_Node r.1.Kids)], .v (.int .i64 r.2.1), .v (.bool r.2.2)]), none) :=
  callD_fun (args := [.agg [.v (.int .i64 x0.Kind), .v (.string x0.Text), .lst b1 x0.Gaps.length (encL en_str x0.Gaps), .lst b2 x0.Kids.length (encL en_Node x0.Kids)], .v (.int .i64 x1)]) rfl rfl rfl (by simp only [List.map_cons, List.map_nil, wk, wks, wkL]; exact hrec x0 x1 _ h)
noncomputable def L40_0 : Code := (loopsOf (bodyOf Try.f40)).getD 0 .skip
def g40_0 : List Ghost := [.weak [17], .keep [1, 4, 7, 17, 18, 19]]
def F40_0 (s1 : Int) (s17 : (List Node)) (s18 : Int) (w0_0 : Int) (w0_1 : ByteArray) : (Int × Int) → St := fun (s7, s19) => ⟨[.junk, iv s1, .junk, .junk, .ptr 0 0, .junk, .junk, iv s7, .junk, .junk, .junk, .junk, .junk, .junk, .junk, .junk, .junk, .p (.lst false s17.length (encL en_Node s17)), iv s18, iv s19, .junk, .junk, .junk, .junk, .junk, .junk, .junk, .junk, .junk, .junk, .junk, .junk, .junk, .junk, .junk, .junk, .junk, .junk, .junk, .junk], [.var [iv w0_0, .p (.v (.string w0_1)), .p (.lst true 0 []), .p (.lst true 0 [])]], 0⟩
theorem L40_0_ok {rec : Node → Int → Option (Node × Int × Bool)} (hrec : ∀ x0 x1 r, rec x0 x1 = some r → callW Try.prog A0 40 [.p (.agg [.v (.int .i64 x0.Kind), .v (.string x0.Text), .lst false x0.Gaps.length (encL en_str x0.Gaps), .lst false x0.Kids.length (encL en_Node x0.Kids)]), iv x1] [] = some (.p (.tup [.agg [.v (.int .i64 r.1.Kind), .v (.string r.1.Text), .lst false r.1.Gaps.length (encL en_str r.1.Gaps), .lst false r.1.Kids.length (encL en_Node r.1.Kids)], .v (.int .i64 r.2.1), .v (.bool r.2.2)]), [])) (s1 : Int) (s17 : (List Node)) (s18 : Int) (w0_0 : Int) (w0_1 : ByteArray) : ∀ s st o, ghostsD g40_0 st = some (F40_0 s1 s17 s18 w0_0 w0_1 s) → iter (tree_locate_L0 rec s1 s17 s18 w0_0 w0_1) s = some o →
    Wp (evW Try.prog A0 40 (.loop L40_0) st) (OutQ (F40_0 s1 s17 s18 w0_0 w0_1) g40_0 (fun n s st => n = 0 ∧ ghostsD [.keep [1, 4, 7, 17, 18, 19]] st = some (F40_0 s1 s17 s18 w0_0 w0_1 s)) (fun r st => finishD Try.prog A0 40 Try.f40 st = some (.p (.tup [.agg [.v (.int .i64 r.1.Kind), .v (.string r.1.Text), .lst false r.1.Gaps.length (encL en_str r.1.Gaps), .lst false r.1.Kids.length (encL en_Node r.1.Kids)], .v (.int .i64 r.2.1), .v (.bool r.2.2)]), [])) o) := by
 refine Wp.iter ?_
 intro s st o hg h
 obtain ⟨s7, s19⟩ := s
 unfold tree_locate_L0 at h
 unfold g40_0 F40_0 at hg ⊢
 (try simp only [] at h hg)
 unfold L40_0 bodyOf Try.f40; simp only [Option.getD_some, loopsOf, List.append_nil, List.nil_append, List.cons_append, List.getD_cons_zero, List.getD_cons_succ]
 by_cases h2 : s19 < s18
 ·rw [if_pos h2] at h
  have h2' : decide (s19 < s18) = true := decide_eq_true h2
  obtain ⟨v3, h4, h⟩ := bsm h
  obtain ⟨h4a, h4b, _⟩ := rd_some h4
  have h5 := lk_frz_25 h4
  obtain ⟨r6, h7, h⟩ := bsm h
  have h8 : ∀ H, callD (callW Try.prog A0) A0 H 40 [.p (.agg [.v (.int .i64 v3.Kind), .v (.string v3.Text), .lst false v3.Gaps.length (encL en_str v3.Gaps), .lst false v3.Kids.length (encL en_Node v3.Kids)]), iv (w64 (s1 - s7))] = some (.p (.tup [.agg [.v (.int .i64 r6.1.Kind), .v (.string r6.1.Text), .lst false r6.1.Gaps.length (encL en_str r6.1.Gaps), .lst false r6.1.Kids.length (encL en_Node r6.1.Kids)], .v (.int .i64 r6.2.1), .v (.bool r6.2.2)]), none) := fun H => tree_locate_rcall hrec h7
  by_cases h9 : r6.2.2 = true
  ·rw [if_pos h9] at h
   obtain rfl := Option.some.inj h
   simp (maxSteps := 10000000) (implicitDefEqProofs := false) (disch := first | assumption | omega | exact rfl) only [bs, rs40, ls40, Nat.reduceAdd, ↓reduceIte, lenD_lst u23, loadD_iagg a25 z25, loadD_pagg a25 z25, loadD_ptr a23, storeD_agg z25, hg, ↓h2', h5, h8, h9]
   refine ⟨rfl, ?_⟩
   exact finish_is (ds := [.p (.agg [.v (.int .i64 r6.1.Kind), .v (.string r6.1.Text), .lst false r6.1.Gaps.length (encL en_str r6.1.Gaps), .lst false r6.1.Kids.length (encL en_Node r6.1.Kids)]), iv (0 : Int), bv true]) (x := .tup [.agg [.v (.int .i64 r6.1.Kind), .v (.string r6.1.Text), .lst false r6.1.Gaps.length (encL en_str r6.1.Gaps), .lst false r6.1.Kids.length (encL en_Node r6.1.Kids)], .v (.int .i64 (0 : Int)), .v (.bool true)]) (y := .tup [.agg [.v (.int .i64 r6.1.Kind), .v (.string r6.1.Text), .lst false r6.1.Gaps.length (encL en_str r6.1.Gaps), .lst false r6.1.Kids.length (encL en_Node r6.1.Kids)], .v (.int .i64 (0 : Int)), .v (.bool true)]) (l := []) rfl rfl (by kernel_rfl) rfl (by first | rfl | (simp only [wk, wks, wkL]; first | done | rfl))
  ·rw [if_neg h9] at h
   replace h9 := Bool.eq_false_iff.2 h9
   obtain rfl := Option.some.inj h
   simp (maxSteps := 10000000) (implicitDefEqProofs := false) (disch := first | assumption | omega | exact rfl) only [bs, rs40, ls40, Nat.reduceAdd, ↓reduceIte, lenD_lst u23, loadD_iagg a25 z25, loadD_pagg a25 z25, loadD_ptr a23, storeD_agg z25, hg, ↓h2', h5, h8, h9]
   exact ⟨rfl, by kernel_rfl⟩
 ·rw [if_neg h2] at h
  have h2' : decide (s19 < s18) = false := decide_eq_false h2
  obtain rfl := Option.some.inj h
  simp (maxSteps := 10000000) (implicitDefEqProofs := false) (disch := first | assumption | omega | exact rfl) only [bs, rs40, ls40, Nat.reduceAdd, ↓reduceIte, lenD_lst u23, loadD_iagg a25 z25, loadD_pagg a25 z25, loadD_ptr a23, storeD_agg z25, hg, ↓h2']
  exact ⟨rfl, rfl, by kernel_rfl⟩
theorem f40_ok {rec : Node → Int → Option (Node × Int × Bool)} (hrec : ∀ x0 x1 r, rec x0 x1 = some r → callW Try.prog A0 40 [.p (.agg [.v (.int .i64 x0.Kind), .v (.string x0.Text), .lst false x0.Gaps.length (encL en_str x0.Gaps), .lst false x0.Kids.length (encL en_Node x0.Kids)]), iv x1] [] = some (.p (.tup [.agg [.v (.int .i64 r.1.Kind), .v (.string r.1.Text), .lst false r.1.Gaps.length (encL en_str r.1.Gaps), .lst false r.1.Kids.length (encL en_Node r.1.Kids)], .v (.int .i64 r.2.1), .v (.bool r.2.2)]), []))  (x0 : Node) (x1 : Int) (r : (Node × Int × Bool)) (h : tree_locate.body rec x0 x1 = some r) : callW Try.prog A0 40 [.p (.agg [.v (.int .i64 x0.Kind), .v (.string x0.Text), .lst false x0.Gaps.length (encL en_str x0.Gaps), .lst false x0.Kids.length (encL en_Node x0.Kids)]), iv x1] [] = some (.p (.tup [.agg [.v (.int .i64 r.1.Kind), .v (.string r.1.Text), .lst false r.1.Gaps.length (encL en_str r.1.Gaps), .lst false r.1.Kids.length (encL en_Node r.1.Kids)], .v (.int .i64 r.2.1), .v (.bool r.2.2)]), []) := by
 refine call_ofH (fn := Try.f40) (c := bodyOf Try.f40) rfl rfl (by kernel_rfl) (by kernel_rfl) ?_
 rw [show initS Try.f40 [.p (.agg [.v (.int .i64 x0.Kind), .v (.string x0.Text), .lst false x0.Gaps.length (encL en_str x0.Gaps), .lst false x0.Kids.length (encL en_Node x0.Kids)]), iv x1] [] = ⟨.p (.agg [.v (.int .i64 x0.Kind), .v (.string x0.Text), .lst false x0.Gaps.length (encL en_str x0.Gaps), .lst false x0.Kids.length (encL en_Node x0.Kids)]) :: iv x1 :: List.replicate 38 undefD, [], 0⟩ from by kernel_rfl]
 unfold tree_locate.body at h
 unfold bodyOf Try.f40; simp only [Option.getD_some, loopsOf, List.append_nil, List.nil_append, List.cons_append, List.getD_cons_zero, List.getD_cons_succ]
 simp only [List.replicate]
 by_cases h1 : x1 = (0 : Int)
 ·rw [if_pos h1] at h
  have h1' : decide (x1 = (0 : Int)) = true := decide_eq_true h1
  obtain rfl := Option.some.inj h
  simp (maxSteps := 10000000) (implicitDefEqProofs := false) (disch := first | assumption | omega | exact rfl) only [bs, rs40, ls40, Nat.reduceAdd, ↓reduceIte, lenD_lst u23, loadD_iagg a25 z25, loadD_pagg a25 z25, loadD_ptr a23, storeD_agg z25, ↓h1']
  refine ⟨by first | exact .inl trivial | exact .inr trivial | simp, ?_⟩
  exact finish_is (ds := [.p (.agg [.v (.int .i64 x0.Kind), .v (.string x0.Text), .lst false x0.Gaps.length (encL en_str x0.Gaps), .lst false x0.Kids.length (encL en_Node x0.Kids)]), iv (0 : Int), bv true]) (x := .tup [.agg [.v (.int .i64 x0.Kind), .v (.string x0.Text), .lst false x0.Gaps.length (encL en_str x0.Gaps), .lst false x0.Kids.length (encL en_Node x0.Kids)], .v (.int .i64 (0 : Int)), .v (.bool true)]) (y := .tup [.agg [.v (.int .i64 x0.Kind), .v (.string x0.Text), .lst false x0.Gaps.length (encL en_str x0.Gaps), .lst false x0.Kids.length (encL en_Node x0.Kids)], .v (.int .i64 (0 : Int)), .v (.bool true)]) (l := []) rfl rfl (by kernel_rfl) rfl (by first | rfl | (simp only [wk, wks, wkL]; first | done | rfl))
 ·rw [if_neg h1] at h
  have h1' : decide (x1 = (0 : Int)) = false := decide_eq_false h1
  obtain ⟨o, h10, h⟩ := bsm h
  simp (maxSteps := 10000000) (implicitDefEqProofs := false) (disch := first | assumption | omega | exact rfl) only [bs, rs40, ls40, Nat.reduceAdd, ↓reduceIte, lenD_lst u23, loadD_iagg a25 z25, loadD_pagg a25 z25, loadD_ptr a23, storeD_agg z25, ↓h1']
  refine Wp.ctx (fun x => seqW _ _ _ _ (blockW _ (x))) (L40_0_ok hrec x1 x0.Kids (x0.Kids.length : Int) (0 : Int) ByteArray.empty ((1 : Int), (0 : Int)) _ o (by kernel_rfl) h10) ?_
  intro e st hq
  cases o with
  | next _ => (first | cases h | (simp at h))
  | jmp n_ s_ =>
   obtain ⟨rfl, rfl, hq⟩ := hq
   obtain ⟨s7_11, s19_11⟩ := s_
   unfold F40_0 at hq
   (try simp only [] at h hq)
   obtain rfl := Option.some.inj h
   simp (maxSteps := 10000000) (implicitDefEqProofs := false) (disch := first | assumption | omega | exact rfl) only [bs, rs40, ls40, Nat.reduceAdd, ↓reduceIte, lenD_lst u23, loadD_iagg a25 z25, loadD_pagg a25 z25, loadD_ptr a23, storeD_agg z25, ↓h1', hq]
   refine ⟨by first | exact .inl trivial | exact .inr trivial | simp, ?_⟩
   exact finish_is (ds := [.p (.agg [.v (.int .i64 (0 : Int)), .v (.string ByteArray.empty), .lst true 0 [], .lst true 0 []]), iv s7_11, bv false]) (x := .tup [.agg [.v (.int .i64 (0 : Int)), .v (.string ByteArray.empty), .lst true 0 [], .lst true 0 []], .v (.int .i64 s7_11), .v (.bool false)]) (y := .tup [.agg [.v (.int .i64 (0 : Int)), .v (.string ByteArray.empty), .lst false ([] : List ByteArray).length (encL en_str ([] : List ByteArray)), .lst false ([] : List Node).length (encL en_Node ([] : List Node))], .v (.int .i64 s7_11), .v (.bool false)]) (l := []) rfl rfl (by kernel_rfl) rfl (by first | rfl | (simp only [wk, wks, wkL]; first | done | rfl))
  | ret r12 =>
   obtain ⟨rfl, hq⟩ := hq
   obtain rfl := Option.some.inj h
   simp (maxSteps := 10000000) (implicitDefEqProofs := false) (disch := first | assumption | omega | exact rfl) only [bs, rs40, ls40, Nat.reduceAdd, ↓reduceIte, lenD_lst u23, loadD_iagg a25 z25, loadD_pagg a25 z25, loadD_ptr a23, storeD_agg z25]
   exact ⟨by first | exact .inl trivial | exact .inr trivial | simp, hq⟩
theorem f40_spec : ∀ (x0 : Node) (x1 : Int) r, tree_locateS x0 x1 = some r → callW Try.prog A0 40 [.p (.agg [.v (.int .i64 x0.Kind), .v (.string x0.Text), .lst false x0.Gaps.length (encL en_str x0.Gaps), .lst false x0.Kids.length (encL en_Node x0.Kids)]), iv x1] [] = some (.p (.tup [.agg [.v (.int .i64 r.1.Kind), .v (.string r.1.Text), .lst false r.1.Gaps.length (encL en_str r.1.Gaps), .lst false r.1.Kids.length (encL en_Node r.1.Kids)], .v (.int .i64 r.2.1), .v (.bool r.2.2)]), []) := by
  have key : ∀ n (x0 : Node) (x1 : Int) r, tree_locateS_mu x0 x1 < n → tree_locateS x0 x1 = some r → callW Try.prog A0 40 [.p (.agg [.v (.int .i64 x0.Kind), .v (.string x0.Text), .lst false x0.Gaps.length (encL en_str x0.Gaps), .lst false x0.Kids.length (encL en_Node x0.Kids)]), iv x1] [] = some (.p (.tup [.agg [.v (.int .i64 r.1.Kind), .v (.string r.1.Text), .lst false r.1.Gaps.length (encL en_str r.1.Gaps), .lst false r.1.Kids.length (encL en_Node r.1.Kids)], .v (.int .i64 r.2.1), .v (.bool r.2.2)]), []) := by
    intro n
    induction n with
    | zero => intro x0 x1 r h; omega
    | succ n ih =>
      intro x0 x1 r hn h
      refine f40_ok (rec := fun x0' x1' => if tree_locateS_mu x0' x1' < tree_locateS_mu x0 x1 then tree_locateS x0' x1' else none) ?_ x0 x1 r (tree_locateS_body x0 x1 r h)
      intro x0' x1' r' h'
      by_cases hm : tree_locateS_mu x0' x1' < tree_locateS_mu x0 x1
      · rw [if_pos hm] at h'; exact ih x0' x1' r' (by omega) h'
      · rw [if_neg hm] at h'; cases h'
  intro x0 x1 r h
  exact key _ x0 x1 r (Nat.lt_succ_self _) h
theorem tree_locate_call {b1 b2 : Bool} {H : List Ob} {x0 : Node} {x1 : Int} {r : (Node × Int × Bool)} (h : tree_locateS x0 x1 = some r) : callD (callW Try.prog A0) A0 H 40 [.p (.agg [.v (.int .i64 x0.Kind), .v (.string x0.Text), .lst b1 x0.Gaps.length (encL en_str x0.Gaps), .lst b2 x0.Kids.length (encL en_Node x0.Kids)]), iv x1] = some (.p (.tup [.agg [.v (.int .i64 r.1.Kind), .v (.string r.1.Text), .lst false r.1.Gaps.length (encL en_str r.1.Gaps), .lst false r.1.Kids.length (encL en_Node r.1.Kids)], .v (.int .i64 r.2.1), .v (.bool r.2.2)]), none) :=
  callD_fun (args := [.agg [.v (.int .i64 x0.Kind), .v (.string x0.Text), .lst b1 x0.Gaps.length (encL en_str x0.Gaps), .lst b2 x0.Kids.length (encL en_Node x0.Kids)], .v (.int .i64 x1)]) rfl rfl rfl (by simp only [List.map_cons, List.map_nil, wk, wks, wkL]; exact f40_spec x0 x1 _ h)
def ls41 := And.intro @al_25 (And.intro @ap_23_23 (And.intro @bs_23_1 (And.intro @bu_25_0_1_2 (And.intro @faP_25_0 (And.intro @faP_25_1 (And.intro @faP_25_2 (And.intro @faP_25_3 (And.intro @idxL_23 (And.intro @sa_4_0_4 (And.intro @sg_4_0_3_r (And.intro @sg_4_0_pppr (And.intro @varld_4_0_0 (And.intro @varld_4_0_1 (And.intro @varld_4_0_2 (And.intro @varld_4_0_3 (And.intro @varlg_pppr (@varlv_4_0_4)))))))))))))))))
theorem tree_clone_rcall {rec : Node → Option Node} (hrec : ∀ x0 r, rec x0 = some r → callW Try.prog A0 41 [.p (.agg [.v (.int .i64 x0.Kind), .v (.string x0.Text), .lst false x0.Gaps.length (encL en_str x0.Gaps), .lst false x0.Kids.length (encL en_Node x0.Kids)])] [] = some (.p (.agg [.v (.int .i64 r.Kind), .v (.string r.Text), .lst false r.Gaps.length (encL en_str r.Gaps), .lst false r.Kids.length (encL en_Node r.Kids)]), [])) {b1 b2 : Bool} {H : List Ob} {x0 : Node} {r : Node} (h : rec x0 = some r) : callD (callW Try.prog A0) A0 H 41 [.p (.agg [.v (.int .i64 x0.Kind), .v (.string x0.Text), .lst b1 x0.Gaps.length (encL en_str x0.Gaps), .lst b2 x0.Kids.length (encL en_Node x0.Kids)])] = some (.p (.agg [.v (.int .i64 r.Kind), .v (.string r.Text), .lst false r.Gaps.length (encL en_str r.Gaps), .lst false r.Kids.length (encL en_Node r.Kids)]), none) :=
  callD_fun (args := [.agg [.v (.int .i64 x0.Kind), .v (.string x0.Text), .lst b1 x0.Gaps.length (encL en_str x0.Gaps), .lst b2 x0.Kids.length (encL en_Node x0.Kids)]]) rfl rfl rfl (by simp only [List.map_cons, List.map_nil, wk, wks, wkL]; exact hrec x0 _ h)
noncomputable def L41_0 : Code := (loopsOf (bodyOf Try.f41)).getD 0 .skip
def g41_0 : List Ghost := [.ownC 3 3 4, .weak [15], .keep [2, 3, 15, 16, 17]]
def F41_0 (s15 : (List Node)) (s16 : Int) (w0_0 : Int) (w0_1 : ByteArray) (w1_0 : Int) (w1_1 : ByteArray) (w1_2 : (List ByteArray)) : (Int × (List Node)) → St := fun (s17, y2) => ⟨[.junk, .junk, .ptr 0 0, .ptr 1 0, .junk, .junk, .junk, .junk, .junk, .junk, .junk, .junk, .junk, .junk, .junk, .p (.lst false s15.length (encL en_Node s15)), iv s16, iv s17, .junk, .junk, .junk, .junk, .junk, .junk, .junk, .junk, .junk, .junk, .junk, .junk], [.var [iv w0_0, .p (.v (.string w0_1)), .p (.lst true 0 []), .p (.lst true 0 [])], .var [iv w1_0, .p (.v (.string w1_1)), .p (.lst false w1_2.length (encL en_str w1_2)), .ref 2 0 y2.length 4], .arr (encL en_Node y2)], 0⟩
theorem L41_0_ok {rec : Node → Option Node} (hrec : ∀ x0 r, rec x0 = some r → callW Try.prog A0 41 [.p (.agg [.v (.int .i64 x0.Kind), .v (.string x0.Text), .lst false x0.Gaps.length (encL en_str x0.Gaps), .lst false x0.Kids.length (encL en_Node x0.Kids)])] [] = some (.p (.agg [.v (.int .i64 r.Kind), .v (.string r.Text), .lst false r.Gaps.length (encL en_str r.Gaps), .lst false r.Kids.length (encL en_Node r.Kids)]), [])) (s15 : (List Node)) (s16 : Int) (w0_0 : Int) (w0_1 : ByteArray) (w1_0 : Int) (w1_1 : ByteArray) (w1_2 : (List ByteArray)) : ∀ s st o, ghostsD g41_0 st = some (F41_0 s15 s16 w0_0 w0_1 w1_0 w1_1 w1_2 s) → iter (tree_clone_L0 rec s15 s16 w0_0 w0_1 w1_0 w1_1 w1_2) s = some o →
    Wp (evW Try.prog A0 41 (.loop L41_0) st) (OutQ (F41_0 s15 s16 w0_0 w0_1 w1_0 w1_1 w1_2) g41_0 (fun n s st => n = 0 ∧ ghostsD [.keep [2, 3, 15, 16, 17]] st = some (F41_0 s15 s16 w0_0 w0_1 w1_0 w1_1 w1_2 s)) (fun r st => finishD Try.prog A0 41 Try.f41 st = some (.p (.agg [.v (.int .i64 r.Kind), .v (.string r.Text), .lst false r.Gaps.length (encL en_str r.Gaps), .lst false r.Kids.length (encL en_Node r.Kids)]), [])) o) := by
 refine Wp.iter ?_
 intro s st o hg h
 obtain ⟨s17, y2⟩ := s
 unfold tree_clone_L0 at h
 unfold g41_0 F41_0 at hg ⊢
 (try simp only [] at h hg)
 unfold L41_0 bodyOf Try.f41; simp only [Option.getD_some, loopsOf, List.append_nil, List.nil_append, List.cons_append, List.getD_cons_zero, List.getD_cons_succ]
 by_cases h4 : s17 < s16
 ·rw [if_pos h4] at h
  have h4' : decide (s17 < s16) = true := decide_eq_true h4
  obtain ⟨v5, h6, h⟩ := bsm h
  obtain ⟨h6a, h6b, _⟩ := rd_some h6
  have h7 := lk_frz_25 h6
  obtain ⟨r8, h9, h⟩ := bsm h
  have h10 : ∀ H, callD (callW Try.prog A0) A0 H 41 [.p (.agg [.v (.int .i64 v5.Kind), .v (.string v5.Text), .lst false v5.Gaps.length (encL en_str v5.Gaps), .lst false v5.Kids.length (encL en_Node v5.Kids)])] = some (.p (.agg [.v (.int .i64 r8.Kind), .v (.string r8.Text), .lst false r8.Gaps.length (encL en_str r8.Gaps), .lst false r8.Kids.length (encL en_Node r8.Kids)]), none) := fun H => tree_clone_rcall hrec h9
  by_cases hw_ : (y2.length + 1) * 72 ≤ 140737488355328
  case neg => rw [if_neg hw_] at h; cases h
  rw [if_pos hw_] at h
  have h12 := hw_
  have h11 : ∀ (H : List Ob) (id : Nat), apOb H id 0 y2.length 1 4 4 72 [.v (.int .i64 r8.Kind), .v (.string r8.Text), .lst false r8.Gaps.length (encL en_str r8.Gaps), .lst false r8.Kids.length (encL en_Node r8.Kids)] (some (.arr (encL en_Node y2))) = some (.ref H.length 0 (y2 ++ [r8]).length 4, H.set id .dead ++ [.arr (encL en_Node (y2 ++ [r8]))]) := fun H id => ap_enc (y := [r8]) en_Node_len (by first | rfl | omega) rfl (by first | (simp only [encL_cons, encL_nil, en_Node_eq, List.cons_append, List.nil_append]; done) | (simp only [encL_cons, encL_nil, en_Node_eq, List.cons_append, List.nil_append]; rfl) | rfl) (by assumption)
  obtain rfl := Option.some.inj h
  simp (maxSteps := 10000000) (implicitDefEqProofs := false) (disch := first | assumption | omega | exact rfl | (refine dynT ?_; kernel_rfl)) only [bs, rs41, ls41, Nat.reduceAdd, ↓reduceIte, lenD_lst u23, loadD_iagg a25 z25, loadD_pagg a25 z25, loadD_ptr a22, loadD_ptr a23, loadD_ptr a3, loadD_ptr a9, storeD_agg z25, storeD_gagg z25, storeD_gref z23, wksL_en_Node, wksL_en_str, wks_nil_, hg, ↓h4', h7, h10, h11]
  exact ⟨rfl, by kernel_rfl⟩
 ·rw [if_neg h4] at h
  have h4' : decide (s17 < s16) = false := decide_eq_false h4
  obtain rfl := Option.some.inj h
  simp (maxSteps := 10000000) (implicitDefEqProofs := false) (disch := first | assumption | omega | exact rfl | (refine dynT ?_; kernel_rfl)) only [bs, rs41, ls41, Nat.reduceAdd, ↓reduceIte, lenD_lst u23, loadD_iagg a25 z25, loadD_pagg a25 z25, loadD_ptr a22, loadD_ptr a23, loadD_ptr a3, loadD_ptr a9, storeD_agg z25, storeD_gagg z25, storeD_gref z23, wksL_en_Node, wksL_en_str, wks_nil_, hg, ↓h4']
  exact ⟨rfl, rfl, by kernel_rfl⟩
theorem f41_ok {rec : Node → Option Node} (hrec : ∀ x0 r, rec x0 = some r → callW Try.prog A0 41 [.p (.agg [.v (.int .i64 x0.Kind), .v (.string x0.Text), .lst false x0.Gaps.length (encL en_str x0.Gaps), .lst false x0.Kids.length (encL en_Node x0.Kids)])] [] = some (.p (.agg [.v (.int .i64 r.Kind), .v (.string r.Text), .lst false r.Gaps.length (encL en_str r.Gaps), .lst false r.Kids.length (encL en_Node r.Kids)]), []))  (x0 : Node) (r : Node) (h : tree_clone.body rec x0 = some r) : callW Try.prog A0 41 [.p (.agg [.v (.int .i64 x0.Kind), .v (.string x0.Text), .lst false x0.Gaps.length (encL en_str x0.Gaps), .lst false x0.Kids.length (encL en_Node x0.Kids)])] [] = some (.p (.agg [.v (.int .i64 r.Kind), .v (.string r.Text), .lst false r.Gaps.length (encL en_str r.Gaps), .lst false r.Kids.length (encL en_Node r.Kids)]), []) := by
 refine call_ofH (fn := Try.f41) (c := bodyOf Try.f41) rfl rfl (by kernel_rfl) (by kernel_rfl) ?_
 rw [show initS Try.f41 [.p (.agg [.v (.int .i64 x0.Kind), .v (.string x0.Text), .lst false x0.Gaps.length (encL en_str x0.Gaps), .lst false x0.Kids.length (encL en_Node x0.Kids)])] [] = ⟨.p (.agg [.v (.int .i64 x0.Kind), .v (.string x0.Text), .lst false x0.Gaps.length (encL en_str x0.Gaps), .lst false x0.Kids.length (encL en_Node x0.Kids)]) :: List.replicate 29 undefD, [], 0⟩ from by kernel_rfl]
 unfold tree_clone.body at h
 unfold bodyOf Try.f41; simp only [Option.getD_some, loopsOf, List.append_nil, List.nil_append, List.cons_append, List.getD_cons_zero, List.getD_cons_succ]
 simp only [List.replicate]
 obtain ⟨r1, h2, h⟩ := bsm h
 have h3 : ∀ H, callD (callW Try.prog A0) A0 H 47 [.p (.lst false x0.Gaps.length (encL en_str x0.Gaps))] = some (.p (.lst false r1.length (encL en_str r1)), none) := fun H => tree_texts_call h2
 obtain ⟨o, h13, h⟩ := bsm h
 simp (maxSteps := 10000000) (implicitDefEqProofs := false) (disch := first | assumption | omega | exact rfl | (refine dynT ?_; kernel_rfl)) only [bs, rs41, ls41, Nat.reduceAdd, ↓reduceIte, lenD_lst u23, loadD_iagg a25 z25, loadD_pagg a25 z25, loadD_ptr a22, loadD_ptr a23, loadD_ptr a3, loadD_ptr a9, storeD_agg z25, storeD_gagg z25, storeD_gref z23, wksL_en_Node, wksL_en_str, wks_nil_, h3]
 refine Wp.ctx (fun x => seqW _ _ _ _ (blockW _ (x))) (L41_0_ok hrec x0.Kids (x0.Kids.length : Int) (0 : Int) ByteArray.empty x0.Kind x0.Text r1 ((0 : Int), ([] : List Node)) _ o (by kernel_rfl) h13) ?_
 intro e st hq
 cases o with
 | next _ => (first | cases h | (simp at h))
 | jmp n_ s_ =>
  obtain ⟨rfl, rfl, hq⟩ := hq
  obtain ⟨s17_14, y2_14⟩ := s_
  unfold F41_0 at hq
  (try simp only [] at h hq)
  obtain rfl := Option.some.inj h
  simp (maxSteps := 10000000) (implicitDefEqProofs := false) (disch := first | assumption | omega | exact rfl | (refine dynT ?_; kernel_rfl)) only [bs, rs41, ls41, Nat.reduceAdd, ↓reduceIte, lenD_lst u23, loadD_iagg a25 z25, loadD_pagg a25 z25, loadD_ptr a22, loadD_ptr a23, loadD_ptr a3, loadD_ptr a9, storeD_agg z25, storeD_gagg z25, storeD_gref z23, wksL_en_Node, wksL_en_str, wks_nil_, h3, hq]
  refine ⟨by first | exact .inl trivial | exact .inr trivial | simp, ?_⟩
  exact finish_is (ds := [.agg [iv x0.Kind, .p (.v (.string x0.Text)), .p (.lst false r1.length (encL en_str r1)), .ref 2 0 y2_14.length 4]]) (x := .agg [.v (.int .i64 x0.Kind), .v (.string x0.Text), .lst false r1.length (encL en_str r1), .lst false y2_14.length (encL en_Node y2_14)]) (y := .agg [.v (.int .i64 x0.Kind), .v (.string x0.Text), .lst false r1.length (encL en_str r1), .lst false y2_14.length (encL en_Node y2_14)]) (l := [2]) rfl rfl (by kernel_rfl) (purify1_agg (purifys_pc (purifys_pc (purifys_pc (purifys_rc en_Node_len rfl (by first | rfl | omega) purifys_nil))))) (by first | rfl | (simp only [wk, wks, wkL]; first | done | rfl))
 | ret _ => (first | cases h | (simp at h))
theorem f41_spec : ∀ (x0 : Node) r, tree_cloneS x0 = some r → callW Try.prog A0 41 [.p (.agg [.v (.int .i64 x0.Kind), .v (.string x0.Text), .lst false x0.Gaps.length (encL en_str x0.Gaps), .lst false x0.Kids.length (encL en_Node x0.Kids)])] [] = some (.p (.agg [.v (.int .i64 r.Kind), .v (.string r.Text), .lst false r.Gaps.length (encL en_str r.Gaps), .lst false r.Kids.length (encL en_Node r.Kids)]), []) := by
  have key : ∀ n (x0 : Node) r, tree_cloneS_mu x0 < n → tree_cloneS x0 = some r → callW Try.prog A0 41 [.p (.agg [.v (.int .i64 x0.Kind), .v (.string x0.Text), .lst false x0.Gaps.length (encL en_str x0.Gaps), .lst false x0.Kids.length (encL en_Node x0.Kids)])] [] = some (.p (.agg [.v (.int .i64 r.Kind), .v (.string r.Text), .lst false r.Gaps.length (encL en_str r.Gaps), .lst false r.Kids.length (encL en_Node r.Kids)]), []) := by
    intro n
    induction n with
    | zero => intro x0 r h; omega
    | succ n ih =>
      intro x0 r hn h
      refine f41_ok (rec := fun x0' => if tree_cloneS_mu x0' < tree_cloneS_mu x0 then tree_cloneS x0' else none) ?_ x0 r (tree_cloneS_body x0 r h)
      intro x0' r' h'
      by_cases hm : tree_cloneS_mu x0' < tree_cloneS_mu x0
      · rw [if_pos hm] at h'; exact ih x0' r' (by omega) h'
      · rw [if_neg hm] at h'; cases h'
  intro x0 r h
  exact key _ x0 r (Nat.lt_succ_self _) h
theorem tree_clone_call {b1 b2 : Bool} {H : List Ob} {x0 : Node} {r : Node} (h : tree_cloneS x0 = some r) : callD (callW Try.prog A0) A0 H 41 [.p (.agg [.v (.int .i64 x0.Kind), .v (.string x0.Text), .lst b1 x0.Gaps.length (encL en_str x0.Gaps), .lst b2 x0.Kids.length (encL en_Node x0.Kids)])] = some (.p (.agg [.v (.int .i64 r.Kind), .v (.string r.Text), .lst false r.Gaps.length (encL en_str r.Gaps), .lst false r.Kids.length (encL en_Node r.Kids)]), none) :=
  callD_fun (args := [.agg [.v (.int .i64 x0.Kind), .v (.string x0.Text), .lst b1 x0.Gaps.length (encL en_str x0.Gaps), .lst b2 x0.Kids.length (encL en_Node x0.Kids)]]) rfl rfl rfl (by simp only [List.map_cons, List.map_nil, wk, wks, wkL]; exact f41_spec x0 _ h)
def ls22 := And.intro @al_25 (And.intro @bu_25_ (And.intro @ex_3_0 (And.intro @ex_3_1 (And.intro @ex_3_2 (And.intro @sa_4_0_4 (@varlv_4_0_4))))))
theorem f22_ok  (x0 : Node) (x1 : Int) (r : (Node × Bool)) (h : tree_At x0 x1 = some r) : callW Try.prog A0 22 [.p (.agg [.v (.int .i64 x0.Kind), .v (.string x0.Text), .lst false x0.Gaps.length (encL en_str x0.Gaps), .lst false x0.Kids.length (encL en_Node x0.Kids)]), iv x1] [] = some (.p (.tup [.agg [.v (.int .i64 r.1.Kind), .v (.string r.1.Text), .lst false r.1.Gaps.length (encL en_str r.1.Gaps), .lst false r.1.Kids.length (encL en_Node r.1.Kids)], .v (.bool r.2)]), []) := by
 refine call_ofH (fn := Try.f22) (c := bodyOf Try.f22) rfl rfl (by kernel_rfl) (by kernel_rfl) ?_
 rw [show initS Try.f22 [.p (.agg [.v (.int .i64 x0.Kind), .v (.string x0.Text), .lst false x0.Gaps.length (encL en_str x0.Gaps), .lst false x0.Kids.length (encL en_Node x0.Kids)]), iv x1] [] = ⟨.p (.agg [.v (.int .i64 x0.Kind), .v (.string x0.Text), .lst false x0.Gaps.length (encL en_str x0.Gaps), .lst false x0.Kids.length (encL en_Node x0.Kids)]) :: iv x1 :: List.replicate 22 undefD, [], 0⟩ from by kernel_rfl]
 unfold tree_At at h
 unfold bodyOf Try.f22; simp only [Option.getD_some, loopsOf, List.append_nil, List.nil_append, List.cons_append, List.getD_cons_zero, List.getD_cons_succ]
 simp only [List.replicate]
 by_cases h1 : x1 < (0 : Int)
 ·rw [if_pos h1] at h
  have h1' : decide (x1 < (0 : Int)) = true := decide_eq_true h1
  obtain rfl := Option.some.inj h
  simp (maxSteps := 10000000) (implicitDefEqProofs := false) (disch := first | assumption | omega | exact rfl) only [bs, rs22, ls22, Nat.reduceAdd, ↓reduceIte, loadD_pagg a25 z25, storeD_agg z25, ↓h1']
  refine ⟨by first | exact .inl trivial | exact .inr trivial | simp, ?_⟩
  exact finish_is (ds := [.p (.agg [.v (.int .i64 (0 : Int)), .v (.string ByteArray.empty), .lst true 0 [], .lst true 0 []]), bv false]) (x := .tup [.agg [.v (.int .i64 (0 : Int)), .v (.string ByteArray.empty), .lst true 0 [], .lst true 0 []], .v (.bool false)]) (y := .tup [.agg [.v (.int .i64 (0 : Int)), .v (.string ByteArray.empty), .lst false ([] : List ByteArray).length (encL en_str ([] : List ByteArray)), .lst false ([] : List Node).length (encL en_Node ([] : List Node))], .v (.bool false)]) (l := []) rfl rfl (by kernel_rfl) rfl (by first | rfl | (simp only [wk, wks, wkL]; first | done | rfl))
 ·rw [if_neg h1] at h
  have h1' : decide (x1 < (0 : Int)) = false := decide_eq_false h1
  obtain ⟨r2, h3, h⟩ := bsm h
  have h4 : ∀ H, callD (callW Try.prog A0) A0 H 40 [.p (.agg [.v (.int .i64 x0.Kind), .v (.string x0.Text), .lst false x0.Gaps.length (encL en_str x0.Gaps), .lst false x0.Kids.length (encL en_Node x0.Kids)]), iv x1] = some (.p (.tup [.agg [.v (.int .i64 r2.1.Kind), .v (.string r2.1.Text), .lst false r2.1.Gaps.length (encL en_str r2.1.Gaps), .lst false r2.1.Kids.length (encL en_Node r2.1.Kids)], .v (.int .i64 r2.2.1), .v (.bool r2.2.2)]), none) := fun H => tree_locate_call h3
  by_cases h5 : r2.2.2 = true
  ·rw [if_pos h5] at h
   obtain ⟨r6, h7, h⟩ := bsm h
   have h8 : ∀ H, callD (callW Try.prog A0) A0 H 41 [.p (.agg [.v (.int .i64 r2.1.Kind), .v (.string r2.1.Text), .lst false r2.1.Gaps.length (encL en_str r2.1.Gaps), .lst false r2.1.Kids.length (encL en_Node r2.1.Kids)])] = some (.p (.agg [.v (.int .i64 r6.Kind), .v (.string r6.Text), .lst false r6.Gaps.length (encL en_str r6.Gaps), .lst false r6.Kids.length (encL en_Node r6.Kids)]), none) := fun H => tree_clone_call h7
   obtain rfl := Option.some.inj h
   simp (maxSteps := 10000000) (implicitDefEqProofs := false) (disch := first | assumption | omega | exact rfl) only [bs, rs22, ls22, Nat.reduceAdd, ↓reduceIte, loadD_pagg a25 z25, storeD_agg z25, ↓h1', h4, h5, h8]
   refine ⟨by first | exact .inl trivial | exact .inr trivial | simp, ?_⟩
   exact finish_is (ds := [.p (.agg [.v (.int .i64 r6.Kind), .v (.string r6.Text), .lst false r6.Gaps.length (encL en_str r6.Gaps), .lst false r6.Kids.length (encL en_Node r6.Kids)]), bv true]) (x := .tup [.agg [.v (.int .i64 r6.Kind), .v (.string r6.Text), .lst false r6.Gaps.length (encL en_str r6.Gaps), .lst false r6.Kids.length (encL en_Node r6.Kids)], .v (.bool true)]) (y := .tup [.agg [.v (.int .i64 r6.Kind), .v (.string r6.Text), .lst false r6.Gaps.length (encL en_str r6.Gaps), .lst false r6.Kids.length (encL en_Node r6.Kids)], .v (.bool true)]) (l := []) rfl rfl (by kernel_rfl) rfl (by first | rfl | (simp only [wk, wks, wkL]; first | done | rfl))
  ·rw [if_neg h5] at h
   replace h5 := Bool.eq_false_iff.2 h5
   obtain rfl := Option.some.inj h
   simp (maxSteps := 10000000) (implicitDefEqProofs := false) (disch := first | assumption | omega | exact rfl) only [bs, rs22, ls22, Nat.reduceAdd, ↓reduceIte, loadD_pagg a25 z25, storeD_agg z25, ↓h1', h4, h5]
   refine ⟨by first | exact .inl trivial | exact .inr trivial | simp, ?_⟩
   exact finish_is (ds := [.p (.agg [.v (.int .i64 (0 : Int)), .v (.string ByteArray.empty), .lst true 0 [], .lst true 0 []]), bv false]) (x := .tup [.agg [.v (.int .i64 (0 : Int)), .v (.string ByteArray.empty), .lst true 0 [], .lst true 0 []], .v (.bool false)]) (y := .tup [.agg [.v (.int .i64 (0 : Int)), .v (.string ByteArray.empty), .lst false ([] : List ByteArray).length (encL en_str ([] : List ByteArray)), .lst false ([] : List Node).length (encL en_Node ([] : List Node))], .v (.bool false)]) (l := []) rfl rfl (by kernel_rfl) rfl (by first | rfl | (simp only [wk, wks, wkL]; first | done | rfl))
theorem tree_At_call {b1 b2 : Bool} {H : List Ob} {x0 : Node} {x1 : Int} {r : (Node × Bool)} (h : tree_At x0 x1 = some r) : callD (callW Try.prog A0) A0 H 22 [.p (.agg [.v (.int .i64 x0.Kind), .v (.string x0.Text), .lst b1 x0.Gaps.length (encL en_str x0.Gaps), .lst b2 x0.Kids.length (encL en_Node x0.Kids)]), iv x1] = some (.p (.tup [.agg [.v (.int .i64 r.1.Kind), .v (.string r.1.Text), .lst false r.1.Gaps.length (encL en_str r.1.Gaps), .lst false r.1.Kids.length (encL en_Node r.1.Kids)], .v (.bool r.2)]), none) :=
  callD_fun (args := [.agg [.v (.int .i64 x0.Kind), .v (.string x0.Text), .lst b1 x0.Gaps.length (encL en_str x0.Gaps), .lst b2 x0.Kids.length (encL en_Node x0.Kids)], .v (.int .i64 x1)]) rfl rfl rfl (by simp only [List.map_cons, List.map_nil, wk, wks, wkL]; exact f22_ok x0 x1 _ h)
def ls23 := And.intro @al_25 (And.intro @faP_25_3 (And.intro @idxL_23 (And.intro @sa_4_0_4 (And.intro @varld_4_0_3 (@varlv_4_0_4)))))
theorem tree_Size_rcall {rec : Node → Option Int} (hrec : ∀ x0 r, rec x0 = some r → callW Try.prog A0 23 [.p (.agg [.v (.int .i64 x0.Kind), .v (.string x0.Text), .lst false x0.Gaps.length (encL en_str x0.Gaps), .lst false x0.Kids.length (encL en_Node x0.Kids)])] [] = some (.p (.v (.int .i64 r)), [])) {b1 b2 : Bool} {H : List Ob} {x0 : Node} {r : Int} (h : rec x0 = some r) : callD (callW Try.prog A0) A0 H 23 [.p (.agg [.v (.int .i64 x0.Kind), .v (.string x0.Text), .lst b1 x0.Gaps.length (encL en_str x0.Gaps), .lst b2 x0.Kids.length (encL en_Node x0.Kids)])] = some (.p (.v (.int .i64 r)), none) :=
  callD_fun (args := [.agg [.v (.int .i64 x0.Kind), .v (.string x0.Text), .lst b1 x0.Gaps.length (encL en_str x0.Gaps), .lst b2 x0.Kids.length (encL en_Node x0.Kids)]]) rfl rfl rfl (by simp only [List.map_cons, List.map_nil, wk, wks, wkL]; exact hrec x0 _ h)
noncomputable def L23_0 : Code := (loopsOf (bodyOf Try.f23)).getD 0 .skip
def g23_0 : List Ghost := [.weak [7], .keep [3, 7, 8, 9]]
def F23_0 (s7 : (List Node)) (s8 : Int) : (Int × Int) → St := fun (s3, s9) => ⟨[.junk, .junk, .junk, iv s3, .junk, .junk, .junk, .p (.lst false s7.length (encL en_Node s7)), iv s8, iv s9, .junk, .junk, .junk, .junk, .junk, .junk, .junk, .junk, .junk], [], 0⟩
theorem L23_0_ok {rec : Node → Option Int} (hrec : ∀ x0 r, rec x0 = some r → callW Try.prog A0 23 [.p (.agg [.v (.int .i64 x0.Kind), .v (.string x0.Text), .lst false x0.Gaps.length (encL en_str x0.Gaps), .lst false x0.Kids.length (encL en_Node x0.Kids)])] [] = some (.p (.v (.int .i64 r)), [])) (s7 : (List Node)) (s8 : Int) : ∀ s st o, ghostsD g23_0 st = some (F23_0 s7 s8 s) → iter (tree_Size_L0 rec s7 s8) s = some o →
    Wp (evW Try.prog A0 23 (.loop L23_0) st) (OutQ (F23_0 s7 s8) g23_0 (fun n s st => n = 0 ∧ ghostsD [.keep [3, 7, 8, 9]] st = some (F23_0 s7 s8 s)) (fun r st => finishD Try.prog A0 23 Try.f23 st = some (.p (.v (.int .i64 r)), [])) o) := by
 refine Wp.iter ?_
 intro s st o hg h
 obtain ⟨s3, s9⟩ := s
 unfold tree_Size_L0 at h
 unfold g23_0 F23_0 at hg ⊢
 (try simp only [] at h hg)
 unfold L23_0 bodyOf Try.f23; simp only [Option.getD_some, loopsOf, List.append_nil, List.nil_append, List.cons_append, List.getD_cons_zero, List.getD_cons_succ]
 by_cases h1 : s9 < s8
 ·rw [if_pos h1] at h
  have h1' : decide (s9 < s8) = true := decide_eq_true h1
  obtain ⟨v2, h3, h⟩ := bsm h
  obtain ⟨h3a, h3b, _⟩ := rd_some h3
  have h4 := lk_frz_25 h3
  obtain ⟨r5, h6, h⟩ := bsm h
  have h7 : ∀ H, callD (callW Try.prog A0) A0 H 23 [.p (.agg [.v (.int .i64 v2.Kind), .v (.string v2.Text), .lst false v2.Gaps.length (encL en_str v2.Gaps), .lst false v2.Kids.length (encL en_Node v2.Kids)])] = some (.p (.v (.int .i64 r5)), none) := fun H => tree_Size_rcall hrec h6
  obtain rfl := Option.some.inj h
  simp (maxSteps := 10000000) (implicitDefEqProofs := false) (disch := first | assumption | omega | exact rfl) only [bs, rs23, ls23, Nat.reduceAdd, ↓reduceIte, lenD_lst u23, loadD_iagg a25 z25, loadD_pagg a25 z25, loadD_ptr a23, storeD_agg z25, hg, ↓h1', h4, h7]
  exact ⟨rfl, by kernel_rfl⟩
 ·rw [if_neg h1] at h
  have h1' : decide (s9 < s8) = false := decide_eq_false h1
  obtain rfl := Option.some.inj h
  simp (maxSteps := 10000000) (implicitDefEqProofs := false) (disch := first | assumption | omega | exact rfl) only [bs, rs23, ls23, Nat.reduceAdd, ↓reduceIte, lenD_lst u23, loadD_iagg a25 z25, loadD_pagg a25 z25, loadD_ptr a23, storeD_agg z25, hg, ↓h1']
  exact ⟨rfl, rfl, by kernel_rfl⟩
theorem f23_ok {rec : Node → Option Int} (hrec : ∀ x0 r, rec x0 = some r → callW Try.prog A0 23 [.p (.agg [.v (.int .i64 x0.Kind), .v (.string x0.Text), .lst false x0.Gaps.length (encL en_str x0.Gaps), .lst false x0.Kids.length (encL en_Node x0.Kids)])] [] = some (.p (.v (.int .i64 r)), []))  (x0 : Node) (r : Int) (h : tree_Size.body rec x0 = some r) : callW Try.prog A0 23 [.p (.agg [.v (.int .i64 x0.Kind), .v (.string x0.Text), .lst false x0.Gaps.length (encL en_str x0.Gaps), .lst false x0.Kids.length (encL en_Node x0.Kids)])] [] = some (.p (.v (.int .i64 r)), []) := by
 refine call_ofH (fn := Try.f23) (c := bodyOf Try.f23) rfl rfl (by kernel_rfl) (by kernel_rfl) ?_
 rw [show initS Try.f23 [.p (.agg [.v (.int .i64 x0.Kind), .v (.string x0.Text), .lst false x0.Gaps.length (encL en_str x0.Gaps), .lst false x0.Kids.length (encL en_Node x0.Kids)])] [] = ⟨.p (.agg [.v (.int .i64 x0.Kind), .v (.string x0.Text), .lst false x0.Gaps.length (encL en_str x0.Gaps), .lst false x0.Kids.length (encL en_Node x0.Kids)]) :: List.replicate 18 undefD, [], 0⟩ from by kernel_rfl]
 unfold tree_Size.body at h
 unfold bodyOf Try.f23; simp only [Option.getD_some, loopsOf, List.append_nil, List.nil_append, List.cons_append, List.getD_cons_zero, List.getD_cons_succ]
 simp only [List.replicate]
 obtain ⟨o, h8, h⟩ := bsm h
 simp (maxSteps := 10000000) (implicitDefEqProofs := false) (disch := first | assumption | omega | exact rfl) only [bs, rs23, ls23, Nat.reduceAdd, ↓reduceIte, lenD_lst u23, loadD_iagg a25 z25, loadD_pagg a25 z25, loadD_ptr a23, storeD_agg z25]
 refine Wp.ctx (fun x => seqW _ _ _ _ (blockW _ (x))) (L23_0_ok hrec x0.Kids (x0.Kids.length : Int) ((1 : Int), (0 : Int)) _ o (by kernel_rfl) h8) ?_
 intro e st hq
 cases o with
 | next _ => (first | cases h | (simp at h))
 | jmp n_ s_ =>
  obtain ⟨rfl, rfl, hq⟩ := hq
  obtain ⟨s3_9, s9_9⟩ := s_
  unfold F23_0 at hq
  (try simp only [] at h hq)
  obtain rfl := Option.some.inj h
  simp (maxSteps := 10000000) (implicitDefEqProofs := false) (disch := first | assumption | omega | exact rfl) only [bs, rs23, ls23, Nat.reduceAdd, ↓reduceIte, lenD_lst u23, loadD_iagg a25 z25, loadD_pagg a25 z25, loadD_ptr a23, storeD_agg z25, hq]
  refine ⟨by first | exact .inl trivial | exact .inr trivial | simp, ?_⟩
  exact finish_is (ds := [iv s3_9]) (x := .v (.int .i64 s3_9)) (y := .v (.int .i64 s3_9)) (l := []) rfl rfl rfl rfl (by first | rfl | (simp only [wk, wks, wkL]; first | done | rfl))
 | ret _ => (first | cases h | (simp at h))
theorem f23_spec : ∀ (x0 : Node) r, tree_SizeS x0 = some r → callW Try.prog A0 23 [.p (.agg [.v (.int .i64 x0.Kind), .v (.string x0.Text), .lst false x0.Gaps.length (encL en_str x0.Gaps), .lst false x0.Kids.length (encL en_Node x0.Kids)])] [] = some (.p (.v (.int .i64 r)), []) := by
  have key : ∀ n (x0 : Node) r, tree_SizeS_mu x0 < n → tree_SizeS x0 = some r → callW Try.prog A0 23 [.p (.agg [.v (.int .i64 x0.Kind), .v (.string x0.Text), .lst false x0.Gaps.length (encL en_str x0.Gaps), .lst false x0.Kids.length (encL en_Node x0.Kids)])] [] = some (.p (.v (.int .i64 r)), []) := by
    intro n
    induction n with
    | zero => intro x0 r h; omega
    | succ n ih =>
      intro x0 r hn h
      refine f23_ok (rec := fun x0' => if tree_SizeS_mu x0' < tree_SizeS_mu x0 then tree_SizeS x0' else none) ?_ x0 r (tree_SizeS_body x0 r h)
      intro x0' r' h'
      by_cases hm : tree_SizeS_mu x0' < tree_SizeS_mu x0
      · rw [if_pos hm] at h'; exact ih x0' r' (by omega) h'
      · rw [if_neg hm] at h'; cases h'
  intro x0 r h
  exact key _ x0 r (Nat.lt_succ_self _) h
theorem tree_Size_call {b1 b2 : Bool} {H : List Ob} {x0 : Node} {r : Int} (h : tree_SizeS x0 = some r) : callD (callW Try.prog A0) A0 H 23 [.p (.agg [.v (.int .i64 x0.Kind), .v (.string x0.Text), .lst b1 x0.Gaps.length (encL en_str x0.Gaps), .lst b2 x0.Kids.length (encL en_Node x0.Kids)])] = some (.p (.v (.int .i64 r)), none) :=
  callD_fun (args := [.agg [.v (.int .i64 x0.Kind), .v (.string x0.Text), .lst b1 x0.Gaps.length (encL en_str x0.Gaps), .lst b2 x0.Kids.length (encL en_Node x0.Kids)]]) rfl rfl rfl (by simp only [List.map_cons, List.map_nil, wk, wks, wkL]; exact f23_spec x0 _ h)
def ls10 := And.intro @al_25 (And.intro @al_39 (And.intro @ex_2_0 (And.intro @ex_2_1 (And.intro @faP_39_0 (And.intro @faP_39_1 (And.intro @idxL_26 (And.intro @sa_2_0_2 (And.intro @sa_4_0_4 (And.intro @varld_2_0_0 (And.intro @varld_2_0_1 (@varlv_4_0_4)))))))))))
noncomputable def L10_0 : Code := (loopsOf (bodyOf Try.f10)).getD 0 .skip
def g10_0 : List Ghost := [.weak [43], .keep [3, 4, 16, 17, 18, 43, 44, 45]]
def F10_0 (s3 : Int) (s4 : Int) (s16 : Int) (s17 : Int) (s43 : (List Pair)) (s44 : Int) : (Int × Int) → St := fun (s18, s45) => ⟨[.junk, .junk, .junk, iv s3, iv s4, .junk, .junk, .junk, .junk, .junk, .junk, .junk, .junk, .junk, .junk, .junk, iv s16, iv s17, iv s18, .junk, .junk, .junk, .junk, .junk, .junk, .junk, .junk, .junk, .junk, .junk, .junk, .junk, .junk, .junk, .junk, .junk, .junk, .junk, .junk, .junk, .junk, .junk, .junk, .p (.lst false s43.length (encL en_Pair s43)), iv s44, iv s45, .junk, .junk, .junk, .junk, .junk, .junk, .junk, .junk, .junk, .junk, .junk, .junk, .junk, .junk, .junk, .junk, .junk, .junk, .junk, .junk, .junk, .junk, .junk], [], 0⟩
theorem L10_0_ok (s3 : Int) (s4 : Int) (s16 : Int) (s17 : Int) (s43 : (List Pair)) (s44 : Int) : ∀ s st o, ghostsD g10_0 st = some (F10_0 s3 s4 s16 s17 s43 s44 s) → iter (similar_Score_L0 s3 s4 s16 s17 s43 s44) s = some o →
    Wp (evW Try.prog A0 10 (.loop L10_0) st) (OutQ (F10_0 s3 s4 s16 s17 s43 s44) g10_0 (fun n s st => n = 0 ∧ ghostsD [.keep [3, 4, 16, 17, 18, 43, 44, 45]] st = some (F10_0 s3 s4 s16 s17 s43 s44 s)) (fun r st => finishD Try.prog A0 10 Try.f10 st = some (.p (.tup [.v (.int .i64 r.1), .v (.int .i64 r.2)]), [])) o) := by
 refine Wp.iter ?_
 intro s st o hg h
 obtain ⟨s18, s45⟩ := s
 unfold similar_Score_L0 at h
 unfold g10_0 F10_0 at hg ⊢
 (try simp only [] at h hg)
 unfold L10_0 bodyOf Try.f10; simp only [Option.getD_some, loopsOf, List.append_nil, List.nil_append, List.cons_append, List.getD_cons_zero, List.getD_cons_succ]
 by_cases h15 : s45 < s44
 ·rw [if_pos h15] at h
  have h15' : decide (s45 < s44) = true := decide_eq_true h15
  obtain ⟨v16, h17, h⟩ := bsm h
  obtain ⟨h17a, h17b, _⟩ := rd_some h17
  have h18 := lk_frz_39 h17
  obtain ⟨r19, h20, h⟩ := bsm h
  have h21 : ∀ H, callD (callW Try.prog A0) A0 H 24 [iv v16.Old, iv s3, iv s16] = some (.p (.v (.bool r19)), none) := fun H => similar_below_call h20
  by_cases h22 : r19 = true
  ·rw [if_pos h22] at h
   obtain ⟨r23, h24, h⟩ := bsm h
   have h25 : ∀ H, callD (callW Try.prog A0) A0 H 24 [iv v16.New, iv s4, iv s17] = some (.p (.v (.bool r23)), none) := fun H => similar_below_call h24
   by_cases h26 : r23 = true
   ·rw [if_pos h26] at h
    obtain rfl := Option.some.inj h
    simp (maxSteps := 10000000) (implicitDefEqProofs := false) (disch := first | assumption | omega | exact rfl) only [bs, rs10, ls10, Nat.reduceAdd, ↓reduceIte, lenD_lst u26, loadD_iagg a39 z39, loadD_pagg a25 z25, loadD_ptr a3, storeD_agg z25, storeD_agg z39, hg, ↓h15', h18, h21, h22, h25, h26]
    exact ⟨rfl, by kernel_rfl⟩
   ·rw [if_neg h26] at h
    replace h26 := Bool.eq_false_iff.2 h26
    obtain rfl := Option.some.inj h
    simp (maxSteps := 10000000) (implicitDefEqProofs := false) (disch := first | assumption | omega | exact rfl) only [bs, rs10, ls10, Nat.reduceAdd, ↓reduceIte, lenD_lst u26, loadD_iagg a39 z39, loadD_pagg a25 z25, loadD_ptr a3, storeD_agg z25, storeD_agg z39, hg, ↓h15', h18, h21, h22, h25, h26]
    exact ⟨rfl, by kernel_rfl⟩
  ·rw [if_neg h22] at h
   replace h22 := Bool.eq_false_iff.2 h22
   obtain rfl := Option.some.inj h
   simp (maxSteps := 10000000) (implicitDefEqProofs := false) (disch := first | assumption | omega | exact rfl) only [bs, rs10, ls10, Nat.reduceAdd, ↓reduceIte, lenD_lst u26, loadD_iagg a39 z39, loadD_pagg a25 z25, loadD_ptr a3, storeD_agg z25, storeD_agg z39, hg, ↓h15', h18, h21, h22]
   exact ⟨rfl, by kernel_rfl⟩
 ·rw [if_neg h15] at h
  have h15' : decide (s45 < s44) = false := decide_eq_false h15
  obtain rfl := Option.some.inj h
  simp (maxSteps := 10000000) (implicitDefEqProofs := false) (disch := first | assumption | omega | exact rfl) only [bs, rs10, ls10, Nat.reduceAdd, ↓reduceIte, lenD_lst u26, loadD_iagg a39 z39, loadD_pagg a25 z25, loadD_ptr a3, storeD_agg z25, storeD_agg z39, hg, ↓h15']
  exact ⟨rfl, rfl, by kernel_rfl⟩
theorem f10_ok  (x0 : Node) (x1 : Node) (x2 : (List Pair)) (x3 : Int) (x4 : Int) (r : (Int × Int)) (h : similar_Score x0 x1 x2 x3 x4 = some r) : callW Try.prog A0 10 [.p (.agg [.v (.int .i64 x0.Kind), .v (.string x0.Text), .lst false x0.Gaps.length (encL en_str x0.Gaps), .lst false x0.Kids.length (encL en_Node x0.Kids)]), .p (.agg [.v (.int .i64 x1.Kind), .v (.string x1.Text), .lst false x1.Gaps.length (encL en_str x1.Gaps), .lst false x1.Kids.length (encL en_Node x1.Kids)]), .p (.lst false x2.length (encL en_Pair x2)), iv x3, iv x4] [] = some (.p (.tup [.v (.int .i64 r.1), .v (.int .i64 r.2)]), []) := by
 refine call_ofH (fn := Try.f10) (c := bodyOf Try.f10) rfl rfl (by kernel_rfl) (by kernel_rfl) ?_
 rw [show initS Try.f10 [.p (.agg [.v (.int .i64 x0.Kind), .v (.string x0.Text), .lst false x0.Gaps.length (encL en_str x0.Gaps), .lst false x0.Kids.length (encL en_Node x0.Kids)]), .p (.agg [.v (.int .i64 x1.Kind), .v (.string x1.Text), .lst false x1.Gaps.length (encL en_str x1.Gaps), .lst false x1.Kids.length (encL en_Node x1.Kids)]), .p (.lst false x2.length (encL en_Pair x2)), iv x3, iv x4] [] = ⟨.p (.agg [.v (.int .i64 x0.Kind), .v (.string x0.Text), .lst false x0.Gaps.length (encL en_str x0.Gaps), .lst false x0.Kids.length (encL en_Node x0.Kids)]) :: .p (.agg [.v (.int .i64 x1.Kind), .v (.string x1.Text), .lst false x1.Gaps.length (encL en_str x1.Gaps), .lst false x1.Kids.length (encL en_Node x1.Kids)]) :: .p (.lst false x2.length (encL en_Pair x2)) :: iv x3 :: iv x4 :: List.replicate 64 undefD, [], 0⟩ from by kernel_rfl]
 unfold similar_Score at h
 unfold bodyOf Try.f10; simp only [Option.getD_some, loopsOf, List.append_nil, List.nil_append, List.cons_append, List.getD_cons_zero, List.getD_cons_succ]
 simp only [List.replicate]
 obtain ⟨r1, h2, h⟩ := bsm h
 have h3 : ∀ H, callD (callW Try.prog A0) A0 H 22 [.p (.agg [.v (.int .i64 x0.Kind), .v (.string x0.Text), .lst false x0.Gaps.length (encL en_str x0.Gaps), .lst false x0.Kids.length (encL en_Node x0.Kids)]), iv x3] = some (.p (.tup [.agg [.v (.int .i64 r1.1.Kind), .v (.string r1.1.Text), .lst false r1.1.Gaps.length (encL en_str r1.1.Gaps), .lst false r1.1.Kids.length (encL en_Node r1.1.Kids)], .v (.bool r1.2)]), none) := fun H => tree_At_call h2
 obtain ⟨r4, h5, h⟩ := bsm h
 have h6 : ∀ H, callD (callW Try.prog A0) A0 H 22 [.p (.agg [.v (.int .i64 x1.Kind), .v (.string x1.Text), .lst false x1.Gaps.length (encL en_str x1.Gaps), .lst false x1.Kids.length (encL en_Node x1.Kids)]), iv x4] = some (.p (.tup [.agg [.v (.int .i64 r4.1.Kind), .v (.string r4.1.Text), .lst false r4.1.Gaps.length (encL en_str r4.1.Gaps), .lst false r4.1.Kids.length (encL en_Node r4.1.Kids)], .v (.bool r4.2)]), none) := fun H => tree_At_call h5
 by_cases h7 : r1.2 = true
 ·rw [if_pos h7] at h
  by_cases h8 : r4.2 = true
  ·rw [if_pos h8] at h
   obtain ⟨r9, h10, h⟩ := bsm h
   have h11 : ∀ H, callD (callW Try.prog A0) A0 H 23 [.p (.agg [.v (.int .i64 r1.1.Kind), .v (.string r1.1.Text), .lst false r1.1.Gaps.length (encL en_str r1.1.Gaps), .lst false r1.1.Kids.length (encL en_Node r1.1.Kids)])] = some (.p (.v (.int .i64 r9)), none) := fun H => tree_Size_call h10
   obtain ⟨r12, h13, h⟩ := bsm h
   have h14 : ∀ H, callD (callW Try.prog A0) A0 H 23 [.p (.agg [.v (.int .i64 r4.1.Kind), .v (.string r4.1.Text), .lst false r4.1.Gaps.length (encL en_str r4.1.Gaps), .lst false r4.1.Kids.length (encL en_Node r4.1.Kids)])] = some (.p (.v (.int .i64 r12)), none) := fun H => tree_Size_call h13
   obtain ⟨o, h27, h⟩ := bsm h
   simp (maxSteps := 10000000) (implicitDefEqProofs := false) (disch := first | assumption | omega | exact rfl) only [bs, rs10, ls10, Nat.reduceAdd, ↓reduceIte, lenD_lst u26, loadD_iagg a39 z39, loadD_pagg a25 z25, loadD_ptr a3, storeD_agg z25, storeD_agg z39, h3, h6, h7, h8, h11, h14]
   refine Wp.ctx (fun x => seqW _ _ _ _ (blockW _ (x))) (L10_0_ok x3 x4 r9 r12 x2 (x2.length : Int) ((0 : Int), (0 : Int)) _ o (by kernel_rfl) h27) ?_
   intro e st hq
   cases o with
   | next _ => (first | cases h | (simp at h))
   | jmp n_ s_ =>
    obtain ⟨rfl, rfl, hq⟩ := hq
    obtain ⟨s18_28, s45_28⟩ := s_
    unfold F10_0 at hq
    (try simp only [] at h hq)
    obtain rfl := Option.some.inj h
    simp (maxSteps := 10000000) (implicitDefEqProofs := false) (disch := first | assumption | omega | exact rfl) only [bs, rs10, ls10, Nat.reduceAdd, ↓reduceIte, lenD_lst u26, loadD_iagg a39 z39, loadD_pagg a25 z25, loadD_ptr a3, storeD_agg z25, storeD_agg z39, h3, h6, h7, h8, h11, h14, hq]
    refine ⟨by first | exact .inl trivial | exact .inr trivial | simp, ?_⟩
    exact finish_is (ds := [iv s18_28, iv (w64 ((w64 (r9 + r12)) - (2 : Int)))]) (x := .tup [.v (.int .i64 s18_28), .v (.int .i64 (w64 ((w64 (r9 + r12)) - (2 : Int))))]) (y := .tup [.v (.int .i64 s18_28), .v (.int .i64 (w64 ((w64 (r9 + r12)) - (2 : Int))))]) (l := []) rfl rfl rfl rfl (by first | rfl | (simp only [wk, wks, wkL]; first | done | rfl))
   | ret _ => (first | cases h | (simp at h))
  ·rw [if_neg h8] at h
   replace h8 := Bool.eq_false_iff.2 h8
   obtain rfl := Option.some.inj h
   simp (maxSteps := 10000000) (implicitDefEqProofs := false) (disch := first | assumption | omega | exact rfl) only [bs, rs10, ls10, Nat.reduceAdd, ↓reduceIte, lenD_lst u26, loadD_iagg a39 z39, loadD_pagg a25 z25, loadD_ptr a3, storeD_agg z25, storeD_agg z39, h3, h6, h7, h8]
   refine ⟨by first | exact .inl trivial | exact .inr trivial | simp, ?_⟩
   exact finish_is (ds := [iv (0 : Int), iv (0 : Int)]) (x := .tup [.v (.int .i64 (0 : Int)), .v (.int .i64 (0 : Int))]) (y := .tup [.v (.int .i64 (0 : Int)), .v (.int .i64 (0 : Int))]) (l := []) rfl rfl rfl rfl (by first | rfl | (simp only [wk, wks, wkL]; first | done | rfl))
 ·rw [if_neg h7] at h
  replace h7 := Bool.eq_false_iff.2 h7
  obtain rfl := Option.some.inj h
  simp (maxSteps := 10000000) (implicitDefEqProofs := false) (disch := first | assumption | omega | exact rfl) only [bs, rs10, ls10, Nat.reduceAdd, ↓reduceIte, lenD_lst u26, loadD_iagg a39 z39, loadD_pagg a25 z25, loadD_ptr a3, storeD_agg z25, storeD_agg z39, h3, h6, h7]
  refine ⟨by first | exact .inl trivial | exact .inr trivial | simp, ?_⟩
  exact finish_is (ds := [iv (0 : Int), iv (0 : Int)]) (x := .tup [.v (.int .i64 (0 : Int)), .v (.int .i64 (0 : Int))]) (y := .tup [.v (.int .i64 (0 : Int)), .v (.int .i64 (0 : Int))]) (l := []) rfl rfl rfl rfl (by first | rfl | (simp only [wk, wks, wkL]; first | done | rfl))
theorem similar_Score_call {b1 b2 b3 b4 b5 : Bool} {H : List Ob} {x0 : Node} {x1 : Node} {x2 : (List Pair)} {x3 : Int} {x4 : Int} {r : (Int × Int)} (h : similar_Score x0 x1 x2 x3 x4 = some r) : callD (callW Try.prog A0) A0 H 10 [.p (.agg [.v (.int .i64 x0.Kind), .v (.string x0.Text), .lst b1 x0.Gaps.length (encL en_str x0.Gaps), .lst b2 x0.Kids.length (encL en_Node x0.Kids)]), .p (.agg [.v (.int .i64 x1.Kind), .v (.string x1.Text), .lst b3 x1.Gaps.length (encL en_str x1.Gaps), .lst b4 x1.Kids.length (encL en_Node x1.Kids)]), .p (.lst b5 x2.length (encL en_Pair x2)), iv x3, iv x4] = some (.p (.tup [.v (.int .i64 r.1), .v (.int .i64 r.2)]), none) :=
  callD_fun (args := [.agg [.v (.int .i64 x0.Kind), .v (.string x0.Text), .lst b1 x0.Gaps.length (encL en_str x0.Gaps), .lst b2 x0.Kids.length (encL en_Node x0.Kids)], .agg [.v (.int .i64 x1.Kind), .v (.string x1.Text), .lst b3 x1.Gaps.length (encL en_str x1.Gaps), .lst b4 x1.Kids.length (encL en_Node x1.Kids)], .lst b5 x2.length (encL en_Pair x2), .v (.int .i64 x3), .v (.int .i64 x4)]) rfl rfl rfl (by simp only [List.map_cons, List.map_nil, wk, wks, wkL]; exact f10_ok x0 x1 x2 x3 x4 _ h)
def ls5 := And.intro @bu_39_ (And.intro @ex_2_0 (And.intro @ex_2_1 (And.intro @faI_39_0 (And.intro @faI_39_1 (And.intro @faP_25_0 (And.intro @idxL_26 (And.intro @varld_4_0_0 (@varlv_4_0_4))))))))
noncomputable def L5_1 : Code := (loopsOf (bodyOf Try.f5)).getD 1 .skip
def g5_1 : List Ghost := [.weak [2, 7], .keep [2, 3, 4, 7, 10]]
def F5_1 (s2 : (List Pair)) (s7 : (List Pair)) (w0_0 : Int) (w0_1 : ByteArray) (w0_2 : (List ByteArray)) (w0_3 : (List Node)) (w1_0 : Int) (w1_1 : ByteArray) (w1_2 : (List ByteArray)) (w1_3 : (List Node)) : Int → St := fun s10 => ⟨[.junk, .junk, .p (.lst false s2.length (encL en_Pair s2)), .ptr 0 0, .ptr 1 0, .junk, .junk, .p (.lst false s7.length (encL en_Pair s7)), .junk, .junk, iv s10, .junk, .junk, .junk, .junk, .junk, .junk, .junk, .junk, .junk, .junk, .junk, .junk, .junk, .junk, .junk, .junk, .junk, .junk, .junk, .junk, .junk, .junk, .junk, .junk, .junk, .junk, .junk, .junk, .junk, .junk, .junk, .junk, .junk, .junk, .junk, .junk, .junk, .junk, .junk, .junk, .junk, .junk, .junk, .junk, .junk, .junk, .junk, .junk, .junk, .junk, .junk, .junk, .junk, .junk, .junk, .junk, .junk, .junk, .junk, .junk, .junk, .junk, .junk, .junk, .junk, .junk, .junk, .junk, .junk, .junk, .junk, .junk, .junk, .junk, .junk, .junk, .junk, .junk, .junk, .junk, .junk, .junk, .junk, .junk, .junk, .junk, .junk, .junk, .junk, .junk, .junk, .junk, .junk, .junk, .junk, .junk, .junk, .junk, .junk, .junk, .junk, .junk, .junk, .junk, .junk, .junk, .junk, .junk, .junk, .junk, .junk, .junk, .junk, .junk, .junk, .junk, .junk], [.var [iv w0_0, .p (.v (.string w0_1)), .p (.lst false w0_2.length (encL en_str w0_2)), .p (.lst false w0_3.length (encL en_Node w0_3))], .var [iv w1_0, .p (.v (.string w1_1)), .p (.lst false w1_2.length (encL en_str w1_2)), .p (.lst false w1_3.length (encL en_Node w1_3))]], 0⟩
theorem L5_1_ok (s2 : (List Pair)) (s7 : (List Pair)) (w0_0 : Int) (w0_1 : ByteArray) (w0_2 : (List ByteArray)) (w0_3 : (List Node)) (w1_0 : Int) (w1_1 : ByteArray) (w1_2 : (List ByteArray)) (w1_3 : (List Node)) : ∀ s st o, ghostsD g5_1 st = some (F5_1 s2 s7 w0_0 w0_1 w0_2 w0_3 w1_0 w1_1 w1_2 w1_3 s) → iter (law22_SimilarExtends_L1 s2 s7 w0_0 w0_1 w0_2 w0_3 w1_0 w1_1 w1_2 w1_3) s = some o →
    Wp (evW Try.prog A0 5 (.loop L5_1) st) (OutQ (F5_1 s2 s7 w0_0 w0_1 w0_2 w0_3 w1_0 w1_1 w1_2 w1_3) g5_1 (fun n s st => n = 2 ∧ ghostsD [.keep [2, 3, 4, 7, 10]] st = some (F5_1 s2 s7 w0_0 w0_1 w0_2 w0_3 w1_0 w1_1 w1_2 w1_3 s)) (fun r st => finishD Try.prog A0 5 Try.f5 st = some (.p (.v (.bool r)), [])) o) := by
 refine Wp.iter ?_
 intro s st o hg h
 generalize s = s10 at hg h
 unfold law22_SimilarExtends_L1 at h
 unfold g5_1 F5_1 at hg ⊢
 (try simp only [] at h hg)
 unfold L5_1 bodyOf Try.f5; simp only [Option.getD_some, loopsOf, List.append_nil, List.nil_append, List.cons_append, List.getD_cons_zero, List.getD_cons_succ]
 by_cases h39 : s10 < (s7.length : Int)
 ·rw [if_pos h39] at h
  have h39' : decide (s10 < (s7.length : Int)) = true := decide_eq_true h39
  obtain ⟨v40, h41, h⟩ := bsm h
  obtain ⟨h41a, h41b, _⟩ := rd_some h41
  have h42 := ce_39__0 h41
  by_cases h43 : v40.Old = (0 : Int)
  ·rw [if_pos h43] at h
   have h43' : decide (v40.Old = (0 : Int)) = true := decide_eq_true h43
   obtain rfl := Option.some.inj h
   simp (maxSteps := 10000000) (implicitDefEqProofs := false) (disch := first | assumption | omega | exact rfl) only [bs, rs5, ls5, Nat.reduceAdd, ↓reduceIte, binD_neq_bool Try.underlying4, lenD_lst u26, loadD_iagg a39 z39, loadD_iptr a3, loadD_pagg a25 z25, loadD_ptr a3, hg, ↓h39', h42, ↓h43']
   exact ⟨rfl, by kernel_rfl⟩
  ·rw [if_neg h43] at h
   have h43' : decide (v40.Old = (0 : Int)) = false := decide_eq_false h43
   have h44 := lk_frz_39 h41
   obtain ⟨r45, h46, h⟩ := bsm h
   have h47 : ∀ H, callD (callW Try.prog A0) A0 H 16 [.p (.lst false s2.length (encL en_Pair s2)), .p (.agg [.v (.int .i64 v40.Old), .v (.int .i64 v40.New)])] = some (.p (.v (.bool r45)), none) := fun H => law22_has_call h46
   by_cases h48 : r45 = true
   ·rw [if_pos h48] at h
    obtain rfl := Option.some.inj h
    simp (maxSteps := 10000000) (implicitDefEqProofs := false) (disch := first | assumption | omega | exact rfl) only [bs, rs5, ls5, Nat.reduceAdd, ↓reduceIte, binD_neq_bool Try.underlying4, lenD_lst u26, loadD_iagg a39 z39, loadD_iptr a3, loadD_pagg a25 z25, loadD_ptr a3, hg, ↓h39', h42, ↓h43', h44, h47, h48]
    exact ⟨rfl, by kernel_rfl⟩
   ·rw [if_neg h48] at h
    replace h48 := Bool.eq_false_iff.2 h48
    have h49 := ce_39__0 h41
    have h50 := ce_39__1 h41
    obtain ⟨r51, h52, h⟩ := bsm h
    have h53 : ∀ H, callD (callW Try.prog A0) A0 H 10 [.p (.agg [.v (.int .i64 w0_0), .v (.string w0_1), .lst false w0_2.length (encL en_str w0_2), .lst false w0_3.length (encL en_Node w0_3)]), .p (.agg [.v (.int .i64 w1_0), .v (.string w1_1), .lst false w1_2.length (encL en_str w1_2), .lst false w1_3.length (encL en_Node w1_3)]), .p (.lst false s7.length (encL en_Pair s7)), iv v40.Old, iv v40.New] = some (.p (.tup [.v (.int .i64 r51.1), .v (.int .i64 r51.2)]), none) := fun H => similar_Score_call h52
    by_cases h54 : (w64 ((4 : Int) * r51.1)) ≤ r51.2
    ·rw [if_pos h54] at h
     have h54' : decide ((w64 ((4 : Int) * r51.1)) ≤ r51.2) = true := decide_eq_true h54
     obtain rfl := Option.some.inj h
     simp (maxSteps := 10000000) (implicitDefEqProofs := false) (disch := first | assumption | omega | exact rfl) only [bs, rs5, ls5, Nat.reduceAdd, ↓reduceIte, binD_neq_bool Try.underlying4, lenD_lst u26, loadD_iagg a39 z39, loadD_iptr a3, loadD_pagg a25 z25, loadD_ptr a3, hg, ↓h39', h42, ↓h43', h44, h47, h48, h49, h50, h53, ↓h54']
     refine ⟨rfl, ?_⟩
     exact finish_is (ds := [bv false]) (x := .v (.bool false)) (y := .v (.bool false)) (l := []) rfl rfl rfl rfl (by first | rfl | (simp only [wk, wks, wkL]; first | done | rfl))
    ·rw [if_neg h54] at h
     have h54' : decide ((w64 ((4 : Int) * r51.1)) ≤ r51.2) = false := decide_eq_false h54
     by_cases h55 : r51.2 = (0 : Int)
     ·rw [if_pos h55] at h
      have h55' : decide (r51.2 = (0 : Int)) = true := decide_eq_true h55
      obtain rfl := Option.some.inj h
      simp (maxSteps := 10000000) (implicitDefEqProofs := false) (disch := first | assumption | omega | exact rfl) only [bs, rs5, ls5, Nat.reduceAdd, ↓reduceIte, binD_neq_bool Try.underlying4, lenD_lst u26, loadD_iagg a39 z39, loadD_iptr a3, loadD_pagg a25 z25, loadD_ptr a3, hg, ↓h39', h42, ↓h43', h44, h47, h48, h49, h50, h53, ↓h54', ↓h55']
      refine ⟨rfl, ?_⟩
      exact finish_is (ds := [bv false]) (x := .v (.bool false)) (y := .v (.bool false)) (l := []) rfl rfl rfl rfl (by first | rfl | (simp only [wk, wks, wkL]; first | done | rfl))
     ·rw [if_neg h55] at h
      have h55' : decide (r51.2 = (0 : Int)) = false := decide_eq_false h55
      obtain rfl := Option.some.inj h
      simp (maxSteps := 10000000) (implicitDefEqProofs := false) (disch := first | assumption | omega | exact rfl) only [bs, rs5, ls5, Nat.reduceAdd, ↓reduceIte, binD_neq_bool Try.underlying4, lenD_lst u26, loadD_iagg a39 z39, loadD_iptr a3, loadD_pagg a25 z25, loadD_ptr a3, hg, ↓h39', h42, ↓h43', h44, h47, h48, h49, h50, h53, ↓h54', ↓h55']
      exact ⟨rfl, by kernel_rfl⟩
 ·rw [if_neg h39] at h
  have h39' : decide (s10 < (s7.length : Int)) = false := decide_eq_false h39
  obtain rfl := Option.some.inj h
  simp (maxSteps := 10000000) (implicitDefEqProofs := false) (disch := first | assumption | omega | exact rfl) only [bs, rs5, ls5, Nat.reduceAdd, ↓reduceIte, binD_neq_bool Try.underlying4, lenD_lst u26, loadD_iagg a39 z39, loadD_iptr a3, loadD_pagg a25 z25, loadD_ptr a3, hg, ↓h39']
  exact ⟨rfl, rfl, by kernel_rfl⟩
noncomputable def L5_0 : Code := (loopsOf (bodyOf Try.f5)).getD 0 .skip
def g5_0 : List Ghost := [.weak [2, 7], .keep [2, 3, 4, 7, 9]]
def F5_0 (s2 : (List Pair)) (s7 : (List Pair)) (w0_0 : Int) (w0_1 : ByteArray) (w0_2 : (List ByteArray)) (w0_3 : (List Node)) (w1_0 : Int) (w1_1 : ByteArray) (w1_2 : (List ByteArray)) (w1_3 : (List Node)) : Int → St := fun s9 => ⟨[.junk, .junk, .p (.lst false s2.length (encL en_Pair s2)), .ptr 0 0, .ptr 1 0, .junk, .junk, .p (.lst false s7.length (encL en_Pair s7)), .junk, iv s9, .junk, .junk, .junk, .junk, .junk, .junk, .junk, .junk, .junk, .junk, .junk, .junk, .junk, .junk, .junk, .junk, .junk, .junk, .junk, .junk, .junk, .junk, .junk, .junk, .junk, .junk, .junk, .junk, .junk, .junk, .junk, .junk, .junk, .junk, .junk, .junk, .junk, .junk, .junk, .junk, .junk, .junk, .junk, .junk, .junk, .junk, .junk, .junk, .junk, .junk, .junk, .junk, .junk, .junk, .junk, .junk, .junk, .junk, .junk, .junk, .junk, .junk, .junk, .junk, .junk, .junk, .junk, .junk, .junk, .junk, .junk, .junk, .junk, .junk, .junk, .junk, .junk, .junk, .junk, .junk, .junk, .junk, .junk, .junk, .junk, .junk, .junk, .junk, .junk, .junk, .junk, .junk, .junk, .junk, .junk, .junk, .junk, .junk, .junk, .junk, .junk, .junk, .junk, .junk, .junk, .junk, .junk, .junk, .junk, .junk, .junk, .junk, .junk, .junk, .junk, .junk, .junk, .junk], [.var [iv w0_0, .p (.v (.string w0_1)), .p (.lst false w0_2.length (encL en_str w0_2)), .p (.lst false w0_3.length (encL en_Node w0_3))], .var [iv w1_0, .p (.v (.string w1_1)), .p (.lst false w1_2.length (encL en_str w1_2)), .p (.lst false w1_3.length (encL en_Node w1_3))]], 0⟩
theorem L5_0_ok (s2 : (List Pair)) (s7 : (List Pair)) (w0_0 : Int) (w0_1 : ByteArray) (w0_2 : (List ByteArray)) (w0_3 : (List Node)) (w1_0 : Int) (w1_1 : ByteArray) (w1_2 : (List ByteArray)) (w1_3 : (List Node)) : ∀ s st o, ghostsD g5_0 st = some (F5_0 s2 s7 w0_0 w0_1 w0_2 w0_3 w1_0 w1_1 w1_2 w1_3 s) → iter (law22_SimilarExtends_L0 s2 s7 w0_0 w0_1 w0_2 w0_3 w1_0 w1_1 w1_2 w1_3) s = some o →
    Wp (evW Try.prog A0 5 (.loop L5_0) st) (OutQ (F5_0 s2 s7 w0_0 w0_1 w0_2 w0_3 w1_0 w1_1 w1_2 w1_3) g5_0 (fun n s st => n = 0 ∧ ghostsD [.keep [2, 3, 4, 7, 9]] st = some (F5_0 s2 s7 w0_0 w0_1 w0_2 w0_3 w1_0 w1_1 w1_2 w1_3 s)) (fun r st => finishD Try.prog A0 5 Try.f5 st = some (.p (.v (.bool r)), [])) o) := by
 refine Wp.iter ?_
 intro s st o hg h
 generalize s = s9 at hg h
 unfold law22_SimilarExtends_L0 at h
 unfold g5_0 F5_0 at hg ⊢
 (try simp only [] at h hg)
 unfold L5_0 bodyOf Try.f5; simp only [Option.getD_some, loopsOf, List.append_nil, List.nil_append, List.cons_append, List.getD_cons_zero, List.getD_cons_succ]
 by_cases h29 : s9 < (s2.length : Int)
 ·rw [if_pos h29] at h
  have h29' : decide (s9 < (s2.length : Int)) = true := decide_eq_true h29
  obtain ⟨v30, h31, h⟩ := bsm h
  obtain ⟨h31a, h31b, _⟩ := rd_some h31
  have h32 := lk_frz_39 h31
  obtain ⟨r33, h34, h⟩ := bsm h
  have h35 : ∀ H, callD (callW Try.prog A0) A0 H 16 [.p (.lst false s7.length (encL en_Pair s7)), .p (.agg [.v (.int .i64 v30.Old), .v (.int .i64 v30.New)])] = some (.p (.v (.bool r33)), none) := fun H => law22_has_call h34
  by_cases h36 : r33 = true
  ·rw [if_pos h36] at h
   obtain rfl := Option.some.inj h
   simp (maxSteps := 10000000) (implicitDefEqProofs := false) (disch := first | assumption | omega | exact rfl) only [bs, rs5, ls5, Nat.reduceAdd, ↓reduceIte, binD_neq_bool Try.underlying4, lenD_lst u26, loadD_iagg a39 z39, loadD_iptr a3, loadD_pagg a25 z25, loadD_ptr a3, hg, ↓h29', h32, h35, h36]
   exact ⟨rfl, by kernel_rfl⟩
  ·rw [if_neg h36] at h
   replace h36 := Bool.eq_false_iff.2 h36
   obtain rfl := Option.some.inj h
   simp (maxSteps := 10000000) (implicitDefEqProofs := false) (disch := first | assumption | omega | exact rfl) only [bs, rs5, ls5, Nat.reduceAdd, ↓reduceIte, binD_neq_bool Try.underlying4, lenD_lst u26, loadD_iagg a39 z39, loadD_iptr a3, loadD_pagg a25 z25, loadD_ptr a3, hg, ↓h29', h32, h35, h36]
   refine ⟨rfl, ?_⟩
   exact finish_is (ds := [bv false]) (x := .v (.bool false)) (y := .v (.bool false)) (l := []) rfl rfl rfl rfl (by first | rfl | (simp only [wk, wks, wkL]; first | done | rfl))
 ·rw [if_neg h29] at h
  have h29' : decide (s9 < (s2.length : Int)) = false := decide_eq_false h29
  obtain rfl := Option.some.inj h
  simp (maxSteps := 10000000) (implicitDefEqProofs := false) (disch := first | assumption | omega | exact rfl) only [bs, rs5, ls5, Nat.reduceAdd, ↓reduceIte, binD_neq_bool Try.underlying4, lenD_lst u26, loadD_iagg a39 z39, loadD_iptr a3, loadD_pagg a25 z25, loadD_ptr a3, hg, ↓h29']
  exact ⟨rfl, rfl, by kernel_rfl⟩
theorem f5_ok  (x0 : Node) (x1 : Node) (x2 : (List Pair)) (r : Bool) (h : law22_SimilarExtends x0 x1 x2 = some r) : callW Try.prog A0 5 [.p (.agg [.v (.int .i64 x0.Kind), .v (.string x0.Text), .lst false x0.Gaps.length (encL en_str x0.Gaps), .lst false x0.Kids.length (encL en_Node x0.Kids)]), .p (.agg [.v (.int .i64 x1.Kind), .v (.string x1.Text), .lst false x1.Gaps.length (encL en_str x1.Gaps), .lst false x1.Kids.length (encL en_Node x1.Kids)]), .p (.lst false x2.length (encL en_Pair x2))] [] = some (.p (.v (.bool r)), []) := by
 refine call_ofH (fn := Try.f5) (c := bodyOf Try.f5) rfl rfl (by kernel_rfl) (by kernel_rfl) ?_
 rw [show initS Try.f5 [.p (.agg [.v (.int .i64 x0.Kind), .v (.string x0.Text), .lst false x0.Gaps.length (encL en_str x0.Gaps), .lst false x0.Kids.length (encL en_Node x0.Kids)]), .p (.agg [.v (.int .i64 x1.Kind), .v (.string x1.Text), .lst false x1.Gaps.length (encL en_str x1.Gaps), .lst false x1.Kids.length (encL en_Node x1.Kids)]), .p (.lst false x2.length (encL en_Pair x2))] [] = ⟨.p (.agg [.v (.int .i64 x0.Kind), .v (.string x0.Text), .lst false x0.Gaps.length (encL en_str x0.Gaps), .lst false x0.Kids.length (encL en_Node x0.Kids)]) :: .p (.agg [.v (.int .i64 x1.Kind), .v (.string x1.Text), .lst false x1.Gaps.length (encL en_str x1.Gaps), .lst false x1.Kids.length (encL en_Node x1.Kids)]) :: .p (.lst false x2.length (encL en_Pair x2)) :: List.replicate 125 undefD, [], 0⟩ from by kernel_rfl]
 unfold law22_SimilarExtends at h
 unfold bodyOf Try.f5; simp only [Option.getD_some, loopsOf, List.append_nil, List.nil_append, List.cons_append, List.getD_cons_zero, List.getD_cons_succ]
 simp only [List.replicate]
 obtain ⟨r1, h2, h⟩ := bsm h
 have h3 : ∀ H, callD (callW Try.prog A0) A0 H 8 [.p (.agg [.v (.int .i64 x0.Kind), .v (.string x0.Text), .lst false x0.Gaps.length (encL en_str x0.Gaps), .lst false x0.Kids.length (encL en_Node x0.Kids)])] = some (.p (.v (.bool r1)), none) := fun H => law22_small_call h2
 by_cases h4 : r1 = true
 ·rw [if_pos h4] at h
  obtain ⟨r5, h6, h⟩ := bsm h
  have h7 : ∀ H, callD (callW Try.prog A0) A0 H 8 [.p (.agg [.v (.int .i64 x1.Kind), .v (.string x1.Text), .lst false x1.Gaps.length (encL en_str x1.Gaps), .lst false x1.Kids.length (encL en_Node x1.Kids)])] = some (.p (.v (.bool r5)), none) := fun H => law22_small_call h6
  by_cases h8 : r5 = true
  ·rw [if_pos h8] at h
   by_cases h9 : (200 : Int) < (x2.length : Int)
   ·rw [if_pos h9] at h
    have h9' : decide ((200 : Int) < (x2.length : Int)) = true := decide_eq_true h9
    obtain ⟨r10, h11, h⟩ := bsm h
    have h12 : ∀ H, callD (callW Try.prog A0) A0 H 9 [] = some (.p (.v (.bool r10)), none) := fun H => law22_awake_call h11
    obtain rfl := Option.some.inj h
    simp (maxSteps := 10000000) (implicitDefEqProofs := false) (disch := first | assumption | omega | exact rfl) only [bs, rs5, ls5, Nat.reduceAdd, ↓reduceIte, binD_neq_bool Try.underlying4, lenD_lst u26, loadD_iagg a39 z39, loadD_iptr a3, loadD_pagg a25 z25, loadD_ptr a3, h3, h4, h7, h8, ↓h9', h12]
    refine ⟨by first | exact .inl trivial | exact .inr trivial | simp, ?_⟩
    exact finish_is (ds := [bv r10]) (x := .v (.bool r10)) (y := .v (.bool r10)) (l := []) rfl rfl rfl rfl (by first | rfl | (simp only [wk, wks, wkL]; first | done | rfl))
   ·rw [if_neg h9] at h
    have h9' : decide ((200 : Int) < (x2.length : Int)) = false := decide_eq_false h9
    obtain ⟨r13, h14, h⟩ := bsm h
    have h15 : ∀ H, callD (callW Try.prog A0) A0 H 12 [.p (.agg [.v (.int .i64 x0.Kind), .v (.string x0.Text), .lst false x0.Gaps.length (encL en_str x0.Gaps), .lst false x0.Kids.length (encL en_Node x0.Kids)]), .p (.agg [.v (.int .i64 x1.Kind), .v (.string x1.Text), .lst false x1.Gaps.length (encL en_str x1.Gaps), .lst false x1.Kids.length (encL en_Node x1.Kids)]), .p (.lst false x2.length (encL en_Pair x2))] = some (.p (.tup [.lst false r13.1.length (encL en_Pair r13.1), .v (.int .i64 r13.2)]), none) := fun H => similar_Match_call h14
    obtain ⟨r16, h17, h⟩ := bsm h
    have h18 : ∀ H, callD (callW Try.prog A0) A0 H 15 [.p (.agg [.v (.int .i64 x0.Kind), .v (.string x0.Text), .lst false x0.Gaps.length (encL en_str x0.Gaps), .lst false x0.Kids.length (encL en_Node x0.Kids)]), .p (.agg [.v (.int .i64 x1.Kind), .v (.string x1.Text), .lst false x1.Gaps.length (encL en_str x1.Gaps), .lst false x1.Kids.length (encL en_Node x1.Kids)]), .p (.lst false x2.length (encL en_Pair x2))] = some (.p (.v (.bool r16)), none) := fun H => R22_Partial_call h17
    by_cases h19 : r16 = true
    ·rw [if_pos h19] at h
     by_cases h20 : r13.2 = (0 : Int)
     ·rw [if_pos h20] at h
      have h20' : decide (r13.2 = (0 : Int)) = true := decide_eq_true h20
      obtain ⟨r21, h22, h⟩ := bsm h
      have h23 : ∀ H, callD (callW Try.prog A0) A0 H 15 [.p (.agg [.v (.int .i64 x0.Kind), .v (.string x0.Text), .lst false x0.Gaps.length (encL en_str x0.Gaps), .lst false x0.Kids.length (encL en_Node x0.Kids)]), .p (.agg [.v (.int .i64 x1.Kind), .v (.string x1.Text), .lst false x1.Gaps.length (encL en_str x1.Gaps), .lst false x1.Kids.length (encL en_Node x1.Kids)]), .p (.lst false r13.1.length (encL en_Pair r13.1))] = some (.p (.v (.bool r21)), none) := fun H => R22_Partial_call h22
      by_cases h24 : r21 = true
      ·rw [if_pos h24] at h
       obtain ⟨r25, h26, h⟩ := bsm h
       have h27 : ∀ H, callD (callW Try.prog A0) A0 H 16 [.p (.lst false r13.1.length (encL en_Pair r13.1)), .p (.agg [.v (.int .i64 (0 : Int)), .v (.int .i64 (0 : Int))])] = some (.p (.v (.bool r25)), none) := fun H => law22_has_call h26
       by_cases h28 : r25 = (decide (x0.Kind = x1.Kind))
       ·rw [if_pos h28] at h
        have h28' : decide (r25 = (decide (x0.Kind = x1.Kind))) = true := decide_eq_true h28
        obtain ⟨o, h37, h⟩ := bsm h
        simp (maxSteps := 10000000) (implicitDefEqProofs := false) (disch := first | assumption | omega | exact rfl) only [bs, rs5, ls5, Nat.reduceAdd, ↓reduceIte, binD_neq_bool Try.underlying4, lenD_lst u26, loadD_iagg a39 z39, loadD_iptr a3, loadD_pagg a25 z25, loadD_ptr a3, h3, h4, h7, h8, ↓h9', h15, h18, h19, ↓h20', h23, h24, h27, ↓h28']
        refine Wp.ctx (fun x => seqW _ _ _ _ (blockW _ (x))) (L5_0_ok x2 r13.1 x0.Kind x0.Text x0.Gaps x0.Kids x1.Kind x1.Text x1.Gaps x1.Kids (0 : Int) _ o (by kernel_rfl) h37) ?_
        intro e st hq
        cases o with
        | next _ => (first | cases h | (simp at h))
        | jmp n_ s_ =>
         obtain ⟨rfl, rfl, hq⟩ := hq
         generalize s_ = s9_38 at h hq
         unfold F5_0 at hq
         (try simp only [] at h hq)
         obtain ⟨o, h56, h⟩ := bsm h
         simp (maxSteps := 10000000) (implicitDefEqProofs := false) (disch := first | assumption | omega | exact rfl) only [bs, rs5, ls5, Nat.reduceAdd, ↓reduceIte, binD_neq_bool Try.underlying4, lenD_lst u26, loadD_iagg a39 z39, loadD_iptr a3, loadD_pagg a25 z25, loadD_ptr a3, h3, h4, h7, h8, ↓h9', h15, h18, h19, ↓h20', h23, h24, h27, ↓h28', hq]
         refine Wp.ctx (fun x => seqW _ _ _ _ (blockW _ (x))) (L5_1_ok x2 r13.1 x0.Kind x0.Text x0.Gaps x0.Kids x1.Kind x1.Text x1.Gaps x1.Kids (0 : Int) _ o (by kernel_rfl) h56) ?_
         intro e st hq
         cases o with
         | next _ => (first | cases h | (simp at h))
         | jmp n_ s_ =>
          obtain ⟨rfl, rfl, hq⟩ := hq
          generalize s_ = s10_57 at h hq
          unfold F5_1 at hq
          (try simp only [] at h hq)
          obtain ⟨r58, h59, h⟩ := bsm h
          have h60 : ∀ H, callD (callW Try.prog A0) A0 H 9 [] = some (.p (.v (.bool r58)), none) := fun H => law22_awake_call h59
          obtain rfl := Option.some.inj h
          simp (maxSteps := 10000000) (implicitDefEqProofs := false) (disch := first | assumption | omega | exact rfl) only [bs, rs5, ls5, Nat.reduceAdd, ↓reduceIte, binD_neq_bool Try.underlying4, lenD_lst u26, loadD_iagg a39 z39, loadD_iptr a3, loadD_pagg a25 z25, loadD_ptr a3, h3, h4, h7, h8, ↓h9', h15, h18, h19, ↓h20', h23, h24, h27, ↓h28', hq, hq, h60]
          refine ⟨by first | exact .inl trivial | exact .inr trivial | simp, ?_⟩
          exact finish_is (ds := [bv r58]) (x := .v (.bool r58)) (y := .v (.bool r58)) (l := []) rfl rfl rfl rfl (by first | rfl | (simp only [wk, wks, wkL]; first | done | rfl))
         | ret r61 =>
          obtain ⟨rfl, hq⟩ := hq
          obtain rfl := Option.some.inj h
          simp (maxSteps := 10000000) (implicitDefEqProofs := false) (disch := first | assumption | omega | exact rfl) only [bs, rs5, ls5, Nat.reduceAdd, ↓reduceIte, binD_neq_bool Try.underlying4, lenD_lst u26, loadD_iagg a39 z39, loadD_iptr a3, loadD_pagg a25 z25, loadD_ptr a3]
          exact ⟨by first | exact .inl trivial | exact .inr trivial | simp, hq⟩
        | ret r62 =>
         obtain ⟨rfl, hq⟩ := hq
         obtain rfl := Option.some.inj h
         simp (maxSteps := 10000000) (implicitDefEqProofs := false) (disch := first | assumption | omega | exact rfl) only [bs, rs5, ls5, Nat.reduceAdd, ↓reduceIte, binD_neq_bool Try.underlying4, lenD_lst u26, loadD_iagg a39 z39, loadD_iptr a3, loadD_pagg a25 z25, loadD_ptr a3]
         exact ⟨by first | exact .inl trivial | exact .inr trivial | simp, hq⟩
       ·rw [if_neg h28] at h
        have h28' : decide (r25 = (decide (x0.Kind = x1.Kind))) = false := decide_eq_false h28
        obtain rfl := Option.some.inj h
        simp (maxSteps := 10000000) (implicitDefEqProofs := false) (disch := first | assumption | omega | exact rfl) only [bs, rs5, ls5, Nat.reduceAdd, ↓reduceIte, binD_neq_bool Try.underlying4, lenD_lst u26, loadD_iagg a39 z39, loadD_iptr a3, loadD_pagg a25 z25, loadD_ptr a3, h3, h4, h7, h8, ↓h9', h15, h18, h19, ↓h20', h23, h24, h27, ↓h28']
        refine ⟨by first | exact .inl trivial | exact .inr trivial | simp, ?_⟩
        exact finish_is (ds := [bv false]) (x := .v (.bool false)) (y := .v (.bool false)) (l := []) rfl rfl rfl rfl (by first | rfl | (simp only [wk, wks, wkL]; first | done | rfl))
      ·rw [if_neg h24] at h
       replace h24 := Bool.eq_false_iff.2 h24
       obtain rfl := Option.some.inj h
       simp (maxSteps := 10000000) (implicitDefEqProofs := false) (disch := first | assumption | omega | exact rfl) only [bs, rs5, ls5, Nat.reduceAdd, ↓reduceIte, binD_neq_bool Try.underlying4, lenD_lst u26, loadD_iagg a39 z39, loadD_iptr a3, loadD_pagg a25 z25, loadD_ptr a3, h3, h4, h7, h8, ↓h9', h15, h18, h19, ↓h20', h23, h24]
       refine ⟨by first | exact .inl trivial | exact .inr trivial | simp, ?_⟩
       exact finish_is (ds := [bv false]) (x := .v (.bool false)) (y := .v (.bool false)) (l := []) rfl rfl rfl rfl (by first | rfl | (simp only [wk, wks, wkL]; first | done | rfl))
     ·rw [if_neg h20] at h
      have h20' : decide (r13.2 = (0 : Int)) = false := decide_eq_false h20
      obtain rfl := Option.some.inj h
      simp (maxSteps := 10000000) (implicitDefEqProofs := false) (disch := first | assumption | omega | exact rfl) only [bs, rs5, ls5, Nat.reduceAdd, ↓reduceIte, binD_neq_bool Try.underlying4, lenD_lst u26, loadD_iagg a39 z39, loadD_iptr a3, loadD_pagg a25 z25, loadD_ptr a3, h3, h4, h7, h8, ↓h9', h15, h18, h19, ↓h20']
      refine ⟨by first | exact .inl trivial | exact .inr trivial | simp, ?_⟩
      exact finish_is (ds := [bv false]) (x := .v (.bool false)) (y := .v (.bool false)) (l := []) rfl rfl rfl rfl (by first | rfl | (simp only [wk, wks, wkL]; first | done | rfl))
    ·rw [if_neg h19] at h
     replace h19 := Bool.eq_false_iff.2 h19
     by_cases h63 : r13.2 = (15 : Int)
     ·rw [if_pos h63] at h
      have h63' : decide (r13.2 = (15 : Int)) = true := decide_eq_true h63
      by_cases h64 : (r13.1.length : Int) = (0 : Int)
      ·rw [if_pos h64] at h
       have h64' : decide ((r13.1.length : Int) = (0 : Int)) = true := decide_eq_true h64
       obtain ⟨r65, h66, h⟩ := bsm h
       have h67 : ∀ H, callD (callW Try.prog A0) A0 H 9 [] = some (.p (.v (.bool r65)), none) := fun H => law22_awake_call h66
       obtain rfl := Option.some.inj h
       simp (maxSteps := 10000000) (implicitDefEqProofs := false) (disch := first | assumption | omega | exact rfl) only [bs, rs5, ls5, Nat.reduceAdd, ↓reduceIte, binD_neq_bool Try.underlying4, lenD_lst u26, loadD_iagg a39 z39, loadD_iptr a3, loadD_pagg a25 z25, loadD_ptr a3, h3, h4, h7, h8, ↓h9', h15, h18, h19, ↓h63', ↓h64', h67]
       refine ⟨by first | exact .inl trivial | exact .inr trivial | simp, ?_⟩
       exact finish_is (ds := [bv r65]) (x := .v (.bool r65)) (y := .v (.bool r65)) (l := []) rfl rfl rfl rfl (by first | rfl | (simp only [wk, wks, wkL]; first | done | rfl))
      ·rw [if_neg h64] at h
       have h64' : decide ((r13.1.length : Int) = (0 : Int)) = false := decide_eq_false h64
       obtain rfl := Option.some.inj h
       simp (maxSteps := 10000000) (implicitDefEqProofs := false) (disch := first | assumption | omega | exact rfl) only [bs, rs5, ls5, Nat.reduceAdd, ↓reduceIte, binD_neq_bool Try.underlying4, lenD_lst u26, loadD_iagg a39 z39, loadD_iptr a3, loadD_pagg a25 z25, loadD_ptr a3, h3, h4, h7, h8, ↓h9', h15, h18, h19, ↓h63', ↓h64']
       refine ⟨by first | exact .inl trivial | exact .inr trivial | simp, ?_⟩
       exact finish_is (ds := [bv false]) (x := .v (.bool false)) (y := .v (.bool false)) (l := []) rfl rfl rfl rfl (by first | rfl | (simp only [wk, wks, wkL]; first | done | rfl))
     ·rw [if_neg h63] at h
      have h63' : decide (r13.2 = (15 : Int)) = false := decide_eq_false h63
      obtain rfl := Option.some.inj h
      simp (maxSteps := 10000000) (implicitDefEqProofs := false) (disch := first | assumption | omega | exact rfl) only [bs, rs5, ls5, Nat.reduceAdd, ↓reduceIte, binD_neq_bool Try.underlying4, lenD_lst u26, loadD_iagg a39 z39, loadD_iptr a3, loadD_pagg a25 z25, loadD_ptr a3, h3, h4, h7, h8, ↓h9', h15, h18, h19, ↓h63']
      refine ⟨by first | exact .inl trivial | exact .inr trivial | simp, ?_⟩
      exact finish_is (ds := [bv false]) (x := .v (.bool false)) (y := .v (.bool false)) (l := []) rfl rfl rfl rfl (by first | rfl | (simp only [wk, wks, wkL]; first | done | rfl))
  ·rw [if_neg h8] at h
   replace h8 := Bool.eq_false_iff.2 h8
   obtain ⟨r68, h69, h⟩ := bsm h
   have h70 : ∀ H, callD (callW Try.prog A0) A0 H 9 [] = some (.p (.v (.bool r68)), none) := fun H => law22_awake_call h69
   obtain rfl := Option.some.inj h
   simp (maxSteps := 10000000) (implicitDefEqProofs := false) (disch := first | assumption | omega | exact rfl) only [bs, rs5, ls5, Nat.reduceAdd, ↓reduceIte, binD_neq_bool Try.underlying4, lenD_lst u26, loadD_iagg a39 z39, loadD_iptr a3, loadD_pagg a25 z25, loadD_ptr a3, h3, h4, h7, h8, h70]
   refine ⟨by first | exact .inl trivial | exact .inr trivial | simp, ?_⟩
   exact finish_is (ds := [bv r68]) (x := .v (.bool r68)) (y := .v (.bool r68)) (l := []) rfl rfl rfl rfl (by first | rfl | (simp only [wk, wks, wkL]; first | done | rfl))
 ·rw [if_neg h4] at h
  replace h4 := Bool.eq_false_iff.2 h4
  obtain ⟨r71, h72, h⟩ := bsm h
  have h73 : ∀ H, callD (callW Try.prog A0) A0 H 9 [] = some (.p (.v (.bool r71)), none) := fun H => law22_awake_call h72
  obtain rfl := Option.some.inj h
  simp (maxSteps := 10000000) (implicitDefEqProofs := false) (disch := first | assumption | omega | exact rfl) only [bs, rs5, ls5, Nat.reduceAdd, ↓reduceIte, binD_neq_bool Try.underlying4, lenD_lst u26, loadD_iagg a39 z39, loadD_iptr a3, loadD_pagg a25 z25, loadD_ptr a3, h3, h4, h73]
  refine ⟨by first | exact .inl trivial | exact .inr trivial | simp, ?_⟩
  exact finish_is (ds := [bv r71]) (x := .v (.bool r71)) (y := .v (.bool r71)) (l := []) rfl rfl rfl rfl (by first | rfl | (simp only [wk, wks, wkL]; first | done | rfl))
end Xn

