/- A part of the proof: P2. No conditions of its own. -/
import Derived.Test.YtddfehcpbgfmfaaP1
namespace Xn
open Go Go.Ev Go.Proofs
set_option linter.unusedSimpArgs false
set_option linter.unusedVariables false
set_option linter.defProp false
set_option maxRecDepth 8000
set_option maxHeartbeats 40000000
def ls43 := And.intro @ap_49_49 (And.intro @ap_52_52 (And.intro @bs_49_1 (And.intro @bs_52_1 (And.intro @bu_58_0_1_2_3 (And.intro @faP_25_0 (And.intro @faP_25_1 (And.intro @faP_25_2 (And.intro @faP_25_3 (And.intro @faP_58_4 (And.intro @idxL_23 (And.intro @idxR_49 (And.intro @varld_4_0_0 (And.intro @varld_4_0_1 (And.intro @varld_4_0_2 (@varld_4_0_3)))))))))))))))
theorem R06_rows_rcall {rec : (List Row) → Node → Int → Option (List Row)} (hrec : ∀ x0 x1 x2 r, rec x0 x1 x2 = some r → callW Try.prog A0 43 [.ref 0 0 x0.length 5, .p (.agg [.v (.int .i64 x1.Kind), .v (.string x1.Text), .lst false x1.Gaps.length (encL en_str x1.Gaps), .lst false x1.Kids.length (encL en_Node x1.Kids)]), iv x2] [.arr (encL en_Row x0)] = some (.ref 1 0 r.length 5, [.dead, .arr (encL en_Row r)])) {H : List Ob} {id n : Nat} {b1 b2 : Bool} {x0 : (List Row)} {x1 : Node} {x2 : Int} {r : (List Row)} : H[id]? = some (.arr (encL en_Row x0)) → n = x0.length → ∀ (h : rec x0 x1 x2 = some r), callD (callW Try.prog A0) A0 H 43 [.ref id 0 n 5, .p (.agg [.v (.int .i64 x1.Kind), .v (.string x1.Text), .lst b1 x1.Gaps.length (encL en_str x1.Gaps), .lst b2 x1.Kids.length (encL en_Node x1.Kids)]), iv x2] = some (.ref H.length 0 r.length 5, some (H.set id .dead ++ [.arr (encL en_Row r)])) := by
  intro hid hn h; subst hn; exact callD_mut1 (args := [.agg [.v (.int .i64 x1.Kind), .v (.string x1.Text), .lst false x1.Gaps.length (encL en_str x1.Gaps), .lst false x1.Kids.length (encL en_Node x1.Kids)], .v (.int .i64 x2)]) (by simp only [List.map_cons, List.map_nil, wkDv, wk, wks, wkL]) rfl hid (hrec x0 x1 x2 _ h)
noncomputable def L43_0 : Code := (loopsOf (bodyOf Try.f43)).getD 0 .skip
def g43_0 : List Ghost := [.own 8 1, .keep [0, 4, 7, 8, 9]]
def F43_0 (s7 : Int) (w2_0 : Int) (w2_1 : ByteArray) (w2_2 : (List ByteArray)) (w2_3 : (List Node)) : (Int × (List Row) × (List Int)) → St := fun (s9, y1, y3) => ⟨[.ref 1 0 y1.length 5, .junk, .junk, .junk, .ptr 2 0, .junk, .junk, iv s7, .ref 3 0 y3.length 1, iv s9, .junk, .junk, .junk, .junk, .junk, .junk, .junk, .junk, .junk, .junk, .junk, .junk, .junk, .junk, .junk, .junk, .junk, .junk, .junk, .junk, .junk, .junk, .junk, .junk, .junk, .junk, .junk, .junk, .junk, .junk, .junk, .junk, .junk, .junk, .junk, .junk, .junk, .junk, .junk], [.dead, .arr (encL en_Row y1), .var [iv w2_0, .p (.v (.string w2_1)), .p (.lst false w2_2.length (encL en_str w2_2)), .p (.lst false w2_3.length (encL en_Node w2_3))], .arr (encL en_i64 y3)], 1⟩
theorem L43_0_ok {rec : (List Row) → Node → Int → Option (List Row)} (hrec : ∀ x0 x1 x2 r, rec x0 x1 x2 = some r → callW Try.prog A0 43 [.ref 0 0 x0.length 5, .p (.agg [.v (.int .i64 x1.Kind), .v (.string x1.Text), .lst false x1.Gaps.length (encL en_str x1.Gaps), .lst false x1.Kids.length (encL en_Node x1.Kids)]), iv x2] [.arr (encL en_Row x0)] = some (.ref 1 0 r.length 5, [.dead, .arr (encL en_Row r)])) (s7 : Int) (w2_0 : Int) (w2_1 : ByteArray) (w2_2 : (List ByteArray)) (w2_3 : (List Node)) : ∀ s st o, ghostsD g43_0 st = some (F43_0 s7 w2_0 w2_1 w2_2 w2_3 s) → iter (R06_rows_L0 rec s7 w2_0 w2_1 w2_2 w2_3) s = some o →
    Wp (evW Try.prog A0 43 (.loop L43_0) st) (OutQ (F43_0 s7 w2_0 w2_1 w2_2 w2_3) g43_0 (fun n s st => n = 0 ∧ ghostsD [.keep [0, 4, 7, 8, 9]] st = some (F43_0 s7 w2_0 w2_1 w2_2 w2_3 s)) (fun r st => finishD Try.prog A0 43 Try.f43 st = some (.ref 1 0 r.length 5, [.dead, .arr (encL en_Row r)])) o) := by
 refine Wp.iter ?_
 intro s st o hg h
 obtain ⟨s9, y1, y3⟩ := s
 unfold R06_rows_L0 at h
 unfold g43_0 F43_0 at hg ⊢
 (try simp only [] at h hg)
 unfold L43_0 bodyOf Try.f43; simp only [Option.getD_some, loopsOf, List.append_nil, List.nil_append, List.cons_append, List.getD_cons_zero, List.getD_cons_succ]
 by_cases h3 : s9 < (w2_3.length : Int)
 ·rw [if_pos h3] at h
  have h3' : decide (s9 < (w2_3.length : Int)) = true := decide_eq_true h3
  by_cases hw_ : (y3.length + 1) * 8 ≤ 140737488355328
  case neg => rw [if_neg hw_] at h; cases h
  rw [if_pos hw_] at h
  have h5 := hw_
  have h4 : ∀ (H : List Ob) (id : Nat), apOb H id 0 y3.length 1 1 1 8 [.v (.int .i64 (y1.length : Int))] (some (.arr (encL en_i64 y3))) = some (.ref H.length 0 (y3 ++ [(y1.length : Int)]).length 1, H.set id .dead ++ [.arr (encL en_i64 (y3 ++ [(y1.length : Int)]))]) := fun H id => ap_enc (y := [(y1.length : Int)]) en_i64_len (by first | rfl | omega) rfl (by first | (simp only [encL_cons, encL_nil, en_i64_eq, List.cons_append, List.nil_append]; done) | (simp only [encL_cons, encL_nil, en_i64_eq, List.cons_append, List.nil_append]; rfl) | rfl) (by assumption)
  obtain ⟨v6, h7, h⟩ := Option.bind_eq_some_iff.1 h
  obtain ⟨h7a, h7b, _⟩ := rd_some h7
  have h8 := lk_frz_25 h7
  obtain ⟨r9, h10, h⟩ := Option.bind_eq_some_iff.1 h
  have h11 : ∀ H, H[1]? = some (.arr (encL en_Row y1)) → callD (callW Try.prog A0) A0 H 43 [.ref 1 0 y1.length 5, .p (.agg [.v (.int .i64 v6.Kind), .v (.string v6.Text), .lst false v6.Gaps.length (encL en_str v6.Gaps), .lst false v6.Kids.length (encL en_Node v6.Kids)]), iv s7] = some (.ref H.length 0 r9.length 5, some (H.set 1 .dead ++ [.arr (encL en_Row r9)])) := fun H hid => R06_rows_rcall hrec (H := H) (id := 1) hid (by first | rfl | omega) h10
  have h11' := h11 [.dead, .arr (encL en_Row y1), .var [iv w2_0, .p (.v (.string w2_1)), .p (.lst false w2_2.length (encL en_str w2_2)), .p (.lst false w2_3.length (encL en_Node w2_3))], .dead, .arr (encL en_i64 (y3 ++ [(y1.length : Int)]))] rfl
  obtain rfl := Option.some.inj h
  simp (maxSteps := 10000000) (implicitDefEqProofs := false) (disch := first | assumption | omega | exact rfl) only [bs, rs43, ls43, Nat.reduceAdd, ↓reduceIte, lenD_lst u23, lenD_ref u49, loadD_iagg a25 z25, loadD_ptr a22, loadD_ptr a23, loadD_ptr a3, loadD_ptr a9, own_ref, wksL_en_i64, wksL_en_str, wks_nil_, hg, ↓h3', h4, h8, h11']
  exact ⟨rfl, by kernel_rfl⟩
 ·rw [if_neg h3] at h
  have h3' : decide (s9 < (w2_3.length : Int)) = false := decide_eq_false h3
  obtain rfl := Option.some.inj h
  simp (maxSteps := 10000000) (implicitDefEqProofs := false) (disch := first | assumption | omega | exact rfl) only [bs, rs43, ls43, Nat.reduceAdd, ↓reduceIte, lenD_lst u23, lenD_ref u49, loadD_iagg a25 z25, loadD_ptr a22, loadD_ptr a23, loadD_ptr a3, loadD_ptr a9, own_ref, wksL_en_i64, wksL_en_str, wks_nil_, hg, ↓h3']
  exact ⟨rfl, rfl, by kernel_rfl⟩
theorem f43_ok {rec : (List Row) → Node → Int → Option (List Row)} (hrec : ∀ x0 x1 x2 r, rec x0 x1 x2 = some r → callW Try.prog A0 43 [.ref 0 0 x0.length 5, .p (.agg [.v (.int .i64 x1.Kind), .v (.string x1.Text), .lst false x1.Gaps.length (encL en_str x1.Gaps), .lst false x1.Kids.length (encL en_Node x1.Kids)]), iv x2] [.arr (encL en_Row x0)] = some (.ref 1 0 r.length 5, [.dead, .arr (encL en_Row r)]))  (x0 : (List Row)) (x1 : Node) (x2 : Int) (r : (List Row)) (h : R06_rows.body rec x0 x1 x2 = some r) : callW Try.prog A0 43 [.ref 0 0 x0.length 5, .p (.agg [.v (.int .i64 x1.Kind), .v (.string x1.Text), .lst false x1.Gaps.length (encL en_str x1.Gaps), .lst false x1.Kids.length (encL en_Node x1.Kids)]), iv x2] [.arr (encL en_Row x0)] = some (.ref 1 0 r.length 5, [.dead, .arr (encL en_Row r)]) := by
 refine call_ofH (fn := Try.f43) (c := bodyOf Try.f43) rfl rfl (by kernel_rfl) (by kernel_rfl) ?_
 rw [show initS Try.f43 [.ref 0 0 x0.length 5, .p (.agg [.v (.int .i64 x1.Kind), .v (.string x1.Text), .lst false x1.Gaps.length (encL en_str x1.Gaps), .lst false x1.Kids.length (encL en_Node x1.Kids)]), iv x2] [.arr (encL en_Row x0)] = ⟨.ref 0 0 x0.length 5 :: .p (.agg [.v (.int .i64 x1.Kind), .v (.string x1.Text), .lst false x1.Gaps.length (encL en_str x1.Gaps), .lst false x1.Kids.length (encL en_Node x1.Kids)]) :: iv x2 :: List.replicate 46 undefD, [.arr (encL en_Row x0)], 1⟩ from by kernel_rfl]
 unfold R06_rows.body at h
 unfold bodyOf Try.f43; simp only [Option.getD_some, loopsOf, List.append_nil, List.nil_append, List.cons_append, List.getD_cons_zero, List.getD_cons_succ]
 simp only [List.replicate]
 by_cases hw_ : (x0.length + 1) * 80 ≤ 140737488355328
 case neg => rw [if_neg hw_] at h; cases h
 rw [if_pos hw_] at h
 have h2 := hw_
 have h1 : ∀ (H : List Ob) (id : Nat), apOb H id 0 x0.length 1 5 5 80 [.v (.int .i64 x2), .v (.int .i64 x1.Kind), .v (.string x1.Text), .lst false x1.Gaps.length (encL en_str x1.Gaps), .lst false 0 []] (some (.arr (encL en_Row x0))) = some (.ref H.length 0 (x0 ++ [(Row.mk x2 x1.Kind x1.Text x1.Gaps ([] : List Int))]).length 5, H.set id .dead ++ [.arr (encL en_Row (x0 ++ [(Row.mk x2 x1.Kind x1.Text x1.Gaps ([] : List Int))]))]) := fun H id => ap_enc (y := [(Row.mk x2 x1.Kind x1.Text x1.Gaps ([] : List Int))]) en_Row_len (by first | rfl | omega) rfl (by first | (simp only [encL_cons, encL_nil, en_Row_eq, List.cons_append, List.nil_append]; done) | (simp only [encL_cons, encL_nil, en_Row_eq, List.cons_append, List.nil_append]; rfl) | rfl) (by assumption)
 obtain ⟨o, h12, h⟩ := Option.bind_eq_some_iff.1 h
 simp (maxSteps := 10000000) (implicitDefEqProofs := false) (disch := first | assumption | omega | exact rfl) only [bs, rs43, ls43, Nat.reduceAdd, ↓reduceIte, lenD_lst u23, lenD_ref u49, loadD_iagg a25 z25, loadD_ptr a22, loadD_ptr a23, loadD_ptr a3, loadD_ptr a9, own_ref, wksL_en_i64, wksL_en_str, wks_nil_, h1]
 refine Wp.ctx (fun x => seqW _ _ _ _ (blockW _ (x))) (L43_0_ok hrec (x0.length : Int) x1.Kind x1.Text x1.Gaps x1.Kids ((0 : Int), (x0 ++ [(Row.mk x2 x1.Kind x1.Text x1.Gaps ([] : List Int))]), ([] : List Int)) _ o (by kernel_rfl) h12) ?_
 intro e st hq
 cases o with
 | next _ => (first | cases h | (simp at h))
 | jmp n_ s_ =>
  obtain ⟨rfl, rfl, hq⟩ := hq
  obtain ⟨s9_13, y1_13, y3_13⟩ := s_
  unfold F43_0 at hq
  (try simp only [] at h hq)
  obtain ⟨v14, h15, h⟩ := Option.bind_eq_some_iff.1 h
  obtain ⟨h15a, h15b, _⟩ := rd_some h15
  have h16 : storeD Try.prog [.dead, .arr (encL en_Row y1_13), .var [iv x1.Kind, .p (.v (.string x1.Text)), .p (.lst false x1.Gaps.length (encL en_str x1.Gaps)), .p (.lst false x1.Kids.length (encL en_Node x1.Kids))], .arr (encL en_i64 y3_13)] 52 (.ptr 1 ((x0.length : Int).toNat * 5 + 4)) (.ref 3 0 y3_13.length 1) = some [.dead, .arr (encL en_Row (y1_13.set (x0.length : Int).toNat (Row.mk v14.Parent v14.Kind v14.Text v14.Gaps y3_13))), .var [iv x1.Kind, .p (.v (.string x1.Text)), .p (.lst false x1.Gaps.length (encL en_str x1.Gaps)), .p (.lst false x1.Kids.length (encL en_Node x1.Kids))], .frz (encL en_i64 y3_13)] := (storeD_row (v' := (Row.mk v14.Parent v14.Kind v14.Text v14.Gaps y3_13)) (k := 4) z52 en_Row_len en_i64_len rfl rfl rfl (by first | rfl | omega) h15 (by decide) (by rw [en_Row_eq, en_Row_eq]; rfl)).trans rfl
  have h17 : (y1_13.set (x0.length : Int).toNat (Row.mk v14.Parent v14.Kind v14.Text v14.Gaps y3_13)).length = y1_13.length := List.length_set
  obtain rfl := Option.some.inj h
  simp (maxSteps := 10000000) (implicitDefEqProofs := false) (disch := first | assumption | omega | exact rfl) only [bs, rs43, ls43, Nat.reduceAdd, ↓reduceIte, lenD_lst u23, lenD_ref u49, loadD_iagg a25 z25, loadD_ptr a22, loadD_ptr a23, loadD_ptr a3, loadD_ptr a9, own_ref, wksL_en_i64, wksL_en_str, wks_nil_, h1, hq, h16]
  refine ⟨by first | exact .inl trivial | exact .inr trivial | simp, ?_⟩
  show _ = _
  simp only [List.length_set, cpL_len]; kernel_rfl
 | ret _ => (first | cases h | (simp at h))
def ls43n := And.intro @ap_49_49 (And.intro @ap_52_52 (And.intro @bs_49_1 (And.intro @bs_52_1 (And.intro @bu_58_0_1_2_3 (And.intro @faP_25_0 (And.intro @faP_25_1 (And.intro @faP_25_2 (And.intro @faP_25_3 (And.intro @faP_58_4 (And.intro @idxL_23 (And.intro @idxR_49 (And.intro @varld_4_0_0 (And.intro @varld_4_0_1 (And.intro @varld_4_0_2 (@varld_4_0_3)))))))))))))))
def F43n_0 (s7 : Int) (w1_0 : Int) (w1_1 : ByteArray) (w1_2 : (List ByteArray)) (w1_3 : (List Node)) : (Int × (List Row) × (List Int)) → St := fun (s9, y0, y2) => ⟨[.ref 0 0 y0.length 5, .junk, .junk, .junk, .ptr 1 0, .junk, .junk, iv s7, .ref 2 0 y2.length 1, iv s9, .junk, .junk, .junk, .junk, .junk, .junk, .junk, .junk, .junk, .junk, .junk, .junk, .junk, .junk, .junk, .junk, .junk, .junk, .junk, .junk, .junk, .junk, .junk, .junk, .junk, .junk, .junk, .junk, .junk, .junk, .junk, .junk, .junk, .junk, .junk, .junk, .junk, .junk, .junk], [.arr (encL en_Row y0), .var [iv w1_0, .p (.v (.string w1_1)), .p (.lst false w1_2.length (encL en_str w1_2)), .p (.lst false w1_3.length (encL en_Node w1_3))], .arr (encL en_i64 y2)], 0⟩
theorem L43n_0_ok {rec : (List Row) → Node → Int → Option (List Row)} (hrec : ∀ x0 x1 x2 r, rec x0 x1 x2 = some r → callW Try.prog A0 43 [.ref 0 0 x0.length 5, .p (.agg [.v (.int .i64 x1.Kind), .v (.string x1.Text), .lst false x1.Gaps.length (encL en_str x1.Gaps), .lst false x1.Kids.length (encL en_Node x1.Kids)]), iv x2] [.arr (encL en_Row x0)] = some (.ref 1 0 r.length 5, [.dead, .arr (encL en_Row r)])) (s7 : Int) (w1_0 : Int) (w1_1 : ByteArray) (w1_2 : (List ByteArray)) (w1_3 : (List Node)) : ∀ s st o, ghostsD g43_0 st = some (F43n_0 s7 w1_0 w1_1 w1_2 w1_3 s) → iter (R06_rows_L0 rec s7 w1_0 w1_1 w1_2 w1_3) s = some o →
    Wp (evW Try.prog A0 43 (.loop L43_0) st) (OutQ (F43n_0 s7 w1_0 w1_1 w1_2 w1_3) g43_0 (fun n s st => n = 0 ∧ ghostsD [.keep [0, 4, 7, 8, 9]] st = some (F43n_0 s7 w1_0 w1_1 w1_2 w1_3 s)) (fun r st => finishD Try.prog A0 43 Try.f43 st = some (.ref 0 0 r.length 5, [.arr (encL en_Row r)])) o) := by
 refine Wp.iter ?_
 intro s st o hg h
 obtain ⟨s9, y0, y2⟩ := s
 unfold R06_rows_L0 at h
 unfold g43_0 F43n_0 at hg ⊢
 (try simp only [] at h hg)
 unfold L43_0 bodyOf Try.f43; simp only [Option.getD_some, loopsOf, List.append_nil, List.nil_append, List.cons_append, List.getD_cons_zero, List.getD_cons_succ]
 by_cases h3 : s9 < (w1_3.length : Int)
 ·rw [if_pos h3] at h
  have h3' : decide (s9 < (w1_3.length : Int)) = true := decide_eq_true h3
  by_cases hw_ : (y2.length + 1) * 8 ≤ 140737488355328
  case neg => rw [if_neg hw_] at h; cases h
  rw [if_pos hw_] at h
  have h5 := hw_
  have h4 : ∀ (H : List Ob) (id : Nat), apOb H id 0 y2.length 1 1 1 8 [.v (.int .i64 (y0.length : Int))] (some (.arr (encL en_i64 y2))) = some (.ref H.length 0 (y2 ++ [(y0.length : Int)]).length 1, H.set id .dead ++ [.arr (encL en_i64 (y2 ++ [(y0.length : Int)]))]) := fun H id => ap_enc (y := [(y0.length : Int)]) en_i64_len (by first | rfl | omega) rfl (by first | (simp only [encL_cons, encL_nil, en_i64_eq, List.cons_append, List.nil_append]; done) | (simp only [encL_cons, encL_nil, en_i64_eq, List.cons_append, List.nil_append]; rfl) | rfl) (by assumption)
  obtain ⟨v6, h7, h⟩ := Option.bind_eq_some_iff.1 h
  obtain ⟨h7a, h7b, _⟩ := rd_some h7
  have h8 := lk_frz_25 h7
  obtain ⟨r9, h10, h⟩ := Option.bind_eq_some_iff.1 h
  have h11 : ∀ H, H[0]? = some (.arr (encL en_Row y0)) → callD (callW Try.prog A0) A0 H 43 [.ref 0 0 y0.length 5, .p (.agg [.v (.int .i64 v6.Kind), .v (.string v6.Text), .lst false v6.Gaps.length (encL en_str v6.Gaps), .lst false v6.Kids.length (encL en_Node v6.Kids)]), iv s7] = some (.ref H.length 0 r9.length 5, some (H.set 0 .dead ++ [.arr (encL en_Row r9)])) := fun H hid => R06_rows_rcall hrec (H := H) (id := 0) hid (by first | rfl | omega) h10
  have h11' := h11 [.arr (encL en_Row y0), .var [iv w1_0, .p (.v (.string w1_1)), .p (.lst false w1_2.length (encL en_str w1_2)), .p (.lst false w1_3.length (encL en_Node w1_3))], .dead, .arr (encL en_i64 (y2 ++ [(y0.length : Int)]))] rfl
  obtain rfl := Option.some.inj h
  simp (maxSteps := 10000000) (implicitDefEqProofs := false) (disch := first | assumption | omega | exact rfl) only [bs, rs43, ls43n, Nat.reduceAdd, ↓reduceIte, lenD_lst u23, lenD_ref u49, loadD_iagg a25 z25, loadD_ptr a22, loadD_ptr a23, loadD_ptr a3, loadD_ptr a9, own_ref, wksL_en_i64, wksL_en_str, wks_nil_, hg, ↓h3', h4, h8, h11']
  exact ⟨rfl, by kernel_rfl⟩
 ·rw [if_neg h3] at h
  have h3' : decide (s9 < (w1_3.length : Int)) = false := decide_eq_false h3
  obtain rfl := Option.some.inj h
  simp (maxSteps := 10000000) (implicitDefEqProofs := false) (disch := first | assumption | omega | exact rfl) only [bs, rs43, ls43n, Nat.reduceAdd, ↓reduceIte, lenD_lst u23, lenD_ref u49, loadD_iagg a25 z25, loadD_ptr a22, loadD_ptr a23, loadD_ptr a3, loadD_ptr a9, own_ref, wksL_en_i64, wksL_en_str, wks_nil_, hg, ↓h3']
  exact ⟨rfl, rfl, by kernel_rfl⟩
theorem f43n_ok {rec : (List Row) → Node → Int → Option (List Row)} (hrec : ∀ x0 x1 x2 r, rec x0 x1 x2 = some r → callW Try.prog A0 43 [.ref 0 0 x0.length 5, .p (.agg [.v (.int .i64 x1.Kind), .v (.string x1.Text), .lst false x1.Gaps.length (encL en_str x1.Gaps), .lst false x1.Kids.length (encL en_Node x1.Kids)]), iv x2] [.arr (encL en_Row x0)] = some (.ref 1 0 r.length 5, [.dead, .arr (encL en_Row r)]))  (x0 : (List Row)) (x1 : Node) (x2 : Int) (hx0 : x0 = []) (r : (List Row)) (h : R06_rows.body rec x0 x1 x2 = some r) : callW Try.prog A0 43 [.p (.lst true 0 []), .p (.agg [.v (.int .i64 x1.Kind), .v (.string x1.Text), .lst false x1.Gaps.length (encL en_str x1.Gaps), .lst false x1.Kids.length (encL en_Node x1.Kids)]), iv x2] [] = some (.ref 0 0 r.length 5, [.arr (encL en_Row r)]) := by
 refine call_ofH (fn := Try.f43) (c := bodyOf Try.f43) rfl rfl (by kernel_rfl) (by kernel_rfl) ?_
 rw [show initS Try.f43 [.p (.lst true 0 []), .p (.agg [.v (.int .i64 x1.Kind), .v (.string x1.Text), .lst false x1.Gaps.length (encL en_str x1.Gaps), .lst false x1.Kids.length (encL en_Node x1.Kids)]), iv x2] [] = ⟨.p (.lst true 0 []) :: .p (.agg [.v (.int .i64 x1.Kind), .v (.string x1.Text), .lst false x1.Gaps.length (encL en_str x1.Gaps), .lst false x1.Kids.length (encL en_Node x1.Kids)]) :: iv x2 :: List.replicate 46 undefD, [], 0⟩ from by kernel_rfl]
 unfold R06_rows.body at h
 unfold bodyOf Try.f43; simp only [Option.getD_some, loopsOf, List.append_nil, List.nil_append, List.cons_append, List.getD_cons_zero, List.getD_cons_succ]
 simp only [List.replicate]
 have hown := own_nil' (en := en_Row) hx0 5
 by_cases hw_ : (x0.length + 1) * 80 ≤ 140737488355328
 case neg => rw [if_neg hw_] at h; cases h
 rw [if_pos hw_] at h
 have h2 := hw_
 have h1 : ∀ (H : List Ob) (id : Nat), apOb H id 0 x0.length 1 5 5 80 [.v (.int .i64 x2), .v (.int .i64 x1.Kind), .v (.string x1.Text), .lst false x1.Gaps.length (encL en_str x1.Gaps), .lst false 0 []] (some (.arr (encL en_Row x0))) = some (.ref H.length 0 (x0 ++ [(Row.mk x2 x1.Kind x1.Text x1.Gaps ([] : List Int))]).length 5, H.set id .dead ++ [.arr (encL en_Row (x0 ++ [(Row.mk x2 x1.Kind x1.Text x1.Gaps ([] : List Int))]))]) := fun H id => ap_enc (y := [(Row.mk x2 x1.Kind x1.Text x1.Gaps ([] : List Int))]) en_Row_len (by first | rfl | omega) rfl (by first | (simp only [encL_cons, encL_nil, en_Row_eq, List.cons_append, List.nil_append]; done) | (simp only [encL_cons, encL_nil, en_Row_eq, List.cons_append, List.nil_append]; rfl) | rfl) (by assumption)
 obtain ⟨o, h12, h⟩ := Option.bind_eq_some_iff.1 h
 simp (maxSteps := 10000000) (implicitDefEqProofs := false) (disch := first | assumption | omega | exact rfl) only [bs, rs43, ls43n, Nat.reduceAdd, ↓reduceIte, lenD_lst u23, lenD_ref u49, loadD_iagg a25 z25, loadD_ptr a22, loadD_ptr a23, loadD_ptr a3, loadD_ptr a9, own_ref, wksL_en_i64, wksL_en_str, wks_nil_, hown, h1]
 refine Wp.ctx (fun x => seqW _ _ _ _ (blockW _ (x))) (L43n_0_ok hrec (x0.length : Int) x1.Kind x1.Text x1.Gaps x1.Kids ((0 : Int), (x0 ++ [(Row.mk x2 x1.Kind x1.Text x1.Gaps ([] : List Int))]), ([] : List Int)) _ o (by kernel_rfl) h12) ?_
 intro e st hq
 cases o with
 | next _ => (first | cases h | (simp at h))
 | jmp n_ s_ =>
  obtain ⟨rfl, rfl, hq⟩ := hq
  obtain ⟨s9_13, y0_13, y2_13⟩ := s_
  unfold F43n_0 at hq
  (try simp only [] at h hq)
  obtain ⟨v14, h15, h⟩ := Option.bind_eq_some_iff.1 h
  obtain ⟨h15a, h15b, _⟩ := rd_some h15
  have h16 : storeD Try.prog [.arr (encL en_Row y0_13), .var [iv x1.Kind, .p (.v (.string x1.Text)), .p (.lst false x1.Gaps.length (encL en_str x1.Gaps)), .p (.lst false x1.Kids.length (encL en_Node x1.Kids))], .arr (encL en_i64 y2_13)] 52 (.ptr 0 ((x0.length : Int).toNat * 5 + 4)) (.ref 2 0 y2_13.length 1) = some [.arr (encL en_Row (y0_13.set (x0.length : Int).toNat (Row.mk v14.Parent v14.Kind v14.Text v14.Gaps y2_13))), .var [iv x1.Kind, .p (.v (.string x1.Text)), .p (.lst false x1.Gaps.length (encL en_str x1.Gaps)), .p (.lst false x1.Kids.length (encL en_Node x1.Kids))], .frz (encL en_i64 y2_13)] := (storeD_row (v' := (Row.mk v14.Parent v14.Kind v14.Text v14.Gaps y2_13)) (k := 4) z52 en_Row_len en_i64_len rfl rfl rfl (by first | rfl | omega) h15 (by decide) (by rw [en_Row_eq, en_Row_eq]; rfl)).trans rfl
  have h17 : (y0_13.set (x0.length : Int).toNat (Row.mk v14.Parent v14.Kind v14.Text v14.Gaps y2_13)).length = y0_13.length := List.length_set
  obtain rfl := Option.some.inj h
  simp (maxSteps := 10000000) (implicitDefEqProofs := false) (disch := first | assumption | omega | exact rfl) only [bs, rs43, ls43n, Nat.reduceAdd, ↓reduceIte, lenD_lst u23, lenD_ref u49, loadD_iagg a25 z25, loadD_ptr a22, loadD_ptr a23, loadD_ptr a3, loadD_ptr a9, own_ref, wksL_en_i64, wksL_en_str, wks_nil_, hown, h1, hq, h16]
  refine ⟨by first | exact .inl trivial | exact .inr trivial | simp, ?_⟩
  show _ = _
  simp only [List.length_set, cpL_len]; kernel_rfl
 | ret _ => (first | cases h | (simp at h))
theorem f43_spec : ∀ (x0 : (List Row)) (x1 : Node) (x2 : Int) r, R06_rowsS x0 x1 x2 = some r → callW Try.prog A0 43 [.ref 0 0 x0.length 5, .p (.agg [.v (.int .i64 x1.Kind), .v (.string x1.Text), .lst false x1.Gaps.length (encL en_str x1.Gaps), .lst false x1.Kids.length (encL en_Node x1.Kids)]), iv x2] [.arr (encL en_Row x0)] = some (.ref 1 0 r.length 5, [.dead, .arr (encL en_Row r)]) := by
  have key : ∀ n (x0 : (List Row)) (x1 : Node) (x2 : Int) r, R06_rowsS_mu x0 x1 x2 < n → R06_rowsS x0 x1 x2 = some r → callW Try.prog A0 43 [.ref 0 0 x0.length 5, .p (.agg [.v (.int .i64 x1.Kind), .v (.string x1.Text), .lst false x1.Gaps.length (encL en_str x1.Gaps), .lst false x1.Kids.length (encL en_Node x1.Kids)]), iv x2] [.arr (encL en_Row x0)] = some (.ref 1 0 r.length 5, [.dead, .arr (encL en_Row r)]) := by
    intro n
    induction n with
    | zero => intro x0 x1 x2 r h; omega
    | succ n ih =>
      intro x0 x1 x2 r hn h
      refine f43_ok (rec := fun x0' x1' x2' => if R06_rowsS_mu x0' x1' x2' < R06_rowsS_mu x0 x1 x2 then R06_rowsS x0' x1' x2' else none) ?_ x0 x1 x2 r (R06_rowsS_body x0 x1 x2 r h)
      intro x0' x1' x2' r' h'
      by_cases hm : R06_rowsS_mu x0' x1' x2' < R06_rowsS_mu x0 x1 x2
      · rw [if_pos hm] at h'; exact ih x0' x1' x2' r' (by omega) h'
      · rw [if_neg hm] at h'; cases h'
  intro x0 x1 x2 r h
  exact key _ x0 x1 x2 r (Nat.lt_succ_self _) h
theorem f43n_spec (x1 : Node) (x2 : Int) r (h : R06_rowsS ([] : List Row) x1 x2 = some r) : callW Try.prog A0 43 [.p (.lst true 0 []), .p (.agg [.v (.int .i64 x1.Kind), .v (.string x1.Text), .lst false x1.Gaps.length (encL en_str x1.Gaps), .lst false x1.Kids.length (encL en_Node x1.Kids)]), iv x2] [] = some (.ref 0 0 r.length 5, [.arr (encL en_Row r)]) := by
  refine f43n_ok (rec := fun x0' x1' x2' => if R06_rowsS_mu x0' x1' x2' < R06_rowsS_mu ([] : List Row) x1 x2 then R06_rowsS x0' x1' x2' else none) ?_ ([] : List Row) x1 x2 rfl r (R06_rowsS_body ([] : List Row) x1 x2 r h)
  intro x0' x1' x2' r' h'
  by_cases hm : R06_rowsS_mu x0' x1' x2' < R06_rowsS_mu ([] : List Row) x1 x2
  · rw [if_pos hm] at h'; exact f43_spec x0' x1' x2' r' h'
  · rw [if_neg hm] at h'; cases h'
theorem R06_rows_calln {b1 b2 : Bool} {H : List Ob} {x1 : Node} {x2 : Int} {r : (List Row)} (h : R06_rowsS ([] : List Row) x1 x2 = some r) : callD (callW Try.prog A0) A0 H 43 [.p (.lst true 0 []), .p (.agg [.v (.int .i64 x1.Kind), .v (.string x1.Text), .lst b1 x1.Gaps.length (encL en_str x1.Gaps), .lst b2 x1.Kids.length (encL en_Node x1.Kids)]), iv x2] = some (.ref H.length 0 r.length 5, some (H ++ [.arr (encL en_Row r)])) :=
  callD_mut0 (args := [.lst true 0 [], .agg [.v (.int .i64 x1.Kind), .v (.string x1.Text), .lst false x1.Gaps.length (encL en_str x1.Gaps), .lst false x1.Kids.length (encL en_Node x1.Kids)], .v (.int .i64 x2)]) (by simp only [List.map_cons, List.map_nil, wkDv, wk, wks, wkL]) rfl (f43n_spec x1 x2 _ h)
def ls26 := @varlv_4_0_4
theorem f26_ok  (x0 : Node) (r : (List Row)) (h : R06_Rows x0 = some r) : callW Try.prog A0 26 [.p (.agg [.v (.int .i64 x0.Kind), .v (.string x0.Text), .lst false x0.Gaps.length (encL en_str x0.Gaps), .lst false x0.Kids.length (encL en_Node x0.Kids)])] [] = some (.p (.lst false r.length (encL en_Row r)), []) := by
 refine call_ofH (fn := Try.f26) (c := bodyOf Try.f26) rfl rfl (by kernel_rfl) (by kernel_rfl) ?_
 rw [show initS Try.f26 [.p (.agg [.v (.int .i64 x0.Kind), .v (.string x0.Text), .lst false x0.Gaps.length (encL en_str x0.Gaps), .lst false x0.Kids.length (encL en_Node x0.Kids)])] [] = ⟨.p (.agg [.v (.int .i64 x0.Kind), .v (.string x0.Text), .lst false x0.Gaps.length (encL en_str x0.Gaps), .lst false x0.Kids.length (encL en_Node x0.Kids)]) :: List.replicate 6 undefD, [], 0⟩ from by kernel_rfl]
 unfold R06_Rows at h
 unfold bodyOf Try.f26; simp only [Option.getD_some, loopsOf, List.append_nil, List.nil_append, List.cons_append, List.getD_cons_zero, List.getD_cons_succ]
 simp only [List.replicate]
 obtain ⟨r1, h2, h⟩ := Option.bind_eq_some_iff.1 h
 have h3 : ∀ H, callD (callW Try.prog A0) A0 H 43 [.p (.lst true 0 []), .p (.agg [.v (.int .i64 x0.Kind), .v (.string x0.Text), .lst false x0.Gaps.length (encL en_str x0.Gaps), .lst false x0.Kids.length (encL en_Node x0.Kids)]), iv (-1 : Int)] = some (.ref H.length 0 r1.length 5, some (H ++ [.arr (encL en_Row r1)])) := fun H => R06_rows_calln (H := H) h2
 obtain rfl := Option.some.inj h
 simp (maxSteps := 10000000) (implicitDefEqProofs := false) (disch := first | assumption | omega | exact rfl) only [bs, rs26, ls26, Nat.reduceAdd, ↓reduceIte, loadD_pagg a25 z25, h3]
 refine ⟨by first | exact .inl trivial | exact .inr trivial | simp, ?_⟩
 exact finish_is (ds := [.ref 1 0 r1.length 5]) (x := .lst false r1.length (encL en_Row r1)) (y := .lst false r1.length (encL en_Row r1)) (l := [1]) rfl rfl rfl (purify1_enc en_Row_len rfl (by first | rfl | omega)) (by first | rfl | (simp only [wk, wks, wkL]; first | done | rfl))
theorem R06_Rows_call {b1 b2 : Bool} {H : List Ob} {x0 : Node} {r : (List Row)} (h : R06_Rows x0 = some r) : callD (callW Try.prog A0) A0 H 26 [.p (.agg [.v (.int .i64 x0.Kind), .v (.string x0.Text), .lst b1 x0.Gaps.length (encL en_str x0.Gaps), .lst b2 x0.Kids.length (encL en_Node x0.Kids)])] = some (.p (.lst false r.length (encL en_Row r)), none) :=
  callD_fun (args := [.agg [.v (.int .i64 x0.Kind), .v (.string x0.Text), .lst b1 x0.Gaps.length (encL en_str x0.Gaps), .lst b2 x0.Kids.length (encL en_Node x0.Kids)]]) rfl rfl rfl (by simp only [List.map_cons, List.map_nil, wk, wks, wkL]; exact f26_ok x0 _ h)
def ls35 := And.intro @faI_39_0 (And.intro @faI_39_1 (@idxL_26))
noncomputable def L35_0 : Code := (loopsOf (bodyOf Try.f35)).getD 0 .skip
def g35_0 : List Ghost := [.weak [0], .keep [0, 1, 2, 7]]
def F35_0 (s0 : (List Pair)) (s1 : Int) (s2 : Bool) : Int → St := fun s7 => ⟨[.p (.lst false s0.length (encL en_Pair s0)), iv s1, bv s2, .junk, .junk, .junk, .junk, iv s7, .junk, .junk, .junk, .junk, .junk, .junk, .junk, .junk, .junk, .junk, .junk, .junk, .junk, .junk, .junk, .junk, .junk, .junk, .junk, .junk, .junk, .junk, .junk, .junk, .junk, .junk, .junk, .junk, .junk], [], 0⟩
theorem L35_0_ok (s0 : (List Pair)) (s1 : Int) (s2 : Bool) : ∀ s st o, ghostsD g35_0 st = some (F35_0 s0 s1 s2 s) → iter (R22_has_L0 s0 s1 s2) s = some o →
    Wp (evW Try.prog A0 35 (.loop L35_0) st) (OutQ (F35_0 s0 s1 s2) g35_0 (fun n s st => n = 0 ∧ ghostsD [.keep [0, 1, 2, 7]] st = some (F35_0 s0 s1 s2 s)) (fun r st => finishD Try.prog A0 35 Try.f35 st = some (.p (.v (.bool r)), [])) o) := by
 refine Wp.iter ?_
 intro s st o hg h
 generalize s = s7 at hg h
 unfold R22_has_L0 at h
 unfold g35_0 F35_0 at hg ⊢
 (try simp only [] at h hg)
 unfold L35_0 bodyOf Try.f35; simp only [Option.getD_some, loopsOf, List.append_nil, List.nil_append, List.cons_append, List.getD_cons_zero, List.getD_cons_succ]
 by_cases h1 : s7 < (s0.length : Int)
 ·rw [if_pos h1] at h
  have h1' : decide (s7 < (s0.length : Int)) = true := decide_eq_true h1
  by_cases h2 : s2 = true
  ·rw [if_pos h2] at h
   obtain ⟨v3, h4, h⟩ := Option.bind_eq_some_iff.1 h
   obtain ⟨h4a, h4b, _⟩ := rd_some h4
   have h5 := ce_39__0 h4
   by_cases h6 : v3.Old = s1
   ·rw [if_pos h6] at h
    have h6' : decide (v3.Old = s1) = true := decide_eq_true h6
    obtain rfl := Option.some.inj h
    simp (maxSteps := 10000000) (implicitDefEqProofs := false) (disch := first | assumption | omega | exact rfl) only [bs, rs35, ls35, Nat.reduceAdd, ↓reduceIte, lenD_lst u26, loadD_iptr a3, hg, ↓h1', h2, h5, ↓h6']
    refine ⟨rfl, ?_⟩
    exact finish_is (ds := [bv true]) (x := .v (.bool true)) (y := .v (.bool true)) (l := []) rfl rfl rfl rfl (by first | rfl | (simp only [wk, wks, wkL]; first | done | rfl))
   ·rw [if_neg h6] at h
    have h6' : decide (v3.Old = s1) = false := decide_eq_false h6
    obtain rfl := Option.some.inj h
    simp (maxSteps := 10000000) (implicitDefEqProofs := false) (disch := first | assumption | omega | exact rfl) only [bs, rs35, ls35, Nat.reduceAdd, ↓reduceIte, lenD_lst u26, loadD_iptr a3, hg, ↓h1', h2, h5, ↓h6']
    exact ⟨rfl, by kernel_rfl⟩
  ·rw [if_neg h2] at h
   replace h2 := Bool.eq_false_iff.2 h2
   obtain ⟨v7, h8, h⟩ := Option.bind_eq_some_iff.1 h
   obtain ⟨h8a, h8b, _⟩ := rd_some h8
   have h9 := ce_39__1 h8
   by_cases h10 : v7.New = s1
   ·rw [if_pos h10] at h
    have h10' : decide (v7.New = s1) = true := decide_eq_true h10
    obtain rfl := Option.some.inj h
    simp (maxSteps := 10000000) (implicitDefEqProofs := false) (disch := first | assumption | omega | exact rfl) only [bs, rs35, ls35, Nat.reduceAdd, ↓reduceIte, lenD_lst u26, loadD_iptr a3, hg, ↓h1', h2, h9, ↓h10']
    refine ⟨rfl, ?_⟩
    exact finish_is (ds := [bv true]) (x := .v (.bool true)) (y := .v (.bool true)) (l := []) rfl rfl rfl rfl (by first | rfl | (simp only [wk, wks, wkL]; first | done | rfl))
   ·rw [if_neg h10] at h
    have h10' : decide (v7.New = s1) = false := decide_eq_false h10
    obtain rfl := Option.some.inj h
    simp (maxSteps := 10000000) (implicitDefEqProofs := false) (disch := first | assumption | omega | exact rfl) only [bs, rs35, ls35, Nat.reduceAdd, ↓reduceIte, lenD_lst u26, loadD_iptr a3, hg, ↓h1', h2, h9, ↓h10']
    exact ⟨rfl, by kernel_rfl⟩
 ·rw [if_neg h1] at h
  have h1' : decide (s7 < (s0.length : Int)) = false := decide_eq_false h1
  obtain rfl := Option.some.inj h
  simp (maxSteps := 10000000) (implicitDefEqProofs := false) (disch := first | assumption | omega | exact rfl) only [bs, rs35, ls35, Nat.reduceAdd, ↓reduceIte, lenD_lst u26, loadD_iptr a3, hg, ↓h1']
  exact ⟨rfl, rfl, by kernel_rfl⟩
theorem f35_ok  (x0 : (List Pair)) (x1 : Int) (x2 : Bool) (r : Bool) (h : R22_has x0 x1 x2 = some r) : callW Try.prog A0 35 [.p (.lst false x0.length (encL en_Pair x0)), iv x1, bv x2] [] = some (.p (.v (.bool r)), []) := by
 refine call_ofH (fn := Try.f35) (c := bodyOf Try.f35) rfl rfl (by kernel_rfl) (by kernel_rfl) ?_
 rw [show initS Try.f35 [.p (.lst false x0.length (encL en_Pair x0)), iv x1, bv x2] [] = ⟨.p (.lst false x0.length (encL en_Pair x0)) :: iv x1 :: bv x2 :: List.replicate 34 undefD, [], 0⟩ from by kernel_rfl]
 unfold R22_has at h
 unfold bodyOf Try.f35; simp only [Option.getD_some, loopsOf, List.append_nil, List.nil_append, List.cons_append, List.getD_cons_zero, List.getD_cons_succ]
 simp only [List.replicate]
 obtain ⟨o, h11, h⟩ := Option.bind_eq_some_iff.1 h
 simp (maxSteps := 10000000) (implicitDefEqProofs := false) (disch := first | assumption | omega | exact rfl) only [bs, rs35, ls35, Nat.reduceAdd, ↓reduceIte, lenD_lst u26, loadD_iptr a3]
 refine Wp.ctx (fun x => seqW _ _ _ _ (blockW _ (x))) (L35_0_ok x0 x1 x2 (0 : Int) _ o (by kernel_rfl) h11) ?_
 intro e st hq
 cases o with
 | next _ => (first | cases h | (simp at h))
 | jmp n_ s_ =>
  obtain ⟨rfl, rfl, hq⟩ := hq
  generalize s_ = s7_12 at h hq
  unfold F35_0 at hq
  (try simp only [] at h hq)
  obtain rfl := Option.some.inj h
  simp (maxSteps := 10000000) (implicitDefEqProofs := false) (disch := first | assumption | omega | exact rfl) only [bs, rs35, ls35, Nat.reduceAdd, ↓reduceIte, lenD_lst u26, loadD_iptr a3, hq]
  refine ⟨by first | exact .inl trivial | exact .inr trivial | simp, ?_⟩
  exact finish_is (ds := [bv false]) (x := .v (.bool false)) (y := .v (.bool false)) (l := []) rfl rfl rfl rfl (by first | rfl | (simp only [wk, wks, wkL]; first | done | rfl))
 | ret r13 =>
  obtain ⟨rfl, hq⟩ := hq
  obtain rfl := Option.some.inj h
  simp (maxSteps := 10000000) (implicitDefEqProofs := false) (disch := first | assumption | omega | exact rfl) only [bs, rs35, ls35, Nat.reduceAdd, ↓reduceIte, lenD_lst u26, loadD_iptr a3]
  exact ⟨by first | exact .inl trivial | exact .inr trivial | simp, hq⟩
theorem R22_has_call {b1 : Bool} {H : List Ob} {x0 : (List Pair)} {x1 : Int} {x2 : Bool} {r : Bool} (h : R22_has x0 x1 x2 = some r) : callD (callW Try.prog A0) A0 H 35 [.p (.lst b1 x0.length (encL en_Pair x0)), iv x1, bv x2] = some (.p (.v (.bool r)), none) :=
  callD_fun (args := [.lst b1 x0.length (encL en_Pair x0), .v (.int .i64 x1), .v (.bool x2)]) rfl rfl rfl (by simp only [List.map_cons, List.map_nil, wk, wks, wkL]; exact f35_ok x0 x1 x2 _ h)
def ls15 := And.intro @al_39 (And.intro @faI_39_0 (And.intro @faI_58_1 (And.intro @faP_39_0 (And.intro @faP_39_1 (And.intro @idxL_26 (And.intro @idxL_49 (And.intro @sa_2_0_2 (And.intro @shi_26 (And.intro @varld_2_0_0 (And.intro @varld_2_0_1 (@varlv_4_0_4)))))))))))
noncomputable def L15_0 : Code := (loopsOf (bodyOf Try.f15)).getD 0 .skip
def g15_0 : List Ghost := [.weak [2, 7, 8], .keep [2, 7, 8, 9]]
def F15_0 (s2 : (List Pair)) (s7 : (List Row)) (s8 : (List Row)) : Int → St := fun s9 => ⟨[.junk, .junk, .p (.lst false s2.length (encL en_Pair s2)), .junk, .junk, .junk, .junk, .p (.lst false s7.length (encL en_Row s7)), .p (.lst false s8.length (encL en_Row s8)), iv s9, .junk, .junk, .junk, .junk, .junk, .junk, .junk, .junk, .junk, .junk, .junk, .junk, .junk, .junk, .junk, .junk, .junk, .junk, .junk, .junk, .junk, .junk, .junk, .junk, .junk, .junk, .junk, .junk, .junk, .junk, .junk, .junk, .junk, .junk, .junk, .junk, .junk, .junk, .junk, .junk, .junk, .junk, .junk, .junk, .junk, .junk, .junk, .junk, .junk, .junk, .junk, .junk, .junk, .junk, .junk, .junk, .junk, .junk, .junk, .junk, .junk, .junk, .junk, .junk, .junk, .junk, .junk, .junk, .junk, .junk, .junk, .junk, .junk, .junk, .junk, .junk, .junk, .junk, .junk, .junk, .junk, .junk], [], 0⟩
theorem L15_0_ok (s2 : (List Pair)) (s7 : (List Row)) (s8 : (List Row)) : ∀ s st o, ghostsD g15_0 st = some (F15_0 s2 s7 s8 s) → iter (R22_Partial_L0 s2 s7 s8) s = some o →
    Wp (evW Try.prog A0 15 (.loop L15_0) st) (OutQ (F15_0 s2 s7 s8) g15_0 (fun n s st => n = 0 ∧ ghostsD [.keep [2, 7, 8, 9]] st = some (F15_0 s2 s7 s8 s)) (fun r st => finishD Try.prog A0 15 Try.f15 st = some (.p (.v (.bool r)), [])) o) := by
 refine Wp.iter ?_
 intro s st o hg h
 generalize s = s9 at hg h
 unfold R22_Partial_L0 at h
 unfold g15_0 F15_0 at hg ⊢
 (try simp only [] at h hg)
 unfold L15_0 bodyOf Try.f15; simp only [Option.getD_some, loopsOf, List.append_nil, List.nil_append, List.cons_append, List.getD_cons_zero, List.getD_cons_succ]
 by_cases h7 : s9 < (s2.length : Int)
 ·rw [if_pos h7] at h
  have h7' : decide (s9 < (s2.length : Int)) = true := decide_eq_true h7
  obtain ⟨v8, h9, h⟩ := Option.bind_eq_some_iff.1 h
  obtain ⟨h9a, h9b, _⟩ := rd_some h9
  have h10 := lk_frz_39 h9
  by_cases h11 : v8.Old < (0 : Int)
  ·rw [if_pos h11] at h
   have h11' : decide (v8.Old < (0 : Int)) = true := decide_eq_true h11
   obtain rfl := Option.some.inj h
   simp (maxSteps := 10000000) (implicitDefEqProofs := false) (disch := first | assumption | omega | exact rfl) only [bs, rs15, ls15, Nat.reduceAdd, ↓reduceIte, binD_neq_bool Try.underlying4, lenD_lst u26, lenD_lst u49, loadD_iagg a39 z39, loadD_iptr a3, loadD_pagg a25 z25, loadD_ptr a3, storeD_agg z39, hg, ↓h7', h10, ↓h11']
   refine ⟨rfl, ?_⟩
   exact finish_is (ds := [bv false]) (x := .v (.bool false)) (y := .v (.bool false)) (l := []) rfl rfl rfl rfl (by first | rfl | (simp only [wk, wks, wkL]; first | done | rfl))
  ·rw [if_neg h11] at h
   have h11' : decide (v8.Old < (0 : Int)) = false := decide_eq_false h11
   by_cases h12 : (s7.length : Int) ≤ v8.Old
   ·rw [if_pos h12] at h
    have h12' : decide ((s7.length : Int) ≤ v8.Old) = true := decide_eq_true h12
    obtain rfl := Option.some.inj h
    simp (maxSteps := 10000000) (implicitDefEqProofs := false) (disch := first | assumption | omega | exact rfl) only [bs, rs15, ls15, Nat.reduceAdd, ↓reduceIte, binD_neq_bool Try.underlying4, lenD_lst u26, lenD_lst u49, loadD_iagg a39 z39, loadD_iptr a3, loadD_pagg a25 z25, loadD_ptr a3, storeD_agg z39, hg, ↓h7', h10, ↓h11', ↓h12']
    refine ⟨rfl, ?_⟩
    exact finish_is (ds := [bv false]) (x := .v (.bool false)) (y := .v (.bool false)) (l := []) rfl rfl rfl rfl (by first | rfl | (simp only [wk, wks, wkL]; first | done | rfl))
   ·rw [if_neg h12] at h
    have h12' : decide ((s7.length : Int) ≤ v8.Old) = false := decide_eq_false h12
    by_cases h13 : v8.New < (0 : Int)
    ·rw [if_pos h13] at h
     have h13' : decide (v8.New < (0 : Int)) = true := decide_eq_true h13
     obtain rfl := Option.some.inj h
     simp (maxSteps := 10000000) (implicitDefEqProofs := false) (disch := first | assumption | omega | exact rfl) only [bs, rs15, ls15, Nat.reduceAdd, ↓reduceIte, binD_neq_bool Try.underlying4, lenD_lst u26, lenD_lst u49, loadD_iagg a39 z39, loadD_iptr a3, loadD_pagg a25 z25, loadD_ptr a3, storeD_agg z39, hg, ↓h7', h10, ↓h11', ↓h12', ↓h13']
     refine ⟨rfl, ?_⟩
     exact finish_is (ds := [bv false]) (x := .v (.bool false)) (y := .v (.bool false)) (l := []) rfl rfl rfl rfl (by first | rfl | (simp only [wk, wks, wkL]; first | done | rfl))
    ·rw [if_neg h13] at h
     have h13' : decide (v8.New < (0 : Int)) = false := decide_eq_false h13
     by_cases h14 : (s8.length : Int) ≤ v8.New
     ·rw [if_pos h14] at h
      have h14' : decide ((s8.length : Int) ≤ v8.New) = true := decide_eq_true h14
      obtain rfl := Option.some.inj h
      simp (maxSteps := 10000000) (implicitDefEqProofs := false) (disch := first | assumption | omega | exact rfl) only [bs, rs15, ls15, Nat.reduceAdd, ↓reduceIte, binD_neq_bool Try.underlying4, lenD_lst u26, lenD_lst u49, loadD_iagg a39 z39, loadD_iptr a3, loadD_pagg a25 z25, loadD_ptr a3, storeD_agg z39, hg, ↓h7', h10, ↓h11', ↓h12', ↓h13', ↓h14']
      refine ⟨rfl, ?_⟩
      exact finish_is (ds := [bv false]) (x := .v (.bool false)) (y := .v (.bool false)) (l := []) rfl rfl rfl rfl (by first | rfl | (simp only [wk, wks, wkL]; first | done | rfl))
     ·rw [if_neg h14] at h
      have h14' : decide ((s8.length : Int) ≤ v8.New) = false := decide_eq_false h14
      by_cases h15 : (0 : Int) < s9
      ·rw [if_pos h15] at h
       have h15' : decide ((0 : Int) < s9) = true := decide_eq_true h15
       obtain ⟨v16, h17, h⟩ := Option.bind_eq_some_iff.1 h
       obtain ⟨h17a, h17b, _⟩ := rd_some h17
       have h18 := ce_39__0 h17
       by_cases h19 : v8.Old ≤ v16.Old
       ·rw [if_pos h19] at h
        have h19' : decide (v8.Old ≤ v16.Old) = true := decide_eq_true h19
        obtain rfl := Option.some.inj h
        simp (maxSteps := 10000000) (implicitDefEqProofs := false) (disch := first | assumption | omega | exact rfl) only [bs, rs15, ls15, Nat.reduceAdd, ↓reduceIte, binD_neq_bool Try.underlying4, lenD_lst u26, lenD_lst u49, loadD_iagg a39 z39, loadD_iptr a3, loadD_pagg a25 z25, loadD_ptr a3, storeD_agg z39, hg, ↓h7', h10, ↓h11', ↓h12', ↓h13', ↓h14', ↓h15', h18, ↓h19']
        refine ⟨rfl, ?_⟩
        exact finish_is (ds := [bv false]) (x := .v (.bool false)) (y := .v (.bool false)) (l := []) rfl rfl rfl rfl (by first | rfl | (simp only [wk, wks, wkL]; first | done | rfl))
       ·rw [if_neg h19] at h
        have h19' : decide (v8.Old ≤ v16.Old) = false := decide_eq_false h19
        by_cases hw_ : s9 ≤ (s2.length : Int)
        case neg => rw [if_neg hw_] at h; cases h
        rw [if_pos hw_] at h
        have h20 := hw_
        obtain ⟨r21, h22, h⟩ := Option.bind_eq_some_iff.1 h
        have h23 : ∀ H, callD (callW Try.prog A0) A0 H 35 [.p (.lst false (s2.take s9.toNat).length (encL en_Pair (s2.take s9.toNat))), iv v8.New, bv false] = some (.p (.v (.bool r21)), none) := fun H => R22_has_call h22
        by_cases h24 : r21 = true
        ·rw [if_pos h24] at h
         obtain rfl := Option.some.inj h
         simp (maxSteps := 10000000) (implicitDefEqProofs := false) (disch := first | assumption | omega | exact rfl) only [bs, rs15, ls15, Nat.reduceAdd, ↓reduceIte, binD_neq_bool Try.underlying4, lenD_lst u26, lenD_lst u49, loadD_iagg a39 z39, loadD_iptr a3, loadD_pagg a25 z25, loadD_ptr a3, storeD_agg z39, hg, ↓h7', h10, ↓h11', ↓h12', ↓h13', ↓h14', ↓h15', h18, ↓h19', h23, h24]
         refine ⟨rfl, ?_⟩
         exact finish_is (ds := [bv false]) (x := .v (.bool false)) (y := .v (.bool false)) (l := []) rfl rfl rfl rfl (by first | rfl | (simp only [wk, wks, wkL]; first | done | rfl))
        ·rw [if_neg h24] at h
         replace h24 := Bool.eq_false_iff.2 h24
         obtain ⟨v25, h26, h⟩ := Option.bind_eq_some_iff.1 h
         obtain ⟨h26a, h26b, _⟩ := rd_some h26
         have h27 := ce_58__1 h26
         obtain ⟨v28, h29, h⟩ := Option.bind_eq_some_iff.1 h
         obtain ⟨h29a, h29b, _⟩ := rd_some h29
         have h30 := ce_58__1 h29
         by_cases h31 : v25.Kind = v28.Kind
         ·rw [if_pos h31] at h
          have h31' : decide (v25.Kind = v28.Kind) = true := decide_eq_true h31
          by_cases h32 : (decide (v8.Old = (0 : Int))) = (decide (v8.New = (0 : Int)))
          ·rw [if_pos h32] at h
           have h32' : decide ((decide (v8.Old = (0 : Int))) = (decide (v8.New = (0 : Int)))) = true := decide_eq_true h32
           obtain rfl := Option.some.inj h
           simp (maxSteps := 10000000) (implicitDefEqProofs := false) (disch := first | assumption | omega | exact rfl) only [bs, rs15, ls15, Nat.reduceAdd, ↓reduceIte, binD_neq_bool Try.underlying4, lenD_lst u26, lenD_lst u49, loadD_iagg a39 z39, loadD_iptr a3, loadD_pagg a25 z25, loadD_ptr a3, storeD_agg z39, hg, ↓h7', h10, ↓h11', ↓h12', ↓h13', ↓h14', ↓h15', h18, ↓h19', h23, h24, h27, h30, ↓h31', ↓h32']
           exact ⟨rfl, by kernel_rfl⟩
          ·rw [if_neg h32] at h
           have h32' : decide ((decide (v8.Old = (0 : Int))) = (decide (v8.New = (0 : Int)))) = false := decide_eq_false h32
           obtain rfl := Option.some.inj h
           simp (maxSteps := 10000000) (implicitDefEqProofs := false) (disch := first | assumption | omega | exact rfl) only [bs, rs15, ls15, Nat.reduceAdd, ↓reduceIte, binD_neq_bool Try.underlying4, lenD_lst u26, lenD_lst u49, loadD_iagg a39 z39, loadD_iptr a3, loadD_pagg a25 z25, loadD_ptr a3, storeD_agg z39, hg, ↓h7', h10, ↓h11', ↓h12', ↓h13', ↓h14', ↓h15', h18, ↓h19', h23, h24, h27, h30, ↓h31', ↓h32']
           refine ⟨rfl, ?_⟩
           exact finish_is (ds := [bv false]) (x := .v (.bool false)) (y := .v (.bool false)) (l := []) rfl rfl rfl rfl (by first | rfl | (simp only [wk, wks, wkL]; first | done | rfl))
         ·rw [if_neg h31] at h
          have h31' : decide (v25.Kind = v28.Kind) = false := decide_eq_false h31
          obtain rfl := Option.some.inj h
          simp (maxSteps := 10000000) (implicitDefEqProofs := false) (disch := first | assumption | omega | exact rfl) only [bs, rs15, ls15, Nat.reduceAdd, ↓reduceIte, binD_neq_bool Try.underlying4, lenD_lst u26, lenD_lst u49, loadD_iagg a39 z39, loadD_iptr a3, loadD_pagg a25 z25, loadD_ptr a3, storeD_agg z39, hg, ↓h7', h10, ↓h11', ↓h12', ↓h13', ↓h14', ↓h15', h18, ↓h19', h23, h24, h27, h30, ↓h31']
          refine ⟨rfl, ?_⟩
          exact finish_is (ds := [bv false]) (x := .v (.bool false)) (y := .v (.bool false)) (l := []) rfl rfl rfl rfl (by first | rfl | (simp only [wk, wks, wkL]; first | done | rfl))
      ·rw [if_neg h15] at h
       have h15' : decide ((0 : Int) < s9) = false := decide_eq_false h15
       by_cases hw_ : s9 ≤ (s2.length : Int)
       case neg => rw [if_neg hw_] at h; cases h
       rw [if_pos hw_] at h
       have h33 := hw_
       obtain ⟨r34, h35, h⟩ := Option.bind_eq_some_iff.1 h
       have h36 : ∀ H, callD (callW Try.prog A0) A0 H 35 [.p (.lst false (s2.take s9.toNat).length (encL en_Pair (s2.take s9.toNat))), iv v8.New, bv false] = some (.p (.v (.bool r34)), none) := fun H => R22_has_call h35
       by_cases h37 : r34 = true
       ·rw [if_pos h37] at h
        obtain rfl := Option.some.inj h
        simp (maxSteps := 10000000) (implicitDefEqProofs := false) (disch := first | assumption | omega | exact rfl) only [bs, rs15, ls15, Nat.reduceAdd, ↓reduceIte, binD_neq_bool Try.underlying4, lenD_lst u26, lenD_lst u49, loadD_iagg a39 z39, loadD_iptr a3, loadD_pagg a25 z25, loadD_ptr a3, storeD_agg z39, hg, ↓h7', h10, ↓h11', ↓h12', ↓h13', ↓h14', ↓h15', h36, h37]
        refine ⟨rfl, ?_⟩
        exact finish_is (ds := [bv false]) (x := .v (.bool false)) (y := .v (.bool false)) (l := []) rfl rfl rfl rfl (by first | rfl | (simp only [wk, wks, wkL]; first | done | rfl))
       ·rw [if_neg h37] at h
        replace h37 := Bool.eq_false_iff.2 h37
        obtain ⟨v38, h39, h⟩ := Option.bind_eq_some_iff.1 h
        obtain ⟨h39a, h39b, _⟩ := rd_some h39
        have h40 := ce_58__1 h39
        obtain ⟨v41, h42, h⟩ := Option.bind_eq_some_iff.1 h
        obtain ⟨h42a, h42b, _⟩ := rd_some h42
        have h43 := ce_58__1 h42
        by_cases h44 : v38.Kind = v41.Kind
        ·rw [if_pos h44] at h
         have h44' : decide (v38.Kind = v41.Kind) = true := decide_eq_true h44
         by_cases h45 : (decide (v8.Old = (0 : Int))) = (decide (v8.New = (0 : Int)))
         ·rw [if_pos h45] at h
          have h45' : decide ((decide (v8.Old = (0 : Int))) = (decide (v8.New = (0 : Int)))) = true := decide_eq_true h45
          obtain rfl := Option.some.inj h
          simp (maxSteps := 10000000) (implicitDefEqProofs := false) (disch := first | assumption | omega | exact rfl) only [bs, rs15, ls15, Nat.reduceAdd, ↓reduceIte, binD_neq_bool Try.underlying4, lenD_lst u26, lenD_lst u49, loadD_iagg a39 z39, loadD_iptr a3, loadD_pagg a25 z25, loadD_ptr a3, storeD_agg z39, hg, ↓h7', h10, ↓h11', ↓h12', ↓h13', ↓h14', ↓h15', h36, h37, h40, h43, ↓h44', ↓h45']
          exact ⟨rfl, by kernel_rfl⟩
         ·rw [if_neg h45] at h
          have h45' : decide ((decide (v8.Old = (0 : Int))) = (decide (v8.New = (0 : Int)))) = false := decide_eq_false h45
          obtain rfl := Option.some.inj h
          simp (maxSteps := 10000000) (implicitDefEqProofs := false) (disch := first | assumption | omega | exact rfl) only [bs, rs15, ls15, Nat.reduceAdd, ↓reduceIte, binD_neq_bool Try.underlying4, lenD_lst u26, lenD_lst u49, loadD_iagg a39 z39, loadD_iptr a3, loadD_pagg a25 z25, loadD_ptr a3, storeD_agg z39, hg, ↓h7', h10, ↓h11', ↓h12', ↓h13', ↓h14', ↓h15', h36, h37, h40, h43, ↓h44', ↓h45']
          refine ⟨rfl, ?_⟩
          exact finish_is (ds := [bv false]) (x := .v (.bool false)) (y := .v (.bool false)) (l := []) rfl rfl rfl rfl (by first | rfl | (simp only [wk, wks, wkL]; first | done | rfl))
        ·rw [if_neg h44] at h
         have h44' : decide (v38.Kind = v41.Kind) = false := decide_eq_false h44
         obtain rfl := Option.some.inj h
         simp (maxSteps := 10000000) (implicitDefEqProofs := false) (disch := first | assumption | omega | exact rfl) only [bs, rs15, ls15, Nat.reduceAdd, ↓reduceIte, binD_neq_bool Try.underlying4, lenD_lst u26, lenD_lst u49, loadD_iagg a39 z39, loadD_iptr a3, loadD_pagg a25 z25, loadD_ptr a3, storeD_agg z39, hg, ↓h7', h10, ↓h11', ↓h12', ↓h13', ↓h14', ↓h15', h36, h37, h40, h43, ↓h44']
         refine ⟨rfl, ?_⟩
         exact finish_is (ds := [bv false]) (x := .v (.bool false)) (y := .v (.bool false)) (l := []) rfl rfl rfl rfl (by first | rfl | (simp only [wk, wks, wkL]; first | done | rfl))
 ·rw [if_neg h7] at h
  have h7' : decide (s9 < (s2.length : Int)) = false := decide_eq_false h7
  obtain rfl := Option.some.inj h
  simp (maxSteps := 10000000) (implicitDefEqProofs := false) (disch := first | assumption | omega | exact rfl) only [bs, rs15, ls15, Nat.reduceAdd, ↓reduceIte, binD_neq_bool Try.underlying4, lenD_lst u26, lenD_lst u49, loadD_iagg a39 z39, loadD_iptr a3, loadD_pagg a25 z25, loadD_ptr a3, storeD_agg z39, hg, ↓h7']
  exact ⟨rfl, rfl, by kernel_rfl⟩
theorem f15_ok  (x0 : Node) (x1 : Node) (x2 : (List Pair)) (r : Bool) (h : R22_Partial x0 x1 x2 = some r) : callW Try.prog A0 15 [.p (.agg [.v (.int .i64 x0.Kind), .v (.string x0.Text), .lst false x0.Gaps.length (encL en_str x0.Gaps), .lst false x0.Kids.length (encL en_Node x0.Kids)]), .p (.agg [.v (.int .i64 x1.Kind), .v (.string x1.Text), .lst false x1.Gaps.length (encL en_str x1.Gaps), .lst false x1.Kids.length (encL en_Node x1.Kids)]), .p (.lst false x2.length (encL en_Pair x2))] [] = some (.p (.v (.bool r)), []) := by
 refine call_ofH (fn := Try.f15) (c := bodyOf Try.f15) rfl rfl (by kernel_rfl) (by kernel_rfl) ?_
 rw [show initS Try.f15 [.p (.agg [.v (.int .i64 x0.Kind), .v (.string x0.Text), .lst false x0.Gaps.length (encL en_str x0.Gaps), .lst false x0.Kids.length (encL en_Node x0.Kids)]), .p (.agg [.v (.int .i64 x1.Kind), .v (.string x1.Text), .lst false x1.Gaps.length (encL en_str x1.Gaps), .lst false x1.Kids.length (encL en_Node x1.Kids)]), .p (.lst false x2.length (encL en_Pair x2))] [] = ⟨.p (.agg [.v (.int .i64 x0.Kind), .v (.string x0.Text), .lst false x0.Gaps.length (encL en_str x0.Gaps), .lst false x0.Kids.length (encL en_Node x0.Kids)]) :: .p (.agg [.v (.int .i64 x1.Kind), .v (.string x1.Text), .lst false x1.Gaps.length (encL en_str x1.Gaps), .lst false x1.Kids.length (encL en_Node x1.Kids)]) :: .p (.lst false x2.length (encL en_Pair x2)) :: List.replicate 89 undefD, [], 0⟩ from by kernel_rfl]
 unfold R22_Partial at h
 unfold bodyOf Try.f15; simp only [Option.getD_some, loopsOf, List.append_nil, List.nil_append, List.cons_append, List.getD_cons_zero, List.getD_cons_succ]
 simp only [List.replicate]
 obtain ⟨r1, h2, h⟩ := Option.bind_eq_some_iff.1 h
 have h3 : ∀ H, callD (callW Try.prog A0) A0 H 26 [.p (.agg [.v (.int .i64 x0.Kind), .v (.string x0.Text), .lst false x0.Gaps.length (encL en_str x0.Gaps), .lst false x0.Kids.length (encL en_Node x0.Kids)])] = some (.p (.lst false r1.length (encL en_Row r1)), none) := fun H => R06_Rows_call h2
 obtain ⟨r4, h5, h⟩ := Option.bind_eq_some_iff.1 h
 have h6 : ∀ H, callD (callW Try.prog A0) A0 H 26 [.p (.agg [.v (.int .i64 x1.Kind), .v (.string x1.Text), .lst false x1.Gaps.length (encL en_str x1.Gaps), .lst false x1.Kids.length (encL en_Node x1.Kids)])] = some (.p (.lst false r4.length (encL en_Row r4)), none) := fun H => R06_Rows_call h5
 obtain ⟨o, h46, h⟩ := Option.bind_eq_some_iff.1 h
 simp (maxSteps := 10000000) (implicitDefEqProofs := false) (disch := first | assumption | omega | exact rfl) only [bs, rs15, ls15, Nat.reduceAdd, ↓reduceIte, binD_neq_bool Try.underlying4, lenD_lst u26, lenD_lst u49, loadD_iagg a39 z39, loadD_iptr a3, loadD_pagg a25 z25, loadD_ptr a3, storeD_agg z39, h3, h6]
 refine Wp.ctx (fun x => seqW _ _ _ _ (blockW _ (x))) (L15_0_ok x2 r1 r4 (0 : Int) _ o (by kernel_rfl) h46) ?_
 intro e st hq
 cases o with
 | next _ => (first | cases h | (simp at h))
 | jmp n_ s_ =>
  obtain ⟨rfl, rfl, hq⟩ := hq
  generalize s_ = s9_47 at h hq
  unfold F15_0 at hq
  (try simp only [] at h hq)
  obtain rfl := Option.some.inj h
  simp (maxSteps := 10000000) (implicitDefEqProofs := false) (disch := first | assumption | omega | exact rfl) only [bs, rs15, ls15, Nat.reduceAdd, ↓reduceIte, binD_neq_bool Try.underlying4, lenD_lst u26, lenD_lst u49, loadD_iagg a39 z39, loadD_iptr a3, loadD_pagg a25 z25, loadD_ptr a3, storeD_agg z39, h3, h6, hq]
  refine ⟨by first | exact .inl trivial | exact .inr trivial | simp, ?_⟩
  exact finish_is (ds := [bv true]) (x := .v (.bool true)) (y := .v (.bool true)) (l := []) rfl rfl rfl rfl (by first | rfl | (simp only [wk, wks, wkL]; first | done | rfl))
 | ret r48 =>
  obtain ⟨rfl, hq⟩ := hq
  obtain rfl := Option.some.inj h
  simp (maxSteps := 10000000) (implicitDefEqProofs := false) (disch := first | assumption | omega | exact rfl) only [bs, rs15, ls15, Nat.reduceAdd, ↓reduceIte, binD_neq_bool Try.underlying4, lenD_lst u26, lenD_lst u49, loadD_iagg a39 z39, loadD_iptr a3, loadD_pagg a25 z25, loadD_ptr a3, storeD_agg z39]
  exact ⟨by first | exact .inl trivial | exact .inr trivial | simp, hq⟩
theorem R22_Partial_call {b1 b2 b3 b4 b5 : Bool} {H : List Ob} {x0 : Node} {x1 : Node} {x2 : (List Pair)} {r : Bool} (h : R22_Partial x0 x1 x2 = some r) : callD (callW Try.prog A0) A0 H 15 [.p (.agg [.v (.int .i64 x0.Kind), .v (.string x0.Text), .lst b1 x0.Gaps.length (encL en_str x0.Gaps), .lst b2 x0.Kids.length (encL en_Node x0.Kids)]), .p (.agg [.v (.int .i64 x1.Kind), .v (.string x1.Text), .lst b3 x1.Gaps.length (encL en_str x1.Gaps), .lst b4 x1.Kids.length (encL en_Node x1.Kids)]), .p (.lst b5 x2.length (encL en_Pair x2))] = some (.p (.v (.bool r)), none) :=
  callD_fun (args := [.agg [.v (.int .i64 x0.Kind), .v (.string x0.Text), .lst b1 x0.Gaps.length (encL en_str x0.Gaps), .lst b2 x0.Kids.length (encL en_Node x0.Kids)], .agg [.v (.int .i64 x1.Kind), .v (.string x1.Text), .lst b3 x1.Gaps.length (encL en_str x1.Gaps), .lst b4 x1.Kids.length (encL en_Node x1.Kids)], .lst b5 x2.length (encL en_Pair x2)]) rfl rfl rfl (by simp only [List.map_cons, List.map_nil, wk, wks, wkL]; exact f15_ok x0 x1 x2 _ h)
def ls42 := And.intro @faI_58_4 (And.intro @idxL_49 (@idxL_52))
noncomputable def L42_0 : Code := (loopsOf (bodyOf Try.f42)).getD 0 .skip
def g42_0 : List Ghost := [.weak [0], .keep [0, 1]]
def F42_0 (s0 : (List Row)) : Int → St := fun s1 => ⟨[.p (.lst false s0.length (encL en_Row s0)), iv s1, .junk, .junk, .junk, .junk, .junk, .junk, .junk, .junk, .junk, .junk, .junk, .junk, .junk, .junk, .junk, .junk, .junk, .junk, .junk, .junk, .junk, .junk, .junk, .junk, .junk, .junk], [], 0⟩
theorem L42_0_ok (s0 : (List Row)) : ∀ s st o, ghostsD g42_0 st = some (F42_0 s0 s) → iter (R22_end_L0 s0) s = some o →
    Wp (evW Try.prog A0 42 (.loop L42_0) st) (OutQ (F42_0 s0) g42_0 (fun n s st => n = 0 ∧ ghostsD [.keep [0, 1]] st = some (F42_0 s0 s)) (fun r st => finishD Try.prog A0 42 Try.f42 st = some (.p (.v (.int .i64 r)), [])) o) := by
 refine Wp.iter ?_
 intro s st o hg h
 generalize s = s1 at hg h
 unfold R22_end_L0 at h
 unfold g42_0 F42_0 at hg ⊢
 (try simp only [] at h hg)
 unfold L42_0 bodyOf Try.f42; simp only [Option.getD_some, loopsOf, List.append_nil, List.nil_append, List.cons_append, List.getD_cons_zero, List.getD_cons_succ]
 obtain ⟨v1, h2, h⟩ := Option.bind_eq_some_iff.1 h
 obtain ⟨h2a, h2b, _⟩ := rd_some h2
 have h3 := ce_58__4 h2
 by_cases h4 : (0 : Int) < (v1.Kids.length : Int)
 ·rw [if_pos h4] at h
  have h4' : decide ((0 : Int) < (v1.Kids.length : Int)) = true := decide_eq_true h4
  have h5 := ce_58__4 h2
  have h6 := ce_58__4 h2
  obtain ⟨v7, h8, h⟩ := Option.bind_eq_some_iff.1 h
  obtain ⟨h8a, h8b, _⟩ := rd_some h8
  have h9 := ce_3_x h8
  obtain rfl := Option.some.inj h
  simp (maxSteps := 10000000) (implicitDefEqProofs := false) (disch := first | assumption | omega | exact rfl) only [bs, rs42, ls42, Nat.reduceAdd, ↓reduceIte, lenD_lst u52, loadD_iptr a3, loadD_iptr a52, hg, h3, ↓h4', h5, h6, h9]
  exact ⟨rfl, by kernel_rfl⟩
 ·rw [if_neg h4] at h
  have h4' : decide ((0 : Int) < (v1.Kids.length : Int)) = false := decide_eq_false h4
  obtain rfl := Option.some.inj h
  simp (maxSteps := 10000000) (implicitDefEqProofs := false) (disch := first | assumption | omega | exact rfl) only [bs, rs42, ls42, Nat.reduceAdd, ↓reduceIte, lenD_lst u52, loadD_iptr a3, loadD_iptr a52, hg, h3, ↓h4']
  exact ⟨rfl, rfl, by kernel_rfl⟩
theorem f42_ok  (x0 : (List Row)) (x1 : Int) (r : Int) (h : R22_end x0 x1 = some r) : callW Try.prog A0 42 [.p (.lst false x0.length (encL en_Row x0)), iv x1] [] = some (.p (.v (.int .i64 r)), []) := by
 refine call_ofH (fn := Try.f42) (c := bodyOf Try.f42) rfl rfl (by kernel_rfl) (by kernel_rfl) ?_
 rw [show initS Try.f42 [.p (.lst false x0.length (encL en_Row x0)), iv x1] [] = ⟨.p (.lst false x0.length (encL en_Row x0)) :: iv x1 :: List.replicate 26 undefD, [], 0⟩ from by kernel_rfl]
 unfold R22_end at h
 unfold bodyOf Try.f42; simp only [Option.getD_some, loopsOf, List.append_nil, List.nil_append, List.cons_append, List.getD_cons_zero, List.getD_cons_succ]
 simp only [List.replicate]
 obtain ⟨o, h10, h⟩ := Option.bind_eq_some_iff.1 h
 simp (maxSteps := 10000000) (implicitDefEqProofs := false) (disch := first | assumption | omega | exact rfl) only [bs, rs42, ls42, Nat.reduceAdd, ↓reduceIte, lenD_lst u52, loadD_iptr a3, loadD_iptr a52]
 refine Wp.ctx (fun x => seqW _ _ _ _ (blockW _ (x))) (L42_0_ok x0 x1 _ o (by kernel_rfl) h10) ?_
 intro e st hq
 cases o with
 | next _ => (first | cases h | (simp at h))
 | jmp n_ s_ =>
  obtain ⟨rfl, rfl, hq⟩ := hq
  generalize s_ = s1_11 at h hq
  unfold F42_0 at hq
  (try simp only [] at h hq)
  obtain rfl := Option.some.inj h
  simp (maxSteps := 10000000) (implicitDefEqProofs := false) (disch := first | assumption | omega | exact rfl) only [bs, rs42, ls42, Nat.reduceAdd, ↓reduceIte, lenD_lst u52, loadD_iptr a3, loadD_iptr a52, hq]
  refine ⟨by first | exact .inl trivial | exact .inr trivial | simp, ?_⟩
  exact finish_is (ds := [iv (w64 (s1_11 + (1 : Int)))]) (x := .v (.int .i64 (w64 (s1_11 + (1 : Int))))) (y := .v (.int .i64 (w64 (s1_11 + (1 : Int))))) (l := []) rfl rfl rfl rfl (by first | rfl | (simp only [wk, wks, wkL]; first | done | rfl))
 | ret _ => (first | cases h | (simp at h))
theorem R22_end_call {b1 : Bool} {H : List Ob} {x0 : (List Row)} {x1 : Int} {r : Int} (h : R22_end x0 x1 = some r) : callD (callW Try.prog A0) A0 H 42 [.p (.lst b1 x0.length (encL en_Row x0)), iv x1] = some (.p (.v (.int .i64 r)), none) :=
  callD_fun (args := [.lst b1 x0.length (encL en_Row x0), .v (.int .i64 x1)]) rfl rfl rfl (by simp only [List.map_cons, List.map_nil, wk, wks, wkL]; exact f42_ok x0 x1 _ h)
def ls25 := And.intro @faI_39_0 (And.intro @faI_39_1 (@idxL_26))
noncomputable def L25_0 : Code := (loopsOf (bodyOf Try.f25)).getD 0 .skip
def g25_0 : List Ghost := [.weak [0, 1, 2], .keep [0, 1, 2, 3, 4, 12, 13]]
def F25_0 (s0 : (List Row)) (s1 : (List Row)) (s2 : (List Pair)) (s3 : Int) (s4 : Int) : (Int × Int) → St := fun (s12, s13) => ⟨[.p (.lst false s0.length (encL en_Row s0)), .p (.lst false s1.length (encL en_Row s1)), .p (.lst false s2.length (encL en_Pair s2)), iv s3, iv s4, .junk, .junk, .junk, .junk, .junk, .junk, .junk, iv s12, iv s13, .junk, .junk, .junk, .junk, .junk, .junk, .junk, .junk, .junk, .junk, .junk, .junk, .junk, .junk, .junk, .junk, .junk, .junk, .junk, .junk, .junk, .junk, .junk, .junk, .junk, .junk, .junk, .junk, .junk, .junk, .junk, .junk, .junk, .junk, .junk, .junk, .junk, .junk, .junk, .junk, .junk, .junk, .junk, .junk, .junk, .junk, .junk, .junk, .junk, .junk, .junk, .junk, .junk, .junk, .junk, .junk, .junk, .junk, .junk, .junk, .junk, .junk, .junk, .junk, .junk, .junk, .junk, .junk, .junk, .junk, .junk, .junk, .junk, .junk, .junk, .junk, .junk, .junk], [], 0⟩
theorem L25_0_ok (s0 : (List Row)) (s1 : (List Row)) (s2 : (List Pair)) (s3 : Int) (s4 : Int) : ∀ s st o, ghostsD g25_0 st = some (F25_0 s0 s1 s2 s3 s4 s) → iter (R22_score_L0 s0 s1 s2 s3 s4) s = some o →
    Wp (evW Try.prog A0 25 (.loop L25_0) st) (OutQ (F25_0 s0 s1 s2 s3 s4) g25_0 (fun n s st => n = 0 ∧ ghostsD [.keep [0, 1, 2, 3, 4, 12, 13]] st = some (F25_0 s0 s1 s2 s3 s4 s)) (fun r st => finishD Try.prog A0 25 Try.f25 st = some (.p (.tup [.v (.int .i64 r.1), .v (.int .i64 r.2)]), [])) o) := by
 refine Wp.iter ?_
 intro s st o hg h
 obtain ⟨s12, s13⟩ := s
 unfold R22_score_L0 at h
 unfold g25_0 F25_0 at hg ⊢
 (try simp only [] at h hg)
 unfold L25_0 bodyOf Try.f25; simp only [Option.getD_some, loopsOf, List.append_nil, List.nil_append, List.cons_append, List.getD_cons_zero, List.getD_cons_succ]
 by_cases h5 : s13 < (s2.length : Int)
 ·rw [if_pos h5] at h
  have h5' : decide (s13 < (s2.length : Int)) = true := decide_eq_true h5
  obtain ⟨v6, h7, h⟩ := Option.bind_eq_some_iff.1 h
  obtain ⟨h7a, h7b, _⟩ := rd_some h7
  have h8 := ce_39__0 h7
  by_cases h9 : s3 < v6.Old
  ·rw [if_pos h9] at h
   have h9' : decide (s3 < v6.Old) = true := decide_eq_true h9
   have h10 := ce_39__0 h7
   obtain ⟨r11, h12, h⟩ := Option.bind_eq_some_iff.1 h
   have h13 : ∀ H, callD (callW Try.prog A0) A0 H 42 [.p (.lst false s0.length (encL en_Row s0)), iv s3] = some (.p (.v (.int .i64 r11)), none) := fun H => R22_end_call h12
   by_cases h14 : v6.Old < r11
   ·rw [if_pos h14] at h
    have h14' : decide (v6.Old < r11) = true := decide_eq_true h14
    have h15 := ce_39__1 h7
    by_cases h16 : s4 < v6.New
    ·rw [if_pos h16] at h
     have h16' : decide (s4 < v6.New) = true := decide_eq_true h16
     have h17 := ce_39__1 h7
     obtain ⟨r18, h19, h⟩ := Option.bind_eq_some_iff.1 h
     have h20 : ∀ H, callD (callW Try.prog A0) A0 H 42 [.p (.lst false s1.length (encL en_Row s1)), iv s4] = some (.p (.v (.int .i64 r18)), none) := fun H => R22_end_call h19
     by_cases h21 : v6.New < r18
     ·rw [if_pos h21] at h
      have h21' : decide (v6.New < r18) = true := decide_eq_true h21
      obtain rfl := Option.some.inj h
      simp (maxSteps := 10000000) (implicitDefEqProofs := false) (disch := first | assumption | omega | exact rfl) only [bs, rs25, ls25, Nat.reduceAdd, ↓reduceIte, lenD_lst u26, lenD_lst u49, loadD_iptr a3, hg, ↓h5', h8, ↓h9', h10, h13, ↓h14', h15, ↓h16', h17, h20, ↓h21']
      exact ⟨rfl, by kernel_rfl⟩
     ·rw [if_neg h21] at h
      have h21' : decide (v6.New < r18) = false := decide_eq_false h21
      obtain rfl := Option.some.inj h
      simp (maxSteps := 10000000) (implicitDefEqProofs := false) (disch := first | assumption | omega | exact rfl) only [bs, rs25, ls25, Nat.reduceAdd, ↓reduceIte, lenD_lst u26, lenD_lst u49, loadD_iptr a3, hg, ↓h5', h8, ↓h9', h10, h13, ↓h14', h15, ↓h16', h17, h20, ↓h21']
      exact ⟨rfl, by kernel_rfl⟩
    ·rw [if_neg h16] at h
     have h16' : decide (s4 < v6.New) = false := decide_eq_false h16
     obtain rfl := Option.some.inj h
     simp (maxSteps := 10000000) (implicitDefEqProofs := false) (disch := first | assumption | omega | exact rfl) only [bs, rs25, ls25, Nat.reduceAdd, ↓reduceIte, lenD_lst u26, lenD_lst u49, loadD_iptr a3, hg, ↓h5', h8, ↓h9', h10, h13, ↓h14', h15, ↓h16']
     exact ⟨rfl, by kernel_rfl⟩
   ·rw [if_neg h14] at h
    have h14' : decide (v6.Old < r11) = false := decide_eq_false h14
    obtain rfl := Option.some.inj h
    simp (maxSteps := 10000000) (implicitDefEqProofs := false) (disch := first | assumption | omega | exact rfl) only [bs, rs25, ls25, Nat.reduceAdd, ↓reduceIte, lenD_lst u26, lenD_lst u49, loadD_iptr a3, hg, ↓h5', h8, ↓h9', h10, h13, ↓h14']
    exact ⟨rfl, by kernel_rfl⟩
  ·rw [if_neg h9] at h
   have h9' : decide (s3 < v6.Old) = false := decide_eq_false h9
   obtain rfl := Option.some.inj h
   simp (maxSteps := 10000000) (implicitDefEqProofs := false) (disch := first | assumption | omega | exact rfl) only [bs, rs25, ls25, Nat.reduceAdd, ↓reduceIte, lenD_lst u26, lenD_lst u49, loadD_iptr a3, hg, ↓h5', h8, ↓h9']
   exact ⟨rfl, by kernel_rfl⟩
 ·rw [if_neg h5] at h
  have h5' : decide (s13 < (s2.length : Int)) = false := decide_eq_false h5
  obtain rfl := Option.some.inj h
  simp (maxSteps := 10000000) (implicitDefEqProofs := false) (disch := first | assumption | omega | exact rfl) only [bs, rs25, ls25, Nat.reduceAdd, ↓reduceIte, lenD_lst u26, lenD_lst u49, loadD_iptr a3, hg, ↓h5']
  exact ⟨rfl, rfl, by kernel_rfl⟩
theorem f25_ok  (x0 : (List Row)) (x1 : (List Row)) (x2 : (List Pair)) (x3 : Int) (x4 : Int) (r : (Int × Int)) (h : R22_score x0 x1 x2 x3 x4 = some r) : callW Try.prog A0 25 [.p (.lst false x0.length (encL en_Row x0)), .p (.lst false x1.length (encL en_Row x1)), .p (.lst false x2.length (encL en_Pair x2)), iv x3, iv x4] [] = some (.p (.tup [.v (.int .i64 r.1), .v (.int .i64 r.2)]), []) := by
 refine call_ofH (fn := Try.f25) (c := bodyOf Try.f25) rfl rfl (by kernel_rfl) (by kernel_rfl) ?_
 rw [show initS Try.f25 [.p (.lst false x0.length (encL en_Row x0)), .p (.lst false x1.length (encL en_Row x1)), .p (.lst false x2.length (encL en_Pair x2)), iv x3, iv x4] [] = ⟨.p (.lst false x0.length (encL en_Row x0)) :: .p (.lst false x1.length (encL en_Row x1)) :: .p (.lst false x2.length (encL en_Pair x2)) :: iv x3 :: iv x4 :: List.replicate 87 undefD, [], 0⟩ from by kernel_rfl]
 unfold R22_score at h
 unfold bodyOf Try.f25; simp only [Option.getD_some, loopsOf, List.append_nil, List.nil_append, List.cons_append, List.getD_cons_zero, List.getD_cons_succ]
 simp only [List.replicate]
 by_cases h1 : x3 < (0 : Int)
 ·rw [if_pos h1] at h
  have h1' : decide (x3 < (0 : Int)) = true := decide_eq_true h1
  obtain rfl := Option.some.inj h
  simp (maxSteps := 10000000) (implicitDefEqProofs := false) (disch := first | assumption | omega | exact rfl) only [bs, rs25, ls25, Nat.reduceAdd, ↓reduceIte, lenD_lst u26, lenD_lst u49, loadD_iptr a3, ↓h1']
  refine ⟨by first | exact .inl trivial | exact .inr trivial | simp, ?_⟩
  exact finish_is (ds := [iv (0 : Int), iv (0 : Int)]) (x := .tup [.v (.int .i64 (0 : Int)), .v (.int .i64 (0 : Int))]) (y := .tup [.v (.int .i64 (0 : Int)), .v (.int .i64 (0 : Int))]) (l := []) rfl rfl rfl rfl (by first | rfl | (simp only [wk, wks, wkL]; first | done | rfl))
 ·rw [if_neg h1] at h
  have h1' : decide (x3 < (0 : Int)) = false := decide_eq_false h1
  by_cases h2 : (x0.length : Int) ≤ x3
  ·rw [if_pos h2] at h
   have h2' : decide ((x0.length : Int) ≤ x3) = true := decide_eq_true h2
   obtain rfl := Option.some.inj h
   simp (maxSteps := 10000000) (implicitDefEqProofs := false) (disch := first | assumption | omega | exact rfl) only [bs, rs25, ls25, Nat.reduceAdd, ↓reduceIte, lenD_lst u26, lenD_lst u49, loadD_iptr a3, ↓h1', ↓h2']
   refine ⟨by first | exact .inl trivial | exact .inr trivial | simp, ?_⟩
   exact finish_is (ds := [iv (0 : Int), iv (0 : Int)]) (x := .tup [.v (.int .i64 (0 : Int)), .v (.int .i64 (0 : Int))]) (y := .tup [.v (.int .i64 (0 : Int)), .v (.int .i64 (0 : Int))]) (l := []) rfl rfl rfl rfl (by first | rfl | (simp only [wk, wks, wkL]; first | done | rfl))
  ·rw [if_neg h2] at h
   have h2' : decide ((x0.length : Int) ≤ x3) = false := decide_eq_false h2
   by_cases h3 : x4 < (0 : Int)
   ·rw [if_pos h3] at h
    have h3' : decide (x4 < (0 : Int)) = true := decide_eq_true h3
    obtain rfl := Option.some.inj h
    simp (maxSteps := 10000000) (implicitDefEqProofs := false) (disch := first | assumption | omega | exact rfl) only [bs, rs25, ls25, Nat.reduceAdd, ↓reduceIte, lenD_lst u26, lenD_lst u49, loadD_iptr a3, ↓h1', ↓h2', ↓h3']
    refine ⟨by first | exact .inl trivial | exact .inr trivial | simp, ?_⟩
    exact finish_is (ds := [iv (0 : Int), iv (0 : Int)]) (x := .tup [.v (.int .i64 (0 : Int)), .v (.int .i64 (0 : Int))]) (y := .tup [.v (.int .i64 (0 : Int)), .v (.int .i64 (0 : Int))]) (l := []) rfl rfl rfl rfl (by first | rfl | (simp only [wk, wks, wkL]; first | done | rfl))
   ·rw [if_neg h3] at h
    have h3' : decide (x4 < (0 : Int)) = false := decide_eq_false h3
    by_cases h4 : (x1.length : Int) ≤ x4
    ·rw [if_pos h4] at h
     have h4' : decide ((x1.length : Int) ≤ x4) = true := decide_eq_true h4
     obtain rfl := Option.some.inj h
     simp (maxSteps := 10000000) (implicitDefEqProofs := false) (disch := first | assumption | omega | exact rfl) only [bs, rs25, ls25, Nat.reduceAdd, ↓reduceIte, lenD_lst u26, lenD_lst u49, loadD_iptr a3, ↓h1', ↓h2', ↓h3', ↓h4']
     refine ⟨by first | exact .inl trivial | exact .inr trivial | simp, ?_⟩
     exact finish_is (ds := [iv (0 : Int), iv (0 : Int)]) (x := .tup [.v (.int .i64 (0 : Int)), .v (.int .i64 (0 : Int))]) (y := .tup [.v (.int .i64 (0 : Int)), .v (.int .i64 (0 : Int))]) (l := []) rfl rfl rfl rfl (by first | rfl | (simp only [wk, wks, wkL]; first | done | rfl))
    ·rw [if_neg h4] at h
     have h4' : decide ((x1.length : Int) ≤ x4) = false := decide_eq_false h4
     obtain ⟨o, h22, h⟩ := Option.bind_eq_some_iff.1 h
     simp (maxSteps := 10000000) (implicitDefEqProofs := false) (disch := first | assumption | omega | exact rfl) only [bs, rs25, ls25, Nat.reduceAdd, ↓reduceIte, lenD_lst u26, lenD_lst u49, loadD_iptr a3, ↓h1', ↓h2', ↓h3', ↓h4']
     refine Wp.ctx (fun x => seqW _ _ _ _ (blockW _ (x))) (L25_0_ok x0 x1 x2 x3 x4 ((0 : Int), (0 : Int)) _ o (by kernel_rfl) h22) ?_
     intro e st hq
     cases o with
     | next _ => (first | cases h | (simp at h))
     | jmp n_ s_ =>
      obtain ⟨rfl, rfl, hq⟩ := hq
      obtain ⟨s12_23, s13_23⟩ := s_
      unfold F25_0 at hq
      (try simp only [] at h hq)
      obtain ⟨r24, h25, h⟩ := Option.bind_eq_some_iff.1 h
      have h26 : ∀ H, callD (callW Try.prog A0) A0 H 42 [.p (.lst false x0.length (encL en_Row x0)), iv x3] = some (.p (.v (.int .i64 r24)), none) := fun H => R22_end_call h25
      obtain ⟨r27, h28, h⟩ := Option.bind_eq_some_iff.1 h
      have h29 : ∀ H, callD (callW Try.prog A0) A0 H 42 [.p (.lst false x1.length (encL en_Row x1)), iv x4] = some (.p (.v (.int .i64 r27)), none) := fun H => R22_end_call h28
      obtain rfl := Option.some.inj h
      simp (maxSteps := 10000000) (implicitDefEqProofs := false) (disch := first | assumption | omega | exact rfl) only [bs, rs25, ls25, Nat.reduceAdd, ↓reduceIte, lenD_lst u26, lenD_lst u49, loadD_iptr a3, ↓h1', ↓h2', ↓h3', ↓h4', hq, h26, h29]
      refine ⟨by first | exact .inl trivial | exact .inr trivial | simp, ?_⟩
      exact finish_is (ds := [iv s12_23, iv (w64 ((w64 ((w64 ((w64 ((w64 (r24 - x3)) - (1 : Int))) + r27)) - x4)) - (1 : Int)))]) (x := .tup [.v (.int .i64 s12_23), .v (.int .i64 (w64 ((w64 ((w64 ((w64 ((w64 (r24 - x3)) - (1 : Int))) + r27)) - x4)) - (1 : Int))))]) (y := .tup [.v (.int .i64 s12_23), .v (.int .i64 (w64 ((w64 ((w64 ((w64 ((w64 (r24 - x3)) - (1 : Int))) + r27)) - x4)) - (1 : Int))))]) (l := []) rfl rfl rfl rfl (by first | rfl | (simp only [wk, wks, wkL]; first | done | rfl))
     | ret _ => (first | cases h | (simp at h))
theorem R22_score_call {b1 b2 b3 : Bool} {H : List Ob} {x0 : (List Row)} {x1 : (List Row)} {x2 : (List Pair)} {x3 : Int} {x4 : Int} {r : (Int × Int)} (h : R22_score x0 x1 x2 x3 x4 = some r) : callD (callW Try.prog A0) A0 H 25 [.p (.lst b1 x0.length (encL en_Row x0)), .p (.lst b2 x1.length (encL en_Row x1)), .p (.lst b3 x2.length (encL en_Pair x2)), iv x3, iv x4] = some (.p (.tup [.v (.int .i64 r.1), .v (.int .i64 r.2)]), none) :=
  callD_fun (args := [.lst b1 x0.length (encL en_Row x0), .lst b2 x1.length (encL en_Row x1), .lst b3 x2.length (encL en_Pair x2), .v (.int .i64 x3), .v (.int .i64 x4)]) rfl rfl rfl (by simp only [List.map_cons, List.map_nil, wk, wks, wkL]; exact f25_ok x0 x1 x2 x3 x4 _ h)
def ls37 := And.intro @ex_2_0 (And.intro @ex_2_1 (And.intro @faI_58_1 (And.intro @faI_58_4 (@idxL_49))))
noncomputable def L37_0 : Code := (loopsOf (bodyOf Try.f37)).getD 0 .skip
def g37_0 : List Ghost := [.weak [0, 1, 2], .keep [0, 1, 2, 3, 9, 10, 11, 12]]
def F37_0 (s0 : (List Row)) (s1 : (List Row)) (s2 : (List Pair)) (s3 : Int) : (Int × Int × Int × Int) → St := fun (s9, s10, s11, s12) => ⟨[.p (.lst false s0.length (encL en_Row s0)), .p (.lst false s1.length (encL en_Row s1)), .p (.lst false s2.length (encL en_Pair s2)), iv s3, .junk, .junk, .junk, .junk, .junk, iv s9, iv s10, iv s11, iv s12, .junk, .junk, .junk, .junk, .junk, .junk, .junk, .junk, .junk, .junk, .junk, .junk, .junk, .junk, .junk, .junk, .junk, .junk, .junk, .junk, .junk, .junk, .junk, .junk, .junk, .junk, .junk, .junk, .junk, .junk, .junk, .junk, .junk, .junk, .junk, .junk, .junk, .junk, .junk, .junk, .junk, .junk, .junk, .junk, .junk, .junk, .junk, .junk, .junk, .junk, .junk, .junk, .junk, .junk, .junk, .junk, .junk, .junk, .junk], [], 0⟩
theorem L37_0_ok (s0 : (List Row)) (s1 : (List Row)) (s2 : (List Pair)) (s3 : Int) : ∀ s st o, ghostsD g37_0 st = some (F37_0 s0 s1 s2 s3 s) → iter (R22_best_L0 s0 s1 s2 s3) s = some o →
    Wp (evW Try.prog A0 37 (.loop L37_0) st) (OutQ (F37_0 s0 s1 s2 s3) g37_0 (fun n s st => n = 0 ∧ ghostsD [.keep [0, 1, 2, 3, 9, 10, 11, 12]] st = some (F37_0 s0 s1 s2 s3 s)) (fun r st => finishD Try.prog A0 37 Try.f37 st = some (.p (.v (.int .i64 r)), [])) o) := by
 refine Wp.iter ?_
 intro s st o hg h
 obtain ⟨s9, s10, s11, s12⟩ := s
 unfold R22_best_L0 at h
 unfold g37_0 F37_0 at hg ⊢
 (try simp only [] at h hg)
 unfold L37_0 bodyOf Try.f37; simp only [Option.getD_some, loopsOf, List.append_nil, List.nil_append, List.cons_append, List.getD_cons_zero, List.getD_cons_succ]
 by_cases h1 : s12 < (s1.length : Int)
 ·rw [if_pos h1] at h
  have h1' : decide (s12 < (s1.length : Int)) = true := decide_eq_true h1
  obtain ⟨r2, h3, h⟩ := Option.bind_eq_some_iff.1 h
  have h4 : ∀ H, callD (callW Try.prog A0) A0 H 35 [.p (.lst false s2.length (encL en_Pair s2)), iv s12, bv false] = some (.p (.v (.bool r2)), none) := fun H => R22_has_call h3
  by_cases h5 : r2 = true
  ·rw [if_pos h5] at h
   obtain rfl := Option.some.inj h
   simp (maxSteps := 10000000) (implicitDefEqProofs := false) (disch := first | assumption | omega | exact rfl) only [bs, rs37, ls37, Nat.reduceAdd, ↓reduceIte, lenD_lst u49, lenD_lst u52, loadD_iptr a3, loadD_iptr a52, hg, ↓h1', h4, h5]
   exact ⟨rfl, by kernel_rfl⟩
  ·rw [if_neg h5] at h
   replace h5 := Bool.eq_false_iff.2 h5
   obtain ⟨v6, h7, h⟩ := Option.bind_eq_some_iff.1 h
   obtain ⟨h7a, h7b, _⟩ := rd_some h7
   have h8 := ce_58__4 h7
   by_cases h9 : (v6.Kids.length : Int) = (0 : Int)
   ·rw [if_pos h9] at h
    have h9' : decide ((v6.Kids.length : Int) = (0 : Int)) = true := decide_eq_true h9
    obtain rfl := Option.some.inj h
    simp (maxSteps := 10000000) (implicitDefEqProofs := false) (disch := first | assumption | omega | exact rfl) only [bs, rs37, ls37, Nat.reduceAdd, ↓reduceIte, lenD_lst u49, lenD_lst u52, loadD_iptr a3, loadD_iptr a52, hg, ↓h1', h4, h5, h8, ↓h9']
    exact ⟨rfl, by kernel_rfl⟩
   ·rw [if_neg h9] at h
    have h9' : decide ((v6.Kids.length : Int) = (0 : Int)) = false := decide_eq_false h9
    have h10 := ce_58__1 h7
    obtain ⟨v11, h12, h⟩ := Option.bind_eq_some_iff.1 h
    obtain ⟨h12a, h12b, _⟩ := rd_some h12
    have h13 := ce_58__1 h12
    by_cases h14 : v6.Kind = v11.Kind
    ·rw [if_pos h14] at h
     have h14' : decide (v6.Kind = v11.Kind) = true := decide_eq_true h14
     obtain ⟨r15, h16, h⟩ := Option.bind_eq_some_iff.1 h
     have h17 : ∀ H, callD (callW Try.prog A0) A0 H 25 [.p (.lst false s0.length (encL en_Row s0)), .p (.lst false s1.length (encL en_Row s1)), .p (.lst false s2.length (encL en_Pair s2)), iv s3, iv s12] = some (.p (.tup [.v (.int .i64 r15.1), .v (.int .i64 r15.2)]), none) := fun H => R22_score_call h16
     by_cases h18 : r15.2 < (w64 ((4 : Int) * r15.1))
     ·rw [if_pos h18] at h
      have h18' : decide (r15.2 < (w64 ((4 : Int) * r15.1))) = true := decide_eq_true h18
      by_cases h19 : (w64 (s10 * r15.2)) < (w64 (r15.1 * s11))
      ·rw [if_pos h19] at h
       have h19' : decide ((w64 (s10 * r15.2)) < (w64 (r15.1 * s11))) = true := decide_eq_true h19
       obtain rfl := Option.some.inj h
       simp (maxSteps := 10000000) (implicitDefEqProofs := false) (disch := first | assumption | omega | exact rfl) only [bs, rs37, ls37, Nat.reduceAdd, ↓reduceIte, lenD_lst u49, lenD_lst u52, loadD_iptr a3, loadD_iptr a52, hg, ↓h1', h4, h5, h8, ↓h9', h10, h13, ↓h14', h17, ↓h18', ↓h19']
       exact ⟨rfl, by kernel_rfl⟩
      ·rw [if_neg h19] at h
       have h19' : decide ((w64 (s10 * r15.2)) < (w64 (r15.1 * s11))) = false := decide_eq_false h19
       obtain rfl := Option.some.inj h
       simp (maxSteps := 10000000) (implicitDefEqProofs := false) (disch := first | assumption | omega | exact rfl) only [bs, rs37, ls37, Nat.reduceAdd, ↓reduceIte, lenD_lst u49, lenD_lst u52, loadD_iptr a3, loadD_iptr a52, hg, ↓h1', h4, h5, h8, ↓h9', h10, h13, ↓h14', h17, ↓h18', ↓h19']
       exact ⟨rfl, by kernel_rfl⟩
     ·rw [if_neg h18] at h
      have h18' : decide (r15.2 < (w64 ((4 : Int) * r15.1))) = false := decide_eq_false h18
      obtain rfl := Option.some.inj h
      simp (maxSteps := 10000000) (implicitDefEqProofs := false) (disch := first | assumption | omega | exact rfl) only [bs, rs37, ls37, Nat.reduceAdd, ↓reduceIte, lenD_lst u49, lenD_lst u52, loadD_iptr a3, loadD_iptr a52, hg, ↓h1', h4, h5, h8, ↓h9', h10, h13, ↓h14', h17, ↓h18']
      exact ⟨rfl, by kernel_rfl⟩
    ·rw [if_neg h14] at h
     have h14' : decide (v6.Kind = v11.Kind) = false := decide_eq_false h14
     obtain rfl := Option.some.inj h
     simp (maxSteps := 10000000) (implicitDefEqProofs := false) (disch := first | assumption | omega | exact rfl) only [bs, rs37, ls37, Nat.reduceAdd, ↓reduceIte, lenD_lst u49, lenD_lst u52, loadD_iptr a3, loadD_iptr a52, hg, ↓h1', h4, h5, h8, ↓h9', h10, h13, ↓h14']
     exact ⟨rfl, by kernel_rfl⟩
 ·rw [if_neg h1] at h
  have h1' : decide (s12 < (s1.length : Int)) = false := decide_eq_false h1
  obtain rfl := Option.some.inj h
  simp (maxSteps := 10000000) (implicitDefEqProofs := false) (disch := first | assumption | omega | exact rfl) only [bs, rs37, ls37, Nat.reduceAdd, ↓reduceIte, lenD_lst u49, lenD_lst u52, loadD_iptr a3, loadD_iptr a52, hg, ↓h1']
  exact ⟨rfl, rfl, by kernel_rfl⟩
theorem f37_ok  (x0 : (List Row)) (x1 : (List Row)) (x2 : (List Pair)) (x3 : Int) (r : Int) (h : R22_best x0 x1 x2 x3 = some r) : callW Try.prog A0 37 [.p (.lst false x0.length (encL en_Row x0)), .p (.lst false x1.length (encL en_Row x1)), .p (.lst false x2.length (encL en_Pair x2)), iv x3] [] = some (.p (.v (.int .i64 r)), []) := by
 refine call_ofH (fn := Try.f37) (c := bodyOf Try.f37) rfl rfl (by kernel_rfl) (by kernel_rfl) ?_
 rw [show initS Try.f37 [.p (.lst false x0.length (encL en_Row x0)), .p (.lst false x1.length (encL en_Row x1)), .p (.lst false x2.length (encL en_Pair x2)), iv x3] [] = ⟨.p (.lst false x0.length (encL en_Row x0)) :: .p (.lst false x1.length (encL en_Row x1)) :: .p (.lst false x2.length (encL en_Pair x2)) :: iv x3 :: List.replicate 68 undefD, [], 0⟩ from by kernel_rfl]
 unfold R22_best at h
 unfold bodyOf Try.f37; simp only [Option.getD_some, loopsOf, List.append_nil, List.nil_append, List.cons_append, List.getD_cons_zero, List.getD_cons_succ]
 simp only [List.replicate]
 obtain ⟨o, h20, h⟩ := Option.bind_eq_some_iff.1 h
 simp (maxSteps := 10000000) (implicitDefEqProofs := false) (disch := first | assumption | omega | exact rfl) only [bs, rs37, ls37, Nat.reduceAdd, ↓reduceIte, lenD_lst u49, lenD_lst u52, loadD_iptr a3, loadD_iptr a52]
 refine Wp.ctx (fun x => seqW _ _ _ _ (blockW _ (x))) (L37_0_ok x0 x1 x2 x3 ((-1 : Int), (0 : Int), (1 : Int), (1 : Int)) _ o (by kernel_rfl) h20) ?_
 intro e st hq
 cases o with
 | next _ => (first | cases h | (simp at h))
 | jmp n_ s_ =>
  obtain ⟨rfl, rfl, hq⟩ := hq
  obtain ⟨s9_21, s10_21, s11_21, s12_21⟩ := s_
  unfold F37_0 at hq
  (try simp only [] at h hq)
  obtain rfl := Option.some.inj h
  simp (maxSteps := 10000000) (implicitDefEqProofs := false) (disch := first | assumption | omega | exact rfl) only [bs, rs37, ls37, Nat.reduceAdd, ↓reduceIte, lenD_lst u49, lenD_lst u52, loadD_iptr a3, loadD_iptr a52, hq]
  refine ⟨by first | exact .inl trivial | exact .inr trivial | simp, ?_⟩
  exact finish_is (ds := [iv s9_21]) (x := .v (.int .i64 s9_21)) (y := .v (.int .i64 s9_21)) (l := []) rfl rfl rfl rfl (by first | rfl | (simp only [wk, wks, wkL]; first | done | rfl))
 | ret _ => (first | cases h | (simp at h))
theorem R22_best_call {b1 b2 b3 : Bool} {H : List Ob} {x0 : (List Row)} {x1 : (List Row)} {x2 : (List Pair)} {x3 : Int} {r : Int} (h : R22_best x0 x1 x2 x3 = some r) : callD (callW Try.prog A0) A0 H 37 [.p (.lst b1 x0.length (encL en_Row x0)), .p (.lst b2 x1.length (encL en_Row x1)), .p (.lst b3 x2.length (encL en_Pair x2)), iv x3] = some (.p (.v (.int .i64 r)), none) :=
  callD_fun (args := [.lst b1 x0.length (encL en_Row x0), .lst b2 x1.length (encL en_Row x1), .lst b3 x2.length (encL en_Pair x2), .v (.int .i64 x3)]) rfl rfl rfl (by simp only [List.map_cons, List.map_nil, wk, wks, wkL]; exact f37_ok x0 x1 x2 x3 _ h)
def ls36 := And.intro @ap_26_26 (And.intro @bs_26_1 (And.intro @faI_39_0 (And.intro @faP_39_0 (And.intro @idxL_26 (And.intro @varld_2_0_0 (@varlv_2_0_2))))))
noncomputable def L36_0 : Code := (loopsOf (bodyOf Try.f36)).getD 0 .skip
def g36_0 : List Ghost := [.own 5 2, .weak [0], .keep [0, 3, 5, 6, 7]]
def F36_0 (s0 : (List Pair)) (w0_0 : Int) (w0_1 : Int) : (Bool × Int × (List Pair)) → St := fun (s6, s7, y1) => ⟨[.p (.lst false s0.length (encL en_Pair s0)), .junk, .junk, .ptr 0 0, .junk, .ref 1 0 y1.length 2, bv s6, iv s7, .junk, .junk, .junk, .junk, .junk, .junk, .junk, .junk, .junk, .junk, .junk, .junk, .junk, .junk, .junk, .junk, .junk, .junk, .junk, .junk, .junk, .junk, .junk, .junk, .junk, .junk, .junk, .junk, .junk, .junk, .junk, .junk, .junk, .junk, .junk, .junk], [.var [iv w0_0, iv w0_1], .arr (encL en_Pair y1)], 0⟩
theorem L36_0_ok (s0 : (List Pair)) (w0_0 : Int) (w0_1 : Int) : ∀ s st o, ghostsD g36_0 st = some (F36_0 s0 w0_0 w0_1 s) → iter (R22_put_L0 s0 w0_0 w0_1) s = some o →
    Wp (evW Try.prog A0 36 (.loop L36_0) st) (OutQ (F36_0 s0 w0_0 w0_1) g36_0 (fun n s st => n = 0 ∧ ghostsD [.keep [0, 3, 5, 6, 7]] st = some (F36_0 s0 w0_0 w0_1 s)) (fun r st => finishD Try.prog A0 36 Try.f36 st = some (.p (.lst false r.length (encL en_Pair r)), [])) o) := by
 refine Wp.iter ?_
 intro s st o hg h
 obtain ⟨s6, s7, y1⟩ := s
 unfold R22_put_L0 at h
 unfold g36_0 F36_0 at hg ⊢
 (try simp only [] at h hg)
 unfold L36_0 bodyOf Try.f36; simp only [Option.getD_some, loopsOf, List.append_nil, List.nil_append, List.cons_append, List.getD_cons_zero, List.getD_cons_succ]
 by_cases h1 : s7 < (s0.length : Int)
 ·rw [if_pos h1] at h
  have h1' : decide (s7 < (s0.length : Int)) = true := decide_eq_true h1
  by_cases h2 : s6 = true
  ·rw [if_pos h2] at h
   obtain ⟨v3, h4, h⟩ := Option.bind_eq_some_iff.1 h
   obtain ⟨h4a, h4b, _⟩ := rd_some h4
   have h5 := lk_frz_39 h4
   by_cases hw_ : (y1.length + 1) * 16 ≤ 140737488355328
   case neg => rw [if_neg hw_] at h; cases h
   rw [if_pos hw_] at h
   have h7 := hw_
   have h6 : ∀ (H : List Ob) (id : Nat), apOb H id 0 y1.length 1 2 2 16 [.v (.int .i64 v3.Old), .v (.int .i64 v3.New)] (some (.arr (encL en_Pair y1))) = some (.ref H.length 0 (y1 ++ [v3]).length 2, H.set id .dead ++ [.arr (encL en_Pair (y1 ++ [v3]))]) := fun H id => ap_enc (y := [v3]) en_Pair_len (by first | rfl | omega) rfl (by first | (simp only [encL_cons, encL_nil, en_Pair_eq, List.cons_append, List.nil_append]; done) | (simp only [encL_cons, encL_nil, en_Pair_eq, List.cons_append, List.nil_append]; rfl) | rfl) (by assumption)
   obtain rfl := Option.some.inj h
   simp (maxSteps := 10000000) (implicitDefEqProofs := false) (disch := first | assumption | omega | exact rfl) only [bs, rs36, ls36, Nat.reduceAdd, ↓reduceIte, lenD_lst u26, loadD_iagg a39 z39, loadD_iptr a3, loadD_pagg a39 z39, loadD_ptr a3, wks_nil_, hg, ↓h1', h2, h5, h6]
   exact ⟨rfl, by kernel_rfl⟩
  ·rw [if_neg h2] at h
   replace h2 := Bool.eq_false_iff.2 h2
   obtain ⟨v8, h9, h⟩ := Option.bind_eq_some_iff.1 h
   obtain ⟨h9a, h9b, _⟩ := rd_some h9
   have h10 := ce_39__0 h9
   by_cases h11 : w0_0 < v8.Old
   ·rw [if_pos h11] at h
    have h11' : decide (w0_0 < v8.Old) = true := decide_eq_true h11
    by_cases hw_ : (y1.length + 1) * 16 ≤ 140737488355328
    case neg => rw [if_neg hw_] at h; cases h
    rw [if_pos hw_] at h
    have h13 := hw_
    have h12 : ∀ (H : List Ob) (id : Nat), apOb H id 0 y1.length 1 2 2 16 [.v (.int .i64 w0_0), .v (.int .i64 w0_1)] (some (.arr (encL en_Pair y1))) = some (.ref H.length 0 (y1 ++ [(Pair.mk w0_0 w0_1)]).length 2, H.set id .dead ++ [.arr (encL en_Pair (y1 ++ [(Pair.mk w0_0 w0_1)]))]) := fun H id => ap_enc (y := [(Pair.mk w0_0 w0_1)]) en_Pair_len (by first | rfl | omega) rfl (by first | (simp only [encL_cons, encL_nil, en_Pair_eq, List.cons_append, List.nil_append]; done) | (simp only [encL_cons, encL_nil, en_Pair_eq, List.cons_append, List.nil_append]; rfl) | rfl) (by assumption)
    have h14 := lk_frz_39 h9
    by_cases hw_ : ((y1 ++ [(Pair.mk w0_0 w0_1)]).length + 1) * 16 ≤ 140737488355328
    case neg => rw [if_neg hw_] at h; cases h
    rw [if_pos hw_] at h
    have h16 := hw_
    have h15 : ∀ (H : List Ob) (id : Nat), apOb H id 0 ((y1 ++ [(Pair.mk w0_0 w0_1)]).length) 1 2 2 16 [.v (.int .i64 v8.Old), .v (.int .i64 v8.New)] (some (.arr (encL en_Pair (y1 ++ [(Pair.mk w0_0 w0_1)])))) = some (.ref H.length 0 ((y1 ++ [(Pair.mk w0_0 w0_1)]) ++ [v8]).length 2, H.set id .dead ++ [.arr (encL en_Pair ((y1 ++ [(Pair.mk w0_0 w0_1)]) ++ [v8]))]) := fun H id => ap_enc (y := [v8]) en_Pair_len (by first | rfl | omega) rfl (by first | (simp only [encL_cons, encL_nil, en_Pair_eq, List.cons_append, List.nil_append]; done) | (simp only [encL_cons, encL_nil, en_Pair_eq, List.cons_append, List.nil_append]; rfl) | rfl) (by assumption)
    obtain rfl := Option.some.inj h
    simp (maxSteps := 10000000) (implicitDefEqProofs := false) (disch := first | assumption | omega | exact rfl) only [bs, rs36, ls36, Nat.reduceAdd, ↓reduceIte, lenD_lst u26, loadD_iagg a39 z39, loadD_iptr a3, loadD_pagg a39 z39, loadD_ptr a3, wks_nil_, hg, ↓h1', h2, h10, ↓h11', h12, h14, h15]
    exact ⟨rfl, by kernel_rfl⟩
   ·rw [if_neg h11] at h
    have h11' : decide (w0_0 < v8.Old) = false := decide_eq_false h11
    have h17 := lk_frz_39 h9
    by_cases hw_ : (y1.length + 1) * 16 ≤ 140737488355328
    case neg => rw [if_neg hw_] at h; cases h
    rw [if_pos hw_] at h
    have h19 := hw_
    have h18 : ∀ (H : List Ob) (id : Nat), apOb H id 0 y1.length 1 2 2 16 [.v (.int .i64 v8.Old), .v (.int .i64 v8.New)] (some (.arr (encL en_Pair y1))) = some (.ref H.length 0 (y1 ++ [v8]).length 2, H.set id .dead ++ [.arr (encL en_Pair (y1 ++ [v8]))]) := fun H id => ap_enc (y := [v8]) en_Pair_len (by first | rfl | omega) rfl (by first | (simp only [encL_cons, encL_nil, en_Pair_eq, List.cons_append, List.nil_append]; done) | (simp only [encL_cons, encL_nil, en_Pair_eq, List.cons_append, List.nil_append]; rfl) | rfl) (by assumption)
    obtain rfl := Option.some.inj h
    simp (maxSteps := 10000000) (implicitDefEqProofs := false) (disch := first | assumption | omega | exact rfl) only [bs, rs36, ls36, Nat.reduceAdd, ↓reduceIte, lenD_lst u26, loadD_iagg a39 z39, loadD_iptr a3, loadD_pagg a39 z39, loadD_ptr a3, wks_nil_, hg, ↓h1', h2, h10, ↓h11', h17, h18]
    exact ⟨rfl, by kernel_rfl⟩
 ·rw [if_neg h1] at h
  have h1' : decide (s7 < (s0.length : Int)) = false := decide_eq_false h1
  obtain rfl := Option.some.inj h
  simp (maxSteps := 10000000) (implicitDefEqProofs := false) (disch := first | assumption | omega | exact rfl) only [bs, rs36, ls36, Nat.reduceAdd, ↓reduceIte, lenD_lst u26, loadD_iagg a39 z39, loadD_iptr a3, loadD_pagg a39 z39, loadD_ptr a3, wks_nil_, hg, ↓h1']
  exact ⟨rfl, rfl, by kernel_rfl⟩
theorem f36_ok  (x0 : (List Pair)) (x1 : Pair) (r : (List Pair)) (h : R22_put x0 x1 = some r) : callW Try.prog A0 36 [.p (.lst false x0.length (encL en_Pair x0)), .p (.agg [.v (.int .i64 x1.Old), .v (.int .i64 x1.New)])] [] = some (.p (.lst false r.length (encL en_Pair r)), []) := by
 refine call_ofH (fn := Try.f36) (c := bodyOf Try.f36) rfl rfl (by kernel_rfl) (by kernel_rfl) ?_
 rw [show initS Try.f36 [.p (.lst false x0.length (encL en_Pair x0)), .p (.agg [.v (.int .i64 x1.Old), .v (.int .i64 x1.New)])] [] = ⟨.p (.lst false x0.length (encL en_Pair x0)) :: .p (.agg [.v (.int .i64 x1.Old), .v (.int .i64 x1.New)]) :: List.replicate 42 undefD, [], 0⟩ from by kernel_rfl]
 unfold R22_put at h
 unfold bodyOf Try.f36; simp only [Option.getD_some, loopsOf, List.append_nil, List.nil_append, List.cons_append, List.getD_cons_zero, List.getD_cons_succ]
 simp only [List.replicate]
 obtain ⟨o, h20, h⟩ := Option.bind_eq_some_iff.1 h
 simp (maxSteps := 10000000) (implicitDefEqProofs := false) (disch := first | assumption | omega | exact rfl) only [bs, rs36, ls36, Nat.reduceAdd, ↓reduceIte, lenD_lst u26, loadD_iagg a39 z39, loadD_iptr a3, loadD_pagg a39 z39, loadD_ptr a3, wks_nil_]
 refine Wp.ctx (fun x => seqW _ _ _ _ (blockW _ (x))) (L36_0_ok x0 x1.Old x1.New (false, (0 : Int), ([] : List Pair)) _ o (by kernel_rfl) h20) ?_
 intro e st hq
 cases o with
 | next _ => (first | cases h | (simp at h))
 | jmp n_ s_ =>
  obtain ⟨rfl, rfl, hq⟩ := hq
  obtain ⟨s6_21, s7_21, y1_21⟩ := s_
  unfold F36_0 at hq
  (try simp only [] at h hq)
  by_cases h22 : s6_21 = true
  ·rw [if_pos h22] at h
   obtain rfl := Option.some.inj h
   simp (maxSteps := 10000000) (implicitDefEqProofs := false) (disch := first | assumption | omega | exact rfl) only [bs, rs36, ls36, Nat.reduceAdd, ↓reduceIte, lenD_lst u26, loadD_iagg a39 z39, loadD_iptr a3, loadD_pagg a39 z39, loadD_ptr a3, wks_nil_, hq, h22]
   refine ⟨by first | exact .inl trivial | exact .inr trivial | simp, ?_⟩
   exact finish_is (ds := [.ref 1 0 y1_21.length 2]) (x := .lst false y1_21.length (encL en_Pair y1_21)) (y := .lst false y1_21.length (encL en_Pair y1_21)) (l := [1]) rfl rfl rfl (purify1_enc en_Pair_len rfl (by first | rfl | omega)) (by first | rfl | (simp only [wk, wks, wkL]; first | done | rfl))
  ·rw [if_neg h22] at h
   replace h22 := Bool.eq_false_iff.2 h22
   by_cases hw_ : (y1_21.length + 1) * 16 ≤ 140737488355328
   case neg => rw [if_neg hw_] at h; cases h
   rw [if_pos hw_] at h
   have h24 := hw_
   have h23 : ∀ (H : List Ob) (id : Nat), apOb H id 0 y1_21.length 1 2 2 16 [.v (.int .i64 x1.Old), .v (.int .i64 x1.New)] (some (.arr (encL en_Pair y1_21))) = some (.ref H.length 0 (y1_21 ++ [x1]).length 2, H.set id .dead ++ [.arr (encL en_Pair (y1_21 ++ [x1]))]) := fun H id => ap_enc (y := [x1]) en_Pair_len (by first | rfl | omega) rfl (by first | (simp only [encL_cons, encL_nil, en_Pair_eq, List.cons_append, List.nil_append]; done) | (simp only [encL_cons, encL_nil, en_Pair_eq, List.cons_append, List.nil_append]; rfl) | rfl) (by assumption)
   obtain rfl := Option.some.inj h
   simp (maxSteps := 10000000) (implicitDefEqProofs := false) (disch := first | assumption | omega | exact rfl) only [bs, rs36, ls36, Nat.reduceAdd, ↓reduceIte, lenD_lst u26, loadD_iagg a39 z39, loadD_iptr a3, loadD_pagg a39 z39, loadD_ptr a3, wks_nil_, hq, h22, h23]
   refine ⟨by first | exact .inl trivial | exact .inr trivial | simp, ?_⟩
   exact finish_is (ds := [.ref 2 0 ((y1_21 ++ [x1]).length) 2]) (x := .lst false (y1_21 ++ [x1]).length (encL en_Pair (y1_21 ++ [x1]))) (y := .lst false (y1_21 ++ [x1]).length (encL en_Pair (y1_21 ++ [x1]))) (l := [2]) rfl rfl rfl (purify1_enc en_Pair_len rfl (by first | rfl | omega)) (by first | rfl | (simp only [wk, wks, wkL]; first | done | rfl))
 | ret _ => (first | cases h | (simp at h))
theorem R22_put_call {b1 : Bool} {H : List Ob} {x0 : (List Pair)} {x1 : Pair} {r : (List Pair)} (h : R22_put x0 x1 = some r) : callD (callW Try.prog A0) A0 H 36 [.p (.lst b1 x0.length (encL en_Pair x0)), .p (.agg [.v (.int .i64 x1.Old), .v (.int .i64 x1.New)])] = some (.p (.lst false r.length (encL en_Pair r)), none) :=
  callD_fun (args := [.lst b1 x0.length (encL en_Pair x0), .agg [.v (.int .i64 x1.Old), .v (.int .i64 x1.New)]]) rfl rfl rfl (by simp only [List.map_cons, List.map_nil, wk, wks, wkL]; exact f36_ok x0 x1 _ h)
theorem R22_put_callp {x0 : (List Pair)} {x1 : Pair} {r : (List Pair)} (h : R22_put x0 x1 = some r) : callW Try.prog A0 36 [.p (.lst false x0.length (encL en_Pair x0)), .p (.agg [.v (.int .i64 x1.Old), .v (.int .i64 x1.New)])] [] = some (.p (.lst false r.length (encL en_Pair r)), []) := f36_ok x0 x1 _ h
def ls13 := And.intro @apn_26_26 (And.intro @bu_39_ (And.intro @bu_39_0_1 (And.intro @faI_58_4 (And.intro @faP_25_0 (And.intro @idxL_49 (And.intro @varld_4_0_0 (@varlv_4_0_4)))))))
noncomputable def L13_0 : Code := (loopsOf (bodyOf Try.f13)).getD 0 .skip
def g13_0 : List Ghost := [.weak [8, 9, 10], .keep [8, 9, 10, 11]]
def F13_0 (s8 : (List Row)) (s9 : (List Row)) : ((List Pair) × Int) → St := fun (s10, s11) => ⟨[.junk, .junk, .junk, .junk, .junk, .junk, .junk, .junk, .p (.lst false s8.length (encL en_Row s8)), .p (.lst false s9.length (encL en_Row s9)), .p (.lst false s10.length (encL en_Pair s10)), iv s11, .junk, .junk, .junk, .junk, .junk, .junk, .junk, .junk, .junk, .junk, .junk, .junk, .junk, .junk, .junk, .junk, .junk, .junk, .junk, .junk, .junk, .junk, .junk, .junk, .junk, .junk, .junk, .junk, .junk, .junk, .junk, .junk, .junk, .junk, .junk, .junk, .junk, .junk, .junk, .junk, .junk, .junk, .junk, .junk, .junk, .junk, .junk, .junk, .junk, .junk, .junk, .junk, .junk, .junk, .junk, .junk, .junk, .junk], [], 0⟩
theorem L13_0_ok (s8 : (List Row)) (s9 : (List Row)) : ∀ s st o, ghostsD g13_0 st = some (F13_0 s8 s9 s) → iter (R22_Match_L0 s8 s9) s = some o →
    Wp (evW Try.prog A0 13 (.loop L13_0) st) (OutQ (F13_0 s8 s9) g13_0 (fun n s st => n = 0 ∧ ghostsD [.keep [8, 9, 10, 11]] st = some (F13_0 s8 s9 s)) (fun r st => finishD Try.prog A0 13 Try.f13 st = some (.p (.tup [.lst false r.1.length (encL en_Pair r.1), .v (.int .i64 r.2)]), [])) o) := by
 refine Wp.iter ?_
 intro s st o hg h
 obtain ⟨s10, s11⟩ := s
 unfold R22_Match_L0 at h
 unfold g13_0 F13_0 at hg ⊢
 (try simp only [] at h hg)
 unfold L13_0 bodyOf Try.f13; simp only [Option.getD_some, loopsOf, List.append_nil, List.nil_append, List.cons_append, List.getD_cons_zero, List.getD_cons_succ]
 by_cases h57 : (0 : Int) < s11
 ·rw [if_pos h57] at h
  have h57' : decide ((0 : Int) < s11) = true := decide_eq_true h57
  obtain ⟨r58, h59, h⟩ := Option.bind_eq_some_iff.1 h
  have h60 : ∀ H, callD (callW Try.prog A0) A0 H 35 [.p (.lst false s10.length (encL en_Pair s10)), iv s11, bv true] = some (.p (.v (.bool r58)), none) := fun H => R22_has_call h59
  by_cases h61 : r58 = true
  ·rw [if_pos h61] at h
   obtain rfl := Option.some.inj h
   simp (maxSteps := 10000000) (implicitDefEqProofs := false) (disch := first | assumption | omega | exact rfl) only [bs, rs13, ls13, Nat.reduceAdd, ↓reduceIte, lenD_lst u49, lenD_lst u52, loadD_iptr a52, loadD_pagg a25 z25, loadD_ptr a3, hg, ↓h57', h60, h61]
   exact ⟨rfl, by kernel_rfl⟩
  ·rw [if_neg h61] at h
   replace h61 := Bool.eq_false_iff.2 h61
   obtain ⟨v62, h63, h⟩ := Option.bind_eq_some_iff.1 h
   obtain ⟨h63a, h63b, _⟩ := rd_some h63
   have h64 := ce_58__4 h63
   by_cases h65 : (v62.Kids.length : Int) = (0 : Int)
   ·rw [if_pos h65] at h
    have h65' : decide ((v62.Kids.length : Int) = (0 : Int)) = true := decide_eq_true h65
    obtain rfl := Option.some.inj h
    simp (maxSteps := 10000000) (implicitDefEqProofs := false) (disch := first | assumption | omega | exact rfl) only [bs, rs13, ls13, Nat.reduceAdd, ↓reduceIte, lenD_lst u49, lenD_lst u52, loadD_iptr a52, loadD_pagg a25 z25, loadD_ptr a3, hg, ↓h57', h60, h61, h64, ↓h65']
    exact ⟨rfl, by kernel_rfl⟩
   ·rw [if_neg h65] at h
    have h65' : decide ((v62.Kids.length : Int) = (0 : Int)) = false := decide_eq_false h65
    obtain ⟨r66, h67, h⟩ := Option.bind_eq_some_iff.1 h
    have h68 : ∀ H, callD (callW Try.prog A0) A0 H 37 [.p (.lst false s8.length (encL en_Row s8)), .p (.lst false s9.length (encL en_Row s9)), .p (.lst false s10.length (encL en_Pair s10)), iv s11] = some (.p (.v (.int .i64 r66)), none) := fun H => R22_best_call h67
    by_cases h69 : (0 : Int) ≤ r66
    ·rw [if_pos h69] at h
     have h69' : decide ((0 : Int) ≤ r66) = true := decide_eq_true h69
     obtain ⟨r70, h71, h⟩ := Option.bind_eq_some_iff.1 h
     have h72 : ∀ H, callD (callW Try.prog A0) A0 H 36 [.p (.lst false s10.length (encL en_Pair s10)), .p (.agg [.v (.int .i64 s11), .v (.int .i64 r66)])] = some (.p (.lst false r70.length (encL en_Pair r70)), none) := fun H => R22_put_call h71
     obtain rfl := Option.some.inj h
     simp (maxSteps := 10000000) (implicitDefEqProofs := false) (disch := first | assumption | omega | exact rfl) only [bs, rs13, ls13, Nat.reduceAdd, ↓reduceIte, lenD_lst u49, lenD_lst u52, loadD_iptr a52, loadD_pagg a25 z25, loadD_ptr a3, hg, ↓h57', h60, h61, h64, ↓h65', h68, ↓h69', h72]
     exact ⟨rfl, by kernel_rfl⟩
    ·rw [if_neg h69] at h
     have h69' : decide ((0 : Int) ≤ r66) = false := decide_eq_false h69
     obtain rfl := Option.some.inj h
     simp (maxSteps := 10000000) (implicitDefEqProofs := false) (disch := first | assumption | omega | exact rfl) only [bs, rs13, ls13, Nat.reduceAdd, ↓reduceIte, lenD_lst u49, lenD_lst u52, loadD_iptr a52, loadD_pagg a25 z25, loadD_ptr a3, hg, ↓h57', h60, h61, h64, ↓h65', h68, ↓h69']
     exact ⟨rfl, by kernel_rfl⟩
 ·rw [if_neg h57] at h
  have h57' : decide ((0 : Int) < s11) = false := decide_eq_false h57
  obtain rfl := Option.some.inj h
  simp (maxSteps := 10000000) (implicitDefEqProofs := false) (disch := first | assumption | omega | exact rfl) only [bs, rs13, ls13, Nat.reduceAdd, ↓reduceIte, lenD_lst u49, lenD_lst u52, loadD_iptr a52, loadD_pagg a25 z25, loadD_ptr a3, hg, ↓h57']
  exact ⟨rfl, rfl, by kernel_rfl⟩
theorem f13_ok  (x0 : Node) (x1 : Node) (x2 : (List Pair)) (r : ((List Pair) × Int)) (h : R22_Match x0 x1 x2 = some r) : callW Try.prog A0 13 [.p (.agg [.v (.int .i64 x0.Kind), .v (.string x0.Text), .lst false x0.Gaps.length (encL en_str x0.Gaps), .lst false x0.Kids.length (encL en_Node x0.Kids)]), .p (.agg [.v (.int .i64 x1.Kind), .v (.string x1.Text), .lst false x1.Gaps.length (encL en_str x1.Gaps), .lst false x1.Kids.length (encL en_Node x1.Kids)]), .p (.lst false x2.length (encL en_Pair x2))] [] = some (.p (.tup [.lst false r.1.length (encL en_Pair r.1), .v (.int .i64 r.2)]), []) := by
 refine call_ofH (fn := Try.f13) (c := bodyOf Try.f13) rfl rfl (by kernel_rfl) (by kernel_rfl) ?_
 rw [show initS Try.f13 [.p (.agg [.v (.int .i64 x0.Kind), .v (.string x0.Text), .lst false x0.Gaps.length (encL en_str x0.Gaps), .lst false x0.Kids.length (encL en_Node x0.Kids)]), .p (.agg [.v (.int .i64 x1.Kind), .v (.string x1.Text), .lst false x1.Gaps.length (encL en_str x1.Gaps), .lst false x1.Kids.length (encL en_Node x1.Kids)]), .p (.lst false x2.length (encL en_Pair x2))] [] = ⟨.p (.agg [.v (.int .i64 x0.Kind), .v (.string x0.Text), .lst false x0.Gaps.length (encL en_str x0.Gaps), .lst false x0.Kids.length (encL en_Node x0.Kids)]) :: .p (.agg [.v (.int .i64 x1.Kind), .v (.string x1.Text), .lst false x1.Gaps.length (encL en_str x1.Gaps), .lst false x1.Kids.length (encL en_Node x1.Kids)]) :: .p (.lst false x2.length (encL en_Pair x2)) :: List.replicate 67 undefD, [], 0⟩ from by kernel_rfl]
 unfold R22_Match at h
 unfold bodyOf Try.f13; simp only [Option.getD_some, loopsOf, List.append_nil, List.nil_append, List.cons_append, List.getD_cons_zero, List.getD_cons_succ]
 simp only [List.replicate]
 obtain ⟨r1, h2, h⟩ := Option.bind_eq_some_iff.1 h
 have h3 : ∀ H, callD (callW Try.prog A0) A0 H 15 [.p (.agg [.v (.int .i64 x0.Kind), .v (.string x0.Text), .lst false x0.Gaps.length (encL en_str x0.Gaps), .lst false x0.Kids.length (encL en_Node x0.Kids)]), .p (.agg [.v (.int .i64 x1.Kind), .v (.string x1.Text), .lst false x1.Gaps.length (encL en_str x1.Gaps), .lst false x1.Kids.length (encL en_Node x1.Kids)]), .p (.lst false x2.length (encL en_Pair x2))] = some (.p (.v (.bool r1)), none) := fun H => R22_Partial_call h2
 by_cases h4 : r1 = true
 ·rw [if_pos h4] at h
  obtain ⟨r5, h6, h⟩ := Option.bind_eq_some_iff.1 h
  have h7 : ∀ H, callD (callW Try.prog A0) A0 H 26 [.p (.agg [.v (.int .i64 x0.Kind), .v (.string x0.Text), .lst false x0.Gaps.length (encL en_str x0.Gaps), .lst false x0.Kids.length (encL en_Node x0.Kids)])] = some (.p (.lst false r5.length (encL en_Row r5)), none) := fun H => R06_Rows_call h6
  obtain ⟨r8, h9, h⟩ := Option.bind_eq_some_iff.1 h
  have h10 : ∀ H, callD (callW Try.prog A0) A0 H 26 [.p (.agg [.v (.int .i64 x1.Kind), .v (.string x1.Text), .lst false x1.Gaps.length (encL en_str x1.Gaps), .lst false x1.Kids.length (encL en_Node x1.Kids)])] = some (.p (.lst false r8.length (encL en_Row r8)), none) := fun H => R06_Rows_call h9
  by_cases hw_ : x2.length * 16 ≤ 140737488355328
  case neg => rw [if_neg hw_] at h; cases h
  rw [if_pos hw_] at h
  have h12 := hw_
  have h11 : ∀ (H : List Ob), apN H x2.length 2 16 (encL en_Pair x2) = some (.ref H.length 0 x2.length 2, H ++ [.arr (encL en_Pair x2)]) := fun H => apn_enc (y := x2) en_Pair_len rfl rfl (by assumption)
  by_cases h13 : x0.Kind = x1.Kind
  ·rw [if_pos h13] at h
   have h13' : decide (x0.Kind = x1.Kind) = true := decide_eq_true h13
   obtain ⟨r14, h15, h⟩ := Option.bind_eq_some_iff.1 h
   have h16 : ∀ H, callD (callW Try.prog A0) A0 H 35 [.p (.lst false x2.length (encL en_Pair x2)), iv (0 : Int), bv true] = some (.p (.v (.bool r14)), none) := fun H => R22_has_call h15
   by_cases h17 : r14 = true
   ·rw [if_pos h17] at h
    simp (maxSteps := 10000000) (implicitDefEqProofs := false) (disch := first | assumption | omega | exact rfl) only [bs, rs13, ls13, Nat.reduceAdd, ↓reduceIte, lenD_lst u49, lenD_lst u52, loadD_iptr a52, loadD_pagg a25 z25, loadD_ptr a3, h3, h4, h7, h10, h11, ↓h13', h16, h17]
    refine Wp.gh (fun x => seqW _ _ _ _ (seqW _ _ _ _ (regW _ _ _ _ _ x))) ⟨[.junk, .junk, .junk, .junk, .junk, .junk, .junk, .junk, .p (.lst false r5.length (encL en_Row r5)), .p (.lst false r8.length (encL en_Row r8)), .p (.lst false x2.length (encL en_Pair x2)), .junk, .junk, .junk, .junk, .junk, .junk, .junk, .junk, .junk, .junk, .junk, .junk, .junk, .junk, .junk, .junk, .junk, .junk, .junk, .junk, .junk, .junk, .junk, .junk, .junk, .junk, .junk, .junk, .junk, .junk, .junk, .junk, .junk, .junk, .junk, .junk, .junk, .junk, .junk, .junk, .junk, .junk, .junk, .junk, .junk, .junk, .junk, .junk, .junk, .junk, .junk, .junk, .junk, .junk, .junk, .junk, .junk, .junk, .junk], [], 0⟩ (ghosts_frz (d := .ref 2 0 x2.length 2) (x := .lst false x2.length (encL en_Pair x2)) (l := [2]) rfl (purify1_enc en_Pair_len rfl (by first | rfl | omega)) (by kernel_rfl)) ?_
    obtain ⟨o, h34, h⟩ := Option.bind_eq_some_iff.1 h
    simp (maxSteps := 10000000) (implicitDefEqProofs := false) (disch := first | assumption | omega | exact rfl) only [bs, rs13, ls13, Nat.reduceAdd, ↓reduceIte, lenD_lst u49, lenD_lst u52, loadD_iptr a52, loadD_pagg a25 z25, loadD_ptr a3, h3, h4, h7, h10, h11, ↓h13', h16, h17]
    refine Wp.ctx (fun x => seqW _ _ _ _ (blockW _ (x))) (L13_0_ok r5 r8 (x2, w64 ((r5.length : Int) - (1 : Int))) _ o (by kernel_rfl) h34) ?_
    intro e st hq
    cases o with
    | next _ => (first | cases h | (simp at h))
    | jmp n_ s_ =>
     obtain ⟨rfl, rfl, hq⟩ := hq
     obtain ⟨s10_35, s11_35⟩ := s_
     unfold F13_0 at hq
     (try simp only [] at h hq)
     obtain rfl := Option.some.inj h
     simp (maxSteps := 10000000) (implicitDefEqProofs := false) (disch := first | assumption | omega | exact rfl) only [bs, rs13, ls13, Nat.reduceAdd, ↓reduceIte, lenD_lst u49, lenD_lst u52, loadD_iptr a52, loadD_pagg a25 z25, loadD_ptr a3, h3, h4, h7, h10, h11, ↓h13', h16, h17, hq]
     refine ⟨by first | exact .inl trivial | exact .inr trivial | simp, ?_⟩
     exact finish_is (ds := [.p (.lst false s10_35.length (encL en_Pair s10_35)), iv (0 : Int)]) (x := .tup [.lst false s10_35.length (encL en_Pair s10_35), .v (.int .i64 (0 : Int))]) (y := .tup [.lst false s10_35.length (encL en_Pair s10_35), .v (.int .i64 (0 : Int))]) (l := []) rfl rfl rfl rfl (by first | rfl | (simp only [wk, wks, wkL]; first | done | rfl))
    | ret _ => (first | cases h | (simp at h))
   ·rw [if_neg h17] at h
    replace h17 := Bool.eq_false_iff.2 h17
    obtain ⟨r36, h37, h⟩ := Option.bind_eq_some_iff.1 h
    have h38 : callD (callW Try.prog A0) A0 [.var [iv x0.Kind, .p (.v (.string x0.Text)), .p (.lst false x0.Gaps.length (encL en_str x0.Gaps)), .p (.lst false x0.Kids.length (encL en_Node x0.Kids))], .var [iv x1.Kind, .p (.v (.string x1.Text)), .p (.lst false x1.Gaps.length (encL en_str x1.Gaps)), .p (.lst false x1.Kids.length (encL en_Node x1.Kids))], .arr (encL en_Pair x2)] 36 [.ref 2 0 x2.length 2, .p (.agg [.v (.int .i64 (0 : Int)), .v (.int .i64 (0 : Int))])] = some (.p (.lst false r36.length (encL en_Pair r36)), some [.var [iv x0.Kind, .p (.v (.string x0.Text)), .p (.lst false x0.Gaps.length (encL en_str x0.Gaps)), .p (.lst false x0.Kids.length (encL en_Node x0.Kids))], .var [iv x1.Kind, .p (.v (.string x1.Text)), .p (.lst false x1.Gaps.length (encL en_str x1.Gaps)), .p (.lst false x1.Kids.length (encL en_Node x1.Kids))], .frz (encL en_Pair x2)]) := (callD_give (args := [.lst false x2.length (encL en_Pair x2), .agg [.v (.int .i64 (0 : Int)), .v (.int .i64 (0 : Int))]]) (ids := [2]) rfl rfl (by rw [giveD_arr (x := x2) en_Pair_len rfl (by first | rfl | omega)]; rw [giveD_p]; rw [giveD_nil]; first | rfl | (simp only [wk, wks, wkL]; rfl)) (R22_put_callp h37)).trans rfl
    simp (maxSteps := 10000000) (implicitDefEqProofs := false) (disch := first | assumption | omega | exact rfl) only [bs, rs13, ls13, Nat.reduceAdd, ↓reduceIte, lenD_lst u49, lenD_lst u52, loadD_iptr a52, loadD_pagg a25 z25, loadD_ptr a3, h3, h4, h7, h10, h11, ↓h13', h16, h17, h38]
    refine Wp.gh (fun x => seqW _ _ _ _ (seqW _ _ _ _ (regW _ _ _ _ _ x))) ⟨[.junk, .junk, .junk, .junk, .junk, .junk, .junk, .junk, .p (.lst false r5.length (encL en_Row r5)), .p (.lst false r8.length (encL en_Row r8)), .p (.lst false r36.length (encL en_Pair r36)), .junk, .junk, .junk, .junk, .junk, .junk, .junk, .junk, .junk, .junk, .junk, .junk, .junk, .junk, .junk, .junk, .junk, .junk, .junk, .junk, .junk, .junk, .junk, .junk, .junk, .junk, .junk, .junk, .junk, .junk, .junk, .junk, .junk, .junk, .junk, .junk, .junk, .junk, .junk, .junk, .junk, .junk, .junk, .junk, .junk, .junk, .junk, .junk, .junk, .junk, .junk, .junk, .junk, .junk, .junk, .junk, .junk, .junk, .junk], [], 0⟩ (by kernel_rfl) ?_
    obtain ⟨o, h55, h⟩ := Option.bind_eq_some_iff.1 h
    simp (maxSteps := 10000000) (implicitDefEqProofs := false) (disch := first | assumption | omega | exact rfl) only [bs, rs13, ls13, Nat.reduceAdd, ↓reduceIte, lenD_lst u49, lenD_lst u52, loadD_iptr a52, loadD_pagg a25 z25, loadD_ptr a3, h3, h4, h7, h10, h11, ↓h13', h16, h17, h38]
    refine Wp.ctx (fun x => seqW _ _ _ _ (blockW _ (x))) (L13_0_ok r5 r8 (r36, w64 ((r5.length : Int) - (1 : Int))) _ o (by kernel_rfl) h55) ?_
    intro e st hq
    cases o with
    | next _ => (first | cases h | (simp at h))
    | jmp n_ s_ =>
     obtain ⟨rfl, rfl, hq⟩ := hq
     obtain ⟨s10_56, s11_56⟩ := s_
     unfold F13_0 at hq
     (try simp only [] at h hq)
     obtain rfl := Option.some.inj h
     simp (maxSteps := 10000000) (implicitDefEqProofs := false) (disch := first | assumption | omega | exact rfl) only [bs, rs13, ls13, Nat.reduceAdd, ↓reduceIte, lenD_lst u49, lenD_lst u52, loadD_iptr a52, loadD_pagg a25 z25, loadD_ptr a3, h3, h4, h7, h10, h11, ↓h13', h16, h17, h38, hq]
     refine ⟨by first | exact .inl trivial | exact .inr trivial | simp, ?_⟩
     exact finish_is (ds := [.p (.lst false s10_56.length (encL en_Pair s10_56)), iv (0 : Int)]) (x := .tup [.lst false s10_56.length (encL en_Pair s10_56), .v (.int .i64 (0 : Int))]) (y := .tup [.lst false s10_56.length (encL en_Pair s10_56), .v (.int .i64 (0 : Int))]) (l := []) rfl rfl rfl rfl (by first | rfl | (simp only [wk, wks, wkL]; first | done | rfl))
    | ret _ => (first | cases h | (simp at h))
  ·rw [if_neg h13] at h
   have h13' : decide (x0.Kind = x1.Kind) = false := decide_eq_false h13
   simp (maxSteps := 10000000) (implicitDefEqProofs := false) (disch := first | assumption | omega | exact rfl) only [bs, rs13, ls13, Nat.reduceAdd, ↓reduceIte, lenD_lst u49, lenD_lst u52, loadD_iptr a52, loadD_pagg a25 z25, loadD_ptr a3, h3, h4, h7, h10, h11, ↓h13']
   refine Wp.gh (fun x => seqW _ _ _ _ (seqW _ _ _ _ (regW _ _ _ _ _ x))) ⟨[.junk, .junk, .junk, .junk, .junk, .junk, .junk, .junk, .p (.lst false r5.length (encL en_Row r5)), .p (.lst false r8.length (encL en_Row r8)), .p (.lst false x2.length (encL en_Pair x2)), .junk, .junk, .junk, .junk, .junk, .junk, .junk, .junk, .junk, .junk, .junk, .junk, .junk, .junk, .junk, .junk, .junk, .junk, .junk, .junk, .junk, .junk, .junk, .junk, .junk, .junk, .junk, .junk, .junk, .junk, .junk, .junk, .junk, .junk, .junk, .junk, .junk, .junk, .junk, .junk, .junk, .junk, .junk, .junk, .junk, .junk, .junk, .junk, .junk, .junk, .junk, .junk, .junk, .junk, .junk, .junk, .junk, .junk, .junk], [], 0⟩ (ghosts_frz (d := .ref 2 0 x2.length 2) (x := .lst false x2.length (encL en_Pair x2)) (l := [2]) rfl (purify1_enc en_Pair_len rfl (by first | rfl | omega)) (by kernel_rfl)) ?_
   obtain ⟨o, h73, h⟩ := Option.bind_eq_some_iff.1 h
   simp (maxSteps := 10000000) (implicitDefEqProofs := false) (disch := first | assumption | omega | exact rfl) only [bs, rs13, ls13, Nat.reduceAdd, ↓reduceIte, lenD_lst u49, lenD_lst u52, loadD_iptr a52, loadD_pagg a25 z25, loadD_ptr a3, h3, h4, h7, h10, h11, ↓h13']
   refine Wp.ctx (fun x => seqW _ _ _ _ (blockW _ (x))) (L13_0_ok r5 r8 (x2, w64 ((r5.length : Int) - (1 : Int))) _ o (by kernel_rfl) h73) ?_
   intro e st hq
   cases o with
   | next _ => (first | cases h | (simp at h))
   | jmp n_ s_ =>
    obtain ⟨rfl, rfl, hq⟩ := hq
    obtain ⟨s10_74, s11_74⟩ := s_
    unfold F13_0 at hq
    (try simp only [] at h hq)
    obtain rfl := Option.some.inj h
    simp (maxSteps := 10000000) (implicitDefEqProofs := false) (disch := first | assumption | omega | exact rfl) only [bs, rs13, ls13, Nat.reduceAdd, ↓reduceIte, lenD_lst u49, lenD_lst u52, loadD_iptr a52, loadD_pagg a25 z25, loadD_ptr a3, h3, h4, h7, h10, h11, ↓h13', hq]
    refine ⟨by first | exact .inl trivial | exact .inr trivial | simp, ?_⟩
    exact finish_is (ds := [.p (.lst false s10_74.length (encL en_Pair s10_74)), iv (0 : Int)]) (x := .tup [.lst false s10_74.length (encL en_Pair s10_74), .v (.int .i64 (0 : Int))]) (y := .tup [.lst false s10_74.length (encL en_Pair s10_74), .v (.int .i64 (0 : Int))]) (l := []) rfl rfl rfl rfl (by first | rfl | (simp only [wk, wks, wkL]; first | done | rfl))
   | ret _ => (first | cases h | (simp at h))
 ·rw [if_neg h4] at h
  replace h4 := Bool.eq_false_iff.2 h4
  obtain rfl := Option.some.inj h
  simp (maxSteps := 10000000) (implicitDefEqProofs := false) (disch := first | assumption | omega | exact rfl) only [bs, rs13, ls13, Nat.reduceAdd, ↓reduceIte, lenD_lst u49, lenD_lst u52, loadD_iptr a52, loadD_pagg a25 z25, loadD_ptr a3, h3, h4]
  refine ⟨by first | exact .inl trivial | exact .inr trivial | simp, ?_⟩
  exact finish_is (ds := [.p (.lst true 0 []), iv (15 : Int)]) (x := .tup [.lst true 0 [], .v (.int .i64 (15 : Int))]) (y := .tup [.lst false ([] : List Pair).length (encL en_Pair ([] : List Pair)), .v (.int .i64 (15 : Int))]) (l := []) rfl rfl rfl rfl (by first | rfl | (simp only [wk, wks, wkL]; first | done | rfl))
theorem R22_Match_call {b1 b2 b3 b4 b5 : Bool} {H : List Ob} {x0 : Node} {x1 : Node} {x2 : (List Pair)} {r : ((List Pair) × Int)} (h : R22_Match x0 x1 x2 = some r) : callD (callW Try.prog A0) A0 H 13 [.p (.agg [.v (.int .i64 x0.Kind), .v (.string x0.Text), .lst b1 x0.Gaps.length (encL en_str x0.Gaps), .lst b2 x0.Kids.length (encL en_Node x0.Kids)]), .p (.agg [.v (.int .i64 x1.Kind), .v (.string x1.Text), .lst b3 x1.Gaps.length (encL en_str x1.Gaps), .lst b4 x1.Kids.length (encL en_Node x1.Kids)]), .p (.lst b5 x2.length (encL en_Pair x2))] = some (.p (.tup [.lst false r.1.length (encL en_Pair r.1), .v (.int .i64 r.2)]), none) :=
  callD_fun (args := [.agg [.v (.int .i64 x0.Kind), .v (.string x0.Text), .lst b1 x0.Gaps.length (encL en_str x0.Gaps), .lst b2 x0.Kids.length (encL en_Node x0.Kids)], .agg [.v (.int .i64 x1.Kind), .v (.string x1.Text), .lst b3 x1.Gaps.length (encL en_str x1.Gaps), .lst b4 x1.Kids.length (encL en_Node x1.Kids)], .lst b5 x2.length (encL en_Pair x2)]) rfl rfl rfl (by simp only [List.map_cons, List.map_nil, wk, wks, wkL]; exact f13_ok x0 x1 x2 _ h)
def ls14 := And.intro @idxL_26 (@neq_39)
noncomputable def L14_0 : Code := (loopsOf (bodyOf Try.f14)).getD 0 .skip
def g14_0 : List Ghost := [.weak [0, 1], .keep [0, 1, 5]]
def F14_0 (s0 : (List Pair)) (s1 : (List Pair)) : Int → St := fun s5 => ⟨[.p (.lst false s0.length (encL en_Pair s0)), .p (.lst false s1.length (encL en_Pair s1)), .junk, .junk, .junk, iv s5, .junk, .junk, .junk, .junk, .junk, .junk, .junk, .junk, .junk, .junk, .junk, .junk, .junk, .junk, .junk, .junk, .junk, .junk, .junk, .junk], [], 0⟩
theorem L14_0_ok (s0 : (List Pair)) (s1 : (List Pair)) : ∀ s st o, ghostsD g14_0 st = some (F14_0 s0 s1 s) → iter (R19_Pairs_L0 s0 s1) s = some o →
    Wp (evW Try.prog A0 14 (.loop L14_0) st) (OutQ (F14_0 s0 s1) g14_0 (fun n s st => n = 0 ∧ ghostsD [.keep [0, 1, 5]] st = some (F14_0 s0 s1 s)) (fun r st => finishD Try.prog A0 14 Try.f14 st = some (.p (.v (.bool r)), [])) o) := by
 refine Wp.iter ?_
 intro s st o hg h
 generalize s = s5 at hg h
 unfold R19_Pairs_L0 at h
 unfold g14_0 F14_0 at hg ⊢
 (try simp only [] at h hg)
 unfold L14_0 bodyOf Try.f14; simp only [Option.getD_some, loopsOf, List.append_nil, List.nil_append, List.cons_append, List.getD_cons_zero, List.getD_cons_succ]
 by_cases h2 : s5 < (s0.length : Int)
 ·rw [if_pos h2] at h
  have h2' : decide (s5 < (s0.length : Int)) = true := decide_eq_true h2
  obtain ⟨v3, h4, h⟩ := Option.bind_eq_some_iff.1 h
  obtain ⟨h4a, h4b, _⟩ := rd_some h4
  have h5 := lk_frz_39 h4
  obtain ⟨v6, h7, h⟩ := Option.bind_eq_some_iff.1 h
  obtain ⟨h7a, h7b, _⟩ := rd_some h7
  have h8 := lk_frz_39 h7
  by_cases h9 : v3.Old = v6.Old ∧ v3.New = v6.New
  ·rw [if_pos h9] at h
   have h9' : decide (v3.Old = v6.Old ∧ v3.New = v6.New) = true := decide_eq_true h9
   obtain rfl := Option.some.inj h
   simp (maxSteps := 10000000) (implicitDefEqProofs := false) (disch := first | assumption | omega | exact rfl) only [bs, rs14, ls14, Nat.reduceAdd, ↓reduceIte, lenD_lst u26, loadD_iagg a39 z39, hg, ↓h2', h5, h8, ↓h9']
   exact ⟨rfl, by kernel_rfl⟩
  ·rw [if_neg h9] at h
   have h9' : decide (v3.Old = v6.Old ∧ v3.New = v6.New) = false := decide_eq_false h9
   obtain rfl := Option.some.inj h
   simp (maxSteps := 10000000) (implicitDefEqProofs := false) (disch := first | assumption | omega | exact rfl) only [bs, rs14, ls14, Nat.reduceAdd, ↓reduceIte, lenD_lst u26, loadD_iagg a39 z39, hg, ↓h2', h5, h8, ↓h9']
   refine ⟨rfl, ?_⟩
   exact finish_is (ds := [bv false]) (x := .v (.bool false)) (y := .v (.bool false)) (l := []) rfl rfl rfl rfl (by first | rfl | (simp only [wk, wks, wkL]; first | done | rfl))
 ·rw [if_neg h2] at h
  have h2' : decide (s5 < (s0.length : Int)) = false := decide_eq_false h2
  obtain rfl := Option.some.inj h
  simp (maxSteps := 10000000) (implicitDefEqProofs := false) (disch := first | assumption | omega | exact rfl) only [bs, rs14, ls14, Nat.reduceAdd, ↓reduceIte, lenD_lst u26, loadD_iagg a39 z39, hg, ↓h2']
  exact ⟨rfl, rfl, by kernel_rfl⟩
theorem f14_ok  (x0 : (List Pair)) (x1 : (List Pair)) (r : Bool) (h : R19_Pairs x0 x1 = some r) : callW Try.prog A0 14 [.p (.lst false x0.length (encL en_Pair x0)), .p (.lst false x1.length (encL en_Pair x1))] [] = some (.p (.v (.bool r)), []) := by
 refine call_ofH (fn := Try.f14) (c := bodyOf Try.f14) rfl rfl (by kernel_rfl) (by kernel_rfl) ?_
 rw [show initS Try.f14 [.p (.lst false x0.length (encL en_Pair x0)), .p (.lst false x1.length (encL en_Pair x1))] [] = ⟨.p (.lst false x0.length (encL en_Pair x0)) :: .p (.lst false x1.length (encL en_Pair x1)) :: List.replicate 24 undefD, [], 0⟩ from by kernel_rfl]
 unfold R19_Pairs at h
 unfold bodyOf Try.f14; simp only [Option.getD_some, loopsOf, List.append_nil, List.nil_append, List.cons_append, List.getD_cons_zero, List.getD_cons_succ]
 simp only [List.replicate]
 by_cases h1 : (x0.length : Int) = (x1.length : Int)
 ·rw [if_pos h1] at h
  have h1' : decide ((x0.length : Int) = (x1.length : Int)) = true := decide_eq_true h1
  obtain ⟨o, h10, h⟩ := Option.bind_eq_some_iff.1 h
  simp (maxSteps := 10000000) (implicitDefEqProofs := false) (disch := first | assumption | omega | exact rfl) only [bs, rs14, ls14, Nat.reduceAdd, ↓reduceIte, lenD_lst u26, loadD_iagg a39 z39, ↓h1']
  refine Wp.ctx (fun x => seqW _ _ _ _ (blockW _ (x))) (L14_0_ok x0 x1 (0 : Int) _ o (by kernel_rfl) h10) ?_
  intro e st hq
  cases o with
  | next _ => (first | cases h | (simp at h))
  | jmp n_ s_ =>
   obtain ⟨rfl, rfl, hq⟩ := hq
   generalize s_ = s5_11 at h hq
   unfold F14_0 at hq
   (try simp only [] at h hq)
   obtain rfl := Option.some.inj h
   simp (maxSteps := 10000000) (implicitDefEqProofs := false) (disch := first | assumption | omega | exact rfl) only [bs, rs14, ls14, Nat.reduceAdd, ↓reduceIte, lenD_lst u26, loadD_iagg a39 z39, ↓h1', hq]
   refine ⟨by first | exact .inl trivial | exact .inr trivial | simp, ?_⟩
   exact finish_is (ds := [bv true]) (x := .v (.bool true)) (y := .v (.bool true)) (l := []) rfl rfl rfl rfl (by first | rfl | (simp only [wk, wks, wkL]; first | done | rfl))
  | ret r12 =>
   obtain ⟨rfl, hq⟩ := hq
   obtain rfl := Option.some.inj h
   simp (maxSteps := 10000000) (implicitDefEqProofs := false) (disch := first | assumption | omega | exact rfl) only [bs, rs14, ls14, Nat.reduceAdd, ↓reduceIte, lenD_lst u26, loadD_iagg a39 z39]
   exact ⟨by first | exact .inl trivial | exact .inr trivial | simp, hq⟩
 ·rw [if_neg h1] at h
  have h1' : decide ((x0.length : Int) = (x1.length : Int)) = false := decide_eq_false h1
  obtain rfl := Option.some.inj h
  simp (maxSteps := 10000000) (implicitDefEqProofs := false) (disch := first | assumption | omega | exact rfl) only [bs, rs14, ls14, Nat.reduceAdd, ↓reduceIte, lenD_lst u26, loadD_iagg a39 z39, ↓h1']
  refine ⟨by first | exact .inl trivial | exact .inr trivial | simp, ?_⟩
  exact finish_is (ds := [bv false]) (x := .v (.bool false)) (y := .v (.bool false)) (l := []) rfl rfl rfl rfl (by first | rfl | (simp only [wk, wks, wkL]; first | done | rfl))
theorem R19_Pairs_call {b1 b2 : Bool} {H : List Ob} {x0 : (List Pair)} {x1 : (List Pair)} {r : Bool} (h : R19_Pairs x0 x1 = some r) : callD (callW Try.prog A0) A0 H 14 [.p (.lst b1 x0.length (encL en_Pair x0)), .p (.lst b2 x1.length (encL en_Pair x1))] = some (.p (.v (.bool r)), none) :=
  callD_fun (args := [.lst b1 x0.length (encL en_Pair x0), .lst b2 x1.length (encL en_Pair x1)]) rfl rfl rfl (by simp only [List.map_cons, List.map_nil, wk, wks, wkL]; exact f14_ok x0 x1 _ h)
def ls4 := And.intro @ex_2_0 (And.intro @ex_2_1 (@varlv_4_0_4))
theorem f4_ok  (x0 : Node) (x1 : Node) (x2 : (List Pair)) (r : Bool) (h : law22_SimilarMatches x0 x1 x2 = some r) : callW Try.prog A0 4 [.p (.agg [.v (.int .i64 x0.Kind), .v (.string x0.Text), .lst false x0.Gaps.length (encL en_str x0.Gaps), .lst false x0.Kids.length (encL en_Node x0.Kids)]), .p (.agg [.v (.int .i64 x1.Kind), .v (.string x1.Text), .lst false x1.Gaps.length (encL en_str x1.Gaps), .lst false x1.Kids.length (encL en_Node x1.Kids)]), .p (.lst false x2.length (encL en_Pair x2))] [] = some (.p (.v (.bool r)), []) := by
 refine call_ofH (fn := Try.f4) (c := bodyOf Try.f4) rfl rfl (by kernel_rfl) (by kernel_rfl) ?_
 rw [show initS Try.f4 [.p (.agg [.v (.int .i64 x0.Kind), .v (.string x0.Text), .lst false x0.Gaps.length (encL en_str x0.Gaps), .lst false x0.Kids.length (encL en_Node x0.Kids)]), .p (.agg [.v (.int .i64 x1.Kind), .v (.string x1.Text), .lst false x1.Gaps.length (encL en_str x1.Gaps), .lst false x1.Kids.length (encL en_Node x1.Kids)]), .p (.lst false x2.length (encL en_Pair x2))] [] = ⟨.p (.agg [.v (.int .i64 x0.Kind), .v (.string x0.Text), .lst false x0.Gaps.length (encL en_str x0.Gaps), .lst false x0.Kids.length (encL en_Node x0.Kids)]) :: .p (.agg [.v (.int .i64 x1.Kind), .v (.string x1.Text), .lst false x1.Gaps.length (encL en_str x1.Gaps), .lst false x1.Kids.length (encL en_Node x1.Kids)]) :: .p (.lst false x2.length (encL en_Pair x2)) :: List.replicate 47 undefD, [], 0⟩ from by kernel_rfl]
 unfold law22_SimilarMatches at h
 unfold bodyOf Try.f4; simp only [Option.getD_some, loopsOf, List.append_nil, List.nil_append, List.cons_append, List.getD_cons_zero, List.getD_cons_succ]
 simp only [List.replicate]
 obtain ⟨r1, h2, h⟩ := Option.bind_eq_some_iff.1 h
 have h3 : ∀ H, callD (callW Try.prog A0) A0 H 8 [.p (.agg [.v (.int .i64 x0.Kind), .v (.string x0.Text), .lst false x0.Gaps.length (encL en_str x0.Gaps), .lst false x0.Kids.length (encL en_Node x0.Kids)])] = some (.p (.v (.bool r1)), none) := fun H => law22_small_call h2
 by_cases h4 : r1 = true
 ·rw [if_pos h4] at h
  obtain ⟨r5, h6, h⟩ := Option.bind_eq_some_iff.1 h
  have h7 : ∀ H, callD (callW Try.prog A0) A0 H 8 [.p (.agg [.v (.int .i64 x1.Kind), .v (.string x1.Text), .lst false x1.Gaps.length (encL en_str x1.Gaps), .lst false x1.Kids.length (encL en_Node x1.Kids)])] = some (.p (.v (.bool r5)), none) := fun H => law22_small_call h6
  by_cases h8 : r5 = true
  ·rw [if_pos h8] at h
   by_cases h9 : (200 : Int) < (x2.length : Int)
   ·rw [if_pos h9] at h
    have h9' : decide ((200 : Int) < (x2.length : Int)) = true := decide_eq_true h9
    obtain ⟨r10, h11, h⟩ := Option.bind_eq_some_iff.1 h
    have h12 : ∀ H, callD (callW Try.prog A0) A0 H 9 [] = some (.p (.v (.bool r10)), none) := fun H => law22_awake_call h11
    obtain rfl := Option.some.inj h
    simp (maxSteps := 10000000) (implicitDefEqProofs := false) (disch := first | assumption | omega | exact rfl) only [bs, rs4, ls4, Nat.reduceAdd, ↓reduceIte, lenD_lst u26, loadD_pagg a25 z25, h3, h4, h7, h8, ↓h9', h12]
    refine ⟨by first | exact .inl trivial | exact .inr trivial | simp, ?_⟩
    exact finish_is (ds := [bv r10]) (x := .v (.bool r10)) (y := .v (.bool r10)) (l := []) rfl rfl rfl rfl (by first | rfl | (simp only [wk, wks, wkL]; first | done | rfl))
   ·rw [if_neg h9] at h
    have h9' : decide ((200 : Int) < (x2.length : Int)) = false := decide_eq_false h9
    obtain ⟨r13, h14, h⟩ := Option.bind_eq_some_iff.1 h
    have h15 : ∀ H, callD (callW Try.prog A0) A0 H 12 [.p (.agg [.v (.int .i64 x0.Kind), .v (.string x0.Text), .lst false x0.Gaps.length (encL en_str x0.Gaps), .lst false x0.Kids.length (encL en_Node x0.Kids)]), .p (.agg [.v (.int .i64 x1.Kind), .v (.string x1.Text), .lst false x1.Gaps.length (encL en_str x1.Gaps), .lst false x1.Kids.length (encL en_Node x1.Kids)]), .p (.lst false x2.length (encL en_Pair x2))] = some (.p (.tup [.lst false r13.1.length (encL en_Pair r13.1), .v (.int .i64 r13.2)]), none) := fun H => similar_Match_call h14
    obtain ⟨r16, h17, h⟩ := Option.bind_eq_some_iff.1 h
    have h18 : ∀ H, callD (callW Try.prog A0) A0 H 13 [.p (.agg [.v (.int .i64 x0.Kind), .v (.string x0.Text), .lst false x0.Gaps.length (encL en_str x0.Gaps), .lst false x0.Kids.length (encL en_Node x0.Kids)]), .p (.agg [.v (.int .i64 x1.Kind), .v (.string x1.Text), .lst false x1.Gaps.length (encL en_str x1.Gaps), .lst false x1.Kids.length (encL en_Node x1.Kids)]), .p (.lst false x2.length (encL en_Pair x2))] = some (.p (.tup [.lst false r16.1.length (encL en_Pair r16.1), .v (.int .i64 r16.2)]), none) := fun H => R22_Match_call h17
    by_cases h19 : r13.2 = r16.2
    ·rw [if_pos h19] at h
     have h19' : decide (r13.2 = r16.2) = true := decide_eq_true h19
     obtain ⟨r20, h21, h⟩ := Option.bind_eq_some_iff.1 h
     have h22 : ∀ H, callD (callW Try.prog A0) A0 H 14 [.p (.lst false r13.1.length (encL en_Pair r13.1)), .p (.lst false r16.1.length (encL en_Pair r16.1))] = some (.p (.v (.bool r20)), none) := fun H => R19_Pairs_call h21
     by_cases h23 : r20 = true
     ·rw [if_pos h23] at h
      obtain ⟨r24, h25, h⟩ := Option.bind_eq_some_iff.1 h
      have h26 : ∀ H, callD (callW Try.prog A0) A0 H 9 [] = some (.p (.v (.bool r24)), none) := fun H => law22_awake_call h25
      obtain rfl := Option.some.inj h
      simp (maxSteps := 10000000) (implicitDefEqProofs := false) (disch := first | assumption | omega | exact rfl) only [bs, rs4, ls4, Nat.reduceAdd, ↓reduceIte, lenD_lst u26, loadD_pagg a25 z25, h3, h4, h7, h8, ↓h9', h15, h18, ↓h19', h22, h23, h26]
      refine ⟨by first | exact .inl trivial | exact .inr trivial | simp, ?_⟩
      exact finish_is (ds := [bv r24]) (x := .v (.bool r24)) (y := .v (.bool r24)) (l := []) rfl rfl rfl rfl (by first | rfl | (simp only [wk, wks, wkL]; first | done | rfl))
     ·rw [if_neg h23] at h
      replace h23 := Bool.eq_false_iff.2 h23
      obtain rfl := Option.some.inj h
      simp (maxSteps := 10000000) (implicitDefEqProofs := false) (disch := first | assumption | omega | exact rfl) only [bs, rs4, ls4, Nat.reduceAdd, ↓reduceIte, lenD_lst u26, loadD_pagg a25 z25, h3, h4, h7, h8, ↓h9', h15, h18, ↓h19', h22, h23]
      refine ⟨by first | exact .inl trivial | exact .inr trivial | simp, ?_⟩
      exact finish_is (ds := [bv false]) (x := .v (.bool false)) (y := .v (.bool false)) (l := []) rfl rfl rfl rfl (by first | rfl | (simp only [wk, wks, wkL]; first | done | rfl))
    ·rw [if_neg h19] at h
     have h19' : decide (r13.2 = r16.2) = false := decide_eq_false h19
     obtain rfl := Option.some.inj h
     simp (maxSteps := 10000000) (implicitDefEqProofs := false) (disch := first | assumption | omega | exact rfl) only [bs, rs4, ls4, Nat.reduceAdd, ↓reduceIte, lenD_lst u26, loadD_pagg a25 z25, h3, h4, h7, h8, ↓h9', h15, h18, ↓h19']
     refine ⟨by first | exact .inl trivial | exact .inr trivial | simp, ?_⟩
     exact finish_is (ds := [bv false]) (x := .v (.bool false)) (y := .v (.bool false)) (l := []) rfl rfl rfl rfl (by first | rfl | (simp only [wk, wks, wkL]; first | done | rfl))
  ·rw [if_neg h8] at h
   replace h8 := Bool.eq_false_iff.2 h8
   obtain ⟨r27, h28, h⟩ := Option.bind_eq_some_iff.1 h
   have h29 : ∀ H, callD (callW Try.prog A0) A0 H 9 [] = some (.p (.v (.bool r27)), none) := fun H => law22_awake_call h28
   obtain rfl := Option.some.inj h
   simp (maxSteps := 10000000) (implicitDefEqProofs := false) (disch := first | assumption | omega | exact rfl) only [bs, rs4, ls4, Nat.reduceAdd, ↓reduceIte, lenD_lst u26, loadD_pagg a25 z25, h3, h4, h7, h8, h29]
   refine ⟨by first | exact .inl trivial | exact .inr trivial | simp, ?_⟩
   exact finish_is (ds := [bv r27]) (x := .v (.bool r27)) (y := .v (.bool r27)) (l := []) rfl rfl rfl rfl (by first | rfl | (simp only [wk, wks, wkL]; first | done | rfl))
 ·rw [if_neg h4] at h
  replace h4 := Bool.eq_false_iff.2 h4
  obtain ⟨r30, h31, h⟩ := Option.bind_eq_some_iff.1 h
  have h32 : ∀ H, callD (callW Try.prog A0) A0 H 9 [] = some (.p (.v (.bool r30)), none) := fun H => law22_awake_call h31
  obtain rfl := Option.some.inj h
  simp (maxSteps := 10000000) (implicitDefEqProofs := false) (disch := first | assumption | omega | exact rfl) only [bs, rs4, ls4, Nat.reduceAdd, ↓reduceIte, lenD_lst u26, loadD_pagg a25 z25, h3, h4, h32]
  refine ⟨by first | exact .inl trivial | exact .inr trivial | simp, ?_⟩
  exact finish_is (ds := [bv r30]) (x := .v (.bool r30)) (y := .v (.bool r30)) (l := []) rfl rfl rfl rfl (by first | rfl | (simp only [wk, wks, wkL]; first | done | rfl))
end Xn

