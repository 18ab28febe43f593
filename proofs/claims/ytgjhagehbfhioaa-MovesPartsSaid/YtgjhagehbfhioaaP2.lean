/- A part of the proof: P2. No conditions of its own. -/
import Derived.Test.YtgjhagehbfhioaaP1
namespace Xn
open Go Go.Ev Go.Proofs
set_option linter.unusedSimpArgs false
set_option linter.unusedVariables false
set_option linter.defProp false
set_option maxRecDepth 8000
set_option maxHeartbeats 40000000
def ls13 := And.intro @al_46 (And.intro @ap_26_26 (And.intro @bs_26_1 (And.intro @ex_2_0 (And.intro @ex_2_1 (And.intro @idxL_26 (And.intro @sa_2_0_2 (And.intro @varlv_2_0_2 (@varlv_4_0_4))))))))
noncomputable def L13_0 : Code := (loopsOf (bodyOf Try.f13)).getD 0 .skip
def g13_0 : List Ghost := [.own 10 2, .weak [8, 23], .keep [8, 10, 23, 24, 25]]
def F13_0 (s8 : (List Move)) (s23 : (List Pair)) (s24 : Int) : (Int × (List Pair)) → St := fun (s25, y0) => ⟨[.junk, .junk, .junk, .junk, .junk, .junk, .junk, .junk, .p (.lst false s8.length (encL en_Move s8)), .junk, .ref 0 0 y0.length 2, .junk, .junk, .junk, .junk, .junk, .junk, .junk, .junk, .junk, .junk, .junk, .junk, .p (.lst false s23.length (encL en_Pair s23)), iv s24, iv s25, .junk, .junk, .junk, .junk, .junk, .junk, .junk, .junk, .junk, .junk, .junk, .junk, .junk], [.arr (encL en_Pair y0)], 0⟩
theorem L13_0_ok (s8 : (List Move)) (s23 : (List Pair)) (s24 : Int) : ∀ s st o, ghostsD g13_0 st = some (F13_0 s8 s23 s24 s) → iter (moves_Stable_L0 s8 s23 s24) s = some o →
    Wp (evW Try.prog A0 13 (.loop L13_0) st) (OutQ (F13_0 s8 s23 s24) g13_0 (fun n s st => n = 0 ∧ ghostsD [.keep [8, 10, 23, 24, 25]] st = some (F13_0 s8 s23 s24 s)) (fun r st => finishD Try.prog A0 13 Try.f13 st = some (.p (.tup [.lst false r.1.length (encL en_Pair r.1), .v (.int .i64 r.2)]), [])) o) := by
 refine Wp.iter ?_
 intro s st o hg h
 obtain ⟨s25, y0⟩ := s
 unfold moves_Stable_L0 at h
 unfold g13_0 F13_0 at hg ⊢
 (try simp only [] at h hg)
 unfold L13_0 bodyOf Try.f13; simp only [Option.getD_some, loopsOf, List.append_nil, List.nil_append, List.cons_append, List.getD_cons_zero, List.getD_cons_succ]
 by_cases h5 : s25 < s24
 ·rw [if_pos h5] at h
  have h5' : decide (s25 < s24) = true := decide_eq_true h5
  obtain ⟨v6, h7, h⟩ := Option.bind_eq_some_iff.1 h
  obtain ⟨h7a, h7b, _⟩ := rd_some h7
  have h8 := lk_frz_46 h7
  obtain ⟨r9, h10, h⟩ := Option.bind_eq_some_iff.1 h
  have h11 : callD (callW Try.prog A0) A0 [.arr (encL en_Pair y0), .var [iv v6.Old, iv v6.New]] 37 [.p (.lst false s8.length (encL en_Move s8)), .fn (.func 38) [.ptr 1 0]] = some (.p (.v (.bool r9)), none) := callD_ro (ds1 := [.p (.lst false s8.length (encL en_Move s8)), .fn (.func 38) [.ptr 1 0]]) (ds' := [.p (.lst false s8.length (encL en_Move s8)), .fn (.func 38) [.ptr 0 0]]) (i := 1) (ids := []) (os := [.ro [iv v6.Old, iv v6.New]]) rfl rfl (by first | rfl | (simp only [giveD, wk, wks, wkL]; first | done | rfl)) (by kernel_rfl) (by kernel_rfl) (by kernel_rfl) (by kernel_rfl) (slices_ContainsFunc_38_callc h10)
  by_cases h12 : r9 = true
  ·rw [if_pos h12] at h
   obtain rfl := Option.some.inj h
   simp (maxSteps := 10000000) (implicitDefEqProofs := false) (disch := first | assumption | omega | exact rfl) only [bs, rs13, ls13, Nat.reduceAdd, ↓reduceIte, allP, lenD_lst u26, loadD_iagg a46 z46, loadD_pagg a25 z25, loadD_pagg a46 z46, mkFn, ops_makeFunc_, storeD_agg z46, wks_nil_, hg, ↓h5', h8, h11, h12]
   exact ⟨rfl, by kernel_rfl⟩
  ·rw [if_neg h12] at h
   replace h12 := Bool.eq_false_iff.2 h12
   by_cases hw_ : (y0.length + 1) * 16 ≤ 140737488355328
   case neg => rw [if_neg hw_] at h; cases h
   rw [if_pos hw_] at h
   have h14 := hw_
   have h13 : ∀ (H : List Ob) (id : Nat), apOb H id 0 y0.length 1 2 2 16 [.v (.int .i64 v6.Old), .v (.int .i64 v6.New)] (some (.arr (encL en_Pair y0))) = some (.ref H.length 0 (y0 ++ [v6]).length 2, H.set id .dead ++ [.arr (encL en_Pair (y0 ++ [v6]))]) := fun H id => ap_enc (y := [v6]) en_Pair_len (by first | rfl | omega) rfl (by first | (simp only [encL_cons, encL_nil, en_Pair_eq, List.cons_append, List.nil_append]; done) | (simp only [encL_cons, encL_nil, en_Pair_eq, List.cons_append, List.nil_append]; rfl) | rfl) (by assumption)
   obtain rfl := Option.some.inj h
   simp (maxSteps := 10000000) (implicitDefEqProofs := false) (disch := first | assumption | omega | exact rfl) only [bs, rs13, ls13, Nat.reduceAdd, ↓reduceIte, allP, lenD_lst u26, loadD_iagg a46 z46, loadD_pagg a25 z25, loadD_pagg a46 z46, mkFn, ops_makeFunc_, storeD_agg z46, wks_nil_, hg, ↓h5', h8, h11, h12, h13]
   exact ⟨rfl, by kernel_rfl⟩
 ·rw [if_neg h5] at h
  have h5' : decide (s25 < s24) = false := decide_eq_false h5
  obtain rfl := Option.some.inj h
  simp (maxSteps := 10000000) (implicitDefEqProofs := false) (disch := first | assumption | omega | exact rfl) only [bs, rs13, ls13, Nat.reduceAdd, ↓reduceIte, allP, lenD_lst u26, loadD_iagg a46 z46, loadD_pagg a25 z25, loadD_pagg a46 z46, mkFn, ops_makeFunc_, storeD_agg z46, wks_nil_, hg, ↓h5']
  exact ⟨rfl, rfl, by kernel_rfl⟩
theorem f13_ok  (x0 : Node) (x1 : Node) (x2 : (List Pair)) (r : ((List Pair) × Int)) (h : moves_Stable x0 x1 x2 = some r) : callW Try.prog A0 13 [.p (.agg [.v (.int .i64 x0.Kind), .v (.string x0.Text), .lst false x0.Gaps.length (encL en_str x0.Gaps), .lst false x0.Kids.length (encL en_Node x0.Kids)]), .p (.agg [.v (.int .i64 x1.Kind), .v (.string x1.Text), .lst false x1.Gaps.length (encL en_str x1.Gaps), .lst false x1.Kids.length (encL en_Node x1.Kids)]), .p (.lst false x2.length (encL en_Pair x2))] [] = some (.p (.tup [.lst false r.1.length (encL en_Pair r.1), .v (.int .i64 r.2)]), []) := by
 refine call_ofH (fn := Try.f13) (c := bodyOf Try.f13) rfl (by kernel_rfl) (by kernel_rfl) ?_
 rw [show initS Try.f13 [.p (.agg [.v (.int .i64 x0.Kind), .v (.string x0.Text), .lst false x0.Gaps.length (encL en_str x0.Gaps), .lst false x0.Kids.length (encL en_Node x0.Kids)]), .p (.agg [.v (.int .i64 x1.Kind), .v (.string x1.Text), .lst false x1.Gaps.length (encL en_str x1.Gaps), .lst false x1.Kids.length (encL en_Node x1.Kids)]), .p (.lst false x2.length (encL en_Pair x2))] [] = ⟨.p (.agg [.v (.int .i64 x0.Kind), .v (.string x0.Text), .lst false x0.Gaps.length (encL en_str x0.Gaps), .lst false x0.Kids.length (encL en_Node x0.Kids)]) :: .p (.agg [.v (.int .i64 x1.Kind), .v (.string x1.Text), .lst false x1.Gaps.length (encL en_str x1.Gaps), .lst false x1.Kids.length (encL en_Node x1.Kids)]) :: .p (.lst false x2.length (encL en_Pair x2)) :: List.replicate 36 undefD, [], 0⟩ from by kernel_rfl]
 unfold moves_Stable at h
 unfold bodyOf Try.f13; simp only [Option.getD_some, loopsOf, List.append_nil, List.nil_append, List.cons_append, List.getD_cons_zero, List.getD_cons_succ]
 simp only [List.replicate]
 obtain ⟨r1, h2, h⟩ := Option.bind_eq_some_iff.1 h
 have h3 : ∀ H, callD (callW Try.prog A0) A0 H 11 [.p (.agg [.v (.int .i64 x0.Kind), .v (.string x0.Text), .lst false x0.Gaps.length (encL en_str x0.Gaps), .lst false x0.Kids.length (encL en_Node x0.Kids)]), .p (.agg [.v (.int .i64 x1.Kind), .v (.string x1.Text), .lst false x1.Gaps.length (encL en_str x1.Gaps), .lst false x1.Kids.length (encL en_Node x1.Kids)]), .p (.lst false x2.length (encL en_Pair x2))] = some (.p (.tup [.lst false r1.1.length (encL en_Move r1.1), .v (.int .i64 r1.2)]), none) := fun H => moves_Moves_call h2
 by_cases h4 : r1.2 = (0 : Int)
 ·rw [if_pos h4] at h
  have h4' : decide (r1.2 = (0 : Int)) = true := decide_eq_true h4
  obtain ⟨o, h15, h⟩ := Option.bind_eq_some_iff.1 h
  simp (maxSteps := 10000000) (implicitDefEqProofs := false) (disch := first | assumption | omega | exact rfl) only [bs, rs13, ls13, Nat.reduceAdd, ↓reduceIte, allP, lenD_lst u26, loadD_iagg a46 z46, loadD_pagg a25 z25, loadD_pagg a46 z46, mkFn, ops_makeFunc_, storeD_agg z46, wks_nil_, h3, ↓h4']
  refine Wp.ctx (fun x => seqW _ _ _ _ (blockW _ (x))) (L13_0_ok r1.1 x2 (x2.length : Int) ((0 : Int), ([] : List Pair)) _ o (by kernel_rfl) h15) ?_
  intro e st hq
  cases o with
  | next _ => (first | cases h | (simp at h))
  | jmp n_ s_ =>
   obtain ⟨rfl, rfl, hq⟩ := hq
   obtain ⟨s25_16, y0_16⟩ := s_
   unfold F13_0 at hq
   (try simp only [] at h hq)
   obtain rfl := Option.some.inj h
   simp (maxSteps := 10000000) (implicitDefEqProofs := false) (disch := first | assumption | omega | exact rfl) only [bs, rs13, ls13, Nat.reduceAdd, ↓reduceIte, allP, lenD_lst u26, loadD_iagg a46 z46, loadD_pagg a25 z25, loadD_pagg a46 z46, mkFn, ops_makeFunc_, storeD_agg z46, wks_nil_, h3, ↓h4', hq]
   refine ⟨by first | exact .inl trivial | exact .inr trivial | simp, ?_⟩
   exact finish_is (ds := [.ref 0 0 y0_16.length 2, iv (0 : Int)]) (x := .tup [.lst false y0_16.length (encL en_Pair y0_16), .v (.int .i64 (0 : Int))]) (y := .tup [.lst false y0_16.length (encL en_Pair y0_16), .v (.int .i64 (0 : Int))]) (l := [0]) rfl rfl rfl (purifyT_rp en_Pair_len rfl (by first | rfl | omega)) (by first | rfl | (simp only [wk, wks, wkL]; first | done | rfl))
  | ret _ => (first | cases h | (simp at h))
 ·rw [if_neg h4] at h
  have h4' : decide (r1.2 = (0 : Int)) = false := decide_eq_false h4
  obtain rfl := Option.some.inj h
  simp (maxSteps := 10000000) (implicitDefEqProofs := false) (disch := first | assumption | omega | exact rfl) only [bs, rs13, ls13, Nat.reduceAdd, ↓reduceIte, allP, lenD_lst u26, loadD_iagg a46 z46, loadD_pagg a25 z25, loadD_pagg a46 z46, mkFn, ops_makeFunc_, storeD_agg z46, wks_nil_, h3, ↓h4']
  refine ⟨by first | exact .inl trivial | exact .inr trivial | simp, ?_⟩
  exact finish_is (ds := [.p (.lst true 0 []), iv r1.2]) (x := .tup [.lst true 0 [], .v (.int .i64 r1.2)]) (y := .tup [.lst false ([] : List Pair).length (encL en_Pair ([] : List Pair)), .v (.int .i64 r1.2)]) (l := []) rfl rfl rfl rfl (by first | rfl | (simp only [wk, wks, wkL]; first | done | rfl))
theorem moves_Stable_call {b1 b2 b3 b4 b5 : Bool} {H : List Ob} {x0 : Node} {x1 : Node} {x2 : (List Pair)} {r : ((List Pair) × Int)} (h : moves_Stable x0 x1 x2 = some r) : callD (callW Try.prog A0) A0 H 13 [.p (.agg [.v (.int .i64 x0.Kind), .v (.string x0.Text), .lst b1 x0.Gaps.length (encL en_str x0.Gaps), .lst b2 x0.Kids.length (encL en_Node x0.Kids)]), .p (.agg [.v (.int .i64 x1.Kind), .v (.string x1.Text), .lst b3 x1.Gaps.length (encL en_str x1.Gaps), .lst b4 x1.Kids.length (encL en_Node x1.Kids)]), .p (.lst b5 x2.length (encL en_Pair x2))] = some (.p (.tup [.lst false r.1.length (encL en_Pair r.1), .v (.int .i64 r.2)]), none) :=
  callD_fun (args := [.agg [.v (.int .i64 x0.Kind), .v (.string x0.Text), .lst b1 x0.Gaps.length (encL en_str x0.Gaps), .lst b2 x0.Kids.length (encL en_Node x0.Kids)], .agg [.v (.int .i64 x1.Kind), .v (.string x1.Text), .lst b3 x1.Gaps.length (encL en_str x1.Gaps), .lst b4 x1.Kids.length (encL en_Node x1.Kids)], .lst b5 x2.length (encL en_Pair x2)]) rfl rfl rfl (by simp only [List.map_cons, List.map_nil, wk, wks, wkL]; exact f13_ok x0 x1 x2 _ h)
def ls47 := And.intro @ap_38_38 (And.intro @ap_53_53 (And.intro @bs_38_1 (And.intro @bs_53_1 (And.intro @bu_59_0_1_2_3 (And.intro @faP_25_0 (And.intro @faP_25_1 (And.intro @faP_25_2 (And.intro @faP_25_3 (And.intro @faP_59_4 (And.intro @idxL_23 (And.intro @idxR_53 (And.intro @varld_4_0_0 (And.intro @varld_4_0_1 (And.intro @varld_4_0_2 (@varld_4_0_3)))))))))))))))
theorem R06_rows_rcall {rec : (List Row) → Node → Int → Option (List Row)} (hrec : ∀ x0 x1 x2 r, rec x0 x1 x2 = some r → callW Try.prog A0 47 [.ref 0 0 x0.length 5, .p (.agg [.v (.int .i64 x1.Kind), .v (.string x1.Text), .lst false x1.Gaps.length (encL en_str x1.Gaps), .lst false x1.Kids.length (encL en_Node x1.Kids)]), iv x2] [.arr (encL en_Row x0)] = some (.ref 1 0 r.length 5, [.dead, .arr (encL en_Row r)])) {H : List Ob} {id n : Nat} {b1 b2 : Bool} {x0 : (List Row)} {x1 : Node} {x2 : Int} {r : (List Row)} : H[id]? = some (.arr (encL en_Row x0)) → n = x0.length → ∀ (h : rec x0 x1 x2 = some r), callD (callW Try.prog A0) A0 H 47 [.ref id 0 n 5, .p (.agg [.v (.int .i64 x1.Kind), .v (.string x1.Text), .lst b1 x1.Gaps.length (encL en_str x1.Gaps), .lst b2 x1.Kids.length (encL en_Node x1.Kids)]), iv x2] = some (.ref H.length 0 r.length 5, some (H.set id .dead ++ [.arr (encL en_Row r)])) := by
  intro hid hn h; subst hn; exact callD_mut1 (args := [.agg [.v (.int .i64 x1.Kind), .v (.string x1.Text), .lst false x1.Gaps.length (encL en_str x1.Gaps), .lst false x1.Kids.length (encL en_Node x1.Kids)], .v (.int .i64 x2)]) (by simp only [List.map_cons, List.map_nil, wkDv, wk, wks, wkL]) rfl hid (hrec x0 x1 x2 _ h)
noncomputable def L47_0 : Code := (loopsOf (bodyOf Try.f47)).getD 0 .skip
def g47_0 : List Ghost := [.own 8 1, .keep [0, 4, 7, 8, 9]]
def F47_0 (s7 : Int) (w2_0 : Int) (w2_1 : ByteArray) (w2_2 : (List ByteArray)) (w2_3 : (List Node)) : (Int × (List Row) × (List Int)) → St := fun (s9, y1, y3) => ⟨[.ref 1 0 y1.length 5, .junk, .junk, .junk, .ptr 2 0, .junk, .junk, iv s7, .ref 3 0 y3.length 1, iv s9, .junk, .junk, .junk, .junk, .junk, .junk, .junk, .junk, .junk, .junk, .junk, .junk, .junk, .junk, .junk, .junk, .junk, .junk, .junk, .junk, .junk, .junk, .junk, .junk, .junk, .junk, .junk, .junk, .junk, .junk, .junk, .junk, .junk, .junk, .junk, .junk, .junk, .junk, .junk], [.dead, .arr (encL en_Row y1), .var [iv w2_0, .p (.v (.string w2_1)), .p (.lst false w2_2.length (encL en_str w2_2)), .p (.lst false w2_3.length (encL en_Node w2_3))], .arr (encL en_i64 y3)], 1⟩
theorem L47_0_ok {rec : (List Row) → Node → Int → Option (List Row)} (hrec : ∀ x0 x1 x2 r, rec x0 x1 x2 = some r → callW Try.prog A0 47 [.ref 0 0 x0.length 5, .p (.agg [.v (.int .i64 x1.Kind), .v (.string x1.Text), .lst false x1.Gaps.length (encL en_str x1.Gaps), .lst false x1.Kids.length (encL en_Node x1.Kids)]), iv x2] [.arr (encL en_Row x0)] = some (.ref 1 0 r.length 5, [.dead, .arr (encL en_Row r)])) (s7 : Int) (w2_0 : Int) (w2_1 : ByteArray) (w2_2 : (List ByteArray)) (w2_3 : (List Node)) : ∀ s st o, ghostsD g47_0 st = some (F47_0 s7 w2_0 w2_1 w2_2 w2_3 s) → iter (R06_rows_L0 rec s7 w2_0 w2_1 w2_2 w2_3) s = some o →
    Wp (evW Try.prog A0 47 (.loop L47_0) st) (OutQ (F47_0 s7 w2_0 w2_1 w2_2 w2_3) g47_0 (fun n s st => n = 0 ∧ ghostsD [.keep [0, 4, 7, 8, 9]] st = some (F47_0 s7 w2_0 w2_1 w2_2 w2_3 s)) (fun r st => finishD Try.prog A0 47 Try.f47 st = some (.ref 1 0 r.length 5, [.dead, .arr (encL en_Row r)])) o) := by
 refine Wp.iter ?_
 intro s st o hg h
 obtain ⟨s9, y1, y3⟩ := s
 unfold R06_rows_L0 at h
 unfold g47_0 F47_0 at hg ⊢
 (try simp only [] at h hg)
 unfold L47_0 bodyOf Try.f47; simp only [Option.getD_some, loopsOf, List.append_nil, List.nil_append, List.cons_append, List.getD_cons_zero, List.getD_cons_succ]
 by_cases h3 : s9 < (w2_3.length : Int)
 ·rw [if_pos h3] at h
  have h3' : decide (s9 < (w2_3.length : Int)) = true := decide_eq_true h3
  by_cases hw_ : (y3.length + 1) * 8 ≤ 140737488355328
  case neg => rw [if_neg hw_] at h; cases h
  rw [if_pos hw_] at h
  have h5 := hw_
  have h4 : ∀ (H : List Ob) (id : Nat), apOb H id 0 y3.length 1 1 1 8 [.v (.int .i64 (y1.length : Int))] (some (.arr (encL en_i64 y3))) = some (.ref H.length 0 (y3 ++ [(y1.length : Int)]).length 1, H.set id .dead ++ [.arr (encL en_i64 (y3 ++ [(y1.length : Int)]))]) := fun H id => ap_enc (y := [(y1.length : Int)]) en_i64_len (by first | rfl | omega) rfl (by first | (simp only [encL_cons, encL_nil, en_i64_eq, List.cons_append, List.nil_append]; done) | (simp only [encL_cons, encL_nil, en_i64_eq, List.cons_append, List.nil_append]; rfl) | rfl) (by assumption)
  obtain ⟨v6, h7, h⟩ := Option.bind_eq_some_iff.1 h
  obtain ⟨h7a, h7b, _⟩ := rd_some h7
  have h8 := lk_frz_25 h7
  obtain ⟨r9, h10, h⟩ := Option.bind_eq_some_iff.1 h
  have h11 : ∀ H, H[1]? = some (.arr (encL en_Row y1)) → callD (callW Try.prog A0) A0 H 47 [.ref 1 0 y1.length 5, .p (.agg [.v (.int .i64 v6.Kind), .v (.string v6.Text), .lst false v6.Gaps.length (encL en_str v6.Gaps), .lst false v6.Kids.length (encL en_Node v6.Kids)]), iv s7] = some (.ref H.length 0 r9.length 5, some (H.set 1 .dead ++ [.arr (encL en_Row r9)])) := fun H hid => R06_rows_rcall hrec (H := H) (id := 1) hid (by first | rfl | omega) h10
  have h11' := h11 [.dead, .arr (encL en_Row y1), .var [iv w2_0, .p (.v (.string w2_1)), .p (.lst false w2_2.length (encL en_str w2_2)), .p (.lst false w2_3.length (encL en_Node w2_3))], .dead, .arr (encL en_i64 (y3 ++ [(y1.length : Int)]))] rfl
  obtain rfl := Option.some.inj h
  simp (maxSteps := 10000000) (implicitDefEqProofs := false) (disch := first | assumption | omega | exact rfl) only [bs, rs47, ls47, Nat.reduceAdd, ↓reduceIte, lenD_lst u23, lenD_ref u53, loadD_iagg a25 z25, loadD_ptr a22, loadD_ptr a23, loadD_ptr a3, loadD_ptr a9, own_ref, wksL_en_i64, wksL_en_str, wks_nil_, hg, ↓h3', h4, h8, h11']
  exact ⟨rfl, by kernel_rfl⟩
 ·rw [if_neg h3] at h
  have h3' : decide (s9 < (w2_3.length : Int)) = false := decide_eq_false h3
  obtain rfl := Option.some.inj h
  simp (maxSteps := 10000000) (implicitDefEqProofs := false) (disch := first | assumption | omega | exact rfl) only [bs, rs47, ls47, Nat.reduceAdd, ↓reduceIte, lenD_lst u23, lenD_ref u53, loadD_iagg a25 z25, loadD_ptr a22, loadD_ptr a23, loadD_ptr a3, loadD_ptr a9, own_ref, wksL_en_i64, wksL_en_str, wks_nil_, hg, ↓h3']
  exact ⟨rfl, rfl, by kernel_rfl⟩
theorem f47_ok {rec : (List Row) → Node → Int → Option (List Row)} (hrec : ∀ x0 x1 x2 r, rec x0 x1 x2 = some r → callW Try.prog A0 47 [.ref 0 0 x0.length 5, .p (.agg [.v (.int .i64 x1.Kind), .v (.string x1.Text), .lst false x1.Gaps.length (encL en_str x1.Gaps), .lst false x1.Kids.length (encL en_Node x1.Kids)]), iv x2] [.arr (encL en_Row x0)] = some (.ref 1 0 r.length 5, [.dead, .arr (encL en_Row r)]))  (x0 : (List Row)) (x1 : Node) (x2 : Int) (r : (List Row)) (h : R06_rows.body rec x0 x1 x2 = some r) : callW Try.prog A0 47 [.ref 0 0 x0.length 5, .p (.agg [.v (.int .i64 x1.Kind), .v (.string x1.Text), .lst false x1.Gaps.length (encL en_str x1.Gaps), .lst false x1.Kids.length (encL en_Node x1.Kids)]), iv x2] [.arr (encL en_Row x0)] = some (.ref 1 0 r.length 5, [.dead, .arr (encL en_Row r)]) := by
 refine call_ofH (fn := Try.f47) (c := bodyOf Try.f47) rfl (by kernel_rfl) (by kernel_rfl) ?_
 rw [show initS Try.f47 [.ref 0 0 x0.length 5, .p (.agg [.v (.int .i64 x1.Kind), .v (.string x1.Text), .lst false x1.Gaps.length (encL en_str x1.Gaps), .lst false x1.Kids.length (encL en_Node x1.Kids)]), iv x2] [.arr (encL en_Row x0)] = ⟨.ref 0 0 x0.length 5 :: .p (.agg [.v (.int .i64 x1.Kind), .v (.string x1.Text), .lst false x1.Gaps.length (encL en_str x1.Gaps), .lst false x1.Kids.length (encL en_Node x1.Kids)]) :: iv x2 :: List.replicate 46 undefD, [.arr (encL en_Row x0)], 1⟩ from by kernel_rfl]
 unfold R06_rows.body at h
 unfold bodyOf Try.f47; simp only [Option.getD_some, loopsOf, List.append_nil, List.nil_append, List.cons_append, List.getD_cons_zero, List.getD_cons_succ]
 simp only [List.replicate]
 by_cases hw_ : (x0.length + 1) * 80 ≤ 140737488355328
 case neg => rw [if_neg hw_] at h; cases h
 rw [if_pos hw_] at h
 have h2 := hw_
 have h1 : ∀ (H : List Ob) (id : Nat), apOb H id 0 x0.length 1 5 5 80 [.v (.int .i64 x2), .v (.int .i64 x1.Kind), .v (.string x1.Text), .lst false x1.Gaps.length (encL en_str x1.Gaps), .lst false 0 []] (some (.arr (encL en_Row x0))) = some (.ref H.length 0 (x0 ++ [(Row.mk x2 x1.Kind x1.Text x1.Gaps ([] : List Int))]).length 5, H.set id .dead ++ [.arr (encL en_Row (x0 ++ [(Row.mk x2 x1.Kind x1.Text x1.Gaps ([] : List Int))]))]) := fun H id => ap_enc (y := [(Row.mk x2 x1.Kind x1.Text x1.Gaps ([] : List Int))]) en_Row_len (by first | rfl | omega) rfl (by first | (simp only [encL_cons, encL_nil, en_Row_eq, List.cons_append, List.nil_append]; done) | (simp only [encL_cons, encL_nil, en_Row_eq, List.cons_append, List.nil_append]; rfl) | rfl) (by assumption)
 obtain ⟨o, h12, h⟩ := Option.bind_eq_some_iff.1 h
 simp (maxSteps := 10000000) (implicitDefEqProofs := false) (disch := first | assumption | omega | exact rfl) only [bs, rs47, ls47, Nat.reduceAdd, ↓reduceIte, lenD_lst u23, lenD_ref u53, loadD_iagg a25 z25, loadD_ptr a22, loadD_ptr a23, loadD_ptr a3, loadD_ptr a9, own_ref, wksL_en_i64, wksL_en_str, wks_nil_, h1]
 refine Wp.ctx (fun x => seqW _ _ _ _ (blockW _ (x))) (L47_0_ok hrec (x0.length : Int) x1.Kind x1.Text x1.Gaps x1.Kids ((0 : Int), (x0 ++ [(Row.mk x2 x1.Kind x1.Text x1.Gaps ([] : List Int))]), ([] : List Int)) _ o (by kernel_rfl) h12) ?_
 intro e st hq
 cases o with
 | next _ => (first | cases h | (simp at h))
 | jmp n_ s_ =>
  obtain ⟨rfl, rfl, hq⟩ := hq
  obtain ⟨s9_13, y1_13, y3_13⟩ := s_
  unfold F47_0 at hq
  (try simp only [] at h hq)
  obtain ⟨v14, h15, h⟩ := Option.bind_eq_some_iff.1 h
  obtain ⟨h15a, h15b, _⟩ := rd_some h15
  have h16 : storeD Try.prog [.dead, .arr (encL en_Row y1_13), .var [iv x1.Kind, .p (.v (.string x1.Text)), .p (.lst false x1.Gaps.length (encL en_str x1.Gaps)), .p (.lst false x1.Kids.length (encL en_Node x1.Kids))], .arr (encL en_i64 y3_13)] 38 (.ptr 1 ((x0.length : Int).toNat * 5 + 4)) (.ref 3 0 y3_13.length 1) = some [.dead, .arr (encL en_Row (y1_13.set (x0.length : Int).toNat (Row.mk v14.Parent v14.Kind v14.Text v14.Gaps y3_13))), .var [iv x1.Kind, .p (.v (.string x1.Text)), .p (.lst false x1.Gaps.length (encL en_str x1.Gaps)), .p (.lst false x1.Kids.length (encL en_Node x1.Kids))], .frz (encL en_i64 y3_13)] := (storeD_row (v' := (Row.mk v14.Parent v14.Kind v14.Text v14.Gaps y3_13)) (k := 4) z38 en_Row_len en_i64_len rfl rfl rfl (by first | rfl | omega) h15 (by decide) (by rw [en_Row_eq, en_Row_eq]; rfl)).trans rfl
  have h17 : (y1_13.set (x0.length : Int).toNat (Row.mk v14.Parent v14.Kind v14.Text v14.Gaps y3_13)).length = y1_13.length := List.length_set
  obtain rfl := Option.some.inj h
  simp (maxSteps := 10000000) (implicitDefEqProofs := false) (disch := first | assumption | omega | exact rfl) only [bs, rs47, ls47, Nat.reduceAdd, ↓reduceIte, lenD_lst u23, lenD_ref u53, loadD_iagg a25 z25, loadD_ptr a22, loadD_ptr a23, loadD_ptr a3, loadD_ptr a9, own_ref, wksL_en_i64, wksL_en_str, wks_nil_, h1, hq, h16]
  refine ⟨by first | exact .inl trivial | exact .inr trivial | simp, ?_⟩
  show _ = _
  simp only [List.length_set, cpL_len]; kernel_rfl
 | ret _ => (first | cases h | (simp at h))
def ls47n := And.intro @ap_38_38 (And.intro @ap_53_53 (And.intro @bs_38_1 (And.intro @bs_53_1 (And.intro @bu_59_0_1_2_3 (And.intro @faP_25_0 (And.intro @faP_25_1 (And.intro @faP_25_2 (And.intro @faP_25_3 (And.intro @faP_59_4 (And.intro @idxL_23 (And.intro @idxR_53 (And.intro @varld_4_0_0 (And.intro @varld_4_0_1 (And.intro @varld_4_0_2 (@varld_4_0_3)))))))))))))))
def F47n_0 (s7 : Int) (w1_0 : Int) (w1_1 : ByteArray) (w1_2 : (List ByteArray)) (w1_3 : (List Node)) : (Int × (List Row) × (List Int)) → St := fun (s9, y0, y2) => ⟨[.ref 0 0 y0.length 5, .junk, .junk, .junk, .ptr 1 0, .junk, .junk, iv s7, .ref 2 0 y2.length 1, iv s9, .junk, .junk, .junk, .junk, .junk, .junk, .junk, .junk, .junk, .junk, .junk, .junk, .junk, .junk, .junk, .junk, .junk, .junk, .junk, .junk, .junk, .junk, .junk, .junk, .junk, .junk, .junk, .junk, .junk, .junk, .junk, .junk, .junk, .junk, .junk, .junk, .junk, .junk, .junk], [.arr (encL en_Row y0), .var [iv w1_0, .p (.v (.string w1_1)), .p (.lst false w1_2.length (encL en_str w1_2)), .p (.lst false w1_3.length (encL en_Node w1_3))], .arr (encL en_i64 y2)], 0⟩
theorem L47n_0_ok {rec : (List Row) → Node → Int → Option (List Row)} (hrec : ∀ x0 x1 x2 r, rec x0 x1 x2 = some r → callW Try.prog A0 47 [.ref 0 0 x0.length 5, .p (.agg [.v (.int .i64 x1.Kind), .v (.string x1.Text), .lst false x1.Gaps.length (encL en_str x1.Gaps), .lst false x1.Kids.length (encL en_Node x1.Kids)]), iv x2] [.arr (encL en_Row x0)] = some (.ref 1 0 r.length 5, [.dead, .arr (encL en_Row r)])) (s7 : Int) (w1_0 : Int) (w1_1 : ByteArray) (w1_2 : (List ByteArray)) (w1_3 : (List Node)) : ∀ s st o, ghostsD g47_0 st = some (F47n_0 s7 w1_0 w1_1 w1_2 w1_3 s) → iter (R06_rows_L0 rec s7 w1_0 w1_1 w1_2 w1_3) s = some o →
    Wp (evW Try.prog A0 47 (.loop L47_0) st) (OutQ (F47n_0 s7 w1_0 w1_1 w1_2 w1_3) g47_0 (fun n s st => n = 0 ∧ ghostsD [.keep [0, 4, 7, 8, 9]] st = some (F47n_0 s7 w1_0 w1_1 w1_2 w1_3 s)) (fun r st => finishD Try.prog A0 47 Try.f47 st = some (.ref 0 0 r.length 5, [.arr (encL en_Row r)])) o) := by
 refine Wp.iter ?_
 intro s st o hg h
 obtain ⟨s9, y0, y2⟩ := s
 unfold R06_rows_L0 at h
 unfold g47_0 F47n_0 at hg ⊢
 (try simp only [] at h hg)
 unfold L47_0 bodyOf Try.f47; simp only [Option.getD_some, loopsOf, List.append_nil, List.nil_append, List.cons_append, List.getD_cons_zero, List.getD_cons_succ]
 by_cases h3 : s9 < (w1_3.length : Int)
 ·rw [if_pos h3] at h
  have h3' : decide (s9 < (w1_3.length : Int)) = true := decide_eq_true h3
  by_cases hw_ : (y2.length + 1) * 8 ≤ 140737488355328
  case neg => rw [if_neg hw_] at h; cases h
  rw [if_pos hw_] at h
  have h5 := hw_
  have h4 : ∀ (H : List Ob) (id : Nat), apOb H id 0 y2.length 1 1 1 8 [.v (.int .i64 (y0.length : Int))] (some (.arr (encL en_i64 y2))) = some (.ref H.length 0 (y2 ++ [(y0.length : Int)]).length 1, H.set id .dead ++ [.arr (encL en_i64 (y2 ++ [(y0.length : Int)]))]) := fun H id => ap_enc (y := [(y0.length : Int)]) en_i64_len (by first | rfl | omega) rfl (by first | (simp only [encL_cons, encL_nil, en_i64_eq, List.cons_append, List.nil_append]; done) | (simp only [encL_cons, encL_nil, en_i64_eq, List.cons_append, List.nil_append]; rfl) | rfl) (by assumption)
  obtain ⟨v6, h7, h⟩ := Option.bind_eq_some_iff.1 h
  obtain ⟨h7a, h7b, _⟩ := rd_some h7
  have h8 := lk_frz_25 h7
  obtain ⟨r9, h10, h⟩ := Option.bind_eq_some_iff.1 h
  have h11 : ∀ H, H[0]? = some (.arr (encL en_Row y0)) → callD (callW Try.prog A0) A0 H 47 [.ref 0 0 y0.length 5, .p (.agg [.v (.int .i64 v6.Kind), .v (.string v6.Text), .lst false v6.Gaps.length (encL en_str v6.Gaps), .lst false v6.Kids.length (encL en_Node v6.Kids)]), iv s7] = some (.ref H.length 0 r9.length 5, some (H.set 0 .dead ++ [.arr (encL en_Row r9)])) := fun H hid => R06_rows_rcall hrec (H := H) (id := 0) hid (by first | rfl | omega) h10
  have h11' := h11 [.arr (encL en_Row y0), .var [iv w1_0, .p (.v (.string w1_1)), .p (.lst false w1_2.length (encL en_str w1_2)), .p (.lst false w1_3.length (encL en_Node w1_3))], .dead, .arr (encL en_i64 (y2 ++ [(y0.length : Int)]))] rfl
  obtain rfl := Option.some.inj h
  simp (maxSteps := 10000000) (implicitDefEqProofs := false) (disch := first | assumption | omega | exact rfl) only [bs, rs47, ls47n, Nat.reduceAdd, ↓reduceIte, lenD_lst u23, lenD_ref u53, loadD_iagg a25 z25, loadD_ptr a22, loadD_ptr a23, loadD_ptr a3, loadD_ptr a9, own_ref, wksL_en_i64, wksL_en_str, wks_nil_, hg, ↓h3', h4, h8, h11']
  exact ⟨rfl, by kernel_rfl⟩
 ·rw [if_neg h3] at h
  have h3' : decide (s9 < (w1_3.length : Int)) = false := decide_eq_false h3
  obtain rfl := Option.some.inj h
  simp (maxSteps := 10000000) (implicitDefEqProofs := false) (disch := first | assumption | omega | exact rfl) only [bs, rs47, ls47n, Nat.reduceAdd, ↓reduceIte, lenD_lst u23, lenD_ref u53, loadD_iagg a25 z25, loadD_ptr a22, loadD_ptr a23, loadD_ptr a3, loadD_ptr a9, own_ref, wksL_en_i64, wksL_en_str, wks_nil_, hg, ↓h3']
  exact ⟨rfl, rfl, by kernel_rfl⟩
theorem f47n_ok {rec : (List Row) → Node → Int → Option (List Row)} (hrec : ∀ x0 x1 x2 r, rec x0 x1 x2 = some r → callW Try.prog A0 47 [.ref 0 0 x0.length 5, .p (.agg [.v (.int .i64 x1.Kind), .v (.string x1.Text), .lst false x1.Gaps.length (encL en_str x1.Gaps), .lst false x1.Kids.length (encL en_Node x1.Kids)]), iv x2] [.arr (encL en_Row x0)] = some (.ref 1 0 r.length 5, [.dead, .arr (encL en_Row r)]))  (x0 : (List Row)) (x1 : Node) (x2 : Int) (hx0 : x0 = []) (r : (List Row)) (h : R06_rows.body rec x0 x1 x2 = some r) : callW Try.prog A0 47 [.p (.lst true 0 []), .p (.agg [.v (.int .i64 x1.Kind), .v (.string x1.Text), .lst false x1.Gaps.length (encL en_str x1.Gaps), .lst false x1.Kids.length (encL en_Node x1.Kids)]), iv x2] [] = some (.ref 0 0 r.length 5, [.arr (encL en_Row r)]) := by
 refine call_ofH (fn := Try.f47) (c := bodyOf Try.f47) rfl (by kernel_rfl) (by kernel_rfl) ?_
 rw [show initS Try.f47 [.p (.lst true 0 []), .p (.agg [.v (.int .i64 x1.Kind), .v (.string x1.Text), .lst false x1.Gaps.length (encL en_str x1.Gaps), .lst false x1.Kids.length (encL en_Node x1.Kids)]), iv x2] [] = ⟨.p (.lst true 0 []) :: .p (.agg [.v (.int .i64 x1.Kind), .v (.string x1.Text), .lst false x1.Gaps.length (encL en_str x1.Gaps), .lst false x1.Kids.length (encL en_Node x1.Kids)]) :: iv x2 :: List.replicate 46 undefD, [], 0⟩ from by kernel_rfl]
 unfold R06_rows.body at h
 unfold bodyOf Try.f47; simp only [Option.getD_some, loopsOf, List.append_nil, List.nil_append, List.cons_append, List.getD_cons_zero, List.getD_cons_succ]
 simp only [List.replicate]
 have hown := own_nil' (en := en_Row) hx0 5
 by_cases hw_ : (x0.length + 1) * 80 ≤ 140737488355328
 case neg => rw [if_neg hw_] at h; cases h
 rw [if_pos hw_] at h
 have h2 := hw_
 have h1 : ∀ (H : List Ob) (id : Nat), apOb H id 0 x0.length 1 5 5 80 [.v (.int .i64 x2), .v (.int .i64 x1.Kind), .v (.string x1.Text), .lst false x1.Gaps.length (encL en_str x1.Gaps), .lst false 0 []] (some (.arr (encL en_Row x0))) = some (.ref H.length 0 (x0 ++ [(Row.mk x2 x1.Kind x1.Text x1.Gaps ([] : List Int))]).length 5, H.set id .dead ++ [.arr (encL en_Row (x0 ++ [(Row.mk x2 x1.Kind x1.Text x1.Gaps ([] : List Int))]))]) := fun H id => ap_enc (y := [(Row.mk x2 x1.Kind x1.Text x1.Gaps ([] : List Int))]) en_Row_len (by first | rfl | omega) rfl (by first | (simp only [encL_cons, encL_nil, en_Row_eq, List.cons_append, List.nil_append]; done) | (simp only [encL_cons, encL_nil, en_Row_eq, List.cons_append, List.nil_append]; rfl) | rfl) (by assumption)
 obtain ⟨o, h12, h⟩ := Option.bind_eq_some_iff.1 h
 simp (maxSteps := 10000000) (implicitDefEqProofs := false) (disch := first | assumption | omega | exact rfl) only [bs, rs47, ls47n, Nat.reduceAdd, ↓reduceIte, lenD_lst u23, lenD_ref u53, loadD_iagg a25 z25, loadD_ptr a22, loadD_ptr a23, loadD_ptr a3, loadD_ptr a9, own_ref, wksL_en_i64, wksL_en_str, wks_nil_, hown, h1]
 refine Wp.ctx (fun x => seqW _ _ _ _ (blockW _ (x))) (L47n_0_ok hrec (x0.length : Int) x1.Kind x1.Text x1.Gaps x1.Kids ((0 : Int), (x0 ++ [(Row.mk x2 x1.Kind x1.Text x1.Gaps ([] : List Int))]), ([] : List Int)) _ o (by kernel_rfl) h12) ?_
 intro e st hq
 cases o with
 | next _ => (first | cases h | (simp at h))
 | jmp n_ s_ =>
  obtain ⟨rfl, rfl, hq⟩ := hq
  obtain ⟨s9_13, y0_13, y2_13⟩ := s_
  unfold F47n_0 at hq
  (try simp only [] at h hq)
  obtain ⟨v14, h15, h⟩ := Option.bind_eq_some_iff.1 h
  obtain ⟨h15a, h15b, _⟩ := rd_some h15
  have h16 : storeD Try.prog [.arr (encL en_Row y0_13), .var [iv x1.Kind, .p (.v (.string x1.Text)), .p (.lst false x1.Gaps.length (encL en_str x1.Gaps)), .p (.lst false x1.Kids.length (encL en_Node x1.Kids))], .arr (encL en_i64 y2_13)] 38 (.ptr 0 ((x0.length : Int).toNat * 5 + 4)) (.ref 2 0 y2_13.length 1) = some [.arr (encL en_Row (y0_13.set (x0.length : Int).toNat (Row.mk v14.Parent v14.Kind v14.Text v14.Gaps y2_13))), .var [iv x1.Kind, .p (.v (.string x1.Text)), .p (.lst false x1.Gaps.length (encL en_str x1.Gaps)), .p (.lst false x1.Kids.length (encL en_Node x1.Kids))], .frz (encL en_i64 y2_13)] := (storeD_row (v' := (Row.mk v14.Parent v14.Kind v14.Text v14.Gaps y2_13)) (k := 4) z38 en_Row_len en_i64_len rfl rfl rfl (by first | rfl | omega) h15 (by decide) (by rw [en_Row_eq, en_Row_eq]; rfl)).trans rfl
  have h17 : (y0_13.set (x0.length : Int).toNat (Row.mk v14.Parent v14.Kind v14.Text v14.Gaps y2_13)).length = y0_13.length := List.length_set
  obtain rfl := Option.some.inj h
  simp (maxSteps := 10000000) (implicitDefEqProofs := false) (disch := first | assumption | omega | exact rfl) only [bs, rs47, ls47n, Nat.reduceAdd, ↓reduceIte, lenD_lst u23, lenD_ref u53, loadD_iagg a25 z25, loadD_ptr a22, loadD_ptr a23, loadD_ptr a3, loadD_ptr a9, own_ref, wksL_en_i64, wksL_en_str, wks_nil_, hown, h1, hq, h16]
  refine ⟨by first | exact .inl trivial | exact .inr trivial | simp, ?_⟩
  show _ = _
  simp only [List.length_set, cpL_len]; kernel_rfl
 | ret _ => (first | cases h | (simp at h))
theorem f47_spec : ∀ (x0 : (List Row)) (x1 : Node) (x2 : Int) r, R06_rowsS x0 x1 x2 = some r → callW Try.prog A0 47 [.ref 0 0 x0.length 5, .p (.agg [.v (.int .i64 x1.Kind), .v (.string x1.Text), .lst false x1.Gaps.length (encL en_str x1.Gaps), .lst false x1.Kids.length (encL en_Node x1.Kids)]), iv x2] [.arr (encL en_Row x0)] = some (.ref 1 0 r.length 5, [.dead, .arr (encL en_Row r)]) := by
  have key : ∀ n (x0 : (List Row)) (x1 : Node) (x2 : Int) r, R06_rowsS_mu x0 x1 x2 < n → R06_rowsS x0 x1 x2 = some r → callW Try.prog A0 47 [.ref 0 0 x0.length 5, .p (.agg [.v (.int .i64 x1.Kind), .v (.string x1.Text), .lst false x1.Gaps.length (encL en_str x1.Gaps), .lst false x1.Kids.length (encL en_Node x1.Kids)]), iv x2] [.arr (encL en_Row x0)] = some (.ref 1 0 r.length 5, [.dead, .arr (encL en_Row r)]) := by
    intro n
    induction n with
    | zero => intro x0 x1 x2 r h; omega
    | succ n ih =>
      intro x0 x1 x2 r hn h
      refine f47_ok (rec := fun x0' x1' x2' => if R06_rowsS_mu x0' x1' x2' < R06_rowsS_mu x0 x1 x2 then R06_rowsS x0' x1' x2' else none) ?_ x0 x1 x2 r (R06_rowsS_body x0 x1 x2 r h)
      intro x0' x1' x2' r' h'
      by_cases hm : R06_rowsS_mu x0' x1' x2' < R06_rowsS_mu x0 x1 x2
      · rw [if_pos hm] at h'; exact ih x0' x1' x2' r' (by omega) h'
      · rw [if_neg hm] at h'; cases h'
  intro x0 x1 x2 r h
  exact key _ x0 x1 x2 r (Nat.lt_succ_self _) h
theorem f47n_spec (x1 : Node) (x2 : Int) r (h : R06_rowsS ([] : List Row) x1 x2 = some r) : callW Try.prog A0 47 [.p (.lst true 0 []), .p (.agg [.v (.int .i64 x1.Kind), .v (.string x1.Text), .lst false x1.Gaps.length (encL en_str x1.Gaps), .lst false x1.Kids.length (encL en_Node x1.Kids)]), iv x2] [] = some (.ref 0 0 r.length 5, [.arr (encL en_Row r)]) := by
  refine f47n_ok (rec := fun x0' x1' x2' => if R06_rowsS_mu x0' x1' x2' < R06_rowsS_mu ([] : List Row) x1 x2 then R06_rowsS x0' x1' x2' else none) ?_ ([] : List Row) x1 x2 rfl r (R06_rowsS_body ([] : List Row) x1 x2 r h)
  intro x0' x1' x2' r' h'
  by_cases hm : R06_rowsS_mu x0' x1' x2' < R06_rowsS_mu ([] : List Row) x1 x2
  · rw [if_pos hm] at h'; exact f47_spec x0' x1' x2' r' h'
  · rw [if_neg hm] at h'; cases h'
theorem R06_rows_calln {b1 b2 : Bool} {H : List Ob} {x1 : Node} {x2 : Int} {r : (List Row)} (h : R06_rowsS ([] : List Row) x1 x2 = some r) : callD (callW Try.prog A0) A0 H 47 [.p (.lst true 0 []), .p (.agg [.v (.int .i64 x1.Kind), .v (.string x1.Text), .lst b1 x1.Gaps.length (encL en_str x1.Gaps), .lst b2 x1.Kids.length (encL en_Node x1.Kids)]), iv x2] = some (.ref H.length 0 r.length 5, some (H ++ [.arr (encL en_Row r)])) :=
  callD_mut0 (args := [.lst true 0 [], .agg [.v (.int .i64 x1.Kind), .v (.string x1.Text), .lst false x1.Gaps.length (encL en_str x1.Gaps), .lst false x1.Kids.length (encL en_Node x1.Kids)], .v (.int .i64 x2)]) (by simp only [List.map_cons, List.map_nil, wkDv, wk, wks, wkL]) rfl (f47n_spec x1 x2 _ h)
def ls35 := @varlv_4_0_4
theorem f35_ok  (x0 : Node) (r : (List Row)) (h : R06_Rows x0 = some r) : callW Try.prog A0 35 [.p (.agg [.v (.int .i64 x0.Kind), .v (.string x0.Text), .lst false x0.Gaps.length (encL en_str x0.Gaps), .lst false x0.Kids.length (encL en_Node x0.Kids)])] [] = some (.p (.lst false r.length (encL en_Row r)), []) := by
 refine call_ofH (fn := Try.f35) (c := bodyOf Try.f35) rfl (by kernel_rfl) (by kernel_rfl) ?_
 rw [show initS Try.f35 [.p (.agg [.v (.int .i64 x0.Kind), .v (.string x0.Text), .lst false x0.Gaps.length (encL en_str x0.Gaps), .lst false x0.Kids.length (encL en_Node x0.Kids)])] [] = ⟨.p (.agg [.v (.int .i64 x0.Kind), .v (.string x0.Text), .lst false x0.Gaps.length (encL en_str x0.Gaps), .lst false x0.Kids.length (encL en_Node x0.Kids)]) :: List.replicate 6 undefD, [], 0⟩ from by kernel_rfl]
 unfold R06_Rows at h
 unfold bodyOf Try.f35; simp only [Option.getD_some, loopsOf, List.append_nil, List.nil_append, List.cons_append, List.getD_cons_zero, List.getD_cons_succ]
 simp only [List.replicate]
 obtain ⟨r1, h2, h⟩ := Option.bind_eq_some_iff.1 h
 have h3 : ∀ H, callD (callW Try.prog A0) A0 H 47 [.p (.lst true 0 []), .p (.agg [.v (.int .i64 x0.Kind), .v (.string x0.Text), .lst false x0.Gaps.length (encL en_str x0.Gaps), .lst false x0.Kids.length (encL en_Node x0.Kids)]), iv (-1 : Int)] = some (.ref H.length 0 r1.length 5, some (H ++ [.arr (encL en_Row r1)])) := fun H => R06_rows_calln (H := H) h2
 obtain rfl := Option.some.inj h
 simp (maxSteps := 10000000) (implicitDefEqProofs := false) (disch := first | assumption | omega | exact rfl) only [bs, rs35, ls35, Nat.reduceAdd, ↓reduceIte, loadD_pagg a25 z25, h3]
 refine ⟨by first | exact .inl trivial | exact .inr trivial | simp, ?_⟩
 exact finish_is (ds := [.ref 1 0 r1.length 5]) (x := .lst false r1.length (encL en_Row r1)) (y := .lst false r1.length (encL en_Row r1)) (l := [1]) rfl rfl rfl (purify1_enc en_Row_len rfl (by first | rfl | omega)) (by first | rfl | (simp only [wk, wks, wkL]; first | done | rfl))
theorem R06_Rows_call {b1 b2 : Bool} {H : List Ob} {x0 : Node} {r : (List Row)} (h : R06_Rows x0 = some r) : callD (callW Try.prog A0) A0 H 35 [.p (.agg [.v (.int .i64 x0.Kind), .v (.string x0.Text), .lst b1 x0.Gaps.length (encL en_str x0.Gaps), .lst b2 x0.Kids.length (encL en_Node x0.Kids)])] = some (.p (.lst false r.length (encL en_Row r)), none) :=
  callD_fun (args := [.agg [.v (.int .i64 x0.Kind), .v (.string x0.Text), .lst b1 x0.Gaps.length (encL en_str x0.Gaps), .lst b2 x0.Kids.length (encL en_Node x0.Kids)]]) rfl rfl rfl (by simp only [List.map_cons, List.map_nil, wk, wks, wkL]; exact f35_ok x0 _ h)
def ls41 := And.intro @faI_46_1 (@idxL_26)
noncomputable def L41_0 : Code := (loopsOf (bodyOf Try.f41)).getD 0 .skip
def g41_0 : List Ghost := [.weak [0], .keep [0, 1, 5]]
def F41_0 (s0 : (List Pair)) (s1 : Int) : Int → St := fun s5 => ⟨[.p (.lst false s0.length (encL en_Pair s0)), iv s1, .junk, .junk, .junk, iv s5, .junk, .junk, .junk, .junk, .junk, .junk, .junk, .junk, .junk, .junk, .junk, .junk, .junk], [], 0⟩
theorem L41_0_ok (s0 : (List Pair)) (s1 : Int) : ∀ s st o, ghostsD g41_0 st = some (F41_0 s0 s1 s) → iter (R24_hasNew_L0 s0 s1) s = some o →
    Wp (evW Try.prog A0 41 (.loop L41_0) st) (OutQ (F41_0 s0 s1) g41_0 (fun n s st => n = 0 ∧ ghostsD [.keep [0, 1, 5]] st = some (F41_0 s0 s1 s)) (fun r st => finishD Try.prog A0 41 Try.f41 st = some (.p (.v (.bool r)), [])) o) := by
 refine Wp.iter ?_
 intro s st o hg h
 generalize s = s5 at hg h
 unfold R24_hasNew_L0 at h
 unfold g41_0 F41_0 at hg ⊢
 (try simp only [] at h hg)
 unfold L41_0 bodyOf Try.f41; simp only [Option.getD_some, loopsOf, List.append_nil, List.nil_append, List.cons_append, List.getD_cons_zero, List.getD_cons_succ]
 by_cases h1 : s5 < (s0.length : Int)
 ·rw [if_pos h1] at h
  have h1' : decide (s5 < (s0.length : Int)) = true := decide_eq_true h1
  obtain ⟨v2, h3, h⟩ := Option.bind_eq_some_iff.1 h
  obtain ⟨h3a, h3b, _⟩ := rd_some h3
  have h4 := ce_46__1 h3
  by_cases h5 : v2.New = s1
  ·rw [if_pos h5] at h
   have h5' : decide (v2.New = s1) = true := decide_eq_true h5
   obtain rfl := Option.some.inj h
   simp (maxSteps := 10000000) (implicitDefEqProofs := false) (disch := first | assumption | omega | exact rfl) only [bs, rs41, ls41, Nat.reduceAdd, ↓reduceIte, lenD_lst u26, loadD_iptr a3, hg, ↓h1', h4, ↓h5']
   refine ⟨rfl, ?_⟩
   exact finish_is (ds := [bv true]) (x := .v (.bool true)) (y := .v (.bool true)) (l := []) rfl rfl rfl rfl (by first | rfl | (simp only [wk, wks, wkL]; first | done | rfl))
  ·rw [if_neg h5] at h
   have h5' : decide (v2.New = s1) = false := decide_eq_false h5
   obtain rfl := Option.some.inj h
   simp (maxSteps := 10000000) (implicitDefEqProofs := false) (disch := first | assumption | omega | exact rfl) only [bs, rs41, ls41, Nat.reduceAdd, ↓reduceIte, lenD_lst u26, loadD_iptr a3, hg, ↓h1', h4, ↓h5']
   exact ⟨rfl, by kernel_rfl⟩
 ·rw [if_neg h1] at h
  have h1' : decide (s5 < (s0.length : Int)) = false := decide_eq_false h1
  obtain rfl := Option.some.inj h
  simp (maxSteps := 10000000) (implicitDefEqProofs := false) (disch := first | assumption | omega | exact rfl) only [bs, rs41, ls41, Nat.reduceAdd, ↓reduceIte, lenD_lst u26, loadD_iptr a3, hg, ↓h1']
  exact ⟨rfl, rfl, by kernel_rfl⟩
theorem f41_ok  (x0 : (List Pair)) (x1 : Int) (r : Bool) (h : R24_hasNew x0 x1 = some r) : callW Try.prog A0 41 [.p (.lst false x0.length (encL en_Pair x0)), iv x1] [] = some (.p (.v (.bool r)), []) := by
 refine call_ofH (fn := Try.f41) (c := bodyOf Try.f41) rfl (by kernel_rfl) (by kernel_rfl) ?_
 rw [show initS Try.f41 [.p (.lst false x0.length (encL en_Pair x0)), iv x1] [] = ⟨.p (.lst false x0.length (encL en_Pair x0)) :: iv x1 :: List.replicate 17 undefD, [], 0⟩ from by kernel_rfl]
 unfold R24_hasNew at h
 unfold bodyOf Try.f41; simp only [Option.getD_some, loopsOf, List.append_nil, List.nil_append, List.cons_append, List.getD_cons_zero, List.getD_cons_succ]
 simp only [List.replicate]
 obtain ⟨o, h6, h⟩ := Option.bind_eq_some_iff.1 h
 simp (maxSteps := 10000000) (implicitDefEqProofs := false) (disch := first | assumption | omega | exact rfl) only [bs, rs41, ls41, Nat.reduceAdd, ↓reduceIte, lenD_lst u26, loadD_iptr a3]
 refine Wp.ctx (fun x => seqW _ _ _ _ (blockW _ (x))) (L41_0_ok x0 x1 (0 : Int) _ o (by kernel_rfl) h6) ?_
 intro e st hq
 cases o with
 | next _ => (first | cases h | (simp at h))
 | jmp n_ s_ =>
  obtain ⟨rfl, rfl, hq⟩ := hq
  generalize s_ = s5_7 at h hq
  unfold F41_0 at hq
  (try simp only [] at h hq)
  obtain rfl := Option.some.inj h
  simp (maxSteps := 10000000) (implicitDefEqProofs := false) (disch := first | assumption | omega | exact rfl) only [bs, rs41, ls41, Nat.reduceAdd, ↓reduceIte, lenD_lst u26, loadD_iptr a3, hq]
  refine ⟨by first | exact .inl trivial | exact .inr trivial | simp, ?_⟩
  exact finish_is (ds := [bv false]) (x := .v (.bool false)) (y := .v (.bool false)) (l := []) rfl rfl rfl rfl (by first | rfl | (simp only [wk, wks, wkL]; first | done | rfl))
 | ret r8 =>
  obtain ⟨rfl, hq⟩ := hq
  obtain rfl := Option.some.inj h
  simp (maxSteps := 10000000) (implicitDefEqProofs := false) (disch := first | assumption | omega | exact rfl) only [bs, rs41, ls41, Nat.reduceAdd, ↓reduceIte, lenD_lst u26, loadD_iptr a3]
  exact ⟨by first | exact .inl trivial | exact .inr trivial | simp, hq⟩
theorem R24_hasNew_call {b1 : Bool} {H : List Ob} {x0 : (List Pair)} {x1 : Int} {r : Bool} (h : R24_hasNew x0 x1 = some r) : callD (callW Try.prog A0) A0 H 41 [.p (.lst b1 x0.length (encL en_Pair x0)), iv x1] = some (.p (.v (.bool r)), none) :=
  callD_fun (args := [.lst b1 x0.length (encL en_Pair x0), .v (.int .i64 x1)]) rfl rfl rfl (by simp only [List.map_cons, List.map_nil, wk, wks, wkL]; exact f41_ok x0 x1 _ h)
def ls21 := And.intro @al_46 (And.intro @faI_46_0 (And.intro @faI_59_1 (And.intro @faP_25_0 (And.intro @faP_46_0 (And.intro @faP_46_1 (And.intro @idxL_26 (And.intro @idxL_53 (And.intro @sa_2_0_2 (And.intro @shi_26 (And.intro @varld_2_0_0 (And.intro @varld_2_0_1 (And.intro @varld_4_0_0 (@varlv_4_0_4)))))))))))))
noncomputable def L21_0 : Code := (loopsOf (bodyOf Try.f21)).getD 0 .skip
def g21_0 : List Ghost := [.weak [2, 7, 8], .keep [2, 3, 4, 7, 8, 9]]
def F21_0 (s2 : (List Pair)) (s7 : (List Row)) (s8 : (List Row)) (w0_0 : Int) (w0_1 : ByteArray) (w0_2 : (List ByteArray)) (w0_3 : (List Node)) (w1_0 : Int) (w1_1 : ByteArray) (w1_2 : (List ByteArray)) (w1_3 : (List Node)) : Int → St := fun s9 => ⟨[.junk, .junk, .p (.lst false s2.length (encL en_Pair s2)), .ptr 0 0, .ptr 1 0, .junk, .junk, .p (.lst false s7.length (encL en_Row s7)), .p (.lst false s8.length (encL en_Row s8)), iv s9, .junk, .junk, .junk, .junk, .junk, .junk, .junk, .junk, .junk, .junk, .junk, .junk, .junk, .junk, .junk, .junk, .junk, .junk, .junk, .junk, .junk, .junk, .junk, .junk, .junk, .junk, .junk, .junk, .junk, .junk, .junk, .junk, .junk, .junk, .junk, .junk, .junk, .junk, .junk, .junk, .junk, .junk, .junk, .junk, .junk, .junk, .junk, .junk, .junk, .junk, .junk, .junk, .junk, .junk, .junk, .junk, .junk, .junk, .junk, .junk, .junk, .junk, .junk, .junk, .junk, .junk, .junk, .junk, .junk, .junk, .junk, .junk, .junk, .junk, .junk, .junk, .junk, .junk, .junk, .junk, .junk, .junk, .junk, .junk, .junk, .junk, .junk, .junk, .junk, .junk, .junk, .junk, .junk, .junk, .junk, .junk, .junk, .junk, .junk], [.var [iv w0_0, .p (.v (.string w0_1)), .p (.lst false w0_2.length (encL en_str w0_2)), .p (.lst false w0_3.length (encL en_Node w0_3))], .var [iv w1_0, .p (.v (.string w1_1)), .p (.lst false w1_2.length (encL en_str w1_2)), .p (.lst false w1_3.length (encL en_Node w1_3))]], 0⟩
theorem L21_0_ok (s2 : (List Pair)) (s7 : (List Row)) (s8 : (List Row)) (w0_0 : Int) (w0_1 : ByteArray) (w0_2 : (List ByteArray)) (w0_3 : (List Node)) (w1_0 : Int) (w1_1 : ByteArray) (w1_2 : (List ByteArray)) (w1_3 : (List Node)) : ∀ s st o, ghostsD g21_0 st = some (F21_0 s2 s7 s8 w0_0 w0_1 w0_2 w0_3 w1_0 w1_1 w1_2 w1_3 s) → iter (R24_Check_L0 s2 s7 s8 w0_0 w0_1 w0_2 w0_3 w1_0 w1_1 w1_2 w1_3) s = some o →
    Wp (evW Try.prog A0 21 (.loop L21_0) st) (OutQ (F21_0 s2 s7 s8 w0_0 w0_1 w0_2 w0_3 w1_0 w1_1 w1_2 w1_3) g21_0 (fun n s st => n = 0 ∧ ghostsD [.keep [2, 3, 4, 7, 8, 9]] st = some (F21_0 s2 s7 s8 w0_0 w0_1 w0_2 w0_3 w1_0 w1_1 w1_2 w1_3 s)) (fun r st => finishD Try.prog A0 21 Try.f21 st = some (.p (.v (.int .i64 r)), [])) o) := by
 refine Wp.iter ?_
 intro s st o hg h
 generalize s = s9 at hg h
 unfold R24_Check_L0 at h
 unfold g21_0 F21_0 at hg ⊢
 (try simp only [] at h hg)
 unfold L21_0 bodyOf Try.f21; simp only [Option.getD_some, loopsOf, List.append_nil, List.nil_append, List.cons_append, List.getD_cons_zero, List.getD_cons_succ]
 by_cases h7 : s9 < (s2.length : Int)
 ·rw [if_pos h7] at h
  have h7' : decide (s9 < (s2.length : Int)) = true := decide_eq_true h7
  obtain ⟨v8, h9, h⟩ := Option.bind_eq_some_iff.1 h
  obtain ⟨h9a, h9b, _⟩ := rd_some h9
  have h10 := lk_frz_46 h9
  by_cases h11 : v8.Old < (0 : Int)
  ·rw [if_pos h11] at h
   have h11' : decide (v8.Old < (0 : Int)) = true := decide_eq_true h11
   obtain rfl := Option.some.inj h
   simp (maxSteps := 10000000) (implicitDefEqProofs := false) (disch := first | assumption | omega | exact rfl) only [bs, rs21, ls21, Nat.reduceAdd, ↓reduceIte, binD_neq_bool Try.underlying4, lenD_lst u26, lenD_lst u53, loadD_iagg a46 z46, loadD_iptr a3, loadD_pagg a25 z25, loadD_ptr a3, storeD_agg z46, hg, ↓h7', h10, ↓h11']
   refine ⟨rfl, ?_⟩
   exact finish_is (ds := [iv (15 : Int)]) (x := .v (.int .i64 (15 : Int))) (y := .v (.int .i64 (15 : Int))) (l := []) rfl rfl rfl rfl (by first | rfl | (simp only [wk, wks, wkL]; first | done | rfl))
  ·rw [if_neg h11] at h
   have h11' : decide (v8.Old < (0 : Int)) = false := decide_eq_false h11
   by_cases h12 : (s7.length : Int) ≤ v8.Old
   ·rw [if_pos h12] at h
    have h12' : decide ((s7.length : Int) ≤ v8.Old) = true := decide_eq_true h12
    obtain rfl := Option.some.inj h
    simp (maxSteps := 10000000) (implicitDefEqProofs := false) (disch := first | assumption | omega | exact rfl) only [bs, rs21, ls21, Nat.reduceAdd, ↓reduceIte, binD_neq_bool Try.underlying4, lenD_lst u26, lenD_lst u53, loadD_iagg a46 z46, loadD_iptr a3, loadD_pagg a25 z25, loadD_ptr a3, storeD_agg z46, hg, ↓h7', h10, ↓h11', ↓h12']
    refine ⟨rfl, ?_⟩
    exact finish_is (ds := [iv (15 : Int)]) (x := .v (.int .i64 (15 : Int))) (y := .v (.int .i64 (15 : Int))) (l := []) rfl rfl rfl rfl (by first | rfl | (simp only [wk, wks, wkL]; first | done | rfl))
   ·rw [if_neg h12] at h
    have h12' : decide ((s7.length : Int) ≤ v8.Old) = false := decide_eq_false h12
    by_cases h13 : v8.New < (0 : Int)
    ·rw [if_pos h13] at h
     have h13' : decide (v8.New < (0 : Int)) = true := decide_eq_true h13
     obtain rfl := Option.some.inj h
     simp (maxSteps := 10000000) (implicitDefEqProofs := false) (disch := first | assumption | omega | exact rfl) only [bs, rs21, ls21, Nat.reduceAdd, ↓reduceIte, binD_neq_bool Try.underlying4, lenD_lst u26, lenD_lst u53, loadD_iagg a46 z46, loadD_iptr a3, loadD_pagg a25 z25, loadD_ptr a3, storeD_agg z46, hg, ↓h7', h10, ↓h11', ↓h12', ↓h13']
     refine ⟨rfl, ?_⟩
     exact finish_is (ds := [iv (15 : Int)]) (x := .v (.int .i64 (15 : Int))) (y := .v (.int .i64 (15 : Int))) (l := []) rfl rfl rfl rfl (by first | rfl | (simp only [wk, wks, wkL]; first | done | rfl))
    ·rw [if_neg h13] at h
     have h13' : decide (v8.New < (0 : Int)) = false := decide_eq_false h13
     by_cases h14 : (s8.length : Int) ≤ v8.New
     ·rw [if_pos h14] at h
      have h14' : decide ((s8.length : Int) ≤ v8.New) = true := decide_eq_true h14
      obtain rfl := Option.some.inj h
      simp (maxSteps := 10000000) (implicitDefEqProofs := false) (disch := first | assumption | omega | exact rfl) only [bs, rs21, ls21, Nat.reduceAdd, ↓reduceIte, binD_neq_bool Try.underlying4, lenD_lst u26, lenD_lst u53, loadD_iagg a46 z46, loadD_iptr a3, loadD_pagg a25 z25, loadD_ptr a3, storeD_agg z46, hg, ↓h7', h10, ↓h11', ↓h12', ↓h13', ↓h14']
      refine ⟨rfl, ?_⟩
      exact finish_is (ds := [iv (15 : Int)]) (x := .v (.int .i64 (15 : Int))) (y := .v (.int .i64 (15 : Int))) (l := []) rfl rfl rfl rfl (by first | rfl | (simp only [wk, wks, wkL]; first | done | rfl))
     ·rw [if_neg h14] at h
      have h14' : decide ((s8.length : Int) ≤ v8.New) = false := decide_eq_false h14
      by_cases h15 : (0 : Int) < s9
      ·rw [if_pos h15] at h
       have h15' : decide ((0 : Int) < s9) = true := decide_eq_true h15
       obtain ⟨v16, h17, h⟩ := Option.bind_eq_some_iff.1 h
       obtain ⟨h17a, h17b, _⟩ := rd_some h17
       have h18 := ce_46__0 h17
       by_cases h19 : v8.Old ≤ v16.Old
       ·rw [if_pos h19] at h
        have h19' : decide (v8.Old ≤ v16.Old) = true := decide_eq_true h19
        obtain rfl := Option.some.inj h
        simp (maxSteps := 10000000) (implicitDefEqProofs := false) (disch := first | assumption | omega | exact rfl) only [bs, rs21, ls21, Nat.reduceAdd, ↓reduceIte, binD_neq_bool Try.underlying4, lenD_lst u26, lenD_lst u53, loadD_iagg a46 z46, loadD_iptr a3, loadD_pagg a25 z25, loadD_ptr a3, storeD_agg z46, hg, ↓h7', h10, ↓h11', ↓h12', ↓h13', ↓h14', ↓h15', h18, ↓h19']
        refine ⟨rfl, ?_⟩
        exact finish_is (ds := [iv (15 : Int)]) (x := .v (.int .i64 (15 : Int))) (y := .v (.int .i64 (15 : Int))) (l := []) rfl rfl rfl rfl (by first | rfl | (simp only [wk, wks, wkL]; first | done | rfl))
       ·rw [if_neg h19] at h
        have h19' : decide (v8.Old ≤ v16.Old) = false := decide_eq_false h19
        by_cases hw_ : s9 ≤ (s2.length : Int)
        case neg => rw [if_neg hw_] at h; cases h
        rw [if_pos hw_] at h
        have h20 := hw_
        obtain ⟨r21, h22, h⟩ := Option.bind_eq_some_iff.1 h
        have h23 : ∀ H, callD (callW Try.prog A0) A0 H 41 [.p (.lst false (s2.take s9.toNat).length (encL en_Pair (s2.take s9.toNat))), iv v8.New] = some (.p (.v (.bool r21)), none) := fun H => R24_hasNew_call h22
        by_cases h24 : r21 = true
        ·rw [if_pos h24] at h
         obtain rfl := Option.some.inj h
         simp (maxSteps := 10000000) (implicitDefEqProofs := false) (disch := first | assumption | omega | exact rfl) only [bs, rs21, ls21, Nat.reduceAdd, ↓reduceIte, binD_neq_bool Try.underlying4, lenD_lst u26, lenD_lst u53, loadD_iagg a46 z46, loadD_iptr a3, loadD_pagg a25 z25, loadD_ptr a3, storeD_agg z46, hg, ↓h7', h10, ↓h11', ↓h12', ↓h13', ↓h14', ↓h15', h18, ↓h19', h23, h24]
         refine ⟨rfl, ?_⟩
         exact finish_is (ds := [iv (15 : Int)]) (x := .v (.int .i64 (15 : Int))) (y := .v (.int .i64 (15 : Int))) (l := []) rfl rfl rfl rfl (by first | rfl | (simp only [wk, wks, wkL]; first | done | rfl))
        ·rw [if_neg h24] at h
         replace h24 := Bool.eq_false_iff.2 h24
         obtain ⟨v25, h26, h⟩ := Option.bind_eq_some_iff.1 h
         obtain ⟨h26a, h26b, _⟩ := rd_some h26
         have h27 := ce_59__1 h26
         obtain ⟨v28, h29, h⟩ := Option.bind_eq_some_iff.1 h
         obtain ⟨h29a, h29b, _⟩ := rd_some h29
         have h30 := ce_59__1 h29
         by_cases h31 : v25.Kind = v28.Kind
         ·rw [if_pos h31] at h
          have h31' : decide (v25.Kind = v28.Kind) = true := decide_eq_true h31
          by_cases h32 : (decide (v8.Old = (0 : Int))) = (decide (v8.New = (0 : Int)))
          ·rw [if_pos h32] at h
           have h32' : decide ((decide (v8.Old = (0 : Int))) = (decide (v8.New = (0 : Int)))) = true := decide_eq_true h32
           obtain rfl := Option.some.inj h
           simp (maxSteps := 10000000) (implicitDefEqProofs := false) (disch := first | assumption | omega | exact rfl) only [bs, rs21, ls21, Nat.reduceAdd, ↓reduceIte, binD_neq_bool Try.underlying4, lenD_lst u26, lenD_lst u53, loadD_iagg a46 z46, loadD_iptr a3, loadD_pagg a25 z25, loadD_ptr a3, storeD_agg z46, hg, ↓h7', h10, ↓h11', ↓h12', ↓h13', ↓h14', ↓h15', h18, ↓h19', h23, h24, h27, h30, ↓h31', ↓h32']
           exact ⟨rfl, by kernel_rfl⟩
          ·rw [if_neg h32] at h
           have h32' : decide ((decide (v8.Old = (0 : Int))) = (decide (v8.New = (0 : Int)))) = false := decide_eq_false h32
           obtain rfl := Option.some.inj h
           simp (maxSteps := 10000000) (implicitDefEqProofs := false) (disch := first | assumption | omega | exact rfl) only [bs, rs21, ls21, Nat.reduceAdd, ↓reduceIte, binD_neq_bool Try.underlying4, lenD_lst u26, lenD_lst u53, loadD_iagg a46 z46, loadD_iptr a3, loadD_pagg a25 z25, loadD_ptr a3, storeD_agg z46, hg, ↓h7', h10, ↓h11', ↓h12', ↓h13', ↓h14', ↓h15', h18, ↓h19', h23, h24, h27, h30, ↓h31', ↓h32']
           refine ⟨rfl, ?_⟩
           exact finish_is (ds := [iv (15 : Int)]) (x := .v (.int .i64 (15 : Int))) (y := .v (.int .i64 (15 : Int))) (l := []) rfl rfl rfl rfl (by first | rfl | (simp only [wk, wks, wkL]; first | done | rfl))
         ·rw [if_neg h31] at h
          have h31' : decide (v25.Kind = v28.Kind) = false := decide_eq_false h31
          obtain rfl := Option.some.inj h
          simp (maxSteps := 10000000) (implicitDefEqProofs := false) (disch := first | assumption | omega | exact rfl) only [bs, rs21, ls21, Nat.reduceAdd, ↓reduceIte, binD_neq_bool Try.underlying4, lenD_lst u26, lenD_lst u53, loadD_iagg a46 z46, loadD_iptr a3, loadD_pagg a25 z25, loadD_ptr a3, storeD_agg z46, hg, ↓h7', h10, ↓h11', ↓h12', ↓h13', ↓h14', ↓h15', h18, ↓h19', h23, h24, h27, h30, ↓h31']
          refine ⟨rfl, ?_⟩
          exact finish_is (ds := [iv (15 : Int)]) (x := .v (.int .i64 (15 : Int))) (y := .v (.int .i64 (15 : Int))) (l := []) rfl rfl rfl rfl (by first | rfl | (simp only [wk, wks, wkL]; first | done | rfl))
      ·rw [if_neg h15] at h
       have h15' : decide ((0 : Int) < s9) = false := decide_eq_false h15
       by_cases hw_ : s9 ≤ (s2.length : Int)
       case neg => rw [if_neg hw_] at h; cases h
       rw [if_pos hw_] at h
       have h33 := hw_
       obtain ⟨r34, h35, h⟩ := Option.bind_eq_some_iff.1 h
       have h36 : ∀ H, callD (callW Try.prog A0) A0 H 41 [.p (.lst false (s2.take s9.toNat).length (encL en_Pair (s2.take s9.toNat))), iv v8.New] = some (.p (.v (.bool r34)), none) := fun H => R24_hasNew_call h35
       by_cases h37 : r34 = true
       ·rw [if_pos h37] at h
        obtain rfl := Option.some.inj h
        simp (maxSteps := 10000000) (implicitDefEqProofs := false) (disch := first | assumption | omega | exact rfl) only [bs, rs21, ls21, Nat.reduceAdd, ↓reduceIte, binD_neq_bool Try.underlying4, lenD_lst u26, lenD_lst u53, loadD_iagg a46 z46, loadD_iptr a3, loadD_pagg a25 z25, loadD_ptr a3, storeD_agg z46, hg, ↓h7', h10, ↓h11', ↓h12', ↓h13', ↓h14', ↓h15', h36, h37]
        refine ⟨rfl, ?_⟩
        exact finish_is (ds := [iv (15 : Int)]) (x := .v (.int .i64 (15 : Int))) (y := .v (.int .i64 (15 : Int))) (l := []) rfl rfl rfl rfl (by first | rfl | (simp only [wk, wks, wkL]; first | done | rfl))
       ·rw [if_neg h37] at h
        replace h37 := Bool.eq_false_iff.2 h37
        obtain ⟨v38, h39, h⟩ := Option.bind_eq_some_iff.1 h
        obtain ⟨h39a, h39b, _⟩ := rd_some h39
        have h40 := ce_59__1 h39
        obtain ⟨v41, h42, h⟩ := Option.bind_eq_some_iff.1 h
        obtain ⟨h42a, h42b, _⟩ := rd_some h42
        have h43 := ce_59__1 h42
        by_cases h44 : v38.Kind = v41.Kind
        ·rw [if_pos h44] at h
         have h44' : decide (v38.Kind = v41.Kind) = true := decide_eq_true h44
         by_cases h45 : (decide (v8.Old = (0 : Int))) = (decide (v8.New = (0 : Int)))
         ·rw [if_pos h45] at h
          have h45' : decide ((decide (v8.Old = (0 : Int))) = (decide (v8.New = (0 : Int)))) = true := decide_eq_true h45
          obtain rfl := Option.some.inj h
          simp (maxSteps := 10000000) (implicitDefEqProofs := false) (disch := first | assumption | omega | exact rfl) only [bs, rs21, ls21, Nat.reduceAdd, ↓reduceIte, binD_neq_bool Try.underlying4, lenD_lst u26, lenD_lst u53, loadD_iagg a46 z46, loadD_iptr a3, loadD_pagg a25 z25, loadD_ptr a3, storeD_agg z46, hg, ↓h7', h10, ↓h11', ↓h12', ↓h13', ↓h14', ↓h15', h36, h37, h40, h43, ↓h44', ↓h45']
          exact ⟨rfl, by kernel_rfl⟩
         ·rw [if_neg h45] at h
          have h45' : decide ((decide (v8.Old = (0 : Int))) = (decide (v8.New = (0 : Int)))) = false := decide_eq_false h45
          obtain rfl := Option.some.inj h
          simp (maxSteps := 10000000) (implicitDefEqProofs := false) (disch := first | assumption | omega | exact rfl) only [bs, rs21, ls21, Nat.reduceAdd, ↓reduceIte, binD_neq_bool Try.underlying4, lenD_lst u26, lenD_lst u53, loadD_iagg a46 z46, loadD_iptr a3, loadD_pagg a25 z25, loadD_ptr a3, storeD_agg z46, hg, ↓h7', h10, ↓h11', ↓h12', ↓h13', ↓h14', ↓h15', h36, h37, h40, h43, ↓h44', ↓h45']
          refine ⟨rfl, ?_⟩
          exact finish_is (ds := [iv (15 : Int)]) (x := .v (.int .i64 (15 : Int))) (y := .v (.int .i64 (15 : Int))) (l := []) rfl rfl rfl rfl (by first | rfl | (simp only [wk, wks, wkL]; first | done | rfl))
        ·rw [if_neg h44] at h
         have h44' : decide (v38.Kind = v41.Kind) = false := decide_eq_false h44
         obtain rfl := Option.some.inj h
         simp (maxSteps := 10000000) (implicitDefEqProofs := false) (disch := first | assumption | omega | exact rfl) only [bs, rs21, ls21, Nat.reduceAdd, ↓reduceIte, binD_neq_bool Try.underlying4, lenD_lst u26, lenD_lst u53, loadD_iagg a46 z46, loadD_iptr a3, loadD_pagg a25 z25, loadD_ptr a3, storeD_agg z46, hg, ↓h7', h10, ↓h11', ↓h12', ↓h13', ↓h14', ↓h15', h36, h37, h40, h43, ↓h44']
         refine ⟨rfl, ?_⟩
         exact finish_is (ds := [iv (15 : Int)]) (x := .v (.int .i64 (15 : Int))) (y := .v (.int .i64 (15 : Int))) (l := []) rfl rfl rfl rfl (by first | rfl | (simp only [wk, wks, wkL]; first | done | rfl))
 ·rw [if_neg h7] at h
  have h7' : decide (s9 < (s2.length : Int)) = false := decide_eq_false h7
  obtain rfl := Option.some.inj h
  simp (maxSteps := 10000000) (implicitDefEqProofs := false) (disch := first | assumption | omega | exact rfl) only [bs, rs21, ls21, Nat.reduceAdd, ↓reduceIte, binD_neq_bool Try.underlying4, lenD_lst u26, lenD_lst u53, loadD_iagg a46 z46, loadD_iptr a3, loadD_pagg a25 z25, loadD_ptr a3, storeD_agg z46, hg, ↓h7']
  exact ⟨rfl, rfl, by kernel_rfl⟩
theorem f21_ok  (x0 : Node) (x1 : Node) (x2 : (List Pair)) (r : Int) (h : R24_Check x0 x1 x2 = some r) : callW Try.prog A0 21 [.p (.agg [.v (.int .i64 x0.Kind), .v (.string x0.Text), .lst false x0.Gaps.length (encL en_str x0.Gaps), .lst false x0.Kids.length (encL en_Node x0.Kids)]), .p (.agg [.v (.int .i64 x1.Kind), .v (.string x1.Text), .lst false x1.Gaps.length (encL en_str x1.Gaps), .lst false x1.Kids.length (encL en_Node x1.Kids)]), .p (.lst false x2.length (encL en_Pair x2))] [] = some (.p (.v (.int .i64 r)), []) := by
 refine call_ofH (fn := Try.f21) (c := bodyOf Try.f21) rfl (by kernel_rfl) (by kernel_rfl) ?_
 rw [show initS Try.f21 [.p (.agg [.v (.int .i64 x0.Kind), .v (.string x0.Text), .lst false x0.Gaps.length (encL en_str x0.Gaps), .lst false x0.Kids.length (encL en_Node x0.Kids)]), .p (.agg [.v (.int .i64 x1.Kind), .v (.string x1.Text), .lst false x1.Gaps.length (encL en_str x1.Gaps), .lst false x1.Kids.length (encL en_Node x1.Kids)]), .p (.lst false x2.length (encL en_Pair x2))] [] = ⟨.p (.agg [.v (.int .i64 x0.Kind), .v (.string x0.Text), .lst false x0.Gaps.length (encL en_str x0.Gaps), .lst false x0.Kids.length (encL en_Node x0.Kids)]) :: .p (.agg [.v (.int .i64 x1.Kind), .v (.string x1.Text), .lst false x1.Gaps.length (encL en_str x1.Gaps), .lst false x1.Kids.length (encL en_Node x1.Kids)]) :: .p (.lst false x2.length (encL en_Pair x2)) :: List.replicate 106 undefD, [], 0⟩ from by kernel_rfl]
 unfold R24_Check at h
 unfold bodyOf Try.f21; simp only [Option.getD_some, loopsOf, List.append_nil, List.nil_append, List.cons_append, List.getD_cons_zero, List.getD_cons_succ]
 simp only [List.replicate]
 obtain ⟨r1, h2, h⟩ := Option.bind_eq_some_iff.1 h
 have h3 : ∀ H, callD (callW Try.prog A0) A0 H 35 [.p (.agg [.v (.int .i64 x0.Kind), .v (.string x0.Text), .lst false x0.Gaps.length (encL en_str x0.Gaps), .lst false x0.Kids.length (encL en_Node x0.Kids)])] = some (.p (.lst false r1.length (encL en_Row r1)), none) := fun H => R06_Rows_call h2
 obtain ⟨r4, h5, h⟩ := Option.bind_eq_some_iff.1 h
 have h6 : ∀ H, callD (callW Try.prog A0) A0 H 35 [.p (.agg [.v (.int .i64 x1.Kind), .v (.string x1.Text), .lst false x1.Gaps.length (encL en_str x1.Gaps), .lst false x1.Kids.length (encL en_Node x1.Kids)])] = some (.p (.lst false r4.length (encL en_Row r4)), none) := fun H => R06_Rows_call h5
 obtain ⟨o, h46, h⟩ := Option.bind_eq_some_iff.1 h
 simp (maxSteps := 10000000) (implicitDefEqProofs := false) (disch := first | assumption | omega | exact rfl) only [bs, rs21, ls21, Nat.reduceAdd, ↓reduceIte, binD_neq_bool Try.underlying4, lenD_lst u26, lenD_lst u53, loadD_iagg a46 z46, loadD_iptr a3, loadD_pagg a25 z25, loadD_ptr a3, storeD_agg z46, h3, h6]
 refine Wp.ctx (fun x => seqW _ _ _ _ (blockW _ (x))) (L21_0_ok x2 r1 r4 x0.Kind x0.Text x0.Gaps x0.Kids x1.Kind x1.Text x1.Gaps x1.Kids (0 : Int) _ o (by kernel_rfl) h46) ?_
 intro e st hq
 cases o with
 | next _ => (first | cases h | (simp at h))
 | jmp n_ s_ =>
  obtain ⟨rfl, rfl, hq⟩ := hq
  generalize s_ = s9_47 at h hq
  unfold F21_0 at hq
  (try simp only [] at h hq)
  by_cases h48 : x0.Kind = x1.Kind
  ·rw [if_pos h48] at h
   have h48' : decide (x0.Kind = x1.Kind) = true := decide_eq_true h48
   by_cases h49 : (x2.length : Int) = (0 : Int)
   ·rw [if_pos h49] at h
    have h49' : decide ((x2.length : Int) = (0 : Int)) = true := decide_eq_true h49
    obtain rfl := Option.some.inj h
    simp (maxSteps := 10000000) (implicitDefEqProofs := false) (disch := first | assumption | omega | exact rfl) only [bs, rs21, ls21, Nat.reduceAdd, ↓reduceIte, binD_neq_bool Try.underlying4, lenD_lst u26, lenD_lst u53, loadD_iagg a46 z46, loadD_iptr a3, loadD_pagg a25 z25, loadD_ptr a3, storeD_agg z46, h3, h6, hq, ↓h48', ↓h49']
    refine ⟨by first | exact .inl trivial | exact .inr trivial | simp, ?_⟩
    exact finish_is (ds := [iv (15 : Int)]) (x := .v (.int .i64 (15 : Int))) (y := .v (.int .i64 (15 : Int))) (l := []) rfl rfl rfl rfl (by first | rfl | (simp only [wk, wks, wkL]; first | done | rfl))
   ·rw [if_neg h49] at h
    have h49' : decide ((x2.length : Int) = (0 : Int)) = false := decide_eq_false h49
    obtain ⟨v50, h51, h⟩ := Option.bind_eq_some_iff.1 h
    obtain ⟨h51a, h51b, _⟩ := rd_some h51
    have h52 := ce_46__0 h51
    by_cases h53 : v50.Old = (0 : Int)
    ·rw [if_pos h53] at h
     have h53' : decide (v50.Old = (0 : Int)) = true := decide_eq_true h53
     obtain rfl := Option.some.inj h
     simp (maxSteps := 10000000) (implicitDefEqProofs := false) (disch := first | assumption | omega | exact rfl) only [bs, rs21, ls21, Nat.reduceAdd, ↓reduceIte, binD_neq_bool Try.underlying4, lenD_lst u26, lenD_lst u53, loadD_iagg a46 z46, loadD_iptr a3, loadD_pagg a25 z25, loadD_ptr a3, storeD_agg z46, h3, h6, hq, ↓h48', ↓h49', h52, ↓h53']
     refine ⟨by first | exact .inl trivial | exact .inr trivial | simp, ?_⟩
     exact finish_is (ds := [iv (0 : Int)]) (x := .v (.int .i64 (0 : Int))) (y := .v (.int .i64 (0 : Int))) (l := []) rfl rfl rfl rfl (by first | rfl | (simp only [wk, wks, wkL]; first | done | rfl))
    ·rw [if_neg h53] at h
     have h53' : decide (v50.Old = (0 : Int)) = false := decide_eq_false h53
     obtain rfl := Option.some.inj h
     simp (maxSteps := 10000000) (implicitDefEqProofs := false) (disch := first | assumption | omega | exact rfl) only [bs, rs21, ls21, Nat.reduceAdd, ↓reduceIte, binD_neq_bool Try.underlying4, lenD_lst u26, lenD_lst u53, loadD_iagg a46 z46, loadD_iptr a3, loadD_pagg a25 z25, loadD_ptr a3, storeD_agg z46, h3, h6, hq, ↓h48', ↓h49', h52, ↓h53']
     refine ⟨by first | exact .inl trivial | exact .inr trivial | simp, ?_⟩
     exact finish_is (ds := [iv (15 : Int)]) (x := .v (.int .i64 (15 : Int))) (y := .v (.int .i64 (15 : Int))) (l := []) rfl rfl rfl rfl (by first | rfl | (simp only [wk, wks, wkL]; first | done | rfl))
  ·rw [if_neg h48] at h
   have h48' : decide (x0.Kind = x1.Kind) = false := decide_eq_false h48
   obtain rfl := Option.some.inj h
   simp (maxSteps := 10000000) (implicitDefEqProofs := false) (disch := first | assumption | omega | exact rfl) only [bs, rs21, ls21, Nat.reduceAdd, ↓reduceIte, binD_neq_bool Try.underlying4, lenD_lst u26, lenD_lst u53, loadD_iagg a46 z46, loadD_iptr a3, loadD_pagg a25 z25, loadD_ptr a3, storeD_agg z46, h3, h6, hq, ↓h48']
   refine ⟨by first | exact .inl trivial | exact .inr trivial | simp, ?_⟩
   exact finish_is (ds := [iv (0 : Int)]) (x := .v (.int .i64 (0 : Int))) (y := .v (.int .i64 (0 : Int))) (l := []) rfl rfl rfl rfl (by first | rfl | (simp only [wk, wks, wkL]; first | done | rfl))
 | ret r54 =>
  obtain ⟨rfl, hq⟩ := hq
  obtain rfl := Option.some.inj h
  simp (maxSteps := 10000000) (implicitDefEqProofs := false) (disch := first | assumption | omega | exact rfl) only [bs, rs21, ls21, Nat.reduceAdd, ↓reduceIte, binD_neq_bool Try.underlying4, lenD_lst u26, lenD_lst u53, loadD_iagg a46 z46, loadD_iptr a3, loadD_pagg a25 z25, loadD_ptr a3, storeD_agg z46]
  exact ⟨by first | exact .inl trivial | exact .inr trivial | simp, hq⟩
theorem R24_Check_call {b1 b2 b3 b4 b5 : Bool} {H : List Ob} {x0 : Node} {x1 : Node} {x2 : (List Pair)} {r : Int} (h : R24_Check x0 x1 x2 = some r) : callD (callW Try.prog A0) A0 H 21 [.p (.agg [.v (.int .i64 x0.Kind), .v (.string x0.Text), .lst b1 x0.Gaps.length (encL en_str x0.Gaps), .lst b2 x0.Kids.length (encL en_Node x0.Kids)]), .p (.agg [.v (.int .i64 x1.Kind), .v (.string x1.Text), .lst b3 x1.Gaps.length (encL en_str x1.Gaps), .lst b4 x1.Kids.length (encL en_Node x1.Kids)]), .p (.lst b5 x2.length (encL en_Pair x2))] = some (.p (.v (.int .i64 r)), none) :=
  callD_fun (args := [.agg [.v (.int .i64 x0.Kind), .v (.string x0.Text), .lst b1 x0.Gaps.length (encL en_str x0.Gaps), .lst b2 x0.Kids.length (encL en_Node x0.Kids)], .agg [.v (.int .i64 x1.Kind), .v (.string x1.Text), .lst b3 x1.Gaps.length (encL en_str x1.Gaps), .lst b4 x1.Kids.length (encL en_Node x1.Kids)], .lst b5 x2.length (encL en_Pair x2)]) rfl rfl rfl (by simp only [List.map_cons, List.map_nil, wk, wks, wkL]; exact f21_ok x0 x1 x2 _ h)
def ls6 := And.intro @eql_46 (And.intro @ex_2_0 (And.intro @ex_2_1 (And.intro @faI_44_0 (And.intro @faI_44_1 (And.intro @faI_44_2 (And.intro @faI_46_0 (And.intro @faI_46_1 (And.intro @idxL_26 (And.intro @idxL_29 (@varlv_4_0_4))))))))))
noncomputable def L6_0 : Code := (loopsOf (bodyOf Try.f6)).getD 0 .skip
def g6_0 : List Ghost := [.weak [2, 7, 9], .keep [2, 7, 9, 11, 12, 13]]
def F6_0 (s2 : (List Pair)) (s7 : (List Move)) (s9 : (List Pair)) : (Int × Int × Int) → St := fun (s11, s12, s13) => ⟨[.junk, .junk, .p (.lst false s2.length (encL en_Pair s2)), .junk, .junk, .junk, .junk, .p (.lst false s7.length (encL en_Move s7)), .junk, .p (.lst false s9.length (encL en_Pair s9)), .junk, iv s11, iv s12, iv s13, .junk, .junk, .junk, .junk, .junk, .junk, .junk, .junk, .junk, .junk, .junk, .junk, .junk, .junk, .junk, .junk, .junk, .junk, .junk, .junk, .junk, .junk, .junk, .junk, .junk, .junk, .junk, .junk, .junk, .junk, .junk, .junk, .junk, .junk, .junk, .junk, .junk, .junk, .junk, .junk, .junk, .junk, .junk, .junk, .junk, .junk, .junk, .junk, .junk, .junk, .junk, .junk, .junk, .junk, .junk, .junk, .junk, .junk, .junk, .junk, .junk, .junk, .junk, .junk, .junk, .junk, .junk, .junk, .junk, .junk, .junk, .junk, .junk, .junk, .junk, .junk, .junk, .junk, .junk, .junk, .junk, .junk, .junk, .junk, .junk, .junk, .junk, .junk, .junk, .junk, .junk, .junk, .junk, .junk, .junk, .junk, .junk, .junk, .junk, .junk, .junk, .junk, .junk, .junk, .junk, .junk, .junk, .junk, .junk, .junk, .junk, .junk, .junk, .junk, .junk, .junk, .junk, .junk, .junk, .junk, .junk, .junk, .junk, .junk, .junk, .junk, .junk, .junk, .junk, .junk, .junk, .junk, .junk, .junk, .junk, .junk, .junk, .junk, .junk, .junk, .junk, .junk, .junk, .junk, .junk, .junk, .junk, .junk], [], 0⟩
theorem L6_0_ok (s2 : (List Pair)) (s7 : (List Move)) (s9 : (List Pair)) : ∀ s st o, ghostsD g6_0 st = some (F6_0 s2 s7 s9 s) → iter (law27_MovesParts_L0 s2 s7 s9) s = some o →
    Wp (evW Try.prog A0 6 (.loop L6_0) st) (OutQ (F6_0 s2 s7 s9) g6_0 (fun n s st => n = 0 ∧ ghostsD [.keep [2, 7, 9, 11, 12, 13]] st = some (F6_0 s2 s7 s9 s)) (fun r st => finishD Try.prog A0 6 Try.f6 st = some (.p (.v (.bool r)), [])) o) := by
 refine Wp.iter ?_
 intro s st o hg h
 obtain ⟨s11, s12, s13⟩ := s
 unfold law27_MovesParts_L0 at h
 unfold g6_0 F6_0 at hg ⊢
 (try simp only [] at h hg)
 unfold L6_0 bodyOf Try.f6; simp only [Option.getD_some, loopsOf, List.append_nil, List.nil_append, List.cons_append, List.getD_cons_zero, List.getD_cons_succ]
 by_cases h26 : s13 < (s2.length : Int)
 ·rw [if_pos h26] at h
  have h26' : decide (s13 < (s2.length : Int)) = true := decide_eq_true h26
  by_cases h27 : s11 < (s7.length : Int)
  ·rw [if_pos h27] at h
   have h27' : decide (s11 < (s7.length : Int)) = true := decide_eq_true h27
   obtain ⟨v28, h29, h⟩ := Option.bind_eq_some_iff.1 h
   obtain ⟨h29a, h29b, _⟩ := rd_some h29
   have h30 := ce_44__1 h29
   obtain ⟨v31, h32, h⟩ := Option.bind_eq_some_iff.1 h
   obtain ⟨h32a, h32b, _⟩ := rd_some h32
   have h33 := ce_46__0 h32
   by_cases h34 : v28.Old = v31.Old
   ·rw [if_pos h34] at h
    have h34' : decide (v28.Old = v31.Old) = true := decide_eq_true h34
    have h35 := ce_44__2 h29
    have h36 := ce_46__1 h32
    by_cases h37 : v28.New = v31.New
    ·rw [if_pos h37] at h
     have h37' : decide (v28.New = v31.New) = true := decide_eq_true h37
     have h38 := ce_44__0 h29
     by_cases h39 : v28.Kind = (1 : Int)
     ·rw [if_pos h39] at h
      have h39' : decide (v28.Kind = (1 : Int)) = true := decide_eq_true h39
      have h40 := ce_46__0 h32
      by_cases h41 : v31.Old = (0 : Int)
      ·rw [if_pos h41] at h
       have h41' : decide (v31.Old = (0 : Int)) = true := decide_eq_true h41
       by_cases h42 : s12 < (s9.length : Int)
       ·rw [if_pos h42] at h
        have h42' : decide (s12 < (s9.length : Int)) = true := decide_eq_true h42
        obtain ⟨v43, h44, h⟩ := Option.bind_eq_some_iff.1 h
        obtain ⟨h44a, h44b, _⟩ := rd_some h44
        have h45 := lk_frz_46 h44
        have h46 := lk_frz_46 h32
        by_cases h47 : v43.Old = v31.Old ∧ v43.New = v31.New
        ·rw [if_pos h47] at h
         have h47' : decide (v43.Old = v31.Old ∧ v43.New = v31.New) = true := decide_eq_true h47
         obtain rfl := Option.some.inj h
         simp (maxSteps := 10000000) (implicitDefEqProofs := false) (disch := first | assumption | omega | exact rfl) only [bs, rs6, ls6, Nat.reduceAdd, ↓reduceIte, lenD_lst u26, lenD_lst u29, loadD_iagg a46 z46, loadD_iptr a3, loadD_pagg a25 z25, hg, ↓h26', ↓h27', h30, h33, ↓h34', h35, h36, ↓h37', h38, ↓h39', h40, ↓h41', ↓h42', h45, h46, ↓h47']
         exact ⟨rfl, by kernel_rfl⟩
        ·rw [if_neg h47] at h
         have h47' : decide (v43.Old = v31.Old ∧ v43.New = v31.New) = false := decide_eq_false h47
         obtain rfl := Option.some.inj h
         simp (maxSteps := 10000000) (implicitDefEqProofs := false) (disch := first | assumption | omega | exact rfl) only [bs, rs6, ls6, Nat.reduceAdd, ↓reduceIte, lenD_lst u26, lenD_lst u29, loadD_iagg a46 z46, loadD_iptr a3, loadD_pagg a25 z25, hg, ↓h26', ↓h27', h30, h33, ↓h34', h35, h36, ↓h37', h38, ↓h39', h40, ↓h41', ↓h42', h45, h46, ↓h47']
         refine ⟨rfl, ?_⟩
         exact finish_is (ds := [bv false]) (x := .v (.bool false)) (y := .v (.bool false)) (l := []) rfl rfl rfl rfl (by first | rfl | (simp only [wk, wks, wkL]; first | done | rfl))
       ·rw [if_neg h42] at h
        have h42' : decide (s12 < (s9.length : Int)) = false := decide_eq_false h42
        obtain rfl := Option.some.inj h
        simp (maxSteps := 10000000) (implicitDefEqProofs := false) (disch := first | assumption | omega | exact rfl) only [bs, rs6, ls6, Nat.reduceAdd, ↓reduceIte, lenD_lst u26, lenD_lst u29, loadD_iagg a46 z46, loadD_iptr a3, loadD_pagg a25 z25, hg, ↓h26', ↓h27', h30, h33, ↓h34', h35, h36, ↓h37', h38, ↓h39', h40, ↓h41', ↓h42']
        refine ⟨rfl, ?_⟩
        exact finish_is (ds := [bv false]) (x := .v (.bool false)) (y := .v (.bool false)) (l := []) rfl rfl rfl rfl (by first | rfl | (simp only [wk, wks, wkL]; first | done | rfl))
      ·rw [if_neg h41] at h
       have h41' : decide (v31.Old = (0 : Int)) = false := decide_eq_false h41
       obtain rfl := Option.some.inj h
       simp (maxSteps := 10000000) (implicitDefEqProofs := false) (disch := first | assumption | omega | exact rfl) only [bs, rs6, ls6, Nat.reduceAdd, ↓reduceIte, lenD_lst u26, lenD_lst u29, loadD_iagg a46 z46, loadD_iptr a3, loadD_pagg a25 z25, hg, ↓h26', ↓h27', h30, h33, ↓h34', h35, h36, ↓h37', h38, ↓h39', h40, ↓h41']
       exact ⟨rfl, by kernel_rfl⟩
     ·rw [if_neg h39] at h
      have h39' : decide (v28.Kind = (1 : Int)) = false := decide_eq_false h39
      have h48 := ce_44__0 h29
      by_cases h49 : v28.Kind = (2 : Int)
      ·rw [if_pos h49] at h
       have h49' : decide (v28.Kind = (2 : Int)) = true := decide_eq_true h49
       have h50 := ce_46__0 h32
       by_cases h51 : v31.Old = (0 : Int)
       ·rw [if_pos h51] at h
        have h51' : decide (v31.Old = (0 : Int)) = true := decide_eq_true h51
        by_cases h52 : s12 < (s9.length : Int)
        ·rw [if_pos h52] at h
         have h52' : decide (s12 < (s9.length : Int)) = true := decide_eq_true h52
         obtain ⟨v53, h54, h⟩ := Option.bind_eq_some_iff.1 h
         obtain ⟨h54a, h54b, _⟩ := rd_some h54
         have h55 := lk_frz_46 h54
         have h56 := lk_frz_46 h32
         by_cases h57 : v53.Old = v31.Old ∧ v53.New = v31.New
         ·rw [if_pos h57] at h
          have h57' : decide (v53.Old = v31.Old ∧ v53.New = v31.New) = true := decide_eq_true h57
          obtain rfl := Option.some.inj h
          simp (maxSteps := 10000000) (implicitDefEqProofs := false) (disch := first | assumption | omega | exact rfl) only [bs, rs6, ls6, Nat.reduceAdd, ↓reduceIte, lenD_lst u26, lenD_lst u29, loadD_iagg a46 z46, loadD_iptr a3, loadD_pagg a25 z25, hg, ↓h26', ↓h27', h30, h33, ↓h34', h35, h36, ↓h37', h38, ↓h39', h48, ↓h49', h50, ↓h51', ↓h52', h55, h56, ↓h57']
          exact ⟨rfl, by kernel_rfl⟩
         ·rw [if_neg h57] at h
          have h57' : decide (v53.Old = v31.Old ∧ v53.New = v31.New) = false := decide_eq_false h57
          obtain rfl := Option.some.inj h
          simp (maxSteps := 10000000) (implicitDefEqProofs := false) (disch := first | assumption | omega | exact rfl) only [bs, rs6, ls6, Nat.reduceAdd, ↓reduceIte, lenD_lst u26, lenD_lst u29, loadD_iagg a46 z46, loadD_iptr a3, loadD_pagg a25 z25, hg, ↓h26', ↓h27', h30, h33, ↓h34', h35, h36, ↓h37', h38, ↓h39', h48, ↓h49', h50, ↓h51', ↓h52', h55, h56, ↓h57']
          refine ⟨rfl, ?_⟩
          exact finish_is (ds := [bv false]) (x := .v (.bool false)) (y := .v (.bool false)) (l := []) rfl rfl rfl rfl (by first | rfl | (simp only [wk, wks, wkL]; first | done | rfl))
        ·rw [if_neg h52] at h
         have h52' : decide (s12 < (s9.length : Int)) = false := decide_eq_false h52
         obtain rfl := Option.some.inj h
         simp (maxSteps := 10000000) (implicitDefEqProofs := false) (disch := first | assumption | omega | exact rfl) only [bs, rs6, ls6, Nat.reduceAdd, ↓reduceIte, lenD_lst u26, lenD_lst u29, loadD_iagg a46 z46, loadD_iptr a3, loadD_pagg a25 z25, hg, ↓h26', ↓h27', h30, h33, ↓h34', h35, h36, ↓h37', h38, ↓h39', h48, ↓h49', h50, ↓h51', ↓h52']
         refine ⟨rfl, ?_⟩
         exact finish_is (ds := [bv false]) (x := .v (.bool false)) (y := .v (.bool false)) (l := []) rfl rfl rfl rfl (by first | rfl | (simp only [wk, wks, wkL]; first | done | rfl))
       ·rw [if_neg h51] at h
        have h51' : decide (v31.Old = (0 : Int)) = false := decide_eq_false h51
        obtain rfl := Option.some.inj h
        simp (maxSteps := 10000000) (implicitDefEqProofs := false) (disch := first | assumption | omega | exact rfl) only [bs, rs6, ls6, Nat.reduceAdd, ↓reduceIte, lenD_lst u26, lenD_lst u29, loadD_iagg a46 z46, loadD_iptr a3, loadD_pagg a25 z25, hg, ↓h26', ↓h27', h30, h33, ↓h34', h35, h36, ↓h37', h38, ↓h39', h48, ↓h49', h50, ↓h51']
        exact ⟨rfl, by kernel_rfl⟩
      ·rw [if_neg h49] at h
       have h49' : decide (v28.Kind = (2 : Int)) = false := decide_eq_false h49
       by_cases h58 : s12 < (s9.length : Int)
       ·rw [if_pos h58] at h
        have h58' : decide (s12 < (s9.length : Int)) = true := decide_eq_true h58
        obtain ⟨v59, h60, h⟩ := Option.bind_eq_some_iff.1 h
        obtain ⟨h60a, h60b, _⟩ := rd_some h60
        have h61 := lk_frz_46 h60
        have h62 := lk_frz_46 h32
        by_cases h63 : v59.Old = v31.Old ∧ v59.New = v31.New
        ·rw [if_pos h63] at h
         have h63' : decide (v59.Old = v31.Old ∧ v59.New = v31.New) = true := decide_eq_true h63
         obtain rfl := Option.some.inj h
         simp (maxSteps := 10000000) (implicitDefEqProofs := false) (disch := first | assumption | omega | exact rfl) only [bs, rs6, ls6, Nat.reduceAdd, ↓reduceIte, lenD_lst u26, lenD_lst u29, loadD_iagg a46 z46, loadD_iptr a3, loadD_pagg a25 z25, hg, ↓h26', ↓h27', h30, h33, ↓h34', h35, h36, ↓h37', h38, ↓h39', h48, ↓h49', ↓h58', h61, h62, ↓h63']
         exact ⟨rfl, by kernel_rfl⟩
        ·rw [if_neg h63] at h
         have h63' : decide (v59.Old = v31.Old ∧ v59.New = v31.New) = false := decide_eq_false h63
         obtain rfl := Option.some.inj h
         simp (maxSteps := 10000000) (implicitDefEqProofs := false) (disch := first | assumption | omega | exact rfl) only [bs, rs6, ls6, Nat.reduceAdd, ↓reduceIte, lenD_lst u26, lenD_lst u29, loadD_iagg a46 z46, loadD_iptr a3, loadD_pagg a25 z25, hg, ↓h26', ↓h27', h30, h33, ↓h34', h35, h36, ↓h37', h38, ↓h39', h48, ↓h49', ↓h58', h61, h62, ↓h63']
         refine ⟨rfl, ?_⟩
         exact finish_is (ds := [bv false]) (x := .v (.bool false)) (y := .v (.bool false)) (l := []) rfl rfl rfl rfl (by first | rfl | (simp only [wk, wks, wkL]; first | done | rfl))
       ·rw [if_neg h58] at h
        have h58' : decide (s12 < (s9.length : Int)) = false := decide_eq_false h58
        obtain rfl := Option.some.inj h
        simp (maxSteps := 10000000) (implicitDefEqProofs := false) (disch := first | assumption | omega | exact rfl) only [bs, rs6, ls6, Nat.reduceAdd, ↓reduceIte, lenD_lst u26, lenD_lst u29, loadD_iagg a46 z46, loadD_iptr a3, loadD_pagg a25 z25, hg, ↓h26', ↓h27', h30, h33, ↓h34', h35, h36, ↓h37', h38, ↓h39', h48, ↓h49', ↓h58']
        refine ⟨rfl, ?_⟩
        exact finish_is (ds := [bv false]) (x := .v (.bool false)) (y := .v (.bool false)) (l := []) rfl rfl rfl rfl (by first | rfl | (simp only [wk, wks, wkL]; first | done | rfl))
    ·rw [if_neg h37] at h
     have h37' : decide (v28.New = v31.New) = false := decide_eq_false h37
     by_cases h64 : s12 < (s9.length : Int)
     ·rw [if_pos h64] at h
      have h64' : decide (s12 < (s9.length : Int)) = true := decide_eq_true h64
      obtain ⟨v65, h66, h⟩ := Option.bind_eq_some_iff.1 h
      obtain ⟨h66a, h66b, _⟩ := rd_some h66
      have h67 := lk_frz_46 h66
      have h68 := lk_frz_46 h32
      by_cases h69 : v65.Old = v31.Old ∧ v65.New = v31.New
      ·rw [if_pos h69] at h
       have h69' : decide (v65.Old = v31.Old ∧ v65.New = v31.New) = true := decide_eq_true h69
       obtain rfl := Option.some.inj h
       simp (maxSteps := 10000000) (implicitDefEqProofs := false) (disch := first | assumption | omega | exact rfl) only [bs, rs6, ls6, Nat.reduceAdd, ↓reduceIte, lenD_lst u26, lenD_lst u29, loadD_iagg a46 z46, loadD_iptr a3, loadD_pagg a25 z25, hg, ↓h26', ↓h27', h30, h33, ↓h34', h35, h36, ↓h37', ↓h64', h67, h68, ↓h69']
       exact ⟨rfl, by kernel_rfl⟩
      ·rw [if_neg h69] at h
       have h69' : decide (v65.Old = v31.Old ∧ v65.New = v31.New) = false := decide_eq_false h69
       obtain rfl := Option.some.inj h
       simp (maxSteps := 10000000) (implicitDefEqProofs := false) (disch := first | assumption | omega | exact rfl) only [bs, rs6, ls6, Nat.reduceAdd, ↓reduceIte, lenD_lst u26, lenD_lst u29, loadD_iagg a46 z46, loadD_iptr a3, loadD_pagg a25 z25, hg, ↓h26', ↓h27', h30, h33, ↓h34', h35, h36, ↓h37', ↓h64', h67, h68, ↓h69']
       refine ⟨rfl, ?_⟩
       exact finish_is (ds := [bv false]) (x := .v (.bool false)) (y := .v (.bool false)) (l := []) rfl rfl rfl rfl (by first | rfl | (simp only [wk, wks, wkL]; first | done | rfl))
     ·rw [if_neg h64] at h
      have h64' : decide (s12 < (s9.length : Int)) = false := decide_eq_false h64
      obtain rfl := Option.some.inj h
      simp (maxSteps := 10000000) (implicitDefEqProofs := false) (disch := first | assumption | omega | exact rfl) only [bs, rs6, ls6, Nat.reduceAdd, ↓reduceIte, lenD_lst u26, lenD_lst u29, loadD_iagg a46 z46, loadD_iptr a3, loadD_pagg a25 z25, hg, ↓h26', ↓h27', h30, h33, ↓h34', h35, h36, ↓h37', ↓h64']
      refine ⟨rfl, ?_⟩
      exact finish_is (ds := [bv false]) (x := .v (.bool false)) (y := .v (.bool false)) (l := []) rfl rfl rfl rfl (by first | rfl | (simp only [wk, wks, wkL]; first | done | rfl))
   ·rw [if_neg h34] at h
    have h34' : decide (v28.Old = v31.Old) = false := decide_eq_false h34
    by_cases h70 : s12 < (s9.length : Int)
    ·rw [if_pos h70] at h
     have h70' : decide (s12 < (s9.length : Int)) = true := decide_eq_true h70
     obtain ⟨v71, h72, h⟩ := Option.bind_eq_some_iff.1 h
     obtain ⟨h72a, h72b, _⟩ := rd_some h72
     have h73 := lk_frz_46 h72
     have h74 := lk_frz_46 h32
     by_cases h75 : v71.Old = v31.Old ∧ v71.New = v31.New
     ·rw [if_pos h75] at h
      have h75' : decide (v71.Old = v31.Old ∧ v71.New = v31.New) = true := decide_eq_true h75
      obtain rfl := Option.some.inj h
      simp (maxSteps := 10000000) (implicitDefEqProofs := false) (disch := first | assumption | omega | exact rfl) only [bs, rs6, ls6, Nat.reduceAdd, ↓reduceIte, lenD_lst u26, lenD_lst u29, loadD_iagg a46 z46, loadD_iptr a3, loadD_pagg a25 z25, hg, ↓h26', ↓h27', h30, h33, ↓h34', ↓h70', h73, h74, ↓h75']
      exact ⟨rfl, by kernel_rfl⟩
     ·rw [if_neg h75] at h
      have h75' : decide (v71.Old = v31.Old ∧ v71.New = v31.New) = false := decide_eq_false h75
      obtain rfl := Option.some.inj h
      simp (maxSteps := 10000000) (implicitDefEqProofs := false) (disch := first | assumption | omega | exact rfl) only [bs, rs6, ls6, Nat.reduceAdd, ↓reduceIte, lenD_lst u26, lenD_lst u29, loadD_iagg a46 z46, loadD_iptr a3, loadD_pagg a25 z25, hg, ↓h26', ↓h27', h30, h33, ↓h34', ↓h70', h73, h74, ↓h75']
      refine ⟨rfl, ?_⟩
      exact finish_is (ds := [bv false]) (x := .v (.bool false)) (y := .v (.bool false)) (l := []) rfl rfl rfl rfl (by first | rfl | (simp only [wk, wks, wkL]; first | done | rfl))
    ·rw [if_neg h70] at h
     have h70' : decide (s12 < (s9.length : Int)) = false := decide_eq_false h70
     obtain rfl := Option.some.inj h
     simp (maxSteps := 10000000) (implicitDefEqProofs := false) (disch := first | assumption | omega | exact rfl) only [bs, rs6, ls6, Nat.reduceAdd, ↓reduceIte, lenD_lst u26, lenD_lst u29, loadD_iagg a46 z46, loadD_iptr a3, loadD_pagg a25 z25, hg, ↓h26', ↓h27', h30, h33, ↓h34', ↓h70']
     refine ⟨rfl, ?_⟩
     exact finish_is (ds := [bv false]) (x := .v (.bool false)) (y := .v (.bool false)) (l := []) rfl rfl rfl rfl (by first | rfl | (simp only [wk, wks, wkL]; first | done | rfl))
  ·rw [if_neg h27] at h
   have h27' : decide (s11 < (s7.length : Int)) = false := decide_eq_false h27
   by_cases h76 : s12 < (s9.length : Int)
   ·rw [if_pos h76] at h
    have h76' : decide (s12 < (s9.length : Int)) = true := decide_eq_true h76
    obtain ⟨v77, h78, h⟩ := Option.bind_eq_some_iff.1 h
    obtain ⟨h78a, h78b, _⟩ := rd_some h78
    have h79 := lk_frz_46 h78
    obtain ⟨v80, h81, h⟩ := Option.bind_eq_some_iff.1 h
    obtain ⟨h81a, h81b, _⟩ := rd_some h81
    have h82 := lk_frz_46 h81
    by_cases h83 : v77.Old = v80.Old ∧ v77.New = v80.New
    ·rw [if_pos h83] at h
     have h83' : decide (v77.Old = v80.Old ∧ v77.New = v80.New) = true := decide_eq_true h83
     obtain rfl := Option.some.inj h
     simp (maxSteps := 10000000) (implicitDefEqProofs := false) (disch := first | assumption | omega | exact rfl) only [bs, rs6, ls6, Nat.reduceAdd, ↓reduceIte, lenD_lst u26, lenD_lst u29, loadD_iagg a46 z46, loadD_iptr a3, loadD_pagg a25 z25, hg, ↓h26', ↓h27', ↓h76', h79, h82, ↓h83']
     exact ⟨rfl, by kernel_rfl⟩
    ·rw [if_neg h83] at h
     have h83' : decide (v77.Old = v80.Old ∧ v77.New = v80.New) = false := decide_eq_false h83
     obtain rfl := Option.some.inj h
     simp (maxSteps := 10000000) (implicitDefEqProofs := false) (disch := first | assumption | omega | exact rfl) only [bs, rs6, ls6, Nat.reduceAdd, ↓reduceIte, lenD_lst u26, lenD_lst u29, loadD_iagg a46 z46, loadD_iptr a3, loadD_pagg a25 z25, hg, ↓h26', ↓h27', ↓h76', h79, h82, ↓h83']
     refine ⟨rfl, ?_⟩
     exact finish_is (ds := [bv false]) (x := .v (.bool false)) (y := .v (.bool false)) (l := []) rfl rfl rfl rfl (by first | rfl | (simp only [wk, wks, wkL]; first | done | rfl))
   ·rw [if_neg h76] at h
    have h76' : decide (s12 < (s9.length : Int)) = false := decide_eq_false h76
    obtain rfl := Option.some.inj h
    simp (maxSteps := 10000000) (implicitDefEqProofs := false) (disch := first | assumption | omega | exact rfl) only [bs, rs6, ls6, Nat.reduceAdd, ↓reduceIte, lenD_lst u26, lenD_lst u29, loadD_iagg a46 z46, loadD_iptr a3, loadD_pagg a25 z25, hg, ↓h26', ↓h27', ↓h76']
    refine ⟨rfl, ?_⟩
    exact finish_is (ds := [bv false]) (x := .v (.bool false)) (y := .v (.bool false)) (l := []) rfl rfl rfl rfl (by first | rfl | (simp only [wk, wks, wkL]; first | done | rfl))
 ·rw [if_neg h26] at h
  have h26' : decide (s13 < (s2.length : Int)) = false := decide_eq_false h26
  obtain rfl := Option.some.inj h
  simp (maxSteps := 10000000) (implicitDefEqProofs := false) (disch := first | assumption | omega | exact rfl) only [bs, rs6, ls6, Nat.reduceAdd, ↓reduceIte, lenD_lst u26, lenD_lst u29, loadD_iagg a46 z46, loadD_iptr a3, loadD_pagg a25 z25, hg, ↓h26']
  exact ⟨rfl, rfl, by kernel_rfl⟩
theorem f6_ok  (x0 : Node) (x1 : Node) (x2 : (List Pair)) (r : Bool) (h : law27_MovesParts x0 x1 x2 = some r) : callW Try.prog A0 6 [.p (.agg [.v (.int .i64 x0.Kind), .v (.string x0.Text), .lst false x0.Gaps.length (encL en_str x0.Gaps), .lst false x0.Kids.length (encL en_Node x0.Kids)]), .p (.agg [.v (.int .i64 x1.Kind), .v (.string x1.Text), .lst false x1.Gaps.length (encL en_str x1.Gaps), .lst false x1.Kids.length (encL en_Node x1.Kids)]), .p (.lst false x2.length (encL en_Pair x2))] [] = some (.p (.v (.bool r)), []) := by
 refine call_ofH (fn := Try.f6) (c := bodyOf Try.f6) rfl (by kernel_rfl) (by kernel_rfl) ?_
 rw [show initS Try.f6 [.p (.agg [.v (.int .i64 x0.Kind), .v (.string x0.Text), .lst false x0.Gaps.length (encL en_str x0.Gaps), .lst false x0.Kids.length (encL en_Node x0.Kids)]), .p (.agg [.v (.int .i64 x1.Kind), .v (.string x1.Text), .lst false x1.Gaps.length (encL en_str x1.Gaps), .lst false x1.Kids.length (encL en_Node x1.Kids)]), .p (.lst false x2.length (encL en_Pair x2))] [] = ⟨.p (.agg [.v (.int .i64 x0.Kind), .v (.string x0.Text), .lst false x0.Gaps.length (encL en_str x0.Gaps), .lst false x0.Kids.length (encL en_Node x0.Kids)]) :: .p (.agg [.v (.int .i64 x1.Kind), .v (.string x1.Text), .lst false x1.Gaps.length (encL en_str x1.Gaps), .lst false x1.Kids.length (encL en_Node x1.Kids)]) :: .p (.lst false x2.length (encL en_Pair x2)) :: List.replicate 159 undefD, [], 0⟩ from by kernel_rfl]
 unfold law27_MovesParts at h
 unfold bodyOf Try.f6; simp only [Option.getD_some, loopsOf, List.append_nil, List.nil_append, List.cons_append, List.getD_cons_zero, List.getD_cons_succ]
 simp only [List.replicate]
 obtain ⟨r1, h2, h⟩ := Option.bind_eq_some_iff.1 h
 have h3 : ∀ H, callD (callW Try.prog A0) A0 H 9 [.p (.agg [.v (.int .i64 x0.Kind), .v (.string x0.Text), .lst false x0.Gaps.length (encL en_str x0.Gaps), .lst false x0.Kids.length (encL en_Node x0.Kids)])] = some (.p (.v (.bool r1)), none) := fun H => law27_small_call h2
 by_cases h4 : r1 = true
 ·rw [if_pos h4] at h
  obtain ⟨r5, h6, h⟩ := Option.bind_eq_some_iff.1 h
  have h7 : ∀ H, callD (callW Try.prog A0) A0 H 9 [.p (.agg [.v (.int .i64 x1.Kind), .v (.string x1.Text), .lst false x1.Gaps.length (encL en_str x1.Gaps), .lst false x1.Kids.length (encL en_Node x1.Kids)])] = some (.p (.v (.bool r5)), none) := fun H => law27_small_call h6
  by_cases h8 : r5 = true
  ·rw [if_pos h8] at h
   by_cases h9 : (200 : Int) < (x2.length : Int)
   ·rw [if_pos h9] at h
    have h9' : decide ((200 : Int) < (x2.length : Int)) = true := decide_eq_true h9
    obtain ⟨r10, h11, h⟩ := Option.bind_eq_some_iff.1 h
    have h12 : ∀ H, callD (callW Try.prog A0) A0 H 10 [] = some (.p (.v (.bool r10)), none) := fun H => law27_awake_call h11
    obtain rfl := Option.some.inj h
    simp (maxSteps := 10000000) (implicitDefEqProofs := false) (disch := first | assumption | omega | exact rfl) only [bs, rs6, ls6, Nat.reduceAdd, ↓reduceIte, lenD_lst u26, lenD_lst u29, loadD_iagg a46 z46, loadD_iptr a3, loadD_pagg a25 z25, h3, h4, h7, h8, ↓h9', h12]
    refine ⟨by first | exact .inl trivial | exact .inr trivial | simp, ?_⟩
    exact finish_is (ds := [bv r10]) (x := .v (.bool r10)) (y := .v (.bool r10)) (l := []) rfl rfl rfl rfl (by first | rfl | (simp only [wk, wks, wkL]; first | done | rfl))
   ·rw [if_neg h9] at h
    have h9' : decide ((200 : Int) < (x2.length : Int)) = false := decide_eq_false h9
    obtain ⟨r13, h14, h⟩ := Option.bind_eq_some_iff.1 h
    have h15 : ∀ H, callD (callW Try.prog A0) A0 H 11 [.p (.agg [.v (.int .i64 x0.Kind), .v (.string x0.Text), .lst false x0.Gaps.length (encL en_str x0.Gaps), .lst false x0.Kids.length (encL en_Node x0.Kids)]), .p (.agg [.v (.int .i64 x1.Kind), .v (.string x1.Text), .lst false x1.Gaps.length (encL en_str x1.Gaps), .lst false x1.Kids.length (encL en_Node x1.Kids)]), .p (.lst false x2.length (encL en_Pair x2))] = some (.p (.tup [.lst false r13.1.length (encL en_Move r13.1), .v (.int .i64 r13.2)]), none) := fun H => moves_Moves_call h14
    obtain ⟨r16, h17, h⟩ := Option.bind_eq_some_iff.1 h
    have h18 : ∀ H, callD (callW Try.prog A0) A0 H 13 [.p (.agg [.v (.int .i64 x0.Kind), .v (.string x0.Text), .lst false x0.Gaps.length (encL en_str x0.Gaps), .lst false x0.Kids.length (encL en_Node x0.Kids)]), .p (.agg [.v (.int .i64 x1.Kind), .v (.string x1.Text), .lst false x1.Gaps.length (encL en_str x1.Gaps), .lst false x1.Kids.length (encL en_Node x1.Kids)]), .p (.lst false x2.length (encL en_Pair x2))] = some (.p (.tup [.lst false r16.1.length (encL en_Pair r16.1), .v (.int .i64 r16.2)]), none) := fun H => moves_Stable_call h17
    obtain ⟨r19, h20, h⟩ := Option.bind_eq_some_iff.1 h
    have h21 : ∀ H, callD (callW Try.prog A0) A0 H 21 [.p (.agg [.v (.int .i64 x0.Kind), .v (.string x0.Text), .lst false x0.Gaps.length (encL en_str x0.Gaps), .lst false x0.Kids.length (encL en_Node x0.Kids)]), .p (.agg [.v (.int .i64 x1.Kind), .v (.string x1.Text), .lst false x1.Gaps.length (encL en_str x1.Gaps), .lst false x1.Kids.length (encL en_Node x1.Kids)]), .p (.lst false x2.length (encL en_Pair x2))] = some (.p (.v (.int .i64 r19)), none) := fun H => R24_Check_call h20
    by_cases h22 : r19 = (0 : Int)
    ·rw [if_pos h22] at h
     have h22' : decide (r19 = (0 : Int)) = true := decide_eq_true h22
     by_cases h23 : r13.2 = (0 : Int)
     ·rw [if_pos h23] at h
      have h23' : decide (r13.2 = (0 : Int)) = true := decide_eq_true h23
      by_cases h24 : r16.2 = (0 : Int)
      ·rw [if_pos h24] at h
       have h24' : decide (r16.2 = (0 : Int)) = true := decide_eq_true h24
       by_cases h25 : (w64 ((r13.1.length : Int) + (r16.1.length : Int))) = (x2.length : Int)
       ·rw [if_pos h25] at h
        have h25' : decide ((w64 ((r13.1.length : Int) + (r16.1.length : Int))) = (x2.length : Int)) = true := decide_eq_true h25
        obtain ⟨o, h84, h⟩ := Option.bind_eq_some_iff.1 h
        simp (maxSteps := 10000000) (implicitDefEqProofs := false) (disch := first | assumption | omega | exact rfl) only [bs, rs6, ls6, Nat.reduceAdd, ↓reduceIte, lenD_lst u26, lenD_lst u29, loadD_iagg a46 z46, loadD_iptr a3, loadD_pagg a25 z25, h3, h4, h7, h8, ↓h9', h15, h18, h21, ↓h22', ↓h23', ↓h24', ↓h25']
        refine Wp.ctx (fun x => seqW _ _ _ _ (blockW _ (x))) (L6_0_ok x2 r13.1 r16.1 ((0 : Int), (0 : Int), (0 : Int)) _ o (by kernel_rfl) h84) ?_
        intro e st hq
        cases o with
        | next _ => (first | cases h | (simp at h))
        | jmp n_ s_ =>
         obtain ⟨rfl, rfl, hq⟩ := hq
         obtain ⟨s11_85, s12_85, s13_85⟩ := s_
         unfold F6_0 at hq
         (try simp only [] at h hq)
         obtain ⟨r86, h87, h⟩ := Option.bind_eq_some_iff.1 h
         have h88 : ∀ H, callD (callW Try.prog A0) A0 H 10 [] = some (.p (.v (.bool r86)), none) := fun H => law27_awake_call h87
         obtain rfl := Option.some.inj h
         simp (maxSteps := 10000000) (implicitDefEqProofs := false) (disch := first | assumption | omega | exact rfl) only [bs, rs6, ls6, Nat.reduceAdd, ↓reduceIte, lenD_lst u26, lenD_lst u29, loadD_iagg a46 z46, loadD_iptr a3, loadD_pagg a25 z25, h3, h4, h7, h8, ↓h9', h15, h18, h21, ↓h22', ↓h23', ↓h24', ↓h25', hq, h88]
         refine ⟨by first | exact .inl trivial | exact .inr trivial | simp, ?_⟩
         exact finish_is (ds := [bv r86]) (x := .v (.bool r86)) (y := .v (.bool r86)) (l := []) rfl rfl rfl rfl (by first | rfl | (simp only [wk, wks, wkL]; first | done | rfl))
        | ret r89 =>
         obtain ⟨rfl, hq⟩ := hq
         obtain rfl := Option.some.inj h
         simp (maxSteps := 10000000) (implicitDefEqProofs := false) (disch := first | assumption | omega | exact rfl) only [bs, rs6, ls6, Nat.reduceAdd, ↓reduceIte, lenD_lst u26, lenD_lst u29, loadD_iagg a46 z46, loadD_iptr a3, loadD_pagg a25 z25]
         exact ⟨by first | exact .inl trivial | exact .inr trivial | simp, hq⟩
       ·rw [if_neg h25] at h
        have h25' : decide ((w64 ((r13.1.length : Int) + (r16.1.length : Int))) = (x2.length : Int)) = false := decide_eq_false h25
        obtain rfl := Option.some.inj h
        simp (maxSteps := 10000000) (implicitDefEqProofs := false) (disch := first | assumption | omega | exact rfl) only [bs, rs6, ls6, Nat.reduceAdd, ↓reduceIte, lenD_lst u26, lenD_lst u29, loadD_iagg a46 z46, loadD_iptr a3, loadD_pagg a25 z25, h3, h4, h7, h8, ↓h9', h15, h18, h21, ↓h22', ↓h23', ↓h24', ↓h25']
        refine ⟨by first | exact .inl trivial | exact .inr trivial | simp, ?_⟩
        exact finish_is (ds := [bv false]) (x := .v (.bool false)) (y := .v (.bool false)) (l := []) rfl rfl rfl rfl (by first | rfl | (simp only [wk, wks, wkL]; first | done | rfl))
      ·rw [if_neg h24] at h
       have h24' : decide (r16.2 = (0 : Int)) = false := decide_eq_false h24
       obtain rfl := Option.some.inj h
       simp (maxSteps := 10000000) (implicitDefEqProofs := false) (disch := first | assumption | omega | exact rfl) only [bs, rs6, ls6, Nat.reduceAdd, ↓reduceIte, lenD_lst u26, lenD_lst u29, loadD_iagg a46 z46, loadD_iptr a3, loadD_pagg a25 z25, h3, h4, h7, h8, ↓h9', h15, h18, h21, ↓h22', ↓h23', ↓h24']
       refine ⟨by first | exact .inl trivial | exact .inr trivial | simp, ?_⟩
       exact finish_is (ds := [bv false]) (x := .v (.bool false)) (y := .v (.bool false)) (l := []) rfl rfl rfl rfl (by first | rfl | (simp only [wk, wks, wkL]; first | done | rfl))
     ·rw [if_neg h23] at h
      have h23' : decide (r13.2 = (0 : Int)) = false := decide_eq_false h23
      obtain rfl := Option.some.inj h
      simp (maxSteps := 10000000) (implicitDefEqProofs := false) (disch := first | assumption | omega | exact rfl) only [bs, rs6, ls6, Nat.reduceAdd, ↓reduceIte, lenD_lst u26, lenD_lst u29, loadD_iagg a46 z46, loadD_iptr a3, loadD_pagg a25 z25, h3, h4, h7, h8, ↓h9', h15, h18, h21, ↓h22', ↓h23']
      refine ⟨by first | exact .inl trivial | exact .inr trivial | simp, ?_⟩
      exact finish_is (ds := [bv false]) (x := .v (.bool false)) (y := .v (.bool false)) (l := []) rfl rfl rfl rfl (by first | rfl | (simp only [wk, wks, wkL]; first | done | rfl))
    ·rw [if_neg h22] at h
     have h22' : decide (r19 = (0 : Int)) = false := decide_eq_false h22
     by_cases h90 : r13.2 = (15 : Int)
     ·rw [if_pos h90] at h
      have h90' : decide (r13.2 = (15 : Int)) = true := decide_eq_true h90
      by_cases h91 : r16.2 = (15 : Int)
      ·rw [if_pos h91] at h
       have h91' : decide (r16.2 = (15 : Int)) = true := decide_eq_true h91
       by_cases h92 : (r13.1.length : Int) = (0 : Int)
       ·rw [if_pos h92] at h
        have h92' : decide ((r13.1.length : Int) = (0 : Int)) = true := decide_eq_true h92
        by_cases h93 : (r16.1.length : Int) = (0 : Int)
        ·rw [if_pos h93] at h
         have h93' : decide ((r16.1.length : Int) = (0 : Int)) = true := decide_eq_true h93
         obtain ⟨r94, h95, h⟩ := Option.bind_eq_some_iff.1 h
         have h96 : ∀ H, callD (callW Try.prog A0) A0 H 10 [] = some (.p (.v (.bool r94)), none) := fun H => law27_awake_call h95
         obtain rfl := Option.some.inj h
         simp (maxSteps := 10000000) (implicitDefEqProofs := false) (disch := first | assumption | omega | exact rfl) only [bs, rs6, ls6, Nat.reduceAdd, ↓reduceIte, lenD_lst u26, lenD_lst u29, loadD_iagg a46 z46, loadD_iptr a3, loadD_pagg a25 z25, h3, h4, h7, h8, ↓h9', h15, h18, h21, ↓h22', ↓h90', ↓h91', ↓h92', ↓h93', h96]
         refine ⟨by first | exact .inl trivial | exact .inr trivial | simp, ?_⟩
         exact finish_is (ds := [bv r94]) (x := .v (.bool r94)) (y := .v (.bool r94)) (l := []) rfl rfl rfl rfl (by first | rfl | (simp only [wk, wks, wkL]; first | done | rfl))
        ·rw [if_neg h93] at h
         have h93' : decide ((r16.1.length : Int) = (0 : Int)) = false := decide_eq_false h93
         obtain rfl := Option.some.inj h
         simp (maxSteps := 10000000) (implicitDefEqProofs := false) (disch := first | assumption | omega | exact rfl) only [bs, rs6, ls6, Nat.reduceAdd, ↓reduceIte, lenD_lst u26, lenD_lst u29, loadD_iagg a46 z46, loadD_iptr a3, loadD_pagg a25 z25, h3, h4, h7, h8, ↓h9', h15, h18, h21, ↓h22', ↓h90', ↓h91', ↓h92', ↓h93']
         refine ⟨by first | exact .inl trivial | exact .inr trivial | simp, ?_⟩
         exact finish_is (ds := [bv false]) (x := .v (.bool false)) (y := .v (.bool false)) (l := []) rfl rfl rfl rfl (by first | rfl | (simp only [wk, wks, wkL]; first | done | rfl))
       ·rw [if_neg h92] at h
        have h92' : decide ((r13.1.length : Int) = (0 : Int)) = false := decide_eq_false h92
        obtain rfl := Option.some.inj h
        simp (maxSteps := 10000000) (implicitDefEqProofs := false) (disch := first | assumption | omega | exact rfl) only [bs, rs6, ls6, Nat.reduceAdd, ↓reduceIte, lenD_lst u26, lenD_lst u29, loadD_iagg a46 z46, loadD_iptr a3, loadD_pagg a25 z25, h3, h4, h7, h8, ↓h9', h15, h18, h21, ↓h22', ↓h90', ↓h91', ↓h92']
        refine ⟨by first | exact .inl trivial | exact .inr trivial | simp, ?_⟩
        exact finish_is (ds := [bv false]) (x := .v (.bool false)) (y := .v (.bool false)) (l := []) rfl rfl rfl rfl (by first | rfl | (simp only [wk, wks, wkL]; first | done | rfl))
      ·rw [if_neg h91] at h
       have h91' : decide (r16.2 = (15 : Int)) = false := decide_eq_false h91
       obtain rfl := Option.some.inj h
       simp (maxSteps := 10000000) (implicitDefEqProofs := false) (disch := first | assumption | omega | exact rfl) only [bs, rs6, ls6, Nat.reduceAdd, ↓reduceIte, lenD_lst u26, lenD_lst u29, loadD_iagg a46 z46, loadD_iptr a3, loadD_pagg a25 z25, h3, h4, h7, h8, ↓h9', h15, h18, h21, ↓h22', ↓h90', ↓h91']
       refine ⟨by first | exact .inl trivial | exact .inr trivial | simp, ?_⟩
       exact finish_is (ds := [bv false]) (x := .v (.bool false)) (y := .v (.bool false)) (l := []) rfl rfl rfl rfl (by first | rfl | (simp only [wk, wks, wkL]; first | done | rfl))
     ·rw [if_neg h90] at h
      have h90' : decide (r13.2 = (15 : Int)) = false := decide_eq_false h90
      obtain rfl := Option.some.inj h
      simp (maxSteps := 10000000) (implicitDefEqProofs := false) (disch := first | assumption | omega | exact rfl) only [bs, rs6, ls6, Nat.reduceAdd, ↓reduceIte, lenD_lst u26, lenD_lst u29, loadD_iagg a46 z46, loadD_iptr a3, loadD_pagg a25 z25, h3, h4, h7, h8, ↓h9', h15, h18, h21, ↓h22', ↓h90']
      refine ⟨by first | exact .inl trivial | exact .inr trivial | simp, ?_⟩
      exact finish_is (ds := [bv false]) (x := .v (.bool false)) (y := .v (.bool false)) (l := []) rfl rfl rfl rfl (by first | rfl | (simp only [wk, wks, wkL]; first | done | rfl))
  ·rw [if_neg h8] at h
   replace h8 := Bool.eq_false_iff.2 h8
   obtain ⟨r97, h98, h⟩ := Option.bind_eq_some_iff.1 h
   have h99 : ∀ H, callD (callW Try.prog A0) A0 H 10 [] = some (.p (.v (.bool r97)), none) := fun H => law27_awake_call h98
   obtain rfl := Option.some.inj h
   simp (maxSteps := 10000000) (implicitDefEqProofs := false) (disch := first | assumption | omega | exact rfl) only [bs, rs6, ls6, Nat.reduceAdd, ↓reduceIte, lenD_lst u26, lenD_lst u29, loadD_iagg a46 z46, loadD_iptr a3, loadD_pagg a25 z25, h3, h4, h7, h8, h99]
   refine ⟨by first | exact .inl trivial | exact .inr trivial | simp, ?_⟩
   exact finish_is (ds := [bv r97]) (x := .v (.bool r97)) (y := .v (.bool r97)) (l := []) rfl rfl rfl rfl (by first | rfl | (simp only [wk, wks, wkL]; first | done | rfl))
 ·rw [if_neg h4] at h
  replace h4 := Bool.eq_false_iff.2 h4
  obtain ⟨r100, h101, h⟩ := Option.bind_eq_some_iff.1 h
  have h102 : ∀ H, callD (callW Try.prog A0) A0 H 10 [] = some (.p (.v (.bool r100)), none) := fun H => law27_awake_call h101
  obtain rfl := Option.some.inj h
  simp (maxSteps := 10000000) (implicitDefEqProofs := false) (disch := first | assumption | omega | exact rfl) only [bs, rs6, ls6, Nat.reduceAdd, ↓reduceIte, lenD_lst u26, lenD_lst u29, loadD_iagg a46 z46, loadD_iptr a3, loadD_pagg a25 z25, h3, h4, h102]
  refine ⟨by first | exact .inl trivial | exact .inr trivial | simp, ?_⟩
  exact finish_is (ds := [bv r100]) (x := .v (.bool r100)) (y := .v (.bool r100)) (l := []) rfl rfl rfl rfl (by first | rfl | (simp only [wk, wks, wkL]; first | done | rfl))
end Xn

