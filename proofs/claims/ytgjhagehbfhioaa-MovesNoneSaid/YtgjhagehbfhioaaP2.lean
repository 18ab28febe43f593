/- A part of the proof: P2. No conditions of its own. -/
import Derived.Test.YtgjhagehbfhioaaP1
namespace Xn
open Go Go.Ev Go.Proofs
set_option linter.unusedSimpArgs false
set_option linter.unusedVariables false
set_option linter.defProp false
set_option maxRecDepth 8000
set_option maxHeartbeats 40000000
def ls11 := And.intro @al_59 (And.intro @ap_29_29 (And.intro @ap_38_38 (And.intro @bs_29_1 (And.intro @bs_38_1 (And.intro @bu_44_0_1_2 (And.intro @faI_59_0 (And.intro @faI_59_4 (And.intro @faP_59_0 (And.intro @faP_59_4 (And.intro @idxL_38 (And.intro @idxL_53 (And.intro @idxR_38 (And.intro @sa_5_0_5 (And.intro @varld_1_0 (And.intro @varld_5_0_0 (And.intro @varld_5_0_4 (@varlv_4_0_4)))))))))))))))))
noncomputable def L11_2 : Code := (loopsOf (bodyOf Try.f11)).getD 2 .skip
def g11_2 : List Ghost := [.own 12 3, .weak [10, 35, 99], .keep [10, 11, 12, 16, 35, 36, 37, 99, 100, 101]]
def F11_2 (s10 : (List Row)) (s35 : (List Row)) (s36 : Int) (s37 : Int) (s99 : (List Int)) (s100 : Int) (w0_0 : (List Pair)) (y2 : (List Int)) : (Int × (List Move)) → St := fun (s101, y1) => ⟨[.junk, .junk, .junk, .junk, .junk, .junk, .junk, .junk, .junk, .junk, .p (.lst false s10.length (encL en_Row s10)), .fn (.func 30) [.ptr 0 0], .ref 1 0 y1.length 3, .junk, .junk, .junk, .ref 2 0 y2.length 1, .junk, .junk, .junk, .junk, .junk, .junk, .junk, .junk, .junk, .junk, .junk, .junk, .junk, .junk, .junk, .junk, .junk, .junk, .p (.lst false s35.length (encL en_Row s35)), iv s36, iv s37, .junk, .junk, .junk, .junk, .junk, .junk, .junk, .junk, .junk, .junk, .junk, .junk, .junk, .junk, .junk, .junk, .junk, .junk, .junk, .junk, .junk, .junk, .junk, .junk, .junk, .junk, .junk, .junk, .junk, .junk, .junk, .junk, .junk, .junk, .junk, .junk, .junk, .junk, .junk, .junk, .junk, .junk, .junk, .junk, .junk, .junk, .junk, .junk, .junk, .junk, .junk, .junk, .junk, .junk, .junk, .junk, .junk, .junk, .junk, .junk, .junk, .p (.lst false s99.length (encL en_i64 s99)), iv s100, iv s101, .junk, .junk, .junk, .junk, .junk, .junk, .junk, .junk, .junk, .junk, .junk, .junk, .junk, .junk, .junk, .junk, .junk, .junk, .junk, .junk, .junk, .junk], [.var [.p (.lst false w0_0.length (encL en_Pair w0_0))], .arr (encL en_Move y1), .arr (encL en_i64 y2)], 0⟩
theorem L11_2_ok (s10 : (List Row)) (s35 : (List Row)) (s36 : Int) (s37 : Int) (s99 : (List Int)) (s100 : Int) (w0_0 : (List Pair)) (y2 : (List Int)) : ∀ s st o, ghostsD g11_2 st = some (F11_2 s10 s35 s36 s37 s99 s100 w0_0 y2 s) → iter (moves_Moves_L2 s10 s35 s36 s37 s99 s100 w0_0 y2) s = some o →
    Wp (evW Try.prog A0 11 (.loop L11_2) st) (OutQ (F11_2 s10 s35 s36 s37 s99 s100 w0_0 y2) g11_2 (fun n s st => n = 4 ∧ ghostsD [.keep [10, 11, 12, 16, 35, 36, 37, 99, 100, 101]] st = some (F11_2 s10 s35 s36 s37 s99 s100 w0_0 y2 s)) (fun r st => finishD Try.prog A0 11 Try.f11 st = some (.p (.tup [.lst false r.1.length (encL en_Move r.1), .v (.int .i64 r.2)]), [])) o) := by
 refine Wp.iter ?_
 intro s st o hg h
 obtain ⟨s101, y1⟩ := s
 unfold moves_Moves_L2 at h
 unfold g11_2 F11_2 at hg ⊢
 (try simp only [] at h hg)
 unfold L11_2 bodyOf Try.f11; simp only [Option.getD_some, loopsOf, List.append_nil, List.nil_append, List.cons_append, List.getD_cons_zero, List.getD_cons_succ]
 by_cases h167 : s101 < s100
 ·rw [if_pos h167] at h
  have h167' : decide (s101 < s100) = true := decide_eq_true h167
  obtain ⟨v168, h169, h⟩ := Option.bind_eq_some_iff.1 h
  obtain ⟨h169a, h169b, _⟩ := rd_some h169
  have h170 := ce_3_x h169
  obtain ⟨v171, h172, h⟩ := Option.bind_eq_some_iff.1 h
  obtain ⟨h172a, h172b, _⟩ := rd_some h172
  have h173 := ce_3_x h172
  have h174 := ce_3_x h172
  obtain ⟨r175, h176, h⟩ := Option.bind_eq_some_iff.1 h
  have h177 : callD (callW Try.prog A0) A0 [.var [.p (.lst false w0_0.length (encL en_Pair w0_0))], .arr (encL en_Move y1), .arr (encL en_i64 y2)] 30 [iv v171, .ptr 0 0] = some (.p (.v (.int .i64 r175)), none) := callD_ro (ds1 := [iv v171, .ptr 0 0]) (ds' := [iv v171, .ptr 0 0]) (i := 0) (ids := []) (os := [.ro [.p (.lst false w0_0.length (encL en_Pair w0_0))]]) rfl rfl (by first | rfl | (simp only [giveD, wk, wks, wkL]; first | done | rfl)) (by kernel_rfl) (by kernel_rfl) (by kernel_rfl) (by kernel_rfl) (moves_Moves_c1_callc h176)
  by_cases hw_ : (y1.length + 1) * 24 ≤ 140737488355328
  case neg => rw [if_neg hw_] at h; cases h
  rw [if_pos hw_] at h
  have h179 := hw_
  have h178 : ∀ (H : List Ob) (id : Nat), apOb H id 0 y1.length 1 3 3 24 [.v (.int .i64 (2 : Int)), .v (.int .i64 v171), .v (.int .i64 r175)] (some (.arr (encL en_Move y1))) = some (.ref H.length 0 (y1 ++ [(Move.mk (2 : Int) v171 r175)]).length 3, H.set id .dead ++ [.arr (encL en_Move (y1 ++ [(Move.mk (2 : Int) v171 r175)]))]) := fun H id => ap_enc (y := [(Move.mk (2 : Int) v171 r175)]) en_Move_len (by first | rfl | omega) rfl (by first | (simp only [encL_cons, encL_nil, en_Move_eq, List.cons_append, List.nil_append]; done) | (simp only [encL_cons, encL_nil, en_Move_eq, List.cons_append, List.nil_append]; rfl) | rfl) (by assumption)
  obtain rfl := Option.some.inj h
  simp (maxSteps := 10000000) (implicitDefEqProofs := false) (disch := first | assumption | omega | exact rfl) only [bs, rs11, ls11, Nat.reduceAdd, ↓reduceIte, allP, lenD_lst u38, lenD_lst u53, loadD_iagg a59 z59, loadD_iptr a3, loadD_iptr a38, loadD_pagg a25 z25, loadD_ptr a26, loadD_ptr a3, loadD_ptr a38, mkFn, ops_makeFunc_, storeD_agg z59, wks_nil_, hg, ↓h167', h170, h173, h174, h177, h178]
  exact ⟨rfl, by kernel_rfl⟩
 ·rw [if_neg h167] at h
  have h167' : decide (s101 < s100) = false := decide_eq_false h167
  obtain rfl := Option.some.inj h
  simp (maxSteps := 10000000) (implicitDefEqProofs := false) (disch := first | assumption | omega | exact rfl) only [bs, rs11, ls11, Nat.reduceAdd, ↓reduceIte, allP, lenD_lst u38, lenD_lst u53, loadD_iagg a59 z59, loadD_iptr a3, loadD_iptr a38, loadD_pagg a25 z25, loadD_ptr a26, loadD_ptr a3, loadD_ptr a38, mkFn, ops_makeFunc_, storeD_agg z59, wks_nil_, hg, ↓h167']
  exact ⟨rfl, rfl, by kernel_rfl⟩
noncomputable def L11_1 : Code := (loopsOf (bodyOf Try.f11)).getD 1 .skip
def g11_1 : List Ghost := [.own 16 1, .own 17 1, .weak [10, 35, 72], .keep [10, 11, 12, 15, 16, 17, 35, 36, 37, 72, 73, 74]]
def F11_1 (s10 : (List Row)) (s15 : Int) (s35 : (List Row)) (s36 : Int) (s37 : Int) (s72 : (List Int)) (s73 : Int) (w0_0 : (List Pair)) (y1 : (List Move)) : (Int × (List Int) × (List Int)) → St := fun (s74, y2, y3) => ⟨[.junk, .junk, .junk, .junk, .junk, .junk, .junk, .junk, .junk, .junk, .p (.lst false s10.length (encL en_Row s10)), .fn (.func 30) [.ptr 0 0], .ref 1 0 y1.length 3, .junk, .junk, iv s15, .ref 2 0 y2.length 1, .ref 3 0 y3.length 1, .junk, .junk, .junk, .junk, .junk, .junk, .junk, .junk, .junk, .junk, .junk, .junk, .junk, .junk, .junk, .junk, .junk, .p (.lst false s35.length (encL en_Row s35)), iv s36, iv s37, .junk, .junk, .junk, .junk, .junk, .junk, .junk, .junk, .junk, .junk, .junk, .junk, .junk, .junk, .junk, .junk, .junk, .junk, .junk, .junk, .junk, .junk, .junk, .junk, .junk, .junk, .junk, .junk, .junk, .junk, .junk, .junk, .junk, .junk, .p (.lst false s72.length (encL en_i64 s72)), iv s73, iv s74, .junk, .junk, .junk, .junk, .junk, .junk, .junk, .junk, .junk, .junk, .junk, .junk, .junk, .junk, .junk, .junk, .junk, .junk, .junk, .junk, .junk, .junk, .junk, .junk, .junk, .junk, .junk, .junk, .junk, .junk, .junk, .junk, .junk, .junk, .junk, .junk, .junk, .junk, .junk, .junk, .junk, .junk, .junk, .junk, .junk, .junk, .junk, .junk, .junk], [.var [.p (.lst false w0_0.length (encL en_Pair w0_0))], .arr (encL en_Move y1), .arr (encL en_i64 y2), .arr (encL en_i64 y3)], 0⟩
theorem L11_1_ok (s10 : (List Row)) (s15 : Int) (s35 : (List Row)) (s36 : Int) (s37 : Int) (s72 : (List Int)) (s73 : Int) (w0_0 : (List Pair)) (y1 : (List Move)) : ∀ s st o, ghostsD g11_1 st = some (F11_1 s10 s15 s35 s36 s37 s72 s73 w0_0 y1 s) → iter (moves_Moves_L1 s10 s15 s35 s36 s37 s72 s73 w0_0 y1) s = some o →
    Wp (evW Try.prog A0 11 (.loop L11_1) st) (OutQ (F11_1 s10 s15 s35 s36 s37 s72 s73 w0_0 y1) g11_1 (fun n s st => n = 2 ∧ ghostsD [.keep [10, 11, 12, 15, 16, 17, 35, 36, 37, 72, 73, 74]] st = some (F11_1 s10 s15 s35 s36 s37 s72 s73 w0_0 y1 s)) (fun r st => finishD Try.prog A0 11 Try.f11 st = some (.p (.tup [.lst false r.1.length (encL en_Move r.1), .v (.int .i64 r.2)]), [])) o) := by
 refine Wp.iter ?_
 intro s st o hg h
 obtain ⟨s74, y2, y3⟩ := s
 unfold moves_Moves_L1 at h
 unfold g11_1 F11_1 at hg ⊢
 (try simp only [] at h hg)
 unfold L11_1 bodyOf Try.f11; simp only [Option.getD_some, loopsOf, List.append_nil, List.nil_append, List.cons_append, List.getD_cons_zero, List.getD_cons_succ]
 by_cases h144 : s74 < s73
 ·rw [if_pos h144] at h
  have h144' : decide (s74 < s73) = true := decide_eq_true h144
  obtain ⟨v145, h146, h⟩ := Option.bind_eq_some_iff.1 h
  obtain ⟨h146a, h146b, _⟩ := rd_some h146
  have h147 := ce_3_x h146
  obtain ⟨v148, h149, h⟩ := Option.bind_eq_some_iff.1 h
  obtain ⟨h149a, h149b, _⟩ := rd_some h149
  have h150 := ce_59__4 h149
  obtain ⟨r151, h152, h⟩ := Option.bind_eq_some_iff.1 h
  have h153 : callD (callW Try.prog A0) A0 [.var [.p (.lst false w0_0.length (encL en_Pair w0_0))], .arr (encL en_Move y1), .arr (encL en_i64 y2), .arr (encL en_i64 y3)] 30 [iv v145, .ptr 0 0] = some (.p (.v (.int .i64 r151)), none) := callD_ro (ds1 := [iv v145, .ptr 0 0]) (ds' := [iv v145, .ptr 0 0]) (i := 0) (ids := []) (os := [.ro [.p (.lst false w0_0.length (encL en_Pair w0_0))]]) rfl rfl (by first | rfl | (simp only [giveD, wk, wks, wkL]; first | done | rfl)) (by kernel_rfl) (by kernel_rfl) (by kernel_rfl) (by kernel_rfl) (moves_Moves_c1_callc h152)
  obtain ⟨r154, h155, h⟩ := Option.bind_eq_some_iff.1 h
  have h156 : ∀ H, callD (callW Try.prog A0) A0 H 32 [.p (.lst false v148.Kids.length (encL en_i64 v148.Kids)), iv r151] = some (.p (.v (.int .i64 r154)), none) := fun H => slices_Index_int_int_call h155
  by_cases h157 : (0 : Int) ≤ r154
  ·rw [if_pos h157] at h
   have h157' : decide ((0 : Int) ≤ r154) = true := decide_eq_true h157
   by_cases hw_ : (y2.length + 1) * 8 ≤ 140737488355328
   case neg => rw [if_neg hw_] at h; cases h
   rw [if_pos hw_] at h
   have h159 := hw_
   have h158 : ∀ (H : List Ob) (id : Nat), apOb H id 0 y2.length 1 1 1 8 [.v (.int .i64 v145)] (some (.arr (encL en_i64 y2))) = some (.ref H.length 0 (y2 ++ [v145]).length 1, H.set id .dead ++ [.arr (encL en_i64 (y2 ++ [v145]))]) := fun H id => ap_enc (y := [v145]) en_i64_len (by first | rfl | omega) rfl (by first | (simp only [encL_cons, encL_nil, en_i64_eq, List.cons_append, List.nil_append]; done) | (simp only [encL_cons, encL_nil, en_i64_eq, List.cons_append, List.nil_append]; rfl) | rfl) (by assumption)
   by_cases hw_ : (y3.length + 1) * 8 ≤ 140737488355328
   case neg => rw [if_neg hw_] at h; cases h
   rw [if_pos hw_] at h
   have h161 := hw_
   have h160 : ∀ (H : List Ob) (id : Nat), apOb H id 0 y3.length 1 1 1 8 [.v (.int .i64 r154)] (some (.arr (encL en_i64 y3))) = some (.ref H.length 0 (y3 ++ [r154]).length 1, H.set id .dead ++ [.arr (encL en_i64 (y3 ++ [r154]))]) := fun H id => ap_enc (y := [r154]) en_i64_len (by first | rfl | omega) rfl (by first | (simp only [encL_cons, encL_nil, en_i64_eq, List.cons_append, List.nil_append]; done) | (simp only [encL_cons, encL_nil, en_i64_eq, List.cons_append, List.nil_append]; rfl) | rfl) (by assumption)
   obtain rfl := Option.some.inj h
   simp (maxSteps := 10000000) (implicitDefEqProofs := false) (disch := first | assumption | omega | exact rfl) only [bs, rs11, ls11, Nat.reduceAdd, ↓reduceIte, allP, lenD_lst u38, lenD_lst u53, loadD_iagg a59 z59, loadD_iptr a3, loadD_iptr a38, loadD_pagg a25 z25, loadD_ptr a26, loadD_ptr a3, loadD_ptr a38, mkFn, ops_makeFunc_, storeD_agg z59, wks_nil_, hg, ↓h144', h147, h150, h153, h156, ↓h157', h158, h160]
   exact ⟨rfl, by kernel_rfl⟩
  ·rw [if_neg h157] at h
   have h157' : decide ((0 : Int) ≤ r154) = false := decide_eq_false h157
   obtain rfl := Option.some.inj h
   simp (maxSteps := 10000000) (implicitDefEqProofs := false) (disch := first | assumption | omega | exact rfl) only [bs, rs11, ls11, Nat.reduceAdd, ↓reduceIte, allP, lenD_lst u38, lenD_lst u53, loadD_iagg a59 z59, loadD_iptr a3, loadD_iptr a38, loadD_pagg a25 z25, loadD_ptr a26, loadD_ptr a3, loadD_ptr a38, mkFn, ops_makeFunc_, storeD_agg z59, wks_nil_, hg, ↓h144', h147, h150, h153, h156, ↓h157']
   exact ⟨rfl, by kernel_rfl⟩
 ·rw [if_neg h144] at h
  have h144' : decide (s74 < s73) = false := decide_eq_false h144
  obtain rfl := Option.some.inj h
  simp (maxSteps := 10000000) (implicitDefEqProofs := false) (disch := first | assumption | omega | exact rfl) only [bs, rs11, ls11, Nat.reduceAdd, ↓reduceIte, allP, lenD_lst u38, lenD_lst u53, loadD_iagg a59 z59, loadD_iptr a3, loadD_iptr a38, loadD_pagg a25 z25, loadD_ptr a26, loadD_ptr a3, loadD_ptr a38, mkFn, ops_makeFunc_, storeD_agg z59, wks_nil_, hg, ↓h144']
  exact ⟨rfl, rfl, by kernel_rfl⟩
noncomputable def L11_0 : Code := (loopsOf (bodyOf Try.f11)).getD 0 .skip
def g11_0 : List Ghost := [.own 12 3, .weak [10, 35], .keep [10, 11, 12, 35, 36, 37]]
def F11_0 (s10 : (List Row)) (s35 : (List Row)) (s36 : Int) (w0_0 : (List Pair)) : (Int × (List Move)) → St := fun (s37, y1) => ⟨[.junk, .junk, .junk, .junk, .junk, .junk, .junk, .junk, .junk, .junk, .p (.lst false s10.length (encL en_Row s10)), .fn (.func 30) [.ptr 0 0], .ref 1 0 y1.length 3, .junk, .junk, .junk, .junk, .junk, .junk, .junk, .junk, .junk, .junk, .junk, .junk, .junk, .junk, .junk, .junk, .junk, .junk, .junk, .junk, .junk, .junk, .p (.lst false s35.length (encL en_Row s35)), iv s36, iv s37, .junk, .junk, .junk, .junk, .junk, .junk, .junk, .junk, .junk, .junk, .junk, .junk, .junk, .junk, .junk, .junk, .junk, .junk, .junk, .junk, .junk, .junk, .junk, .junk, .junk, .junk, .junk, .junk, .junk, .junk, .junk, .junk, .junk, .junk, .junk, .junk, .junk, .junk, .junk, .junk, .junk, .junk, .junk, .junk, .junk, .junk, .junk, .junk, .junk, .junk, .junk, .junk, .junk, .junk, .junk, .junk, .junk, .junk, .junk, .junk, .junk, .junk, .junk, .junk, .junk, .junk, .junk, .junk, .junk, .junk, .junk, .junk, .junk, .junk, .junk, .junk, .junk, .junk, .junk, .junk, .junk, .junk, .junk, .junk, .junk, .junk], [.var [.p (.lst false w0_0.length (encL en_Pair w0_0))], .arr (encL en_Move y1)], 0⟩
theorem L11_0_ok (s10 : (List Row)) (s35 : (List Row)) (s36 : Int) (w0_0 : (List Pair)) : ∀ s st o, ghostsD g11_0 st = some (F11_0 s10 s35 s36 w0_0 s) → iter (moves_Moves_L0 s10 s35 s36 w0_0) s = some o →
    Wp (evW Try.prog A0 11 (.loop L11_0) st) (OutQ (F11_0 s10 s35 s36 w0_0) g11_0 (fun n s st => n = 0 ∧ ghostsD [.keep [10, 11, 12, 35, 36, 37]] st = some (F11_0 s10 s35 s36 w0_0 s)) (fun r st => finishD Try.prog A0 11 Try.f11 st = some (.p (.tup [.lst false r.1.length (encL en_Move r.1), .v (.int .i64 r.2)]), [])) o) := by
 refine Wp.iter ?_
 intro s st o hg h
 obtain ⟨s37, y1⟩ := s
 unfold moves_Moves_L0 at h
 unfold g11_0 F11_0 at hg ⊢
 (try simp only [] at h hg)
 unfold L11_0 bodyOf Try.f11; simp only [Option.getD_some, loopsOf, List.append_nil, List.nil_append, List.cons_append, List.getD_cons_zero, List.getD_cons_succ]
 by_cases h11 : s37 < s36
 ·rw [if_pos h11] at h
  have h11' : decide (s37 < s36) = true := decide_eq_true h11
  obtain ⟨v12, h13, h⟩ := Option.bind_eq_some_iff.1 h
  obtain ⟨h13a, h13b, _⟩ := rd_some h13
  have h14 := lk_frz_59 h13
  obtain ⟨r15, h16, h⟩ := Option.bind_eq_some_iff.1 h
  have h17 : callD (callW Try.prog A0) A0 [.var [.p (.lst false w0_0.length (encL en_Pair w0_0))], .arr (encL en_Move y1), .var [iv v12.Parent, iv v12.Kind, .p (.v (.string v12.Text)), .p (.lst false v12.Gaps.length (encL en_str v12.Gaps)), .p (.lst false v12.Kids.length (encL en_i64 v12.Kids))]] 30 [iv s37, .ptr 0 0] = some (.p (.v (.int .i64 r15)), none) := callD_ro (ds1 := [iv s37, .ptr 0 0]) (ds' := [iv s37, .ptr 0 0]) (i := 0) (ids := []) (os := [.ro [.p (.lst false w0_0.length (encL en_Pair w0_0))]]) rfl rfl (by first | rfl | (simp only [giveD, wk, wks, wkL]; first | done | rfl)) (by kernel_rfl) (by kernel_rfl) (by kernel_rfl) (by kernel_rfl) (moves_Moves_c1_callc h16)
  by_cases h18 : r15 < (0 : Int)
  ·rw [if_pos h18] at h
   have h18' : decide (r15 < (0 : Int)) = true := decide_eq_true h18
   simp (maxSteps := 10000000) (implicitDefEqProofs := false) (disch := first | assumption | omega | exact rfl) only [bs, rs11, ls11, Nat.reduceAdd, ↓reduceIte, allP, lenD_lst u38, lenD_lst u53, loadD_iagg a59 z59, loadD_iptr a3, loadD_iptr a38, loadD_pagg a25 z25, loadD_ptr a26, loadD_ptr a3, loadD_ptr a38, mkFn, ops_makeFunc_, storeD_agg z59, wks_nil_, hg, ↓h11', h14, h17, ↓h18']
   refine Wp.gh (fun x => regW _ _ _ _ _ x) ⟨[.junk, .junk, .junk, .junk, .junk, .junk, .junk, .junk, .junk, .junk, .p (.lst false s10.length (encL en_Row s10)), .fn (.func 30) [.ptr 0 0], .ref 1 0 y1.length 3, .junk, .junk, .junk, .junk, .junk, .junk, .junk, .junk, .junk, .junk, .junk, .junk, .junk, .junk, .junk, .junk, .junk, .junk, .junk, .junk, .junk, .junk, .p (.lst false s35.length (encL en_Row s35)), iv s36, iv s37, .junk, .junk, .junk, .junk, .junk, .junk, .junk, .junk, .junk, .junk, .junk, .junk, .junk, .junk, .junk, .junk, .junk, .junk, .junk, .junk, .junk, .junk, .junk, .junk, .junk, .junk, .junk, .junk, .junk, .junk, .junk, .junk, .junk, .junk, .junk, .junk, .junk, .junk, .junk, .junk, .junk, .junk, .junk, .junk, .junk, .junk, .junk, .junk, .junk, .junk, .junk, .junk, .junk, .junk, .junk, .junk, .junk, .junk, .junk, .junk, .junk, .junk, .junk, .junk, .junk, .junk, .junk, .junk, .junk, .junk, .junk, .junk, .junk, .junk, .junk, .junk, .junk, .junk, .junk, .junk, .junk, .junk, .junk, .junk, .junk, .junk], [.var [.p (.lst false w0_0.length (encL en_Pair w0_0))], .arr (encL en_Move y1)], 0⟩ (by kernel_rfl) ?_
   obtain rfl := Option.some.inj h
   simp (maxSteps := 10000000) (implicitDefEqProofs := false) (disch := first | assumption | omega | exact rfl) only [bs, rs11, ls11, Nat.reduceAdd, ↓reduceIte, allP, lenD_lst u38, lenD_lst u53, loadD_iagg a59 z59, loadD_iptr a3, loadD_iptr a38, loadD_pagg a25 z25, loadD_ptr a26, loadD_ptr a3, loadD_ptr a38, mkFn, ops_makeFunc_, storeD_agg z59, wks_nil_, hg, ↓h11', h14, h17, ↓h18']
   exact ⟨rfl, by kernel_rfl⟩
  ·rw [if_neg h18] at h
   have h18' : decide (r15 < (0 : Int)) = false := decide_eq_false h18
   by_cases h19 : (0 : Int) < s37
   ·rw [if_pos h19] at h
    have h19' : decide ((0 : Int) < s37) = true := decide_eq_true h19
    by_cases h20 : (0 : Int) < r15
    ·rw [if_pos h20] at h
     have h20' : decide ((0 : Int) < r15) = true := decide_eq_true h20
     obtain ⟨r21, h22, h⟩ := Option.bind_eq_some_iff.1 h
     have h23 : callD (callW Try.prog A0) A0 [.var [.p (.lst false w0_0.length (encL en_Pair w0_0))], .arr (encL en_Move y1), .var [iv v12.Parent, iv v12.Kind, .p (.v (.string v12.Text)), .p (.lst false v12.Gaps.length (encL en_str v12.Gaps)), .p (.lst false v12.Kids.length (encL en_i64 v12.Kids))]] 30 [iv v12.Parent, .ptr 0 0] = some (.p (.v (.int .i64 r21)), none) := callD_ro (ds1 := [iv v12.Parent, .ptr 0 0]) (ds' := [iv v12.Parent, .ptr 0 0]) (i := 0) (ids := []) (os := [.ro [.p (.lst false w0_0.length (encL en_Pair w0_0))]]) rfl rfl (by first | rfl | (simp only [giveD, wk, wks, wkL]; first | done | rfl)) (by kernel_rfl) (by kernel_rfl) (by kernel_rfl) (by kernel_rfl) (moves_Moves_c1_callc h22)
     obtain ⟨v24, h25, h⟩ := Option.bind_eq_some_iff.1 h
     obtain ⟨h25a, h25b, _⟩ := rd_some h25
     have h26 := ce_59__0 h25
     by_cases h27 : r21 = v24.Parent
     ·rw [if_pos h27] at h
      have h27' : decide (r21 = v24.Parent) = true := decide_eq_true h27
      obtain ⟨o, h46, h⟩ := Option.bind_eq_some_iff.1 h
      simp (maxSteps := 10000000) (implicitDefEqProofs := false) (disch := first | assumption | omega | exact rfl) only [bs, rs11, ls11, Nat.reduceAdd, ↓reduceIte, allP, lenD_lst u38, lenD_lst u53, loadD_iagg a59 z59, loadD_iptr a3, loadD_iptr a38, loadD_pagg a25 z25, loadD_ptr a26, loadD_ptr a3, loadD_ptr a38, mkFn, ops_makeFunc_, storeD_agg z59, wks_nil_, hg, ↓h11', h14, h17, ↓h18', ↓h19', ↓h20', h23, h26, ↓h27']
      refine Wp.ctx (fun x => seqW _ _ _ _ (blockW _ (seqW _ _ _ _ (blockW _ (x))))) (L11_1_ok s10 r15 s35 s36 s37 v12.Kids (v12.Kids.length : Int) w0_0 y1 ((0 : Int), ([] : List Int), ([] : List Int)) _ o (by kernel_rfl) h46) ?_
      intro e st hq
      cases o with
      | next _ => (first | cases h | (simp at h))
      | jmp n_ s_ =>
       obtain ⟨rfl, rfl, hq⟩ := hq
       obtain ⟨s74_47, y2_47, y3_47⟩ := s_
       unfold F11_1 at hq
       (try simp only [] at h hq)
       obtain ⟨r48, h49, h⟩ := Option.bind_eq_some_iff.1 h
       have h50 : callD (callW Try.prog A0) A0 [.var [.p (.lst false w0_0.length (encL en_Pair w0_0))], .arr (encL en_Move y1), .arr (encL en_i64 y2_47), .arr (encL en_i64 y3_47)] 18 [.ref 3 0 y3_47.length 1] = some (.p (.lst false r48.length (encL en_i64 r48)), some [.var [.p (.lst false w0_0.length (encL en_Pair w0_0))], .arr (encL en_Move y1), .arr (encL en_i64 y2_47), .frz (encL en_i64 y3_47)]) := (callD_give (args := [.lst false y3_47.length (encL en_i64 y3_47)]) (ids := [3]) rfl rfl (by rw [giveD_arr (x := y3_47) en_i64_len rfl (by first | rfl | omega)]; rw [giveD_nil]; first | rfl | (simp only [wk, wks, wkL]; rfl)) (moves_Least_callp h49)).trans rfl
       obtain ⟨o, h64, h⟩ := Option.bind_eq_some_iff.1 h
       simp (maxSteps := 10000000) (implicitDefEqProofs := false) (disch := first | assumption | omega | exact rfl) only [bs, rs11, ls11, Nat.reduceAdd, ↓reduceIte, allP, lenD_lst u38, lenD_lst u53, loadD_iagg a59 z59, loadD_iptr a3, loadD_iptr a38, loadD_pagg a25 z25, loadD_ptr a26, loadD_ptr a3, loadD_ptr a38, mkFn, ops_makeFunc_, storeD_agg z59, wks_nil_, hg, ↓h11', h14, h17, ↓h18', ↓h19', ↓h20', h23, h26, ↓h27', hq, h50]
       refine Wp.ctx (fun x => seqW _ _ _ _ (blockW _ (blockW _ (x)))) (L11_2_ok s10 s35 s36 s37 r48 (r48.length : Int) w0_0 y2_47 ((0 : Int), y1) _ o (by kernel_rfl) h64) ?_
       intro e st hq
       cases o with
       | next _ => (first | cases h | (simp at h))
       | jmp n_ s_ =>
        obtain ⟨rfl, rfl, hq⟩ := hq
        obtain ⟨s101_65, y1_65⟩ := s_
        unfold F11_2 at hq
        (try simp only [] at h hq)
        obtain rfl := Option.some.inj h
        simp (maxSteps := 10000000) (implicitDefEqProofs := false) (disch := first | assumption | omega | exact rfl) only [bs, rs11, ls11, Nat.reduceAdd, ↓reduceIte, allP, lenD_lst u38, lenD_lst u53, loadD_iagg a59 z59, loadD_iptr a3, loadD_iptr a38, loadD_pagg a25 z25, loadD_ptr a26, loadD_ptr a3, loadD_ptr a38, mkFn, ops_makeFunc_, storeD_agg z59, wks_nil_, hg, ↓h11', h14, h17, ↓h18', ↓h19', ↓h20', h23, h26, ↓h27', hq, h50, hq]
        exact ⟨rfl, by kernel_rfl⟩
       | ret _ => (first | cases h | (simp at h))
      | ret _ => (first | cases h | (simp at h))
     ·rw [if_neg h27] at h
      have h27' : decide (r21 = v24.Parent) = false := decide_eq_false h27
      by_cases hw_ : (y1.length + 1) * 24 ≤ 140737488355328
      case neg => rw [if_neg hw_] at h; cases h
      rw [if_pos hw_] at h
      have h67 := hw_
      have h66 : ∀ (H : List Ob) (id : Nat), apOb H id 0 y1.length 1 3 3 24 [.v (.int .i64 (1 : Int)), .v (.int .i64 s37), .v (.int .i64 r15)] (some (.arr (encL en_Move y1))) = some (.ref H.length 0 (y1 ++ [(Move.mk (1 : Int) s37 r15)]).length 3, H.set id .dead ++ [.arr (encL en_Move (y1 ++ [(Move.mk (1 : Int) s37 r15)]))]) := fun H id => ap_enc (y := [(Move.mk (1 : Int) s37 r15)]) en_Move_len (by first | rfl | omega) rfl (by first | (simp only [encL_cons, encL_nil, en_Move_eq, List.cons_append, List.nil_append]; done) | (simp only [encL_cons, encL_nil, en_Move_eq, List.cons_append, List.nil_append]; rfl) | rfl) (by assumption)
      obtain ⟨o, h86, h⟩ := Option.bind_eq_some_iff.1 h
      simp (maxSteps := 10000000) (implicitDefEqProofs := false) (disch := first | assumption | omega | exact rfl) only [bs, rs11, ls11, Nat.reduceAdd, ↓reduceIte, allP, lenD_lst u38, lenD_lst u53, loadD_iagg a59 z59, loadD_iptr a3, loadD_iptr a38, loadD_pagg a25 z25, loadD_ptr a26, loadD_ptr a3, loadD_ptr a38, mkFn, ops_makeFunc_, storeD_agg z59, wks_nil_, hg, ↓h11', h14, h17, ↓h18', ↓h19', ↓h20', h23, h26, ↓h27', h66]
      refine Wp.ctx (fun x => seqW _ _ _ _ (blockW _ (seqW _ _ _ _ (blockW _ (x))))) (L11_1_ok s10 r15 s35 s36 s37 v12.Kids (v12.Kids.length : Int) w0_0 (y1 ++ [(Move.mk (1 : Int) s37 r15)]) ((0 : Int), ([] : List Int), ([] : List Int)) _ o (by kernel_rfl) h86) ?_
      intro e st hq
      cases o with
      | next _ => (first | cases h | (simp at h))
      | jmp n_ s_ =>
       obtain ⟨rfl, rfl, hq⟩ := hq
       obtain ⟨s74_87, y2_87, y3_87⟩ := s_
       unfold F11_1 at hq
       (try simp only [] at h hq)
       obtain ⟨r88, h89, h⟩ := Option.bind_eq_some_iff.1 h
       have h90 : callD (callW Try.prog A0) A0 [.var [.p (.lst false w0_0.length (encL en_Pair w0_0))], .arr (encL en_Move (y1 ++ [(Move.mk (1 : Int) s37 r15)])), .arr (encL en_i64 y2_87), .arr (encL en_i64 y3_87)] 18 [.ref 3 0 y3_87.length 1] = some (.p (.lst false r88.length (encL en_i64 r88)), some [.var [.p (.lst false w0_0.length (encL en_Pair w0_0))], .arr (encL en_Move (y1 ++ [(Move.mk (1 : Int) s37 r15)])), .arr (encL en_i64 y2_87), .frz (encL en_i64 y3_87)]) := (callD_give (args := [.lst false y3_87.length (encL en_i64 y3_87)]) (ids := [3]) rfl rfl (by rw [giveD_arr (x := y3_87) en_i64_len rfl (by first | rfl | omega)]; rw [giveD_nil]; first | rfl | (simp only [wk, wks, wkL]; rfl)) (moves_Least_callp h89)).trans rfl
       obtain ⟨o, h104, h⟩ := Option.bind_eq_some_iff.1 h
       simp (maxSteps := 10000000) (implicitDefEqProofs := false) (disch := first | assumption | omega | exact rfl) only [bs, rs11, ls11, Nat.reduceAdd, ↓reduceIte, allP, lenD_lst u38, lenD_lst u53, loadD_iagg a59 z59, loadD_iptr a3, loadD_iptr a38, loadD_pagg a25 z25, loadD_ptr a26, loadD_ptr a3, loadD_ptr a38, mkFn, ops_makeFunc_, storeD_agg z59, wks_nil_, hg, ↓h11', h14, h17, ↓h18', ↓h19', ↓h20', h23, h26, ↓h27', h66, hq, h90]
       refine Wp.ctx (fun x => seqW _ _ _ _ (blockW _ (blockW _ (x)))) (L11_2_ok s10 s35 s36 s37 r88 (r88.length : Int) w0_0 y2_87 ((0 : Int), (y1 ++ [(Move.mk (1 : Int) s37 r15)])) _ o (by kernel_rfl) h104) ?_
       intro e st hq
       cases o with
       | next _ => (first | cases h | (simp at h))
       | jmp n_ s_ =>
        obtain ⟨rfl, rfl, hq⟩ := hq
        obtain ⟨s101_105, y1_105⟩ := s_
        unfold F11_2 at hq
        (try simp only [] at h hq)
        obtain rfl := Option.some.inj h
        simp (maxSteps := 10000000) (implicitDefEqProofs := false) (disch := first | assumption | omega | exact rfl) only [bs, rs11, ls11, Nat.reduceAdd, ↓reduceIte, allP, lenD_lst u38, lenD_lst u53, loadD_iagg a59 z59, loadD_iptr a3, loadD_iptr a38, loadD_pagg a25 z25, loadD_ptr a26, loadD_ptr a3, loadD_ptr a38, mkFn, ops_makeFunc_, storeD_agg z59, wks_nil_, hg, ↓h11', h14, h17, ↓h18', ↓h19', ↓h20', h23, h26, ↓h27', h66, hq, h90, hq]
        exact ⟨rfl, by kernel_rfl⟩
       | ret _ => (first | cases h | (simp at h))
      | ret _ => (first | cases h | (simp at h))
    ·rw [if_neg h20] at h
     have h20' : decide ((0 : Int) < r15) = false := decide_eq_false h20
     obtain ⟨o, h124, h⟩ := Option.bind_eq_some_iff.1 h
     simp (maxSteps := 10000000) (implicitDefEqProofs := false) (disch := first | assumption | omega | exact rfl) only [bs, rs11, ls11, Nat.reduceAdd, ↓reduceIte, allP, lenD_lst u38, lenD_lst u53, loadD_iagg a59 z59, loadD_iptr a3, loadD_iptr a38, loadD_pagg a25 z25, loadD_ptr a26, loadD_ptr a3, loadD_ptr a38, mkFn, ops_makeFunc_, storeD_agg z59, wks_nil_, hg, ↓h11', h14, h17, ↓h18', ↓h19', ↓h20']
     refine Wp.ctx (fun x => seqW _ _ _ _ (blockW _ (seqW _ _ _ _ (blockW _ (x))))) (L11_1_ok s10 r15 s35 s36 s37 v12.Kids (v12.Kids.length : Int) w0_0 y1 ((0 : Int), ([] : List Int), ([] : List Int)) _ o (by kernel_rfl) h124) ?_
     intro e st hq
     cases o with
     | next _ => (first | cases h | (simp at h))
     | jmp n_ s_ =>
      obtain ⟨rfl, rfl, hq⟩ := hq
      obtain ⟨s74_125, y2_125, y3_125⟩ := s_
      unfold F11_1 at hq
      (try simp only [] at h hq)
      obtain ⟨r126, h127, h⟩ := Option.bind_eq_some_iff.1 h
      have h128 : callD (callW Try.prog A0) A0 [.var [.p (.lst false w0_0.length (encL en_Pair w0_0))], .arr (encL en_Move y1), .arr (encL en_i64 y2_125), .arr (encL en_i64 y3_125)] 18 [.ref 3 0 y3_125.length 1] = some (.p (.lst false r126.length (encL en_i64 r126)), some [.var [.p (.lst false w0_0.length (encL en_Pair w0_0))], .arr (encL en_Move y1), .arr (encL en_i64 y2_125), .frz (encL en_i64 y3_125)]) := (callD_give (args := [.lst false y3_125.length (encL en_i64 y3_125)]) (ids := [3]) rfl rfl (by rw [giveD_arr (x := y3_125) en_i64_len rfl (by first | rfl | omega)]; rw [giveD_nil]; first | rfl | (simp only [wk, wks, wkL]; rfl)) (moves_Least_callp h127)).trans rfl
      obtain ⟨o, h142, h⟩ := Option.bind_eq_some_iff.1 h
      simp (maxSteps := 10000000) (implicitDefEqProofs := false) (disch := first | assumption | omega | exact rfl) only [bs, rs11, ls11, Nat.reduceAdd, ↓reduceIte, allP, lenD_lst u38, lenD_lst u53, loadD_iagg a59 z59, loadD_iptr a3, loadD_iptr a38, loadD_pagg a25 z25, loadD_ptr a26, loadD_ptr a3, loadD_ptr a38, mkFn, ops_makeFunc_, storeD_agg z59, wks_nil_, hg, ↓h11', h14, h17, ↓h18', ↓h19', ↓h20', hq, h128]
      refine Wp.ctx (fun x => seqW _ _ _ _ (blockW _ (blockW _ (x)))) (L11_2_ok s10 s35 s36 s37 r126 (r126.length : Int) w0_0 y2_125 ((0 : Int), y1) _ o (by kernel_rfl) h142) ?_
      intro e st hq
      cases o with
      | next _ => (first | cases h | (simp at h))
      | jmp n_ s_ =>
       obtain ⟨rfl, rfl, hq⟩ := hq
       obtain ⟨s101_143, y1_143⟩ := s_
       unfold F11_2 at hq
       (try simp only [] at h hq)
       obtain rfl := Option.some.inj h
       simp (maxSteps := 10000000) (implicitDefEqProofs := false) (disch := first | assumption | omega | exact rfl) only [bs, rs11, ls11, Nat.reduceAdd, ↓reduceIte, allP, lenD_lst u38, lenD_lst u53, loadD_iagg a59 z59, loadD_iptr a3, loadD_iptr a38, loadD_pagg a25 z25, loadD_ptr a26, loadD_ptr a3, loadD_ptr a38, mkFn, ops_makeFunc_, storeD_agg z59, wks_nil_, hg, ↓h11', h14, h17, ↓h18', ↓h19', ↓h20', hq, h128, hq]
       exact ⟨rfl, by kernel_rfl⟩
      | ret _ => (first | cases h | (simp at h))
     | ret _ => (first | cases h | (simp at h))
   ·rw [if_neg h19] at h
    have h19' : decide ((0 : Int) < s37) = false := decide_eq_false h19
    obtain ⟨o, h162, h⟩ := Option.bind_eq_some_iff.1 h
    simp (maxSteps := 10000000) (implicitDefEqProofs := false) (disch := first | assumption | omega | exact rfl) only [bs, rs11, ls11, Nat.reduceAdd, ↓reduceIte, allP, lenD_lst u38, lenD_lst u53, loadD_iagg a59 z59, loadD_iptr a3, loadD_iptr a38, loadD_pagg a25 z25, loadD_ptr a26, loadD_ptr a3, loadD_ptr a38, mkFn, ops_makeFunc_, storeD_agg z59, wks_nil_, hg, ↓h11', h14, h17, ↓h18', ↓h19']
    refine Wp.ctx (fun x => seqW _ _ _ _ (blockW _ (seqW _ _ _ _ (blockW _ (x))))) (L11_1_ok s10 r15 s35 s36 s37 v12.Kids (v12.Kids.length : Int) w0_0 y1 ((0 : Int), ([] : List Int), ([] : List Int)) _ o (by kernel_rfl) h162) ?_
    intro e st hq
    cases o with
    | next _ => (first | cases h | (simp at h))
    | jmp n_ s_ =>
     obtain ⟨rfl, rfl, hq⟩ := hq
     obtain ⟨s74_163, y2_163, y3_163⟩ := s_
     unfold F11_1 at hq
     (try simp only [] at h hq)
     obtain ⟨r164, h165, h⟩ := Option.bind_eq_some_iff.1 h
     have h166 : callD (callW Try.prog A0) A0 [.var [.p (.lst false w0_0.length (encL en_Pair w0_0))], .arr (encL en_Move y1), .arr (encL en_i64 y2_163), .arr (encL en_i64 y3_163)] 18 [.ref 3 0 y3_163.length 1] = some (.p (.lst false r164.length (encL en_i64 r164)), some [.var [.p (.lst false w0_0.length (encL en_Pair w0_0))], .arr (encL en_Move y1), .arr (encL en_i64 y2_163), .frz (encL en_i64 y3_163)]) := (callD_give (args := [.lst false y3_163.length (encL en_i64 y3_163)]) (ids := [3]) rfl rfl (by rw [giveD_arr (x := y3_163) en_i64_len rfl (by first | rfl | omega)]; rw [giveD_nil]; first | rfl | (simp only [wk, wks, wkL]; rfl)) (moves_Least_callp h165)).trans rfl
     obtain ⟨o, h180, h⟩ := Option.bind_eq_some_iff.1 h
     simp (maxSteps := 10000000) (implicitDefEqProofs := false) (disch := first | assumption | omega | exact rfl) only [bs, rs11, ls11, Nat.reduceAdd, ↓reduceIte, allP, lenD_lst u38, lenD_lst u53, loadD_iagg a59 z59, loadD_iptr a3, loadD_iptr a38, loadD_pagg a25 z25, loadD_ptr a26, loadD_ptr a3, loadD_ptr a38, mkFn, ops_makeFunc_, storeD_agg z59, wks_nil_, hg, ↓h11', h14, h17, ↓h18', ↓h19', hq, h166]
     refine Wp.ctx (fun x => seqW _ _ _ _ (blockW _ (blockW _ (x)))) (L11_2_ok s10 s35 s36 s37 r164 (r164.length : Int) w0_0 y2_163 ((0 : Int), y1) _ o (by kernel_rfl) h180) ?_
     intro e st hq
     cases o with
     | next _ => (first | cases h | (simp at h))
     | jmp n_ s_ =>
      obtain ⟨rfl, rfl, hq⟩ := hq
      obtain ⟨s101_181, y1_181⟩ := s_
      unfold F11_2 at hq
      (try simp only [] at h hq)
      obtain rfl := Option.some.inj h
      simp (maxSteps := 10000000) (implicitDefEqProofs := false) (disch := first | assumption | omega | exact rfl) only [bs, rs11, ls11, Nat.reduceAdd, ↓reduceIte, allP, lenD_lst u38, lenD_lst u53, loadD_iagg a59 z59, loadD_iptr a3, loadD_iptr a38, loadD_pagg a25 z25, loadD_ptr a26, loadD_ptr a3, loadD_ptr a38, mkFn, ops_makeFunc_, storeD_agg z59, wks_nil_, hg, ↓h11', h14, h17, ↓h18', ↓h19', hq, h166, hq]
      exact ⟨rfl, by kernel_rfl⟩
     | ret _ => (first | cases h | (simp at h))
    | ret _ => (first | cases h | (simp at h))
 ·rw [if_neg h11] at h
  have h11' : decide (s37 < s36) = false := decide_eq_false h11
  obtain rfl := Option.some.inj h
  simp (maxSteps := 10000000) (implicitDefEqProofs := false) (disch := first | assumption | omega | exact rfl) only [bs, rs11, ls11, Nat.reduceAdd, ↓reduceIte, allP, lenD_lst u38, lenD_lst u53, loadD_iagg a59 z59, loadD_iptr a3, loadD_iptr a38, loadD_pagg a25 z25, loadD_ptr a26, loadD_ptr a3, loadD_ptr a38, mkFn, ops_makeFunc_, storeD_agg z59, wks_nil_, hg, ↓h11']
  exact ⟨rfl, rfl, by kernel_rfl⟩
theorem f11_ok  (x0 : Node) (x1 : Node) (x2 : (List Pair)) (r : ((List Move) × Int)) (h : moves_Moves x0 x1 x2 = some r) : callW Try.prog A0 11 [.p (.agg [.v (.int .i64 x0.Kind), .v (.string x0.Text), .lst false x0.Gaps.length (encL en_str x0.Gaps), .lst false x0.Kids.length (encL en_Node x0.Kids)]), .p (.agg [.v (.int .i64 x1.Kind), .v (.string x1.Text), .lst false x1.Gaps.length (encL en_str x1.Gaps), .lst false x1.Kids.length (encL en_Node x1.Kids)]), .p (.lst false x2.length (encL en_Pair x2))] [] = some (.p (.tup [.lst false r.1.length (encL en_Move r.1), .v (.int .i64 r.2)]), []) := by
 refine call_ofH (fn := Try.f11) (c := bodyOf Try.f11) rfl (by kernel_rfl) (by kernel_rfl) ?_
 rw [show initS Try.f11 [.p (.agg [.v (.int .i64 x0.Kind), .v (.string x0.Text), .lst false x0.Gaps.length (encL en_str x0.Gaps), .lst false x0.Kids.length (encL en_Node x0.Kids)]), .p (.agg [.v (.int .i64 x1.Kind), .v (.string x1.Text), .lst false x1.Gaps.length (encL en_str x1.Gaps), .lst false x1.Kids.length (encL en_Node x1.Kids)]), .p (.lst false x2.length (encL en_Pair x2))] [] = ⟨.p (.agg [.v (.int .i64 x0.Kind), .v (.string x0.Text), .lst false x0.Gaps.length (encL en_str x0.Gaps), .lst false x0.Kids.length (encL en_Node x0.Kids)]) :: .p (.agg [.v (.int .i64 x1.Kind), .v (.string x1.Text), .lst false x1.Gaps.length (encL en_str x1.Gaps), .lst false x1.Kids.length (encL en_Node x1.Kids)]) :: .p (.lst false x2.length (encL en_Pair x2)) :: List.replicate 121 undefD, [], 0⟩ from by kernel_rfl]
 unfold moves_Moves at h
 unfold bodyOf Try.f11; simp only [Option.getD_some, loopsOf, List.append_nil, List.nil_append, List.cons_append, List.getD_cons_zero, List.getD_cons_succ]
 simp only [List.replicate]
 obtain ⟨r1, h2, h⟩ := Option.bind_eq_some_iff.1 h
 have h3 : ∀ H, callD (callW Try.prog A0) A0 H 28 [.p (.agg [.v (.int .i64 x0.Kind), .v (.string x0.Text), .lst false x0.Gaps.length (encL en_str x0.Gaps), .lst false x0.Kids.length (encL en_Node x0.Kids)]), .p (.agg [.v (.int .i64 x1.Kind), .v (.string x1.Text), .lst false x1.Gaps.length (encL en_str x1.Gaps), .lst false x1.Kids.length (encL en_Node x1.Kids)]), .p (.lst false x2.length (encL en_Pair x2))] = some (.p (.v (.int .i64 r1)), none) := fun H => match_Check_call h2
 by_cases h4 : r1 = (0 : Int)
 ·rw [if_pos h4] at h
  have h4' : decide (r1 = (0 : Int)) = true := decide_eq_true h4
  obtain ⟨r5, h6, h⟩ := Option.bind_eq_some_iff.1 h
  have h7 : ∀ H, callD (callW Try.prog A0) A0 H 29 [.p (.agg [.v (.int .i64 x0.Kind), .v (.string x0.Text), .lst false x0.Gaps.length (encL en_str x0.Gaps), .lst false x0.Kids.length (encL en_Node x0.Kids)])] = some (.p (.lst false r5.length (encL en_Row r5)), none) := fun H => tree_Rows_call h6
  obtain ⟨r8, h9, h⟩ := Option.bind_eq_some_iff.1 h
  have h10 : ∀ H, callD (callW Try.prog A0) A0 H 29 [.p (.agg [.v (.int .i64 x1.Kind), .v (.string x1.Text), .lst false x1.Gaps.length (encL en_str x1.Gaps), .lst false x1.Kids.length (encL en_Node x1.Kids)])] = some (.p (.lst false r8.length (encL en_Row r8)), none) := fun H => tree_Rows_call h9
  obtain ⟨o, h182, h⟩ := Option.bind_eq_some_iff.1 h
  simp (maxSteps := 10000000) (implicitDefEqProofs := false) (disch := first | assumption | omega | exact rfl) only [bs, rs11, ls11, Nat.reduceAdd, ↓reduceIte, allP, lenD_lst u38, lenD_lst u53, loadD_iagg a59 z59, loadD_iptr a3, loadD_iptr a38, loadD_pagg a25 z25, loadD_ptr a26, loadD_ptr a3, loadD_ptr a38, mkFn, ops_makeFunc_, storeD_agg z59, wks_nil_, h3, ↓h4', h7, h10]
  refine Wp.ctx (fun x => seqW _ _ _ _ (blockW _ (x))) (L11_0_ok r8 r5 (r5.length : Int) x2 ((0 : Int), ([] : List Move)) _ o (by kernel_rfl) h182) ?_
  intro e st hq
  cases o with
  | next _ => (first | cases h | (simp at h))
  | jmp n_ s_ =>
   obtain ⟨rfl, rfl, hq⟩ := hq
   obtain ⟨s37_183, y1_183⟩ := s_
   unfold F11_0 at hq
   (try simp only [] at h hq)
   obtain ⟨r184, h185, h⟩ := Option.bind_eq_some_iff.1 h
   have h186 : callD (callW Try.prog A0) A0 [.var [.p (.lst false x2.length (encL en_Pair x2))], .arr (encL en_Move y1_183)] 33 [.ref 1 0 y1_183.length 3, .p (.fn (.func 34) [])] = some (.p (.tup []), some [.var [.p (.lst false x2.length (encL en_Pair x2))], .arr (encL en_Move r184)]) := (callD_put (dsw := [.ref 1 0 y1_183.length 3, .p (.fn (.func 34) [])]) (ds' := [.ref 0 0 y1_183.length 3, .p (.fn (.func 34) [])]) (i := 1) (ids := []) (o := .arr (encL en_Move y1_183)) (os := []) (o' := .arr (encL en_Move r184)) (os' := []) rfl (by kernel_rfl) (by kernel_rfl) (by kernel_rfl) (by kernel_rfl) (by kernel_rfl) (slices_SortFunc_34_call h185) rfl rfl).trans (by kernel_rfl)
   by_cases hw_ : r184.length = y1_183.length
   case neg => rw [if_neg hw_] at h; cases h
   rw [if_pos hw_] at h
   have h187 := hw_
   obtain rfl := Option.some.inj h
   simp (maxSteps := 10000000) (implicitDefEqProofs := false) (disch := first | assumption | omega | exact rfl) only [bs, rs11, ls11, Nat.reduceAdd, ↓reduceIte, allP, lenD_lst u38, lenD_lst u53, loadD_iagg a59 z59, loadD_iptr a3, loadD_iptr a38, loadD_pagg a25 z25, loadD_ptr a26, loadD_ptr a3, loadD_ptr a38, mkFn, ops_makeFunc_, storeD_agg z59, wks_nil_, h3, ↓h4', h7, h10, hq, h186]
   refine ⟨by first | exact .inl trivial | exact .inr trivial | simp, ?_⟩
   exact finish_is (ds := [.ref 1 0 y1_183.length 3, iv (0 : Int)]) (x := .tup [.lst false r184.length (encL en_Move r184), .v (.int .i64 (0 : Int))]) (y := .tup [.lst false r184.length (encL en_Move r184), .v (.int .i64 (0 : Int))]) (l := [1]) rfl rfl rfl (purifyT_rp en_Move_len rfl (by first | rfl | omega)) (by first | rfl | (simp only [wk, wks, wkL]; first | done | rfl))
  | ret _ => (first | cases h | (simp at h))
 ·rw [if_neg h4] at h
  have h4' : decide (r1 = (0 : Int)) = false := decide_eq_false h4
  obtain rfl := Option.some.inj h
  simp (maxSteps := 10000000) (implicitDefEqProofs := false) (disch := first | assumption | omega | exact rfl) only [bs, rs11, ls11, Nat.reduceAdd, ↓reduceIte, allP, lenD_lst u38, lenD_lst u53, loadD_iagg a59 z59, loadD_iptr a3, loadD_iptr a38, loadD_pagg a25 z25, loadD_ptr a26, loadD_ptr a3, loadD_ptr a38, mkFn, ops_makeFunc_, storeD_agg z59, wks_nil_, h3, ↓h4']
  refine ⟨by first | exact .inl trivial | exact .inr trivial | simp, ?_⟩
  exact finish_is (ds := [.p (.lst true 0 []), iv r1]) (x := .tup [.lst true 0 [], .v (.int .i64 r1)]) (y := .tup [.lst false ([] : List Move).length (encL en_Move ([] : List Move)), .v (.int .i64 r1)]) (l := []) rfl rfl rfl rfl (by first | rfl | (simp only [wk, wks, wkL]; first | done | rfl))
theorem moves_Moves_call {b1 b2 b3 b4 b5 : Bool} {H : List Ob} {x0 : Node} {x1 : Node} {x2 : (List Pair)} {r : ((List Move) × Int)} (h : moves_Moves x0 x1 x2 = some r) : callD (callW Try.prog A0) A0 H 11 [.p (.agg [.v (.int .i64 x0.Kind), .v (.string x0.Text), .lst b1 x0.Gaps.length (encL en_str x0.Gaps), .lst b2 x0.Kids.length (encL en_Node x0.Kids)]), .p (.agg [.v (.int .i64 x1.Kind), .v (.string x1.Text), .lst b3 x1.Gaps.length (encL en_str x1.Gaps), .lst b4 x1.Kids.length (encL en_Node x1.Kids)]), .p (.lst b5 x2.length (encL en_Pair x2))] = some (.p (.tup [.lst false r.1.length (encL en_Move r.1), .v (.int .i64 r.2)]), none) :=
  callD_fun (args := [.agg [.v (.int .i64 x0.Kind), .v (.string x0.Text), .lst b1 x0.Gaps.length (encL en_str x0.Gaps), .lst b2 x0.Kids.length (encL en_Node x0.Kids)], .agg [.v (.int .i64 x1.Kind), .v (.string x1.Text), .lst b3 x1.Gaps.length (encL en_str x1.Gaps), .lst b4 x1.Kids.length (encL en_Node x1.Kids)], .lst b5 x2.length (encL en_Pair x2)]) rfl rfl rfl (by simp only [List.map_cons, List.map_nil, wk, wks, wkL]; exact f11_ok x0 x1 x2 _ h)
theorem moves_Moves_callp {x0 : Node} {x1 : Node} {x2 : (List Pair)} {r : ((List Move) × Int)} (h : moves_Moves x0 x1 x2 = some r) : callW Try.prog A0 11 [.p (.agg [.v (.int .i64 x0.Kind), .v (.string x0.Text), .lst false x0.Gaps.length (encL en_str x0.Gaps), .lst false x0.Kids.length (encL en_Node x0.Kids)]), .p (.agg [.v (.int .i64 x1.Kind), .v (.string x1.Text), .lst false x1.Gaps.length (encL en_str x1.Gaps), .lst false x1.Kids.length (encL en_Node x1.Kids)]), .p (.lst false x2.length (encL en_Pair x2))] [] = some (.p (.tup [.lst false r.1.length (encL en_Move r.1), .v (.int .i64 r.2)]), []) := f11_ok x0 x1 x2 _ h
def ls38 := And.intro @faP_44_1 (And.intro @faP_46_0 (And.intro @rold_2_0_0 (@varld_3_0_1)))
theorem f38_ok  (x0 : Move) (c0 : Pair) (r : Bool) (h : moves_Stable_c1 x0 c0 = some r) : callW Try.prog A0 38 [.p (.agg [.v (.int .i64 x0.Kind), .v (.int .i64 x0.Old), .v (.int .i64 x0.New)]), .ptr 0 0] [.ro [iv c0.Old, iv c0.New]] = some (.p (.v (.bool r)), [.ro [iv c0.Old, iv c0.New]]) := by
 refine call_ofH (fn := Try.f38) (c := bodyOf Try.f38) rfl (by kernel_rfl) (by kernel_rfl) ?_
 rw [show initS Try.f38 [.p (.agg [.v (.int .i64 x0.Kind), .v (.int .i64 x0.Old), .v (.int .i64 x0.New)]), .ptr 0 0] [.ro [iv c0.Old, iv c0.New]] = ⟨.p (.agg [.v (.int .i64 x0.Kind), .v (.int .i64 x0.Old), .v (.int .i64 x0.New)]) :: .ptr 0 0 :: List.replicate 7 undefD, [.ro [iv c0.Old, iv c0.New]], 1⟩ from by kernel_rfl]
 unfold moves_Stable_c1 at h
 unfold bodyOf Try.f38; simp only [Option.getD_some, loopsOf, List.append_nil, List.nil_append, List.cons_append, List.getD_cons_zero, List.getD_cons_succ]
 simp only [List.replicate]
 obtain rfl := Option.some.inj h
 simp (maxSteps := 10000000) (implicitDefEqProofs := false) (disch := first | assumption | omega | exact rfl) only [bs, rs38, ls38, Nat.reduceAdd, ↓reduceIte, loadD_ptr a3]
 refine ⟨by first | exact .inl trivial | exact .inr trivial | simp, ?_⟩
 show _ = _
 kernel_rfl
theorem moves_Stable_c1_callc {x0 : Move} {c0 : Pair} {r : Bool} (h : moves_Stable_c1 x0 c0 = some r) : callW Try.prog A0 38 [.p (.agg [.v (.int .i64 x0.Kind), .v (.int .i64 x0.Old), .v (.int .i64 x0.New)]), .ptr 0 0] [.ro [iv c0.Old, iv c0.New]] = some (.p (.v (.bool r)), [.ro [iv c0.Old, iv c0.New]]) := f38_ok x0 c0 _ h
def ls50_38 := @idxL_29
noncomputable def L50_0 : Code := (loopsOf (bodyOf Try.f50)).getD 0 .skip
def g50_0 : List Ghost := [.weak [0], .keep [0, 1, 7, 8]]
def F50_38_0 (c1_0 : Pair) (s0 : (List Move)) (s7 : Int) : Int → St := fun s8 => ⟨[.p (.lst false s0.length (encL en_Move s0)), .fn (.func 38) [.ptr 0 0], .junk, .junk, .junk, .junk, .junk, iv s7, iv s8, .junk, .junk, .junk, .junk, .junk, .junk, .junk, .junk, .junk, .junk], [.ro [iv c1_0.Old, iv c1_0.New]], 1⟩
theorem L50_38_0_ok (c1_0 : Pair) (s0 : (List Move)) (s7 : Int) : ∀ s st o, ghostsD g50_0 st = some (F50_38_0 c1_0 s0 s7 s) → iter (slices_IndexFunc_L0 (fun y0_ => moves_Stable_c1 y0_ c1_0) s0 s7) s = some o →
    Wp (evW Try.prog A0 50 (.loop L50_0) st) (OutQ (F50_38_0 c1_0 s0 s7) g50_0 (fun n s st => n = 0 ∧ ghostsD [.keep [0, 1, 7, 8]] st = some (F50_38_0 c1_0 s0 s7 s)) (fun r st => finishD Try.prog A0 50 Try.f50 st = some (.p (.v (.int .i64 r)), [.ro [iv c1_0.Old, iv c1_0.New]])) o) := by
 refine Wp.iter ?_
 intro s st o hg h
 generalize s = s8 at hg h
 unfold slices_IndexFunc_L0 at h
 unfold g50_0 F50_38_0 at hg ⊢
 (try simp only [] at h hg)
 unfold L50_0 bodyOf Try.f50; simp only [Option.getD_some, loopsOf, List.append_nil, List.nil_append, List.cons_append, List.getD_cons_zero, List.getD_cons_succ]
 by_cases h1 : s8 < s7
 ·rw [if_pos h1] at h
  have h1' : decide (s8 < s7) = true := decide_eq_true h1
  obtain ⟨v2, h3, h⟩ := Option.bind_eq_some_iff.1 h
  obtain ⟨h3a, h3b, _⟩ := rd_some h3
  have h4 := lk_frz_44 h3
  obtain ⟨r5, h6, h⟩ := Option.bind_eq_some_iff.1 h
  have h7 : callD (callW Try.prog A0) A0 [.ro [iv c1_0.Old, iv c1_0.New]] 38 [.p (.agg [.v (.int .i64 v2.Kind), .v (.int .i64 v2.Old), .v (.int .i64 v2.New)]), .ptr 0 0] = some (.p (.v (.bool r5)), none) := callD_ro (ds1 := [.p (.agg [.v (.int .i64 v2.Kind), .v (.int .i64 v2.Old), .v (.int .i64 v2.New)]), .ptr 0 0]) (ds' := [.p (.agg [.v (.int .i64 v2.Kind), .v (.int .i64 v2.Old), .v (.int .i64 v2.New)]), .ptr 0 0]) (i := 0) (ids := []) (os := [.ro [iv c1_0.Old, iv c1_0.New]]) rfl rfl (by first | rfl | (simp only [giveD, wk, wks, wkL]; first | done | rfl)) (by kernel_rfl) (by kernel_rfl) (by kernel_rfl) (by kernel_rfl) (moves_Stable_c1_callc h6)
  by_cases h8 : r5 = true
  ·rw [if_pos h8] at h
   obtain rfl := Option.some.inj h
   simp (maxSteps := 10000000) (implicitDefEqProofs := false) (disch := first | assumption | omega | exact rfl) only [bs, rs50, ls50_38, Nat.reduceAdd, ↓reduceIte, lenD_lst u29, loadD_iagg a44 z44, hg, ↓h1', h4, h7, h8]
   refine ⟨rfl, ?_⟩
   show _ = _
   kernel_rfl
  ·rw [if_neg h8] at h
   replace h8 := Bool.eq_false_iff.2 h8
   obtain rfl := Option.some.inj h
   simp (maxSteps := 10000000) (implicitDefEqProofs := false) (disch := first | assumption | omega | exact rfl) only [bs, rs50, ls50_38, Nat.reduceAdd, ↓reduceIte, lenD_lst u29, loadD_iagg a44 z44, hg, ↓h1', h4, h7, h8]
   exact ⟨rfl, by kernel_rfl⟩
 ·rw [if_neg h1] at h
  have h1' : decide (s8 < s7) = false := decide_eq_false h1
  obtain rfl := Option.some.inj h
  simp (maxSteps := 10000000) (implicitDefEqProofs := false) (disch := first | assumption | omega | exact rfl) only [bs, rs50, ls50_38, Nat.reduceAdd, ↓reduceIte, lenD_lst u29, loadD_iagg a44 z44, hg, ↓h1']
  exact ⟨rfl, rfl, by kernel_rfl⟩
theorem f50_38_ok  (c1_0 : Pair) (x0 : (List Move)) (r : Int) (h : slices_IndexFunc (fun y0_ => moves_Stable_c1 y0_ c1_0) x0 = some r) : callW Try.prog A0 50 [.p (.lst false x0.length (encL en_Move x0)), .fn (.func 38) [.ptr 0 0]] [.ro [iv c1_0.Old, iv c1_0.New]] = some (.p (.v (.int .i64 r)), [.ro [iv c1_0.Old, iv c1_0.New]]) := by
 refine call_ofH (fn := Try.f50) (c := bodyOf Try.f50) rfl (by kernel_rfl) (by kernel_rfl) ?_
 rw [show initS Try.f50 [.p (.lst false x0.length (encL en_Move x0)), .fn (.func 38) [.ptr 0 0]] [.ro [iv c1_0.Old, iv c1_0.New]] = ⟨.p (.lst false x0.length (encL en_Move x0)) :: .fn (.func 38) [.ptr 0 0] :: List.replicate 17 undefD, [.ro [iv c1_0.Old, iv c1_0.New]], 1⟩ from by kernel_rfl]
 unfold slices_IndexFunc at h
 unfold bodyOf Try.f50; simp only [Option.getD_some, loopsOf, List.append_nil, List.nil_append, List.cons_append, List.getD_cons_zero, List.getD_cons_succ]
 simp only [List.replicate]
 obtain ⟨o, h9, h⟩ := Option.bind_eq_some_iff.1 h
 simp (maxSteps := 10000000) (implicitDefEqProofs := false) (disch := first | assumption | omega | exact rfl) only [bs, rs50, ls50_38, Nat.reduceAdd, ↓reduceIte, lenD_lst u29, loadD_iagg a44 z44]
 refine Wp.ctx (fun x => seqW _ _ _ _ (blockW _ (x))) (L50_38_0_ok c1_0 x0 (x0.length : Int) (0 : Int) _ o (by kernel_rfl) h9) ?_
 intro e st hq
 cases o with
 | next _ => (first | cases h | (simp at h))
 | jmp n_ s_ =>
  obtain ⟨rfl, rfl, hq⟩ := hq
  generalize s_ = s8_10 at h hq
  unfold F50_38_0 at hq
  (try simp only [] at h hq)
  obtain rfl := Option.some.inj h
  simp (maxSteps := 10000000) (implicitDefEqProofs := false) (disch := first | assumption | omega | exact rfl) only [bs, rs50, ls50_38, Nat.reduceAdd, ↓reduceIte, lenD_lst u29, loadD_iagg a44 z44, hq]
  refine ⟨by first | exact .inl trivial | exact .inr trivial | simp, ?_⟩
  show _ = _
  kernel_rfl
 | ret r11 =>
  obtain ⟨rfl, hq⟩ := hq
  obtain rfl := Option.some.inj h
  simp (maxSteps := 10000000) (implicitDefEqProofs := false) (disch := first | assumption | omega | exact rfl) only [bs, rs50, ls50_38, Nat.reduceAdd, ↓reduceIte, lenD_lst u29, loadD_iagg a44 z44]
  exact ⟨by first | exact .inl trivial | exact .inr trivial | simp, hq⟩
theorem slices_IndexFunc_38_callc {c1_0 : Pair} {x0 : (List Move)} {r : Int} (h : slices_IndexFunc (fun y0_ => moves_Stable_c1 y0_ c1_0) x0 = some r) : callW Try.prog A0 50 [.p (.lst false x0.length (encL en_Move x0)), .fn (.func 38) [.ptr 0 0]] [.ro [iv c1_0.Old, iv c1_0.New]] = some (.p (.v (.int .i64 r)), [.ro [iv c1_0.Old, iv c1_0.New]]) := f50_38_ok c1_0 x0 _ h
theorem f37_38_ok  (c1_0 : Pair) (x0 : (List Move)) (r : Bool) (h : slices_ContainsFunc (fun y0_ => moves_Stable_c1 y0_ c1_0) x0 = some r) : callW Try.prog A0 37 [.p (.lst false x0.length (encL en_Move x0)), .fn (.func 38) [.ptr 0 0]] [.ro [iv c1_0.Old, iv c1_0.New]] = some (.p (.v (.bool r)), [.ro [iv c1_0.Old, iv c1_0.New]]) := by
 refine call_ofH (fn := Try.f37) (c := bodyOf Try.f37) rfl (by kernel_rfl) (by kernel_rfl) ?_
 rw [show initS Try.f37 [.p (.lst false x0.length (encL en_Move x0)), .fn (.func 38) [.ptr 0 0]] [.ro [iv c1_0.Old, iv c1_0.New]] = ⟨.p (.lst false x0.length (encL en_Move x0)) :: .fn (.func 38) [.ptr 0 0] :: List.replicate 7 undefD, [.ro [iv c1_0.Old, iv c1_0.New]], 1⟩ from by kernel_rfl]
 unfold slices_ContainsFunc at h
 unfold bodyOf Try.f37; simp only [Option.getD_some, loopsOf, List.append_nil, List.nil_append, List.cons_append, List.getD_cons_zero, List.getD_cons_succ]
 simp only [List.replicate]
 obtain ⟨r1, h2, h⟩ := Option.bind_eq_some_iff.1 h
 have h3 : callD (callW Try.prog A0) A0 [.ro [iv c1_0.Old, iv c1_0.New]] 50 [.p (.lst false x0.length (encL en_Move x0)), .fn (.func 38) [.ptr 0 0]] = some (.p (.v (.int .i64 r1)), none) := callD_ro (ds1 := [.p (.lst false x0.length (encL en_Move x0)), .fn (.func 38) [.ptr 0 0]]) (ds' := [.p (.lst false x0.length (encL en_Move x0)), .fn (.func 38) [.ptr 0 0]]) (i := 0) (ids := []) (os := [.ro [iv c1_0.Old, iv c1_0.New]]) rfl rfl (by first | rfl | (simp only [giveD, wk, wks, wkL]; first | done | rfl)) (by kernel_rfl) (by kernel_rfl) (by kernel_rfl) (by kernel_rfl) (slices_IndexFunc_38_callc h2)
 obtain rfl := Option.some.inj h
 simp (maxSteps := 10000000) (implicitDefEqProofs := false) (disch := first | assumption | omega | exact rfl) only [bs, rs37, Nat.reduceAdd, ↓reduceIte, h3]
 refine ⟨by first | exact .inl trivial | exact .inr trivial | simp, ?_⟩
 show _ = _
 kernel_rfl
theorem slices_ContainsFunc_38_callc {c1_0 : Pair} {x0 : (List Move)} {r : Bool} (h : slices_ContainsFunc (fun y0_ => moves_Stable_c1 y0_ c1_0) x0 = some r) : callW Try.prog A0 37 [.p (.lst false x0.length (encL en_Move x0)), .fn (.func 38) [.ptr 0 0]] [.ro [iv c1_0.Old, iv c1_0.New]] = some (.p (.v (.bool r)), [.ro [iv c1_0.Old, iv c1_0.New]]) := f37_38_ok c1_0 x0 _ h
def ls13 := And.intro @al_46 (And.intro @ap_26_26 (And.intro @bs_26_1 (And.intro @ex_2_0 (And.intro @ex_2_1 (And.intro @idxL_26 (And.intro @sa_2_0_2 (And.intro @varlv_2_0_2 (@varlv_4_0_4))))))))
noncomputable def L13_0 : Code := (loopsOf (bodyOf Try.f13)).getD 0 .skip
def g13_0 : List Ghost := [.own 10 2, .weak [8, 23], .keep [8, 10, 23, 24, 25]]
def F13_0 (s8 : (List Move)) (s23 : (List Pair)) (s24 : Int) : (Int × (List Pair)) → St := fun (s25, y0) => ⟨[.junk, .junk, .junk, .junk, .junk, .junk, .junk, .junk, .p (.lst false s8.length (encL en_Move s8)), .junk, .ref 0 0 y0.length 2, .junk, .junk, .junk, .junk, .junk, .junk, .junk, .junk, .junk, .junk, .junk, .junk, .p (.lst false s23.length (encL en_Pair s23)), iv s24, iv s25, .junk, .junk, .junk, .junk, .junk, .junk, .junk, .junk, .junk, .junk, .junk, .junk, .junk], [.arr (encL en_Pair y0)], 0⟩
theorem L13_0_ok (s8 : (List Move)) (s23 : (List Pair)) (s24 : Int) : ∀ s st o, ghostsD g13_0 st = some (F13_0 s8 s23 s24 s) → iter (moves_Stable_L0 s8 s23 s24) s = some o →
    Wp (evW Try.prog A0 13 (.loop L13_0) st) (OutQ (F13_0 s8 s23 s24) g13_0 (fun n s st => n = 0 ∧ ghostsD [.keep [8, 10, 23, 24, 25]] st = some (F13_0 s8 s23 s24 s)) (fun r st => finishD Try.prog A0 13 Try.f13 st = some (.p (.tup [.lst false r.1.length (encL en_Pair r.1), .v (.int .i64 r.2)]), [])) o) := by
 refine Wp.iter ?_
 intro s st o hg h
 obtain ⟨s25, y0⟩ := s
 unfold moves_Stable_L0 at h
 unfold g13_0 F13_0 at hg ⊢
 (try simp only [] at h hg)
 unfold L13_0 bodyOf Try.f13; simp only [Option.getD_some, loopsOf, List.append_nil, List.nil_append, List.cons_append, List.getD_cons_zero, List.getD_cons_succ]
 by_cases h5 : s25 < s24
 ·rw [if_pos h5] at h
  have h5' : decide (s25 < s24) = true := decide_eq_true h5
  obtain ⟨v6, h7, h⟩ := Option.bind_eq_some_iff.1 h
  obtain ⟨h7a, h7b, _⟩ := rd_some h7
  have h8 := lk_frz_46 h7
  obtain ⟨r9, h10, h⟩ := Option.bind_eq_some_iff.1 h
  have h11 : callD (callW Try.prog A0) A0 [.arr (encL en_Pair y0), .var [iv v6.Old, iv v6.New]] 37 [.p (.lst false s8.length (encL en_Move s8)), .fn (.func 38) [.ptr 1 0]] = some (.p (.v (.bool r9)), none) := callD_ro (ds1 := [.p (.lst false s8.length (encL en_Move s8)), .fn (.func 38) [.ptr 1 0]]) (ds' := [.p (.lst false s8.length (encL en_Move s8)), .fn (.func 38) [.ptr 0 0]]) (i := 1) (ids := []) (os := [.ro [iv v6.Old, iv v6.New]]) rfl rfl (by first | rfl | (simp only [giveD, wk, wks, wkL]; first | done | rfl)) (by kernel_rfl) (by kernel_rfl) (by kernel_rfl) (by kernel_rfl) (slices_ContainsFunc_38_callc h10)
  by_cases h12 : r9 = true
  ·rw [if_pos h12] at h
   obtain rfl := Option.some.inj h
   simp (maxSteps := 10000000) (implicitDefEqProofs := false) (disch := first | assumption | omega | exact rfl) only [bs, rs13, ls13, Nat.reduceAdd, ↓reduceIte, allP, lenD_lst u26, loadD_iagg a46 z46, loadD_pagg a25 z25, loadD_pagg a46 z46, mkFn, ops_makeFunc_, storeD_agg z46, wks_nil_, hg, ↓h5', h8, h11, h12]
   exact ⟨rfl, by kernel_rfl⟩
  ·rw [if_neg h12] at h
   replace h12 := Bool.eq_false_iff.2 h12
   by_cases hw_ : (y0.length + 1) * 16 ≤ 140737488355328
   case neg => rw [if_neg hw_] at h; cases h
   rw [if_pos hw_] at h
   have h14 := hw_
   have h13 : ∀ (H : List Ob) (id : Nat), apOb H id 0 y0.length 1 2 2 16 [.v (.int .i64 v6.Old), .v (.int .i64 v6.New)] (some (.arr (encL en_Pair y0))) = some (.ref H.length 0 (y0 ++ [v6]).length 2, H.set id .dead ++ [.arr (encL en_Pair (y0 ++ [v6]))]) := fun H id => ap_enc (y := [v6]) en_Pair_len (by first | rfl | omega) rfl (by first | (simp only [encL_cons, encL_nil, en_Pair_eq, List.cons_append, List.nil_append]; done) | (simp only [encL_cons, encL_nil, en_Pair_eq, List.cons_append, List.nil_append]; rfl) | rfl) (by assumption)
   obtain rfl := Option.some.inj h
   simp (maxSteps := 10000000) (implicitDefEqProofs := false) (disch := first | assumption | omega | exact rfl) only [bs, rs13, ls13, Nat.reduceAdd, ↓reduceIte, allP, lenD_lst u26, loadD_iagg a46 z46, loadD_pagg a25 z25, loadD_pagg a46 z46, mkFn, ops_makeFunc_, storeD_agg z46, wks_nil_, hg, ↓h5', h8, h11, h12, h13]
   exact ⟨rfl, by kernel_rfl⟩
 ·rw [if_neg h5] at h
  have h5' : decide (s25 < s24) = false := decide_eq_false h5
  obtain rfl := Option.some.inj h
  simp (maxSteps := 10000000) (implicitDefEqProofs := false) (disch := first | assumption | omega | exact rfl) only [bs, rs13, ls13, Nat.reduceAdd, ↓reduceIte, allP, lenD_lst u26, loadD_iagg a46 z46, loadD_pagg a25 z25, loadD_pagg a46 z46, mkFn, ops_makeFunc_, storeD_agg z46, wks_nil_, hg, ↓h5']
  exact ⟨rfl, rfl, by kernel_rfl⟩
theorem f13_ok  (x0 : Node) (x1 : Node) (x2 : (List Pair)) (r : ((List Pair) × Int)) (h : moves_Stable x0 x1 x2 = some r) : callW Try.prog A0 13 [.p (.agg [.v (.int .i64 x0.Kind), .v (.string x0.Text), .lst false x0.Gaps.length (encL en_str x0.Gaps), .lst false x0.Kids.length (encL en_Node x0.Kids)]), .p (.agg [.v (.int .i64 x1.Kind), .v (.string x1.Text), .lst false x1.Gaps.length (encL en_str x1.Gaps), .lst false x1.Kids.length (encL en_Node x1.Kids)]), .p (.lst false x2.length (encL en_Pair x2))] [] = some (.p (.tup [.lst false r.1.length (encL en_Pair r.1), .v (.int .i64 r.2)]), []) := by
 refine call_ofH (fn := Try.f13) (c := bodyOf Try.f13) rfl (by kernel_rfl) (by kernel_rfl) ?_
 rw [show initS Try.f13 [.p (.agg [.v (.int .i64 x0.Kind), .v (.string x0.Text), .lst false x0.Gaps.length (encL en_str x0.Gaps), .lst false x0.Kids.length (encL en_Node x0.Kids)]), .p (.agg [.v (.int .i64 x1.Kind), .v (.string x1.Text), .lst false x1.Gaps.length (encL en_str x1.Gaps), .lst false x1.Kids.length (encL en_Node x1.Kids)]), .p (.lst false x2.length (encL en_Pair x2))] [] = ⟨.p (.agg [.v (.int .i64 x0.Kind), .v (.string x0.Text), .lst false x0.Gaps.length (encL en_str x0.Gaps), .lst false x0.Kids.length (encL en_Node x0.Kids)]) :: .p (.agg [.v (.int .i64 x1.Kind), .v (.string x1.Text), .lst false x1.Gaps.length (encL en_str x1.Gaps), .lst false x1.Kids.length (encL en_Node x1.Kids)]) :: .p (.lst false x2.length (encL en_Pair x2)) :: List.replicate 36 undefD, [], 0⟩ from by kernel_rfl]
 unfold moves_Stable at h
 unfold bodyOf Try.f13; simp only [Option.getD_some, loopsOf, List.append_nil, List.nil_append, List.cons_append, List.getD_cons_zero, List.getD_cons_succ]
 simp only [List.replicate]
 obtain ⟨r1, h2, h⟩ := Option.bind_eq_some_iff.1 h
 have h3 : ∀ H, callD (callW Try.prog A0) A0 H 11 [.p (.agg [.v (.int .i64 x0.Kind), .v (.string x0.Text), .lst false x0.Gaps.length (encL en_str x0.Gaps), .lst false x0.Kids.length (encL en_Node x0.Kids)]), .p (.agg [.v (.int .i64 x1.Kind), .v (.string x1.Text), .lst false x1.Gaps.length (encL en_str x1.Gaps), .lst false x1.Kids.length (encL en_Node x1.Kids)]), .p (.lst false x2.length (encL en_Pair x2))] = some (.p (.tup [.lst false r1.1.length (encL en_Move r1.1), .v (.int .i64 r1.2)]), none) := fun H => moves_Moves_call h2
 by_cases h4 : r1.2 = (0 : Int)
 ·rw [if_pos h4] at h
  have h4' : decide (r1.2 = (0 : Int)) = true := decide_eq_true h4
  obtain ⟨o, h15, h⟩ := Option.bind_eq_some_iff.1 h
  simp (maxSteps := 10000000) (implicitDefEqProofs := false) (disch := first | assumption | omega | exact rfl) only [bs, rs13, ls13, Nat.reduceAdd, ↓reduceIte, allP, lenD_lst u26, loadD_iagg a46 z46, loadD_pagg a25 z25, loadD_pagg a46 z46, mkFn, ops_makeFunc_, storeD_agg z46, wks_nil_, h3, ↓h4']
  refine Wp.ctx (fun x => seqW _ _ _ _ (blockW _ (x))) (L13_0_ok r1.1 x2 (x2.length : Int) ((0 : Int), ([] : List Pair)) _ o (by kernel_rfl) h15) ?_
  intro e st hq
  cases o with
  | next _ => (first | cases h | (simp at h))
  | jmp n_ s_ =>
   obtain ⟨rfl, rfl, hq⟩ := hq
   obtain ⟨s25_16, y0_16⟩ := s_
   unfold F13_0 at hq
   (try simp only [] at h hq)
   obtain rfl := Option.some.inj h
   simp (maxSteps := 10000000) (implicitDefEqProofs := false) (disch := first | assumption | omega | exact rfl) only [bs, rs13, ls13, Nat.reduceAdd, ↓reduceIte, allP, lenD_lst u26, loadD_iagg a46 z46, loadD_pagg a25 z25, loadD_pagg a46 z46, mkFn, ops_makeFunc_, storeD_agg z46, wks_nil_, h3, ↓h4', hq]
   refine ⟨by first | exact .inl trivial | exact .inr trivial | simp, ?_⟩
   exact finish_is (ds := [.ref 0 0 y0_16.length 2, iv (0 : Int)]) (x := .tup [.lst false y0_16.length (encL en_Pair y0_16), .v (.int .i64 (0 : Int))]) (y := .tup [.lst false y0_16.length (encL en_Pair y0_16), .v (.int .i64 (0 : Int))]) (l := [0]) rfl rfl rfl (purifyT_rp en_Pair_len rfl (by first | rfl | omega)) (by first | rfl | (simp only [wk, wks, wkL]; first | done | rfl))
  | ret _ => (first | cases h | (simp at h))
 ·rw [if_neg h4] at h
  have h4' : decide (r1.2 = (0 : Int)) = false := decide_eq_false h4
  obtain rfl := Option.some.inj h
  simp (maxSteps := 10000000) (implicitDefEqProofs := false) (disch := first | assumption | omega | exact rfl) only [bs, rs13, ls13, Nat.reduceAdd, ↓reduceIte, allP, lenD_lst u26, loadD_iagg a46 z46, loadD_pagg a25 z25, loadD_pagg a46 z46, mkFn, ops_makeFunc_, storeD_agg z46, wks_nil_, h3, ↓h4']
  refine ⟨by first | exact .inl trivial | exact .inr trivial | simp, ?_⟩
  exact finish_is (ds := [.p (.lst true 0 []), iv r1.2]) (x := .tup [.lst true 0 [], .v (.int .i64 r1.2)]) (y := .tup [.lst false ([] : List Pair).length (encL en_Pair ([] : List Pair)), .v (.int .i64 r1.2)]) (l := []) rfl rfl rfl rfl (by first | rfl | (simp only [wk, wks, wkL]; first | done | rfl))
theorem moves_Stable_callp {x0 : Node} {x1 : Node} {x2 : (List Pair)} {r : ((List Pair) × Int)} (h : moves_Stable x0 x1 x2 = some r) : callW Try.prog A0 13 [.p (.agg [.v (.int .i64 x0.Kind), .v (.string x0.Text), .lst false x0.Gaps.length (encL en_str x0.Gaps), .lst false x0.Kids.length (encL en_Node x0.Kids)]), .p (.agg [.v (.int .i64 x1.Kind), .v (.string x1.Text), .lst false x1.Gaps.length (encL en_str x1.Gaps), .lst false x1.Kids.length (encL en_Node x1.Kids)]), .p (.lst false x2.length (encL en_Pair x2))] [] = some (.p (.tup [.lst false r.1.length (encL en_Pair r.1), .v (.int .i64 r.2)]), []) := f13_ok x0 x1 x2 _ h
def ls16 := And.intro @idxL_26 (@neq_46)
noncomputable def L16_0 : Code := (loopsOf (bodyOf Try.f16)).getD 0 .skip
def g16_0 : List Ghost := [.weak [0, 1], .keep [0, 1, 5]]
def F16_0 (s0 : (List Pair)) (s1 : (List Pair)) : Int → St := fun s5 => ⟨[.p (.lst false s0.length (encL en_Pair s0)), .p (.lst false s1.length (encL en_Pair s1)), .junk, .junk, .junk, iv s5, .junk, .junk, .junk, .junk, .junk, .junk, .junk, .junk, .junk, .junk, .junk, .junk, .junk, .junk, .junk, .junk, .junk, .junk, .junk, .junk], [], 0⟩
theorem L16_0_ok (s0 : (List Pair)) (s1 : (List Pair)) : ∀ s st o, ghostsD g16_0 st = some (F16_0 s0 s1 s) → iter (R19_Pairs_L0 s0 s1) s = some o →
    Wp (evW Try.prog A0 16 (.loop L16_0) st) (OutQ (F16_0 s0 s1) g16_0 (fun n s st => n = 0 ∧ ghostsD [.keep [0, 1, 5]] st = some (F16_0 s0 s1 s)) (fun r st => finishD Try.prog A0 16 Try.f16 st = some (.p (.v (.bool r)), [])) o) := by
 refine Wp.iter ?_
 intro s st o hg h
 generalize s = s5 at hg h
 unfold R19_Pairs_L0 at h
 unfold g16_0 F16_0 at hg ⊢
 (try simp only [] at h hg)
 unfold L16_0 bodyOf Try.f16; simp only [Option.getD_some, loopsOf, List.append_nil, List.nil_append, List.cons_append, List.getD_cons_zero, List.getD_cons_succ]
 by_cases h2 : s5 < (s0.length : Int)
 ·rw [if_pos h2] at h
  have h2' : decide (s5 < (s0.length : Int)) = true := decide_eq_true h2
  obtain ⟨v3, h4, h⟩ := Option.bind_eq_some_iff.1 h
  obtain ⟨h4a, h4b, _⟩ := rd_some h4
  have h5 := lk_frz_46 h4
  obtain ⟨v6, h7, h⟩ := Option.bind_eq_some_iff.1 h
  obtain ⟨h7a, h7b, _⟩ := rd_some h7
  have h8 := lk_frz_46 h7
  by_cases h9 : v3.Old = v6.Old ∧ v3.New = v6.New
  ·rw [if_pos h9] at h
   have h9' : decide (v3.Old = v6.Old ∧ v3.New = v6.New) = true := decide_eq_true h9
   obtain rfl := Option.some.inj h
   simp (maxSteps := 10000000) (implicitDefEqProofs := false) (disch := first | assumption | omega | exact rfl) only [bs, rs16, ls16, Nat.reduceAdd, ↓reduceIte, lenD_lst u26, loadD_iagg a46 z46, hg, ↓h2', h5, h8, ↓h9']
   exact ⟨rfl, by kernel_rfl⟩
  ·rw [if_neg h9] at h
   have h9' : decide (v3.Old = v6.Old ∧ v3.New = v6.New) = false := decide_eq_false h9
   obtain rfl := Option.some.inj h
   simp (maxSteps := 10000000) (implicitDefEqProofs := false) (disch := first | assumption | omega | exact rfl) only [bs, rs16, ls16, Nat.reduceAdd, ↓reduceIte, lenD_lst u26, loadD_iagg a46 z46, hg, ↓h2', h5, h8, ↓h9']
   refine ⟨rfl, ?_⟩
   exact finish_is (ds := [bv false]) (x := .v (.bool false)) (y := .v (.bool false)) (l := []) rfl rfl rfl rfl (by first | rfl | (simp only [wk, wks, wkL]; first | done | rfl))
 ·rw [if_neg h2] at h
  have h2' : decide (s5 < (s0.length : Int)) = false := decide_eq_false h2
  obtain rfl := Option.some.inj h
  simp (maxSteps := 10000000) (implicitDefEqProofs := false) (disch := first | assumption | omega | exact rfl) only [bs, rs16, ls16, Nat.reduceAdd, ↓reduceIte, lenD_lst u26, loadD_iagg a46 z46, hg, ↓h2']
  exact ⟨rfl, rfl, by kernel_rfl⟩
theorem f16_ok  (x0 : (List Pair)) (x1 : (List Pair)) (r : Bool) (h : R19_Pairs x0 x1 = some r) : callW Try.prog A0 16 [.p (.lst false x0.length (encL en_Pair x0)), .p (.lst false x1.length (encL en_Pair x1))] [] = some (.p (.v (.bool r)), []) := by
 refine call_ofH (fn := Try.f16) (c := bodyOf Try.f16) rfl (by kernel_rfl) (by kernel_rfl) ?_
 rw [show initS Try.f16 [.p (.lst false x0.length (encL en_Pair x0)), .p (.lst false x1.length (encL en_Pair x1))] [] = ⟨.p (.lst false x0.length (encL en_Pair x0)) :: .p (.lst false x1.length (encL en_Pair x1)) :: List.replicate 24 undefD, [], 0⟩ from by kernel_rfl]
 unfold R19_Pairs at h
 unfold bodyOf Try.f16; simp only [Option.getD_some, loopsOf, List.append_nil, List.nil_append, List.cons_append, List.getD_cons_zero, List.getD_cons_succ]
 simp only [List.replicate]
 by_cases h1 : (x0.length : Int) = (x1.length : Int)
 ·rw [if_pos h1] at h
  have h1' : decide ((x0.length : Int) = (x1.length : Int)) = true := decide_eq_true h1
  obtain ⟨o, h10, h⟩ := Option.bind_eq_some_iff.1 h
  simp (maxSteps := 10000000) (implicitDefEqProofs := false) (disch := first | assumption | omega | exact rfl) only [bs, rs16, ls16, Nat.reduceAdd, ↓reduceIte, lenD_lst u26, loadD_iagg a46 z46, ↓h1']
  refine Wp.ctx (fun x => seqW _ _ _ _ (blockW _ (x))) (L16_0_ok x0 x1 (0 : Int) _ o (by kernel_rfl) h10) ?_
  intro e st hq
  cases o with
  | next _ => (first | cases h | (simp at h))
  | jmp n_ s_ =>
   obtain ⟨rfl, rfl, hq⟩ := hq
   generalize s_ = s5_11 at h hq
   unfold F16_0 at hq
   (try simp only [] at h hq)
   obtain rfl := Option.some.inj h
   simp (maxSteps := 10000000) (implicitDefEqProofs := false) (disch := first | assumption | omega | exact rfl) only [bs, rs16, ls16, Nat.reduceAdd, ↓reduceIte, lenD_lst u26, loadD_iagg a46 z46, ↓h1', hq]
   refine ⟨by first | exact .inl trivial | exact .inr trivial | simp, ?_⟩
   exact finish_is (ds := [bv true]) (x := .v (.bool true)) (y := .v (.bool true)) (l := []) rfl rfl rfl rfl (by first | rfl | (simp only [wk, wks, wkL]; first | done | rfl))
  | ret r12 =>
   obtain ⟨rfl, hq⟩ := hq
   obtain rfl := Option.some.inj h
   simp (maxSteps := 10000000) (implicitDefEqProofs := false) (disch := first | assumption | omega | exact rfl) only [bs, rs16, ls16, Nat.reduceAdd, ↓reduceIte, lenD_lst u26, loadD_iagg a46 z46]
   exact ⟨by first | exact .inl trivial | exact .inr trivial | simp, hq⟩
 ·rw [if_neg h1] at h
  have h1' : decide ((x0.length : Int) = (x1.length : Int)) = false := decide_eq_false h1
  obtain rfl := Option.some.inj h
  simp (maxSteps := 10000000) (implicitDefEqProofs := false) (disch := first | assumption | omega | exact rfl) only [bs, rs16, ls16, Nat.reduceAdd, ↓reduceIte, lenD_lst u26, loadD_iagg a46 z46, ↓h1']
  refine ⟨by first | exact .inl trivial | exact .inr trivial | simp, ?_⟩
  exact finish_is (ds := [bv false]) (x := .v (.bool false)) (y := .v (.bool false)) (l := []) rfl rfl rfl rfl (by first | rfl | (simp only [wk, wks, wkL]; first | done | rfl))
theorem R19_Pairs_callp {x0 : (List Pair)} {x1 : (List Pair)} {r : Bool} (h : R19_Pairs x0 x1 = some r) : callW Try.prog A0 16 [.p (.lst false x0.length (encL en_Pair x0)), .p (.lst false x1.length (encL en_Pair x1))] [] = some (.p (.v (.bool r)), []) := f16_ok x0 x1 _ h
theorem f10_run : callN Try.prog A0 200 10 [] [] = some (.p (.v (.bool true)), []) := by kernel_rfl
theorem f10_ok (r : Bool) (h : law27_awake = some r) : callW Try.prog A0 10 [] [] = some (.p (.v (.bool r)), []) := by
  cases h; exact callW_some.2 ⟨200, f10_run⟩
theorem law27_awake_call {H : List Ob} {r : Bool} (h : law27_awake  = some r) : callD (callW Try.prog A0) A0 H 10 [] = some (.p (.v (.bool r)), none) :=
  callD_fun (args := []) rfl rfl rfl (by simp only [List.map_cons, List.map_nil, wk, wks, wkL]; exact f10_ok  _ h)
def ls8 := And.intro @ap_26_26 (And.intro @bs_26_1 (And.intro @bu_46_0_1 (And.intro @ex_2_0 (And.intro @ex_2_1 (@varlv_4_0_4)))))
noncomputable def L8_0 : Code := (loopsOf (bodyOf Try.f8)).getD 0 .skip
def g8_0 : List Ghost := [.own 3 2, .keep [1, 3, 4]]
def F8_0 (w0_0 : Int) (w0_1 : ByteArray) (w0_2 : (List ByteArray)) (w0_3 : (List Node)) : (Int × (List Pair)) → St := fun (s4, y1) => ⟨[.junk, .ptr 0 0, .junk, .ref 1 0 y1.length 2, iv s4, .junk, .junk, .junk, .junk, .junk, .junk, .junk, .junk, .junk, .junk, .junk, .junk, .junk, .junk, .junk, .junk, .junk, .junk, .junk, .junk, .junk, .junk, .junk, .junk, .junk, .junk, .junk, .junk, .junk, .junk, .junk, .junk, .junk, .junk, .junk, .junk, .junk, .junk, .junk, .junk, .junk, .junk, .junk, .junk, .junk, .junk, .junk, .junk, .junk, .junk, .junk, .junk, .junk], [.var [iv w0_0, .p (.v (.string w0_1)), .p (.lst false w0_2.length (encL en_str w0_2)), .p (.lst false w0_3.length (encL en_Node w0_3))], .arr (encL en_Pair y1)], 0⟩
theorem L8_0_ok (w0_0 : Int) (w0_1 : ByteArray) (w0_2 : (List ByteArray)) (w0_3 : (List Node)) : ∀ s st o, ghostsD g8_0 st = some (F8_0 w0_0 w0_1 w0_2 w0_3 s) → iter (law27_MovesNone_L0 w0_0 w0_1 w0_2 w0_3) s = some o →
    Wp (evW Try.prog A0 8 (.loop L8_0) st) (OutQ (F8_0 w0_0 w0_1 w0_2 w0_3) g8_0 (fun n s st => n = 0 ∧ ghostsD [.keep [1, 3, 4]] st = some (F8_0 w0_0 w0_1 w0_2 w0_3 s)) (fun r st => finishD Try.prog A0 8 Try.f8 st = some (.p (.v (.bool r)), [])) o) := by
 refine Wp.iter ?_
 intro s st o hg h
 obtain ⟨s4, y1⟩ := s
 unfold law27_MovesNone_L0 at h
 unfold g8_0 F8_0 at hg ⊢
 (try simp only [] at h hg)
 unfold L8_0 bodyOf Try.f8; simp only [Option.getD_some, loopsOf, List.append_nil, List.nil_append, List.cons_append, List.getD_cons_zero, List.getD_cons_succ]
 obtain ⟨r5, h6, h⟩ := Option.bind_eq_some_iff.1 h
 have h7 : ∀ H, callD (callW Try.prog A0) A0 H 24 [.p (.agg [.v (.int .i64 w0_0), .v (.string w0_1), .lst false w0_2.length (encL en_str w0_2), .lst false w0_3.length (encL en_Node w0_3)])] = some (.p (.v (.int .i64 r5)), none) := fun H => R06_Size_call h6
 by_cases h8 : s4 < r5
 ·rw [if_pos h8] at h
  have h8' : decide (s4 < r5) = true := decide_eq_true h8
  by_cases hw_ : (y1.length + 1) * 16 ≤ 140737488355328
  case neg => rw [if_neg hw_] at h; cases h
  rw [if_pos hw_] at h
  have h10 := hw_
  have h9 : ∀ (H : List Ob) (id : Nat), apOb H id 0 y1.length 1 2 2 16 [.v (.int .i64 s4), .v (.int .i64 s4)] (some (.arr (encL en_Pair y1))) = some (.ref H.length 0 (y1 ++ [(Pair.mk s4 s4)]).length 2, H.set id .dead ++ [.arr (encL en_Pair (y1 ++ [(Pair.mk s4 s4)]))]) := fun H id => ap_enc (y := [(Pair.mk s4 s4)]) en_Pair_len (by first | rfl | omega) rfl (by first | (simp only [encL_cons, encL_nil, en_Pair_eq, List.cons_append, List.nil_append]; done) | (simp only [encL_cons, encL_nil, en_Pair_eq, List.cons_append, List.nil_append]; rfl) | rfl) (by assumption)
  obtain rfl := Option.some.inj h
  simp (maxSteps := 10000000) (implicitDefEqProofs := false) (disch := first | assumption | omega | exact rfl) only [bs, rs8, ls8, Nat.reduceAdd, ↓reduceIte, lenD_lst u29, loadD_pagg a25 z25, wks_nil_, hg, h7, ↓h8', h9]
  exact ⟨rfl, by kernel_rfl⟩
 ·rw [if_neg h8] at h
  have h8' : decide (s4 < r5) = false := decide_eq_false h8
  obtain rfl := Option.some.inj h
  simp (maxSteps := 10000000) (implicitDefEqProofs := false) (disch := first | assumption | omega | exact rfl) only [bs, rs8, ls8, Nat.reduceAdd, ↓reduceIte, lenD_lst u29, loadD_pagg a25 z25, wks_nil_, hg, h7, ↓h8']
  exact ⟨rfl, rfl, by kernel_rfl⟩
theorem f8_ok  (x0 : Node) (r : Bool) (h : law27_MovesNone x0 = some r) : callW Try.prog A0 8 [.p (.agg [.v (.int .i64 x0.Kind), .v (.string x0.Text), .lst false x0.Gaps.length (encL en_str x0.Gaps), .lst false x0.Kids.length (encL en_Node x0.Kids)])] [] = some (.p (.v (.bool r)), []) := by
 refine call_ofH (fn := Try.f8) (c := bodyOf Try.f8) rfl (by kernel_rfl) (by kernel_rfl) ?_
 rw [show initS Try.f8 [.p (.agg [.v (.int .i64 x0.Kind), .v (.string x0.Text), .lst false x0.Gaps.length (encL en_str x0.Gaps), .lst false x0.Kids.length (encL en_Node x0.Kids)])] [] = ⟨.p (.agg [.v (.int .i64 x0.Kind), .v (.string x0.Text), .lst false x0.Gaps.length (encL en_str x0.Gaps), .lst false x0.Kids.length (encL en_Node x0.Kids)]) :: List.replicate 57 undefD, [], 0⟩ from by kernel_rfl]
 unfold law27_MovesNone at h
 unfold bodyOf Try.f8; simp only [Option.getD_some, loopsOf, List.append_nil, List.nil_append, List.cons_append, List.getD_cons_zero, List.getD_cons_succ]
 simp only [List.replicate]
 obtain ⟨r1, h2, h⟩ := Option.bind_eq_some_iff.1 h
 have h3 : ∀ H, callD (callW Try.prog A0) A0 H 9 [.p (.agg [.v (.int .i64 x0.Kind), .v (.string x0.Text), .lst false x0.Gaps.length (encL en_str x0.Gaps), .lst false x0.Kids.length (encL en_Node x0.Kids)])] = some (.p (.v (.bool r1)), none) := fun H => law27_small_call h2
 by_cases h4 : r1 = true
 ·rw [if_pos h4] at h
  obtain ⟨o, h11, h⟩ := Option.bind_eq_some_iff.1 h
  simp (maxSteps := 10000000) (implicitDefEqProofs := false) (disch := first | assumption | omega | exact rfl) only [bs, rs8, ls8, Nat.reduceAdd, ↓reduceIte, lenD_lst u29, loadD_pagg a25 z25, wks_nil_, h3, h4]
  refine Wp.ctx (fun x => seqW _ _ _ _ (blockW _ (x))) (L8_0_ok x0.Kind x0.Text x0.Gaps x0.Kids ((0 : Int), ([] : List Pair)) _ o (by kernel_rfl) h11) ?_
  intro e st hq
  cases o with
  | next _ => (first | cases h | (simp at h))
  | jmp n_ s_ =>
   obtain ⟨rfl, rfl, hq⟩ := hq
   obtain ⟨s4_12, y1_12⟩ := s_
   unfold F8_0 at hq
   (try simp only [] at h hq)
   obtain ⟨r13, h14, h⟩ := Option.bind_eq_some_iff.1 h
   have h15 : callD (callW Try.prog A0) A0 [.var [iv x0.Kind, .p (.v (.string x0.Text)), .p (.lst false x0.Gaps.length (encL en_str x0.Gaps)), .p (.lst false x0.Kids.length (encL en_Node x0.Kids))], .arr (encL en_Pair y1_12)] 11 [.p (.agg [.v (.int .i64 x0.Kind), .v (.string x0.Text), .lst false x0.Gaps.length (encL en_str x0.Gaps), .lst false x0.Kids.length (encL en_Node x0.Kids)]), .p (.agg [.v (.int .i64 x0.Kind), .v (.string x0.Text), .lst false x0.Gaps.length (encL en_str x0.Gaps), .lst false x0.Kids.length (encL en_Node x0.Kids)]), .ref 1 0 y1_12.length 2] = some (.p (.tup [.lst false r13.1.length (encL en_Move r13.1), .v (.int .i64 r13.2)]), some [.var [iv x0.Kind, .p (.v (.string x0.Text)), .p (.lst false x0.Gaps.length (encL en_str x0.Gaps)), .p (.lst false x0.Kids.length (encL en_Node x0.Kids))], .frz (encL en_Pair y1_12)]) := (callD_give (args := [.agg [.v (.int .i64 x0.Kind), .v (.string x0.Text), .lst false x0.Gaps.length (encL en_str x0.Gaps), .lst false x0.Kids.length (encL en_Node x0.Kids)], .agg [.v (.int .i64 x0.Kind), .v (.string x0.Text), .lst false x0.Gaps.length (encL en_str x0.Gaps), .lst false x0.Kids.length (encL en_Node x0.Kids)], .lst false y1_12.length (encL en_Pair y1_12)]) (ids := [1]) rfl rfl (by rw [giveD_p]; rw [giveD_p]; rw [giveD_arr (x := y1_12) en_Pair_len rfl (by first | rfl | omega)]; rw [giveD_nil]; first | rfl | (simp only [wk, wks, wkL]; rfl)) (moves_Moves_callp h14)).trans rfl
   obtain ⟨r16, h17, h⟩ := Option.bind_eq_some_iff.1 h
   have h18 : callD (callW Try.prog A0) A0 [.var [iv x0.Kind, .p (.v (.string x0.Text)), .p (.lst false x0.Gaps.length (encL en_str x0.Gaps)), .p (.lst false x0.Kids.length (encL en_Node x0.Kids))], .frz (encL en_Pair y1_12)] 13 [.p (.agg [.v (.int .i64 x0.Kind), .v (.string x0.Text), .lst false x0.Gaps.length (encL en_str x0.Gaps), .lst false x0.Kids.length (encL en_Node x0.Kids)]), .p (.agg [.v (.int .i64 x0.Kind), .v (.string x0.Text), .lst false x0.Gaps.length (encL en_str x0.Gaps), .lst false x0.Kids.length (encL en_Node x0.Kids)]), .ref 1 0 y1_12.length 2] = some (.p (.tup [.lst false r16.1.length (encL en_Pair r16.1), .v (.int .i64 r16.2)]), none) := (callD_give (args := [.agg [.v (.int .i64 x0.Kind), .v (.string x0.Text), .lst false x0.Gaps.length (encL en_str x0.Gaps), .lst false x0.Kids.length (encL en_Node x0.Kids)], .agg [.v (.int .i64 x0.Kind), .v (.string x0.Text), .lst false x0.Gaps.length (encL en_str x0.Gaps), .lst false x0.Kids.length (encL en_Node x0.Kids)], .lst false y1_12.length (encL en_Pair y1_12)]) (ids := []) rfl rfl (by rw [giveD_p]; rw [giveD_p]; rw [giveD_frz (x := y1_12) en_Pair_len rfl (by first | rfl | omega)]; rw [giveD_nil]; first | rfl | (simp only [wk, wks, wkL]; rfl)) (moves_Stable_callp h17)).trans rfl
   by_cases h19 : r13.2 = (0 : Int)
   ·rw [if_pos h19] at h
    have h19' : decide (r13.2 = (0 : Int)) = true := decide_eq_true h19
    by_cases h20 : r16.2 = (0 : Int)
    ·rw [if_pos h20] at h
     have h20' : decide (r16.2 = (0 : Int)) = true := decide_eq_true h20
     by_cases h21 : (r13.1.length : Int) = (0 : Int)
     ·rw [if_pos h21] at h
      have h21' : decide ((r13.1.length : Int) = (0 : Int)) = true := decide_eq_true h21
      obtain ⟨r22, h23, h⟩ := Option.bind_eq_some_iff.1 h
      have h24 : callD (callW Try.prog A0) A0 [.var [iv x0.Kind, .p (.v (.string x0.Text)), .p (.lst false x0.Gaps.length (encL en_str x0.Gaps)), .p (.lst false x0.Kids.length (encL en_Node x0.Kids))], .frz (encL en_Pair y1_12)] 16 [.p (.lst false r16.1.length (encL en_Pair r16.1)), .ref 1 0 y1_12.length 2] = some (.p (.v (.bool r22)), none) := (callD_give (args := [.lst false r16.1.length (encL en_Pair r16.1), .lst false y1_12.length (encL en_Pair y1_12)]) (ids := []) rfl rfl (by rw [giveD_p]; rw [giveD_frz (x := y1_12) en_Pair_len rfl (by first | rfl | omega)]; rw [giveD_nil]; first | rfl | (simp only [wk, wks, wkL]; rfl)) (R19_Pairs_callp h23)).trans rfl
      by_cases h25 : r22 = true
      ·rw [if_pos h25] at h
       obtain ⟨r26, h27, h⟩ := Option.bind_eq_some_iff.1 h
       have h28 : ∀ H, callD (callW Try.prog A0) A0 H 10 [] = some (.p (.v (.bool r26)), none) := fun H => law27_awake_call h27
       obtain rfl := Option.some.inj h
       simp (maxSteps := 10000000) (implicitDefEqProofs := false) (disch := first | assumption | omega | exact rfl) only [bs, rs8, ls8, Nat.reduceAdd, ↓reduceIte, lenD_lst u29, loadD_pagg a25 z25, wks_nil_, h3, h4, hq, h15, h18, ↓h19', ↓h20', ↓h21', h24, h25, h28]
       refine ⟨by first | exact .inl trivial | exact .inr trivial | simp, ?_⟩
       exact finish_is (ds := [bv r26]) (x := .v (.bool r26)) (y := .v (.bool r26)) (l := []) rfl rfl rfl rfl (by first | rfl | (simp only [wk, wks, wkL]; first | done | rfl))
      ·rw [if_neg h25] at h
       replace h25 := Bool.eq_false_iff.2 h25
       obtain rfl := Option.some.inj h
       simp (maxSteps := 10000000) (implicitDefEqProofs := false) (disch := first | assumption | omega | exact rfl) only [bs, rs8, ls8, Nat.reduceAdd, ↓reduceIte, lenD_lst u29, loadD_pagg a25 z25, wks_nil_, h3, h4, hq, h15, h18, ↓h19', ↓h20', ↓h21', h24, h25]
       refine ⟨by first | exact .inl trivial | exact .inr trivial | simp, ?_⟩
       exact finish_is (ds := [bv false]) (x := .v (.bool false)) (y := .v (.bool false)) (l := []) rfl rfl rfl rfl (by first | rfl | (simp only [wk, wks, wkL]; first | done | rfl))
     ·rw [if_neg h21] at h
      have h21' : decide ((r13.1.length : Int) = (0 : Int)) = false := decide_eq_false h21
      obtain rfl := Option.some.inj h
      simp (maxSteps := 10000000) (implicitDefEqProofs := false) (disch := first | assumption | omega | exact rfl) only [bs, rs8, ls8, Nat.reduceAdd, ↓reduceIte, lenD_lst u29, loadD_pagg a25 z25, wks_nil_, h3, h4, hq, h15, h18, ↓h19', ↓h20', ↓h21']
      refine ⟨by first | exact .inl trivial | exact .inr trivial | simp, ?_⟩
      exact finish_is (ds := [bv false]) (x := .v (.bool false)) (y := .v (.bool false)) (l := []) rfl rfl rfl rfl (by first | rfl | (simp only [wk, wks, wkL]; first | done | rfl))
    ·rw [if_neg h20] at h
     have h20' : decide (r16.2 = (0 : Int)) = false := decide_eq_false h20
     obtain rfl := Option.some.inj h
     simp (maxSteps := 10000000) (implicitDefEqProofs := false) (disch := first | assumption | omega | exact rfl) only [bs, rs8, ls8, Nat.reduceAdd, ↓reduceIte, lenD_lst u29, loadD_pagg a25 z25, wks_nil_, h3, h4, hq, h15, h18, ↓h19', ↓h20']
     refine ⟨by first | exact .inl trivial | exact .inr trivial | simp, ?_⟩
     exact finish_is (ds := [bv false]) (x := .v (.bool false)) (y := .v (.bool false)) (l := []) rfl rfl rfl rfl (by first | rfl | (simp only [wk, wks, wkL]; first | done | rfl))
   ·rw [if_neg h19] at h
    have h19' : decide (r13.2 = (0 : Int)) = false := decide_eq_false h19
    obtain rfl := Option.some.inj h
    simp (maxSteps := 10000000) (implicitDefEqProofs := false) (disch := first | assumption | omega | exact rfl) only [bs, rs8, ls8, Nat.reduceAdd, ↓reduceIte, lenD_lst u29, loadD_pagg a25 z25, wks_nil_, h3, h4, hq, h15, h18, ↓h19']
    refine ⟨by first | exact .inl trivial | exact .inr trivial | simp, ?_⟩
    exact finish_is (ds := [bv false]) (x := .v (.bool false)) (y := .v (.bool false)) (l := []) rfl rfl rfl rfl (by first | rfl | (simp only [wk, wks, wkL]; first | done | rfl))
  | ret _ => (first | cases h | (simp at h))
 ·rw [if_neg h4] at h
  replace h4 := Bool.eq_false_iff.2 h4
  obtain ⟨r29, h30, h⟩ := Option.bind_eq_some_iff.1 h
  have h31 : ∀ H, callD (callW Try.prog A0) A0 H 10 [] = some (.p (.v (.bool r29)), none) := fun H => law27_awake_call h30
  obtain rfl := Option.some.inj h
  simp (maxSteps := 10000000) (implicitDefEqProofs := false) (disch := first | assumption | omega | exact rfl) only [bs, rs8, ls8, Nat.reduceAdd, ↓reduceIte, lenD_lst u29, loadD_pagg a25 z25, wks_nil_, h3, h4, h31]
  refine ⟨by first | exact .inl trivial | exact .inr trivial | simp, ?_⟩
  exact finish_is (ds := [bv r29]) (x := .v (.bool r29)) (y := .v (.bool r29)) (l := []) rfl rfl rfl rfl (by first | rfl | (simp only [wk, wks, wkL]; first | done | rfl))
end Xn

