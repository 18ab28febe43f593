/- A part of the proof: P2. No conditions of its own. -/
import Derived.Test.YtgjhagehbfhioaaP1
namespace Xn
open Go Go.Ev Go.Proofs
set_option linter.unusedSimpArgs false
set_option linter.unusedVariables false
set_option linter.defProp false
set_option maxRecDepth 8000
set_option maxHeartbeats 40000000
def ls11 := And.intro @al_59 (And.intro @ap_29_29 (And.intro @ap_38_38 (And.intro @bs_29_1 (And.intro @bs_38_1 (And.intro @bu_44_0_1_2 (And.intro @faI_59_0 (And.intro @faI_59_4 (And.intro @faP_59_0 (And.intro @faP_59_4 (And.intro @idxL_38 (And.intro @idxL_53 (And.intro @idxR_38 (And.intro @sa_5_0_5 (And.intro @varld_1_0 (And.intro @varld_5_0_0 (And.intro @varld_5_0_4 (@varlv_4_0_4)))))))))))))))))
noncomputable def L11_2 : Code := (loopsOf (bodyOf Try.f11)).getD 2 .skip
def g11_2 : List Ghost := [.own 12 3, .weak [10, 35, 99], .keep [10, 11, 12, 16, 35, 36, 37, 99, 100, 101]]
def F11_2 (s10 : (List Row)) (s35 : (List Row)) (s36 : Int) (s37 : Int) (s99 : (List Int)) (s100 : Int) (w0_0 : (List Pair)) (y2 : (List Int)) : (Int × (List Move)) → St := fun (s101, y1) => ⟨[.junk, .junk, .junk, .junk, .junk, .junk, .junk, .junk, .junk, .junk, .p (.lst false s10.length (encL en_Row s10)), .fn (.func 30) [.ptr 0 0], .ref 1 0 y1.length 3, .junk, .junk, .junk, .ref 2 0 y2.length 1, .junk, .junk, .junk, .junk, .junk, .junk, .junk, .junk, .junk, .junk, .junk, .junk, .junk, .junk, .junk, .junk, .junk, .junk, .p (.lst false s35.length (encL en_Row s35)), iv s36, iv s37, .junk, .junk, .junk, .junk, .junk, .junk, .junk, .junk, .junk, .junk, .junk, .junk, .junk, .junk, .junk, .junk, .junk, .junk, .junk, .junk, .junk, .junk, .junk, .junk, .junk, .junk, .junk, .junk, .junk, .junk, .junk, .junk, .junk, .junk, .junk, .junk, .junk, .junk, .junk, .junk, .junk, .junk, .junk, .junk, .junk, .junk, .junk, .junk, .junk, .junk, .junk, .junk, .junk, .junk, .junk, .junk, .junk, .junk, .junk, .junk, .junk, .p (.lst false s99.length (encL en_i64 s99)), iv s100, iv s101, .junk, .junk, .junk, .junk, .junk, .junk, .junk, .junk, .junk, .junk, .junk, .junk, .junk, .junk, .junk, .junk, .junk, .junk, .junk, .junk, .junk, .junk], [.var [.p (.lst false w0_0.length (encL en_Pair w0_0))], .arr (encL en_Move y1), .arr (encL en_i64 y2)], 0⟩
theorem L11_2_ok (s10 : (List Row)) (s35 : (List Row)) (s36 : Int) (s37 : Int) (s99 : (List Int)) (s100 : Int) (w0_0 : (List Pair)) (y2 : (List Int)) : ∀ s st o, ghostsD g11_2 st = some (F11_2 s10 s35 s36 s37 s99 s100 w0_0 y2 s) → iter (moves_Moves_L2 s10 s35 s36 s37 s99 s100 w0_0 y2) s = some o →
    Wp (evW Try.prog A0 11 (.loop L11_2) st) (OutQ (F11_2 s10 s35 s36 s37 s99 s100 w0_0 y2) g11_2 (fun n s st => n = 4 ∧ ghostsD [.keep [10, 11, 12, 16, 35, 36, 37, 99, 100, 101]] st = some (F11_2 s10 s35 s36 s37 s99 s100 w0_0 y2 s)) (fun r st => finishD Try.prog A0 11 Try.f11 st = some (.p (.tup [.lst false r.1.length (encL en_Move r.1), .v (.int .i64 r.2)]), [])) o) := by
 refine Wp.iter ?_
 intro s st o hg h
 obtain ⟨s101, y1⟩ := s
 unfold moves_Moves_L2 at h
 unfold g11_2 F11_2 at hg ⊢
 (try simp only [] at h hg)
 unfold L11_2 bodyOf Try.f11; simp only [Option.getD_some, loopsOf, List.append_nil, List.nil_append, List.cons_append, List.getD_cons_zero, List.getD_cons_succ]
 by_cases h167 : s101 < s100
 ·rw [if_pos h167] at h
  have h167' : decide (s101 < s100) = true := decide_eq_true h167
  obtain ⟨v168, h169, h⟩ := Option.bind_eq_some_iff.1 h
  obtain ⟨h169a, h169b, _⟩ := rd_some h169
  have h170 := ce_3_x h169
  obtain ⟨v171, h172, h⟩ := Option.bind_eq_some_iff.1 h
  obtain ⟨h172a, h172b, _⟩ := rd_some h172
  have h173 := ce_3_x h172
  have h174 := ce_3_x h172
  obtain ⟨r175, h176, h⟩ := Option.bind_eq_some_iff.1 h
  have h177 : callD (callW Try.prog A0) A0 [.var [.p (.lst false w0_0.length (encL en_Pair w0_0))], .arr (encL en_Move y1), .arr (encL en_i64 y2)] 30 [iv v171, .ptr 0 0] = some (.p (.v (.int .i64 r175)), none) := callD_ro (ds1 := [iv v171, .ptr 0 0]) (ds' := [iv v171, .ptr 0 0]) (i := 0) (ids := []) (os := [.ro [.p (.lst false w0_0.length (encL en_Pair w0_0))]]) rfl rfl (by first | rfl | (simp only [giveD, wk, wks, wkL]; first | done | rfl)) (by kernel_rfl) (by kernel_rfl) (by kernel_rfl) (by kernel_rfl) (moves_Moves_c1_callc h176)
  by_cases hw_ : (y1.length + 1) * 24 ≤ 140737488355328
  case neg => rw [if_neg hw_] at h; cases h
  rw [if_pos hw_] at h
  have h179 := hw_
  have h178 : ∀ (H : List Ob) (id : Nat), apOb H id 0 y1.length 1 3 3 24 [.v (.int .i64 (2 : Int)), .v (.int .i64 v171), .v (.int .i64 r175)] (some (.arr (encL en_Move y1))) = some (.ref H.length 0 (y1 ++ [(Move.mk (2 : Int) v171 r175)]).length 3, H.set id .dead ++ [.arr (encL en_Move (y1 ++ [(Move.mk (2 : Int) v171 r175)]))]) := fun H id => ap_enc (y := [(Move.mk (2 : Int) v171 r175)]) en_Move_len (by first | rfl | omega) rfl (by first | (simp only [encL_cons, encL_nil, en_Move_eq, List.cons_append, List.nil_append]; done) | (simp only [encL_cons, encL_nil, en_Move_eq, List.cons_append, List.nil_append]; rfl) | rfl) (by assumption)
  obtain rfl := Option.some.inj h
  simp (maxSteps := 10000000) (implicitDefEqProofs := false) (disch := first | assumption | omega | exact rfl) only [bs, rs11, ls11, Nat.reduceAdd, ↓reduceIte, allP, lenD_lst u38, lenD_lst u53, loadD_iagg a59 z59, loadD_iptr a3, loadD_iptr a38, loadD_pagg a25 z25, loadD_ptr a26, loadD_ptr a3, loadD_ptr a38, mkFn, ops_makeFunc_, storeD_agg z59, wks_nil_, hg, ↓h167', h170, h173, h174, h177, h178]
  exact ⟨rfl, by kernel_rfl⟩
 ·rw [if_neg h167] at h
  have h167' : decide (s101 < s100) = false := decide_eq_false h167
  obtain rfl := Option.some.inj h
  simp (maxSteps := 10000000) (implicitDefEqProofs := false) (disch := first | assumption | omega | exact rfl) only [bs, rs11, ls11, Nat.reduceAdd, ↓reduceIte, allP, lenD_lst u38, lenD_lst u53, loadD_iagg a59 z59, loadD_iptr a3, loadD_iptr a38, loadD_pagg a25 z25, loadD_ptr a26, loadD_ptr a3, loadD_ptr a38, mkFn, ops_makeFunc_, storeD_agg z59, wks_nil_, hg, ↓h167']
  exact ⟨rfl, rfl, by kernel_rfl⟩
noncomputable def L11_1 : Code := (loopsOf (bodyOf Try.f11)).getD 1 .skip
def g11_1 : List Ghost := [.own 16 1, .own 17 1, .weak [10, 35, 72], .keep [10, 11, 12, 15, 16, 17, 35, 36, 37, 72, 73, 74]]
def F11_1 (s10 : (List Row)) (s15 : Int) (s35 : (List Row)) (s36 : Int) (s37 : Int) (s72 : (List Int)) (s73 : Int) (w0_0 : (List Pair)) (y1 : (List Move)) : (Int × (List Int) × (List Int)) → St := fun (s74, y2, y3) => ⟨[.junk, .junk, .junk, .junk, .junk, .junk, .junk, .junk, .junk, .junk, .p (.lst false s10.length (encL en_Row s10)), .fn (.func 30) [.ptr 0 0], .ref 1 0 y1.length 3, .junk, .junk, iv s15, .ref 2 0 y2.length 1, .ref 3 0 y3.length 1, .junk, .junk, .junk, .junk, .junk, .junk, .junk, .junk, .junk, .junk, .junk, .junk, .junk, .junk, .junk, .junk, .junk, .p (.lst false s35.length (encL en_Row s35)), iv s36, iv s37, .junk, .junk, .junk, .junk, .junk, .junk, .junk, .junk, .junk, .junk, .junk, .junk, .junk, .junk, .junk, .junk, .junk, .junk, .junk, .junk, .junk, .junk, .junk, .junk, .junk, .junk, .junk, .junk, .junk, .junk, .junk, .junk, .junk, .junk, .p (.lst false s72.length (encL en_i64 s72)), iv s73, iv s74, .junk, .junk, .junk, .junk, .junk, .junk, .junk, .junk, .junk, .junk, .junk, .junk, .junk, .junk, .junk, .junk, .junk, .junk, .junk, .junk, .junk, .junk, .junk, .junk, .junk, .junk, .junk, .junk, .junk, .junk, .junk, .junk, .junk, .junk, .junk, .junk, .junk, .junk, .junk, .junk, .junk, .junk, .junk, .junk, .junk, .junk, .junk, .junk, .junk], [.var [.p (.lst false w0_0.length (encL en_Pair w0_0))], .arr (encL en_Move y1), .arr (encL en_i64 y2), .arr (encL en_i64 y3)], 0⟩
theorem L11_1_ok (s10 : (List Row)) (s15 : Int) (s35 : (List Row)) (s36 : Int) (s37 : Int) (s72 : (List Int)) (s73 : Int) (w0_0 : (List Pair)) (y1 : (List Move)) : ∀ s st o, ghostsD g11_1 st = some (F11_1 s10 s15 s35 s36 s37 s72 s73 w0_0 y1 s) → iter (moves_Moves_L1 s10 s15 s35 s36 s37 s72 s73 w0_0 y1) s = some o →
    Wp (evW Try.prog A0 11 (.loop L11_1) st) (OutQ (F11_1 s10 s15 s35 s36 s37 s72 s73 w0_0 y1) g11_1 (fun n s st => n = 2 ∧ ghostsD [.keep [10, 11, 12, 15, 16, 17, 35, 36, 37, 72, 73, 74]] st = some (F11_1 s10 s15 s35 s36 s37 s72 s73 w0_0 y1 s)) (fun r st => finishD Try.prog A0 11 Try.f11 st = some (.p (.tup [.lst false r.1.length (encL en_Move r.1), .v (.int .i64 r.2)]), [])) o) := by
 refine Wp.iter ?_
 intro s st o hg h
 obtain ⟨s74, y2, y3⟩ := s
 unfold moves_Moves_L1 at h
 unfold g11_1 F11_1 at hg ⊢
 (try simp only [] at h hg)
 unfold L11_1 bodyOf Try.f11; simp only [Option.getD_some, loopsOf, List.append_nil, List.nil_append, List.cons_append, List.getD_cons_zero, List.getD_cons_succ]
 by_cases h144 : s74 < s73
 ·rw [if_pos h144] at h
  have h144' : decide (s74 < s73) = true := decide_eq_true h144
  obtain ⟨v145, h146, h⟩ := Option.bind_eq_some_iff.1 h
  obtain ⟨h146a, h146b, _⟩ := rd_some h146
  have h147 := ce_3_x h146
  obtain ⟨v148, h149, h⟩ := Option.bind_eq_some_iff.1 h
  obtain ⟨h149a, h149b, _⟩ := rd_some h149
  have h150 := ce_59__4 h149
  obtain ⟨r151, h152, h⟩ := Option.bind_eq_some_iff.1 h
  have h153 : callD (callW Try.prog A0) A0 [.var [.p (.lst false w0_0.length (encL en_Pair w0_0))], .arr (encL en_Move y1), .arr (encL en_i64 y2), .arr (encL en_i64 y3)] 30 [iv v145, .ptr 0 0] = some (.p (.v (.int .i64 r151)), none) := callD_ro (ds1 := [iv v145, .ptr 0 0]) (ds' := [iv v145, .ptr 0 0]) (i := 0) (ids := []) (os := [.ro [.p (.lst false w0_0.length (encL en_Pair w0_0))]]) rfl rfl (by first | rfl | (simp only [giveD, wk, wks, wkL]; first | done | rfl)) (by kernel_rfl) (by kernel_rfl) (by kernel_rfl) (by kernel_rfl) (moves_Moves_c1_callc h152)
  obtain ⟨r154, h155, h⟩ := Option.bind_eq_some_iff.1 h
  have h156 : ∀ H, callD (callW Try.prog A0) A0 H 32 [.p (.lst false v148.Kids.length (encL en_i64 v148.Kids)), iv r151] = some (.p (.v (.int .i64 r154)), none) := fun H => slices_Index_int_int_call h155
  by_cases h157 : (0 : Int) ≤ r154
  ·rw [if_pos h157] at h
   have h157' : decide ((0 : Int) ≤ r154) = true := decide_eq_true h157
   by_cases hw_ : (y2.length + 1) * 8 ≤ 140737488355328
   case neg => rw [if_neg hw_] at h; cases h
   rw [if_pos hw_] at h
   have h159 := hw_
   have h158 : ∀ (H : List Ob) (id : Nat), apOb H id 0 y2.length 1 1 1 8 [.v (.int .i64 v145)] (some (.arr (encL en_i64 y2))) = some (.ref H.length 0 (y2 ++ [v145]).length 1, H.set id .dead ++ [.arr (encL en_i64 (y2 ++ [v145]))]) := fun H id => ap_enc (y := [v145]) en_i64_len (by first | rfl | omega) rfl (by first | (simp only [encL_cons, encL_nil, en_i64_eq, List.cons_append, List.nil_append]; done) | (simp only [encL_cons, encL_nil, en_i64_eq, List.cons_append, List.nil_append]; rfl) | rfl) (by assumption)
   by_cases hw_ : (y3.length + 1) * 8 ≤ 140737488355328
   case neg => rw [if_neg hw_] at h; cases h
   rw [if_pos hw_] at h
   have h161 := hw_
   have h160 : ∀ (H : List Ob) (id : Nat), apOb H id 0 y3.length 1 1 1 8 [.v (.int .i64 r154)] (some (.arr (encL en_i64 y3))) = some (.ref H.length 0 (y3 ++ [r154]).length 1, H.set id .dead ++ [.arr (encL en_i64 (y3 ++ [r154]))]) := fun H id => ap_enc (y := [r154]) en_i64_len (by first | rfl | omega) rfl (by first | (simp only [encL_cons, encL_nil, en_i64_eq, List.cons_append, List.nil_append]; done) | (simp only [encL_cons, encL_nil, en_i64_eq, List.cons_append, List.nil_append]; rfl) | rfl) (by assumption)
   obtain rfl := Option.some.inj h
   simp (maxSteps := 10000000) (implicitDefEqProofs := false) (disch := first | assumption | omega | exact rfl) only [bs, rs11, ls11, Nat.reduceAdd, ↓reduceIte, allP, lenD_lst u38, lenD_lst u53, loadD_iagg a59 z59, loadD_iptr a3, loadD_iptr a38, loadD_pagg a25 z25, loadD_ptr a26, loadD_ptr a3, loadD_ptr a38, mkFn, ops_makeFunc_, storeD_agg z59, wks_nil_, hg, ↓h144', h147, h150, h153, h156, ↓h157', h158, h160]
   exact ⟨rfl, by kernel_rfl⟩
  ·rw [if_neg h157] at h
   have h157' : decide ((0 : Int) ≤ r154) = false := decide_eq_false h157
   obtain rfl := Option.some.inj h
   simp (maxSteps := 10000000) (implicitDefEqProofs := false) (disch := first | assumption | omega | exact rfl) only [bs, rs11, ls11, Nat.reduceAdd, ↓reduceIte, allP, lenD_lst u38, lenD_lst u53, loadD_iagg a59 z59, loadD_iptr a3, loadD_iptr a38, loadD_pagg a25 z25, loadD_ptr a26, loadD_ptr a3, loadD_ptr a38, mkFn, ops_makeFunc_, storeD_agg z59, wks_nil_, hg, ↓h144', h147, h150, h153, h156, ↓h157']
   exact ⟨rfl, by kernel_rfl⟩
 ·rw [if_neg h144] at h
  have h144' : decide (s74 < s73) = false := decide_eq_false h144
  obtain rfl := Option.some.inj h
  simp (maxSteps := 10000000) (implicitDefEqProofs := false) (disch := first | assumption | omega | exact rfl) only [bs, rs11, ls11, Nat.reduceAdd, ↓reduceIte, allP, lenD_lst u38, lenD_lst u53, loadD_iagg a59 z59, loadD_iptr a3, loadD_iptr a38, loadD_pagg a25 z25, loadD_ptr a26, loadD_ptr a3, loadD_ptr a38, mkFn, ops_makeFunc_, storeD_agg z59, wks_nil_, hg, ↓h144']
  exact ⟨rfl, rfl, by kernel_rfl⟩
noncomputable def L11_0 : Code := (loopsOf (bodyOf Try.f11)).getD 0 .skip
def g11_0 : List Ghost := [.own 12 3, .weak [10, 35], .keep [10, 11, 12, 35, 36, 37]]
def F11_0 (s10 : (List Row)) (s35 : (List Row)) (s36 : Int) (w0_0 : (List Pair)) : (Int × (List Move)) → St := fun (s37, y1) => ⟨[.junk, .junk, .junk, .junk, .junk, .junk, .junk, .junk, .junk, .junk, .p (.lst false s10.length (encL en_Row s10)), .fn (.func 30) [.ptr 0 0], .ref 1 0 y1.length 3, .junk, .junk, .junk, .junk, .junk, .junk, .junk, .junk, .junk, .junk, .junk, .junk, .junk, .junk, .junk, .junk, .junk, .junk, .junk, .junk, .junk, .junk, .p (.lst false s35.length (encL en_Row s35)), iv s36, iv s37, .junk, .junk, .junk, .junk, .junk, .junk, .junk, .junk, .junk, .junk, .junk, .junk, .junk, .junk, .junk, .junk, .junk, .junk, .junk, .junk, .junk, .junk, .junk, .junk, .junk, .junk, .junk, .junk, .junk, .junk, .junk, .junk, .junk, .junk, .junk, .junk, .junk, .junk, .junk, .junk, .junk, .junk, .junk, .junk, .junk, .junk, .junk, .junk, .junk, .junk, .junk, .junk, .junk, .junk, .junk, .junk, .junk, .junk, .junk, .junk, .junk, .junk, .junk, .junk, .junk, .junk, .junk, .junk, .junk, .junk, .junk, .junk, .junk, .junk, .junk, .junk, .junk, .junk, .junk, .junk, .junk, .junk, .junk, .junk, .junk, .junk], [.var [.p (.lst false w0_0.length (encL en_Pair w0_0))], .arr (encL en_Move y1)], 0⟩
theorem L11_0_ok (s10 : (List Row)) (s35 : (List Row)) (s36 : Int) (w0_0 : (List Pair)) : ∀ s st o, ghostsD g11_0 st = some (F11_0 s10 s35 s36 w0_0 s) → iter (moves_Moves_L0 s10 s35 s36 w0_0) s = some o →
    Wp (evW Try.prog A0 11 (.loop L11_0) st) (OutQ (F11_0 s10 s35 s36 w0_0) g11_0 (fun n s st => n = 0 ∧ ghostsD [.keep [10, 11, 12, 35, 36, 37]] st = some (F11_0 s10 s35 s36 w0_0 s)) (fun r st => finishD Try.prog A0 11 Try.f11 st = some (.p (.tup [.lst false r.1.length (encL en_Move r.1), .v (.int .i64 r.2)]), [])) o) := by
 refine Wp.iter ?_
 intro s st o hg h
 obtain ⟨s37, y1⟩ := s
 unfold moves_Moves_L0 at h
 unfold g11_0 F11_0 at hg ⊢
 (try simp only [] at h hg)
 unfold L11_0 bodyOf Try.f11; simp only [Option.getD_some, loopsOf, List.append_nil, List.nil_append, List.cons_append, List.getD_cons_zero, List.getD_cons_succ]
 by_cases h11 : s37 < s36
 ·rw [if_pos h11] at h
  have h11' : decide (s37 < s36) = true := decide_eq_true h11
  obtain ⟨v12, h13, h⟩ := Option.bind_eq_some_iff.1 h
  obtain ⟨h13a, h13b, _⟩ := rd_some h13
  have h14 := lk_frz_59 h13
  obtain ⟨r15, h16, h⟩ := Option.bind_eq_some_iff.1 h
  have h17 : callD (callW Try.prog A0) A0 [.var [.p (.lst false w0_0.length (encL en_Pair w0_0))], .arr (encL en_Move y1), .var [iv v12.Parent, iv v12.Kind, .p (.v (.string v12.Text)), .p (.lst false v12.Gaps.length (encL en_str v12.Gaps)), .p (.lst false v12.Kids.length (encL en_i64 v12.Kids))]] 30 [iv s37, .ptr 0 0] = some (.p (.v (.int .i64 r15)), none) := callD_ro (ds1 := [iv s37, .ptr 0 0]) (ds' := [iv s37, .ptr 0 0]) (i := 0) (ids := []) (os := [.ro [.p (.lst false w0_0.length (encL en_Pair w0_0))]]) rfl rfl (by first | rfl | (simp only [giveD, wk, wks, wkL]; first | done | rfl)) (by kernel_rfl) (by kernel_rfl) (by kernel_rfl) (by kernel_rfl) (moves_Moves_c1_callc h16)
  by_cases h18 : r15 < (0 : Int)
  ·rw [if_pos h18] at h
   have h18' : decide (r15 < (0 : Int)) = true := decide_eq_true h18
   simp (maxSteps := 10000000) (implicitDefEqProofs := false) (disch := first | assumption | omega | exact rfl) only [bs, rs11, ls11, Nat.reduceAdd, ↓reduceIte, allP, lenD_lst u38, lenD_lst u53, loadD_iagg a59 z59, loadD_iptr a3, loadD_iptr a38, loadD_pagg a25 z25, loadD_ptr a26, loadD_ptr a3, loadD_ptr a38, mkFn, ops_makeFunc_, storeD_agg z59, wks_nil_, hg, ↓h11', h14, h17, ↓h18']
   refine Wp.gh (fun x => regW _ _ _ _ _ x) ⟨[.junk, .junk, .junk, .junk, .junk, .junk, .junk, .junk, .junk, .junk, .p (.lst false s10.length (encL en_Row s10)), .fn (.func 30) [.ptr 0 0], .ref 1 0 y1.length 3, .junk, .junk, .junk, .junk, .junk, .junk, .junk, .junk, .junk, .junk, .junk, .junk, .junk, .junk, .junk, .junk, .junk, .junk, .junk, .junk, .junk, .junk, .p (.lst false s35.length (encL en_Row s35)), iv s36, iv s37, .junk, .junk, .junk, .junk, .junk, .junk, .junk, .junk, .junk, .junk, .junk, .junk, .junk, .junk, .junk, .junk, .junk, .junk, .junk, .junk, .junk, .junk, .junk, .junk, .junk, .junk, .junk, .junk, .junk, .junk, .junk, .junk, .junk, .junk, .junk, .junk, .junk, .junk, .junk, .junk, .junk, .junk, .junk, .junk, .junk, .junk, .junk, .junk, .junk, .junk, .junk, .junk, .junk, .junk, .junk, .junk, .junk, .junk, .junk, .junk, .junk, .junk, .junk, .junk, .junk, .junk, .junk, .junk, .junk, .junk, .junk, .junk, .junk, .junk, .junk, .junk, .junk, .junk, .junk, .junk, .junk, .junk, .junk, .junk, .junk, .junk], [.var [.p (.lst false w0_0.length (encL en_Pair w0_0))], .arr (encL en_Move y1)], 0⟩ (by kernel_rfl) ?_
   obtain rfl := Option.some.inj h
   simp (maxSteps := 10000000) (implicitDefEqProofs := false) (disch := first | assumption | omega | exact rfl) only [bs, rs11, ls11, Nat.reduceAdd, ↓reduceIte, allP, lenD_lst u38, lenD_lst u53, loadD_iagg a59 z59, loadD_iptr a3, loadD_iptr a38, loadD_pagg a25 z25, loadD_ptr a26, loadD_ptr a3, loadD_ptr a38, mkFn, ops_makeFunc_, storeD_agg z59, wks_nil_, hg, ↓h11', h14, h17, ↓h18']
   exact ⟨rfl, by kernel_rfl⟩
  ·rw [if_neg h18] at h
   have h18' : decide (r15 < (0 : Int)) = false := decide_eq_false h18
   by_cases h19 : (0 : Int) < s37
   ·rw [if_pos h19] at h
    have h19' : decide ((0 : Int) < s37) = true := decide_eq_true h19
    by_cases h20 : (0 : Int) < r15
    ·rw [if_pos h20] at h
     have h20' : decide ((0 : Int) < r15) = true := decide_eq_true h20
     obtain ⟨r21, h22, h⟩ := Option.bind_eq_some_iff.1 h
     have h23 : callD (callW Try.prog A0) A0 [.var [.p (.lst false w0_0.length (encL en_Pair w0_0))], .arr (encL en_Move y1), .var [iv v12.Parent, iv v12.Kind, .p (.v (.string v12.Text)), .p (.lst false v12.Gaps.length (encL en_str v12.Gaps)), .p (.lst false v12.Kids.length (encL en_i64 v12.Kids))]] 30 [iv v12.Parent, .ptr 0 0] = some (.p (.v (.int .i64 r21)), none) := callD_ro (ds1 := [iv v12.Parent, .ptr 0 0]) (ds' := [iv v12.Parent, .ptr 0 0]) (i := 0) (ids := []) (os := [.ro [.p (.lst false w0_0.length (encL en_Pair w0_0))]]) rfl rfl (by first | rfl | (simp only [giveD, wk, wks, wkL]; first | done | rfl)) (by kernel_rfl) (by kernel_rfl) (by kernel_rfl) (by kernel_rfl) (moves_Moves_c1_callc h22)
     obtain ⟨v24, h25, h⟩ := Option.bind_eq_some_iff.1 h
     obtain ⟨h25a, h25b, _⟩ := rd_some h25
     have h26 := ce_59__0 h25
     by_cases h27 : r21 = v24.Parent
     ·rw [if_pos h27] at h
      have h27' : decide (r21 = v24.Parent) = true := decide_eq_true h27
      obtain ⟨o, h46, h⟩ := Option.bind_eq_some_iff.1 h
      simp (maxSteps := 10000000) (implicitDefEqProofs := false) (disch := first | assumption | omega | exact rfl) only [bs, rs11, ls11, Nat.reduceAdd, ↓reduceIte, allP, lenD_lst u38, lenD_lst u53, loadD_iagg a59 z59, loadD_iptr a3, loadD_iptr a38, loadD_pagg a25 z25, loadD_ptr a26, loadD_ptr a3, loadD_ptr a38, mkFn, ops_makeFunc_, storeD_agg z59, wks_nil_, hg, ↓h11', h14, h17, ↓h18', ↓h19', ↓h20', h23, h26, ↓h27']
      refine Wp.ctx (fun x => seqW _ _ _ _ (blockW _ (seqW _ _ _ _ (blockW _ (x))))) (L11_1_ok s10 r15 s35 s36 s37 v12.Kids (v12.Kids.length : Int) w0_0 y1 ((0 : Int), ([] : List Int), ([] : List Int)) _ o (by kernel_rfl) h46) ?_
      intro e st hq
      cases o with
      | next _ => (first | cases h | (simp at h))
      | jmp n_ s_ =>
       obtain ⟨rfl, rfl, hq⟩ := hq
       obtain ⟨s74_47, y2_47, y3_47⟩ := s_
       unfold F11_1 at hq
       (try simp only [] at h hq)
       obtain ⟨r48, h49, h⟩ := Option.bind_eq_some_iff.1 h
       have h50 : callD (callW Try.prog A0) A0 [.var [.p (.lst false w0_0.length (encL en_Pair w0_0))], .arr (encL en_Move y1), .arr (encL en_i64 y2_47), .arr (encL en_i64 y3_47)] 18 [.ref 3 0 y3_47.length 1] = some (.p (.lst false r48.length (encL en_i64 r48)), some [.var [.p (.lst false w0_0.length (encL en_Pair w0_0))], .arr (encL en_Move y1), .arr (encL en_i64 y2_47), .frz (encL en_i64 y3_47)]) := (callD_give (args := [.lst false y3_47.length (encL en_i64 y3_47)]) (ids := [3]) rfl rfl (by rw [giveD_arr (x := y3_47) en_i64_len rfl (by first | rfl | omega)]; rw [giveD_nil]; first | rfl | (simp only [wk, wks, wkL]; rfl)) (moves_Least_callp h49)).trans rfl
       obtain ⟨o, h64, h⟩ := Option.bind_eq_some_iff.1 h
       simp (maxSteps := 10000000) (implicitDefEqProofs := false) (disch := first | assumption | omega | exact rfl) only [bs, rs11, ls11, Nat.reduceAdd, ↓reduceIte, allP, lenD_lst u38, lenD_lst u53, loadD_iagg a59 z59, loadD_iptr a3, loadD_iptr a38, loadD_pagg a25 z25, loadD_ptr a26, loadD_ptr a3, loadD_ptr a38, mkFn, ops_makeFunc_, storeD_agg z59, wks_nil_, hg, ↓h11', h14, h17, ↓h18', ↓h19', ↓h20', h23, h26, ↓h27', hq, h50]
       refine Wp.ctx (fun x => seqW _ _ _ _ (blockW _ (blockW _ (x)))) (L11_2_ok s10 s35 s36 s37 r48 (r48.length : Int) w0_0 y2_47 ((0 : Int), y1) _ o (by kernel_rfl) h64) ?_
       intro e st hq
       cases o with
       | next _ => (first | cases h | (simp at h))
       | jmp n_ s_ =>
        obtain ⟨rfl, rfl, hq⟩ := hq
        obtain ⟨s101_65, y1_65⟩ := s_
        unfold F11_2 at hq
        (try simp only [] at h hq)
        obtain rfl := Option.some.inj h
        simp (maxSteps := 10000000) (implicitDefEqProofs := false) (disch := first | assumption | omega | exact rfl) only [bs, rs11, ls11, Nat.reduceAdd, ↓reduceIte, allP, lenD_lst u38, lenD_lst u53, loadD_iagg a59 z59, loadD_iptr a3, loadD_iptr a38, loadD_pagg a25 z25, loadD_ptr a26, loadD_ptr a3, loadD_ptr a38, mkFn, ops_makeFunc_, storeD_agg z59, wks_nil_, hg, ↓h11', h14, h17, ↓h18', ↓h19', ↓h20', h23, h26, ↓h27', hq, h50, hq]
        exact ⟨rfl, by kernel_rfl⟩
       | ret _ => (first | cases h | (simp at h))
      | ret _ => (first | cases h | (simp at h))
     ·rw [if_neg h27] at h
      have h27' : decide (r21 = v24.Parent) = false := decide_eq_false h27
      by_cases hw_ : (y1.length + 1) * 24 ≤ 140737488355328
      case neg => rw [if_neg hw_] at h; cases h
      rw [if_pos hw_] at h
      have h67 := hw_
      have h66 : ∀ (H : List Ob) (id : Nat), apOb H id 0 y1.length 1 3 3 24 [.v (.int .i64 (1 : Int)), .v (.int .i64 s37), .v (.int .i64 r15)] (some (.arr (encL en_Move y1))) = some (.ref H.length 0 (y1 ++ [(Move.mk (1 : Int) s37 r15)]).length 3, H.set id .dead ++ [.arr (encL en_Move (y1 ++ [(Move.mk (1 : Int) s37 r15)]))]) := fun H id => ap_enc (y := [(Move.mk (1 : Int) s37 r15)]) en_Move_len (by first | rfl | omega) rfl (by first | (simp only [encL_cons, encL_nil, en_Move_eq, List.cons_append, List.nil_append]; done) | (simp only [encL_cons, encL_nil, en_Move_eq, List.cons_append, List.nil_append]; rfl) | rfl) (by assumption)
      obtain ⟨o, h86, h⟩ := Option.bind_eq_some_iff.1 h
      simp (maxSteps := 10000000) (implicitDefEqProofs := false) (disch := first | assumption | omega | exact rfl) only [bs, rs11, ls11, Nat.reduceAdd, ↓reduceIte, allP, lenD_lst u38, lenD_lst u53, loadD_iagg a59 z59, loadD_iptr a3, loadD_iptr a38, loadD_pagg a25 z25, loadD_ptr a26, loadD_ptr a3, loadD_ptr a38, mkFn, ops_makeFunc_, storeD_agg z59, wks_nil_, hg, ↓h11', h14, h17, ↓h18', ↓h19', ↓h20', h23, h26, ↓h27', h66]
      refine Wp.ctx (fun x => seqW _ _ _ _ (blockW _ (seqW _ _ _ _ (blockW _ (x))))) (L11_1_ok s10 r15 s35 s36 s37 v12.Kids (v12.Kids.length : Int) w0_0 (y1 ++ [(Move.mk (1 : Int) s37 r15)]) ((0 : Int), ([] : List Int), ([] : List Int)) _ o (by kernel_rfl) h86) ?_
      intro e st hq
      cases o with
      | next _ => (first | cases h | (simp at h))
      | jmp n_ s_ =>
       obtain ⟨rfl, rfl, hq⟩ := hq
       obtain ⟨s74_87, y2_87, y3_87⟩ := s_
       unfold F11_1 at hq
       (try simp only [] at h hq)
       obtain ⟨r88, h89, h⟩ := Option.bind_eq_some_iff.1 h
       have h90 : callD (callW Try.prog A0) A0 [.var [.p (.lst false w0_0.length (encL en_Pair w0_0))], .arr (encL en_Move (y1 ++ [(Move.mk (1 : Int) s37 r15)])), .arr (encL en_i64 y2_87), .arr (encL en_i64 y3_87)] 18 [.ref 3 0 y3_87.length 1] = some (.p (.lst false r88.length (encL en_i64 r88)), some [.var [.p (.lst false w0_0.length (encL en_Pair w0_0))], .arr (encL en_Move (y1 ++ [(Move.mk (1 : Int) s37 r15)])), .arr (encL en_i64 y2_87), .frz (encL en_i64 y3_87)]) := (callD_give (args := [.lst false y3_87.length (encL en_i64 y3_87)]) (ids := [3]) rfl rfl (by rw [giveD_arr (x := y3_87) en_i64_len rfl (by first | rfl | omega)]; rw [giveD_nil]; first | rfl | (simp only [wk, wks, wkL]; rfl)) (moves_Least_callp h89)).trans rfl
       obtain ⟨o, h104, h⟩ := Option.bind_eq_some_iff.1 h
       simp (maxSteps := 10000000) (implicitDefEqProofs := false) (disch := first | assumption | omega | exact rfl) only [bs, rs11, ls11, Nat.reduceAdd, ↓reduceIte, allP, lenD_lst u38, lenD_lst u53, loadD_iagg a59 z59, loadD_iptr a3, loadD_iptr a38, loadD_pagg a25 z25, loadD_ptr a26, loadD_ptr a3, loadD_ptr a38, mkFn, ops_makeFunc_, storeD_agg z59, wks_nil_, hg, ↓h11', h14, h17, ↓h18', ↓h19', ↓h20', h23, h26, ↓h27', h66, hq, h90]
       refine Wp.ctx (fun x => seqW _ _ _ _ (blockW _ (blockW _ (x)))) (L11_2_ok s10 s35 s36 s37 r88 (r88.length : Int) w0_0 y2_87 ((0 : Int), (y1 ++ [(Move.mk (1 : Int) s37 r15)])) _ o (by kernel_rfl) h104) ?_
       intro e st hq
       cases o with
       | next _ => (first | cases h | (simp at h))
       | jmp n_ s_ =>
        obtain ⟨rfl, rfl, hq⟩ := hq
        obtain ⟨s101_105, y1_105⟩ := s_
        unfold F11_2 at hq
        (try simp only [] at h hq)
        obtain rfl := Option.some.inj h
        simp (maxSteps := 10000000) (implicitDefEqProofs := false) (disch := first | assumption | omega | exact rfl) only [bs, rs11, ls11, Nat.reduceAdd, ↓reduceIte, allP, lenD_lst u38, lenD_lst u53, loadD_iagg a59 z59, loadD_iptr a3, loadD_iptr a38, loadD_pagg a25 z25, loadD_ptr a26, loadD_ptr a3, loadD_ptr a38, mkFn, ops_makeFunc_, storeD_agg z59, wks_nil_, hg, ↓h11', h14, h17, ↓h18', ↓h19', ↓h20', h23, h26, ↓h27', h66, hq, h90, hq]
        exact ⟨rfl, by kernel_rfl⟩
       | ret _ => (first | cases h | (simp at h))
      | ret _ => (first | cases h | (simp at h))
    ·rw [if_neg h20] at h
     have h20' : decide ((0 : Int) < r15) = false := decide_eq_false h20
     obtain ⟨o, h124, h⟩ := Option.bind_eq_some_iff.1 h
     simp (maxSteps := 10000000) (implicitDefEqProofs := false) (disch := first | assumption | omega | exact rfl) only [bs, rs11, ls11, Nat.reduceAdd, ↓reduceIte, allP, lenD_lst u38, lenD_lst u53, loadD_iagg a59 z59, loadD_iptr a3, loadD_iptr a38, loadD_pagg a25 z25, loadD_ptr a26, loadD_ptr a3, loadD_ptr a38, mkFn, ops_makeFunc_, storeD_agg z59, wks_nil_, hg, ↓h11', h14, h17, ↓h18', ↓h19', ↓h20']
     refine Wp.ctx (fun x => seqW _ _ _ _ (blockW _ (seqW _ _ _ _ (blockW _ (x))))) (L11_1_ok s10 r15 s35 s36 s37 v12.Kids (v12.Kids.length : Int) w0_0 y1 ((0 : Int), ([] : List Int), ([] : List Int)) _ o (by kernel_rfl) h124) ?_
     intro e st hq
     cases o with
     | next _ => (first | cases h | (simp at h))
     | jmp n_ s_ =>
      obtain ⟨rfl, rfl, hq⟩ := hq
      obtain ⟨s74_125, y2_125, y3_125⟩ := s_
      unfold F11_1 at hq
      (try simp only [] at h hq)
      obtain ⟨r126, h127, h⟩ := Option.bind_eq_some_iff.1 h
      have h128 : callD (callW Try.prog A0) A0 [.var [.p (.lst false w0_0.length (encL en_Pair w0_0))], .arr (encL en_Move y1), .arr (encL en_i64 y2_125), .arr (encL en_i64 y3_125)] 18 [.ref 3 0 y3_125.length 1] = some (.p (.lst false r126.length (encL en_i64 r126)), some [.var [.p (.lst false w0_0.length (encL en_Pair w0_0))], .arr (encL en_Move y1), .arr (encL en_i64 y2_125), .frz (encL en_i64 y3_125)]) := (callD_give (args := [.lst false y3_125.length (encL en_i64 y3_125)]) (ids := [3]) rfl rfl (by rw [giveD_arr (x := y3_125) en_i64_len rfl (by first | rfl | omega)]; rw [giveD_nil]; first | rfl | (simp only [wk, wks, wkL]; rfl)) (moves_Least_callp h127)).trans rfl
      obtain ⟨o, h142, h⟩ := Option.bind_eq_some_iff.1 h
      simp (maxSteps := 10000000) (implicitDefEqProofs := false) (disch := first | assumption | omega | exact rfl) only [bs, rs11, ls11, Nat.reduceAdd, ↓reduceIte, allP, lenD_lst u38, lenD_lst u53, loadD_iagg a59 z59, loadD_iptr a3, loadD_iptr a38, loadD_pagg a25 z25, loadD_ptr a26, loadD_ptr a3, loadD_ptr a38, mkFn, ops_makeFunc_, storeD_agg z59, wks_nil_, hg, ↓h11', h14, h17, ↓h18', ↓h19', ↓h20', hq, h128]
      refine Wp.ctx (fun x => seqW _ _ _ _ (blockW _ (blockW _ (x)))) (L11_2_ok s10 s35 s36 s37 r126 (r126.length : Int) w0_0 y2_125 ((0 : Int), y1) _ o (by kernel_rfl) h142) ?_
      intro e st hq
      cases o with
      | next _ => (first | cases h | (simp at h))
      | jmp n_ s_ =>
       obtain ⟨rfl, rfl, hq⟩ := hq
       obtain ⟨s101_143, y1_143⟩ := s_
       unfold F11_2 at hq
       (try simp only [] at h hq)
       obtain rfl := Option.some.inj h
       simp (maxSteps := 10000000) (implicitDefEqProofs := false) (disch := first | assumption | omega | exact rfl) only [bs, rs11, ls11, Nat.reduceAdd, ↓reduceIte, allP, lenD_lst u38, lenD_lst u53, loadD_iagg a59 z59, loadD_iptr a3, loadD_iptr a38, loadD_pagg a25 z25, loadD_ptr a26, loadD_ptr a3, loadD_ptr a38, mkFn, ops_makeFunc_, storeD_agg z59, wks_nil_, hg, ↓h11', h14, h17, ↓h18', ↓h19', ↓h20', hq, h128, hq]
       exact ⟨rfl, by kernel_rfl⟩
      | ret _ => (first | cases h | (simp at h))
     | ret _ => (first | cases h | (simp at h))
   ·rw [if_neg h19] at h
    have h19' : decide ((0 : Int) < s37) = false := decide_eq_false h19
    obtain ⟨o, h162, h⟩ := Option.bind_eq_some_iff.1 h
    simp (maxSteps := 10000000) (implicitDefEqProofs := false) (disch := first | assumption | omega | exact rfl) only [bs, rs11, ls11, Nat.reduceAdd, ↓reduceIte, allP, lenD_lst u38, lenD_lst u53, loadD_iagg a59 z59, loadD_iptr a3, loadD_iptr a38, loadD_pagg a25 z25, loadD_ptr a26, loadD_ptr a3, loadD_ptr a38, mkFn, ops_makeFunc_, storeD_agg z59, wks_nil_, hg, ↓h11', h14, h17, ↓h18', ↓h19']
    refine Wp.ctx (fun x => seqW _ _ _ _ (blockW _ (seqW _ _ _ _ (blockW _ (x))))) (L11_1_ok s10 r15 s35 s36 s37 v12.Kids (v12.Kids.length : Int) w0_0 y1 ((0 : Int), ([] : List Int), ([] : List Int)) _ o (by kernel_rfl) h162) ?_
    intro e st hq
    cases o with
    | next _ => (first | cases h | (simp at h))
    | jmp n_ s_ =>
     obtain ⟨rfl, rfl, hq⟩ := hq
     obtain ⟨s74_163, y2_163, y3_163⟩ := s_
     unfold F11_1 at hq
     (try simp only [] at h hq)
     obtain ⟨r164, h165, h⟩ := Option.bind_eq_some_iff.1 h
     have h166 : callD (callW Try.prog A0) A0 [.var [.p (.lst false w0_0.length (encL en_Pair w0_0))], .arr (encL en_Move y1), .arr (encL en_i64 y2_163), .arr (encL en_i64 y3_163)] 18 [.ref 3 0 y3_163.length 1] = some (.p (.lst false r164.length (encL en_i64 r164)), some [.var [.p (.lst false w0_0.length (encL en_Pair w0_0))], .arr (encL en_Move y1), .arr (encL en_i64 y2_163), .frz (encL en_i64 y3_163)]) := (callD_give (args := [.lst false y3_163.length (encL en_i64 y3_163)]) (ids := [3]) rfl rfl (by rw [giveD_arr (x := y3_163) en_i64_len rfl (by first | rfl | omega)]; rw [giveD_nil]; first | rfl | (simp only [wk, wks, wkL]; rfl)) (moves_Least_callp h165)).trans rfl
     obtain ⟨o, h180, h⟩ := Option.bind_eq_some_iff.1 h
     simp (maxSteps := 10000000) (implicitDefEqProofs := false) (disch := first | assumption | omega | exact rfl) only [bs, rs11, ls11, Nat.reduceAdd, ↓reduceIte, allP, lenD_lst u38, lenD_lst u53, loadD_iagg a59 z59, loadD_iptr a3, loadD_iptr a38, loadD_pagg a25 z25, loadD_ptr a26, loadD_ptr a3, loadD_ptr a38, mkFn, ops_makeFunc_, storeD_agg z59, wks_nil_, hg, ↓h11', h14, h17, ↓h18', ↓h19', hq, h166]
     refine Wp.ctx (fun x => seqW _ _ _ _ (blockW _ (blockW _ (x)))) (L11_2_ok s10 s35 s36 s37 r164 (r164.length : Int) w0_0 y2_163 ((0 : Int), y1) _ o (by kernel_rfl) h180) ?_
     intro e st hq
     cases o with
     | next _ => (first | cases h | (simp at h))
     | jmp n_ s_ =>
      obtain ⟨rfl, rfl, hq⟩ := hq
      obtain ⟨s101_181, y1_181⟩ := s_
      unfold F11_2 at hq
      (try simp only [] at h hq)
      obtain rfl := Option.some.inj h
      simp (maxSteps := 10000000) (implicitDefEqProofs := false) (disch := first | assumption | omega | exact rfl) only [bs, rs11, ls11, Nat.reduceAdd, ↓reduceIte, allP, lenD_lst u38, lenD_lst u53, loadD_iagg a59 z59, loadD_iptr a3, loadD_iptr a38, loadD_pagg a25 z25, loadD_ptr a26, loadD_ptr a3, loadD_ptr a38, mkFn, ops_makeFunc_, storeD_agg z59, wks_nil_, hg, ↓h11', h14, h17, ↓h18', ↓h19', hq, h166, hq]
      exact ⟨rfl, by kernel_rfl⟩
     | ret _ => (first | cases h | (simp at h))
    | ret _ => (first | cases h | (simp at h))
 ·rw [if_neg h11] at h
  have h11' : decide (s37 < s36) = false := decide_eq_false h11
  obtain rfl := Option.some.inj h
  simp (maxSteps := 10000000) (implicitDefEqProofs := false) (disch := first | assumption | omega | exact rfl) only [bs, rs11, ls11, Nat.reduceAdd, ↓reduceIte, allP, lenD_lst u38, lenD_lst u53, loadD_iagg a59 z59, loadD_iptr a3, loadD_iptr a38, loadD_pagg a25 z25, loadD_ptr a26, loadD_ptr a3, loadD_ptr a38, mkFn, ops_makeFunc_, storeD_agg z59, wks_nil_, hg, ↓h11']
  exact ⟨rfl, rfl, by kernel_rfl⟩
theorem f11_ok  (x0 : Node) (x1 : Node) (x2 : (List Pair)) (r : ((List Move) × Int)) (h : moves_Moves x0 x1 x2 = some r) : callW Try.prog A0 11 [.p (.agg [.v (.int .i64 x0.Kind), .v (.string x0.Text), .lst false x0.Gaps.length (encL en_str x0.Gaps), .lst false x0.Kids.length (encL en_Node x0.Kids)]), .p (.agg [.v (.int .i64 x1.Kind), .v (.string x1.Text), .lst false x1.Gaps.length (encL en_str x1.Gaps), .lst false x1.Kids.length (encL en_Node x1.Kids)]), .p (.lst false x2.length (encL en_Pair x2))] [] = some (.p (.tup [.lst false r.1.length (encL en_Move r.1), .v (.int .i64 r.2)]), []) := by
 refine call_ofH (fn := Try.f11) (c := bodyOf Try.f11) rfl (by kernel_rfl) (by kernel_rfl) ?_
 rw [show initS Try.f11 [.p (.agg [.v (.int .i64 x0.Kind), .v (.string x0.Text), .lst false x0.Gaps.length (encL en_str x0.Gaps), .lst false x0.Kids.length (encL en_Node x0.Kids)]), .p (.agg [.v (.int .i64 x1.Kind), .v (.string x1.Text), .lst false x1.Gaps.length (encL en_str x1.Gaps), .lst false x1.Kids.length (encL en_Node x1.Kids)]), .p (.lst false x2.length (encL en_Pair x2))] [] = ⟨.p (.agg [.v (.int .i64 x0.Kind), .v (.string x0.Text), .lst false x0.Gaps.length (encL en_str x0.Gaps), .lst false x0.Kids.length (encL en_Node x0.Kids)]) :: .p (.agg [.v (.int .i64 x1.Kind), .v (.string x1.Text), .lst false x1.Gaps.length (encL en_str x1.Gaps), .lst false x1.Kids.length (encL en_Node x1.Kids)]) :: .p (.lst false x2.length (encL en_Pair x2)) :: List.replicate 121 undefD, [], 0⟩ from by kernel_rfl]
 unfold moves_Moves at h
 unfold bodyOf Try.f11; simp only [Option.getD_some, loopsOf, List.append_nil, List.nil_append, List.cons_append, List.getD_cons_zero, List.getD_cons_succ]
 simp only [List.replicate]
 obtain ⟨r1, h2, h⟩ := Option.bind_eq_some_iff.1 h
 have h3 : ∀ H, callD (callW Try.prog A0) A0 H 28 [.p (.agg [.v (.int .i64 x0.Kind), .v (.string x0.Text), .lst false x0.Gaps.length (encL en_str x0.Gaps), .lst false x0.Kids.length (encL en_Node x0.Kids)]), .p (.agg [.v (.int .i64 x1.Kind), .v (.string x1.Text), .lst false x1.Gaps.length (encL en_str x1.Gaps), .lst false x1.Kids.length (encL en_Node x1.Kids)]), .p (.lst false x2.length (encL en_Pair x2))] = some (.p (.v (.int .i64 r1)), none) := fun H => match_Check_call h2
 by_cases h4 : r1 = (0 : Int)
 ·rw [if_pos h4] at h
  have h4' : decide (r1 = (0 : Int)) = true := decide_eq_true h4
  obtain ⟨r5, h6, h⟩ := Option.bind_eq_some_iff.1 h
  have h7 : ∀ H, callD (callW Try.prog A0) A0 H 29 [.p (.agg [.v (.int .i64 x0.Kind), .v (.string x0.Text), .lst false x0.Gaps.length (encL en_str x0.Gaps), .lst false x0.Kids.length (encL en_Node x0.Kids)])] = some (.p (.lst false r5.length (encL en_Row r5)), none) := fun H => tree_Rows_call h6
  obtain ⟨r8, h9, h⟩ := Option.bind_eq_some_iff.1 h
  have h10 : ∀ H, callD (callW Try.prog A0) A0 H 29 [.p (.agg [.v (.int .i64 x1.Kind), .v (.string x1.Text), .lst false x1.Gaps.length (encL en_str x1.Gaps), .lst false x1.Kids.length (encL en_Node x1.Kids)])] = some (.p (.lst false r8.length (encL en_Row r8)), none) := fun H => tree_Rows_call h9
  obtain ⟨o, h182, h⟩ := Option.bind_eq_some_iff.1 h
  simp (maxSteps := 10000000) (implicitDefEqProofs := false) (disch := first | assumption | omega | exact rfl) only [bs, rs11, ls11, Nat.reduceAdd, ↓reduceIte, allP, lenD_lst u38, lenD_lst u53, loadD_iagg a59 z59, loadD_iptr a3, loadD_iptr a38, loadD_pagg a25 z25, loadD_ptr a26, loadD_ptr a3, loadD_ptr a38, mkFn, ops_makeFunc_, storeD_agg z59, wks_nil_, h3, ↓h4', h7, h10]
  refine Wp.ctx (fun x => seqW _ _ _ _ (blockW _ (x))) (L11_0_ok r8 r5 (r5.length : Int) x2 ((0 : Int), ([] : List Move)) _ o (by kernel_rfl) h182) ?_
  intro e st hq
  cases o with
  | next _ => (first | cases h | (simp at h))
  | jmp n_ s_ =>
   obtain ⟨rfl, rfl, hq⟩ := hq
   obtain ⟨s37_183, y1_183⟩ := s_
   unfold F11_0 at hq
   (try simp only [] at h hq)
   obtain ⟨r184, h185, h⟩ := Option.bind_eq_some_iff.1 h
   have h186 : callD (callW Try.prog A0) A0 [.var [.p (.lst false x2.length (encL en_Pair x2))], .arr (encL en_Move y1_183)] 33 [.ref 1 0 y1_183.length 3, .p (.fn (.func 34) [])] = some (.p (.tup []), some [.var [.p (.lst false x2.length (encL en_Pair x2))], .arr (encL en_Move r184)]) := (callD_put (dsw := [.ref 1 0 y1_183.length 3, .p (.fn (.func 34) [])]) (ds' := [.ref 0 0 y1_183.length 3, .p (.fn (.func 34) [])]) (i := 1) (ids := []) (o := .arr (encL en_Move y1_183)) (os := []) (o' := .arr (encL en_Move r184)) (os' := []) rfl (by kernel_rfl) (by kernel_rfl) (by kernel_rfl) (by kernel_rfl) (by kernel_rfl) (slices_SortFunc_34_call h185) rfl rfl).trans (by kernel_rfl)
   by_cases hw_ : r184.length = y1_183.length
   case neg => rw [if_neg hw_] at h; cases h
   rw [if_pos hw_] at h
   have h187 := hw_
   obtain rfl := Option.some.inj h
   simp (maxSteps := 10000000) (implicitDefEqProofs := false) (disch := first | assumption | omega | exact rfl) only [bs, rs11, ls11, Nat.reduceAdd, ↓reduceIte, allP, lenD_lst u38, lenD_lst u53, loadD_iagg a59 z59, loadD_iptr a3, loadD_iptr a38, loadD_pagg a25 z25, loadD_ptr a26, loadD_ptr a3, loadD_ptr a38, mkFn, ops_makeFunc_, storeD_agg z59, wks_nil_, h3, ↓h4', h7, h10, hq, h186]
   refine ⟨by first | exact .inl trivial | exact .inr trivial | simp, ?_⟩
   exact finish_is (ds := [.ref 1 0 y1_183.length 3, iv (0 : Int)]) (x := .tup [.lst false r184.length (encL en_Move r184), .v (.int .i64 (0 : Int))]) (y := .tup [.lst false r184.length (encL en_Move r184), .v (.int .i64 (0 : Int))]) (l := [1]) rfl rfl rfl (purifyT_rp en_Move_len rfl (by first | rfl | omega)) (by first | rfl | (simp only [wk, wks, wkL]; first | done | rfl))
  | ret _ => (first | cases h | (simp at h))
 ·rw [if_neg h4] at h
  have h4' : decide (r1 = (0 : Int)) = false := decide_eq_false h4
  obtain rfl := Option.some.inj h
  simp (maxSteps := 10000000) (implicitDefEqProofs := false) (disch := first | assumption | omega | exact rfl) only [bs, rs11, ls11, Nat.reduceAdd, ↓reduceIte, allP, lenD_lst u38, lenD_lst u53, loadD_iagg a59 z59, loadD_iptr a3, loadD_iptr a38, loadD_pagg a25 z25, loadD_ptr a26, loadD_ptr a3, loadD_ptr a38, mkFn, ops_makeFunc_, storeD_agg z59, wks_nil_, h3, ↓h4']
  refine ⟨by first | exact .inl trivial | exact .inr trivial | simp, ?_⟩
  exact finish_is (ds := [.p (.lst true 0 []), iv r1]) (x := .tup [.lst true 0 [], .v (.int .i64 r1)]) (y := .tup [.lst false ([] : List Move).length (encL en_Move ([] : List Move)), .v (.int .i64 r1)]) (l := []) rfl rfl rfl rfl (by first | rfl | (simp only [wk, wks, wkL]; first | done | rfl))
theorem moves_Moves_call {b1 b2 b3 b4 b5 : Bool} {H : List Ob} {x0 : Node} {x1 : Node} {x2 : (List Pair)} {r : ((List Move) × Int)} (h : moves_Moves x0 x1 x2 = some r) : callD (callW Try.prog A0) A0 H 11 [.p (.agg [.v (.int .i64 x0.Kind), .v (.string x0.Text), .lst b1 x0.Gaps.length (encL en_str x0.Gaps), .lst b2 x0.Kids.length (encL en_Node x0.Kids)]), .p (.agg [.v (.int .i64 x1.Kind), .v (.string x1.Text), .lst b3 x1.Gaps.length (encL en_str x1.Gaps), .lst b4 x1.Kids.length (encL en_Node x1.Kids)]), .p (.lst b5 x2.length (encL en_Pair x2))] = some (.p (.tup [.lst false r.1.length (encL en_Move r.1), .v (.int .i64 r.2)]), none) :=
  callD_fun (args := [.agg [.v (.int .i64 x0.Kind), .v (.string x0.Text), .lst b1 x0.Gaps.length (encL en_str x0.Gaps), .lst b2 x0.Kids.length (encL en_Node x0.Kids)], .agg [.v (.int .i64 x1.Kind), .v (.string x1.Text), .lst b3 x1.Gaps.length (encL en_str x1.Gaps), .lst b4 x1.Kids.length (encL en_Node x1.Kids)], .lst b5 x2.length (encL en_Pair x2)]) rfl rfl rfl (by simp only [List.map_cons, List.map_nil, wk, wks, wkL]; exact f11_ok x0 x1 x2 _ h)
def ls42 := And.intro @ap_26_26 (And.intro @bs_26_0 (And.intro @bs_26_1 (And.intro @eql_46 (And.intro @faI_46_0 (And.intro @faI_46_1 (And.intro @faP_46_0 (And.intro @faP_46_1 (And.intro @idxL_26 (And.intro @varld_2_0_0 (And.intro @varld_2_0_1 (@varlv_2_0_2)))))))))))
noncomputable def L42_0 : Code := (loopsOf (bodyOf Try.f42)).getD 0 .skip
def g42_0 : List Ghost := [.own 5 2, .weak [0], .keep [0, 3, 5, 6, 7]]
def F42_0 (s0 : (List Pair)) (w0_0 : Int) (w0_1 : Int) : (Bool × Int × (List Pair)) → St := fun (s6, s7, y1) => ⟨[.p (.lst false s0.length (encL en_Pair s0)), .junk, .junk, .ptr 0 0, .junk, .ref 1 0 y1.length 2, bv s6, iv s7, .junk, .junk, .junk, .junk, .junk, .junk, .junk, .junk, .junk, .junk, .junk, .junk, .junk, .junk, .junk, .junk, .junk, .junk, .junk, .junk, .junk, .junk, .junk, .junk, .junk, .junk, .junk, .junk, .junk, .junk, .junk, .junk, .junk, .junk, .junk, .junk, .junk, .junk, .junk, .junk, .junk, .junk, .junk, .junk, .junk, .junk, .junk, .junk, .junk, .junk, .junk, .junk, .junk, .junk, .junk, .junk, .junk, .junk, .junk, .junk, .junk, .junk, .junk], [.var [iv w0_0, iv w0_1], .arr (encL en_Pair y1)], 0⟩
theorem L42_0_ok (s0 : (List Pair)) (w0_0 : Int) (w0_1 : Int) : ∀ s st o, ghostsD g42_0 st = some (F42_0 s0 w0_0 w0_1 s) → iter (R24_Insert_L0 s0 w0_0 w0_1) s = some o →
    Wp (evW Try.prog A0 42 (.loop L42_0) st) (OutQ (F42_0 s0 w0_0 w0_1) g42_0 (fun n s st => n = 0 ∧ ghostsD [.keep [0, 3, 5, 6, 7]] st = some (F42_0 s0 w0_0 w0_1 s)) (fun r st => finishD Try.prog A0 42 Try.f42 st = some (.p (.lst false r.length (encL en_Pair r)), [])) o) := by
 refine Wp.iter ?_
 intro s st o hg h
 obtain ⟨s6, s7, y1⟩ := s
 unfold R24_Insert_L0 at h
 unfold g42_0 F42_0 at hg ⊢
 (try simp only [] at h hg)
 unfold L42_0 bodyOf Try.f42; simp only [Option.getD_some, loopsOf, List.append_nil, List.nil_append, List.cons_append, List.getD_cons_zero, List.getD_cons_succ]
 by_cases h1 : s7 < (s0.length : Int)
 ·rw [if_pos h1] at h
  have h1' : decide (s7 < (s0.length : Int)) = true := decide_eq_true h1
  obtain ⟨v2, h3, h⟩ := Option.bind_eq_some_iff.1 h
  obtain ⟨h3a, h3b, _⟩ := rd_some h3
  have h4 := lk_frz_46 h3
  by_cases h5 : v2.Old = w0_0 ∧ v2.New = w0_1
  ·rw [if_pos h5] at h
   have h5' : decide (v2.Old = w0_0 ∧ v2.New = w0_1) = true := decide_eq_true h5
   have h6 := lk_frz_46 h3
   by_cases hw_ : (y1.length + 1) * 16 ≤ 140737488355328
   case neg => rw [if_neg hw_] at h; cases h
   rw [if_pos hw_] at h
   have h8 := hw_
   have h7 : ∀ (H : List Ob) (id : Nat), apOb H id 0 y1.length 1 2 2 16 [.v (.int .i64 v2.Old), .v (.int .i64 v2.New)] (some (.arr (encL en_Pair y1))) = some (.ref H.length 0 (y1 ++ [v2]).length 2, H.set id .dead ++ [.arr (encL en_Pair (y1 ++ [v2]))]) := fun H id => ap_enc (y := [v2]) en_Pair_len (by first | rfl | omega) rfl (by first | (simp only [encL_cons, encL_nil, en_Pair_eq, List.cons_append, List.nil_append]; done) | (simp only [encL_cons, encL_nil, en_Pair_eq, List.cons_append, List.nil_append]; rfl) | rfl) (by assumption)
   obtain rfl := Option.some.inj h
   simp (maxSteps := 10000000) (implicitDefEqProofs := false) (disch := first | assumption | omega | exact rfl) only [bs, rs42, ls42, Nat.reduceAdd, ↓reduceIte, lenD_lst u26, loadD_iagg a46 z46, loadD_iptr a3, loadD_pagg a46 z46, loadD_ptr a3, wks_nil_, hg, ↓h1', h4, ↓h5', h6, h7]
   exact ⟨rfl, by kernel_rfl⟩
  ·rw [if_neg h5] at h
   have h5' : decide (v2.Old = w0_0 ∧ v2.New = w0_1) = false := decide_eq_false h5
   by_cases h9 : s6 = true
   ·rw [if_pos h9] at h
    have h10 := lk_frz_46 h3
    by_cases hw_ : (y1.length + 1) * 16 ≤ 140737488355328
    case neg => rw [if_neg hw_] at h; cases h
    rw [if_pos hw_] at h
    have h12 := hw_
    have h11 : ∀ (H : List Ob) (id : Nat), apOb H id 0 y1.length 1 2 2 16 [.v (.int .i64 v2.Old), .v (.int .i64 v2.New)] (some (.arr (encL en_Pair y1))) = some (.ref H.length 0 (y1 ++ [v2]).length 2, H.set id .dead ++ [.arr (encL en_Pair (y1 ++ [v2]))]) := fun H id => ap_enc (y := [v2]) en_Pair_len (by first | rfl | omega) rfl (by first | (simp only [encL_cons, encL_nil, en_Pair_eq, List.cons_append, List.nil_append]; done) | (simp only [encL_cons, encL_nil, en_Pair_eq, List.cons_append, List.nil_append]; rfl) | rfl) (by assumption)
    obtain rfl := Option.some.inj h
    simp (maxSteps := 10000000) (implicitDefEqProofs := false) (disch := first | assumption | omega | exact rfl) only [bs, rs42, ls42, Nat.reduceAdd, ↓reduceIte, lenD_lst u26, loadD_iagg a46 z46, loadD_iptr a3, loadD_pagg a46 z46, loadD_ptr a3, wks_nil_, hg, ↓h1', h4, ↓h5', h9, h10, h11]
    exact ⟨rfl, by kernel_rfl⟩
   ·rw [if_neg h9] at h
    replace h9 := Bool.eq_false_iff.2 h9
    have h13 := ce_46__0 h3
    by_cases h14 : w0_0 < v2.Old
    ·rw [if_pos h14] at h
     have h14' : decide (w0_0 < v2.Old) = true := decide_eq_true h14
     by_cases hw_ : (y1.length + 1) * 16 ≤ 140737488355328
     case neg => rw [if_neg hw_] at h; cases h
     rw [if_pos hw_] at h
     have h16 := hw_
     have h15 : ∀ (H : List Ob) (id : Nat), apOb H id 0 y1.length 1 2 2 16 [.v (.int .i64 w0_0), .v (.int .i64 w0_1)] (some (.arr (encL en_Pair y1))) = some (.ref H.length 0 (y1 ++ [(Pair.mk w0_0 w0_1)]).length 2, H.set id .dead ++ [.arr (encL en_Pair (y1 ++ [(Pair.mk w0_0 w0_1)]))]) := fun H id => ap_enc (y := [(Pair.mk w0_0 w0_1)]) en_Pair_len (by first | rfl | omega) rfl (by first | (simp only [encL_cons, encL_nil, en_Pair_eq, List.cons_append, List.nil_append]; done) | (simp only [encL_cons, encL_nil, en_Pair_eq, List.cons_append, List.nil_append]; rfl) | rfl) (by assumption)
     have h17 := lk_frz_46 h3
     by_cases hw_ : ((y1 ++ [(Pair.mk w0_0 w0_1)]).length + 1) * 16 ≤ 140737488355328
     case neg => rw [if_neg hw_] at h; cases h
     rw [if_pos hw_] at h
     have h19 := hw_
     have h18 : ∀ (H : List Ob) (id : Nat), apOb H id 0 ((y1 ++ [(Pair.mk w0_0 w0_1)]).length) 1 2 2 16 [.v (.int .i64 v2.Old), .v (.int .i64 v2.New)] (some (.arr (encL en_Pair (y1 ++ [(Pair.mk w0_0 w0_1)])))) = some (.ref H.length 0 ((y1 ++ [(Pair.mk w0_0 w0_1)]) ++ [v2]).length 2, H.set id .dead ++ [.arr (encL en_Pair ((y1 ++ [(Pair.mk w0_0 w0_1)]) ++ [v2]))]) := fun H id => ap_enc (y := [v2]) en_Pair_len (by first | rfl | omega) rfl (by first | (simp only [encL_cons, encL_nil, en_Pair_eq, List.cons_append, List.nil_append]; done) | (simp only [encL_cons, encL_nil, en_Pair_eq, List.cons_append, List.nil_append]; rfl) | rfl) (by assumption)
     obtain rfl := Option.some.inj h
     simp (maxSteps := 10000000) (implicitDefEqProofs := false) (disch := first | assumption | omega | exact rfl) only [bs, rs42, ls42, Nat.reduceAdd, ↓reduceIte, lenD_lst u26, loadD_iagg a46 z46, loadD_iptr a3, loadD_pagg a46 z46, loadD_ptr a3, wks_nil_, hg, ↓h1', h4, ↓h5', h9, h13, ↓h14', h15, h17, h18]
     exact ⟨rfl, by kernel_rfl⟩
    ·rw [if_neg h14] at h
     have h14' : decide (w0_0 < v2.Old) = false := decide_eq_false h14
     have h20 := ce_46__0 h3
     by_cases h21 : v2.Old = w0_0
     ·rw [if_pos h21] at h
      have h21' : decide (v2.Old = w0_0) = true := decide_eq_true h21
      have h22 := ce_46__1 h3
      by_cases h23 : w0_1 < v2.New
      ·rw [if_pos h23] at h
       have h23' : decide (w0_1 < v2.New) = true := decide_eq_true h23
       by_cases hw_ : (y1.length + 1) * 16 ≤ 140737488355328
       case neg => rw [if_neg hw_] at h; cases h
       rw [if_pos hw_] at h
       have h25 := hw_
       have h24 : ∀ (H : List Ob) (id : Nat), apOb H id 0 y1.length 1 2 2 16 [.v (.int .i64 w0_0), .v (.int .i64 w0_1)] (some (.arr (encL en_Pair y1))) = some (.ref H.length 0 (y1 ++ [(Pair.mk w0_0 w0_1)]).length 2, H.set id .dead ++ [.arr (encL en_Pair (y1 ++ [(Pair.mk w0_0 w0_1)]))]) := fun H id => ap_enc (y := [(Pair.mk w0_0 w0_1)]) en_Pair_len (by first | rfl | omega) rfl (by first | (simp only [encL_cons, encL_nil, en_Pair_eq, List.cons_append, List.nil_append]; done) | (simp only [encL_cons, encL_nil, en_Pair_eq, List.cons_append, List.nil_append]; rfl) | rfl) (by assumption)
       have h26 := lk_frz_46 h3
       by_cases hw_ : ((y1 ++ [(Pair.mk w0_0 w0_1)]).length + 1) * 16 ≤ 140737488355328
       case neg => rw [if_neg hw_] at h; cases h
       rw [if_pos hw_] at h
       have h28 := hw_
       have h27 : ∀ (H : List Ob) (id : Nat), apOb H id 0 ((y1 ++ [(Pair.mk w0_0 w0_1)]).length) 1 2 2 16 [.v (.int .i64 v2.Old), .v (.int .i64 v2.New)] (some (.arr (encL en_Pair (y1 ++ [(Pair.mk w0_0 w0_1)])))) = some (.ref H.length 0 ((y1 ++ [(Pair.mk w0_0 w0_1)]) ++ [v2]).length 2, H.set id .dead ++ [.arr (encL en_Pair ((y1 ++ [(Pair.mk w0_0 w0_1)]) ++ [v2]))]) := fun H id => ap_enc (y := [v2]) en_Pair_len (by first | rfl | omega) rfl (by first | (simp only [encL_cons, encL_nil, en_Pair_eq, List.cons_append, List.nil_append]; done) | (simp only [encL_cons, encL_nil, en_Pair_eq, List.cons_append, List.nil_append]; rfl) | rfl) (by assumption)
       obtain rfl := Option.some.inj h
       simp (maxSteps := 10000000) (implicitDefEqProofs := false) (disch := first | assumption | omega | exact rfl) only [bs, rs42, ls42, Nat.reduceAdd, ↓reduceIte, lenD_lst u26, loadD_iagg a46 z46, loadD_iptr a3, loadD_pagg a46 z46, loadD_ptr a3, wks_nil_, hg, ↓h1', h4, ↓h5', h9, h13, ↓h14', h20, ↓h21', h22, ↓h23', h24, h26, h27]
       exact ⟨rfl, by kernel_rfl⟩
      ·rw [if_neg h23] at h
       have h23' : decide (w0_1 < v2.New) = false := decide_eq_false h23
       have h29 := lk_frz_46 h3
       by_cases hw_ : (y1.length + 1) * 16 ≤ 140737488355328
       case neg => rw [if_neg hw_] at h; cases h
       rw [if_pos hw_] at h
       have h31 := hw_
       have h30 : ∀ (H : List Ob) (id : Nat), apOb H id 0 y1.length 1 2 2 16 [.v (.int .i64 v2.Old), .v (.int .i64 v2.New)] (some (.arr (encL en_Pair y1))) = some (.ref H.length 0 (y1 ++ [v2]).length 2, H.set id .dead ++ [.arr (encL en_Pair (y1 ++ [v2]))]) := fun H id => ap_enc (y := [v2]) en_Pair_len (by first | rfl | omega) rfl (by first | (simp only [encL_cons, encL_nil, en_Pair_eq, List.cons_append, List.nil_append]; done) | (simp only [encL_cons, encL_nil, en_Pair_eq, List.cons_append, List.nil_append]; rfl) | rfl) (by assumption)
       obtain rfl := Option.some.inj h
       simp (maxSteps := 10000000) (implicitDefEqProofs := false) (disch := first | assumption | omega | exact rfl) only [bs, rs42, ls42, Nat.reduceAdd, ↓reduceIte, lenD_lst u26, loadD_iagg a46 z46, loadD_iptr a3, loadD_pagg a46 z46, loadD_ptr a3, wks_nil_, hg, ↓h1', h4, ↓h5', h9, h13, ↓h14', h20, ↓h21', h22, ↓h23', h29, h30]
       exact ⟨rfl, by kernel_rfl⟩
     ·rw [if_neg h21] at h
      have h21' : decide (v2.Old = w0_0) = false := decide_eq_false h21
      have h32 := lk_frz_46 h3
      by_cases hw_ : (y1.length + 1) * 16 ≤ 140737488355328
      case neg => rw [if_neg hw_] at h; cases h
      rw [if_pos hw_] at h
      have h34 := hw_
      have h33 : ∀ (H : List Ob) (id : Nat), apOb H id 0 y1.length 1 2 2 16 [.v (.int .i64 v2.Old), .v (.int .i64 v2.New)] (some (.arr (encL en_Pair y1))) = some (.ref H.length 0 (y1 ++ [v2]).length 2, H.set id .dead ++ [.arr (encL en_Pair (y1 ++ [v2]))]) := fun H id => ap_enc (y := [v2]) en_Pair_len (by first | rfl | omega) rfl (by first | (simp only [encL_cons, encL_nil, en_Pair_eq, List.cons_append, List.nil_append]; done) | (simp only [encL_cons, encL_nil, en_Pair_eq, List.cons_append, List.nil_append]; rfl) | rfl) (by assumption)
      obtain rfl := Option.some.inj h
      simp (maxSteps := 10000000) (implicitDefEqProofs := false) (disch := first | assumption | omega | exact rfl) only [bs, rs42, ls42, Nat.reduceAdd, ↓reduceIte, lenD_lst u26, loadD_iagg a46 z46, loadD_iptr a3, loadD_pagg a46 z46, loadD_ptr a3, wks_nil_, hg, ↓h1', h4, ↓h5', h9, h13, ↓h14', h20, ↓h21', h32, h33]
      exact ⟨rfl, by kernel_rfl⟩
 ·rw [if_neg h1] at h
  have h1' : decide (s7 < (s0.length : Int)) = false := decide_eq_false h1
  obtain rfl := Option.some.inj h
  simp (maxSteps := 10000000) (implicitDefEqProofs := false) (disch := first | assumption | omega | exact rfl) only [bs, rs42, ls42, Nat.reduceAdd, ↓reduceIte, lenD_lst u26, loadD_iagg a46 z46, loadD_iptr a3, loadD_pagg a46 z46, loadD_ptr a3, wks_nil_, hg, ↓h1']
  exact ⟨rfl, rfl, by kernel_rfl⟩
theorem f42_ok  (x0 : (List Pair)) (x1 : Pair) (r : (List Pair)) (h : R24_Insert x0 x1 = some r) : callW Try.prog A0 42 [.p (.lst false x0.length (encL en_Pair x0)), .p (.agg [.v (.int .i64 x1.Old), .v (.int .i64 x1.New)])] [] = some (.p (.lst false r.length (encL en_Pair r)), []) := by
 refine call_ofH (fn := Try.f42) (c := bodyOf Try.f42) rfl (by kernel_rfl) (by kernel_rfl) ?_
 rw [show initS Try.f42 [.p (.lst false x0.length (encL en_Pair x0)), .p (.agg [.v (.int .i64 x1.Old), .v (.int .i64 x1.New)])] [] = ⟨.p (.lst false x0.length (encL en_Pair x0)) :: .p (.agg [.v (.int .i64 x1.Old), .v (.int .i64 x1.New)]) :: List.replicate 69 undefD, [], 0⟩ from by kernel_rfl]
 unfold R24_Insert at h
 unfold bodyOf Try.f42; simp only [Option.getD_some, loopsOf, List.append_nil, List.nil_append, List.cons_append, List.getD_cons_zero, List.getD_cons_succ]
 simp only [List.replicate]
 obtain ⟨o, h35, h⟩ := Option.bind_eq_some_iff.1 h
 simp (maxSteps := 10000000) (implicitDefEqProofs := false) (disch := first | assumption | omega | exact rfl) only [bs, rs42, ls42, Nat.reduceAdd, ↓reduceIte, lenD_lst u26, loadD_iagg a46 z46, loadD_iptr a3, loadD_pagg a46 z46, loadD_ptr a3, wks_nil_]
 refine Wp.ctx (fun x => seqW _ _ _ _ (blockW _ (x))) (L42_0_ok x0 x1.Old x1.New (false, (0 : Int), ([] : List Pair)) _ o (by kernel_rfl) h35) ?_
 intro e st hq
 cases o with
 | next _ => (first | cases h | (simp at h))
 | jmp n_ s_ =>
  obtain ⟨rfl, rfl, hq⟩ := hq
  obtain ⟨s6_36, s7_36, y1_36⟩ := s_
  unfold F42_0 at hq
  (try simp only [] at h hq)
  by_cases h37 : s6_36 = true
  ·rw [if_pos h37] at h
   obtain rfl := Option.some.inj h
   simp (maxSteps := 10000000) (implicitDefEqProofs := false) (disch := first | assumption | omega | exact rfl) only [bs, rs42, ls42, Nat.reduceAdd, ↓reduceIte, lenD_lst u26, loadD_iagg a46 z46, loadD_iptr a3, loadD_pagg a46 z46, loadD_ptr a3, wks_nil_, hq, h37]
   refine ⟨by first | exact .inl trivial | exact .inr trivial | simp, ?_⟩
   exact finish_is (ds := [.ref 1 0 y1_36.length 2]) (x := .lst false y1_36.length (encL en_Pair y1_36)) (y := .lst false y1_36.length (encL en_Pair y1_36)) (l := [1]) rfl rfl rfl (purify1_enc en_Pair_len rfl (by first | rfl | omega)) (by first | rfl | (simp only [wk, wks, wkL]; first | done | rfl))
  ·rw [if_neg h37] at h
   replace h37 := Bool.eq_false_iff.2 h37
   by_cases hw_ : (y1_36.length + 1) * 16 ≤ 140737488355328
   case neg => rw [if_neg hw_] at h; cases h
   rw [if_pos hw_] at h
   have h39 := hw_
   have h38 : ∀ (H : List Ob) (id : Nat), apOb H id 0 y1_36.length 1 2 2 16 [.v (.int .i64 x1.Old), .v (.int .i64 x1.New)] (some (.arr (encL en_Pair y1_36))) = some (.ref H.length 0 (y1_36 ++ [x1]).length 2, H.set id .dead ++ [.arr (encL en_Pair (y1_36 ++ [x1]))]) := fun H id => ap_enc (y := [x1]) en_Pair_len (by first | rfl | omega) rfl (by first | (simp only [encL_cons, encL_nil, en_Pair_eq, List.cons_append, List.nil_append]; done) | (simp only [encL_cons, encL_nil, en_Pair_eq, List.cons_append, List.nil_append]; rfl) | rfl) (by assumption)
   obtain rfl := Option.some.inj h
   simp (maxSteps := 10000000) (implicitDefEqProofs := false) (disch := first | assumption | omega | exact rfl) only [bs, rs42, ls42, Nat.reduceAdd, ↓reduceIte, lenD_lst u26, loadD_iagg a46 z46, loadD_iptr a3, loadD_pagg a46 z46, loadD_ptr a3, wks_nil_, hq, h37, h38]
   refine ⟨by first | exact .inl trivial | exact .inr trivial | simp, ?_⟩
   exact finish_is (ds := [.ref 2 0 ((y1_36 ++ [x1]).length) 2]) (x := .lst false (y1_36 ++ [x1]).length (encL en_Pair (y1_36 ++ [x1]))) (y := .lst false (y1_36 ++ [x1]).length (encL en_Pair (y1_36 ++ [x1]))) (l := [2]) rfl rfl rfl (purify1_enc en_Pair_len rfl (by first | rfl | omega)) (by first | rfl | (simp only [wk, wks, wkL]; first | done | rfl))
 | ret _ => (first | cases h | (simp at h))
theorem R24_Insert_call {b1 : Bool} {H : List Ob} {x0 : (List Pair)} {x1 : Pair} {r : (List Pair)} (h : R24_Insert x0 x1 = some r) : callD (callW Try.prog A0) A0 H 42 [.p (.lst b1 x0.length (encL en_Pair x0)), .p (.agg [.v (.int .i64 x1.Old), .v (.int .i64 x1.New)])] = some (.p (.lst false r.length (encL en_Pair r)), none) :=
  callD_fun (args := [.lst b1 x0.length (encL en_Pair x0), .agg [.v (.int .i64 x1.Old), .v (.int .i64 x1.New)]]) rfl rfl rfl (by simp only [List.map_cons, List.map_nil, wk, wks, wkL]; exact f42_ok x0 x1 _ h)
def ls22 := And.intro @bs_26_0 (And.intro @bu_46_0_1 (And.intro @faI_46_0 (And.intro @faI_46_1 (@idxL_26))))
noncomputable def L22_0 : Code := (loopsOf (bodyOf Try.f22)).getD 0 .skip
def g22_0 : List Ghost := [.weak [0, 3], .keep [0, 3, 4]]
def F22_0 (s0 : (List Pair)) : ((List Pair) × Int) → St := fun (s3, s4) => ⟨[.p (.lst false s0.length (encL en_Pair s0)), .junk, .junk, .p (.lst false s3.length (encL en_Pair s3)), iv s4, .junk, .junk, .junk, .junk, .junk, .junk, .junk, .junk, .junk, .junk, .junk, .junk, .junk, .junk, .junk, .junk, .junk, .junk, .junk, .junk, .junk], [], 0⟩
theorem L22_0_ok (s0 : (List Pair)) : ∀ s st o, ghostsD g22_0 st = some (F22_0 s0 s) → iter (R24_Invert_L0 s0) s = some o →
    Wp (evW Try.prog A0 22 (.loop L22_0) st) (OutQ (F22_0 s0) g22_0 (fun n s st => n = 0 ∧ ghostsD [.keep [0, 3, 4]] st = some (F22_0 s0 s)) (fun r st => finishD Try.prog A0 22 Try.f22 st = some (.p (.lst false r.length (encL en_Pair r)), [])) o) := by
 refine Wp.iter ?_
 intro s st o hg h
 obtain ⟨s3, s4⟩ := s
 unfold R24_Invert_L0 at h
 unfold g22_0 F22_0 at hg ⊢
 (try simp only [] at h hg)
 unfold L22_0 bodyOf Try.f22; simp only [Option.getD_some, loopsOf, List.append_nil, List.nil_append, List.cons_append, List.getD_cons_zero, List.getD_cons_succ]
 by_cases h1 : s4 < (s0.length : Int)
 ·rw [if_pos h1] at h
  have h1' : decide (s4 < (s0.length : Int)) = true := decide_eq_true h1
  obtain ⟨v2, h3, h⟩ := Option.bind_eq_some_iff.1 h
  obtain ⟨h3a, h3b, _⟩ := rd_some h3
  have h4 := ce_46__1 h3
  have h5 := ce_46__0 h3
  obtain ⟨r6, h7, h⟩ := Option.bind_eq_some_iff.1 h
  have h8 : ∀ H, callD (callW Try.prog A0) A0 H 42 [.p (.lst false s3.length (encL en_Pair s3)), .p (.agg [.v (.int .i64 v2.New), .v (.int .i64 v2.Old)])] = some (.p (.lst false r6.length (encL en_Pair r6)), none) := fun H => R24_Insert_call h7
  obtain rfl := Option.some.inj h
  simp (maxSteps := 10000000) (implicitDefEqProofs := false) (disch := first | assumption | omega | exact rfl) only [bs, rs22, ls22, Nat.reduceAdd, ↓reduceIte, lenD_lst u26, loadD_iptr a3, hg, ↓h1', h4, h5, h8]
  exact ⟨rfl, by kernel_rfl⟩
 ·rw [if_neg h1] at h
  have h1' : decide (s4 < (s0.length : Int)) = false := decide_eq_false h1
  obtain rfl := Option.some.inj h
  simp (maxSteps := 10000000) (implicitDefEqProofs := false) (disch := first | assumption | omega | exact rfl) only [bs, rs22, ls22, Nat.reduceAdd, ↓reduceIte, lenD_lst u26, loadD_iptr a3, hg, ↓h1']
  exact ⟨rfl, rfl, by kernel_rfl⟩
theorem f22_ok  (x0 : (List Pair)) (r : (List Pair)) (h : R24_Invert x0 = some r) : callW Try.prog A0 22 [.p (.lst false x0.length (encL en_Pair x0))] [] = some (.p (.lst false r.length (encL en_Pair r)), []) := by
 refine call_ofH (fn := Try.f22) (c := bodyOf Try.f22) rfl (by kernel_rfl) (by kernel_rfl) ?_
 rw [show initS Try.f22 [.p (.lst false x0.length (encL en_Pair x0))] [] = ⟨.p (.lst false x0.length (encL en_Pair x0)) :: List.replicate 25 undefD, [], 0⟩ from by kernel_rfl]
 unfold R24_Invert at h
 unfold bodyOf Try.f22; simp only [Option.getD_some, loopsOf, List.append_nil, List.nil_append, List.cons_append, List.getD_cons_zero, List.getD_cons_succ]
 simp only [List.replicate]
 obtain ⟨o, h9, h⟩ := Option.bind_eq_some_iff.1 h
 simp (maxSteps := 10000000) (implicitDefEqProofs := false) (disch := first | assumption | omega | exact rfl) only [bs, rs22, ls22, Nat.reduceAdd, ↓reduceIte, lenD_lst u26, loadD_iptr a3]
 refine Wp.ctx (fun x => seqW _ _ _ _ (blockW _ (x))) (L22_0_ok x0 (([] : List Pair), (0 : Int)) _ o (by kernel_rfl) h9) ?_
 intro e st hq
 cases o with
 | next _ => (first | cases h | (simp at h))
 | jmp n_ s_ =>
  obtain ⟨rfl, rfl, hq⟩ := hq
  obtain ⟨s3_10, s4_10⟩ := s_
  unfold F22_0 at hq
  (try simp only [] at h hq)
  obtain rfl := Option.some.inj h
  simp (maxSteps := 10000000) (implicitDefEqProofs := false) (disch := first | assumption | omega | exact rfl) only [bs, rs22, ls22, Nat.reduceAdd, ↓reduceIte, lenD_lst u26, loadD_iptr a3, hq]
  refine ⟨by first | exact .inl trivial | exact .inr trivial | simp, ?_⟩
  exact finish_is (ds := [.p (.lst false s3_10.length (encL en_Pair s3_10))]) (x := .lst false s3_10.length (encL en_Pair s3_10)) (y := .lst false s3_10.length (encL en_Pair s3_10)) (l := []) rfl rfl rfl rfl (by first | rfl | (simp only [wk, wks, wkL]; first | done | rfl))
 | ret _ => (first | cases h | (simp at h))
theorem R24_Invert_call {b1 : Bool} {H : List Ob} {x0 : (List Pair)} {r : (List Pair)} (h : R24_Invert x0 = some r) : callD (callW Try.prog A0) A0 H 22 [.p (.lst b1 x0.length (encL en_Pair x0))] = some (.p (.lst false r.length (encL en_Pair r)), none) :=
  callD_fun (args := [.lst b1 x0.length (encL en_Pair x0)]) rfl rfl rfl (by simp only [List.map_cons, List.map_nil, wk, wks, wkL]; exact f22_ok x0 _ h)
def ls23 := And.intro @faI_44_0 (@idxL_29)
noncomputable def L23_0 : Code := (loopsOf (bodyOf Try.f23)).getD 0 .skip
def g23_0 : List Ghost := [.weak [0], .keep [0, 1, 5, 6]]
def F23_0 (s0 : (List Move)) (s1 : Int) : (Int × Int) → St := fun (s5, s6) => ⟨[.p (.lst false s0.length (encL en_Move s0)), iv s1, .junk, .junk, .junk, iv s5, iv s6, .junk, .junk, .junk, .junk, .junk, .junk, .junk, .junk, .junk, .junk, .junk, .junk, .junk, .junk, .junk, .junk], [], 0⟩
theorem L23_0_ok (s0 : (List Move)) (s1 : Int) : ∀ s st o, ghostsD g23_0 st = some (F23_0 s0 s1 s) → iter (law27_count_L0 s0 s1) s = some o →
    Wp (evW Try.prog A0 23 (.loop L23_0) st) (OutQ (F23_0 s0 s1) g23_0 (fun n s st => n = 0 ∧ ghostsD [.keep [0, 1, 5, 6]] st = some (F23_0 s0 s1 s)) (fun r st => finishD Try.prog A0 23 Try.f23 st = some (.p (.v (.int .i64 r)), [])) o) := by
 refine Wp.iter ?_
 intro s st o hg h
 obtain ⟨s5, s6⟩ := s
 unfold law27_count_L0 at h
 unfold g23_0 F23_0 at hg ⊢
 (try simp only [] at h hg)
 unfold L23_0 bodyOf Try.f23; simp only [Option.getD_some, loopsOf, List.append_nil, List.nil_append, List.cons_append, List.getD_cons_zero, List.getD_cons_succ]
 by_cases h1 : s6 < (s0.length : Int)
 ·rw [if_pos h1] at h
  have h1' : decide (s6 < (s0.length : Int)) = true := decide_eq_true h1
  obtain ⟨v2, h3, h⟩ := Option.bind_eq_some_iff.1 h
  obtain ⟨h3a, h3b, _⟩ := rd_some h3
  have h4 := ce_44__0 h3
  by_cases h5 : v2.Kind = s1
  ·rw [if_pos h5] at h
   have h5' : decide (v2.Kind = s1) = true := decide_eq_true h5
   obtain rfl := Option.some.inj h
   simp (maxSteps := 10000000) (implicitDefEqProofs := false) (disch := first | assumption | omega | exact rfl) only [bs, rs23, ls23, Nat.reduceAdd, ↓reduceIte, lenD_lst u29, loadD_iptr a3, hg, ↓h1', h4, ↓h5']
   exact ⟨rfl, by kernel_rfl⟩
  ·rw [if_neg h5] at h
   have h5' : decide (v2.Kind = s1) = false := decide_eq_false h5
   obtain rfl := Option.some.inj h
   simp (maxSteps := 10000000) (implicitDefEqProofs := false) (disch := first | assumption | omega | exact rfl) only [bs, rs23, ls23, Nat.reduceAdd, ↓reduceIte, lenD_lst u29, loadD_iptr a3, hg, ↓h1', h4, ↓h5']
   exact ⟨rfl, by kernel_rfl⟩
 ·rw [if_neg h1] at h
  have h1' : decide (s6 < (s0.length : Int)) = false := decide_eq_false h1
  obtain rfl := Option.some.inj h
  simp (maxSteps := 10000000) (implicitDefEqProofs := false) (disch := first | assumption | omega | exact rfl) only [bs, rs23, ls23, Nat.reduceAdd, ↓reduceIte, lenD_lst u29, loadD_iptr a3, hg, ↓h1']
  exact ⟨rfl, rfl, by kernel_rfl⟩
theorem f23_ok  (x0 : (List Move)) (x1 : Int) (r : Int) (h : law27_count x0 x1 = some r) : callW Try.prog A0 23 [.p (.lst false x0.length (encL en_Move x0)), iv x1] [] = some (.p (.v (.int .i64 r)), []) := by
 refine call_ofH (fn := Try.f23) (c := bodyOf Try.f23) rfl (by kernel_rfl) (by kernel_rfl) ?_
 rw [show initS Try.f23 [.p (.lst false x0.length (encL en_Move x0)), iv x1] [] = ⟨.p (.lst false x0.length (encL en_Move x0)) :: iv x1 :: List.replicate 21 undefD, [], 0⟩ from by kernel_rfl]
 unfold law27_count at h
 unfold bodyOf Try.f23; simp only [Option.getD_some, loopsOf, List.append_nil, List.nil_append, List.cons_append, List.getD_cons_zero, List.getD_cons_succ]
 simp only [List.replicate]
 obtain ⟨o, h6, h⟩ := Option.bind_eq_some_iff.1 h
 simp (maxSteps := 10000000) (implicitDefEqProofs := false) (disch := first | assumption | omega | exact rfl) only [bs, rs23, ls23, Nat.reduceAdd, ↓reduceIte, lenD_lst u29, loadD_iptr a3]
 refine Wp.ctx (fun x => seqW _ _ _ _ (blockW _ (x))) (L23_0_ok x0 x1 ((0 : Int), (0 : Int)) _ o (by kernel_rfl) h6) ?_
 intro e st hq
 cases o with
 | next _ => (first | cases h | (simp at h))
 | jmp n_ s_ =>
  obtain ⟨rfl, rfl, hq⟩ := hq
  obtain ⟨s5_7, s6_7⟩ := s_
  unfold F23_0 at hq
  (try simp only [] at h hq)
  obtain rfl := Option.some.inj h
  simp (maxSteps := 10000000) (implicitDefEqProofs := false) (disch := first | assumption | omega | exact rfl) only [bs, rs23, ls23, Nat.reduceAdd, ↓reduceIte, lenD_lst u29, loadD_iptr a3, hq]
  refine ⟨by first | exact .inl trivial | exact .inr trivial | simp, ?_⟩
  exact finish_is (ds := [iv s5_7]) (x := .v (.int .i64 s5_7)) (y := .v (.int .i64 s5_7)) (l := []) rfl rfl rfl rfl (by first | rfl | (simp only [wk, wks, wkL]; first | done | rfl))
 | ret _ => (first | cases h | (simp at h))
theorem law27_count_call {b1 : Bool} {H : List Ob} {x0 : (List Move)} {x1 : Int} {r : Int} (h : law27_count x0 x1 = some r) : callD (callW Try.prog A0) A0 H 23 [.p (.lst b1 x0.length (encL en_Move x0)), iv x1] = some (.p (.v (.int .i64 r)), none) :=
  callD_fun (args := [.lst b1 x0.length (encL en_Move x0), .v (.int .i64 x1)]) rfl rfl rfl (by simp only [List.map_cons, List.map_nil, wk, wks, wkL]; exact f23_ok x0 x1 _ h)
def ls7 := And.intro @ex_2_0 (And.intro @ex_2_1 (@varlv_4_0_4))
theorem f7_ok  (x0 : Node) (x1 : Node) (x2 : (List Pair)) (r : Bool) (h : law27_MovesTurn x0 x1 x2 = some r) : callW Try.prog A0 7 [.p (.agg [.v (.int .i64 x0.Kind), .v (.string x0.Text), .lst false x0.Gaps.length (encL en_str x0.Gaps), .lst false x0.Kids.length (encL en_Node x0.Kids)]), .p (.agg [.v (.int .i64 x1.Kind), .v (.string x1.Text), .lst false x1.Gaps.length (encL en_str x1.Gaps), .lst false x1.Kids.length (encL en_Node x1.Kids)]), .p (.lst false x2.length (encL en_Pair x2))] [] = some (.p (.v (.bool r)), []) := by
 refine call_ofH (fn := Try.f7) (c := bodyOf Try.f7) rfl (by kernel_rfl) (by kernel_rfl) ?_
 rw [show initS Try.f7 [.p (.agg [.v (.int .i64 x0.Kind), .v (.string x0.Text), .lst false x0.Gaps.length (encL en_str x0.Gaps), .lst false x0.Kids.length (encL en_Node x0.Kids)]), .p (.agg [.v (.int .i64 x1.Kind), .v (.string x1.Text), .lst false x1.Gaps.length (encL en_str x1.Gaps), .lst false x1.Kids.length (encL en_Node x1.Kids)]), .p (.lst false x2.length (encL en_Pair x2))] [] = ⟨.p (.agg [.v (.int .i64 x0.Kind), .v (.string x0.Text), .lst false x0.Gaps.length (encL en_str x0.Gaps), .lst false x0.Kids.length (encL en_Node x0.Kids)]) :: .p (.agg [.v (.int .i64 x1.Kind), .v (.string x1.Text), .lst false x1.Gaps.length (encL en_str x1.Gaps), .lst false x1.Kids.length (encL en_Node x1.Kids)]) :: .p (.lst false x2.length (encL en_Pair x2)) :: List.replicate 74 undefD, [], 0⟩ from by kernel_rfl]
 unfold law27_MovesTurn at h
 unfold bodyOf Try.f7; simp only [Option.getD_some, loopsOf, List.append_nil, List.nil_append, List.cons_append, List.getD_cons_zero, List.getD_cons_succ]
 simp only [List.replicate]
 obtain ⟨r1, h2, h⟩ := Option.bind_eq_some_iff.1 h
 have h3 : ∀ H, callD (callW Try.prog A0) A0 H 9 [.p (.agg [.v (.int .i64 x0.Kind), .v (.string x0.Text), .lst false x0.Gaps.length (encL en_str x0.Gaps), .lst false x0.Kids.length (encL en_Node x0.Kids)])] = some (.p (.v (.bool r1)), none) := fun H => law27_small_call h2
 by_cases h4 : r1 = true
 ·rw [if_pos h4] at h
  obtain ⟨r5, h6, h⟩ := Option.bind_eq_some_iff.1 h
  have h7 : ∀ H, callD (callW Try.prog A0) A0 H 9 [.p (.agg [.v (.int .i64 x1.Kind), .v (.string x1.Text), .lst false x1.Gaps.length (encL en_str x1.Gaps), .lst false x1.Kids.length (encL en_Node x1.Kids)])] = some (.p (.v (.bool r5)), none) := fun H => law27_small_call h6
  by_cases h8 : r5 = true
  ·rw [if_pos h8] at h
   by_cases h9 : (200 : Int) < (x2.length : Int)
   ·rw [if_pos h9] at h
    have h9' : decide ((200 : Int) < (x2.length : Int)) = true := decide_eq_true h9
    obtain ⟨r10, h11, h⟩ := Option.bind_eq_some_iff.1 h
    have h12 : ∀ H, callD (callW Try.prog A0) A0 H 10 [] = some (.p (.v (.bool r10)), none) := fun H => law27_awake_call h11
    obtain rfl := Option.some.inj h
    simp (maxSteps := 10000000) (implicitDefEqProofs := false) (disch := first | assumption | omega | exact rfl) only [bs, rs7, ls7, Nat.reduceAdd, ↓reduceIte, lenD_lst u26, lenD_lst u29, loadD_pagg a25 z25, h3, h4, h7, h8, ↓h9', h12]
    refine ⟨by first | exact .inl trivial | exact .inr trivial | simp, ?_⟩
    exact finish_is (ds := [bv r10]) (x := .v (.bool r10)) (y := .v (.bool r10)) (l := []) rfl rfl rfl rfl (by first | rfl | (simp only [wk, wks, wkL]; first | done | rfl))
   ·rw [if_neg h9] at h
    have h9' : decide ((200 : Int) < (x2.length : Int)) = false := decide_eq_false h9
    obtain ⟨r13, h14, h⟩ := Option.bind_eq_some_iff.1 h
    have h15 : ∀ H, callD (callW Try.prog A0) A0 H 21 [.p (.agg [.v (.int .i64 x0.Kind), .v (.string x0.Text), .lst false x0.Gaps.length (encL en_str x0.Gaps), .lst false x0.Kids.length (encL en_Node x0.Kids)]), .p (.agg [.v (.int .i64 x1.Kind), .v (.string x1.Text), .lst false x1.Gaps.length (encL en_str x1.Gaps), .lst false x1.Kids.length (encL en_Node x1.Kids)]), .p (.lst false x2.length (encL en_Pair x2))] = some (.p (.v (.int .i64 r13)), none) := fun H => R24_Check_call h14
    by_cases h16 : r13 = (0 : Int)
    ·rw [if_pos h16] at h
     have h16' : decide (r13 = (0 : Int)) = true := decide_eq_true h16
     obtain ⟨r17, h18, h⟩ := Option.bind_eq_some_iff.1 h
     have h19 : ∀ H, callD (callW Try.prog A0) A0 H 11 [.p (.agg [.v (.int .i64 x0.Kind), .v (.string x0.Text), .lst false x0.Gaps.length (encL en_str x0.Gaps), .lst false x0.Kids.length (encL en_Node x0.Kids)]), .p (.agg [.v (.int .i64 x1.Kind), .v (.string x1.Text), .lst false x1.Gaps.length (encL en_str x1.Gaps), .lst false x1.Kids.length (encL en_Node x1.Kids)]), .p (.lst false x2.length (encL en_Pair x2))] = some (.p (.tup [.lst false r17.1.length (encL en_Move r17.1), .v (.int .i64 r17.2)]), none) := fun H => moves_Moves_call h18
     obtain ⟨r20, h21, h⟩ := Option.bind_eq_some_iff.1 h
     have h22 : ∀ H, callD (callW Try.prog A0) A0 H 22 [.p (.lst false x2.length (encL en_Pair x2))] = some (.p (.lst false r20.length (encL en_Pair r20)), none) := fun H => R24_Invert_call h21
     obtain ⟨r23, h24, h⟩ := Option.bind_eq_some_iff.1 h
     have h25 : ∀ H, callD (callW Try.prog A0) A0 H 11 [.p (.agg [.v (.int .i64 x1.Kind), .v (.string x1.Text), .lst false x1.Gaps.length (encL en_str x1.Gaps), .lst false x1.Kids.length (encL en_Node x1.Kids)]), .p (.agg [.v (.int .i64 x0.Kind), .v (.string x0.Text), .lst false x0.Gaps.length (encL en_str x0.Gaps), .lst false x0.Kids.length (encL en_Node x0.Kids)]), .p (.lst false r20.length (encL en_Pair r20))] = some (.p (.tup [.lst false r23.1.length (encL en_Move r23.1), .v (.int .i64 r23.2)]), none) := fun H => moves_Moves_call h24
     by_cases h26 : r17.2 = (0 : Int)
     ·rw [if_pos h26] at h
      have h26' : decide (r17.2 = (0 : Int)) = true := decide_eq_true h26
      by_cases h27 : r23.2 = (0 : Int)
      ·rw [if_pos h27] at h
       have h27' : decide (r23.2 = (0 : Int)) = true := decide_eq_true h27
       obtain ⟨r28, h29, h⟩ := Option.bind_eq_some_iff.1 h
       have h30 : ∀ H, callD (callW Try.prog A0) A0 H 23 [.p (.lst false r17.1.length (encL en_Move r17.1)), iv (1 : Int)] = some (.p (.v (.int .i64 r28)), none) := fun H => law27_count_call h29
       obtain ⟨r31, h32, h⟩ := Option.bind_eq_some_iff.1 h
       have h33 : ∀ H, callD (callW Try.prog A0) A0 H 23 [.p (.lst false r23.1.length (encL en_Move r23.1)), iv (1 : Int)] = some (.p (.v (.int .i64 r31)), none) := fun H => law27_count_call h32
       by_cases h34 : r28 = r31
       ·rw [if_pos h34] at h
        have h34' : decide (r28 = r31) = true := decide_eq_true h34
        obtain ⟨r35, h36, h⟩ := Option.bind_eq_some_iff.1 h
        have h37 : ∀ H, callD (callW Try.prog A0) A0 H 23 [.p (.lst false r17.1.length (encL en_Move r17.1)), iv (2 : Int)] = some (.p (.v (.int .i64 r35)), none) := fun H => law27_count_call h36
        obtain ⟨r38, h39, h⟩ := Option.bind_eq_some_iff.1 h
        have h40 : ∀ H, callD (callW Try.prog A0) A0 H 23 [.p (.lst false r23.1.length (encL en_Move r23.1)), iv (2 : Int)] = some (.p (.v (.int .i64 r38)), none) := fun H => law27_count_call h39
        by_cases h41 : r35 = r38
        ·rw [if_pos h41] at h
         have h41' : decide (r35 = r38) = true := decide_eq_true h41
         by_cases h42 : (r17.1.length : Int) = (r23.1.length : Int)
         ·rw [if_pos h42] at h
          have h42' : decide ((r17.1.length : Int) = (r23.1.length : Int)) = true := decide_eq_true h42
          obtain ⟨r43, h44, h⟩ := Option.bind_eq_some_iff.1 h
          have h45 : ∀ H, callD (callW Try.prog A0) A0 H 10 [] = some (.p (.v (.bool r43)), none) := fun H => law27_awake_call h44
          obtain rfl := Option.some.inj h
          simp (maxSteps := 10000000) (implicitDefEqProofs := false) (disch := first | assumption | omega | exact rfl) only [bs, rs7, ls7, Nat.reduceAdd, ↓reduceIte, lenD_lst u26, lenD_lst u29, loadD_pagg a25 z25, h3, h4, h7, h8, ↓h9', h15, ↓h16', h19, h22, h25, ↓h26', ↓h27', h30, h33, ↓h34', h37, h40, ↓h41', ↓h42', h45]
          refine ⟨by first | exact .inl trivial | exact .inr trivial | simp, ?_⟩
          exact finish_is (ds := [bv r43]) (x := .v (.bool r43)) (y := .v (.bool r43)) (l := []) rfl rfl rfl rfl (by first | rfl | (simp only [wk, wks, wkL]; first | done | rfl))
         ·rw [if_neg h42] at h
          have h42' : decide ((r17.1.length : Int) = (r23.1.length : Int)) = false := decide_eq_false h42
          obtain rfl := Option.some.inj h
          simp (maxSteps := 10000000) (implicitDefEqProofs := false) (disch := first | assumption | omega | exact rfl) only [bs, rs7, ls7, Nat.reduceAdd, ↓reduceIte, lenD_lst u26, lenD_lst u29, loadD_pagg a25 z25, h3, h4, h7, h8, ↓h9', h15, ↓h16', h19, h22, h25, ↓h26', ↓h27', h30, h33, ↓h34', h37, h40, ↓h41', ↓h42']
          refine ⟨by first | exact .inl trivial | exact .inr trivial | simp, ?_⟩
          exact finish_is (ds := [bv false]) (x := .v (.bool false)) (y := .v (.bool false)) (l := []) rfl rfl rfl rfl (by first | rfl | (simp only [wk, wks, wkL]; first | done | rfl))
        ·rw [if_neg h41] at h
         have h41' : decide (r35 = r38) = false := decide_eq_false h41
         obtain rfl := Option.some.inj h
         simp (maxSteps := 10000000) (implicitDefEqProofs := false) (disch := first | assumption | omega | exact rfl) only [bs, rs7, ls7, Nat.reduceAdd, ↓reduceIte, lenD_lst u26, lenD_lst u29, loadD_pagg a25 z25, h3, h4, h7, h8, ↓h9', h15, ↓h16', h19, h22, h25, ↓h26', ↓h27', h30, h33, ↓h34', h37, h40, ↓h41']
         refine ⟨by first | exact .inl trivial | exact .inr trivial | simp, ?_⟩
         exact finish_is (ds := [bv false]) (x := .v (.bool false)) (y := .v (.bool false)) (l := []) rfl rfl rfl rfl (by first | rfl | (simp only [wk, wks, wkL]; first | done | rfl))
       ·rw [if_neg h34] at h
        have h34' : decide (r28 = r31) = false := decide_eq_false h34
        obtain rfl := Option.some.inj h
        simp (maxSteps := 10000000) (implicitDefEqProofs := false) (disch := first | assumption | omega | exact rfl) only [bs, rs7, ls7, Nat.reduceAdd, ↓reduceIte, lenD_lst u26, lenD_lst u29, loadD_pagg a25 z25, h3, h4, h7, h8, ↓h9', h15, ↓h16', h19, h22, h25, ↓h26', ↓h27', h30, h33, ↓h34']
        refine ⟨by first | exact .inl trivial | exact .inr trivial | simp, ?_⟩
        exact finish_is (ds := [bv false]) (x := .v (.bool false)) (y := .v (.bool false)) (l := []) rfl rfl rfl rfl (by first | rfl | (simp only [wk, wks, wkL]; first | done | rfl))
      ·rw [if_neg h27] at h
       have h27' : decide (r23.2 = (0 : Int)) = false := decide_eq_false h27
       obtain rfl := Option.some.inj h
       simp (maxSteps := 10000000) (implicitDefEqProofs := false) (disch := first | assumption | omega | exact rfl) only [bs, rs7, ls7, Nat.reduceAdd, ↓reduceIte, lenD_lst u26, lenD_lst u29, loadD_pagg a25 z25, h3, h4, h7, h8, ↓h9', h15, ↓h16', h19, h22, h25, ↓h26', ↓h27']
       refine ⟨by first | exact .inl trivial | exact .inr trivial | simp, ?_⟩
       exact finish_is (ds := [bv false]) (x := .v (.bool false)) (y := .v (.bool false)) (l := []) rfl rfl rfl rfl (by first | rfl | (simp only [wk, wks, wkL]; first | done | rfl))
     ·rw [if_neg h26] at h
      have h26' : decide (r17.2 = (0 : Int)) = false := decide_eq_false h26
      obtain rfl := Option.some.inj h
      simp (maxSteps := 10000000) (implicitDefEqProofs := false) (disch := first | assumption | omega | exact rfl) only [bs, rs7, ls7, Nat.reduceAdd, ↓reduceIte, lenD_lst u26, lenD_lst u29, loadD_pagg a25 z25, h3, h4, h7, h8, ↓h9', h15, ↓h16', h19, h22, h25, ↓h26']
      refine ⟨by first | exact .inl trivial | exact .inr trivial | simp, ?_⟩
      exact finish_is (ds := [bv false]) (x := .v (.bool false)) (y := .v (.bool false)) (l := []) rfl rfl rfl rfl (by first | rfl | (simp only [wk, wks, wkL]; first | done | rfl))
    ·rw [if_neg h16] at h
     have h16' : decide (r13 = (0 : Int)) = false := decide_eq_false h16
     obtain ⟨r46, h47, h⟩ := Option.bind_eq_some_iff.1 h
     have h48 : ∀ H, callD (callW Try.prog A0) A0 H 10 [] = some (.p (.v (.bool r46)), none) := fun H => law27_awake_call h47
     obtain rfl := Option.some.inj h
     simp (maxSteps := 10000000) (implicitDefEqProofs := false) (disch := first | assumption | omega | exact rfl) only [bs, rs7, ls7, Nat.reduceAdd, ↓reduceIte, lenD_lst u26, lenD_lst u29, loadD_pagg a25 z25, h3, h4, h7, h8, ↓h9', h15, ↓h16', h48]
     refine ⟨by first | exact .inl trivial | exact .inr trivial | simp, ?_⟩
     exact finish_is (ds := [bv r46]) (x := .v (.bool r46)) (y := .v (.bool r46)) (l := []) rfl rfl rfl rfl (by first | rfl | (simp only [wk, wks, wkL]; first | done | rfl))
  ·rw [if_neg h8] at h
   replace h8 := Bool.eq_false_iff.2 h8
   obtain ⟨r49, h50, h⟩ := Option.bind_eq_some_iff.1 h
   have h51 : ∀ H, callD (callW Try.prog A0) A0 H 10 [] = some (.p (.v (.bool r49)), none) := fun H => law27_awake_call h50
   obtain rfl := Option.some.inj h
   simp (maxSteps := 10000000) (implicitDefEqProofs := false) (disch := first | assumption | omega | exact rfl) only [bs, rs7, ls7, Nat.reduceAdd, ↓reduceIte, lenD_lst u26, lenD_lst u29, loadD_pagg a25 z25, h3, h4, h7, h8, h51]
   refine ⟨by first | exact .inl trivial | exact .inr trivial | simp, ?_⟩
   exact finish_is (ds := [bv r49]) (x := .v (.bool r49)) (y := .v (.bool r49)) (l := []) rfl rfl rfl rfl (by first | rfl | (simp only [wk, wks, wkL]; first | done | rfl))
 ·rw [if_neg h4] at h
  replace h4 := Bool.eq_false_iff.2 h4
  obtain ⟨r52, h53, h⟩ := Option.bind_eq_some_iff.1 h
  have h54 : ∀ H, callD (callW Try.prog A0) A0 H 10 [] = some (.p (.v (.bool r52)), none) := fun H => law27_awake_call h53
  obtain rfl := Option.some.inj h
  simp (maxSteps := 10000000) (implicitDefEqProofs := false) (disch := first | assumption | omega | exact rfl) only [bs, rs7, ls7, Nat.reduceAdd, ↓reduceIte, lenD_lst u26, lenD_lst u29, loadD_pagg a25 z25, h3, h4, h54]
  refine ⟨by first | exact .inl trivial | exact .inr trivial | simp, ?_⟩
  exact finish_is (ds := [bv r52]) (x := .v (.bool r52)) (y := .v (.bool r52)) (l := []) rfl rfl rfl rfl (by first | rfl | (simp only [wk, wks, wkL]; first | done | rfl))
end Xn

