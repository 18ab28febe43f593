/- A part of the proof: P2. No conditions of its own. -/
import Derived.Test.YtddfehcpbgfmfaaP1
namespace Xn
open Go Go.Ev Go.Proofs
set_option linter.unusedSimpArgs false
set_option linter.unusedVariables false
set_option linter.defProp false
set_option maxRecDepth 8000
set_option maxHeartbeats 40000000
def ls12 := And.intro @al_26 (And.intro @al_39 (And.intro @al_54 (And.intro @faI_58_1 (And.intro @faI_58_4 (And.intro @faP_39_0 (And.intro @faP_39_1 (And.intro @idxL_26 (And.intro @idxL_49 (And.intro @idxL_52 (And.intro @idxR_54 (And.intro @mk_54 (And.intro @sa_2_0_2 (And.intro @sg_1_0_r (And.intro @varld_1_0 (And.intro @varld_2_0_0 (And.intro @varld_2_0_1 (@varlv_4_0_4)))))))))))))))))
noncomputable def L12_2 : Code := (loopsOf (bodyOf Try.f12)).getD 2 .skip
def g12_2 : List Ghost := [.weak [8, 9, 10, 11, 22], .keep [8, 9, 10, 11, 12, 13, 14, 15, 18, 19, 20, 21, 22, 23]]
def F12_2 (s8 : (List Row)) (s9 : (List Row)) (s10 : (List Int)) (s11 : (List Int)) (s18 : Int) (s22 : (List Int)) (y3 : (List Bool)) (y4 : (List Bool)) (y5 : (List Pair)) : (Int × Int × Int × Int) → St := fun (s19, s20, s21, s23) => ⟨[.junk, .junk, .junk, .junk, .junk, .junk, .junk, .junk, .p (.lst false s8.length (encL en_Row s8)), .p (.lst false s9.length (encL en_Row s9)), .p (.lst false s10.length (encL en_i64 s10)), .p (.lst false s11.length (encL en_i64 s11)), .ptr 0 0, .ptr 1 0, .ptr 2 0, .fn (.func 31) [.ptr 2 0, .ptr 0 0, .ptr 1 0], .junk, .junk, iv s18, iv s19, iv s20, iv s21, .p (.lst false s22.length (encL en_i64 s22)), iv s23, .junk, .junk, .junk, .junk, .junk, .junk, .junk, .junk, .junk, .junk, .junk, .junk, .junk, .junk, .junk, .junk, .junk, .junk, .junk, .junk, .junk, .junk, .junk, .junk, .junk, .junk, .junk, .junk, .junk, .junk, .junk, .junk, .junk, .junk, .junk, .junk, .junk, .junk, .junk, .junk, .junk, .junk, .junk, .junk, .junk, .junk, .junk, .junk, .junk, .junk, .junk, .junk, .junk, .junk, .junk, .junk, .junk, .junk, .junk, .junk, .junk, .junk, .junk, .junk, .junk, .junk, .junk, .junk, .junk, .junk, .junk, .junk, .junk, .junk, .junk, .junk, .junk, .junk, .junk, .junk, .junk, .junk, .junk, .junk, .junk, .junk, .junk, .junk, .junk, .junk, .junk, .junk, .junk, .junk, .junk, .junk, .junk, .junk, .junk, .junk, .junk, .junk, .junk, .junk, .junk, .junk, .junk, .junk, .junk, .junk, .junk, .junk, .junk, .junk, .junk, .junk, .junk, .junk, .junk, .junk, .junk, .junk, .junk, .junk, .junk, .junk, .junk, .junk, .junk, .junk, .junk, .junk, .junk, .junk, .junk, .junk, .junk, .junk, .junk, .junk, .junk, .junk, .junk, .junk, .junk, .junk, .junk, .junk, .junk, .junk, .junk, .junk, .junk, .junk, .junk, .junk, .junk, .junk, .junk], [.var [.ref 3 0 y3.length 1], .var [.ref 4 0 y4.length 1], .var [.ref 5 0 y5.length 2], .arr (encL en_bool y3), .arr (encL en_bool y4), .arr (encL en_Pair y5)], 0⟩
theorem L12_2_ok (s8 : (List Row)) (s9 : (List Row)) (s10 : (List Int)) (s11 : (List Int)) (s18 : Int) (s22 : (List Int)) (y3 : (List Bool)) (y4 : (List Bool)) (y5 : (List Pair)) : ∀ s st o, ghostsD g12_2 st = some (F12_2 s8 s9 s10 s11 s18 s22 y3 y4 y5 s) → iter (similar_Match_L2 s8 s9 s10 s11 s18 s22 y3 y4 y5) s = some o →
    Wp (evW Try.prog A0 12 (.loop L12_2) st) (OutQ (F12_2 s8 s9 s10 s11 s18 s22 y3 y4 y5) g12_2 (fun n s st => n = 4 ∧ ghostsD [.keep [8, 9, 10, 11, 12, 13, 14, 15, 18, 19, 20, 21, 22, 23]] st = some (F12_2 s8 s9 s10 s11 s18 s22 y3 y4 y5 s)) (fun r st => finishD Try.prog A0 12 Try.f12 st = some (.p (.tup [.lst false r.1.length (encL en_Pair r.1), .v (.int .i64 r.2)]), [])) o) := by
 refine Wp.iter ?_
 intro s st o hg h
 obtain ⟨s19, s20, s21, s23⟩ := s
 unfold similar_Match_L2 at h
 unfold g12_2 F12_2 at hg ⊢
 (try simp only [] at h hg)
 unfold L12_2 bodyOf Try.f12; simp only [Option.getD_some, loopsOf, List.append_nil, List.nil_append, List.cons_append, List.getD_cons_zero, List.getD_cons_succ]
 by_cases h179 : s23 < (s9.length : Int)
 ·rw [if_pos h179] at h
  have h179' : decide (s23 < (s9.length : Int)) = true := decide_eq_true h179
  obtain ⟨v180, h181, h⟩ := bsm h
  obtain ⟨h181a, h181b, _⟩ := rd_some h181
  have h182 := ce_4_x h181
  by_cases h183 : v180 = true
  ·rw [if_pos h183] at h
   obtain rfl := Option.some.inj h
   simp (maxSteps := 10000000) (implicitDefEqProofs := false) (disch := first | assumption | omega | exact rfl | (refine dynT ?_; kernel_rfl)) only [bs, rs12, ls12, Nat.reduceAdd, ↓reduceIte, allP, lenD_lst u26, lenD_lst u49, lenD_lst u52, loadD_iagg a39 z39, loadD_iptr a3, loadD_iptr a52, loadD_pagg a25 z25, loadD_ptr a26, loadD_ptr a3, loadD_ptr a4, loadD_ptr a54, mkFn, ops_makeFunc_, storeD_agg z39, storeD_bool z4, storeD_gref z26, storeD_gref z54, hg, ↓h179', h182, h183]
   exact ⟨rfl, by kernel_rfl⟩
  ·rw [if_neg h183] at h
   replace h183 := Bool.eq_false_iff.2 h183
   obtain ⟨v184, h185, h⟩ := bsm h
   obtain ⟨h185a, h185b, _⟩ := rd_some h185
   have h186 := ce_58__4 h185
   by_cases h187 : (v184.Kids.length : Int) = (0 : Int)
   ·rw [if_pos h187] at h
    have h187' : decide ((v184.Kids.length : Int) = (0 : Int)) = true := decide_eq_true h187
    obtain rfl := Option.some.inj h
    simp (maxSteps := 10000000) (implicitDefEqProofs := false) (disch := first | assumption | omega | exact rfl | (refine dynT ?_; kernel_rfl)) only [bs, rs12, ls12, Nat.reduceAdd, ↓reduceIte, allP, lenD_lst u26, lenD_lst u49, lenD_lst u52, loadD_iagg a39 z39, loadD_iptr a3, loadD_iptr a52, loadD_pagg a25 z25, loadD_ptr a26, loadD_ptr a3, loadD_ptr a4, loadD_ptr a54, mkFn, ops_makeFunc_, storeD_agg z39, storeD_bool z4, storeD_gref z26, storeD_gref z54, hg, ↓h179', h182, h183, h186, ↓h187']
    exact ⟨rfl, by kernel_rfl⟩
   ·rw [if_neg h187] at h
    have h187' : decide ((v184.Kids.length : Int) = (0 : Int)) = false := decide_eq_false h187
    obtain ⟨v188, h189, h⟩ := bsm h
    obtain ⟨h189a, h189b, _⟩ := rd_some h189
    have h190 := ce_58__1 h189
    have h191 := ce_58__1 h185
    by_cases h192 : v188.Kind = v184.Kind
    ·rw [if_pos h192] at h
     have h192' : decide (v188.Kind = v184.Kind) = true := decide_eq_true h192
     obtain ⟨v193, h194, h⟩ := bsm h
     obtain ⟨h194a, h194b, _⟩ := rd_some h194
     have h195 := ce_3_x h194
     obtain ⟨v196, h197, h⟩ := bsm h
     obtain ⟨h197a, h197b, _⟩ := rd_some h197
     have h198 := ce_3_x h197
     obtain ⟨v199, h200, h⟩ := bsm h
     obtain ⟨h200a, h200b, _⟩ := rd_some h200
     have h201 := ce_3_x h200
     by_cases h202 : (w64 ((w64 (v196 + v199)) - (2 : Int))) < (w64 ((4 : Int) * v193))
     ·rw [if_pos h202] at h
      have h202' : decide ((w64 ((w64 (v196 + v199)) - (2 : Int))) < (w64 ((4 : Int) * v193))) = true := decide_eq_true h202
      by_cases h203 : s19 < (0 : Int)
      ·rw [if_pos h203] at h
       have h203' : decide (s19 < (0 : Int)) = true := decide_eq_true h203
       obtain rfl := Option.some.inj h
       simp (maxSteps := 10000000) (implicitDefEqProofs := false) (disch := first | assumption | omega | exact rfl | (refine dynT ?_; kernel_rfl)) only [bs, rs12, ls12, Nat.reduceAdd, ↓reduceIte, allP, lenD_lst u26, lenD_lst u49, lenD_lst u52, loadD_iagg a39 z39, loadD_iptr a3, loadD_iptr a52, loadD_pagg a25 z25, loadD_ptr a26, loadD_ptr a3, loadD_ptr a4, loadD_ptr a54, mkFn, ops_makeFunc_, storeD_agg z39, storeD_bool z4, storeD_gref z26, storeD_gref z54, hg, ↓h179', h182, h183, h186, ↓h187', h190, h191, ↓h192', h195, h198, h201, ↓h202', ↓h203']
       exact ⟨rfl, by kernel_rfl⟩
      ·rw [if_neg h203] at h
       have h203' : decide (s19 < (0 : Int)) = false := decide_eq_false h203
       by_cases h204 : (w64 (s20 * (w64 ((w64 (v196 + v199)) - (2 : Int))))) < (w64 (v193 * s21))
       ·rw [if_pos h204] at h
        have h204' : decide ((w64 (s20 * (w64 ((w64 (v196 + v199)) - (2 : Int))))) < (w64 (v193 * s21))) = true := decide_eq_true h204
        obtain rfl := Option.some.inj h
        simp (maxSteps := 10000000) (implicitDefEqProofs := false) (disch := first | assumption | omega | exact rfl | (refine dynT ?_; kernel_rfl)) only [bs, rs12, ls12, Nat.reduceAdd, ↓reduceIte, allP, lenD_lst u26, lenD_lst u49, lenD_lst u52, loadD_iagg a39 z39, loadD_iptr a3, loadD_iptr a52, loadD_pagg a25 z25, loadD_ptr a26, loadD_ptr a3, loadD_ptr a4, loadD_ptr a54, mkFn, ops_makeFunc_, storeD_agg z39, storeD_bool z4, storeD_gref z26, storeD_gref z54, hg, ↓h179', h182, h183, h186, ↓h187', h190, h191, ↓h192', h195, h198, h201, ↓h202', ↓h203', ↓h204']
        exact ⟨rfl, by kernel_rfl⟩
       ·rw [if_neg h204] at h
        have h204' : decide ((w64 (s20 * (w64 ((w64 (v196 + v199)) - (2 : Int))))) < (w64 (v193 * s21))) = false := decide_eq_false h204
        obtain rfl := Option.some.inj h
        simp (maxSteps := 10000000) (implicitDefEqProofs := false) (disch := first | assumption | omega | exact rfl | (refine dynT ?_; kernel_rfl)) only [bs, rs12, ls12, Nat.reduceAdd, ↓reduceIte, allP, lenD_lst u26, lenD_lst u49, lenD_lst u52, loadD_iagg a39 z39, loadD_iptr a3, loadD_iptr a52, loadD_pagg a25 z25, loadD_ptr a26, loadD_ptr a3, loadD_ptr a4, loadD_ptr a54, mkFn, ops_makeFunc_, storeD_agg z39, storeD_bool z4, storeD_gref z26, storeD_gref z54, hg, ↓h179', h182, h183, h186, ↓h187', h190, h191, ↓h192', h195, h198, h201, ↓h202', ↓h203', ↓h204']
        exact ⟨rfl, by kernel_rfl⟩
     ·rw [if_neg h202] at h
      have h202' : decide ((w64 ((w64 (v196 + v199)) - (2 : Int))) < (w64 ((4 : Int) * v193))) = false := decide_eq_false h202
      obtain rfl := Option.some.inj h
      simp (maxSteps := 10000000) (implicitDefEqProofs := false) (disch := first | assumption | omega | exact rfl | (refine dynT ?_; kernel_rfl)) only [bs, rs12, ls12, Nat.reduceAdd, ↓reduceIte, allP, lenD_lst u26, lenD_lst u49, lenD_lst u52, loadD_iagg a39 z39, loadD_iptr a3, loadD_iptr a52, loadD_pagg a25 z25, loadD_ptr a26, loadD_ptr a3, loadD_ptr a4, loadD_ptr a54, mkFn, ops_makeFunc_, storeD_agg z39, storeD_bool z4, storeD_gref z26, storeD_gref z54, hg, ↓h179', h182, h183, h186, ↓h187', h190, h191, ↓h192', h195, h198, h201, ↓h202']
      exact ⟨rfl, by kernel_rfl⟩
    ·rw [if_neg h192] at h
     have h192' : decide (v188.Kind = v184.Kind) = false := decide_eq_false h192
     obtain rfl := Option.some.inj h
     simp (maxSteps := 10000000) (implicitDefEqProofs := false) (disch := first | assumption | omega | exact rfl | (refine dynT ?_; kernel_rfl)) only [bs, rs12, ls12, Nat.reduceAdd, ↓reduceIte, allP, lenD_lst u26, lenD_lst u49, lenD_lst u52, loadD_iagg a39 z39, loadD_iptr a3, loadD_iptr a52, loadD_pagg a25 z25, loadD_ptr a26, loadD_ptr a3, loadD_ptr a4, loadD_ptr a54, mkFn, ops_makeFunc_, storeD_agg z39, storeD_bool z4, storeD_gref z26, storeD_gref z54, hg, ↓h179', h182, h183, h186, ↓h187', h190, h191, ↓h192']
     exact ⟨rfl, by kernel_rfl⟩
 ·rw [if_neg h179] at h
  have h179' : decide (s23 < (s9.length : Int)) = false := decide_eq_false h179
  obtain rfl := Option.some.inj h
  simp (maxSteps := 10000000) (implicitDefEqProofs := false) (disch := first | assumption | omega | exact rfl | (refine dynT ?_; kernel_rfl)) only [bs, rs12, ls12, Nat.reduceAdd, ↓reduceIte, allP, lenD_lst u26, lenD_lst u49, lenD_lst u52, loadD_iagg a39 z39, loadD_iptr a3, loadD_iptr a52, loadD_pagg a25 z25, loadD_ptr a26, loadD_ptr a3, loadD_ptr a4, loadD_ptr a54, mkFn, ops_makeFunc_, storeD_agg z39, storeD_bool z4, storeD_gref z26, storeD_gref z54, hg, ↓h179']
  exact ⟨rfl, rfl, by kernel_rfl⟩
noncomputable def L12_1 : Code := (loopsOf (bodyOf Try.f12)).getD 1 .skip
def g12_1 : List Ghost := [.weak [8, 9, 10, 11], .keep [8, 9, 10, 11, 12, 13, 14, 15, 18]]
def F12_1 (s8 : (List Row)) (s9 : (List Row)) (s10 : (List Int)) (s11 : (List Int)) : (Int × (List Bool) × (List Bool) × (List Pair)) → St := fun (s18, y3, y4, y5) => ⟨[.junk, .junk, .junk, .junk, .junk, .junk, .junk, .junk, .p (.lst false s8.length (encL en_Row s8)), .p (.lst false s9.length (encL en_Row s9)), .p (.lst false s10.length (encL en_i64 s10)), .p (.lst false s11.length (encL en_i64 s11)), .ptr 0 0, .ptr 1 0, .ptr 2 0, .fn (.func 31) [.ptr 2 0, .ptr 0 0, .ptr 1 0], .junk, .junk, iv s18, .junk, .junk, .junk, .junk, .junk, .junk, .junk, .junk, .junk, .junk, .junk, .junk, .junk, .junk, .junk, .junk, .junk, .junk, .junk, .junk, .junk, .junk, .junk, .junk, .junk, .junk, .junk, .junk, .junk, .junk, .junk, .junk, .junk, .junk, .junk, .junk, .junk, .junk, .junk, .junk, .junk, .junk, .junk, .junk, .junk, .junk, .junk, .junk, .junk, .junk, .junk, .junk, .junk, .junk, .junk, .junk, .junk, .junk, .junk, .junk, .junk, .junk, .junk, .junk, .junk, .junk, .junk, .junk, .junk, .junk, .junk, .junk, .junk, .junk, .junk, .junk, .junk, .junk, .junk, .junk, .junk, .junk, .junk, .junk, .junk, .junk, .junk, .junk, .junk, .junk, .junk, .junk, .junk, .junk, .junk, .junk, .junk, .junk, .junk, .junk, .junk, .junk, .junk, .junk, .junk, .junk, .junk, .junk, .junk, .junk, .junk, .junk, .junk, .junk, .junk, .junk, .junk, .junk, .junk, .junk, .junk, .junk, .junk, .junk, .junk, .junk, .junk, .junk, .junk, .junk, .junk, .junk, .junk, .junk, .junk, .junk, .junk, .junk, .junk, .junk, .junk, .junk, .junk, .junk, .junk, .junk, .junk, .junk, .junk, .junk, .junk, .junk, .junk, .junk, .junk, .junk, .junk, .junk, .junk, .junk, .junk, .junk, .junk, .junk], [.var [.ref 3 0 y3.length 1], .var [.ref 4 0 y4.length 1], .var [.ref 5 0 y5.length 2], .arr (encL en_bool y3), .arr (encL en_bool y4), .arr (encL en_Pair y5)], 0⟩
theorem L12_1_ok (s8 : (List Row)) (s9 : (List Row)) (s10 : (List Int)) (s11 : (List Int)) : ∀ s st o, ghostsD g12_1 st = some (F12_1 s8 s9 s10 s11 s) → iter (similar_Match_L1 s8 s9 s10 s11) s = some o →
    Wp (evW Try.prog A0 12 (.loop L12_1) st) (OutQ (F12_1 s8 s9 s10 s11) g12_1 (fun n s st => n = 2 ∧ ghostsD [.keep [8, 9, 10, 11, 12, 13, 14, 15, 18]] st = some (F12_1 s8 s9 s10 s11 s)) (fun r st => finishD Try.prog A0 12 Try.f12 st = some (.p (.tup [.lst false r.1.length (encL en_Pair r.1), .v (.int .i64 r.2)]), [])) o) := by
 refine Wp.iter ?_
 intro s st o hg h
 obtain ⟨s18, y3, y4, y5⟩ := s
 unfold similar_Match_L1 at h
 unfold g12_1 F12_1 at hg ⊢
 (try simp only [] at h hg)
 unfold L12_1 bodyOf Try.f12; simp only [Option.getD_some, loopsOf, List.append_nil, List.nil_append, List.cons_append, List.getD_cons_zero, List.getD_cons_succ]
 by_cases h164 : (0 : Int) < s18
 ·rw [if_pos h164] at h
  have h164' : decide ((0 : Int) < s18) = true := decide_eq_true h164
  obtain ⟨v165, h166, h⟩ := bsm h
  obtain ⟨h166a, h166b, _⟩ := rd_some h166
  have h167 := ce_4_x h166
  by_cases h168 : v165 = true
  ·rw [if_pos h168] at h
   obtain rfl := Option.some.inj h
   simp (maxSteps := 10000000) (implicitDefEqProofs := false) (disch := first | assumption | omega | exact rfl | (refine dynT ?_; kernel_rfl)) only [bs, rs12, ls12, Nat.reduceAdd, ↓reduceIte, allP, lenD_lst u26, lenD_lst u49, lenD_lst u52, loadD_iagg a39 z39, loadD_iptr a3, loadD_iptr a52, loadD_pagg a25 z25, loadD_ptr a26, loadD_ptr a3, loadD_ptr a4, loadD_ptr a54, mkFn, ops_makeFunc_, storeD_agg z39, storeD_bool z4, storeD_gref z26, storeD_gref z54, hg, ↓h164', h167, h168]
   exact ⟨rfl, by kernel_rfl⟩
  ·rw [if_neg h168] at h
   replace h168 := Bool.eq_false_iff.2 h168
   obtain ⟨v169, h170, h⟩ := bsm h
   obtain ⟨h170a, h170b, _⟩ := rd_some h170
   have h171 := ce_58__4 h170
   by_cases h172 : (v169.Kids.length : Int) = (0 : Int)
   ·rw [if_pos h172] at h
    have h172' : decide ((v169.Kids.length : Int) = (0 : Int)) = true := decide_eq_true h172
    obtain rfl := Option.some.inj h
    simp (maxSteps := 10000000) (implicitDefEqProofs := false) (disch := first | assumption | omega | exact rfl | (refine dynT ?_; kernel_rfl)) only [bs, rs12, ls12, Nat.reduceAdd, ↓reduceIte, allP, lenD_lst u26, lenD_lst u49, lenD_lst u52, loadD_iagg a39 z39, loadD_iptr a3, loadD_iptr a52, loadD_pagg a25 z25, loadD_ptr a26, loadD_ptr a3, loadD_ptr a4, loadD_ptr a54, mkFn, ops_makeFunc_, storeD_agg z39, storeD_bool z4, storeD_gref z26, storeD_gref z54, hg, ↓h164', h167, h168, h171, ↓h172']
    exact ⟨rfl, by kernel_rfl⟩
   ·rw [if_neg h172] at h
    have h172' : decide ((v169.Kids.length : Int) = (0 : Int)) = false := decide_eq_false h172
    obtain ⟨v173, h174, h⟩ := bsm h
    obtain ⟨h174a, h174b, _⟩ := rd_some h174
    have h175 := ce_3_x h174
    obtain ⟨r176, h177, h⟩ := bsm h
    have h178 : callD (callW Try.prog A0) A0 [.var [.ref 3 0 y3.length 1], .var [.ref 4 0 y4.length 1], .var [.ref 5 0 y5.length 2], .arr (encL en_bool y3), .arr (encL en_bool y4), .arr (encL en_Pair y5)] 32 [.p (.lst false s9.length (encL en_Row s9)), .ref 5 0 y5.length 2, iv s18, iv v173] = some (.p (.lst false r176.length (encL en_i64 r176)), none) := (callD_lend (dsw := [.p (.lst false s9.length (encL en_Row s9)), .ref 5 0 y5.length 2, iv s18, iv v173]) (ds' := [.p (.lst false s9.length (encL en_Row s9)), .ref 0 0 y5.length 2, iv s18, iv v173]) (i := 5) (ids := []) (os := [.roa (encL en_Pair y5)]) rfl rfl (by first | rfl | (simp only [List.map_cons, List.map_nil, wkDv, wk, wks, wkL]; first | done | rfl)) (by kernel_rfl) (by kernel_rfl) (by kernel_rfl) (by kernel_rfl) (similar_above_callg h177))
    obtain ⟨o, h205, h⟩ := bsm h
    simp (maxSteps := 10000000) (implicitDefEqProofs := false) (disch := first | assumption | omega | exact rfl | (refine dynT ?_; kernel_rfl)) only [bs, rs12, ls12, Nat.reduceAdd, ↓reduceIte, allP, lenD_lst u26, lenD_lst u49, lenD_lst u52, loadD_iagg a39 z39, loadD_iptr a3, loadD_iptr a52, loadD_pagg a25 z25, loadD_ptr a26, loadD_ptr a3, loadD_ptr a4, loadD_ptr a54, mkFn, ops_makeFunc_, storeD_agg z39, storeD_bool z4, storeD_gref z26, storeD_gref z54, hg, ↓h164', h167, h168, h171, ↓h172', h175, h178]
    refine Wp.ctx (fun x => seqW _ _ _ _ (blockW _ (seqW _ _ _ _ (blockW _ (x))))) (L12_2_ok s8 s9 s10 s11 s18 r176 y3 y4 y5 ((-1 : Int), (0 : Int), (1 : Int), (1 : Int)) _ o (by kernel_rfl) h205) ?_
    intro e st hq
    cases o with
    | next _ => (first | cases h | (simp at h))
    | jmp n_ s_ =>
     obtain ⟨rfl, rfl, hq⟩ := hq
     obtain ⟨s19_206, s20_206, s21_206, s23_206⟩ := s_
     unfold F12_2 at hq
     (try simp only [] at h hq)
     by_cases h207 : (0 : Int) < s19_206
     ·rw [if_pos h207] at h
      have h207' : decide ((0 : Int) < s19_206) = true := decide_eq_true h207
      obtain ⟨r208, h209, h⟩ := bsm h
      have h210 : callD (callW Try.prog A0) A0 [.var [.ref 3 0 y3.length 1], .var [.ref 4 0 y4.length 1], .var [.ref 5 0 y5.length 2], .arr (encL en_bool y3), .arr (encL en_bool y4), .arr (encL en_Pair y5)] 31 [iv s18, iv s19_206, .ptr 2 0, .ptr 0 0, .ptr 1 0] = some (.p (.tup []), some [.var [.ref 3 0 y3.length 1], .var [.ref 4 0 y4.length 1], .var [.ref 6 0 r208.2.2.length 2], .arr (encL en_bool r208.1), .arr (encL en_bool r208.2.1), .dead, .arr (encL en_Pair r208.2.2)]) := (callD_put (dsw := [iv s18, iv s19_206, .ptr 2 0, .ptr 0 0, .ptr 1 0]) (ds' := [iv s18, iv s19_206, .ptr 0 0, .ptr 1 0, .ptr 2 0]) (i := 2) (ids := [0, 1, 5, 3, 4]) (o := .var [.ref 3 0 y5.length 2]) (os := [.var [.ref 4 0 y3.length 1], .var [.ref 5 0 y4.length 1], .arr (encL en_Pair y5), .arr (encL en_bool y3), .arr (encL en_bool y4)]) (o' := .var [.ref 6 0 r208.2.2.length 2]) (os' := [.var [.ref 4 0 y3.length 1], .var [.ref 5 0 y4.length 1], .dead, .arr (encL en_bool r208.1), .arr (encL en_bool r208.2.1), .arr (encL en_Pair r208.2.2)]) rfl (by kernel_rfl) (by kernel_rfl) (by kernel_rfl) (by kernel_rfl) (by kernel_rfl) (similar_Match_c1_callg h209) rfl rfl).trans (by kernel_rfl)
      by_cases hw_ : r208.1.length = y3.length ∧ r208.2.1.length = y4.length
      case neg => rw [if_neg hw_] at h; cases h
      rw [if_pos hw_] at h
      obtain ⟨h211, h212⟩ := hw_
      obtain rfl := Option.some.inj h
      simp (maxSteps := 10000000) (implicitDefEqProofs := false) (disch := first | assumption | omega | exact rfl | (refine dynT ?_; kernel_rfl)) only [bs, rs12, ls12, Nat.reduceAdd, ↓reduceIte, allP, lenD_lst u26, lenD_lst u49, lenD_lst u52, loadD_iagg a39 z39, loadD_iptr a3, loadD_iptr a52, loadD_pagg a25 z25, loadD_ptr a26, loadD_ptr a3, loadD_ptr a4, loadD_ptr a54, mkFn, ops_makeFunc_, storeD_agg z39, storeD_bool z4, storeD_gref z26, storeD_gref z54, hg, ↓h164', h167, h168, h171, ↓h172', h175, h178, hq, ↓h207', h210]
      exact ⟨rfl, by simp only [List.length_set, cpL_len, h211, h212]; kernel_rfl⟩
     ·rw [if_neg h207] at h
      have h207' : decide ((0 : Int) < s19_206) = false := decide_eq_false h207
      obtain rfl := Option.some.inj h
      simp (maxSteps := 10000000) (implicitDefEqProofs := false) (disch := first | assumption | omega | exact rfl | (refine dynT ?_; kernel_rfl)) only [bs, rs12, ls12, Nat.reduceAdd, ↓reduceIte, allP, lenD_lst u26, lenD_lst u49, lenD_lst u52, loadD_iagg a39 z39, loadD_iptr a3, loadD_iptr a52, loadD_pagg a25 z25, loadD_ptr a26, loadD_ptr a3, loadD_ptr a4, loadD_ptr a54, mkFn, ops_makeFunc_, storeD_agg z39, storeD_bool z4, storeD_gref z26, storeD_gref z54, hg, ↓h164', h167, h168, h171, ↓h172', h175, h178, hq, ↓h207']
      exact ⟨rfl, by kernel_rfl⟩
    | ret _ => (first | cases h | (simp at h))
 ·rw [if_neg h164] at h
  have h164' : decide ((0 : Int) < s18) = false := decide_eq_false h164
  obtain rfl := Option.some.inj h
  simp (maxSteps := 10000000) (implicitDefEqProofs := false) (disch := first | assumption | omega | exact rfl | (refine dynT ?_; kernel_rfl)) only [bs, rs12, ls12, Nat.reduceAdd, ↓reduceIte, allP, lenD_lst u26, lenD_lst u49, lenD_lst u52, loadD_iagg a39 z39, loadD_iptr a3, loadD_iptr a52, loadD_pagg a25 z25, loadD_ptr a26, loadD_ptr a3, loadD_ptr a4, loadD_ptr a54, mkFn, ops_makeFunc_, storeD_agg z39, storeD_bool z4, storeD_gref z26, storeD_gref z54, hg, ↓h164']
  exact ⟨rfl, rfl, by kernel_rfl⟩
noncomputable def L12_0 : Code := (loopsOf (bodyOf Try.f12)).getD 0 .skip
def g12_0 : List Ghost := [.weak [8, 9, 10, 11, 48], .keep [8, 9, 10, 11, 12, 13, 14, 15, 48, 49, 50]]
def F12_0 (s8 : (List Row)) (s9 : (List Row)) (s10 : (List Int)) (s11 : (List Int)) (s48 : (List Pair)) (s49 : Int) (y5 : (List Pair)) : (Int × (List Bool) × (List Bool)) → St := fun (s50, y3, y4) => ⟨[.junk, .junk, .junk, .junk, .junk, .junk, .junk, .junk, .p (.lst false s8.length (encL en_Row s8)), .p (.lst false s9.length (encL en_Row s9)), .p (.lst false s10.length (encL en_i64 s10)), .p (.lst false s11.length (encL en_i64 s11)), .ptr 0 0, .ptr 1 0, .ptr 2 0, .fn (.func 31) [.ptr 2 0, .ptr 0 0, .ptr 1 0], .junk, .junk, .junk, .junk, .junk, .junk, .junk, .junk, .junk, .junk, .junk, .junk, .junk, .junk, .junk, .junk, .junk, .junk, .junk, .junk, .junk, .junk, .junk, .junk, .junk, .junk, .junk, .junk, .junk, .junk, .junk, .junk, .p (.lst false s48.length (encL en_Pair s48)), iv s49, iv s50, .junk, .junk, .junk, .junk, .junk, .junk, .junk, .junk, .junk, .junk, .junk, .junk, .junk, .junk, .junk, .junk, .junk, .junk, .junk, .junk, .junk, .junk, .junk, .junk, .junk, .junk, .junk, .junk, .junk, .junk, .junk, .junk, .junk, .junk, .junk, .junk, .junk, .junk, .junk, .junk, .junk, .junk, .junk, .junk, .junk, .junk, .junk, .junk, .junk, .junk, .junk, .junk, .junk, .junk, .junk, .junk, .junk, .junk, .junk, .junk, .junk, .junk, .junk, .junk, .junk, .junk, .junk, .junk, .junk, .junk, .junk, .junk, .junk, .junk, .junk, .junk, .junk, .junk, .junk, .junk, .junk, .junk, .junk, .junk, .junk, .junk, .junk, .junk, .junk, .junk, .junk, .junk, .junk, .junk, .junk, .junk, .junk, .junk, .junk, .junk, .junk, .junk, .junk, .junk, .junk, .junk, .junk, .junk, .junk, .junk, .junk, .junk, .junk, .junk, .junk, .junk, .junk, .junk, .junk, .junk, .junk, .junk, .junk, .junk, .junk, .junk, .junk, .junk, .junk, .junk, .junk, .junk], [.var [.ref 3 0 y3.length 1], .var [.ref 4 0 y4.length 1], .var [.ref 5 0 y5.length 2], .arr (encL en_bool y3), .arr (encL en_bool y4), .arr (encL en_Pair y5)], 0⟩
theorem L12_0_ok (s8 : (List Row)) (s9 : (List Row)) (s10 : (List Int)) (s11 : (List Int)) (s48 : (List Pair)) (s49 : Int) (y5 : (List Pair)) : ∀ s st o, ghostsD g12_0 st = some (F12_0 s8 s9 s10 s11 s48 s49 y5 s) → iter (similar_Match_L0 s8 s9 s10 s11 s48 s49 y5) s = some o →
    Wp (evW Try.prog A0 12 (.loop L12_0) st) (OutQ (F12_0 s8 s9 s10 s11 s48 s49 y5) g12_0 (fun n s st => n = 0 ∧ ghostsD [.keep [8, 9, 10, 11, 12, 13, 14, 15, 48, 49, 50]] st = some (F12_0 s8 s9 s10 s11 s48 s49 y5 s)) (fun r st => finishD Try.prog A0 12 Try.f12 st = some (.p (.tup [.lst false r.1.length (encL en_Pair r.1), .v (.int .i64 r.2)]), [])) o) := by
 refine Wp.iter ?_
 intro s st o hg h
 obtain ⟨s50, y3, y4⟩ := s
 unfold similar_Match_L0 at h
 unfold g12_0 F12_0 at hg ⊢
 (try simp only [] at h hg)
 unfold L12_0 bodyOf Try.f12; simp only [Option.getD_some, loopsOf, List.append_nil, List.nil_append, List.cons_append, List.getD_cons_zero, List.getD_cons_succ]
 by_cases h24 : s50 < s49
 ·rw [if_pos h24] at h
  have h24' : decide (s50 < s49) = true := decide_eq_true h24
  obtain ⟨v25, h26, h⟩ := bsm h
  obtain ⟨h26a, h26b, _⟩ := rd_some h26
  have h27 := lk_frz_39 h26
  obtain ⟨v28, h29, h⟩ := bsm h
  obtain ⟨h29a, h29b, _⟩ := rd_some h29
  have h30 : ∀ (H : List Ob) (id : Nat), stdOb H id (v25.Old.toNat * 1) (.p (.v (.bool true))) (some (.arr (encL en_bool y3))) = some (H.set id (.arr (encL en_bool (y3.set v25.Old.toNat true)))) := fun H id => std_enc0 en_bool_len h29 (by decide) (by rw [en_bool_eq, en_bool_eq]; rfl)
  have h31 : (y3.set v25.Old.toNat true).length = y3.length := List.length_set
  obtain ⟨v32, h33, h⟩ := bsm h
  obtain ⟨h33a, h33b, _⟩ := rd_some h33
  have h34 : ∀ (H : List Ob) (id : Nat), stdOb H id (v25.New.toNat * 1) (.p (.v (.bool true))) (some (.arr (encL en_bool y4))) = some (H.set id (.arr (encL en_bool (y4.set v25.New.toNat true)))) := fun H id => std_enc0 en_bool_len h33 (by decide) (by rw [en_bool_eq, en_bool_eq]; rfl)
  have h35 : (y4.set v25.New.toNat true).length = y4.length := List.length_set
  obtain rfl := Option.some.inj h
  simp (maxSteps := 10000000) (implicitDefEqProofs := false) (disch := first | assumption | omega | exact rfl | (refine dynT ?_; kernel_rfl)) only [bs, rs12, ls12, Nat.reduceAdd, ↓reduceIte, allP, lenD_lst u26, lenD_lst u49, lenD_lst u52, loadD_iagg a39 z39, loadD_iptr a3, loadD_iptr a52, loadD_pagg a25 z25, loadD_ptr a26, loadD_ptr a3, loadD_ptr a4, loadD_ptr a54, mkFn, ops_makeFunc_, storeD_agg z39, storeD_bool z4, storeD_gref z26, storeD_gref z54, hg, ↓h24', h27, h30, h34]
  exact ⟨rfl, by simp only [List.length_set, cpL_len]; kernel_rfl⟩
 ·rw [if_neg h24] at h
  have h24' : decide (s50 < s49) = false := decide_eq_false h24
  obtain rfl := Option.some.inj h
  simp (maxSteps := 10000000) (implicitDefEqProofs := false) (disch := first | assumption | omega | exact rfl | (refine dynT ?_; kernel_rfl)) only [bs, rs12, ls12, Nat.reduceAdd, ↓reduceIte, allP, lenD_lst u26, lenD_lst u49, lenD_lst u52, loadD_iagg a39 z39, loadD_iptr a3, loadD_iptr a52, loadD_pagg a25 z25, loadD_ptr a26, loadD_ptr a3, loadD_ptr a4, loadD_ptr a54, mkFn, ops_makeFunc_, storeD_agg z39, storeD_bool z4, storeD_gref z26, storeD_gref z54, hg, ↓h24']
  exact ⟨rfl, rfl, by kernel_rfl⟩
theorem f12_ok  (x0 : Node) (x1 : Node) (x2 : (List Pair)) (r : ((List Pair) × Int)) (h : similar_Match x0 x1 x2 = some r) : callW Try.prog A0 12 [.p (.agg [.v (.int .i64 x0.Kind), .v (.string x0.Text), .lst false x0.Gaps.length (encL en_str x0.Gaps), .lst false x0.Kids.length (encL en_Node x0.Kids)]), .p (.agg [.v (.int .i64 x1.Kind), .v (.string x1.Text), .lst false x1.Gaps.length (encL en_str x1.Gaps), .lst false x1.Kids.length (encL en_Node x1.Kids)]), .p (.lst false x2.length (encL en_Pair x2))] [] = some (.p (.tup [.lst false r.1.length (encL en_Pair r.1), .v (.int .i64 r.2)]), []) := by
 refine call_ofH (fn := Try.f12) (c := bodyOf Try.f12) rfl rfl (by kernel_rfl) (by kernel_rfl) ?_
 rw [show initS Try.f12 [.p (.agg [.v (.int .i64 x0.Kind), .v (.string x0.Text), .lst false x0.Gaps.length (encL en_str x0.Gaps), .lst false x0.Kids.length (encL en_Node x0.Kids)]), .p (.agg [.v (.int .i64 x1.Kind), .v (.string x1.Text), .lst false x1.Gaps.length (encL en_str x1.Gaps), .lst false x1.Kids.length (encL en_Node x1.Kids)]), .p (.lst false x2.length (encL en_Pair x2))] [] = ⟨.p (.agg [.v (.int .i64 x0.Kind), .v (.string x0.Text), .lst false x0.Gaps.length (encL en_str x0.Gaps), .lst false x0.Kids.length (encL en_Node x0.Kids)]) :: .p (.agg [.v (.int .i64 x1.Kind), .v (.string x1.Text), .lst false x1.Gaps.length (encL en_str x1.Gaps), .lst false x1.Kids.length (encL en_Node x1.Kids)]) :: .p (.lst false x2.length (encL en_Pair x2)) :: List.replicate 180 undefD, [], 0⟩ from by kernel_rfl]
 unfold similar_Match at h
 unfold bodyOf Try.f12; simp only [Option.getD_some, loopsOf, List.append_nil, List.nil_append, List.cons_append, List.getD_cons_zero, List.getD_cons_succ]
 simp only [List.replicate]
 obtain ⟨r1, h2, h⟩ := bsm h
 have h3 : ∀ H, callD (callW Try.prog A0) A0 H 27 [.p (.agg [.v (.int .i64 x0.Kind), .v (.string x0.Text), .lst false x0.Gaps.length (encL en_str x0.Gaps), .lst false x0.Kids.length (encL en_Node x0.Kids)])] = some (.p (.lst false r1.length (encL en_Row r1)), none) := fun H => tree_Rows_call h2
 obtain ⟨r4, h5, h⟩ := bsm h
 have h6 : ∀ H, callD (callW Try.prog A0) A0 H 27 [.p (.agg [.v (.int .i64 x1.Kind), .v (.string x1.Text), .lst false x1.Gaps.length (encL en_str x1.Gaps), .lst false x1.Kids.length (encL en_Node x1.Kids)])] = some (.p (.lst false r4.length (encL en_Row r4)), none) := fun H => tree_Rows_call h5
 obtain ⟨r7, h8, h⟩ := bsm h
 have h9 : ∀ H, callD (callW Try.prog A0) A0 H 28 [.p (.lst false r1.length (encL en_Row r1)), .p (.lst false r4.length (encL en_Row r4)), .p (.lst false x2.length (encL en_Pair x2))] = some (.p (.v (.bool r7)), none) := fun H => similar_partial_call h8
 by_cases h10 : r7 = true
 ·rw [if_pos h10] at h
  obtain ⟨r11, h12, h⟩ := bsm h
  have h13 : ∀ H, callD (callW Try.prog A0) A0 H 29 [.p (.agg [.v (.int .i64 x0.Kind), .v (.string x0.Text), .lst false x0.Gaps.length (encL en_str x0.Gaps), .lst false x0.Kids.length (encL en_Node x0.Kids)])] = some (.p (.lst false r11.length (encL en_i64 r11)), none) := fun H => similar_sizes_call h12
  obtain ⟨r14, h15, h⟩ := bsm h
  have h16 : ∀ H, callD (callW Try.prog A0) A0 H 29 [.p (.agg [.v (.int .i64 x1.Kind), .v (.string x1.Text), .lst false x1.Gaps.length (encL en_str x1.Gaps), .lst false x1.Kids.length (encL en_Node x1.Kids)])] = some (.p (.lst false r14.length (encL en_i64 r14)), none) := fun H => similar_sizes_call h15
  by_cases hw_ : 0 ≤ (r1.length : Int) ∧ (r1.length : Int) * 1 ≤ 140737488355328
  case neg => rw [if_neg hw_] at h; cases h
  rw [if_pos hw_] at h
  obtain ⟨h17, h18⟩ := hw_
  by_cases hw_ : 0 ≤ (r4.length : Int) ∧ (r4.length : Int) * 1 ≤ 140737488355328
  case neg => rw [if_neg hw_] at h; cases h
  rw [if_pos hw_] at h
  obtain ⟨h19, h20⟩ := hw_
  obtain ⟨r21, h22, h⟩ := bsm h
  have h23 : ∀ H, callD (callW Try.prog A0) A0 H 30 [.p (.lst false x2.length (encL en_Pair x2))] = some (.ref H.length 0 r21.length 2, some (H ++ [.arr (encL en_Pair r21)])) := fun H => slices_Clone_call h22
  obtain ⟨o, h36, h⟩ := bsm h
  simp (maxSteps := 10000000) (implicitDefEqProofs := false) (disch := first | assumption | omega | exact rfl | (refine dynT ?_; kernel_rfl)) only [bs, rs12, ls12, Nat.reduceAdd, ↓reduceIte, allP, lenD_lst u26, lenD_lst u49, lenD_lst u52, loadD_iagg a39 z39, loadD_iptr a3, loadD_iptr a52, loadD_pagg a25 z25, loadD_ptr a26, loadD_ptr a3, loadD_ptr a4, loadD_ptr a54, mkFn, ops_makeFunc_, storeD_agg z39, storeD_bool z4, storeD_gref z26, storeD_gref z54, h3, h6, h9, h10, h13, h16, h23]
  refine Wp.ctx (fun x => seqW _ _ _ _ (blockW _ (x))) (L12_0_ok r1 r4 r11 r14 x2 (x2.length : Int) r21 ((0 : Int), (List.replicate (r1.length : Int).toNat false), (List.replicate (r4.length : Int).toNat false)) _ o (by kernel_rfl) h36) ?_
  intro e st hq
  cases o with
  | next _ => (first | cases h | (simp at h))
  | jmp n_ s_ =>
   obtain ⟨rfl, rfl, hq⟩ := hq
   obtain ⟨s50_37, y3_37, y4_37⟩ := s_
   unfold F12_0 at hq
   (try simp only [] at h hq)
   obtain ⟨v38, h39, h⟩ := bsm h
   obtain ⟨h39a, h39b, _⟩ := rd_some h39
   have h40 := ce_58__1 h39
   obtain ⟨v41, h42, h⟩ := bsm h
   obtain ⟨h42a, h42b, _⟩ := rd_some h42
   have h43 := ce_58__1 h42
   by_cases h44 : v38.Kind = v41.Kind
   ·rw [if_pos h44] at h
    have h44' : decide (v38.Kind = v41.Kind) = true := decide_eq_true h44
    obtain ⟨v45, h46, h⟩ := bsm h
    obtain ⟨h46a, h46b, _⟩ := rd_some h46
    have h47 := ce_4_x h46
    by_cases h48 : v45 = true
    ·rw [if_pos h48] at h
     obtain ⟨o, h98, h⟩ := bsm h
     simp (maxSteps := 10000000) (implicitDefEqProofs := false) (disch := first | assumption | omega | exact rfl | (refine dynT ?_; kernel_rfl)) only [bs, rs12, ls12, Nat.reduceAdd, ↓reduceIte, allP, lenD_lst u26, lenD_lst u49, lenD_lst u52, loadD_iagg a39 z39, loadD_iptr a3, loadD_iptr a52, loadD_pagg a25 z25, loadD_ptr a26, loadD_ptr a3, loadD_ptr a4, loadD_ptr a54, mkFn, ops_makeFunc_, storeD_agg z39, storeD_bool z4, storeD_gref z26, storeD_gref z54, h3, h6, h9, h10, h13, h16, h23, hq, h40, h43, ↓h44', h47, h48]
     refine Wp.ctx (fun x => seqW _ _ _ _ (blockW _ (x))) (L12_1_ok r1 r4 r11 r14 (w64 ((r1.length : Int) - (1 : Int)), y3_37, y4_37, r21) _ o (by kernel_rfl) h98) ?_
     intro e st hq
     cases o with
     | next _ => (first | cases h | (simp at h))
     | jmp n_ s_ =>
      obtain ⟨rfl, rfl, hq⟩ := hq
      obtain ⟨s18_99, y3_99, y4_99, y5_99⟩ := s_
      unfold F12_1 at hq
      (try simp only [] at h hq)
      obtain ⟨r100, h101, h⟩ := bsm h
      have h102 : callD (callW Try.prog A0) A0 [.var [.ref 3 0 y3_99.length 1], .var [.ref 4 0 y4_99.length 1], .var [.ref 5 0 y5_99.length 2], .arr (encL en_bool y3_99), .arr (encL en_bool y4_99), .arr (encL en_Pair y5_99)] 33 [.ref 5 0 y5_99.length 2, .p (.fn (.func 34) [])] = some (.p (.tup []), some [.var [.ref 3 0 y3_99.length 1], .var [.ref 4 0 y4_99.length 1], .var [.ref 5 0 y5_99.length 2], .arr (encL en_bool y3_99), .arr (encL en_bool y4_99), .arr (encL en_Pair r100)]) := (callD_put (dsw := [.ref 5 0 y5_99.length 2, .p (.fn (.func 34) [])]) (ds' := [.ref 0 0 y5_99.length 2, .p (.fn (.func 34) [])]) (i := 5) (ids := []) (o := .arr (encL en_Pair y5_99)) (os := []) (o' := .arr (encL en_Pair r100)) (os' := []) rfl (by kernel_rfl) (by kernel_rfl) (by kernel_rfl) (by kernel_rfl) (by kernel_rfl) (slices_SortFunc_34_call h101) rfl rfl).trans (by kernel_rfl)
      by_cases hw_ : r100.length = y5_99.length
      case neg => rw [if_neg hw_] at h; cases h
      rw [if_pos hw_] at h
      have h103 := hw_
      obtain rfl := Option.some.inj h
      simp (maxSteps := 10000000) (implicitDefEqProofs := false) (disch := first | assumption | omega | exact rfl | (refine dynT ?_; kernel_rfl)) only [bs, rs12, ls12, Nat.reduceAdd, ↓reduceIte, allP, lenD_lst u26, lenD_lst u49, lenD_lst u52, loadD_iagg a39 z39, loadD_iptr a3, loadD_iptr a52, loadD_pagg a25 z25, loadD_ptr a26, loadD_ptr a3, loadD_ptr a4, loadD_ptr a54, mkFn, ops_makeFunc_, storeD_agg z39, storeD_bool z4, storeD_gref z26, storeD_gref z54, h3, h6, h9, h10, h13, h16, h23, hq, h40, h43, ↓h44', h47, h48, hq, h102]
      refine ⟨by first | exact .inl trivial | exact .inr trivial | simp, ?_⟩
      exact finish_is (ds := [.ref 5 0 y5_99.length 2, iv (0 : Int)]) (x := .tup [.lst false r100.length (encL en_Pair r100), .v (.int .i64 (0 : Int))]) (y := .tup [.lst false r100.length (encL en_Pair r100), .v (.int .i64 (0 : Int))]) (l := [5]) rfl rfl rfl (purifyT_rp en_Pair_len rfl (by first | rfl | omega)) (by first | rfl | (simp only [wk, wks, wkL]; first | done | rfl))
     | ret _ => (first | cases h | (simp at h))
    ·rw [if_neg h48] at h
     replace h48 := Bool.eq_false_iff.2 h48
     obtain ⟨r104, h105, h⟩ := bsm h
     have h106 : callD (callW Try.prog A0) A0 [.var [.ref 3 0 y3_37.length 1], .var [.ref 4 0 y4_37.length 1], .var [.ref 5 0 r21.length 2], .arr (encL en_bool y3_37), .arr (encL en_bool y4_37), .arr (encL en_Pair r21)] 31 [iv (0 : Int), iv (0 : Int), .ptr 2 0, .ptr 0 0, .ptr 1 0] = some (.p (.tup []), some [.var [.ref 3 0 y3_37.length 1], .var [.ref 4 0 y4_37.length 1], .var [.ref 6 0 r104.2.2.length 2], .arr (encL en_bool r104.1), .arr (encL en_bool r104.2.1), .dead, .arr (encL en_Pair r104.2.2)]) := (callD_put (dsw := [iv (0 : Int), iv (0 : Int), .ptr 2 0, .ptr 0 0, .ptr 1 0]) (ds' := [iv (0 : Int), iv (0 : Int), .ptr 0 0, .ptr 1 0, .ptr 2 0]) (i := 2) (ids := [0, 1, 5, 3, 4]) (o := .var [.ref 3 0 r21.length 2]) (os := [.var [.ref 4 0 y3_37.length 1], .var [.ref 5 0 y4_37.length 1], .arr (encL en_Pair r21), .arr (encL en_bool y3_37), .arr (encL en_bool y4_37)]) (o' := .var [.ref 6 0 r104.2.2.length 2]) (os' := [.var [.ref 4 0 y3_37.length 1], .var [.ref 5 0 y4_37.length 1], .dead, .arr (encL en_bool r104.1), .arr (encL en_bool r104.2.1), .arr (encL en_Pair r104.2.2)]) rfl (by kernel_rfl) (by kernel_rfl) (by kernel_rfl) (by kernel_rfl) (by kernel_rfl) (similar_Match_c1_callg h105) rfl rfl).trans (by kernel_rfl)
     by_cases hw_ : r104.1.length = y3_37.length ∧ r104.2.1.length = y4_37.length
     case neg => rw [if_neg hw_] at h; cases h
     rw [if_pos hw_] at h
     obtain ⟨h107, h108⟩ := hw_
     obtain ⟨o, h158, h⟩ := bsm h
     simp (maxSteps := 10000000) (implicitDefEqProofs := false) (disch := first | assumption | omega | exact rfl | (refine dynT ?_; kernel_rfl)) only [bs, rs12, ls12, Nat.reduceAdd, ↓reduceIte, allP, lenD_lst u26, lenD_lst u49, lenD_lst u52, loadD_iagg a39 z39, loadD_iptr a3, loadD_iptr a52, loadD_pagg a25 z25, loadD_ptr a26, loadD_ptr a3, loadD_ptr a4, loadD_ptr a54, mkFn, ops_makeFunc_, storeD_agg z39, storeD_bool z4, storeD_gref z26, storeD_gref z54, h3, h6, h9, h10, h13, h16, h23, hq, h40, h43, ↓h44', h47, h48, h106]
     refine Wp.ctx (fun x => seqW _ _ _ _ (blockW _ (x))) (L12_1_ok r1 r4 r11 r14 (w64 ((r1.length : Int) - (1 : Int)), r104.1, r104.2.1, r104.2.2) _ o (by unfold F12_1; simp only [List.length_set, cpL_len, h107, h108]; kernel_rfl) h158) ?_
     intro e st hq
     cases o with
     | next _ => (first | cases h | (simp at h))
     | jmp n_ s_ =>
      obtain ⟨rfl, rfl, hq⟩ := hq
      obtain ⟨s18_159, y3_159, y4_159, y5_159⟩ := s_
      unfold F12_1 at hq
      (try simp only [] at h hq)
      obtain ⟨r160, h161, h⟩ := bsm h
      have h162 : callD (callW Try.prog A0) A0 [.var [.ref 3 0 y3_159.length 1], .var [.ref 4 0 y4_159.length 1], .var [.ref 5 0 y5_159.length 2], .arr (encL en_bool y3_159), .arr (encL en_bool y4_159), .arr (encL en_Pair y5_159)] 33 [.ref 5 0 y5_159.length 2, .p (.fn (.func 34) [])] = some (.p (.tup []), some [.var [.ref 3 0 y3_159.length 1], .var [.ref 4 0 y4_159.length 1], .var [.ref 5 0 y5_159.length 2], .arr (encL en_bool y3_159), .arr (encL en_bool y4_159), .arr (encL en_Pair r160)]) := (callD_put (dsw := [.ref 5 0 y5_159.length 2, .p (.fn (.func 34) [])]) (ds' := [.ref 0 0 y5_159.length 2, .p (.fn (.func 34) [])]) (i := 5) (ids := []) (o := .arr (encL en_Pair y5_159)) (os := []) (o' := .arr (encL en_Pair r160)) (os' := []) rfl (by kernel_rfl) (by kernel_rfl) (by kernel_rfl) (by kernel_rfl) (by kernel_rfl) (slices_SortFunc_34_call h161) rfl rfl).trans (by kernel_rfl)
      by_cases hw_ : r160.length = y5_159.length
      case neg => rw [if_neg hw_] at h; cases h
      rw [if_pos hw_] at h
      have h163 := hw_
      obtain rfl := Option.some.inj h
      simp (maxSteps := 10000000) (implicitDefEqProofs := false) (disch := first | assumption | omega | exact rfl | (refine dynT ?_; kernel_rfl)) only [bs, rs12, ls12, Nat.reduceAdd, ↓reduceIte, allP, lenD_lst u26, lenD_lst u49, lenD_lst u52, loadD_iagg a39 z39, loadD_iptr a3, loadD_iptr a52, loadD_pagg a25 z25, loadD_ptr a26, loadD_ptr a3, loadD_ptr a4, loadD_ptr a54, mkFn, ops_makeFunc_, storeD_agg z39, storeD_bool z4, storeD_gref z26, storeD_gref z54, h3, h6, h9, h10, h13, h16, h23, hq, h40, h43, ↓h44', h47, h48, h106, hq, h162]
      refine ⟨by first | exact .inl trivial | exact .inr trivial | simp, ?_⟩
      exact finish_is (ds := [.ref 5 0 y5_159.length 2, iv (0 : Int)]) (x := .tup [.lst false r160.length (encL en_Pair r160), .v (.int .i64 (0 : Int))]) (y := .tup [.lst false r160.length (encL en_Pair r160), .v (.int .i64 (0 : Int))]) (l := [5]) rfl rfl rfl (purifyT_rp en_Pair_len rfl (by first | rfl | omega)) (by first | rfl | (simp only [wk, wks, wkL]; first | done | rfl))
     | ret _ => (first | cases h | (simp at h))
   ·rw [if_neg h44] at h
    have h44' : decide (v38.Kind = v41.Kind) = false := decide_eq_false h44
    obtain ⟨o, h213, h⟩ := bsm h
    simp (maxSteps := 10000000) (implicitDefEqProofs := false) (disch := first | assumption | omega | exact rfl | (refine dynT ?_; kernel_rfl)) only [bs, rs12, ls12, Nat.reduceAdd, ↓reduceIte, allP, lenD_lst u26, lenD_lst u49, lenD_lst u52, loadD_iagg a39 z39, loadD_iptr a3, loadD_iptr a52, loadD_pagg a25 z25, loadD_ptr a26, loadD_ptr a3, loadD_ptr a4, loadD_ptr a54, mkFn, ops_makeFunc_, storeD_agg z39, storeD_bool z4, storeD_gref z26, storeD_gref z54, h3, h6, h9, h10, h13, h16, h23, hq, h40, h43, ↓h44']
    refine Wp.ctx (fun x => seqW _ _ _ _ (blockW _ (x))) (L12_1_ok r1 r4 r11 r14 (w64 ((r1.length : Int) - (1 : Int)), y3_37, y4_37, r21) _ o (by kernel_rfl) h213) ?_
    intro e st hq
    cases o with
    | next _ => (first | cases h | (simp at h))
    | jmp n_ s_ =>
     obtain ⟨rfl, rfl, hq⟩ := hq
     obtain ⟨s18_214, y3_214, y4_214, y5_214⟩ := s_
     unfold F12_1 at hq
     (try simp only [] at h hq)
     obtain ⟨r215, h216, h⟩ := bsm h
     have h217 : callD (callW Try.prog A0) A0 [.var [.ref 3 0 y3_214.length 1], .var [.ref 4 0 y4_214.length 1], .var [.ref 5 0 y5_214.length 2], .arr (encL en_bool y3_214), .arr (encL en_bool y4_214), .arr (encL en_Pair y5_214)] 33 [.ref 5 0 y5_214.length 2, .p (.fn (.func 34) [])] = some (.p (.tup []), some [.var [.ref 3 0 y3_214.length 1], .var [.ref 4 0 y4_214.length 1], .var [.ref 5 0 y5_214.length 2], .arr (encL en_bool y3_214), .arr (encL en_bool y4_214), .arr (encL en_Pair r215)]) := (callD_put (dsw := [.ref 5 0 y5_214.length 2, .p (.fn (.func 34) [])]) (ds' := [.ref 0 0 y5_214.length 2, .p (.fn (.func 34) [])]) (i := 5) (ids := []) (o := .arr (encL en_Pair y5_214)) (os := []) (o' := .arr (encL en_Pair r215)) (os' := []) rfl (by kernel_rfl) (by kernel_rfl) (by kernel_rfl) (by kernel_rfl) (by kernel_rfl) (slices_SortFunc_34_call h216) rfl rfl).trans (by kernel_rfl)
     by_cases hw_ : r215.length = y5_214.length
     case neg => rw [if_neg hw_] at h; cases h
     rw [if_pos hw_] at h
     have h218 := hw_
     obtain rfl := Option.some.inj h
     simp (maxSteps := 10000000) (implicitDefEqProofs := false) (disch := first | assumption | omega | exact rfl | (refine dynT ?_; kernel_rfl)) only [bs, rs12, ls12, Nat.reduceAdd, ↓reduceIte, allP, lenD_lst u26, lenD_lst u49, lenD_lst u52, loadD_iagg a39 z39, loadD_iptr a3, loadD_iptr a52, loadD_pagg a25 z25, loadD_ptr a26, loadD_ptr a3, loadD_ptr a4, loadD_ptr a54, mkFn, ops_makeFunc_, storeD_agg z39, storeD_bool z4, storeD_gref z26, storeD_gref z54, h3, h6, h9, h10, h13, h16, h23, hq, h40, h43, ↓h44', hq, h217]
     refine ⟨by first | exact .inl trivial | exact .inr trivial | simp, ?_⟩
     exact finish_is (ds := [.ref 5 0 y5_214.length 2, iv (0 : Int)]) (x := .tup [.lst false r215.length (encL en_Pair r215), .v (.int .i64 (0 : Int))]) (y := .tup [.lst false r215.length (encL en_Pair r215), .v (.int .i64 (0 : Int))]) (l := [5]) rfl rfl rfl (purifyT_rp en_Pair_len rfl (by first | rfl | omega)) (by first | rfl | (simp only [wk, wks, wkL]; first | done | rfl))
    | ret _ => (first | cases h | (simp at h))
  | ret _ => (first | cases h | (simp at h))
 ·rw [if_neg h10] at h
  replace h10 := Bool.eq_false_iff.2 h10
  obtain rfl := Option.some.inj h
  simp (maxSteps := 10000000) (implicitDefEqProofs := false) (disch := first | assumption | omega | exact rfl | (refine dynT ?_; kernel_rfl)) only [bs, rs12, ls12, Nat.reduceAdd, ↓reduceIte, allP, lenD_lst u26, lenD_lst u49, lenD_lst u52, loadD_iagg a39 z39, loadD_iptr a3, loadD_iptr a52, loadD_pagg a25 z25, loadD_ptr a26, loadD_ptr a3, loadD_ptr a4, loadD_ptr a54, mkFn, ops_makeFunc_, storeD_agg z39, storeD_bool z4, storeD_gref z26, storeD_gref z54, h3, h6, h9, h10]
  refine ⟨by first | exact .inl trivial | exact .inr trivial | simp, ?_⟩
  exact finish_is (ds := [.p (.lst true 0 []), iv (15 : Int)]) (x := .tup [.lst true 0 [], .v (.int .i64 (15 : Int))]) (y := .tup [.lst false ([] : List Pair).length (encL en_Pair ([] : List Pair)), .v (.int .i64 (15 : Int))]) (l := []) rfl rfl rfl rfl (by first | rfl | (simp only [wk, wks, wkL]; first | done | rfl))
theorem similar_Match_callp {x0 : Node} {x1 : Node} {x2 : (List Pair)} {r : ((List Pair) × Int)} (h : similar_Match x0 x1 x2 = some r) : callW Try.prog A0 12 [.p (.agg [.v (.int .i64 x0.Kind), .v (.string x0.Text), .lst false x0.Gaps.length (encL en_str x0.Gaps), .lst false x0.Kids.length (encL en_Node x0.Kids)]), .p (.agg [.v (.int .i64 x1.Kind), .v (.string x1.Text), .lst false x1.Gaps.length (encL en_str x1.Gaps), .lst false x1.Kids.length (encL en_Node x1.Kids)]), .p (.lst false x2.length (encL en_Pair x2))] [] = some (.p (.tup [.lst false r.1.length (encL en_Pair r.1), .v (.int .i64 r.2)]), []) := f12_ok x0 x1 x2 _ h
def ls14 := And.intro @idxL_26 (@neq_39)
noncomputable def L14_0 : Code := (loopsOf (bodyOf Try.f14)).getD 0 .skip
def g14_0 : List Ghost := [.weak [0, 1], .keep [0, 1, 5]]
def F14_0 (s0 : (List Pair)) (s1 : (List Pair)) : Int → St := fun s5 => ⟨[.p (.lst false s0.length (encL en_Pair s0)), .p (.lst false s1.length (encL en_Pair s1)), .junk, .junk, .junk, iv s5, .junk, .junk, .junk, .junk, .junk, .junk, .junk, .junk, .junk, .junk, .junk, .junk, .junk, .junk, .junk, .junk, .junk, .junk, .junk, .junk], [], 0⟩
theorem L14_0_ok (s0 : (List Pair)) (s1 : (List Pair)) : ∀ s st o, ghostsD g14_0 st = some (F14_0 s0 s1 s) → iter (R19_Pairs_L0 s0 s1) s = some o →
    Wp (evW Try.prog A0 14 (.loop L14_0) st) (OutQ (F14_0 s0 s1) g14_0 (fun n s st => n = 0 ∧ ghostsD [.keep [0, 1, 5]] st = some (F14_0 s0 s1 s)) (fun r st => finishD Try.prog A0 14 Try.f14 st = some (.p (.v (.bool r)), [])) o) := by
 refine Wp.iter ?_
 intro s st o hg h
 generalize s = s5 at hg h
 unfold R19_Pairs_L0 at h
 unfold g14_0 F14_0 at hg ⊢
 (try simp only [] at h hg)
 unfold L14_0 bodyOf Try.f14; simp only [Option.getD_some, loopsOf, List.append_nil, List.nil_append, List.cons_append, List.getD_cons_zero, List.getD_cons_succ]
 by_cases h2 : s5 < (s0.length : Int)
 ·rw [if_pos h2] at h
  have h2' : decide (s5 < (s0.length : Int)) = true := decide_eq_true h2
  obtain ⟨v3, h4, h⟩ := bsm h
  obtain ⟨h4a, h4b, _⟩ := rd_some h4
  have h5 := lk_frz_39 h4
  obtain ⟨v6, h7, h⟩ := bsm h
  obtain ⟨h7a, h7b, _⟩ := rd_some h7
  have h8 := lk_frz_39 h7
  by_cases h9 : v3.Old = v6.Old ∧ v3.New = v6.New
  ·rw [if_pos h9] at h
   have h9' : decide (v3.Old = v6.Old ∧ v3.New = v6.New) = true := decide_eq_true h9
   obtain rfl := Option.some.inj h
   simp (maxSteps := 10000000) (implicitDefEqProofs := false) (disch := first | assumption | omega | exact rfl) only [bs, rs14, ls14, Nat.reduceAdd, ↓reduceIte, lenD_lst u26, loadD_iagg a39 z39, hg, ↓h2', h5, h8, ↓h9']
   exact ⟨rfl, by kernel_rfl⟩
  ·rw [if_neg h9] at h
   have h9' : decide (v3.Old = v6.Old ∧ v3.New = v6.New) = false := decide_eq_false h9
   obtain rfl := Option.some.inj h
   simp (maxSteps := 10000000) (implicitDefEqProofs := false) (disch := first | assumption | omega | exact rfl) only [bs, rs14, ls14, Nat.reduceAdd, ↓reduceIte, lenD_lst u26, loadD_iagg a39 z39, hg, ↓h2', h5, h8, ↓h9']
   refine ⟨rfl, ?_⟩
   exact finish_is (ds := [bv false]) (x := .v (.bool false)) (y := .v (.bool false)) (l := []) rfl rfl rfl rfl (by first | rfl | (simp only [wk, wks, wkL]; first | done | rfl))
 ·rw [if_neg h2] at h
  have h2' : decide (s5 < (s0.length : Int)) = false := decide_eq_false h2
  obtain rfl := Option.some.inj h
  simp (maxSteps := 10000000) (implicitDefEqProofs := false) (disch := first | assumption | omega | exact rfl) only [bs, rs14, ls14, Nat.reduceAdd, ↓reduceIte, lenD_lst u26, loadD_iagg a39 z39, hg, ↓h2']
  exact ⟨rfl, rfl, by kernel_rfl⟩
theorem f14_ok  (x0 : (List Pair)) (x1 : (List Pair)) (r : Bool) (h : R19_Pairs x0 x1 = some r) : callW Try.prog A0 14 [.p (.lst false x0.length (encL en_Pair x0)), .p (.lst false x1.length (encL en_Pair x1))] [] = some (.p (.v (.bool r)), []) := by
 refine call_ofH (fn := Try.f14) (c := bodyOf Try.f14) rfl rfl (by kernel_rfl) (by kernel_rfl) ?_
 rw [show initS Try.f14 [.p (.lst false x0.length (encL en_Pair x0)), .p (.lst false x1.length (encL en_Pair x1))] [] = ⟨.p (.lst false x0.length (encL en_Pair x0)) :: .p (.lst false x1.length (encL en_Pair x1)) :: List.replicate 24 undefD, [], 0⟩ from by kernel_rfl]
 unfold R19_Pairs at h
 unfold bodyOf Try.f14; simp only [Option.getD_some, loopsOf, List.append_nil, List.nil_append, List.cons_append, List.getD_cons_zero, List.getD_cons_succ]
 simp only [List.replicate]
 by_cases h1 : (x0.length : Int) = (x1.length : Int)
 ·rw [if_pos h1] at h
  have h1' : decide ((x0.length : Int) = (x1.length : Int)) = true := decide_eq_true h1
  obtain ⟨o, h10, h⟩ := bsm h
  simp (maxSteps := 10000000) (implicitDefEqProofs := false) (disch := first | assumption | omega | exact rfl) only [bs, rs14, ls14, Nat.reduceAdd, ↓reduceIte, lenD_lst u26, loadD_iagg a39 z39, ↓h1']
  refine Wp.ctx (fun x => seqW _ _ _ _ (blockW _ (x))) (L14_0_ok x0 x1 (0 : Int) _ o (by kernel_rfl) h10) ?_
  intro e st hq
  cases o with
  | next _ => (first | cases h | (simp at h))
  | jmp n_ s_ =>
   obtain ⟨rfl, rfl, hq⟩ := hq
   generalize s_ = s5_11 at h hq
   unfold F14_0 at hq
   (try simp only [] at h hq)
   obtain rfl := Option.some.inj h
   simp (maxSteps := 10000000) (implicitDefEqProofs := false) (disch := first | assumption | omega | exact rfl) only [bs, rs14, ls14, Nat.reduceAdd, ↓reduceIte, lenD_lst u26, loadD_iagg a39 z39, ↓h1', hq]
   refine ⟨by first | exact .inl trivial | exact .inr trivial | simp, ?_⟩
   exact finish_is (ds := [bv true]) (x := .v (.bool true)) (y := .v (.bool true)) (l := []) rfl rfl rfl rfl (by first | rfl | (simp only [wk, wks, wkL]; first | done | rfl))
  | ret r12 =>
   obtain ⟨rfl, hq⟩ := hq
   obtain rfl := Option.some.inj h
   simp (maxSteps := 10000000) (implicitDefEqProofs := false) (disch := first | assumption | omega | exact rfl) only [bs, rs14, ls14, Nat.reduceAdd, ↓reduceIte, lenD_lst u26, loadD_iagg a39 z39]
   exact ⟨by first | exact .inl trivial | exact .inr trivial | simp, hq⟩
 ·rw [if_neg h1] at h
  have h1' : decide ((x0.length : Int) = (x1.length : Int)) = false := decide_eq_false h1
  obtain rfl := Option.some.inj h
  simp (maxSteps := 10000000) (implicitDefEqProofs := false) (disch := first | assumption | omega | exact rfl) only [bs, rs14, ls14, Nat.reduceAdd, ↓reduceIte, lenD_lst u26, loadD_iagg a39 z39, ↓h1']
  refine ⟨by first | exact .inl trivial | exact .inr trivial | simp, ?_⟩
  exact finish_is (ds := [bv false]) (x := .v (.bool false)) (y := .v (.bool false)) (l := []) rfl rfl rfl rfl (by first | rfl | (simp only [wk, wks, wkL]; first | done | rfl))
theorem R19_Pairs_callp {x0 : (List Pair)} {x1 : (List Pair)} {r : Bool} (h : R19_Pairs x0 x1 = some r) : callW Try.prog A0 14 [.p (.lst false x0.length (encL en_Pair x0)), .p (.lst false x1.length (encL en_Pair x1))] [] = some (.p (.v (.bool r)), []) := f14_ok x0 x1 _ h
def ls38 := And.intro @al_25 (And.intro @bu_25_ (And.intro @ex_3_0 (And.intro @ex_3_1 (And.intro @ex_3_2 (And.intro @faP_25_3 (And.intro @idxL_23 (And.intro @sa_4_0_4 (And.intro @varld_4_0_3 (@varlv_4_0_4)))))))))
theorem R06_find_rcall {rec : Node → Int → Option (Node × Int × Bool)} (hrec : ∀ x0 x1 r, rec x0 x1 = some r → callW Try.prog A0 38 [.p (.agg [.v (.int .i64 x0.Kind), .v (.string x0.Text), .lst false x0.Gaps.length (encL en_str x0.Gaps), .lst false x0.Kids.length (encL en_Node x0.Kids)]), iv x1] [] = some (.p (.tup [.agg [.v (.int .i64 r.1.Kind), .v (.string r.1.Text), .lst false r.1.Gaps.length (encL en_str r.1.Gaps), .lst false r.1.Kids.length (encL en_Node r.1.Kids)], .v (.int .i64 r.2.1), .v (.bool r.2.2)]), [])) {b1 b2 : Bool} {H : List Ob} {x0 : Node} {x1 : Int} {r : (Node × Int × Bool)} (h : rec x0 x1 = some r) : callD (callW Try.prog A0) A0 H 38 [.p (.agg [.v (.int .i64 x0.Kind), .v (.string x0.Text), .lst b1 x0.Gaps.length (encL en_str x0.Gaps), .lst b2 x0.Kids.length (encL en_Node x0.Kids)]), iv x1] = some (.p (.tup [.agg [.v (.int .i64 r.1.Kind), .v (.string r.1.Text), .lst false r.1.Gaps.length (encL en_str r.1.Gaps), .lst false r.1.Kids.length (encL en_Node r.1.Kids)], .v (.int .i64 r.2.1), .v (.bool r.2.2)]), none) :=
  callD_fun (args := [.agg [.v (.int .i64 x0.Kind), .v (.string x0.Text), .lst b1 x0.Gaps.length (encL en_str x0.Gaps), .lst b2 x0.Kids.length (encL en_Node x0.Kids)], .v (.int .i64 x1)]) rfl rfl rfl (by simp only [List.map_cons, List.map_nil, wk, wks, wkL]; exact hrec x0 x1 _ h)
noncomputable def L38_0 : Code := (loopsOf (bodyOf Try.f38)).getD 0 .skip
def g38_0 : List Ghost := [.keep [2, 4, 7, 8]]
def F38_0 (w0_0 : Int) (w0_1 : ByteArray) (w0_2 : (List ByteArray)) (w0_3 : (List Node)) (w1_0 : Int) (w1_1 : ByteArray) : (Int × Int) → St := fun (s7, s8) => ⟨[.junk, .junk, .ptr 0 0, .junk, .ptr 1 0, .junk, .junk, iv s7, iv s8, .junk, .junk, .junk, .junk, .junk, .junk, .junk, .junk, .junk, .junk, .junk, .junk, .junk, .junk, .junk, .junk, .junk, .junk, .junk, .junk, .junk, .junk, .junk, .junk, .junk, .junk, .junk, .junk, .junk, .junk, .junk], [.var [iv w0_0, .p (.v (.string w0_1)), .p (.lst false w0_2.length (encL en_str w0_2)), .p (.lst false w0_3.length (encL en_Node w0_3))], .var [iv w1_0, .p (.v (.string w1_1)), .p (.lst true 0 []), .p (.lst true 0 [])]], 0⟩
theorem L38_0_ok {rec : Node → Int → Option (Node × Int × Bool)} (hrec : ∀ x0 x1 r, rec x0 x1 = some r → callW Try.prog A0 38 [.p (.agg [.v (.int .i64 x0.Kind), .v (.string x0.Text), .lst false x0.Gaps.length (encL en_str x0.Gaps), .lst false x0.Kids.length (encL en_Node x0.Kids)]), iv x1] [] = some (.p (.tup [.agg [.v (.int .i64 r.1.Kind), .v (.string r.1.Text), .lst false r.1.Gaps.length (encL en_str r.1.Gaps), .lst false r.1.Kids.length (encL en_Node r.1.Kids)], .v (.int .i64 r.2.1), .v (.bool r.2.2)]), [])) (w0_0 : Int) (w0_1 : ByteArray) (w0_2 : (List ByteArray)) (w0_3 : (List Node)) (w1_0 : Int) (w1_1 : ByteArray) : ∀ s st o, ghostsD g38_0 st = some (F38_0 w0_0 w0_1 w0_2 w0_3 w1_0 w1_1 s) → iter (R06_find_L0 rec w0_0 w0_1 w0_2 w0_3 w1_0 w1_1) s = some o →
    Wp (evW Try.prog A0 38 (.loop L38_0) st) (OutQ (F38_0 w0_0 w0_1 w0_2 w0_3 w1_0 w1_1) g38_0 (fun n s st => n = 0 ∧ ghostsD [.keep [2, 4, 7, 8]] st = some (F38_0 w0_0 w0_1 w0_2 w0_3 w1_0 w1_1 s)) (fun r st => finishD Try.prog A0 38 Try.f38 st = some (.p (.tup [.agg [.v (.int .i64 r.1.Kind), .v (.string r.1.Text), .lst false r.1.Gaps.length (encL en_str r.1.Gaps), .lst false r.1.Kids.length (encL en_Node r.1.Kids)], .v (.int .i64 r.2.1), .v (.bool r.2.2)]), [])) o) := by
 refine Wp.iter ?_
 intro s st o hg h
 obtain ⟨s7, s8⟩ := s
 unfold R06_find_L0 at h
 unfold g38_0 F38_0 at hg ⊢
 (try simp only [] at h hg)
 unfold L38_0 bodyOf Try.f38; simp only [Option.getD_some, loopsOf, List.append_nil, List.nil_append, List.cons_append, List.getD_cons_zero, List.getD_cons_succ]
 by_cases h2 : s8 < (w0_3.length : Int)
 ·rw [if_pos h2] at h
  have h2' : decide (s8 < (w0_3.length : Int)) = true := decide_eq_true h2
  obtain ⟨v3, h4, h⟩ := bsm h
  obtain ⟨h4a, h4b, _⟩ := rd_some h4
  have h5 := lk_frz_25 h4
  obtain ⟨r6, h7, h⟩ := bsm h
  have h8 : ∀ H, callD (callW Try.prog A0) A0 H 38 [.p (.agg [.v (.int .i64 v3.Kind), .v (.string v3.Text), .lst false v3.Gaps.length (encL en_str v3.Gaps), .lst false v3.Kids.length (encL en_Node v3.Kids)]), iv s7] = some (.p (.tup [.agg [.v (.int .i64 r6.1.Kind), .v (.string r6.1.Text), .lst false r6.1.Gaps.length (encL en_str r6.1.Gaps), .lst false r6.1.Kids.length (encL en_Node r6.1.Kids)], .v (.int .i64 r6.2.1), .v (.bool r6.2.2)]), none) := fun H => R06_find_rcall hrec h7
  by_cases h9 : r6.2.2 = true
  ·rw [if_pos h9] at h
   obtain rfl := Option.some.inj h
   simp (maxSteps := 10000000) (implicitDefEqProofs := false) (disch := first | assumption | omega | exact rfl) only [bs, rs38, ls38, Nat.reduceAdd, ↓reduceIte, lenD_lst u23, loadD_iagg a25 z25, loadD_pagg a25 z25, loadD_ptr a23, storeD_agg z25, hg, ↓h2', h5, h8, h9]
   refine ⟨rfl, ?_⟩
   exact finish_is (ds := [.p (.agg [.v (.int .i64 r6.1.Kind), .v (.string r6.1.Text), .lst false r6.1.Gaps.length (encL en_str r6.1.Gaps), .lst false r6.1.Kids.length (encL en_Node r6.1.Kids)]), iv (0 : Int), bv true]) (x := .tup [.agg [.v (.int .i64 r6.1.Kind), .v (.string r6.1.Text), .lst false r6.1.Gaps.length (encL en_str r6.1.Gaps), .lst false r6.1.Kids.length (encL en_Node r6.1.Kids)], .v (.int .i64 (0 : Int)), .v (.bool true)]) (y := .tup [.agg [.v (.int .i64 r6.1.Kind), .v (.string r6.1.Text), .lst false r6.1.Gaps.length (encL en_str r6.1.Gaps), .lst false r6.1.Kids.length (encL en_Node r6.1.Kids)], .v (.int .i64 (0 : Int)), .v (.bool true)]) (l := []) rfl rfl (by kernel_rfl) rfl (by first | rfl | (simp only [wk, wks, wkL]; first | done | rfl))
  ·rw [if_neg h9] at h
   replace h9 := Bool.eq_false_iff.2 h9
   obtain rfl := Option.some.inj h
   simp (maxSteps := 10000000) (implicitDefEqProofs := false) (disch := first | assumption | omega | exact rfl) only [bs, rs38, ls38, Nat.reduceAdd, ↓reduceIte, lenD_lst u23, loadD_iagg a25 z25, loadD_pagg a25 z25, loadD_ptr a23, storeD_agg z25, hg, ↓h2', h5, h8, h9]
   exact ⟨rfl, by kernel_rfl⟩
 ·rw [if_neg h2] at h
  have h2' : decide (s8 < (w0_3.length : Int)) = false := decide_eq_false h2
  obtain rfl := Option.some.inj h
  simp (maxSteps := 10000000) (implicitDefEqProofs := false) (disch := first | assumption | omega | exact rfl) only [bs, rs38, ls38, Nat.reduceAdd, ↓reduceIte, lenD_lst u23, loadD_iagg a25 z25, loadD_pagg a25 z25, loadD_ptr a23, storeD_agg z25, hg, ↓h2']
  exact ⟨rfl, rfl, by kernel_rfl⟩
theorem f38_ok {rec : Node → Int → Option (Node × Int × Bool)} (hrec : ∀ x0 x1 r, rec x0 x1 = some r → callW Try.prog A0 38 [.p (.agg [.v (.int .i64 x0.Kind), .v (.string x0.Text), .lst false x0.Gaps.length (encL en_str x0.Gaps), .lst false x0.Kids.length (encL en_Node x0.Kids)]), iv x1] [] = some (.p (.tup [.agg [.v (.int .i64 r.1.Kind), .v (.string r.1.Text), .lst false r.1.Gaps.length (encL en_str r.1.Gaps), .lst false r.1.Kids.length (encL en_Node r.1.Kids)], .v (.int .i64 r.2.1), .v (.bool r.2.2)]), []))  (x0 : Node) (x1 : Int) (r : (Node × Int × Bool)) (h : R06_find.body rec x0 x1 = some r) : callW Try.prog A0 38 [.p (.agg [.v (.int .i64 x0.Kind), .v (.string x0.Text), .lst false x0.Gaps.length (encL en_str x0.Gaps), .lst false x0.Kids.length (encL en_Node x0.Kids)]), iv x1] [] = some (.p (.tup [.agg [.v (.int .i64 r.1.Kind), .v (.string r.1.Text), .lst false r.1.Gaps.length (encL en_str r.1.Gaps), .lst false r.1.Kids.length (encL en_Node r.1.Kids)], .v (.int .i64 r.2.1), .v (.bool r.2.2)]), []) := by
 refine call_ofH (fn := Try.f38) (c := bodyOf Try.f38) rfl rfl (by kernel_rfl) (by kernel_rfl) ?_
 rw [show initS Try.f38 [.p (.agg [.v (.int .i64 x0.Kind), .v (.string x0.Text), .lst false x0.Gaps.length (encL en_str x0.Gaps), .lst false x0.Kids.length (encL en_Node x0.Kids)]), iv x1] [] = ⟨.p (.agg [.v (.int .i64 x0.Kind), .v (.string x0.Text), .lst false x0.Gaps.length (encL en_str x0.Gaps), .lst false x0.Kids.length (encL en_Node x0.Kids)]) :: iv x1 :: List.replicate 38 undefD, [], 0⟩ from by kernel_rfl]
 unfold R06_find.body at h
 unfold bodyOf Try.f38; simp only [Option.getD_some, loopsOf, List.append_nil, List.nil_append, List.cons_append, List.getD_cons_zero, List.getD_cons_succ]
 simp only [List.replicate]
 by_cases h1 : x1 = (0 : Int)
 ·rw [if_pos h1] at h
  have h1' : decide (x1 = (0 : Int)) = true := decide_eq_true h1
  obtain rfl := Option.some.inj h
  simp (maxSteps := 10000000) (implicitDefEqProofs := false) (disch := first | assumption | omega | exact rfl) only [bs, rs38, ls38, Nat.reduceAdd, ↓reduceIte, lenD_lst u23, loadD_iagg a25 z25, loadD_pagg a25 z25, loadD_ptr a23, storeD_agg z25, ↓h1']
  refine ⟨by first | exact .inl trivial | exact .inr trivial | simp, ?_⟩
  exact finish_is (ds := [.p (.agg [.v (.int .i64 x0.Kind), .v (.string x0.Text), .lst false x0.Gaps.length (encL en_str x0.Gaps), .lst false x0.Kids.length (encL en_Node x0.Kids)]), iv (0 : Int), bv true]) (x := .tup [.agg [.v (.int .i64 x0.Kind), .v (.string x0.Text), .lst false x0.Gaps.length (encL en_str x0.Gaps), .lst false x0.Kids.length (encL en_Node x0.Kids)], .v (.int .i64 (0 : Int)), .v (.bool true)]) (y := .tup [.agg [.v (.int .i64 x0.Kind), .v (.string x0.Text), .lst false x0.Gaps.length (encL en_str x0.Gaps), .lst false x0.Kids.length (encL en_Node x0.Kids)], .v (.int .i64 (0 : Int)), .v (.bool true)]) (l := []) rfl rfl (by kernel_rfl) rfl (by first | rfl | (simp only [wk, wks, wkL]; first | done | rfl))
 ·rw [if_neg h1] at h
  have h1' : decide (x1 = (0 : Int)) = false := decide_eq_false h1
  obtain ⟨o, h10, h⟩ := bsm h
  simp (maxSteps := 10000000) (implicitDefEqProofs := false) (disch := first | assumption | omega | exact rfl) only [bs, rs38, ls38, Nat.reduceAdd, ↓reduceIte, lenD_lst u23, loadD_iagg a25 z25, loadD_pagg a25 z25, loadD_ptr a23, storeD_agg z25, ↓h1']
  refine Wp.ctx (fun x => seqW _ _ _ _ (blockW _ (x))) (L38_0_ok hrec x0.Kind x0.Text x0.Gaps x0.Kids (0 : Int) ByteArray.empty (w64 (x1 - (1 : Int)), (0 : Int)) _ o (by kernel_rfl) h10) ?_
  intro e st hq
  cases o with
  | next _ => (first | cases h | (simp at h))
  | jmp n_ s_ =>
   obtain ⟨rfl, rfl, hq⟩ := hq
   obtain ⟨s7_11, s8_11⟩ := s_
   unfold F38_0 at hq
   (try simp only [] at h hq)
   obtain rfl := Option.some.inj h
   simp (maxSteps := 10000000) (implicitDefEqProofs := false) (disch := first | assumption | omega | exact rfl) only [bs, rs38, ls38, Nat.reduceAdd, ↓reduceIte, lenD_lst u23, loadD_iagg a25 z25, loadD_pagg a25 z25, loadD_ptr a23, storeD_agg z25, ↓h1', hq]
   refine ⟨by first | exact .inl trivial | exact .inr trivial | simp, ?_⟩
   exact finish_is (ds := [.p (.agg [.v (.int .i64 (0 : Int)), .v (.string ByteArray.empty), .lst true 0 [], .lst true 0 []]), iv s7_11, bv false]) (x := .tup [.agg [.v (.int .i64 (0 : Int)), .v (.string ByteArray.empty), .lst true 0 [], .lst true 0 []], .v (.int .i64 s7_11), .v (.bool false)]) (y := .tup [.agg [.v (.int .i64 (0 : Int)), .v (.string ByteArray.empty), .lst false ([] : List ByteArray).length (encL en_str ([] : List ByteArray)), .lst false ([] : List Node).length (encL en_Node ([] : List Node))], .v (.int .i64 s7_11), .v (.bool false)]) (l := []) rfl rfl (by kernel_rfl) rfl (by first | rfl | (simp only [wk, wks, wkL]; first | done | rfl))
  | ret r12 =>
   obtain ⟨rfl, hq⟩ := hq
   obtain rfl := Option.some.inj h
   simp (maxSteps := 10000000) (implicitDefEqProofs := false) (disch := first | assumption | omega | exact rfl) only [bs, rs38, ls38, Nat.reduceAdd, ↓reduceIte, lenD_lst u23, loadD_iagg a25 z25, loadD_pagg a25 z25, loadD_ptr a23, storeD_agg z25]
   exact ⟨by first | exact .inl trivial | exact .inr trivial | simp, hq⟩
theorem f38_spec : ∀ (x0 : Node) (x1 : Int) r, R06_findS x0 x1 = some r → callW Try.prog A0 38 [.p (.agg [.v (.int .i64 x0.Kind), .v (.string x0.Text), .lst false x0.Gaps.length (encL en_str x0.Gaps), .lst false x0.Kids.length (encL en_Node x0.Kids)]), iv x1] [] = some (.p (.tup [.agg [.v (.int .i64 r.1.Kind), .v (.string r.1.Text), .lst false r.1.Gaps.length (encL en_str r.1.Gaps), .lst false r.1.Kids.length (encL en_Node r.1.Kids)], .v (.int .i64 r.2.1), .v (.bool r.2.2)]), []) := by
  have key : ∀ n (x0 : Node) (x1 : Int) r, R06_findS_mu x0 x1 < n → R06_findS x0 x1 = some r → callW Try.prog A0 38 [.p (.agg [.v (.int .i64 x0.Kind), .v (.string x0.Text), .lst false x0.Gaps.length (encL en_str x0.Gaps), .lst false x0.Kids.length (encL en_Node x0.Kids)]), iv x1] [] = some (.p (.tup [.agg [.v (.int .i64 r.1.Kind), .v (.string r.1.Text), .lst false r.1.Gaps.length (encL en_str r.1.Gaps), .lst false r.1.Kids.length (encL en_Node r.1.Kids)], .v (.int .i64 r.2.1), .v (.bool r.2.2)]), []) := by
    intro n
    induction n with
    | zero => intro x0 x1 r h; omega
    | succ n ih =>
      intro x0 x1 r hn h
      refine f38_ok (rec := fun x0' x1' => if R06_findS_mu x0' x1' < R06_findS_mu x0 x1 then R06_findS x0' x1' else none) ?_ x0 x1 r (R06_findS_body x0 x1 r h)
      intro x0' x1' r' h'
      by_cases hm : R06_findS_mu x0' x1' < R06_findS_mu x0 x1
      · rw [if_pos hm] at h'; exact ih x0' x1' r' (by omega) h'
      · rw [if_neg hm] at h'; cases h'
  intro x0 x1 r h
  exact key _ x0 x1 r (Nat.lt_succ_self _) h
theorem R06_find_call {b1 b2 : Bool} {H : List Ob} {x0 : Node} {x1 : Int} {r : (Node × Int × Bool)} (h : R06_findS x0 x1 = some r) : callD (callW Try.prog A0) A0 H 38 [.p (.agg [.v (.int .i64 x0.Kind), .v (.string x0.Text), .lst b1 x0.Gaps.length (encL en_str x0.Gaps), .lst b2 x0.Kids.length (encL en_Node x0.Kids)]), iv x1] = some (.p (.tup [.agg [.v (.int .i64 r.1.Kind), .v (.string r.1.Text), .lst false r.1.Gaps.length (encL en_str r.1.Gaps), .lst false r.1.Kids.length (encL en_Node r.1.Kids)], .v (.int .i64 r.2.1), .v (.bool r.2.2)]), none) :=
  callD_fun (args := [.agg [.v (.int .i64 x0.Kind), .v (.string x0.Text), .lst b1 x0.Gaps.length (encL en_str x0.Gaps), .lst b2 x0.Kids.length (encL en_Node x0.Kids)], .v (.int .i64 x1)]) rfl rfl rfl (by simp only [List.map_cons, List.map_nil, wk, wks, wkL]; exact f38_spec x0 x1 _ h)
def ls18 := And.intro @al_25 (And.intro @bu_25_ (And.intro @ex_3_0 (And.intro @ex_3_1 (And.intro @ex_3_2 (And.intro @sa_4_0_4 (@varlv_4_0_4))))))
theorem f18_ok  (x0 : Node) (x1 : Int) (r : (Node × Bool)) (h : R06_At x0 x1 = some r) : callW Try.prog A0 18 [.p (.agg [.v (.int .i64 x0.Kind), .v (.string x0.Text), .lst false x0.Gaps.length (encL en_str x0.Gaps), .lst false x0.Kids.length (encL en_Node x0.Kids)]), iv x1] [] = some (.p (.tup [.agg [.v (.int .i64 r.1.Kind), .v (.string r.1.Text), .lst false r.1.Gaps.length (encL en_str r.1.Gaps), .lst false r.1.Kids.length (encL en_Node r.1.Kids)], .v (.bool r.2)]), []) := by
 refine call_ofH (fn := Try.f18) (c := bodyOf Try.f18) rfl rfl (by kernel_rfl) (by kernel_rfl) ?_
 rw [show initS Try.f18 [.p (.agg [.v (.int .i64 x0.Kind), .v (.string x0.Text), .lst false x0.Gaps.length (encL en_str x0.Gaps), .lst false x0.Kids.length (encL en_Node x0.Kids)]), iv x1] [] = ⟨.p (.agg [.v (.int .i64 x0.Kind), .v (.string x0.Text), .lst false x0.Gaps.length (encL en_str x0.Gaps), .lst false x0.Kids.length (encL en_Node x0.Kids)]) :: iv x1 :: List.replicate 19 undefD, [], 0⟩ from by kernel_rfl]
 unfold R06_At at h
 unfold bodyOf Try.f18; simp only [Option.getD_some, loopsOf, List.append_nil, List.nil_append, List.cons_append, List.getD_cons_zero, List.getD_cons_succ]
 simp only [List.replicate]
 by_cases h1 : x1 < (0 : Int)
 ·rw [if_pos h1] at h
  have h1' : decide (x1 < (0 : Int)) = true := decide_eq_true h1
  obtain rfl := Option.some.inj h
  simp (maxSteps := 10000000) (implicitDefEqProofs := false) (disch := first | assumption | omega | exact rfl) only [bs, rs18, ls18, Nat.reduceAdd, ↓reduceIte, loadD_pagg a25 z25, storeD_agg z25, ↓h1']
  refine ⟨by first | exact .inl trivial | exact .inr trivial | simp, ?_⟩
  exact finish_is (ds := [.p (.agg [.v (.int .i64 (0 : Int)), .v (.string ByteArray.empty), .lst true 0 [], .lst true 0 []]), bv false]) (x := .tup [.agg [.v (.int .i64 (0 : Int)), .v (.string ByteArray.empty), .lst true 0 [], .lst true 0 []], .v (.bool false)]) (y := .tup [.agg [.v (.int .i64 (0 : Int)), .v (.string ByteArray.empty), .lst false ([] : List ByteArray).length (encL en_str ([] : List ByteArray)), .lst false ([] : List Node).length (encL en_Node ([] : List Node))], .v (.bool false)]) (l := []) rfl rfl (by kernel_rfl) rfl (by first | rfl | (simp only [wk, wks, wkL]; first | done | rfl))
 ·rw [if_neg h1] at h
  have h1' : decide (x1 < (0 : Int)) = false := decide_eq_false h1
  obtain ⟨r2, h3, h⟩ := bsm h
  have h4 : ∀ H, callD (callW Try.prog A0) A0 H 38 [.p (.agg [.v (.int .i64 x0.Kind), .v (.string x0.Text), .lst false x0.Gaps.length (encL en_str x0.Gaps), .lst false x0.Kids.length (encL en_Node x0.Kids)]), iv x1] = some (.p (.tup [.agg [.v (.int .i64 r2.1.Kind), .v (.string r2.1.Text), .lst false r2.1.Gaps.length (encL en_str r2.1.Gaps), .lst false r2.1.Kids.length (encL en_Node r2.1.Kids)], .v (.int .i64 r2.2.1), .v (.bool r2.2.2)]), none) := fun H => R06_find_call h3
  obtain rfl := Option.some.inj h
  simp (maxSteps := 10000000) (implicitDefEqProofs := false) (disch := first | assumption | omega | exact rfl) only [bs, rs18, ls18, Nat.reduceAdd, ↓reduceIte, loadD_pagg a25 z25, storeD_agg z25, ↓h1', h4]
  refine ⟨by first | exact .inl trivial | exact .inr trivial | simp, ?_⟩
  exact finish_is (ds := [.p (.agg [.v (.int .i64 r2.1.Kind), .v (.string r2.1.Text), .lst false r2.1.Gaps.length (encL en_str r2.1.Gaps), .lst false r2.1.Kids.length (encL en_Node r2.1.Kids)]), bv r2.2.2]) (x := .tup [.agg [.v (.int .i64 r2.1.Kind), .v (.string r2.1.Text), .lst false r2.1.Gaps.length (encL en_str r2.1.Gaps), .lst false r2.1.Kids.length (encL en_Node r2.1.Kids)], .v (.bool r2.2.2)]) (y := .tup [.agg [.v (.int .i64 r2.1.Kind), .v (.string r2.1.Text), .lst false r2.1.Gaps.length (encL en_str r2.1.Gaps), .lst false r2.1.Kids.length (encL en_Node r2.1.Kids)], .v (.bool r2.2.2)]) (l := []) rfl rfl (by kernel_rfl) rfl (by first | rfl | (simp only [wk, wks, wkL]; first | done | rfl))
theorem R06_At_call {b1 b2 : Bool} {H : List Ob} {x0 : Node} {x1 : Int} {r : (Node × Bool)} (h : R06_At x0 x1 = some r) : callD (callW Try.prog A0) A0 H 18 [.p (.agg [.v (.int .i64 x0.Kind), .v (.string x0.Text), .lst b1 x0.Gaps.length (encL en_str x0.Gaps), .lst b2 x0.Kids.length (encL en_Node x0.Kids)]), iv x1] = some (.p (.tup [.agg [.v (.int .i64 r.1.Kind), .v (.string r.1.Text), .lst false r.1.Gaps.length (encL en_str r.1.Gaps), .lst false r.1.Kids.length (encL en_Node r.1.Kids)], .v (.bool r.2)]), none) :=
  callD_fun (args := [.agg [.v (.int .i64 x0.Kind), .v (.string x0.Text), .lst b1 x0.Gaps.length (encL en_str x0.Gaps), .lst b2 x0.Kids.length (encL en_Node x0.Kids)], .v (.int .i64 x1)]) rfl rfl rfl (by simp only [List.map_cons, List.map_nil, wk, wks, wkL]; exact f18_ok x0 x1 _ h)
theorem f9_run : callN Try.prog A0 200 9 [] [] = some (.p (.v (.bool true)), []) := by kernel_rfl
theorem f9_ok (r : Bool) (h : law22_awake = some r) : callW Try.prog A0 9 [] [] = some (.p (.v (.bool r)), []) := by
  cases h; exact callW_some.2 ⟨200, f9_run⟩
theorem law22_awake_call {H : List Ob} {r : Bool} (h : law22_awake  = some r) : callD (callW Try.prog A0) A0 H 9 [] = some (.p (.v (.bool r)), none) :=
  callD_fun (args := []) rfl rfl rfl (by simp only [List.map_cons, List.map_nil, wk, wks, wkL]; exact f9_ok  _ h)
def ls7 := And.intro @al_25 (And.intro @ap_26_26 (And.intro @bs_26_1 (And.intro @bu_39_0_1 (And.intro @ex_2_0 (And.intro @ex_2_1 (And.intro @sa_4_0_4 (@varlv_4_0_4)))))))
noncomputable def L7_0 : Code := (loopsOf (bodyOf Try.f7)).getD 0 .skip
def g7_0 : List Ghost := [.own 6 2, .keep [1, 2, 5, 6, 7]]
def F7_0 (s1 : Int) (s5 : Int) (w0_0 : Int) (w0_1 : ByteArray) (w0_2 : (List ByteArray)) (w0_3 : (List Node)) : (Int × (List Pair)) → St := fun (s7, y1) => ⟨[.junk, iv s1, .ptr 0 0, .junk, .junk, iv s5, .ref 1 0 y1.length 2, iv s7, .junk, .junk, .junk, .junk, .junk, .junk, .junk, .junk, .junk, .junk, .junk, .junk, .junk, .junk, .junk, .junk, .junk, .junk, .junk, .junk, .junk, .junk, .junk, .junk, .junk, .junk, .junk, .junk, .junk, .junk, .junk, .junk, .junk, .junk, .junk, .junk, .junk, .junk, .junk, .junk, .junk, .junk, .junk, .junk, .junk, .junk, .junk, .junk, .junk, .junk, .junk, .junk, .junk, .junk, .junk, .junk, .junk, .junk, .junk, .junk, .junk, .junk, .junk, .junk, .junk, .junk, .junk, .junk, .junk, .junk, .junk, .junk, .junk, .junk, .junk, .junk, .junk, .junk], [.var [iv w0_0, .p (.v (.string w0_1)), .p (.lst false w0_2.length (encL en_str w0_2)), .p (.lst false w0_3.length (encL en_Node w0_3))], .arr (encL en_Pair y1)], 0⟩
theorem L7_0_ok (s1 : Int) (s5 : Int) (w0_0 : Int) (w0_1 : ByteArray) (w0_2 : (List ByteArray)) (w0_3 : (List Node)) : ∀ s st o, ghostsD g7_0 st = some (F7_0 s1 s5 w0_0 w0_1 w0_2 w0_3 s) → iter (law22_SimilarSelf_L0 s1 s5 w0_0 w0_1 w0_2 w0_3) s = some o →
    Wp (evW Try.prog A0 7 (.loop L7_0) st) (OutQ (F7_0 s1 s5 w0_0 w0_1 w0_2 w0_3) g7_0 (fun n s st => n = 0 ∧ ghostsD [.keep [1, 2, 5, 6, 7]] st = some (F7_0 s1 s5 w0_0 w0_1 w0_2 w0_3 s)) (fun r st => finishD Try.prog A0 7 Try.f7 st = some (.p (.v (.bool r)), [])) o) := by
 refine Wp.iter ?_
 intro s st o hg h
 obtain ⟨s7, y1⟩ := s
 unfold law22_SimilarSelf_L0 at h
 unfold g7_0 F7_0 at hg ⊢
 (try simp only [] at h hg)
 unfold L7_0 bodyOf Try.f7; simp only [Option.getD_some, loopsOf, List.append_nil, List.nil_append, List.cons_append, List.getD_cons_zero, List.getD_cons_succ]
 by_cases h8 : s7 < s5
 ·rw [if_pos h8] at h
  have h8' : decide (s7 < s5) = true := decide_eq_true h8
  by_cases hw_ : (y1.length + 1) * 16 ≤ 140737488355328
  case neg => rw [if_neg hw_] at h; cases h
  rw [if_pos hw_] at h
  have h10 := hw_
  have h9 : ∀ (H : List Ob) (id : Nat), apOb H id 0 y1.length 1 2 2 16 [.v (.int .i64 s7), .v (.int .i64 s7)] (some (.arr (encL en_Pair y1))) = some (.ref H.length 0 (y1 ++ [(Pair.mk s7 s7)]).length 2, H.set id .dead ++ [.arr (encL en_Pair (y1 ++ [(Pair.mk s7 s7)]))]) := fun H id => ap_enc (y := [(Pair.mk s7 s7)]) en_Pair_len (by first | rfl | omega) rfl (by first | (simp only [encL_cons, encL_nil, en_Pair_eq, List.cons_append, List.nil_append]; done) | (simp only [encL_cons, encL_nil, en_Pair_eq, List.cons_append, List.nil_append]; rfl) | rfl) (by assumption)
  obtain rfl := Option.some.inj h
  simp (maxSteps := 10000000) (implicitDefEqProofs := false) (disch := first | assumption | omega | exact rfl) only [bs, rs7, ls7, Nat.reduceAdd, ↓reduceIte, loadD_pagg a25 z25, storeD_agg z25, wks_nil_, hg, ↓h8', h9]
  exact ⟨rfl, by kernel_rfl⟩
 ·rw [if_neg h8] at h
  have h8' : decide (s7 < s5) = false := decide_eq_false h8
  obtain rfl := Option.some.inj h
  simp (maxSteps := 10000000) (implicitDefEqProofs := false) (disch := first | assumption | omega | exact rfl) only [bs, rs7, ls7, Nat.reduceAdd, ↓reduceIte, loadD_pagg a25 z25, storeD_agg z25, wks_nil_, hg, ↓h8']
  exact ⟨rfl, rfl, by kernel_rfl⟩
theorem f7_ok  (x0 : Node) (x1 : Int) (r : Bool) (h : law22_SimilarSelf x0 x1 = some r) : callW Try.prog A0 7 [.p (.agg [.v (.int .i64 x0.Kind), .v (.string x0.Text), .lst false x0.Gaps.length (encL en_str x0.Gaps), .lst false x0.Kids.length (encL en_Node x0.Kids)]), iv x1] [] = some (.p (.v (.bool r)), []) := by
 refine call_ofH (fn := Try.f7) (c := bodyOf Try.f7) rfl rfl (by kernel_rfl) (by kernel_rfl) ?_
 rw [show initS Try.f7 [.p (.agg [.v (.int .i64 x0.Kind), .v (.string x0.Text), .lst false x0.Gaps.length (encL en_str x0.Gaps), .lst false x0.Kids.length (encL en_Node x0.Kids)]), iv x1] [] = ⟨.p (.agg [.v (.int .i64 x0.Kind), .v (.string x0.Text), .lst false x0.Gaps.length (encL en_str x0.Gaps), .lst false x0.Kids.length (encL en_Node x0.Kids)]) :: iv x1 :: List.replicate 84 undefD, [], 0⟩ from by kernel_rfl]
 unfold law22_SimilarSelf at h
 unfold bodyOf Try.f7; simp only [Option.getD_some, loopsOf, List.append_nil, List.nil_append, List.cons_append, List.getD_cons_zero, List.getD_cons_succ]
 simp only [List.replicate]
 obtain ⟨r1, h2, h⟩ := bsm h
 have h3 : ∀ H, callD (callW Try.prog A0) A0 H 8 [.p (.agg [.v (.int .i64 x0.Kind), .v (.string x0.Text), .lst false x0.Gaps.length (encL en_str x0.Gaps), .lst false x0.Kids.length (encL en_Node x0.Kids)])] = some (.p (.v (.bool r1)), none) := fun H => law22_small_call h2
 by_cases h4 : r1 = true
 ·rw [if_pos h4] at h
  obtain ⟨r5, h6, h⟩ := bsm h
  have h7 : ∀ H, callD (callW Try.prog A0) A0 H 17 [.p (.agg [.v (.int .i64 x0.Kind), .v (.string x0.Text), .lst false x0.Gaps.length (encL en_str x0.Gaps), .lst false x0.Kids.length (encL en_Node x0.Kids)])] = some (.p (.v (.int .i64 r5)), none) := fun H => R06_Size_call h6
  obtain ⟨o, h11, h⟩ := bsm h
  simp (maxSteps := 10000000) (implicitDefEqProofs := false) (disch := first | assumption | omega | exact rfl) only [bs, rs7, ls7, Nat.reduceAdd, ↓reduceIte, loadD_pagg a25 z25, storeD_agg z25, wks_nil_, h3, h4, h7]
  refine Wp.ctx (fun x => seqW _ _ _ _ (blockW _ (x))) (L7_0_ok x1 r5 x0.Kind x0.Text x0.Gaps x0.Kids ((0 : Int), ([] : List Pair)) _ o (by kernel_rfl) h11) ?_
  intro e st hq
  cases o with
  | next _ => (first | cases h | (simp at h))
  | jmp n_ s_ =>
   obtain ⟨rfl, rfl, hq⟩ := hq
   obtain ⟨s7_12, y1_12⟩ := s_
   unfold F7_0 at hq
   (try simp only [] at h hq)
   obtain ⟨r13, h14, h⟩ := bsm h
   have h15 : callD (callW Try.prog A0) A0 [.var [iv x0.Kind, .p (.v (.string x0.Text)), .p (.lst false x0.Gaps.length (encL en_str x0.Gaps)), .p (.lst false x0.Kids.length (encL en_Node x0.Kids))], .arr (encL en_Pair y1_12)] 10 [.p (.agg [.v (.int .i64 x0.Kind), .v (.string x0.Text), .lst false x0.Gaps.length (encL en_str x0.Gaps), .lst false x0.Kids.length (encL en_Node x0.Kids)]), .p (.agg [.v (.int .i64 x0.Kind), .v (.string x0.Text), .lst false x0.Gaps.length (encL en_str x0.Gaps), .lst false x0.Kids.length (encL en_Node x0.Kids)]), .ref 1 0 y1_12.length 2, iv x1, iv x1] = some (.p (.tup [.v (.int .i64 r13.1), .v (.int .i64 r13.2)]), some [.var [iv x0.Kind, .p (.v (.string x0.Text)), .p (.lst false x0.Gaps.length (encL en_str x0.Gaps)), .p (.lst false x0.Kids.length (encL en_Node x0.Kids))], .frz (encL en_Pair y1_12)]) := (callD_give (args := [.agg [.v (.int .i64 x0.Kind), .v (.string x0.Text), .lst false x0.Gaps.length (encL en_str x0.Gaps), .lst false x0.Kids.length (encL en_Node x0.Kids)], .agg [.v (.int .i64 x0.Kind), .v (.string x0.Text), .lst false x0.Gaps.length (encL en_str x0.Gaps), .lst false x0.Kids.length (encL en_Node x0.Kids)], .lst false y1_12.length (encL en_Pair y1_12), .v (.int .i64 x1), .v (.int .i64 x1)]) (ids := [1]) rfl rfl (by rw [giveD_p]; rw [giveD_p]; rw [giveD_arr (x := y1_12) en_Pair_len rfl (by first | rfl | omega)]; rw [giveD_p]; rw [giveD_p]; rw [giveD_nil]; first | rfl | (simp only [wk, wks, wkL]; rfl)) (similar_Score_callp h14)).trans rfl
   obtain ⟨r16, h17, h⟩ := bsm h
   have h18 : callD (callW Try.prog A0) A0 [.var [iv x0.Kind, .p (.v (.string x0.Text)), .p (.lst false x0.Gaps.length (encL en_str x0.Gaps)), .p (.lst false x0.Kids.length (encL en_Node x0.Kids))], .frz (encL en_Pair y1_12)] 12 [.p (.agg [.v (.int .i64 x0.Kind), .v (.string x0.Text), .lst false x0.Gaps.length (encL en_str x0.Gaps), .lst false x0.Kids.length (encL en_Node x0.Kids)]), .p (.agg [.v (.int .i64 x0.Kind), .v (.string x0.Text), .lst false x0.Gaps.length (encL en_str x0.Gaps), .lst false x0.Kids.length (encL en_Node x0.Kids)]), .ref 1 0 y1_12.length 2] = some (.p (.tup [.lst false r16.1.length (encL en_Pair r16.1), .v (.int .i64 r16.2)]), none) := (callD_give (args := [.agg [.v (.int .i64 x0.Kind), .v (.string x0.Text), .lst false x0.Gaps.length (encL en_str x0.Gaps), .lst false x0.Kids.length (encL en_Node x0.Kids)], .agg [.v (.int .i64 x0.Kind), .v (.string x0.Text), .lst false x0.Gaps.length (encL en_str x0.Gaps), .lst false x0.Kids.length (encL en_Node x0.Kids)], .lst false y1_12.length (encL en_Pair y1_12)]) (ids := []) rfl rfl (by rw [giveD_p]; rw [giveD_p]; rw [giveD_frz (x := y1_12) en_Pair_len rfl (by first | rfl | omega)]; rw [giveD_nil]; first | rfl | (simp only [wk, wks, wkL]; rfl)) (similar_Match_callp h17)).trans rfl
   by_cases h19 : r16.2 = (0 : Int)
   ·rw [if_pos h19] at h
    have h19' : decide (r16.2 = (0 : Int)) = true := decide_eq_true h19
    obtain ⟨r20, h21, h⟩ := bsm h
    have h22 : callD (callW Try.prog A0) A0 [.var [iv x0.Kind, .p (.v (.string x0.Text)), .p (.lst false x0.Gaps.length (encL en_str x0.Gaps)), .p (.lst false x0.Kids.length (encL en_Node x0.Kids))], .frz (encL en_Pair y1_12)] 14 [.p (.lst false r16.1.length (encL en_Pair r16.1)), .ref 1 0 y1_12.length 2] = some (.p (.v (.bool r20)), none) := (callD_give (args := [.lst false r16.1.length (encL en_Pair r16.1), .lst false y1_12.length (encL en_Pair y1_12)]) (ids := []) rfl rfl (by rw [giveD_p]; rw [giveD_frz (x := y1_12) en_Pair_len rfl (by first | rfl | omega)]; rw [giveD_nil]; first | rfl | (simp only [wk, wks, wkL]; rfl)) (R19_Pairs_callp h21)).trans rfl
    by_cases h23 : r20 = true
    ·rw [if_pos h23] at h
     obtain ⟨r24, h25, h⟩ := bsm h
     have h26 : ∀ H, callD (callW Try.prog A0) A0 H 18 [.p (.agg [.v (.int .i64 x0.Kind), .v (.string x0.Text), .lst false x0.Gaps.length (encL en_str x0.Gaps), .lst false x0.Kids.length (encL en_Node x0.Kids)]), iv x1] = some (.p (.tup [.agg [.v (.int .i64 r24.1.Kind), .v (.string r24.1.Text), .lst false r24.1.Gaps.length (encL en_str r24.1.Gaps), .lst false r24.1.Kids.length (encL en_Node r24.1.Kids)], .v (.bool r24.2)]), none) := fun H => R06_At_call h25
     by_cases h27 : r24.2 = true
     ·rw [if_pos h27] at h
      obtain ⟨r28, h29, h⟩ := bsm h
      have h30 : ∀ H, callD (callW Try.prog A0) A0 H 17 [.p (.agg [.v (.int .i64 r24.1.Kind), .v (.string r24.1.Text), .lst false r24.1.Gaps.length (encL en_str r24.1.Gaps), .lst false r24.1.Kids.length (encL en_Node r24.1.Kids)])] = some (.p (.v (.int .i64 r28)), none) := fun H => R06_Size_call h29
      by_cases h31 : r13.1 = (w64 (r28 - (1 : Int)))
      ·rw [if_pos h31] at h
       have h31' : decide (r13.1 = (w64 (r28 - (1 : Int)))) = true := decide_eq_true h31
       by_cases h32 : r13.2 = (w64 ((2 : Int) * r13.1))
       ·rw [if_pos h32] at h
        have h32' : decide (r13.2 = (w64 ((2 : Int) * r13.1))) = true := decide_eq_true h32
        obtain ⟨r33, h34, h⟩ := bsm h
        have h35 : ∀ H, callD (callW Try.prog A0) A0 H 9 [] = some (.p (.v (.bool r33)), none) := fun H => law22_awake_call h34
        obtain rfl := Option.some.inj h
        simp (maxSteps := 10000000) (implicitDefEqProofs := false) (disch := first | assumption | omega | exact rfl) only [bs, rs7, ls7, Nat.reduceAdd, ↓reduceIte, loadD_pagg a25 z25, storeD_agg z25, wks_nil_, h3, h4, h7, hq, h15, h18, ↓h19', h22, h23, h26, h27, h30, ↓h31', ↓h32', h35]
        refine ⟨by first | exact .inl trivial | exact .inr trivial | simp, ?_⟩
        exact finish_is (ds := [bv r33]) (x := .v (.bool r33)) (y := .v (.bool r33)) (l := []) rfl rfl rfl rfl (by first | rfl | (simp only [wk, wks, wkL]; first | done | rfl))
       ·rw [if_neg h32] at h
        have h32' : decide (r13.2 = (w64 ((2 : Int) * r13.1))) = false := decide_eq_false h32
        obtain rfl := Option.some.inj h
        simp (maxSteps := 10000000) (implicitDefEqProofs := false) (disch := first | assumption | omega | exact rfl) only [bs, rs7, ls7, Nat.reduceAdd, ↓reduceIte, loadD_pagg a25 z25, storeD_agg z25, wks_nil_, h3, h4, h7, hq, h15, h18, ↓h19', h22, h23, h26, h27, h30, ↓h31', ↓h32']
        refine ⟨by first | exact .inl trivial | exact .inr trivial | simp, ?_⟩
        exact finish_is (ds := [bv false]) (x := .v (.bool false)) (y := .v (.bool false)) (l := []) rfl rfl rfl rfl (by first | rfl | (simp only [wk, wks, wkL]; first | done | rfl))
      ·rw [if_neg h31] at h
       have h31' : decide (r13.1 = (w64 (r28 - (1 : Int)))) = false := decide_eq_false h31
       obtain rfl := Option.some.inj h
       simp (maxSteps := 10000000) (implicitDefEqProofs := false) (disch := first | assumption | omega | exact rfl) only [bs, rs7, ls7, Nat.reduceAdd, ↓reduceIte, loadD_pagg a25 z25, storeD_agg z25, wks_nil_, h3, h4, h7, hq, h15, h18, ↓h19', h22, h23, h26, h27, h30, ↓h31']
       refine ⟨by first | exact .inl trivial | exact .inr trivial | simp, ?_⟩
       exact finish_is (ds := [bv false]) (x := .v (.bool false)) (y := .v (.bool false)) (l := []) rfl rfl rfl rfl (by first | rfl | (simp only [wk, wks, wkL]; first | done | rfl))
     ·rw [if_neg h27] at h
      replace h27 := Bool.eq_false_iff.2 h27
      by_cases h36 : r13.1 = (0 : Int)
      ·rw [if_pos h36] at h
       have h36' : decide (r13.1 = (0 : Int)) = true := decide_eq_true h36
       by_cases h37 : r13.2 = (0 : Int)
       ·rw [if_pos h37] at h
        have h37' : decide (r13.2 = (0 : Int)) = true := decide_eq_true h37
        obtain ⟨r38, h39, h⟩ := bsm h
        have h40 : ∀ H, callD (callW Try.prog A0) A0 H 9 [] = some (.p (.v (.bool r38)), none) := fun H => law22_awake_call h39
        obtain rfl := Option.some.inj h
        simp (maxSteps := 10000000) (implicitDefEqProofs := false) (disch := first | assumption | omega | exact rfl) only [bs, rs7, ls7, Nat.reduceAdd, ↓reduceIte, loadD_pagg a25 z25, storeD_agg z25, wks_nil_, h3, h4, h7, hq, h15, h18, ↓h19', h22, h23, h26, h27, ↓h36', ↓h37', h40]
        refine ⟨by first | exact .inl trivial | exact .inr trivial | simp, ?_⟩
        exact finish_is (ds := [bv r38]) (x := .v (.bool r38)) (y := .v (.bool r38)) (l := []) rfl rfl rfl rfl (by first | rfl | (simp only [wk, wks, wkL]; first | done | rfl))
       ·rw [if_neg h37] at h
        have h37' : decide (r13.2 = (0 : Int)) = false := decide_eq_false h37
        obtain rfl := Option.some.inj h
        simp (maxSteps := 10000000) (implicitDefEqProofs := false) (disch := first | assumption | omega | exact rfl) only [bs, rs7, ls7, Nat.reduceAdd, ↓reduceIte, loadD_pagg a25 z25, storeD_agg z25, wks_nil_, h3, h4, h7, hq, h15, h18, ↓h19', h22, h23, h26, h27, ↓h36', ↓h37']
        refine ⟨by first | exact .inl trivial | exact .inr trivial | simp, ?_⟩
        exact finish_is (ds := [bv false]) (x := .v (.bool false)) (y := .v (.bool false)) (l := []) rfl rfl rfl rfl (by first | rfl | (simp only [wk, wks, wkL]; first | done | rfl))
      ·rw [if_neg h36] at h
       have h36' : decide (r13.1 = (0 : Int)) = false := decide_eq_false h36
       obtain rfl := Option.some.inj h
       simp (maxSteps := 10000000) (implicitDefEqProofs := false) (disch := first | assumption | omega | exact rfl) only [bs, rs7, ls7, Nat.reduceAdd, ↓reduceIte, loadD_pagg a25 z25, storeD_agg z25, wks_nil_, h3, h4, h7, hq, h15, h18, ↓h19', h22, h23, h26, h27, ↓h36']
       refine ⟨by first | exact .inl trivial | exact .inr trivial | simp, ?_⟩
       exact finish_is (ds := [bv false]) (x := .v (.bool false)) (y := .v (.bool false)) (l := []) rfl rfl rfl rfl (by first | rfl | (simp only [wk, wks, wkL]; first | done | rfl))
    ·rw [if_neg h23] at h
     replace h23 := Bool.eq_false_iff.2 h23
     obtain rfl := Option.some.inj h
     simp (maxSteps := 10000000) (implicitDefEqProofs := false) (disch := first | assumption | omega | exact rfl) only [bs, rs7, ls7, Nat.reduceAdd, ↓reduceIte, loadD_pagg a25 z25, storeD_agg z25, wks_nil_, h3, h4, h7, hq, h15, h18, ↓h19', h22, h23]
     refine ⟨by first | exact .inl trivial | exact .inr trivial | simp, ?_⟩
     exact finish_is (ds := [bv false]) (x := .v (.bool false)) (y := .v (.bool false)) (l := []) rfl rfl rfl rfl (by first | rfl | (simp only [wk, wks, wkL]; first | done | rfl))
   ·rw [if_neg h19] at h
    have h19' : decide (r16.2 = (0 : Int)) = false := decide_eq_false h19
    obtain rfl := Option.some.inj h
    simp (maxSteps := 10000000) (implicitDefEqProofs := false) (disch := first | assumption | omega | exact rfl) only [bs, rs7, ls7, Nat.reduceAdd, ↓reduceIte, loadD_pagg a25 z25, storeD_agg z25, wks_nil_, h3, h4, h7, hq, h15, h18, ↓h19']
    refine ⟨by first | exact .inl trivial | exact .inr trivial | simp, ?_⟩
    exact finish_is (ds := [bv false]) (x := .v (.bool false)) (y := .v (.bool false)) (l := []) rfl rfl rfl rfl (by first | rfl | (simp only [wk, wks, wkL]; first | done | rfl))
  | ret _ => (first | cases h | (simp at h))
 ·rw [if_neg h4] at h
  replace h4 := Bool.eq_false_iff.2 h4
  obtain ⟨r41, h42, h⟩ := bsm h
  have h43 : ∀ H, callD (callW Try.prog A0) A0 H 9 [] = some (.p (.v (.bool r41)), none) := fun H => law22_awake_call h42
  obtain rfl := Option.some.inj h
  simp (maxSteps := 10000000) (implicitDefEqProofs := false) (disch := first | assumption | omega | exact rfl) only [bs, rs7, ls7, Nat.reduceAdd, ↓reduceIte, loadD_pagg a25 z25, storeD_agg z25, wks_nil_, h3, h4, h43]
  refine ⟨by first | exact .inl trivial | exact .inr trivial | simp, ?_⟩
  exact finish_is (ds := [bv r41]) (x := .v (.bool r41)) (y := .v (.bool r41)) (l := []) rfl rfl rfl rfl (by first | rfl | (simp only [wk, wks, wkL]; first | done | rfl))
end Xn

