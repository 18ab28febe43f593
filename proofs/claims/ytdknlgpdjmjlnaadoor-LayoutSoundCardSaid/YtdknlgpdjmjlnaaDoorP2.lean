/- A part of the proof: P2. No conditions of its own. -/
import Derived.Test.YtdknlgpdjmjlnaaDoorP1
namespace Xr
open Go Go.Ev Go.Proofs
set_option linter.unusedSimpArgs false
set_option linter.unusedVariables false
set_option linter.defProp false
set_option maxRecDepth 8000
set_option maxHeartbeats 40000000
def ls7 := And.intro @al_29 (And.intro @sa_4_0_4 (@varlv_4_0_4))
theorem f7_ok  (x0 : Node) (r : Bool) (h : law33_LayoutSound x0 = some r) : callW Tryd.prog A0 7 [.p (.agg [.v (.int .i64 x0.Kind), .v (.string x0.Text), .lst false x0.Gaps.length (encL en_str x0.Gaps), .lst false x0.Kids.length (encL en_Node x0.Kids)])] [] = some (.p (.v (.bool r)), []) := by
 refine call_ofH (fn := Tryd.f7) (c := bodyOf Tryd.f7) rfl rfl (by kernel_rfl) (by kernel_rfl) ?_
 rw [show initS Tryd.f7 [.p (.agg [.v (.int .i64 x0.Kind), .v (.string x0.Text), .lst false x0.Gaps.length (encL en_str x0.Gaps), .lst false x0.Kids.length (encL en_Node x0.Kids)])] [] = ⟨.p (.agg [.v (.int .i64 x0.Kind), .v (.string x0.Text), .lst false x0.Gaps.length (encL en_str x0.Gaps), .lst false x0.Kids.length (encL en_Node x0.Kids)]) :: List.replicate 40 undefD, [], 0⟩ from by kernel_rfl]
 unfold law33_LayoutSound at h
 unfold bodyOf Tryd.f7; simp only [Option.getD_some, loopsOf, List.append_nil, List.nil_append, List.cons_append, List.getD_cons_zero, List.getD_cons_succ]
 simp only [List.replicate]
 obtain ⟨r1, h2, h⟩ := bsm h
 have h3 : ∀ H, callD (callW Tryd.prog A0) A0 H 14 [.p (.agg [.v (.int .i64 x0.Kind), .v (.string x0.Text), .lst false x0.Gaps.length (encL en_str x0.Gaps), .lst false x0.Kids.length (encL en_Node x0.Kids)])] = some (.p (.v (.bool r1)), none) := fun H => law33_small_call h2
 by_cases h4 : r1 = true
 ·rw [if_pos h4] at h
  obtain ⟨r5, h6, h⟩ := bsm h
  have h7 : ∀ H, callD (callW Tryd.prog A0) A0 H 16 [.p (.agg [.v (.int .i64 x0.Kind), .v (.string x0.Text), .lst false x0.Gaps.length (encL en_str x0.Gaps), .lst false x0.Kids.length (encL en_Node x0.Kids)])] = some (.p (.agg [.v (.int .i64 r5.Kind), .v (.string r5.Text), .lst false r5.Gaps.length (encL en_str r5.Gaps), .lst false r5.Kids.length (encL en_Node r5.Kids)]), none) := fun H => layout_Repair_call h6
  obtain ⟨r8, h9, h⟩ := bsm h
  have h10 : ∀ H, callD (callW Tryd.prog A0) A0 H 20 [.p (.agg [.v (.int .i64 r5.Kind), .v (.string r5.Text), .lst false r5.Gaps.length (encL en_str r5.Gaps), .lst false r5.Kids.length (encL en_Node r5.Kids)]), .p (.agg [.v (.int .i64 x0.Kind), .v (.string x0.Text), .lst false x0.Gaps.length (encL en_str x0.Gaps), .lst false x0.Kids.length (encL en_Node x0.Kids)])] = some (.p (.v (.bool r8)), none) := fun H => R06_Same_call h9
  by_cases h11 : r8 = true
  ·rw [if_pos h11] at h
   obtain ⟨r12, h13, h⟩ := bsm h
   have h14 : ∀ H, callD (callW Tryd.prog A0) A0 H 16 [.p (.agg [.v (.int .i64 r5.Kind), .v (.string r5.Text), .lst false r5.Gaps.length (encL en_str r5.Gaps), .lst false r5.Kids.length (encL en_Node r5.Kids)])] = some (.p (.agg [.v (.int .i64 r12.Kind), .v (.string r12.Text), .lst false r12.Gaps.length (encL en_str r12.Gaps), .lst false r12.Kids.length (encL en_Node r12.Kids)]), none) := fun H => layout_Repair_call h13
   obtain ⟨r15, h16, h⟩ := bsm h
   have h17 : ∀ H, callD (callW Tryd.prog A0) A0 H 15 [.p (.agg [.v (.int .i64 r12.Kind), .v (.string r12.Text), .lst false r12.Gaps.length (encL en_str r12.Gaps), .lst false r12.Kids.length (encL en_Node r12.Kids)]), .p (.agg [.v (.int .i64 r5.Kind), .v (.string r5.Text), .lst false r5.Gaps.length (encL en_str r5.Gaps), .lst false r5.Kids.length (encL en_Node r5.Kids)])] = some (.p (.v (.bool r15)), none) := fun H => R06_Equal_call h16
   by_cases h18 : r15 = true
   ·rw [if_pos h18] at h
    obtain ⟨r19, h20, h⟩ := bsm h
    have h21 : ∀ H, callD (callW Tryd.prog A0) A0 H 22 [.p (.agg [.v (.int .i64 x0.Kind), .v (.string x0.Text), .lst false x0.Gaps.length (encL en_str x0.Gaps), .lst false x0.Kids.length (encL en_Node x0.Kids)])] = some (.p (.agg [.v (.int .i64 r19.Kind), .v (.string r19.Text), .lst false r19.Gaps.length (encL en_str r19.Gaps), .lst false r19.Kids.length (encL en_Node r19.Kids)]), none) := fun H => R06_Bare_call h20
    obtain ⟨r22, h23, h⟩ := bsm h
    have h24 : ∀ H, callD (callW Tryd.prog A0) A0 H 21 [.p (.agg [.v (.int .i64 r19.Kind), .v (.string r19.Text), .lst false r19.Gaps.length (encL en_str r19.Gaps), .lst false r19.Kids.length (encL en_Node r19.Kids)])] = some (.p (.v (.int .i64 r22)), none) := fun H => R07_Check_call h23
    by_cases h25 : r22 = (0 : Int)
    ·rw [if_pos h25] at h
     have h25' : decide (r22 = (0 : Int)) = true := decide_eq_true h25
     obtain ⟨r26, h27, h⟩ := bsm h
     have h28 : ∀ H, callD (callW Tryd.prog A0) A0 H 21 [.p (.agg [.v (.int .i64 r5.Kind), .v (.string r5.Text), .lst false r5.Gaps.length (encL en_str r5.Gaps), .lst false r5.Kids.length (encL en_Node r5.Kids)])] = some (.p (.v (.int .i64 r26)), none) := fun H => R07_Check_call h27
     by_cases h29 : r26 = (0 : Int)
     ·rw [if_pos h29] at h
      have h29' : decide (r26 = (0 : Int)) = true := decide_eq_true h29
      obtain ⟨r30, h31, h⟩ := bsm h
      have h32 : ∀ H, callD (callW Tryd.prog A0) A0 H 21 [.p (.agg [.v (.int .i64 x0.Kind), .v (.string x0.Text), .lst false x0.Gaps.length (encL en_str x0.Gaps), .lst false x0.Kids.length (encL en_Node x0.Kids)])] = some (.p (.v (.int .i64 r30)), none) := fun H => R07_Check_call h31
      by_cases h33 : r30 = (0 : Int)
      ·rw [if_pos h33] at h
       have h33' : decide (r30 = (0 : Int)) = true := decide_eq_true h33
       obtain ⟨r34, h35, h⟩ := bsm h
       have h36 : ∀ H, callD (callW Tryd.prog A0) A0 H 15 [.p (.agg [.v (.int .i64 r5.Kind), .v (.string r5.Text), .lst false r5.Gaps.length (encL en_str r5.Gaps), .lst false r5.Kids.length (encL en_Node r5.Kids)]), .p (.agg [.v (.int .i64 x0.Kind), .v (.string x0.Text), .lst false x0.Gaps.length (encL en_str x0.Gaps), .lst false x0.Kids.length (encL en_Node x0.Kids)])] = some (.p (.v (.bool r34)), none) := fun H => R06_Equal_call h35
       by_cases h37 : r34 = true
       ·rw [if_pos h37] at h
        obtain ⟨r38, h39, h⟩ := bsm h
        have h40 : ∀ H, callD (callW Tryd.prog A0) A0 H 13 [] = some (.p (.v (.bool r38)), none) := fun H => law33_awake_call h39
        obtain rfl := Option.some.inj h
        simp (maxSteps := 10000000) (implicitDefEqProofs := false) (disch := first | assumption | omega | exact rfl | exact im_ _) only [bs, rs7, ls7, Nat.reduceAdd, ↓reduceIte, loadD_pagg a29 z29, storeD_agg z29, h3, h4, h7, h10, h11, h14, h17, h18, h21, h24, ↓h25', h28, ↓h29', h32, ↓h33', h36, h37, h40]
        refine ⟨by first | exact .inl trivial | exact .inr trivial | simp, ?_⟩
        exact finish_is (ds := [bv r38]) (x := .v (.bool r38)) (y := .v (.bool r38)) (l := []) rfl rfl rfl rfl (by first | rfl | (simp only [wk, wks, wkL]; first | done | rfl))
       ·rw [if_neg h37] at h
        replace h37 := Bool.eq_false_iff.2 h37
        obtain rfl := Option.some.inj h
        simp (maxSteps := 10000000) (implicitDefEqProofs := false) (disch := first | assumption | omega | exact rfl | exact im_ _) only [bs, rs7, ls7, Nat.reduceAdd, ↓reduceIte, loadD_pagg a29 z29, storeD_agg z29, h3, h4, h7, h10, h11, h14, h17, h18, h21, h24, ↓h25', h28, ↓h29', h32, ↓h33', h36, h37]
        refine ⟨by first | exact .inl trivial | exact .inr trivial | simp, ?_⟩
        exact finish_is (ds := [bv false]) (x := .v (.bool false)) (y := .v (.bool false)) (l := []) rfl rfl rfl rfl (by first | rfl | (simp only [wk, wks, wkL]; first | done | rfl))
      ·rw [if_neg h33] at h
       have h33' : decide (r30 = (0 : Int)) = false := decide_eq_false h33
       obtain ⟨r41, h42, h⟩ := bsm h
       have h43 : ∀ H, callD (callW Tryd.prog A0) A0 H 13 [] = some (.p (.v (.bool r41)), none) := fun H => law33_awake_call h42
       obtain rfl := Option.some.inj h
       simp (maxSteps := 10000000) (implicitDefEqProofs := false) (disch := first | assumption | omega | exact rfl | exact im_ _) only [bs, rs7, ls7, Nat.reduceAdd, ↓reduceIte, loadD_pagg a29 z29, storeD_agg z29, h3, h4, h7, h10, h11, h14, h17, h18, h21, h24, ↓h25', h28, ↓h29', h32, ↓h33', h43]
       refine ⟨by first | exact .inl trivial | exact .inr trivial | simp, ?_⟩
       exact finish_is (ds := [bv r41]) (x := .v (.bool r41)) (y := .v (.bool r41)) (l := []) rfl rfl rfl rfl (by first | rfl | (simp only [wk, wks, wkL]; first | done | rfl))
     ·rw [if_neg h29] at h
      have h29' : decide (r26 = (0 : Int)) = false := decide_eq_false h29
      obtain rfl := Option.some.inj h
      simp (maxSteps := 10000000) (implicitDefEqProofs := false) (disch := first | assumption | omega | exact rfl | exact im_ _) only [bs, rs7, ls7, Nat.reduceAdd, ↓reduceIte, loadD_pagg a29 z29, storeD_agg z29, h3, h4, h7, h10, h11, h14, h17, h18, h21, h24, ↓h25', h28, ↓h29']
      refine ⟨by first | exact .inl trivial | exact .inr trivial | simp, ?_⟩
      exact finish_is (ds := [bv false]) (x := .v (.bool false)) (y := .v (.bool false)) (l := []) rfl rfl rfl rfl (by first | rfl | (simp only [wk, wks, wkL]; first | done | rfl))
    ·rw [if_neg h25] at h
     have h25' : decide (r22 = (0 : Int)) = false := decide_eq_false h25
     obtain ⟨r44, h45, h⟩ := bsm h
     have h46 : ∀ H, callD (callW Tryd.prog A0) A0 H 21 [.p (.agg [.v (.int .i64 x0.Kind), .v (.string x0.Text), .lst false x0.Gaps.length (encL en_str x0.Gaps), .lst false x0.Kids.length (encL en_Node x0.Kids)])] = some (.p (.v (.int .i64 r44)), none) := fun H => R07_Check_call h45
     by_cases h47 : r44 = (0 : Int)
     ·rw [if_pos h47] at h
      have h47' : decide (r44 = (0 : Int)) = true := decide_eq_true h47
      obtain ⟨r48, h49, h⟩ := bsm h
      have h50 : ∀ H, callD (callW Tryd.prog A0) A0 H 15 [.p (.agg [.v (.int .i64 r5.Kind), .v (.string r5.Text), .lst false r5.Gaps.length (encL en_str r5.Gaps), .lst false r5.Kids.length (encL en_Node r5.Kids)]), .p (.agg [.v (.int .i64 x0.Kind), .v (.string x0.Text), .lst false x0.Gaps.length (encL en_str x0.Gaps), .lst false x0.Kids.length (encL en_Node x0.Kids)])] = some (.p (.v (.bool r48)), none) := fun H => R06_Equal_call h49
      by_cases h51 : r48 = true
      ·rw [if_pos h51] at h
       obtain ⟨r52, h53, h⟩ := bsm h
       have h54 : ∀ H, callD (callW Tryd.prog A0) A0 H 13 [] = some (.p (.v (.bool r52)), none) := fun H => law33_awake_call h53
       obtain rfl := Option.some.inj h
       simp (maxSteps := 10000000) (implicitDefEqProofs := false) (disch := first | assumption | omega | exact rfl | exact im_ _) only [bs, rs7, ls7, Nat.reduceAdd, ↓reduceIte, loadD_pagg a29 z29, storeD_agg z29, h3, h4, h7, h10, h11, h14, h17, h18, h21, h24, ↓h25', h46, ↓h47', h50, h51, h54]
       refine ⟨by first | exact .inl trivial | exact .inr trivial | simp, ?_⟩
       exact finish_is (ds := [bv r52]) (x := .v (.bool r52)) (y := .v (.bool r52)) (l := []) rfl rfl rfl rfl (by first | rfl | (simp only [wk, wks, wkL]; first | done | rfl))
      ·rw [if_neg h51] at h
       replace h51 := Bool.eq_false_iff.2 h51
       obtain rfl := Option.some.inj h
       simp (maxSteps := 10000000) (implicitDefEqProofs := false) (disch := first | assumption | omega | exact rfl | exact im_ _) only [bs, rs7, ls7, Nat.reduceAdd, ↓reduceIte, loadD_pagg a29 z29, storeD_agg z29, h3, h4, h7, h10, h11, h14, h17, h18, h21, h24, ↓h25', h46, ↓h47', h50, h51]
       refine ⟨by first | exact .inl trivial | exact .inr trivial | simp, ?_⟩
       exact finish_is (ds := [bv false]) (x := .v (.bool false)) (y := .v (.bool false)) (l := []) rfl rfl rfl rfl (by first | rfl | (simp only [wk, wks, wkL]; first | done | rfl))
     ·rw [if_neg h47] at h
      have h47' : decide (r44 = (0 : Int)) = false := decide_eq_false h47
      obtain ⟨r55, h56, h⟩ := bsm h
      have h57 : ∀ H, callD (callW Tryd.prog A0) A0 H 13 [] = some (.p (.v (.bool r55)), none) := fun H => law33_awake_call h56
      obtain rfl := Option.some.inj h
      simp (maxSteps := 10000000) (implicitDefEqProofs := false) (disch := first | assumption | omega | exact rfl | exact im_ _) only [bs, rs7, ls7, Nat.reduceAdd, ↓reduceIte, loadD_pagg a29 z29, storeD_agg z29, h3, h4, h7, h10, h11, h14, h17, h18, h21, h24, ↓h25', h46, ↓h47', h57]
      refine ⟨by first | exact .inl trivial | exact .inr trivial | simp, ?_⟩
      exact finish_is (ds := [bv r55]) (x := .v (.bool r55)) (y := .v (.bool r55)) (l := []) rfl rfl rfl rfl (by first | rfl | (simp only [wk, wks, wkL]; first | done | rfl))
   ·rw [if_neg h18] at h
    replace h18 := Bool.eq_false_iff.2 h18
    obtain rfl := Option.some.inj h
    simp (maxSteps := 10000000) (implicitDefEqProofs := false) (disch := first | assumption | omega | exact rfl | exact im_ _) only [bs, rs7, ls7, Nat.reduceAdd, ↓reduceIte, loadD_pagg a29 z29, storeD_agg z29, h3, h4, h7, h10, h11, h14, h17, h18]
    refine ⟨by first | exact .inl trivial | exact .inr trivial | simp, ?_⟩
    exact finish_is (ds := [bv false]) (x := .v (.bool false)) (y := .v (.bool false)) (l := []) rfl rfl rfl rfl (by first | rfl | (simp only [wk, wks, wkL]; first | done | rfl))
  ·rw [if_neg h11] at h
   replace h11 := Bool.eq_false_iff.2 h11
   obtain rfl := Option.some.inj h
   simp (maxSteps := 10000000) (implicitDefEqProofs := false) (disch := first | assumption | omega | exact rfl | exact im_ _) only [bs, rs7, ls7, Nat.reduceAdd, ↓reduceIte, loadD_pagg a29 z29, storeD_agg z29, h3, h4, h7, h10, h11]
   refine ⟨by first | exact .inl trivial | exact .inr trivial | simp, ?_⟩
   exact finish_is (ds := [bv false]) (x := .v (.bool false)) (y := .v (.bool false)) (l := []) rfl rfl rfl rfl (by first | rfl | (simp only [wk, wks, wkL]; first | done | rfl))
 ·rw [if_neg h4] at h
  replace h4 := Bool.eq_false_iff.2 h4
  obtain ⟨r58, h59, h⟩ := bsm h
  have h60 : ∀ H, callD (callW Tryd.prog A0) A0 H 13 [] = some (.p (.v (.bool r58)), none) := fun H => law33_awake_call h59
  obtain rfl := Option.some.inj h
  simp (maxSteps := 10000000) (implicitDefEqProofs := false) (disch := first | assumption | omega | exact rfl | exact im_ _) only [bs, rs7, ls7, Nat.reduceAdd, ↓reduceIte, loadD_pagg a29 z29, storeD_agg z29, h3, h4, h60]
  refine ⟨by first | exact .inl trivial | exact .inr trivial | simp, ?_⟩
  exact finish_is (ds := [bv r58]) (x := .v (.bool r58)) (y := .v (.bool r58)) (l := []) rfl rfl rfl rfl (by first | rfl | (simp only [wk, wks, wkL]; first | done | rfl))
end Xr

