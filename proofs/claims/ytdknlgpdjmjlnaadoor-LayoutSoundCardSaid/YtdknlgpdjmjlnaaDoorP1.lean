/- A part of the proof: P1. No conditions of its own. -/
import Derived.Test.YtdknlgpdjmjlnaaDoorP0
namespace Xr
open Go Go.Ev Go.Proofs
set_option linter.unusedSimpArgs false
set_option linter.unusedVariables false
set_option linter.defProp false
set_option maxRecDepth 8000
set_option maxHeartbeats 40000000
theorem f83_ok  (x0 : Int) (x1 : Int) (x2 : Int) (r : Bool) (h : R07_Fits x0 x1 x2 = some r) : callW Tryd.prog A0 83 [iv x0, iv x1, iv x2] [] = some (.p (.v (.bool r)), []) := by
 refine call_ofH (fn := Tryd.f83) (c := bodyOf Tryd.f83) rfl rfl (by kernel_rfl) (by kernel_rfl) ?_
 rw [show initS Tryd.f83 [iv x0, iv x1, iv x2] [] = ⟨iv x0 :: iv x1 :: iv x2 :: List.replicate 149 undefD, [], 0⟩ from by kernel_rfl]
 unfold R07_Fits at h
 unfold bodyOf Tryd.f83; simp only [Option.getD_some, loopsOf, List.append_nil, List.nil_append, List.cons_append, List.getD_cons_zero, List.getD_cons_succ]
 simp only [List.replicate]
 by_cases h1 : x1 < (0 : Int)
 ·rw [if_pos h1] at h
  have h1' : decide (x1 < (0 : Int)) = true := decide_eq_true h1
  obtain rfl := Option.some.inj h
  simp (maxSteps := 10000000) (implicitDefEqProofs := false) (disch := first | assumption | omega | exact rfl | exact im_ _) only [bs, rs83, Nat.reduceAdd, ↓reduceIte, ↓h1']
  refine ⟨by first | exact .inl trivial | exact .inr trivial | simp, ?_⟩
  exact finish_is (ds := [bv false]) (x := .v (.bool false)) (y := .v (.bool false)) (l := []) rfl rfl rfl rfl (by first | rfl | (simp only [wk, wks, wkL]; first | done | rfl))
 ·rw [if_neg h1] at h
  have h1' : decide (x1 < (0 : Int)) = false := decide_eq_false h1
  by_cases h2 : x0 = (1 : Int)
  ·rw [if_pos h2] at h
   have h2' : decide (x0 = (1 : Int)) = true := decide_eq_true h2
   obtain ⟨r3, h4, h⟩ := bsm h
   have h5 : ∀ H, callD (callW Tryd.prog A0) A0 H 110 [iv x2] = some (.p (.v (.int .i64 r3)), none) := fun H => R07_Group_call h4
   obtain rfl := Option.some.inj h
   simp (maxSteps := 10000000) (implicitDefEqProofs := false) (disch := first | assumption | omega | exact rfl | exact im_ _) only [bs, rs83, Nat.reduceAdd, ↓reduceIte, ↓h1', ↓h2', h5]
   refine ⟨by first | exact .inl trivial | exact .inr trivial | simp, ?_⟩
   exact finish_is (ds := [bv (decide (r3 = (1 : Int)))]) (x := .v (.bool (decide (r3 = (1 : Int))))) (y := .v (.bool (decide (r3 = (1 : Int))))) (l := []) rfl rfl rfl rfl (by first | rfl | (simp only [wk, wks, wkL]; first | done | rfl))
  ·rw [if_neg h2] at h
   have h2' : decide (x0 = (1 : Int)) = false := decide_eq_false h2
   by_cases h6 : x0 = (2 : Int)
   ·rw [if_pos h6] at h
    have h6' : decide (x0 = (2 : Int)) = true := decide_eq_true h6
    by_cases h7 : x1 = (0 : Int)
    ·rw [if_pos h7] at h
     have h7' : decide (x1 = (0 : Int)) = true := decide_eq_true h7
     by_cases h8 : x2 = (3 : Int)
     ·rw [if_pos h8] at h
      have h8' : decide (x2 = (3 : Int)) = true := decide_eq_true h8
      obtain rfl := Option.some.inj h
      simp (maxSteps := 10000000) (implicitDefEqProofs := false) (disch := first | assumption | omega | exact rfl | exact im_ _) only [bs, rs83, Nat.reduceAdd, ↓reduceIte, ↓h1', ↓h2', ↓h6', ↓h7', ↓h8']
      refine ⟨by first | exact .inl trivial | exact .inr trivial | simp, ?_⟩
      exact finish_is (ds := [bv true]) (x := .v (.bool true)) (y := .v (.bool true)) (l := []) rfl rfl rfl rfl (by first | rfl | (simp only [wk, wks, wkL]; first | done | rfl))
     ·rw [if_neg h8] at h
      have h8' : decide (x2 = (3 : Int)) = false := decide_eq_false h8
      by_cases h9 : x1 = (1 : Int)
      ·rw [if_pos h9] at h
       have h9' : decide (x1 = (1 : Int)) = true := decide_eq_true h9
       by_cases h10 : x2 = (5 : Int)
       ·rw [if_pos h10] at h
        have h10' : decide (x2 = (5 : Int)) = true := decide_eq_true h10
        obtain rfl := Option.some.inj h
        simp (maxSteps := 10000000) (implicitDefEqProofs := false) (disch := first | assumption | omega | exact rfl | exact im_ _) only [bs, rs83, Nat.reduceAdd, ↓reduceIte, ↓h1', ↓h2', ↓h6', ↓h7', ↓h8', ↓h9', ↓h10']
        refine ⟨by first | exact .inl trivial | exact .inr trivial | simp, ?_⟩
        exact finish_is (ds := [bv true]) (x := .v (.bool true)) (y := .v (.bool true)) (l := []) rfl rfl rfl rfl (by first | rfl | (simp only [wk, wks, wkL]; first | done | rfl))
       ·rw [if_neg h10] at h
        have h10' : decide (x2 = (5 : Int)) = false := decide_eq_false h10
        by_cases h11 : x1 = (2 : Int)
        ·rw [if_pos h11] at h
         have h11' : decide (x1 = (2 : Int)) = true := decide_eq_true h11
         obtain rfl := Option.some.inj h
         simp (maxSteps := 10000000) (implicitDefEqProofs := false) (disch := first | assumption | omega | exact rfl | exact im_ _) only [bs, rs83, Nat.reduceAdd, ↓reduceIte, ↓h1', ↓h2', ↓h6', ↓h7', ↓h8', ↓h9', ↓h10', ↓h11']
         refine ⟨by first | exact .inl trivial | exact .inr trivial | simp, ?_⟩
         exact finish_is (ds := [bv (decide (x2 = (6 : Int)))]) (x := .v (.bool (decide (x2 = (6 : Int))))) (y := .v (.bool (decide (x2 = (6 : Int))))) (l := []) rfl rfl rfl rfl (by first | rfl | (simp only [wk, wks, wkL]; first | done | rfl))
        ·rw [if_neg h11] at h
         have h11' : decide (x1 = (2 : Int)) = false := decide_eq_false h11
         obtain rfl := Option.some.inj h
         simp (maxSteps := 10000000) (implicitDefEqProofs := false) (disch := first | assumption | omega | exact rfl | exact im_ _) only [bs, rs83, Nat.reduceAdd, ↓reduceIte, ↓h1', ↓h2', ↓h6', ↓h7', ↓h8', ↓h9', ↓h10', ↓h11']
         refine ⟨by first | exact .inl trivial | exact .inr trivial | simp, ?_⟩
         exact finish_is (ds := [bv false]) (x := .v (.bool false)) (y := .v (.bool false)) (l := []) rfl rfl rfl rfl (by first | rfl | (simp only [wk, wks, wkL]; first | done | rfl))
      ·rw [if_neg h9] at h
       have h9' : decide (x1 = (1 : Int)) = false := decide_eq_false h9
       by_cases h12 : x1 = (2 : Int)
       ·rw [if_pos h12] at h
        have h12' : decide (x1 = (2 : Int)) = true := decide_eq_true h12
        obtain rfl := Option.some.inj h
        simp (maxSteps := 10000000) (implicitDefEqProofs := false) (disch := first | assumption | omega | exact rfl | exact im_ _) only [bs, rs83, Nat.reduceAdd, ↓reduceIte, ↓h1', ↓h2', ↓h6', ↓h7', ↓h8', ↓h9', ↓h12']
        refine ⟨by first | exact .inl trivial | exact .inr trivial | simp, ?_⟩
        exact finish_is (ds := [bv (decide (x2 = (6 : Int)))]) (x := .v (.bool (decide (x2 = (6 : Int))))) (y := .v (.bool (decide (x2 = (6 : Int))))) (l := []) rfl rfl rfl rfl (by first | rfl | (simp only [wk, wks, wkL]; first | done | rfl))
       ·rw [if_neg h12] at h
        have h12' : decide (x1 = (2 : Int)) = false := decide_eq_false h12
        obtain rfl := Option.some.inj h
        simp (maxSteps := 10000000) (implicitDefEqProofs := false) (disch := first | assumption | omega | exact rfl | exact im_ _) only [bs, rs83, Nat.reduceAdd, ↓reduceIte, ↓h1', ↓h2', ↓h6', ↓h7', ↓h8', ↓h9', ↓h12']
        refine ⟨by first | exact .inl trivial | exact .inr trivial | simp, ?_⟩
        exact finish_is (ds := [bv false]) (x := .v (.bool false)) (y := .v (.bool false)) (l := []) rfl rfl rfl rfl (by first | rfl | (simp only [wk, wks, wkL]; first | done | rfl))
    ·rw [if_neg h7] at h
     have h7' : decide (x1 = (0 : Int)) = false := decide_eq_false h7
     by_cases h13 : x1 = (1 : Int)
     ·rw [if_pos h13] at h
      have h13' : decide (x1 = (1 : Int)) = true := decide_eq_true h13
      by_cases h14 : x2 = (5 : Int)
      ·rw [if_pos h14] at h
       have h14' : decide (x2 = (5 : Int)) = true := decide_eq_true h14
       obtain rfl := Option.some.inj h
       simp (maxSteps := 10000000) (implicitDefEqProofs := false) (disch := first | assumption | omega | exact rfl | exact im_ _) only [bs, rs83, Nat.reduceAdd, ↓reduceIte, ↓h1', ↓h2', ↓h6', ↓h7', ↓h13', ↓h14']
       refine ⟨by first | exact .inl trivial | exact .inr trivial | simp, ?_⟩
       exact finish_is (ds := [bv true]) (x := .v (.bool true)) (y := .v (.bool true)) (l := []) rfl rfl rfl rfl (by first | rfl | (simp only [wk, wks, wkL]; first | done | rfl))
      ·rw [if_neg h14] at h
       have h14' : decide (x2 = (5 : Int)) = false := decide_eq_false h14
       by_cases h15 : x1 = (2 : Int)
       ·rw [if_pos h15] at h
        have h15' : decide (x1 = (2 : Int)) = true := decide_eq_true h15
        obtain rfl := Option.some.inj h
        simp (maxSteps := 10000000) (implicitDefEqProofs := false) (disch := first | assumption | omega | exact rfl | exact im_ _) only [bs, rs83, Nat.reduceAdd, ↓reduceIte, ↓h1', ↓h2', ↓h6', ↓h7', ↓h13', ↓h14', ↓h15']
        refine ⟨by first | exact .inl trivial | exact .inr trivial | simp, ?_⟩
        exact finish_is (ds := [bv (decide (x2 = (6 : Int)))]) (x := .v (.bool (decide (x2 = (6 : Int))))) (y := .v (.bool (decide (x2 = (6 : Int))))) (l := []) rfl rfl rfl rfl (by first | rfl | (simp only [wk, wks, wkL]; first | done | rfl))
       ·rw [if_neg h15] at h
        have h15' : decide (x1 = (2 : Int)) = false := decide_eq_false h15
        obtain rfl := Option.some.inj h
        simp (maxSteps := 10000000) (implicitDefEqProofs := false) (disch := first | assumption | omega | exact rfl | exact im_ _) only [bs, rs83, Nat.reduceAdd, ↓reduceIte, ↓h1', ↓h2', ↓h6', ↓h7', ↓h13', ↓h14', ↓h15']
        refine ⟨by first | exact .inl trivial | exact .inr trivial | simp, ?_⟩
        exact finish_is (ds := [bv false]) (x := .v (.bool false)) (y := .v (.bool false)) (l := []) rfl rfl rfl rfl (by first | rfl | (simp only [wk, wks, wkL]; first | done | rfl))
     ·rw [if_neg h13] at h
      have h13' : decide (x1 = (1 : Int)) = false := decide_eq_false h13
      by_cases h16 : x1 = (2 : Int)
      ·rw [if_pos h16] at h
       have h16' : decide (x1 = (2 : Int)) = true := decide_eq_true h16
       obtain rfl := Option.some.inj h
       simp (maxSteps := 10000000) (implicitDefEqProofs := false) (disch := first | assumption | omega | exact rfl | exact im_ _) only [bs, rs83, Nat.reduceAdd, ↓reduceIte, ↓h1', ↓h2', ↓h6', ↓h7', ↓h13', ↓h16']
       refine ⟨by first | exact .inl trivial | exact .inr trivial | simp, ?_⟩
       exact finish_is (ds := [bv (decide (x2 = (6 : Int)))]) (x := .v (.bool (decide (x2 = (6 : Int))))) (y := .v (.bool (decide (x2 = (6 : Int))))) (l := []) rfl rfl rfl rfl (by first | rfl | (simp only [wk, wks, wkL]; first | done | rfl))
      ·rw [if_neg h16] at h
       have h16' : decide (x1 = (2 : Int)) = false := decide_eq_false h16
       obtain rfl := Option.some.inj h
       simp (maxSteps := 10000000) (implicitDefEqProofs := false) (disch := first | assumption | omega | exact rfl | exact im_ _) only [bs, rs83, Nat.reduceAdd, ↓reduceIte, ↓h1', ↓h2', ↓h6', ↓h7', ↓h13', ↓h16']
       refine ⟨by first | exact .inl trivial | exact .inr trivial | simp, ?_⟩
       exact finish_is (ds := [bv false]) (x := .v (.bool false)) (y := .v (.bool false)) (l := []) rfl rfl rfl rfl (by first | rfl | (simp only [wk, wks, wkL]; first | done | rfl))
   ·rw [if_neg h6] at h
    have h6' : decide (x0 = (2 : Int)) = false := decide_eq_false h6
    by_cases h17 : x0 = (3 : Int)
    ·rw [if_pos h17] at h
     have h17' : decide (x0 = (3 : Int)) = true := decide_eq_true h17
     obtain rfl := Option.some.inj h
     simp (maxSteps := 10000000) (implicitDefEqProofs := false) (disch := first | assumption | omega | exact rfl | exact im_ _) only [bs, rs83, Nat.reduceAdd, ↓reduceIte, ↓h1', ↓h2', ↓h6', ↓h17']
     refine ⟨by first | exact .inl trivial | exact .inr trivial | simp, ?_⟩
     exact finish_is (ds := [bv (decide (x2 = (4 : Int)))]) (x := .v (.bool (decide (x2 = (4 : Int))))) (y := .v (.bool (decide (x2 = (4 : Int))))) (l := []) rfl rfl rfl rfl (by first | rfl | (simp only [wk, wks, wkL]; first | done | rfl))
    ·rw [if_neg h17] at h
     have h17' : decide (x0 = (3 : Int)) = false := decide_eq_false h17
     by_cases h18 : x0 = (4 : Int)
     ·rw [if_pos h18] at h
      have h18' : decide (x0 = (4 : Int)) = true := decide_eq_true h18
      by_cases h19 : x1 = (0 : Int)
      ·rw [if_pos h19] at h
       have h19' : decide (x1 = (0 : Int)) = true := decide_eq_true h19
       obtain rfl := Option.some.inj h
       simp (maxSteps := 10000000) (implicitDefEqProofs := false) (disch := first | assumption | omega | exact rfl | exact im_ _) only [bs, rs83, Nat.reduceAdd, ↓reduceIte, ↓h1', ↓h2', ↓h6', ↓h17', ↓h18', ↓h19']
       refine ⟨by first | exact .inl trivial | exact .inr trivial | simp, ?_⟩
       exact finish_is (ds := [bv (decide (x2 = (5 : Int)))]) (x := .v (.bool (decide (x2 = (5 : Int))))) (y := .v (.bool (decide (x2 = (5 : Int))))) (l := []) rfl rfl rfl rfl (by first | rfl | (simp only [wk, wks, wkL]; first | done | rfl))
      ·rw [if_neg h19] at h
       have h19' : decide (x1 = (0 : Int)) = false := decide_eq_false h19
       obtain rfl := Option.some.inj h
       simp (maxSteps := 10000000) (implicitDefEqProofs := false) (disch := first | assumption | omega | exact rfl | exact im_ _) only [bs, rs83, Nat.reduceAdd, ↓reduceIte, ↓h1', ↓h2', ↓h6', ↓h17', ↓h18', ↓h19']
       refine ⟨by first | exact .inl trivial | exact .inr trivial | simp, ?_⟩
       exact finish_is (ds := [bv false]) (x := .v (.bool false)) (y := .v (.bool false)) (l := []) rfl rfl rfl rfl (by first | rfl | (simp only [wk, wks, wkL]; first | done | rfl))
     ·rw [if_neg h18] at h
      have h18' : decide (x0 = (4 : Int)) = false := decide_eq_false h18
      by_cases h20 : x0 = (6 : Int)
      ·rw [if_pos h20] at h
       have h20' : decide (x0 = (6 : Int)) = true := decide_eq_true h20
       obtain ⟨r21, h22, h⟩ := bsm h
       have h23 : ∀ H, callD (callW Tryd.prog A0) A0 H 110 [iv x2] = some (.p (.v (.int .i64 r21)), none) := fun H => R07_Group_call h22
       obtain rfl := Option.some.inj h
       simp (maxSteps := 10000000) (implicitDefEqProofs := false) (disch := first | assumption | omega | exact rfl | exact im_ _) only [bs, rs83, Nat.reduceAdd, ↓reduceIte, ↓h1', ↓h2', ↓h6', ↓h17', ↓h18', ↓h20', h23]
       refine ⟨by first | exact .inl trivial | exact .inr trivial | simp, ?_⟩
       exact finish_is (ds := [bv (decide (r21 = (2 : Int)))]) (x := .v (.bool (decide (r21 = (2 : Int))))) (y := .v (.bool (decide (r21 = (2 : Int))))) (l := []) rfl rfl rfl rfl (by first | rfl | (simp only [wk, wks, wkL]; first | done | rfl))
      ·rw [if_neg h20] at h
       have h20' : decide (x0 = (6 : Int)) = false := decide_eq_false h20
       by_cases h24 : x0 = (7 : Int)
       ·rw [if_pos h24] at h
        have h24' : decide (x0 = (7 : Int)) = true := decide_eq_true h24
        by_cases h25 : x1 = (0 : Int)
        ·rw [if_pos h25] at h
         have h25' : decide (x1 = (0 : Int)) = true := decide_eq_true h25
         by_cases h26 : x2 = (8 : Int)
         ·rw [if_pos h26] at h
          have h26' : decide (x2 = (8 : Int)) = true := decide_eq_true h26
          obtain rfl := Option.some.inj h
          simp (maxSteps := 10000000) (implicitDefEqProofs := false) (disch := first | assumption | omega | exact rfl | exact im_ _) only [bs, rs83, Nat.reduceAdd, ↓reduceIte, ↓h1', ↓h2', ↓h6', ↓h17', ↓h18', ↓h20', ↓h24', ↓h25', ↓h26']
          refine ⟨by first | exact .inl trivial | exact .inr trivial | simp, ?_⟩
          exact finish_is (ds := [bv true]) (x := .v (.bool true)) (y := .v (.bool true)) (l := []) rfl rfl rfl rfl (by first | rfl | (simp only [wk, wks, wkL]; first | done | rfl))
         ·rw [if_neg h26] at h
          have h26' : decide (x2 = (8 : Int)) = false := decide_eq_false h26
          by_cases h27 : (0 : Int) < x1
          ·rw [if_pos h27] at h
           have h27' : decide ((0 : Int) < x1) = true := decide_eq_true h27
           obtain rfl := Option.some.inj h
           simp (maxSteps := 10000000) (implicitDefEqProofs := false) (disch := first | assumption | omega | exact rfl | exact im_ _) only [bs, rs83, Nat.reduceAdd, ↓reduceIte, ↓h1', ↓h2', ↓h6', ↓h17', ↓h18', ↓h20', ↓h24', ↓h25', ↓h26', ↓h27']
           refine ⟨by first | exact .inl trivial | exact .inr trivial | simp, ?_⟩
           exact finish_is (ds := [bv (decide (x2 = (2 : Int)))]) (x := .v (.bool (decide (x2 = (2 : Int))))) (y := .v (.bool (decide (x2 = (2 : Int))))) (l := []) rfl rfl rfl rfl (by first | rfl | (simp only [wk, wks, wkL]; first | done | rfl))
          ·rw [if_neg h27] at h
           have h27' : decide ((0 : Int) < x1) = false := decide_eq_false h27
           obtain rfl := Option.some.inj h
           simp (maxSteps := 10000000) (implicitDefEqProofs := false) (disch := first | assumption | omega | exact rfl | exact im_ _) only [bs, rs83, Nat.reduceAdd, ↓reduceIte, ↓h1', ↓h2', ↓h6', ↓h17', ↓h18', ↓h20', ↓h24', ↓h25', ↓h26', ↓h27']
           refine ⟨by first | exact .inl trivial | exact .inr trivial | simp, ?_⟩
           exact finish_is (ds := [bv false]) (x := .v (.bool false)) (y := .v (.bool false)) (l := []) rfl rfl rfl rfl (by first | rfl | (simp only [wk, wks, wkL]; first | done | rfl))
        ·rw [if_neg h25] at h
         have h25' : decide (x1 = (0 : Int)) = false := decide_eq_false h25
         by_cases h28 : (0 : Int) < x1
         ·rw [if_pos h28] at h
          have h28' : decide ((0 : Int) < x1) = true := decide_eq_true h28
          obtain rfl := Option.some.inj h
          simp (maxSteps := 10000000) (implicitDefEqProofs := false) (disch := first | assumption | omega | exact rfl | exact im_ _) only [bs, rs83, Nat.reduceAdd, ↓reduceIte, ↓h1', ↓h2', ↓h6', ↓h17', ↓h18', ↓h20', ↓h24', ↓h25', ↓h28']
          refine ⟨by first | exact .inl trivial | exact .inr trivial | simp, ?_⟩
          exact finish_is (ds := [bv (decide (x2 = (2 : Int)))]) (x := .v (.bool (decide (x2 = (2 : Int))))) (y := .v (.bool (decide (x2 = (2 : Int))))) (l := []) rfl rfl rfl rfl (by first | rfl | (simp only [wk, wks, wkL]; first | done | rfl))
         ·rw [if_neg h28] at h
          have h28' : decide ((0 : Int) < x1) = false := decide_eq_false h28
          obtain rfl := Option.some.inj h
          simp (maxSteps := 10000000) (implicitDefEqProofs := false) (disch := first | assumption | omega | exact rfl | exact im_ _) only [bs, rs83, Nat.reduceAdd, ↓reduceIte, ↓h1', ↓h2', ↓h6', ↓h17', ↓h18', ↓h20', ↓h24', ↓h25', ↓h28']
          refine ⟨by first | exact .inl trivial | exact .inr trivial | simp, ?_⟩
          exact finish_is (ds := [bv false]) (x := .v (.bool false)) (y := .v (.bool false)) (l := []) rfl rfl rfl rfl (by first | rfl | (simp only [wk, wks, wkL]; first | done | rfl))
       ·rw [if_neg h24] at h
        have h24' : decide (x0 = (7 : Int)) = false := decide_eq_false h24
        by_cases h29 : x0 = (13 : Int)
        ·rw [if_pos h29] at h
         have h29' : decide (x0 = (13 : Int)) = true := decide_eq_true h29
         by_cases h30 : x1 = (0 : Int)
         ·rw [if_pos h30] at h
          have h30' : decide (x1 = (0 : Int)) = true := decide_eq_true h30
          obtain ⟨r31, h32, h⟩ := bsm h
          have h33 : ∀ H, callD (callW Tryd.prog A0) A0 H 110 [iv x2] = some (.p (.v (.int .i64 r31)), none) := fun H => R07_Group_call h32
          by_cases h34 : r31 = (3 : Int)
          ·rw [if_pos h34] at h
           have h34' : decide (r31 = (3 : Int)) = true := decide_eq_true h34
           obtain rfl := Option.some.inj h
           simp (maxSteps := 10000000) (implicitDefEqProofs := false) (disch := first | assumption | omega | exact rfl | exact im_ _) only [bs, rs83, Nat.reduceAdd, ↓reduceIte, ↓h1', ↓h2', ↓h6', ↓h17', ↓h18', ↓h20', ↓h24', ↓h29', ↓h30', h33, ↓h34']
           refine ⟨by first | exact .inl trivial | exact .inr trivial | simp, ?_⟩
           exact finish_is (ds := [bv true]) (x := .v (.bool true)) (y := .v (.bool true)) (l := []) rfl rfl rfl rfl (by first | rfl | (simp only [wk, wks, wkL]; first | done | rfl))
          ·rw [if_neg h34] at h
           have h34' : decide (r31 = (3 : Int)) = false := decide_eq_false h34
           by_cases h35 : x1 = (1 : Int)
           ·rw [if_pos h35] at h
            have h35' : decide (x1 = (1 : Int)) = true := decide_eq_true h35
            by_cases h36 : x2 = (6 : Int)
            ·rw [if_pos h36] at h
             have h36' : decide (x2 = (6 : Int)) = true := decide_eq_true h36
             obtain rfl := Option.some.inj h
             simp (maxSteps := 10000000) (implicitDefEqProofs := false) (disch := first | assumption | omega | exact rfl | exact im_ _) only [bs, rs83, Nat.reduceAdd, ↓reduceIte, ↓h1', ↓h2', ↓h6', ↓h17', ↓h18', ↓h20', ↓h24', ↓h29', ↓h30', h33, ↓h34', ↓h35', ↓h36']
             refine ⟨by first | exact .inl trivial | exact .inr trivial | simp, ?_⟩
             exact finish_is (ds := [bv true]) (x := .v (.bool true)) (y := .v (.bool true)) (l := []) rfl rfl rfl rfl (by first | rfl | (simp only [wk, wks, wkL]; first | done | rfl))
            ·rw [if_neg h36] at h
             have h36' : decide (x2 = (6 : Int)) = false := decide_eq_false h36
             by_cases h37 : x1 = (2 : Int)
             ·rw [if_pos h37] at h
              have h37' : decide (x1 = (2 : Int)) = true := decide_eq_true h37
              obtain rfl := Option.some.inj h
              simp (maxSteps := 10000000) (implicitDefEqProofs := false) (disch := first | assumption | omega | exact rfl | exact im_ _) only [bs, rs83, Nat.reduceAdd, ↓reduceIte, ↓h1', ↓h2', ↓h6', ↓h17', ↓h18', ↓h20', ↓h24', ↓h29', ↓h30', h33, ↓h34', ↓h35', ↓h36', ↓h37']
              refine ⟨by first | exact .inl trivial | exact .inr trivial | simp, ?_⟩
              exact finish_is (ds := [bv (decide (x2 = (14 : Int)))]) (x := .v (.bool (decide (x2 = (14 : Int))))) (y := .v (.bool (decide (x2 = (14 : Int))))) (l := []) rfl rfl rfl rfl (by first | rfl | (simp only [wk, wks, wkL]; first | done | rfl))
             ·rw [if_neg h37] at h
              have h37' : decide (x1 = (2 : Int)) = false := decide_eq_false h37
              obtain rfl := Option.some.inj h
              simp (maxSteps := 10000000) (implicitDefEqProofs := false) (disch := first | assumption | omega | exact rfl | exact im_ _) only [bs, rs83, Nat.reduceAdd, ↓reduceIte, ↓h1', ↓h2', ↓h6', ↓h17', ↓h18', ↓h20', ↓h24', ↓h29', ↓h30', h33, ↓h34', ↓h35', ↓h36', ↓h37']
              refine ⟨by first | exact .inl trivial | exact .inr trivial | simp, ?_⟩
              exact finish_is (ds := [bv false]) (x := .v (.bool false)) (y := .v (.bool false)) (l := []) rfl rfl rfl rfl (by first | rfl | (simp only [wk, wks, wkL]; first | done | rfl))
           ·rw [if_neg h35] at h
            have h35' : decide (x1 = (1 : Int)) = false := decide_eq_false h35
            by_cases h38 : x1 = (2 : Int)
            ·rw [if_pos h38] at h
             have h38' : decide (x1 = (2 : Int)) = true := decide_eq_true h38
             obtain rfl := Option.some.inj h
             simp (maxSteps := 10000000) (implicitDefEqProofs := false) (disch := first | assumption | omega | exact rfl | exact im_ _) only [bs, rs83, Nat.reduceAdd, ↓reduceIte, ↓h1', ↓h2', ↓h6', ↓h17', ↓h18', ↓h20', ↓h24', ↓h29', ↓h30', h33, ↓h34', ↓h35', ↓h38']
             refine ⟨by first | exact .inl trivial | exact .inr trivial | simp, ?_⟩
             exact finish_is (ds := [bv (decide (x2 = (14 : Int)))]) (x := .v (.bool (decide (x2 = (14 : Int))))) (y := .v (.bool (decide (x2 = (14 : Int))))) (l := []) rfl rfl rfl rfl (by first | rfl | (simp only [wk, wks, wkL]; first | done | rfl))
            ·rw [if_neg h38] at h
             have h38' : decide (x1 = (2 : Int)) = false := decide_eq_false h38
             obtain rfl := Option.some.inj h
             simp (maxSteps := 10000000) (implicitDefEqProofs := false) (disch := first | assumption | omega | exact rfl | exact im_ _) only [bs, rs83, Nat.reduceAdd, ↓reduceIte, ↓h1', ↓h2', ↓h6', ↓h17', ↓h18', ↓h20', ↓h24', ↓h29', ↓h30', h33, ↓h34', ↓h35', ↓h38']
             refine ⟨by first | exact .inl trivial | exact .inr trivial | simp, ?_⟩
             exact finish_is (ds := [bv false]) (x := .v (.bool false)) (y := .v (.bool false)) (l := []) rfl rfl rfl rfl (by first | rfl | (simp only [wk, wks, wkL]; first | done | rfl))
         ·rw [if_neg h30] at h
          have h30' : decide (x1 = (0 : Int)) = false := decide_eq_false h30
          by_cases h39 : x1 = (1 : Int)
          ·rw [if_pos h39] at h
           have h39' : decide (x1 = (1 : Int)) = true := decide_eq_true h39
           by_cases h40 : x2 = (6 : Int)
           ·rw [if_pos h40] at h
            have h40' : decide (x2 = (6 : Int)) = true := decide_eq_true h40
            obtain rfl := Option.some.inj h
            simp (maxSteps := 10000000) (implicitDefEqProofs := false) (disch := first | assumption | omega | exact rfl | exact im_ _) only [bs, rs83, Nat.reduceAdd, ↓reduceIte, ↓h1', ↓h2', ↓h6', ↓h17', ↓h18', ↓h20', ↓h24', ↓h29', ↓h30', ↓h39', ↓h40']
            refine ⟨by first | exact .inl trivial | exact .inr trivial | simp, ?_⟩
            exact finish_is (ds := [bv true]) (x := .v (.bool true)) (y := .v (.bool true)) (l := []) rfl rfl rfl rfl (by first | rfl | (simp only [wk, wks, wkL]; first | done | rfl))
           ·rw [if_neg h40] at h
            have h40' : decide (x2 = (6 : Int)) = false := decide_eq_false h40
            by_cases h41 : x1 = (2 : Int)
            ·rw [if_pos h41] at h
             have h41' : decide (x1 = (2 : Int)) = true := decide_eq_true h41
             obtain rfl := Option.some.inj h
             simp (maxSteps := 10000000) (implicitDefEqProofs := false) (disch := first | assumption | omega | exact rfl | exact im_ _) only [bs, rs83, Nat.reduceAdd, ↓reduceIte, ↓h1', ↓h2', ↓h6', ↓h17', ↓h18', ↓h20', ↓h24', ↓h29', ↓h30', ↓h39', ↓h40', ↓h41']
             refine ⟨by first | exact .inl trivial | exact .inr trivial | simp, ?_⟩
             exact finish_is (ds := [bv (decide (x2 = (14 : Int)))]) (x := .v (.bool (decide (x2 = (14 : Int))))) (y := .v (.bool (decide (x2 = (14 : Int))))) (l := []) rfl rfl rfl rfl (by first | rfl | (simp only [wk, wks, wkL]; first | done | rfl))
            ·rw [if_neg h41] at h
             have h41' : decide (x1 = (2 : Int)) = false := decide_eq_false h41
             obtain rfl := Option.some.inj h
             simp (maxSteps := 10000000) (implicitDefEqProofs := false) (disch := first | assumption | omega | exact rfl | exact im_ _) only [bs, rs83, Nat.reduceAdd, ↓reduceIte, ↓h1', ↓h2', ↓h6', ↓h17', ↓h18', ↓h20', ↓h24', ↓h29', ↓h30', ↓h39', ↓h40', ↓h41']
             refine ⟨by first | exact .inl trivial | exact .inr trivial | simp, ?_⟩
             exact finish_is (ds := [bv false]) (x := .v (.bool false)) (y := .v (.bool false)) (l := []) rfl rfl rfl rfl (by first | rfl | (simp only [wk, wks, wkL]; first | done | rfl))
          ·rw [if_neg h39] at h
           have h39' : decide (x1 = (1 : Int)) = false := decide_eq_false h39
           by_cases h42 : x1 = (2 : Int)
           ·rw [if_pos h42] at h
            have h42' : decide (x1 = (2 : Int)) = true := decide_eq_true h42
            obtain rfl := Option.some.inj h
            simp (maxSteps := 10000000) (implicitDefEqProofs := false) (disch := first | assumption | omega | exact rfl | exact im_ _) only [bs, rs83, Nat.reduceAdd, ↓reduceIte, ↓h1', ↓h2', ↓h6', ↓h17', ↓h18', ↓h20', ↓h24', ↓h29', ↓h30', ↓h39', ↓h42']
            refine ⟨by first | exact .inl trivial | exact .inr trivial | simp, ?_⟩
            exact finish_is (ds := [bv (decide (x2 = (14 : Int)))]) (x := .v (.bool (decide (x2 = (14 : Int))))) (y := .v (.bool (decide (x2 = (14 : Int))))) (l := []) rfl rfl rfl rfl (by first | rfl | (simp only [wk, wks, wkL]; first | done | rfl))
           ·rw [if_neg h42] at h
            have h42' : decide (x1 = (2 : Int)) = false := decide_eq_false h42
            obtain rfl := Option.some.inj h
            simp (maxSteps := 10000000) (implicitDefEqProofs := false) (disch := first | assumption | omega | exact rfl | exact im_ _) only [bs, rs83, Nat.reduceAdd, ↓reduceIte, ↓h1', ↓h2', ↓h6', ↓h17', ↓h18', ↓h20', ↓h24', ↓h29', ↓h30', ↓h39', ↓h42']
            refine ⟨by first | exact .inl trivial | exact .inr trivial | simp, ?_⟩
            exact finish_is (ds := [bv false]) (x := .v (.bool false)) (y := .v (.bool false)) (l := []) rfl rfl rfl rfl (by first | rfl | (simp only [wk, wks, wkL]; first | done | rfl))
        ·rw [if_neg h29] at h
         have h29' : decide (x0 = (13 : Int)) = false := decide_eq_false h29
         by_cases h43 : x0 = (14 : Int)
         ·rw [if_pos h43] at h
          have h43' : decide (x0 = (14 : Int)) = true := decide_eq_true h43
          by_cases h44 : x1 = (0 : Int)
          ·rw [if_pos h44] at h
           have h44' : decide (x1 = (0 : Int)) = true := decide_eq_true h44
           obtain rfl := Option.some.inj h
           simp (maxSteps := 10000000) (implicitDefEqProofs := false) (disch := first | assumption | omega | exact rfl | exact im_ _) only [bs, rs83, Nat.reduceAdd, ↓reduceIte, ↓h1', ↓h2', ↓h6', ↓h17', ↓h18', ↓h20', ↓h24', ↓h29', ↓h43', ↓h44']
           refine ⟨by first | exact .inl trivial | exact .inr trivial | simp, ?_⟩
           exact finish_is (ds := [bv (decide (x2 = (6 : Int)))]) (x := .v (.bool (decide (x2 = (6 : Int))))) (y := .v (.bool (decide (x2 = (6 : Int))))) (l := []) rfl rfl rfl rfl (by first | rfl | (simp only [wk, wks, wkL]; first | done | rfl))
          ·rw [if_neg h44] at h
           have h44' : decide (x1 = (0 : Int)) = false := decide_eq_false h44
           obtain rfl := Option.some.inj h
           simp (maxSteps := 10000000) (implicitDefEqProofs := false) (disch := first | assumption | omega | exact rfl | exact im_ _) only [bs, rs83, Nat.reduceAdd, ↓reduceIte, ↓h1', ↓h2', ↓h6', ↓h17', ↓h18', ↓h20', ↓h24', ↓h29', ↓h43', ↓h44']
           refine ⟨by first | exact .inl trivial | exact .inr trivial | simp, ?_⟩
           exact finish_is (ds := [bv false]) (x := .v (.bool false)) (y := .v (.bool false)) (l := []) rfl rfl rfl rfl (by first | rfl | (simp only [wk, wks, wkL]; first | done | rfl))
         ·rw [if_neg h43] at h
          have h43' : decide (x0 = (14 : Int)) = false := decide_eq_false h43
          by_cases h45 : x0 = (15 : Int)
          ·rw [if_pos h45] at h
           have h45' : decide (x0 = (15 : Int)) = true := decide_eq_true h45
           by_cases h46 : x1 = (0 : Int)
           ·rw [if_pos h46] at h
            have h46' : decide (x1 = (0 : Int)) = true := decide_eq_true h46
            obtain ⟨r47, h48, h⟩ := bsm h
            have h49 : ∀ H, callD (callW Tryd.prog A0) A0 H 110 [iv x2] = some (.p (.v (.int .i64 r47)), none) := fun H => R07_Group_call h48
            by_cases h50 : r47 = (3 : Int)
            ·rw [if_pos h50] at h
             have h50' : decide (r47 = (3 : Int)) = true := decide_eq_true h50
             obtain rfl := Option.some.inj h
             simp (maxSteps := 10000000) (implicitDefEqProofs := false) (disch := first | assumption | omega | exact rfl | exact im_ _) only [bs, rs83, Nat.reduceAdd, ↓reduceIte, ↓h1', ↓h2', ↓h6', ↓h17', ↓h18', ↓h20', ↓h24', ↓h29', ↓h43', ↓h45', ↓h46', h49, ↓h50']
             refine ⟨by first | exact .inl trivial | exact .inr trivial | simp, ?_⟩
             exact finish_is (ds := [bv true]) (x := .v (.bool true)) (y := .v (.bool true)) (l := []) rfl rfl rfl rfl (by first | rfl | (simp only [wk, wks, wkL]; first | done | rfl))
            ·rw [if_neg h50] at h
             have h50' : decide (r47 = (3 : Int)) = false := decide_eq_false h50
             by_cases h51 : x1 = (1 : Int)
             ·rw [if_pos h51] at h
              have h51' : decide (x1 = (1 : Int)) = true := decide_eq_true h51
              obtain rfl := Option.some.inj h
              simp (maxSteps := 10000000) (implicitDefEqProofs := false) (disch := first | assumption | omega | exact rfl | exact im_ _) only [bs, rs83, Nat.reduceAdd, ↓reduceIte, ↓h1', ↓h2', ↓h6', ↓h17', ↓h18', ↓h20', ↓h24', ↓h29', ↓h43', ↓h45', ↓h46', h49, ↓h50', ↓h51']
              refine ⟨by first | exact .inl trivial | exact .inr trivial | simp, ?_⟩
              exact finish_is (ds := [bv (decide (x2 = (6 : Int)))]) (x := .v (.bool (decide (x2 = (6 : Int))))) (y := .v (.bool (decide (x2 = (6 : Int))))) (l := []) rfl rfl rfl rfl (by first | rfl | (simp only [wk, wks, wkL]; first | done | rfl))
             ·rw [if_neg h51] at h
              have h51' : decide (x1 = (1 : Int)) = false := decide_eq_false h51
              obtain rfl := Option.some.inj h
              simp (maxSteps := 10000000) (implicitDefEqProofs := false) (disch := first | assumption | omega | exact rfl | exact im_ _) only [bs, rs83, Nat.reduceAdd, ↓reduceIte, ↓h1', ↓h2', ↓h6', ↓h17', ↓h18', ↓h20', ↓h24', ↓h29', ↓h43', ↓h45', ↓h46', h49, ↓h50', ↓h51']
              refine ⟨by first | exact .inl trivial | exact .inr trivial | simp, ?_⟩
              exact finish_is (ds := [bv false]) (x := .v (.bool false)) (y := .v (.bool false)) (l := []) rfl rfl rfl rfl (by first | rfl | (simp only [wk, wks, wkL]; first | done | rfl))
           ·rw [if_neg h46] at h
            have h46' : decide (x1 = (0 : Int)) = false := decide_eq_false h46
            by_cases h52 : x1 = (1 : Int)
            ·rw [if_pos h52] at h
             have h52' : decide (x1 = (1 : Int)) = true := decide_eq_true h52
             obtain rfl := Option.some.inj h
             simp (maxSteps := 10000000) (implicitDefEqProofs := false) (disch := first | assumption | omega | exact rfl | exact im_ _) only [bs, rs83, Nat.reduceAdd, ↓reduceIte, ↓h1', ↓h2', ↓h6', ↓h17', ↓h18', ↓h20', ↓h24', ↓h29', ↓h43', ↓h45', ↓h46', ↓h52']
             refine ⟨by first | exact .inl trivial | exact .inr trivial | simp, ?_⟩
             exact finish_is (ds := [bv (decide (x2 = (6 : Int)))]) (x := .v (.bool (decide (x2 = (6 : Int))))) (y := .v (.bool (decide (x2 = (6 : Int))))) (l := []) rfl rfl rfl rfl (by first | rfl | (simp only [wk, wks, wkL]; first | done | rfl))
            ·rw [if_neg h52] at h
             have h52' : decide (x1 = (1 : Int)) = false := decide_eq_false h52
             obtain rfl := Option.some.inj h
             simp (maxSteps := 10000000) (implicitDefEqProofs := false) (disch := first | assumption | omega | exact rfl | exact im_ _) only [bs, rs83, Nat.reduceAdd, ↓reduceIte, ↓h1', ↓h2', ↓h6', ↓h17', ↓h18', ↓h20', ↓h24', ↓h29', ↓h43', ↓h45', ↓h46', ↓h52']
             refine ⟨by first | exact .inl trivial | exact .inr trivial | simp, ?_⟩
             exact finish_is (ds := [bv false]) (x := .v (.bool false)) (y := .v (.bool false)) (l := []) rfl rfl rfl rfl (by first | rfl | (simp only [wk, wks, wkL]; first | done | rfl))
          ·rw [if_neg h45] at h
           have h45' : decide (x0 = (15 : Int)) = false := decide_eq_false h45
           by_cases h53 : x0 = (20 : Int)
           ·rw [if_pos h53] at h
            have h53' : decide (x0 = (20 : Int)) = true := decide_eq_true h53
            obtain ⟨r54, h55, h⟩ := bsm h
            have h56 : ∀ H, callD (callW Tryd.prog A0) A0 H 110 [iv x2] = some (.p (.v (.int .i64 r54)), none) := fun H => R07_Group_call h55
            obtain rfl := Option.some.inj h
            simp (maxSteps := 10000000) (implicitDefEqProofs := false) (disch := first | assumption | omega | exact rfl | exact im_ _) only [bs, rs83, Nat.reduceAdd, ↓reduceIte, ↓h1', ↓h2', ↓h6', ↓h17', ↓h18', ↓h20', ↓h24', ↓h29', ↓h43', ↓h45', ↓h53', h56]
            refine ⟨by first | exact .inl trivial | exact .inr trivial | simp, ?_⟩
            exact finish_is (ds := [bv (decide (r54 = (3 : Int)))]) (x := .v (.bool (decide (r54 = (3 : Int))))) (y := .v (.bool (decide (r54 = (3 : Int))))) (l := []) rfl rfl rfl rfl (by first | rfl | (simp only [wk, wks, wkL]; first | done | rfl))
           ·rw [if_neg h53] at h
            have h53' : decide (x0 = (20 : Int)) = false := decide_eq_false h53
            by_cases h57 : x0 = (21 : Int)
            ·rw [if_pos h57] at h
             have h57' : decide (x0 = (21 : Int)) = true := decide_eq_true h57
             obtain ⟨r58, h59, h⟩ := bsm h
             have h60 : ∀ H, callD (callW Tryd.prog A0) A0 H 110 [iv x2] = some (.p (.v (.int .i64 r58)), none) := fun H => R07_Group_call h59
             obtain rfl := Option.some.inj h
             simp (maxSteps := 10000000) (implicitDefEqProofs := false) (disch := first | assumption | omega | exact rfl | exact im_ _) only [bs, rs83, Nat.reduceAdd, ↓reduceIte, ↓h1', ↓h2', ↓h6', ↓h17', ↓h18', ↓h20', ↓h24', ↓h29', ↓h43', ↓h45', ↓h53', ↓h57', h60]
             refine ⟨by first | exact .inl trivial | exact .inr trivial | simp, ?_⟩
             exact finish_is (ds := [bv (decide (r58 = (3 : Int)))]) (x := .v (.bool (decide (r58 = (3 : Int))))) (y := .v (.bool (decide (r58 = (3 : Int))))) (l := []) rfl rfl rfl rfl (by first | rfl | (simp only [wk, wks, wkL]; first | done | rfl))
            ·rw [if_neg h57] at h
             have h57' : decide (x0 = (21 : Int)) = false := decide_eq_false h57
             by_cases h61 : x0 = (24 : Int)
             ·rw [if_pos h61] at h
              have h61' : decide (x0 = (24 : Int)) = true := decide_eq_true h61
              by_cases h62 : x1 < (2 : Int)
              ·rw [if_pos h62] at h
               have h62' : decide (x1 < (2 : Int)) = true := decide_eq_true h62
               obtain ⟨r63, h64, h⟩ := bsm h
               have h65 : ∀ H, callD (callW Tryd.prog A0) A0 H 110 [iv x2] = some (.p (.v (.int .i64 r63)), none) := fun H => R07_Group_call h64
               obtain rfl := Option.some.inj h
               simp (maxSteps := 10000000) (implicitDefEqProofs := false) (disch := first | assumption | omega | exact rfl | exact im_ _) only [bs, rs83, Nat.reduceAdd, ↓reduceIte, ↓h1', ↓h2', ↓h6', ↓h17', ↓h18', ↓h20', ↓h24', ↓h29', ↓h43', ↓h45', ↓h53', ↓h57', ↓h61', ↓h62', h65]
               refine ⟨by first | exact .inl trivial | exact .inr trivial | simp, ?_⟩
               exact finish_is (ds := [bv (decide (r63 = (3 : Int)))]) (x := .v (.bool (decide (r63 = (3 : Int))))) (y := .v (.bool (decide (r63 = (3 : Int))))) (l := []) rfl rfl rfl rfl (by first | rfl | (simp only [wk, wks, wkL]; first | done | rfl))
              ·rw [if_neg h62] at h
               have h62' : decide (x1 < (2 : Int)) = false := decide_eq_false h62
               obtain rfl := Option.some.inj h
               simp (maxSteps := 10000000) (implicitDefEqProofs := false) (disch := first | assumption | omega | exact rfl | exact im_ _) only [bs, rs83, Nat.reduceAdd, ↓reduceIte, ↓h1', ↓h2', ↓h6', ↓h17', ↓h18', ↓h20', ↓h24', ↓h29', ↓h43', ↓h45', ↓h53', ↓h57', ↓h61', ↓h62']
               refine ⟨by first | exact .inl trivial | exact .inr trivial | simp, ?_⟩
               exact finish_is (ds := [bv false]) (x := .v (.bool false)) (y := .v (.bool false)) (l := []) rfl rfl rfl rfl (by first | rfl | (simp only [wk, wks, wkL]; first | done | rfl))
             ·rw [if_neg h61] at h
              have h61' : decide (x0 = (24 : Int)) = false := decide_eq_false h61
              by_cases h66 : x0 = (9 : Int)
              ·rw [if_pos h66] at h
               have h66' : decide (x0 = (9 : Int)) = true := decide_eq_true h66
               by_cases h67 : x1 = (0 : Int)
               ·rw [if_pos h67] at h
                have h67' : decide (x1 = (0 : Int)) = true := decide_eq_true h67
                obtain ⟨r68, h69, h⟩ := bsm h
                have h70 : ∀ H, callD (callW Tryd.prog A0) A0 H 110 [iv x2] = some (.p (.v (.int .i64 r68)), none) := fun H => R07_Group_call h69
                obtain rfl := Option.some.inj h
                simp (maxSteps := 10000000) (implicitDefEqProofs := false) (disch := first | assumption | omega | exact rfl | exact im_ _) only [bs, rs83, Nat.reduceAdd, ↓reduceIte, ↓h1', ↓h2', ↓h6', ↓h17', ↓h18', ↓h20', ↓h24', ↓h29', ↓h43', ↓h45', ↓h53', ↓h57', ↓h61', ↓h66', ↓h67', h70]
                refine ⟨by first | exact .inl trivial | exact .inr trivial | simp, ?_⟩
                exact finish_is (ds := [bv (decide (r68 = (3 : Int)))]) (x := .v (.bool (decide (r68 = (3 : Int))))) (y := .v (.bool (decide (r68 = (3 : Int))))) (l := []) rfl rfl rfl rfl (by first | rfl | (simp only [wk, wks, wkL]; first | done | rfl))
               ·rw [if_neg h67] at h
                have h67' : decide (x1 = (0 : Int)) = false := decide_eq_false h67
                obtain rfl := Option.some.inj h
                simp (maxSteps := 10000000) (implicitDefEqProofs := false) (disch := first | assumption | omega | exact rfl | exact im_ _) only [bs, rs83, Nat.reduceAdd, ↓reduceIte, ↓h1', ↓h2', ↓h6', ↓h17', ↓h18', ↓h20', ↓h24', ↓h29', ↓h43', ↓h45', ↓h53', ↓h57', ↓h61', ↓h66', ↓h67']
                refine ⟨by first | exact .inl trivial | exact .inr trivial | simp, ?_⟩
                exact finish_is (ds := [bv false]) (x := .v (.bool false)) (y := .v (.bool false)) (l := []) rfl rfl rfl rfl (by first | rfl | (simp only [wk, wks, wkL]; first | done | rfl))
              ·rw [if_neg h66] at h
               have h66' : decide (x0 = (9 : Int)) = false := decide_eq_false h66
               by_cases h71 : x0 = (10 : Int)
               ·rw [if_pos h71] at h
                have h71' : decide (x0 = (10 : Int)) = true := decide_eq_true h71
                by_cases h72 : x1 = (0 : Int)
                ·rw [if_pos h72] at h
                 have h72' : decide (x1 = (0 : Int)) = true := decide_eq_true h72
                 obtain ⟨r73, h74, h⟩ := bsm h
                 have h75 : ∀ H, callD (callW Tryd.prog A0) A0 H 110 [iv x2] = some (.p (.v (.int .i64 r73)), none) := fun H => R07_Group_call h74
                 obtain rfl := Option.some.inj h
                 simp (maxSteps := 10000000) (implicitDefEqProofs := false) (disch := first | assumption | omega | exact rfl | exact im_ _) only [bs, rs83, Nat.reduceAdd, ↓reduceIte, ↓h1', ↓h2', ↓h6', ↓h17', ↓h18', ↓h20', ↓h24', ↓h29', ↓h43', ↓h45', ↓h53', ↓h57', ↓h61', ↓h66', ↓h71', ↓h72', h75]
                 refine ⟨by first | exact .inl trivial | exact .inr trivial | simp, ?_⟩
                 exact finish_is (ds := [bv (decide (r73 = (3 : Int)))]) (x := .v (.bool (decide (r73 = (3 : Int))))) (y := .v (.bool (decide (r73 = (3 : Int))))) (l := []) rfl rfl rfl rfl (by first | rfl | (simp only [wk, wks, wkL]; first | done | rfl))
                ·rw [if_neg h72] at h
                 have h72' : decide (x1 = (0 : Int)) = false := decide_eq_false h72
                 obtain rfl := Option.some.inj h
                 simp (maxSteps := 10000000) (implicitDefEqProofs := false) (disch := first | assumption | omega | exact rfl | exact im_ _) only [bs, rs83, Nat.reduceAdd, ↓reduceIte, ↓h1', ↓h2', ↓h6', ↓h17', ↓h18', ↓h20', ↓h24', ↓h29', ↓h43', ↓h45', ↓h53', ↓h57', ↓h61', ↓h66', ↓h71', ↓h72']
                 refine ⟨by first | exact .inl trivial | exact .inr trivial | simp, ?_⟩
                 exact finish_is (ds := [bv false]) (x := .v (.bool false)) (y := .v (.bool false)) (l := []) rfl rfl rfl rfl (by first | rfl | (simp only [wk, wks, wkL]; first | done | rfl))
               ·rw [if_neg h71] at h
                have h71' : decide (x0 = (10 : Int)) = false := decide_eq_false h71
                by_cases h76 : x0 = (11 : Int)
                ·rw [if_pos h76] at h
                 have h76' : decide (x0 = (11 : Int)) = true := decide_eq_true h76
                 by_cases h77 : x1 = (0 : Int)
                 ·rw [if_pos h77] at h
                  have h77' : decide (x1 = (0 : Int)) = true := decide_eq_true h77
                  obtain ⟨r78, h79, h⟩ := bsm h
                  have h80 : ∀ H, callD (callW Tryd.prog A0) A0 H 110 [iv x2] = some (.p (.v (.int .i64 r78)), none) := fun H => R07_Group_call h79
                  obtain rfl := Option.some.inj h
                  simp (maxSteps := 10000000) (implicitDefEqProofs := false) (disch := first | assumption | omega | exact rfl | exact im_ _) only [bs, rs83, Nat.reduceAdd, ↓reduceIte, ↓h1', ↓h2', ↓h6', ↓h17', ↓h18', ↓h20', ↓h24', ↓h29', ↓h43', ↓h45', ↓h53', ↓h57', ↓h61', ↓h66', ↓h71', ↓h76', ↓h77', h80]
                  refine ⟨by first | exact .inl trivial | exact .inr trivial | simp, ?_⟩
                  exact finish_is (ds := [bv (decide (r78 = (3 : Int)))]) (x := .v (.bool (decide (r78 = (3 : Int))))) (y := .v (.bool (decide (r78 = (3 : Int))))) (l := []) rfl rfl rfl rfl (by first | rfl | (simp only [wk, wks, wkL]; first | done | rfl))
                 ·rw [if_neg h77] at h
                  have h77' : decide (x1 = (0 : Int)) = false := decide_eq_false h77
                  obtain rfl := Option.some.inj h
                  simp (maxSteps := 10000000) (implicitDefEqProofs := false) (disch := first | assumption | omega | exact rfl | exact im_ _) only [bs, rs83, Nat.reduceAdd, ↓reduceIte, ↓h1', ↓h2', ↓h6', ↓h17', ↓h18', ↓h20', ↓h24', ↓h29', ↓h43', ↓h45', ↓h53', ↓h57', ↓h61', ↓h66', ↓h71', ↓h76', ↓h77']
                  refine ⟨by first | exact .inl trivial | exact .inr trivial | simp, ?_⟩
                  exact finish_is (ds := [bv false]) (x := .v (.bool false)) (y := .v (.bool false)) (l := []) rfl rfl rfl rfl (by first | rfl | (simp only [wk, wks, wkL]; first | done | rfl))
                ·rw [if_neg h76] at h
                 have h76' : decide (x0 = (11 : Int)) = false := decide_eq_false h76
                 by_cases h81 : x0 = (12 : Int)
                 ·rw [if_pos h81] at h
                  have h81' : decide (x0 = (12 : Int)) = true := decide_eq_true h81
                  by_cases h82 : x1 = (0 : Int)
                  ·rw [if_pos h82] at h
                   have h82' : decide (x1 = (0 : Int)) = true := decide_eq_true h82
                   obtain ⟨r83, h84, h⟩ := bsm h
                   have h85 : ∀ H, callD (callW Tryd.prog A0) A0 H 110 [iv x2] = some (.p (.v (.int .i64 r83)), none) := fun H => R07_Group_call h84
                   obtain rfl := Option.some.inj h
                   simp (maxSteps := 10000000) (implicitDefEqProofs := false) (disch := first | assumption | omega | exact rfl | exact im_ _) only [bs, rs83, Nat.reduceAdd, ↓reduceIte, ↓h1', ↓h2', ↓h6', ↓h17', ↓h18', ↓h20', ↓h24', ↓h29', ↓h43', ↓h45', ↓h53', ↓h57', ↓h61', ↓h66', ↓h71', ↓h76', ↓h81', ↓h82', h85]
                   refine ⟨by first | exact .inl trivial | exact .inr trivial | simp, ?_⟩
                   exact finish_is (ds := [bv (decide (r83 = (3 : Int)))]) (x := .v (.bool (decide (r83 = (3 : Int))))) (y := .v (.bool (decide (r83 = (3 : Int))))) (l := []) rfl rfl rfl rfl (by first | rfl | (simp only [wk, wks, wkL]; first | done | rfl))
                  ·rw [if_neg h82] at h
                   have h82' : decide (x1 = (0 : Int)) = false := decide_eq_false h82
                   obtain rfl := Option.some.inj h
                   simp (maxSteps := 10000000) (implicitDefEqProofs := false) (disch := first | assumption | omega | exact rfl | exact im_ _) only [bs, rs83, Nat.reduceAdd, ↓reduceIte, ↓h1', ↓h2', ↓h6', ↓h17', ↓h18', ↓h20', ↓h24', ↓h29', ↓h43', ↓h45', ↓h53', ↓h57', ↓h61', ↓h66', ↓h71', ↓h76', ↓h81', ↓h82']
                   refine ⟨by first | exact .inl trivial | exact .inr trivial | simp, ?_⟩
                   exact finish_is (ds := [bv false]) (x := .v (.bool false)) (y := .v (.bool false)) (l := []) rfl rfl rfl rfl (by first | rfl | (simp only [wk, wks, wkL]; first | done | rfl))
                 ·rw [if_neg h81] at h
                  have h81' : decide (x0 = (12 : Int)) = false := decide_eq_false h81
                  by_cases h86 : x0 = (16 : Int)
                  ·rw [if_pos h86] at h
                   have h86' : decide (x0 = (16 : Int)) = true := decide_eq_true h86
                   by_cases h87 : x1 = (0 : Int)
                   ·rw [if_pos h87] at h
                    have h87' : decide (x1 = (0 : Int)) = true := decide_eq_true h87
                    obtain ⟨r88, h89, h⟩ := bsm h
                    have h90 : ∀ H, callD (callW Tryd.prog A0) A0 H 110 [iv x2] = some (.p (.v (.int .i64 r88)), none) := fun H => R07_Group_call h89
                    obtain rfl := Option.some.inj h
                    simp (maxSteps := 10000000) (implicitDefEqProofs := false) (disch := first | assumption | omega | exact rfl | exact im_ _) only [bs, rs83, Nat.reduceAdd, ↓reduceIte, ↓h1', ↓h2', ↓h6', ↓h17', ↓h18', ↓h20', ↓h24', ↓h29', ↓h43', ↓h45', ↓h53', ↓h57', ↓h61', ↓h66', ↓h71', ↓h76', ↓h81', ↓h86', ↓h87', h90]
                    refine ⟨by first | exact .inl trivial | exact .inr trivial | simp, ?_⟩
                    exact finish_is (ds := [bv (decide (r88 = (3 : Int)))]) (x := .v (.bool (decide (r88 = (3 : Int))))) (y := .v (.bool (decide (r88 = (3 : Int))))) (l := []) rfl rfl rfl rfl (by first | rfl | (simp only [wk, wks, wkL]; first | done | rfl))
                   ·rw [if_neg h87] at h
                    have h87' : decide (x1 = (0 : Int)) = false := decide_eq_false h87
                    obtain rfl := Option.some.inj h
                    simp (maxSteps := 10000000) (implicitDefEqProofs := false) (disch := first | assumption | omega | exact rfl | exact im_ _) only [bs, rs83, Nat.reduceAdd, ↓reduceIte, ↓h1', ↓h2', ↓h6', ↓h17', ↓h18', ↓h20', ↓h24', ↓h29', ↓h43', ↓h45', ↓h53', ↓h57', ↓h61', ↓h66', ↓h71', ↓h76', ↓h81', ↓h86', ↓h87']
                    refine ⟨by first | exact .inl trivial | exact .inr trivial | simp, ?_⟩
                    exact finish_is (ds := [bv false]) (x := .v (.bool false)) (y := .v (.bool false)) (l := []) rfl rfl rfl rfl (by first | rfl | (simp only [wk, wks, wkL]; first | done | rfl))
                  ·rw [if_neg h86] at h
                   have h86' : decide (x0 = (16 : Int)) = false := decide_eq_false h86
                   by_cases h91 : x0 = (25 : Int)
                   ·rw [if_pos h91] at h
                    have h91' : decide (x0 = (25 : Int)) = true := decide_eq_true h91
                    by_cases h92 : x1 = (0 : Int)
                    ·rw [if_pos h92] at h
                     have h92' : decide (x1 = (0 : Int)) = true := decide_eq_true h92
                     obtain ⟨r93, h94, h⟩ := bsm h
                     have h95 : ∀ H, callD (callW Tryd.prog A0) A0 H 110 [iv x2] = some (.p (.v (.int .i64 r93)), none) := fun H => R07_Group_call h94
                     obtain rfl := Option.some.inj h
                     simp (maxSteps := 10000000) (implicitDefEqProofs := false) (disch := first | assumption | omega | exact rfl | exact im_ _) only [bs, rs83, Nat.reduceAdd, ↓reduceIte, ↓h1', ↓h2', ↓h6', ↓h17', ↓h18', ↓h20', ↓h24', ↓h29', ↓h43', ↓h45', ↓h53', ↓h57', ↓h61', ↓h66', ↓h71', ↓h76', ↓h81', ↓h86', ↓h91', ↓h92', h95]
                     refine ⟨by first | exact .inl trivial | exact .inr trivial | simp, ?_⟩
                     exact finish_is (ds := [bv (decide (r93 = (3 : Int)))]) (x := .v (.bool (decide (r93 = (3 : Int))))) (y := .v (.bool (decide (r93 = (3 : Int))))) (l := []) rfl rfl rfl rfl (by first | rfl | (simp only [wk, wks, wkL]; first | done | rfl))
                    ·rw [if_neg h92] at h
                     have h92' : decide (x1 = (0 : Int)) = false := decide_eq_false h92
                     obtain rfl := Option.some.inj h
                     simp (maxSteps := 10000000) (implicitDefEqProofs := false) (disch := first | assumption | omega | exact rfl | exact im_ _) only [bs, rs83, Nat.reduceAdd, ↓reduceIte, ↓h1', ↓h2', ↓h6', ↓h17', ↓h18', ↓h20', ↓h24', ↓h29', ↓h43', ↓h45', ↓h53', ↓h57', ↓h61', ↓h66', ↓h71', ↓h76', ↓h81', ↓h86', ↓h91', ↓h92']
                     refine ⟨by first | exact .inl trivial | exact .inr trivial | simp, ?_⟩
                     exact finish_is (ds := [bv false]) (x := .v (.bool false)) (y := .v (.bool false)) (l := []) rfl rfl rfl rfl (by first | rfl | (simp only [wk, wks, wkL]; first | done | rfl))
                   ·rw [if_neg h91] at h
                    have h91' : decide (x0 = (25 : Int)) = false := decide_eq_false h91
                    by_cases h96 : x0 = (26 : Int)
                    ·rw [if_pos h96] at h
                     have h96' : decide (x0 = (26 : Int)) = true := decide_eq_true h96
                     by_cases h97 : x1 = (0 : Int)
                     ·rw [if_pos h97] at h
                      have h97' : decide (x1 = (0 : Int)) = true := decide_eq_true h97
                      obtain ⟨r98, h99, h⟩ := bsm h
                      have h100 : ∀ H, callD (callW Tryd.prog A0) A0 H 110 [iv x2] = some (.p (.v (.int .i64 r98)), none) := fun H => R07_Group_call h99
                      obtain rfl := Option.some.inj h
                      simp (maxSteps := 10000000) (implicitDefEqProofs := false) (disch := first | assumption | omega | exact rfl | exact im_ _) only [bs, rs83, Nat.reduceAdd, ↓reduceIte, ↓h1', ↓h2', ↓h6', ↓h17', ↓h18', ↓h20', ↓h24', ↓h29', ↓h43', ↓h45', ↓h53', ↓h57', ↓h61', ↓h66', ↓h71', ↓h76', ↓h81', ↓h86', ↓h91', ↓h96', ↓h97', h100]
                      refine ⟨by first | exact .inl trivial | exact .inr trivial | simp, ?_⟩
                      exact finish_is (ds := [bv (decide (r98 = (3 : Int)))]) (x := .v (.bool (decide (r98 = (3 : Int))))) (y := .v (.bool (decide (r98 = (3 : Int))))) (l := []) rfl rfl rfl rfl (by first | rfl | (simp only [wk, wks, wkL]; first | done | rfl))
                     ·rw [if_neg h97] at h
                      have h97' : decide (x1 = (0 : Int)) = false := decide_eq_false h97
                      obtain rfl := Option.some.inj h
                      simp (maxSteps := 10000000) (implicitDefEqProofs := false) (disch := first | assumption | omega | exact rfl | exact im_ _) only [bs, rs83, Nat.reduceAdd, ↓reduceIte, ↓h1', ↓h2', ↓h6', ↓h17', ↓h18', ↓h20', ↓h24', ↓h29', ↓h43', ↓h45', ↓h53', ↓h57', ↓h61', ↓h66', ↓h71', ↓h76', ↓h81', ↓h86', ↓h91', ↓h96', ↓h97']
                      refine ⟨by first | exact .inl trivial | exact .inr trivial | simp, ?_⟩
                      exact finish_is (ds := [bv false]) (x := .v (.bool false)) (y := .v (.bool false)) (l := []) rfl rfl rfl rfl (by first | rfl | (simp only [wk, wks, wkL]; first | done | rfl))
                    ·rw [if_neg h96] at h
                     have h96' : decide (x0 = (26 : Int)) = false := decide_eq_false h96
                     obtain rfl := Option.some.inj h
                     simp (maxSteps := 10000000) (implicitDefEqProofs := false) (disch := first | assumption | omega | exact rfl | exact im_ _) only [bs, rs83, Nat.reduceAdd, ↓reduceIte, ↓h1', ↓h2', ↓h6', ↓h17', ↓h18', ↓h20', ↓h24', ↓h29', ↓h43', ↓h45', ↓h53', ↓h57', ↓h61', ↓h66', ↓h71', ↓h76', ↓h81', ↓h86', ↓h91', ↓h96']
                     refine ⟨by first | exact .inl trivial | exact .inr trivial | simp, ?_⟩
                     exact finish_is (ds := [bv false]) (x := .v (.bool false)) (y := .v (.bool false)) (l := []) rfl rfl rfl rfl (by first | rfl | (simp only [wk, wks, wkL]; first | done | rfl))
theorem R07_Fits_call {H : List Ob} {x0 : Int} {x1 : Int} {x2 : Int} {r : Bool} (h : R07_Fits x0 x1 x2 = some r) : callD (callW Tryd.prog A0) A0 H 83 [iv x0, iv x1, iv x2] = some (.p (.v (.bool r)), none) :=
  callD_fun (args := [.v (.int .i64 x0), .v (.int .i64 x1), .v (.int .i64 x2)]) rfl rfl rfl (by simp only [List.map_cons, List.map_nil, wk, wks, wkL]; exact f83_ok x0 x1 x2 _ h)
def ls72 := And.intro @faP_29_0 (And.intro @faP_29_1 (And.intro @varld_4_0_0 (@varld_4_0_1)))
theorem f72_ok  (x0 : Node) (r : Bool) (h : R07_named x0 = some r) : callW Tryd.prog A0 72 [.p (.agg [.v (.int .i64 x0.Kind), .v (.string x0.Text), .lst false x0.Gaps.length (encL en_str x0.Gaps), .lst false x0.Kids.length (encL en_Node x0.Kids)])] [] = some (.p (.v (.bool r)), []) := by
 refine call_ofH (fn := Tryd.f72) (c := bodyOf Tryd.f72) rfl rfl (by kernel_rfl) (by kernel_rfl) ?_
 rw [show initS Tryd.f72 [.p (.agg [.v (.int .i64 x0.Kind), .v (.string x0.Text), .lst false x0.Gaps.length (encL en_str x0.Gaps), .lst false x0.Kids.length (encL en_Node x0.Kids)])] [] = ⟨.p (.agg [.v (.int .i64 x0.Kind), .v (.string x0.Text), .lst false x0.Gaps.length (encL en_str x0.Gaps), .lst false x0.Kids.length (encL en_Node x0.Kids)]) :: List.replicate 22 undefD, [], 0⟩ from by kernel_rfl]
 unfold R07_named at h
 unfold bodyOf Tryd.f72; simp only [Option.getD_some, loopsOf, List.append_nil, List.nil_append, List.cons_append, List.getD_cons_zero, List.getD_cons_succ]
 simp only [List.replicate]
 by_cases h1 : x0.Kind = (8 : Int)
 ·rw [if_pos h1] at h
  have h1' : decide (x0.Kind = (8 : Int)) = true := decide_eq_true h1
  obtain rfl := Option.some.inj h
  simp (maxSteps := 10000000) (implicitDefEqProofs := false) (disch := first | assumption | omega | exact rfl | exact im_ _) only [bs, rs72, ls72, Nat.reduceAdd, ↓reduceIte, binD_neq_str, loadD_ptr a3, loadD_ptr a9, ↓h1']
  refine ⟨by first | exact .inl trivial | exact .inr trivial | simp, ?_⟩
  exact finish_is (ds := [bv (!(decide (x0.Text = (ByteArray.mk #[]))))]) (x := .v (.bool (!(decide (x0.Text = (ByteArray.mk #[])))))) (y := .v (.bool (!(decide (x0.Text = (ByteArray.mk #[])))))) (l := []) rfl rfl rfl rfl (by first | rfl | (simp only [wk, wks, wkL]; first | done | rfl))
 ·rw [if_neg h1] at h
  have h1' : decide (x0.Kind = (8 : Int)) = false := decide_eq_false h1
  by_cases h2 : x0.Kind = (2 : Int)
  ·rw [if_pos h2] at h
   have h2' : decide (x0.Kind = (2 : Int)) = true := decide_eq_true h2
   obtain rfl := Option.some.inj h
   simp (maxSteps := 10000000) (implicitDefEqProofs := false) (disch := first | assumption | omega | exact rfl | exact im_ _) only [bs, rs72, ls72, Nat.reduceAdd, ↓reduceIte, binD_neq_str, loadD_ptr a3, loadD_ptr a9, ↓h1', ↓h2']
   refine ⟨by first | exact .inl trivial | exact .inr trivial | simp, ?_⟩
   exact finish_is (ds := [bv true]) (x := .v (.bool true)) (y := .v (.bool true)) (l := []) rfl rfl rfl rfl (by first | rfl | (simp only [wk, wks, wkL]; first | done | rfl))
  ·rw [if_neg h2] at h
   have h2' : decide (x0.Kind = (2 : Int)) = false := decide_eq_false h2
   by_cases h3 : x0.Kind = (4 : Int)
   ·rw [if_pos h3] at h
    have h3' : decide (x0.Kind = (4 : Int)) = true := decide_eq_true h3
    obtain rfl := Option.some.inj h
    simp (maxSteps := 10000000) (implicitDefEqProofs := false) (disch := first | assumption | omega | exact rfl | exact im_ _) only [bs, rs72, ls72, Nat.reduceAdd, ↓reduceIte, binD_neq_str, loadD_ptr a3, loadD_ptr a9, ↓h1', ↓h2', ↓h3']
    refine ⟨by first | exact .inl trivial | exact .inr trivial | simp, ?_⟩
    exact finish_is (ds := [bv true]) (x := .v (.bool true)) (y := .v (.bool true)) (l := []) rfl rfl rfl rfl (by first | rfl | (simp only [wk, wks, wkL]; first | done | rfl))
   ·rw [if_neg h3] at h
    have h3' : decide (x0.Kind = (4 : Int)) = false := decide_eq_false h3
    by_cases h4 : x0.Kind = (5 : Int)
    ·rw [if_pos h4] at h
     have h4' : decide (x0.Kind = (5 : Int)) = true := decide_eq_true h4
     obtain rfl := Option.some.inj h
     simp (maxSteps := 10000000) (implicitDefEqProofs := false) (disch := first | assumption | omega | exact rfl | exact im_ _) only [bs, rs72, ls72, Nat.reduceAdd, ↓reduceIte, binD_neq_str, loadD_ptr a3, loadD_ptr a9, ↓h1', ↓h2', ↓h3', ↓h4']
     refine ⟨by first | exact .inl trivial | exact .inr trivial | simp, ?_⟩
     exact finish_is (ds := [bv true]) (x := .v (.bool true)) (y := .v (.bool true)) (l := []) rfl rfl rfl rfl (by first | rfl | (simp only [wk, wks, wkL]; first | done | rfl))
    ·rw [if_neg h4] at h
     have h4' : decide (x0.Kind = (5 : Int)) = false := decide_eq_false h4
     by_cases h5 : x0.Kind = (7 : Int)
     ·rw [if_pos h5] at h
      have h5' : decide (x0.Kind = (7 : Int)) = true := decide_eq_true h5
      obtain rfl := Option.some.inj h
      simp (maxSteps := 10000000) (implicitDefEqProofs := false) (disch := first | assumption | omega | exact rfl | exact im_ _) only [bs, rs72, ls72, Nat.reduceAdd, ↓reduceIte, binD_neq_str, loadD_ptr a3, loadD_ptr a9, ↓h1', ↓h2', ↓h3', ↓h4', ↓h5']
      refine ⟨by first | exact .inl trivial | exact .inr trivial | simp, ?_⟩
      exact finish_is (ds := [bv true]) (x := .v (.bool true)) (y := .v (.bool true)) (l := []) rfl rfl rfl rfl (by first | rfl | (simp only [wk, wks, wkL]; first | done | rfl))
     ·rw [if_neg h5] at h
      have h5' : decide (x0.Kind = (7 : Int)) = false := decide_eq_false h5
      by_cases h6 : x0.Kind = (9 : Int)
      ·rw [if_pos h6] at h
       have h6' : decide (x0.Kind = (9 : Int)) = true := decide_eq_true h6
       obtain rfl := Option.some.inj h
       simp (maxSteps := 10000000) (implicitDefEqProofs := false) (disch := first | assumption | omega | exact rfl | exact im_ _) only [bs, rs72, ls72, Nat.reduceAdd, ↓reduceIte, binD_neq_str, loadD_ptr a3, loadD_ptr a9, ↓h1', ↓h2', ↓h3', ↓h4', ↓h5', ↓h6']
       refine ⟨by first | exact .inl trivial | exact .inr trivial | simp, ?_⟩
       exact finish_is (ds := [bv true]) (x := .v (.bool true)) (y := .v (.bool true)) (l := []) rfl rfl rfl rfl (by first | rfl | (simp only [wk, wks, wkL]; first | done | rfl))
      ·rw [if_neg h6] at h
       have h6' : decide (x0.Kind = (9 : Int)) = false := decide_eq_false h6
       by_cases h7 : x0.Kind = (10 : Int)
       ·rw [if_pos h7] at h
        have h7' : decide (x0.Kind = (10 : Int)) = true := decide_eq_true h7
        obtain rfl := Option.some.inj h
        simp (maxSteps := 10000000) (implicitDefEqProofs := false) (disch := first | assumption | omega | exact rfl | exact im_ _) only [bs, rs72, ls72, Nat.reduceAdd, ↓reduceIte, binD_neq_str, loadD_ptr a3, loadD_ptr a9, ↓h1', ↓h2', ↓h3', ↓h4', ↓h5', ↓h6', ↓h7']
        refine ⟨by first | exact .inl trivial | exact .inr trivial | simp, ?_⟩
        exact finish_is (ds := [bv true]) (x := .v (.bool true)) (y := .v (.bool true)) (l := []) rfl rfl rfl rfl (by first | rfl | (simp only [wk, wks, wkL]; first | done | rfl))
       ·rw [if_neg h7] at h
        have h7' : decide (x0.Kind = (10 : Int)) = false := decide_eq_false h7
        by_cases h8 : x0.Kind = (11 : Int)
        ·rw [if_pos h8] at h
         have h8' : decide (x0.Kind = (11 : Int)) = true := decide_eq_true h8
         obtain rfl := Option.some.inj h
         simp (maxSteps := 10000000) (implicitDefEqProofs := false) (disch := first | assumption | omega | exact rfl | exact im_ _) only [bs, rs72, ls72, Nat.reduceAdd, ↓reduceIte, binD_neq_str, loadD_ptr a3, loadD_ptr a9, ↓h1', ↓h2', ↓h3', ↓h4', ↓h5', ↓h6', ↓h7', ↓h8']
         refine ⟨by first | exact .inl trivial | exact .inr trivial | simp, ?_⟩
         exact finish_is (ds := [bv true]) (x := .v (.bool true)) (y := .v (.bool true)) (l := []) rfl rfl rfl rfl (by first | rfl | (simp only [wk, wks, wkL]; first | done | rfl))
        ·rw [if_neg h8] at h
         have h8' : decide (x0.Kind = (11 : Int)) = false := decide_eq_false h8
         by_cases h9 : x0.Kind = (17 : Int)
         ·rw [if_pos h9] at h
          have h9' : decide (x0.Kind = (17 : Int)) = true := decide_eq_true h9
          obtain rfl := Option.some.inj h
          simp (maxSteps := 10000000) (implicitDefEqProofs := false) (disch := first | assumption | omega | exact rfl | exact im_ _) only [bs, rs72, ls72, Nat.reduceAdd, ↓reduceIte, binD_neq_str, loadD_ptr a3, loadD_ptr a9, ↓h1', ↓h2', ↓h3', ↓h4', ↓h5', ↓h6', ↓h7', ↓h8', ↓h9']
          refine ⟨by first | exact .inl trivial | exact .inr trivial | simp, ?_⟩
          exact finish_is (ds := [bv true]) (x := .v (.bool true)) (y := .v (.bool true)) (l := []) rfl rfl rfl rfl (by first | rfl | (simp only [wk, wks, wkL]; first | done | rfl))
         ·rw [if_neg h9] at h
          have h9' : decide (x0.Kind = (17 : Int)) = false := decide_eq_false h9
          by_cases h10 : x0.Kind = (19 : Int)
          ·rw [if_pos h10] at h
           have h10' : decide (x0.Kind = (19 : Int)) = true := decide_eq_true h10
           obtain rfl := Option.some.inj h
           simp (maxSteps := 10000000) (implicitDefEqProofs := false) (disch := first | assumption | omega | exact rfl | exact im_ _) only [bs, rs72, ls72, Nat.reduceAdd, ↓reduceIte, binD_neq_str, loadD_ptr a3, loadD_ptr a9, ↓h1', ↓h2', ↓h3', ↓h4', ↓h5', ↓h6', ↓h7', ↓h8', ↓h9', ↓h10']
           refine ⟨by first | exact .inl trivial | exact .inr trivial | simp, ?_⟩
           exact finish_is (ds := [bv true]) (x := .v (.bool true)) (y := .v (.bool true)) (l := []) rfl rfl rfl rfl (by first | rfl | (simp only [wk, wks, wkL]; first | done | rfl))
          ·rw [if_neg h10] at h
           have h10' : decide (x0.Kind = (19 : Int)) = false := decide_eq_false h10
           by_cases h11 : x0.Kind = (20 : Int)
           ·rw [if_pos h11] at h
            have h11' : decide (x0.Kind = (20 : Int)) = true := decide_eq_true h11
            obtain rfl := Option.some.inj h
            simp (maxSteps := 10000000) (implicitDefEqProofs := false) (disch := first | assumption | omega | exact rfl | exact im_ _) only [bs, rs72, ls72, Nat.reduceAdd, ↓reduceIte, binD_neq_str, loadD_ptr a3, loadD_ptr a9, ↓h1', ↓h2', ↓h3', ↓h4', ↓h5', ↓h6', ↓h7', ↓h8', ↓h9', ↓h10', ↓h11']
            refine ⟨by first | exact .inl trivial | exact .inr trivial | simp, ?_⟩
            exact finish_is (ds := [bv true]) (x := .v (.bool true)) (y := .v (.bool true)) (l := []) rfl rfl rfl rfl (by first | rfl | (simp only [wk, wks, wkL]; first | done | rfl))
           ·rw [if_neg h11] at h
            have h11' : decide (x0.Kind = (20 : Int)) = false := decide_eq_false h11
            by_cases h12 : x0.Kind = (21 : Int)
            ·rw [if_pos h12] at h
             have h12' : decide (x0.Kind = (21 : Int)) = true := decide_eq_true h12
             obtain rfl := Option.some.inj h
             simp (maxSteps := 10000000) (implicitDefEqProofs := false) (disch := first | assumption | omega | exact rfl | exact im_ _) only [bs, rs72, ls72, Nat.reduceAdd, ↓reduceIte, binD_neq_str, loadD_ptr a3, loadD_ptr a9, ↓h1', ↓h2', ↓h3', ↓h4', ↓h5', ↓h6', ↓h7', ↓h8', ↓h9', ↓h10', ↓h11', ↓h12']
             refine ⟨by first | exact .inl trivial | exact .inr trivial | simp, ?_⟩
             exact finish_is (ds := [bv true]) (x := .v (.bool true)) (y := .v (.bool true)) (l := []) rfl rfl rfl rfl (by first | rfl | (simp only [wk, wks, wkL]; first | done | rfl))
            ·rw [if_neg h12] at h
             have h12' : decide (x0.Kind = (21 : Int)) = false := decide_eq_false h12
             by_cases h13 : x0.Kind = (22 : Int)
             ·rw [if_pos h13] at h
              have h13' : decide (x0.Kind = (22 : Int)) = true := decide_eq_true h13
              obtain rfl := Option.some.inj h
              simp (maxSteps := 10000000) (implicitDefEqProofs := false) (disch := first | assumption | omega | exact rfl | exact im_ _) only [bs, rs72, ls72, Nat.reduceAdd, ↓reduceIte, binD_neq_str, loadD_ptr a3, loadD_ptr a9, ↓h1', ↓h2', ↓h3', ↓h4', ↓h5', ↓h6', ↓h7', ↓h8', ↓h9', ↓h10', ↓h11', ↓h12', ↓h13']
              refine ⟨by first | exact .inl trivial | exact .inr trivial | simp, ?_⟩
              exact finish_is (ds := [bv true]) (x := .v (.bool true)) (y := .v (.bool true)) (l := []) rfl rfl rfl rfl (by first | rfl | (simp only [wk, wks, wkL]; first | done | rfl))
             ·rw [if_neg h13] at h
              have h13' : decide (x0.Kind = (22 : Int)) = false := decide_eq_false h13
              obtain rfl := Option.some.inj h
              simp (maxSteps := 10000000) (implicitDefEqProofs := false) (disch := first | assumption | omega | exact rfl | exact im_ _) only [bs, rs72, ls72, Nat.reduceAdd, ↓reduceIte, binD_neq_str, loadD_ptr a3, loadD_ptr a9, ↓h1', ↓h2', ↓h3', ↓h4', ↓h5', ↓h6', ↓h7', ↓h8', ↓h9', ↓h10', ↓h11', ↓h12', ↓h13']
              refine ⟨by first | exact .inl trivial | exact .inr trivial | simp, ?_⟩
              exact finish_is (ds := [bv false]) (x := .v (.bool false)) (y := .v (.bool false)) (l := []) rfl rfl rfl rfl (by first | rfl | (simp only [wk, wks, wkL]; first | done | rfl))
theorem R07_named_call {b1 b2 : Bool} {H : List Ob} {x0 : Node} {r : Bool} (h : R07_named x0 = some r) : callD (callW Tryd.prog A0) A0 H 72 [.p (.agg [.v (.int .i64 x0.Kind), .v (.string x0.Text), .lst b1 x0.Gaps.length (encL en_str x0.Gaps), .lst b2 x0.Kids.length (encL en_Node x0.Kids)])] = some (.p (.v (.bool r)), none) :=
  callD_fun (args := [.agg [.v (.int .i64 x0.Kind), .v (.string x0.Text), .lst b1 x0.Gaps.length (encL en_str x0.Gaps), .lst b2 x0.Kids.length (encL en_Node x0.Kids)]]) rfl rfl rfl (by simp only [List.map_cons, List.map_nil, wk, wks, wkL]; exact f72_ok x0 _ h)
def ls111 := And.intro @faP_29_0 (And.intro @faP_29_1 (And.intro @varld_4_0_0 (@varld_4_0_1)))
theorem f111_ok  (x0 : Node) (r : Int) (h : R07_Level x0 = some r) : callW Tryd.prog A0 111 [.p (.agg [.v (.int .i64 x0.Kind), .v (.string x0.Text), .lst false x0.Gaps.length (encL en_str x0.Gaps), .lst false x0.Kids.length (encL en_Node x0.Kids)])] [] = some (.p (.v (.int .i64 r)), []) := by
 refine call_ofH (fn := Tryd.f111) (c := bodyOf Tryd.f111) rfl rfl (by kernel_rfl) (by kernel_rfl) ?_
 rw [show initS Tryd.f111 [.p (.agg [.v (.int .i64 x0.Kind), .v (.string x0.Text), .lst false x0.Gaps.length (encL en_str x0.Gaps), .lst false x0.Kids.length (encL en_Node x0.Kids)])] [] = ⟨.p (.agg [.v (.int .i64 x0.Kind), .v (.string x0.Text), .lst false x0.Gaps.length (encL en_str x0.Gaps), .lst false x0.Kids.length (encL en_Node x0.Kids)]) :: List.replicate 27 undefD, [], 0⟩ from by kernel_rfl]
 unfold R07_Level at h
 unfold bodyOf Tryd.f111; simp only [Option.getD_some, loopsOf, List.append_nil, List.nil_append, List.cons_append, List.getD_cons_zero, List.getD_cons_succ]
 simp only [List.replicate]
 by_cases h1 : x0.Kind = (24 : Int)
 ·rw [if_pos h1] at h
  have h1' : decide (x0.Kind = (24 : Int)) = true := decide_eq_true h1
  by_cases h2 : x0.Text = (ByteArray.mk #[124])
  ·rw [if_pos h2] at h
   have h2' : decide (x0.Text = (ByteArray.mk #[124])) = true := decide_eq_true h2
   obtain rfl := Option.some.inj h
   simp (maxSteps := 10000000) (implicitDefEqProofs := false) (disch := first | assumption | omega | exact rfl | exact im_ _) only [bs, rs111, ls111, Nat.reduceAdd, ↓reduceIte, binD_eql_str, loadD_ptr a3, loadD_ptr a9, ↓h1', ↓h2']
   refine ⟨by first | exact .inl trivial | exact .inr trivial | simp, ?_⟩
   exact finish_is (ds := [iv (1 : Int)]) (x := .v (.int .i64 (1 : Int))) (y := .v (.int .i64 (1 : Int))) (l := []) rfl rfl rfl rfl (by first | rfl | (simp only [wk, wks, wkL]; first | done | rfl))
  ·rw [if_neg h2] at h
   have h2' : decide (x0.Text = (ByteArray.mk #[124])) = false := decide_eq_false h2
   by_cases h3 : x0.Text = (ByteArray.mk #[38])
   ·rw [if_pos h3] at h
    have h3' : decide (x0.Text = (ByteArray.mk #[38])) = true := decide_eq_true h3
    obtain rfl := Option.some.inj h
    simp (maxSteps := 10000000) (implicitDefEqProofs := false) (disch := first | assumption | omega | exact rfl | exact im_ _) only [bs, rs111, ls111, Nat.reduceAdd, ↓reduceIte, binD_eql_str, loadD_ptr a3, loadD_ptr a9, ↓h1', ↓h2', ↓h3']
    refine ⟨by first | exact .inl trivial | exact .inr trivial | simp, ?_⟩
    exact finish_is (ds := [iv (2 : Int)]) (x := .v (.int .i64 (2 : Int))) (y := .v (.int .i64 (2 : Int))) (l := []) rfl rfl rfl rfl (by first | rfl | (simp only [wk, wks, wkL]; first | done | rfl))
   ·rw [if_neg h3] at h
    have h3' : decide (x0.Text = (ByteArray.mk #[38])) = false := decide_eq_false h3
    by_cases h4 : x0.Text = (ByteArray.mk #[61, 61])
    ·rw [if_pos h4] at h
     have h4' : decide (x0.Text = (ByteArray.mk #[61, 61])) = true := decide_eq_true h4
     obtain rfl := Option.some.inj h
     simp (maxSteps := 10000000) (implicitDefEqProofs := false) (disch := first | assumption | omega | exact rfl | exact im_ _) only [bs, rs111, ls111, Nat.reduceAdd, ↓reduceIte, binD_eql_str, loadD_ptr a3, loadD_ptr a9, ↓h1', ↓h2', ↓h3', ↓h4']
     refine ⟨by first | exact .inl trivial | exact .inr trivial | simp, ?_⟩
     exact finish_is (ds := [iv (3 : Int)]) (x := .v (.int .i64 (3 : Int))) (y := .v (.int .i64 (3 : Int))) (l := []) rfl rfl rfl rfl (by first | rfl | (simp only [wk, wks, wkL]; first | done | rfl))
    ·rw [if_neg h4] at h
     have h4' : decide (x0.Text = (ByteArray.mk #[61, 61])) = false := decide_eq_false h4
     by_cases h5 : x0.Text = (ByteArray.mk #[60])
     ·rw [if_pos h5] at h
      have h5' : decide (x0.Text = (ByteArray.mk #[60])) = true := decide_eq_true h5
      obtain rfl := Option.some.inj h
      simp (maxSteps := 10000000) (implicitDefEqProofs := false) (disch := first | assumption | omega | exact rfl | exact im_ _) only [bs, rs111, ls111, Nat.reduceAdd, ↓reduceIte, binD_eql_str, loadD_ptr a3, loadD_ptr a9, ↓h1', ↓h2', ↓h3', ↓h4', ↓h5']
      refine ⟨by first | exact .inl trivial | exact .inr trivial | simp, ?_⟩
      exact finish_is (ds := [iv (3 : Int)]) (x := .v (.int .i64 (3 : Int))) (y := .v (.int .i64 (3 : Int))) (l := []) rfl rfl rfl rfl (by first | rfl | (simp only [wk, wks, wkL]; first | done | rfl))
     ·rw [if_neg h5] at h
      have h5' : decide (x0.Text = (ByteArray.mk #[60])) = false := decide_eq_false h5
      by_cases h6 : x0.Text = (ByteArray.mk #[43])
      ·rw [if_pos h6] at h
       have h6' : decide (x0.Text = (ByteArray.mk #[43])) = true := decide_eq_true h6
       obtain rfl := Option.some.inj h
       simp (maxSteps := 10000000) (implicitDefEqProofs := false) (disch := first | assumption | omega | exact rfl | exact im_ _) only [bs, rs111, ls111, Nat.reduceAdd, ↓reduceIte, binD_eql_str, loadD_ptr a3, loadD_ptr a9, ↓h1', ↓h2', ↓h3', ↓h4', ↓h5', ↓h6']
       refine ⟨by first | exact .inl trivial | exact .inr trivial | simp, ?_⟩
       exact finish_is (ds := [iv (4 : Int)]) (x := .v (.int .i64 (4 : Int))) (y := .v (.int .i64 (4 : Int))) (l := []) rfl rfl rfl rfl (by first | rfl | (simp only [wk, wks, wkL]; first | done | rfl))
      ·rw [if_neg h6] at h
       have h6' : decide (x0.Text = (ByteArray.mk #[43])) = false := decide_eq_false h6
       by_cases h7 : x0.Text = (ByteArray.mk #[45])
       ·rw [if_pos h7] at h
        have h7' : decide (x0.Text = (ByteArray.mk #[45])) = true := decide_eq_true h7
        obtain rfl := Option.some.inj h
        simp (maxSteps := 10000000) (implicitDefEqProofs := false) (disch := first | assumption | omega | exact rfl | exact im_ _) only [bs, rs111, ls111, Nat.reduceAdd, ↓reduceIte, binD_eql_str, loadD_ptr a3, loadD_ptr a9, ↓h1', ↓h2', ↓h3', ↓h4', ↓h5', ↓h6', ↓h7']
        refine ⟨by first | exact .inl trivial | exact .inr trivial | simp, ?_⟩
        exact finish_is (ds := [iv (4 : Int)]) (x := .v (.int .i64 (4 : Int))) (y := .v (.int .i64 (4 : Int))) (l := []) rfl rfl rfl rfl (by first | rfl | (simp only [wk, wks, wkL]; first | done | rfl))
       ·rw [if_neg h7] at h
        have h7' : decide (x0.Text = (ByteArray.mk #[45])) = false := decide_eq_false h7
        by_cases h8 : x0.Text = (ByteArray.mk #[42])
        ·rw [if_pos h8] at h
         have h8' : decide (x0.Text = (ByteArray.mk #[42])) = true := decide_eq_true h8
         obtain rfl := Option.some.inj h
         simp (maxSteps := 10000000) (implicitDefEqProofs := false) (disch := first | assumption | omega | exact rfl | exact im_ _) only [bs, rs111, ls111, Nat.reduceAdd, ↓reduceIte, binD_eql_str, loadD_ptr a3, loadD_ptr a9, ↓h1', ↓h2', ↓h3', ↓h4', ↓h5', ↓h6', ↓h7', ↓h8']
         refine ⟨by first | exact .inl trivial | exact .inr trivial | simp, ?_⟩
         exact finish_is (ds := [iv (5 : Int)]) (x := .v (.int .i64 (5 : Int))) (y := .v (.int .i64 (5 : Int))) (l := []) rfl rfl rfl rfl (by first | rfl | (simp only [wk, wks, wkL]; first | done | rfl))
        ·rw [if_neg h8] at h
         have h8' : decide (x0.Text = (ByteArray.mk #[42])) = false := decide_eq_false h8
         by_cases h9 : x0.Text = (ByteArray.mk #[47])
         ·rw [if_pos h9] at h
          have h9' : decide (x0.Text = (ByteArray.mk #[47])) = true := decide_eq_true h9
          obtain rfl := Option.some.inj h
          simp (maxSteps := 10000000) (implicitDefEqProofs := false) (disch := first | assumption | omega | exact rfl | exact im_ _) only [bs, rs111, ls111, Nat.reduceAdd, ↓reduceIte, binD_eql_str, loadD_ptr a3, loadD_ptr a9, ↓h1', ↓h2', ↓h3', ↓h4', ↓h5', ↓h6', ↓h7', ↓h8', ↓h9']
          refine ⟨by first | exact .inl trivial | exact .inr trivial | simp, ?_⟩
          exact finish_is (ds := [iv (5 : Int)]) (x := .v (.int .i64 (5 : Int))) (y := .v (.int .i64 (5 : Int))) (l := []) rfl rfl rfl rfl (by first | rfl | (simp only [wk, wks, wkL]; first | done | rfl))
         ·rw [if_neg h9] at h
          have h9' : decide (x0.Text = (ByteArray.mk #[47])) = false := decide_eq_false h9
          obtain rfl := Option.some.inj h
          simp (maxSteps := 10000000) (implicitDefEqProofs := false) (disch := first | assumption | omega | exact rfl | exact im_ _) only [bs, rs111, ls111, Nat.reduceAdd, ↓reduceIte, binD_eql_str, loadD_ptr a3, loadD_ptr a9, ↓h1', ↓h2', ↓h3', ↓h4', ↓h5', ↓h6', ↓h7', ↓h8', ↓h9']
          refine ⟨by first | exact .inl trivial | exact .inr trivial | simp, ?_⟩
          exact finish_is (ds := [iv (0 : Int)]) (x := .v (.int .i64 (0 : Int))) (y := .v (.int .i64 (0 : Int))) (l := []) rfl rfl rfl rfl (by first | rfl | (simp only [wk, wks, wkL]; first | done | rfl))
 ·rw [if_neg h1] at h
  have h1' : decide (x0.Kind = (24 : Int)) = false := decide_eq_false h1
  by_cases h10 : x0.Kind = (25 : Int)
  ·rw [if_pos h10] at h
   have h10' : decide (x0.Kind = (25 : Int)) = true := decide_eq_true h10
   obtain rfl := Option.some.inj h
   simp (maxSteps := 10000000) (implicitDefEqProofs := false) (disch := first | assumption | omega | exact rfl | exact im_ _) only [bs, rs111, ls111, Nat.reduceAdd, ↓reduceIte, binD_eql_str, loadD_ptr a3, loadD_ptr a9, ↓h1', ↓h10']
   refine ⟨by first | exact .inl trivial | exact .inr trivial | simp, ?_⟩
   exact finish_is (ds := [iv (6 : Int)]) (x := .v (.int .i64 (6 : Int))) (y := .v (.int .i64 (6 : Int))) (l := []) rfl rfl rfl rfl (by first | rfl | (simp only [wk, wks, wkL]; first | done | rfl))
  ·rw [if_neg h10] at h
   have h10' : decide (x0.Kind = (25 : Int)) = false := decide_eq_false h10
   obtain ⟨r11, h12, h⟩ := bsm h
   have h13 : ∀ H, callD (callW Tryd.prog A0) A0 H 110 [iv x0.Kind] = some (.p (.v (.int .i64 r11)), none) := fun H => R07_Group_call h12
   by_cases h14 : r11 = (3 : Int)
   ·rw [if_pos h14] at h
    have h14' : decide (r11 = (3 : Int)) = true := decide_eq_true h14
    obtain rfl := Option.some.inj h
    simp (maxSteps := 10000000) (implicitDefEqProofs := false) (disch := first | assumption | omega | exact rfl | exact im_ _) only [bs, rs111, ls111, Nat.reduceAdd, ↓reduceIte, binD_eql_str, loadD_ptr a3, loadD_ptr a9, ↓h1', ↓h10', h13, ↓h14']
    refine ⟨by first | exact .inl trivial | exact .inr trivial | simp, ?_⟩
    exact finish_is (ds := [iv (7 : Int)]) (x := .v (.int .i64 (7 : Int))) (y := .v (.int .i64 (7 : Int))) (l := []) rfl rfl rfl rfl (by first | rfl | (simp only [wk, wks, wkL]; first | done | rfl))
   ·rw [if_neg h14] at h
    have h14' : decide (r11 = (3 : Int)) = false := decide_eq_false h14
    obtain rfl := Option.some.inj h
    simp (maxSteps := 10000000) (implicitDefEqProofs := false) (disch := first | assumption | omega | exact rfl | exact im_ _) only [bs, rs111, ls111, Nat.reduceAdd, ↓reduceIte, binD_eql_str, loadD_ptr a3, loadD_ptr a9, ↓h1', ↓h10', h13, ↓h14']
    refine ⟨by first | exact .inl trivial | exact .inr trivial | simp, ?_⟩
    exact finish_is (ds := [iv (0 : Int)]) (x := .v (.int .i64 (0 : Int))) (y := .v (.int .i64 (0 : Int))) (l := []) rfl rfl rfl rfl (by first | rfl | (simp only [wk, wks, wkL]; first | done | rfl))
theorem R07_Level_call {b1 b2 : Bool} {H : List Ob} {x0 : Node} {r : Int} (h : R07_Level x0 = some r) : callD (callW Tryd.prog A0) A0 H 111 [.p (.agg [.v (.int .i64 x0.Kind), .v (.string x0.Text), .lst b1 x0.Gaps.length (encL en_str x0.Gaps), .lst b2 x0.Kids.length (encL en_Node x0.Kids)])] = some (.p (.v (.int .i64 r)), none) :=
  callD_fun (args := [.agg [.v (.int .i64 x0.Kind), .v (.string x0.Text), .lst b1 x0.Gaps.length (encL en_str x0.Gaps), .lst b2 x0.Kids.length (encL en_Node x0.Kids)]]) rfl rfl rfl (by simp only [List.map_cons, List.map_nil, wk, wks, wkL]; exact f111_ok x0 _ h)
def ls85 := And.intro @faP_29_0 (And.intro @faP_29_3 (And.intro @idxL_27 (And.intro @varld_4_0_0 (And.intro @varld_4_0_3 (@varlv_4_0_4)))))
theorem f85_ok  (x0 : Node) (r : Bool) (h : R07_levels x0 = some r) : callW Tryd.prog A0 85 [.p (.agg [.v (.int .i64 x0.Kind), .v (.string x0.Text), .lst false x0.Gaps.length (encL en_str x0.Gaps), .lst false x0.Kids.length (encL en_Node x0.Kids)])] [] = some (.p (.v (.bool r)), []) := by
 refine call_ofH (fn := Tryd.f85) (c := bodyOf Tryd.f85) rfl rfl (by kernel_rfl) (by kernel_rfl) ?_
 rw [show initS Tryd.f85 [.p (.agg [.v (.int .i64 x0.Kind), .v (.string x0.Text), .lst false x0.Gaps.length (encL en_str x0.Gaps), .lst false x0.Kids.length (encL en_Node x0.Kids)])] [] = ⟨.p (.agg [.v (.int .i64 x0.Kind), .v (.string x0.Text), .lst false x0.Gaps.length (encL en_str x0.Gaps), .lst false x0.Kids.length (encL en_Node x0.Kids)]) :: List.replicate 51 undefD, [], 0⟩ from by kernel_rfl]
 unfold R07_levels at h
 unfold bodyOf Tryd.f85; simp only [Option.getD_some, loopsOf, List.append_nil, List.nil_append, List.cons_append, List.getD_cons_zero, List.getD_cons_succ]
 simp only [List.replicate]
 by_cases h1 : x0.Kind = (24 : Int)
 ·rw [if_pos h1] at h
  have h1' : decide (x0.Kind = (24 : Int)) = true := decide_eq_true h1
  obtain ⟨r2, h3, h⟩ := bsm h
  have h4 : ∀ H, callD (callW Tryd.prog A0) A0 H 111 [.p (.agg [.v (.int .i64 x0.Kind), .v (.string x0.Text), .lst false x0.Gaps.length (encL en_str x0.Gaps), .lst false x0.Kids.length (encL en_Node x0.Kids)])] = some (.p (.v (.int .i64 r2)), none) := fun H => R07_Level_call h3
  by_cases h5 : r2 = (3 : Int)
  ·rw [if_pos h5] at h
   have h5' : decide (r2 = (3 : Int)) = true := decide_eq_true h5
   obtain ⟨v6, h7, h⟩ := bsm h
   obtain ⟨h7a, h7b, _⟩ := rd_some h7
   have h8 := lk_frz_29 h7
   obtain ⟨r9, h10, h⟩ := bsm h
   have h11 : ∀ H, callD (callW Tryd.prog A0) A0 H 111 [.p (.agg [.v (.int .i64 v6.Kind), .v (.string v6.Text), .lst false v6.Gaps.length (encL en_str v6.Gaps), .lst false v6.Kids.length (encL en_Node v6.Kids)])] = some (.p (.v (.int .i64 r9)), none) := fun H => R07_Level_call h10
   by_cases h12 : r9 = (3 : Int)
   ·rw [if_pos h12] at h
    have h12' : decide (r9 = (3 : Int)) = true := decide_eq_true h12
    obtain rfl := Option.some.inj h
    simp (maxSteps := 10000000) (implicitDefEqProofs := false) (disch := first | assumption | omega | exact rfl | exact im_ _) only [bs, rs85, ls85, Nat.reduceAdd, ↓reduceIte, loadD_iagg a29 z29, loadD_pagg a29 z29, loadD_ptr a27, loadD_ptr a3, ↓h1', h4, ↓h5', h8, h11, ↓h12']
    refine ⟨by first | exact .inl trivial | exact .inr trivial | simp, ?_⟩
    exact finish_is (ds := [bv false]) (x := .v (.bool false)) (y := .v (.bool false)) (l := []) rfl rfl rfl rfl (by first | rfl | (simp only [wk, wks, wkL]; first | done | rfl))
   ·rw [if_neg h12] at h
    have h12' : decide (r9 = (3 : Int)) = false := decide_eq_false h12
    have h13 := lk_frz_29 h7
    by_cases h17 : r2 ≤ r9
    ·rw [if_pos h17] at h
     have h17' : decide (r2 ≤ r9) = true := decide_eq_true h17
     obtain ⟨v18, h19, h⟩ := bsm h
     obtain ⟨h19a, h19b, _⟩ := rd_some h19
     have h20 := lk_frz_29 h19
     obtain ⟨r21, h22, h⟩ := bsm h
     have h23 : ∀ H, callD (callW Tryd.prog A0) A0 H 111 [.p (.agg [.v (.int .i64 v18.Kind), .v (.string v18.Text), .lst false v18.Gaps.length (encL en_str v18.Gaps), .lst false v18.Kids.length (encL en_Node v18.Kids)])] = some (.p (.v (.int .i64 r21)), none) := fun H => R07_Level_call h22
     obtain rfl := Option.some.inj h
     simp (maxSteps := 10000000) (implicitDefEqProofs := false) (disch := first | assumption | omega | exact rfl | exact im_ _) only [bs, rs85, ls85, Nat.reduceAdd, ↓reduceIte, loadD_iagg a29 z29, loadD_pagg a29 z29, loadD_ptr a27, loadD_ptr a3, ↓h1', h4, ↓h5', h8, h11, ↓h12', h13, ↓h17', h20, h23]
     refine ⟨by first | exact .inl trivial | exact .inr trivial | simp, ?_⟩
     exact finish_is (ds := [bv (decide (r2 < r21))]) (x := .v (.bool (decide (r2 < r21)))) (y := .v (.bool (decide (r2 < r21)))) (l := []) rfl rfl rfl rfl (by first | rfl | (simp only [wk, wks, wkL]; first | done | rfl))
    ·rw [if_neg h17] at h
     have h17' : decide (r2 ≤ r9) = false := decide_eq_false h17
     obtain rfl := Option.some.inj h
     simp (maxSteps := 10000000) (implicitDefEqProofs := false) (disch := first | assumption | omega | exact rfl | exact im_ _) only [bs, rs85, ls85, Nat.reduceAdd, ↓reduceIte, loadD_iagg a29 z29, loadD_pagg a29 z29, loadD_ptr a27, loadD_ptr a3, ↓h1', h4, ↓h5', h8, h11, ↓h12', h13, ↓h17']
     refine ⟨by first | exact .inl trivial | exact .inr trivial | simp, ?_⟩
     exact finish_is (ds := [bv false]) (x := .v (.bool false)) (y := .v (.bool false)) (l := []) rfl rfl rfl rfl (by first | rfl | (simp only [wk, wks, wkL]; first | done | rfl))
  ·rw [if_neg h5] at h
   have h5' : decide (r2 = (3 : Int)) = false := decide_eq_false h5
   obtain ⟨v24, h25, h⟩ := bsm h
   obtain ⟨h25a, h25b, _⟩ := rd_some h25
   have h26 := lk_frz_29 h25
   obtain ⟨r27, h28, h⟩ := bsm h
   have h29 : ∀ H, callD (callW Tryd.prog A0) A0 H 111 [.p (.agg [.v (.int .i64 v24.Kind), .v (.string v24.Text), .lst false v24.Gaps.length (encL en_str v24.Gaps), .lst false v24.Kids.length (encL en_Node v24.Kids)])] = some (.p (.v (.int .i64 r27)), none) := fun H => R07_Level_call h28
   by_cases h30 : r2 ≤ r27
   ·rw [if_pos h30] at h
    have h30' : decide (r2 ≤ r27) = true := decide_eq_true h30
    obtain ⟨v31, h32, h⟩ := bsm h
    obtain ⟨h32a, h32b, _⟩ := rd_some h32
    have h33 := lk_frz_29 h32
    obtain ⟨r34, h35, h⟩ := bsm h
    have h36 : ∀ H, callD (callW Tryd.prog A0) A0 H 111 [.p (.agg [.v (.int .i64 v31.Kind), .v (.string v31.Text), .lst false v31.Gaps.length (encL en_str v31.Gaps), .lst false v31.Kids.length (encL en_Node v31.Kids)])] = some (.p (.v (.int .i64 r34)), none) := fun H => R07_Level_call h35
    obtain rfl := Option.some.inj h
    simp (maxSteps := 10000000) (implicitDefEqProofs := false) (disch := first | assumption | omega | exact rfl | exact im_ _) only [bs, rs85, ls85, Nat.reduceAdd, ↓reduceIte, loadD_iagg a29 z29, loadD_pagg a29 z29, loadD_ptr a27, loadD_ptr a3, ↓h1', h4, ↓h5', h26, h29, ↓h30', h33, h36]
    refine ⟨by first | exact .inl trivial | exact .inr trivial | simp, ?_⟩
    exact finish_is (ds := [bv (decide (r2 < r34))]) (x := .v (.bool (decide (r2 < r34)))) (y := .v (.bool (decide (r2 < r34)))) (l := []) rfl rfl rfl rfl (by first | rfl | (simp only [wk, wks, wkL]; first | done | rfl))
   ·rw [if_neg h30] at h
    have h30' : decide (r2 ≤ r27) = false := decide_eq_false h30
    obtain rfl := Option.some.inj h
    simp (maxSteps := 10000000) (implicitDefEqProofs := false) (disch := first | assumption | omega | exact rfl | exact im_ _) only [bs, rs85, ls85, Nat.reduceAdd, ↓reduceIte, loadD_iagg a29 z29, loadD_pagg a29 z29, loadD_ptr a27, loadD_ptr a3, ↓h1', h4, ↓h5', h26, h29, ↓h30']
    refine ⟨by first | exact .inl trivial | exact .inr trivial | simp, ?_⟩
    exact finish_is (ds := [bv false]) (x := .v (.bool false)) (y := .v (.bool false)) (l := []) rfl rfl rfl rfl (by first | rfl | (simp only [wk, wks, wkL]; first | done | rfl))
 ·rw [if_neg h1] at h
  have h1' : decide (x0.Kind = (24 : Int)) = false := decide_eq_false h1
  by_cases h37 : x0.Kind = (25 : Int)
  ·rw [if_pos h37] at h
   have h37' : decide (x0.Kind = (25 : Int)) = true := decide_eq_true h37
   obtain ⟨v38, h39, h⟩ := bsm h
   obtain ⟨h39a, h39b, _⟩ := rd_some h39
   have h40 := lk_frz_29 h39
   obtain ⟨r41, h42, h⟩ := bsm h
   have h43 : ∀ H, callD (callW Tryd.prog A0) A0 H 111 [.p (.agg [.v (.int .i64 v38.Kind), .v (.string v38.Text), .lst false v38.Gaps.length (encL en_str v38.Gaps), .lst false v38.Kids.length (encL en_Node v38.Kids)])] = some (.p (.v (.int .i64 r41)), none) := fun H => R07_Level_call h42
   obtain rfl := Option.some.inj h
   simp (maxSteps := 10000000) (implicitDefEqProofs := false) (disch := first | assumption | omega | exact rfl | exact im_ _) only [bs, rs85, ls85, Nat.reduceAdd, ↓reduceIte, loadD_iagg a29 z29, loadD_pagg a29 z29, loadD_ptr a27, loadD_ptr a3, ↓h1', ↓h37', h40, h43]
   refine ⟨by first | exact .inl trivial | exact .inr trivial | simp, ?_⟩
   exact finish_is (ds := [bv (decide ((6 : Int) ≤ r41))]) (x := .v (.bool (decide ((6 : Int) ≤ r41)))) (y := .v (.bool (decide ((6 : Int) ≤ r41)))) (l := []) rfl rfl rfl rfl (by first | rfl | (simp only [wk, wks, wkL]; first | done | rfl))
  ·rw [if_neg h37] at h
   have h37' : decide (x0.Kind = (25 : Int)) = false := decide_eq_false h37
   by_cases h44 : x0.Kind = (21 : Int)
   ·rw [if_pos h44] at h
    have h44' : decide (x0.Kind = (21 : Int)) = true := decide_eq_true h44
    obtain ⟨v45, h46, h⟩ := bsm h
    obtain ⟨h46a, h46b, _⟩ := rd_some h46
    have h47 := lk_frz_29 h46
    obtain ⟨r48, h49, h⟩ := bsm h
    have h50 : ∀ H, callD (callW Tryd.prog A0) A0 H 111 [.p (.agg [.v (.int .i64 v45.Kind), .v (.string v45.Text), .lst false v45.Gaps.length (encL en_str v45.Gaps), .lst false v45.Kids.length (encL en_Node v45.Kids)])] = some (.p (.v (.int .i64 r48)), none) := fun H => R07_Level_call h49
    obtain rfl := Option.some.inj h
    simp (maxSteps := 10000000) (implicitDefEqProofs := false) (disch := first | assumption | omega | exact rfl | exact im_ _) only [bs, rs85, ls85, Nat.reduceAdd, ↓reduceIte, loadD_iagg a29 z29, loadD_pagg a29 z29, loadD_ptr a27, loadD_ptr a3, ↓h1', ↓h37', ↓h44', h47, h50]
    refine ⟨by first | exact .inl trivial | exact .inr trivial | simp, ?_⟩
    exact finish_is (ds := [bv (decide (r48 = (7 : Int)))]) (x := .v (.bool (decide (r48 = (7 : Int))))) (y := .v (.bool (decide (r48 = (7 : Int))))) (l := []) rfl rfl rfl rfl (by first | rfl | (simp only [wk, wks, wkL]; first | done | rfl))
   ·rw [if_neg h44] at h
    have h44' : decide (x0.Kind = (21 : Int)) = false := decide_eq_false h44
    obtain rfl := Option.some.inj h
    simp (maxSteps := 10000000) (implicitDefEqProofs := false) (disch := first | assumption | omega | exact rfl | exact im_ _) only [bs, rs85, ls85, Nat.reduceAdd, ↓reduceIte, loadD_iagg a29 z29, loadD_pagg a29 z29, loadD_ptr a27, loadD_ptr a3, ↓h1', ↓h37', ↓h44']
    refine ⟨by first | exact .inl trivial | exact .inr trivial | simp, ?_⟩
    exact finish_is (ds := [bv true]) (x := .v (.bool true)) (y := .v (.bool true)) (l := []) rfl rfl rfl rfl (by first | rfl | (simp only [wk, wks, wkL]; first | done | rfl))
theorem R07_levels_call {b1 b2 : Bool} {H : List Ob} {x0 : Node} {r : Bool} (h : R07_levels x0 = some r) : callD (callW Tryd.prog A0) A0 H 85 [.p (.agg [.v (.int .i64 x0.Kind), .v (.string x0.Text), .lst b1 x0.Gaps.length (encL en_str x0.Gaps), .lst b2 x0.Kids.length (encL en_Node x0.Kids)])] = some (.p (.v (.bool r)), none) :=
  callD_fun (args := [.agg [.v (.int .i64 x0.Kind), .v (.string x0.Text), .lst b1 x0.Gaps.length (encL en_str x0.Gaps), .lst b2 x0.Kids.length (encL en_Node x0.Kids)]]) rfl rfl rfl (by simp only [List.map_cons, List.map_nil, wk, wks, wkL]; exact f85_ok x0 _ h)
def ls84 := And.intro @faP_29_0 (And.intro @faP_29_1 (And.intro @varld_4_0_0 (And.intro @varld_4_0_1 (@varlv_4_0_4))))
theorem f84_ok  (x0 : Node) (r : Bool) (h : R07_word x0 = some r) : callW Tryd.prog A0 84 [.p (.agg [.v (.int .i64 x0.Kind), .v (.string x0.Text), .lst false x0.Gaps.length (encL en_str x0.Gaps), .lst false x0.Kids.length (encL en_Node x0.Kids)])] [] = some (.p (.v (.bool r)), []) := by
 refine call_ofH (fn := Tryd.f84) (c := bodyOf Tryd.f84) rfl rfl (by kernel_rfl) (by kernel_rfl) ?_
 rw [show initS Tryd.f84 [.p (.agg [.v (.int .i64 x0.Kind), .v (.string x0.Text), .lst false x0.Gaps.length (encL en_str x0.Gaps), .lst false x0.Kids.length (encL en_Node x0.Kids)])] [] = ⟨.p (.agg [.v (.int .i64 x0.Kind), .v (.string x0.Text), .lst false x0.Gaps.length (encL en_str x0.Gaps), .lst false x0.Kids.length (encL en_Node x0.Kids)]) :: List.replicate 37 undefD, [], 0⟩ from by kernel_rfl]
 unfold R07_word at h
 unfold bodyOf Tryd.f84; simp only [Option.getD_some, loopsOf, List.append_nil, List.nil_append, List.cons_append, List.getD_cons_zero, List.getD_cons_succ]
 simp only [List.replicate]
 by_cases h1 : x0.Kind = (18 : Int)
 ·rw [if_pos h1] at h
  have h1' : decide (x0.Kind = (18 : Int)) = true := decide_eq_true h1
  by_cases h2 : x0.Text = (ByteArray.mk #[116, 114, 117, 101])
  ·rw [if_pos h2] at h
   have h2' : decide (x0.Text = (ByteArray.mk #[116, 114, 117, 101])) = true := decide_eq_true h2
   obtain rfl := Option.some.inj h
   simp (maxSteps := 10000000) (implicitDefEqProofs := false) (disch := first | assumption | omega | exact rfl | exact im_ _) only [bs, rs84, ls84, Nat.reduceAdd, ↓reduceIte, binD_eql_str, loadD_pagg a29 z29, loadD_ptr a3, loadD_ptr a9, ↓h1', ↓h2']
   refine ⟨by first | exact .inl trivial | exact .inr trivial | simp, ?_⟩
   exact finish_is (ds := [bv true]) (x := .v (.bool true)) (y := .v (.bool true)) (l := []) rfl rfl rfl rfl (by first | rfl | (simp only [wk, wks, wkL]; first | done | rfl))
  ·rw [if_neg h2] at h
   have h2' : decide (x0.Text = (ByteArray.mk #[116, 114, 117, 101])) = false := decide_eq_false h2
   obtain rfl := Option.some.inj h
   simp (maxSteps := 10000000) (implicitDefEqProofs := false) (disch := first | assumption | omega | exact rfl | exact im_ _) only [bs, rs84, ls84, Nat.reduceAdd, ↓reduceIte, binD_eql_str, loadD_pagg a29 z29, loadD_ptr a3, loadD_ptr a9, ↓h1', ↓h2']
   refine ⟨by first | exact .inl trivial | exact .inr trivial | simp, ?_⟩
   exact finish_is (ds := [bv (decide (x0.Text = (ByteArray.mk #[102, 97, 108, 115, 101])))]) (x := .v (.bool (decide (x0.Text = (ByteArray.mk #[102, 97, 108, 115, 101]))))) (y := .v (.bool (decide (x0.Text = (ByteArray.mk #[102, 97, 108, 115, 101]))))) (l := []) rfl rfl rfl rfl (by first | rfl | (simp only [wk, wks, wkL]; first | done | rfl))
 ·rw [if_neg h1] at h
  have h1' : decide (x0.Kind = (18 : Int)) = false := decide_eq_false h1
  by_cases h3 : x0.Kind = (23 : Int)
  ·rw [if_pos h3] at h
   have h3' : decide (x0.Kind = (23 : Int)) = true := decide_eq_true h3
   obtain rfl := Option.some.inj h
   simp (maxSteps := 10000000) (implicitDefEqProofs := false) (disch := first | assumption | omega | exact rfl | exact im_ _) only [bs, rs84, ls84, Nat.reduceAdd, ↓reduceIte, binD_eql_str, loadD_pagg a29 z29, loadD_ptr a3, loadD_ptr a9, ↓h1', ↓h3']
   refine ⟨by first | exact .inl trivial | exact .inr trivial | simp, ?_⟩
   exact finish_is (ds := [bv (decide (x0.Text = (ByteArray.mk #[115, 101, 108, 102])))]) (x := .v (.bool (decide (x0.Text = (ByteArray.mk #[115, 101, 108, 102]))))) (y := .v (.bool (decide (x0.Text = (ByteArray.mk #[115, 101, 108, 102]))))) (l := []) rfl rfl rfl rfl (by first | rfl | (simp only [wk, wks, wkL]; first | done | rfl))
  ·rw [if_neg h3] at h
   have h3' : decide (x0.Kind = (23 : Int)) = false := decide_eq_false h3
   by_cases h4 : x0.Kind = (24 : Int)
   ·rw [if_pos h4] at h
    have h4' : decide (x0.Kind = (24 : Int)) = true := decide_eq_true h4
    obtain ⟨r5, h6, h⟩ := bsm h
    have h7 : ∀ H, callD (callW Tryd.prog A0) A0 H 111 [.p (.agg [.v (.int .i64 x0.Kind), .v (.string x0.Text), .lst false x0.Gaps.length (encL en_str x0.Gaps), .lst false x0.Kids.length (encL en_Node x0.Kids)])] = some (.p (.v (.int .i64 r5)), none) := fun H => R07_Level_call h6
    obtain rfl := Option.some.inj h
    simp (maxSteps := 10000000) (implicitDefEqProofs := false) (disch := first | assumption | omega | exact rfl | exact im_ _) only [bs, rs84, ls84, Nat.reduceAdd, ↓reduceIte, binD_eql_str, loadD_pagg a29 z29, loadD_ptr a3, loadD_ptr a9, ↓h1', ↓h3', ↓h4', h7]
    refine ⟨by first | exact .inl trivial | exact .inr trivial | simp, ?_⟩
    exact finish_is (ds := [bv (decide ((0 : Int) < r5))]) (x := .v (.bool (decide ((0 : Int) < r5)))) (y := .v (.bool (decide ((0 : Int) < r5)))) (l := []) rfl rfl rfl rfl (by first | rfl | (simp only [wk, wks, wkL]; first | done | rfl))
   ·rw [if_neg h4] at h
    have h4' : decide (x0.Kind = (24 : Int)) = false := decide_eq_false h4
    by_cases h8 : x0.Kind = (25 : Int)
    ·rw [if_pos h8] at h
     have h8' : decide (x0.Kind = (25 : Int)) = true := decide_eq_true h8
     by_cases h9 : x0.Text = (ByteArray.mk #[45])
     ·rw [if_pos h9] at h
      have h9' : decide (x0.Text = (ByteArray.mk #[45])) = true := decide_eq_true h9
      obtain rfl := Option.some.inj h
      simp (maxSteps := 10000000) (implicitDefEqProofs := false) (disch := first | assumption | omega | exact rfl | exact im_ _) only [bs, rs84, ls84, Nat.reduceAdd, ↓reduceIte, binD_eql_str, loadD_pagg a29 z29, loadD_ptr a3, loadD_ptr a9, ↓h1', ↓h3', ↓h4', ↓h8', ↓h9']
      refine ⟨by first | exact .inl trivial | exact .inr trivial | simp, ?_⟩
      exact finish_is (ds := [bv true]) (x := .v (.bool true)) (y := .v (.bool true)) (l := []) rfl rfl rfl rfl (by first | rfl | (simp only [wk, wks, wkL]; first | done | rfl))
     ·rw [if_neg h9] at h
      have h9' : decide (x0.Text = (ByteArray.mk #[45])) = false := decide_eq_false h9
      obtain rfl := Option.some.inj h
      simp (maxSteps := 10000000) (implicitDefEqProofs := false) (disch := first | assumption | omega | exact rfl | exact im_ _) only [bs, rs84, ls84, Nat.reduceAdd, ↓reduceIte, binD_eql_str, loadD_pagg a29 z29, loadD_ptr a3, loadD_ptr a9, ↓h1', ↓h3', ↓h4', ↓h8', ↓h9']
      refine ⟨by first | exact .inl trivial | exact .inr trivial | simp, ?_⟩
      exact finish_is (ds := [bv (decide (x0.Text = (ByteArray.mk #[33])))]) (x := .v (.bool (decide (x0.Text = (ByteArray.mk #[33]))))) (y := .v (.bool (decide (x0.Text = (ByteArray.mk #[33]))))) (l := []) rfl rfl rfl rfl (by first | rfl | (simp only [wk, wks, wkL]; first | done | rfl))
    ·rw [if_neg h8] at h
     have h8' : decide (x0.Kind = (25 : Int)) = false := decide_eq_false h8
     obtain rfl := Option.some.inj h
     simp (maxSteps := 10000000) (implicitDefEqProofs := false) (disch := first | assumption | omega | exact rfl | exact im_ _) only [bs, rs84, ls84, Nat.reduceAdd, ↓reduceIte, binD_eql_str, loadD_pagg a29 z29, loadD_ptr a3, loadD_ptr a9, ↓h1', ↓h3', ↓h4', ↓h8']
     refine ⟨by first | exact .inl trivial | exact .inr trivial | simp, ?_⟩
     exact finish_is (ds := [bv (decide (x0.Text = (ByteArray.mk #[])))]) (x := .v (.bool (decide (x0.Text = (ByteArray.mk #[]))))) (y := .v (.bool (decide (x0.Text = (ByteArray.mk #[]))))) (l := []) rfl rfl rfl rfl (by first | rfl | (simp only [wk, wks, wkL]; first | done | rfl))
theorem R07_word_call {b1 b2 : Bool} {H : List Ob} {x0 : Node} {r : Bool} (h : R07_word x0 = some r) : callD (callW Tryd.prog A0) A0 H 84 [.p (.agg [.v (.int .i64 x0.Kind), .v (.string x0.Text), .lst b1 x0.Gaps.length (encL en_str x0.Gaps), .lst b2 x0.Kids.length (encL en_Node x0.Kids)])] = some (.p (.v (.bool r)), none) :=
  callD_fun (args := [.agg [.v (.int .i64 x0.Kind), .v (.string x0.Text), .lst b1 x0.Gaps.length (encL en_str x0.Gaps), .lst b2 x0.Kids.length (encL en_Node x0.Kids)]]) rfl rfl rfl (by simp only [List.map_cons, List.map_nil, wk, wks, wkL]; exact f84_ok x0 _ h)
def ls70 := And.intro @faI_29_0 (And.intro @faP_29_0 (And.intro @faP_29_3 (And.intro @idxL_27 (And.intro @varld_4_0_0 (And.intro @varld_4_0_3 (@varlv_4_0_4))))))
noncomputable def L70_0 : Code := (loopsOf (bodyOf Tryd.f70)).getD 0 .skip
def g70_0 : List Ghost := [.keep [1, 3]]
def F70_0 (w0_0 : Int) (w0_1 : ByteArray) (w0_2 : (List ByteArray)) (w0_3 : (List Node)) : Int → St := fun s3 => ⟨[.junk, .ptr 0 0, .junk, iv s3, .junk, .junk, .junk, .junk, .junk, .junk, .junk, .junk, .junk, .junk, .junk, .junk, .junk, .junk, .junk, .junk, .junk, .junk, .junk, .junk, .junk, .junk, .junk, .junk, .junk, .junk, .junk, .junk, .junk, .junk, .junk, .junk, .junk, .junk, .junk, .junk, .junk, .junk, .junk, .junk, .junk, .junk, .junk, .junk, .junk], [.var [iv w0_0, .p (.v (.string w0_1)), .p (.lst false w0_2.length (encL en_str w0_2)), .p (.lst false w0_3.length (encL en_Node w0_3))]], 0⟩
theorem L70_0_ok (w0_0 : Int) (w0_1 : ByteArray) (w0_2 : (List ByteArray)) (w0_3 : (List Node)) : ∀ s st o, ghostsD g70_0 st = some (F70_0 w0_0 w0_1 w0_2 w0_3 s) → iter (R07_shape_L0 w0_0 w0_1 w0_2 w0_3) s = some o →
    Wp (evW Tryd.prog A0 70 (.loop L70_0) st) (OutQ (F70_0 w0_0 w0_1 w0_2 w0_3) g70_0 (fun n s st => n = 0 ∧ ghostsD [.keep [1, 3]] st = some (F70_0 w0_0 w0_1 w0_2 w0_3 s)) (fun r st => finishD Tryd.prog A0 70 Tryd.f70 st = some (.p (.v (.bool r)), [])) o) := by
 refine Wp.iter ?_
 intro s st o hg h
 generalize s = s3 at hg h
 unfold R07_shape_L0 at h
 unfold g70_0 F70_0 at hg ⊢
 (try simp only [] at h hg)
 unfold L70_0 bodyOf Tryd.f70; simp only [Option.getD_some, loopsOf, List.append_nil, List.nil_append, List.cons_append, List.getD_cons_zero, List.getD_cons_succ]
 by_cases h7 : s3 < (w0_3.length : Int)
 ·rw [if_pos h7] at h
  have h7' : decide (s3 < (w0_3.length : Int)) = true := decide_eq_true h7
  obtain ⟨v8, h9, h⟩ := bsm h
  obtain ⟨h9a, h9b, _⟩ := rd_some h9
  have h10 := ce_29__0 h9
  obtain ⟨r11, h12, h⟩ := bsm h
  have h13 : ∀ H, callD (callW Tryd.prog A0) A0 H 83 [iv w0_0, iv s3, iv v8.Kind] = some (.p (.v (.bool r11)), none) := fun H => R07_Fits_call h12
  by_cases h14 : r11 = true
  ·rw [if_pos h14] at h
   obtain rfl := Option.some.inj h
   simp (maxSteps := 10000000) (implicitDefEqProofs := false) (disch := first | assumption | omega | exact rfl | exact im_ _) only [bs, rs70, ls70, Nat.reduceAdd, ↓reduceIte, lenD_lst u27, loadD_iptr a3, loadD_pagg a29 z29, loadD_ptr a27, loadD_ptr a3, hg, ↓h7', h10, h13, h14]
   exact ⟨rfl, by kernel_rfl⟩
  ·rw [if_neg h14] at h
   replace h14 := Bool.eq_false_iff.2 h14
   obtain rfl := Option.some.inj h
   simp (maxSteps := 10000000) (implicitDefEqProofs := false) (disch := first | assumption | omega | exact rfl | exact im_ _) only [bs, rs70, ls70, Nat.reduceAdd, ↓reduceIte, lenD_lst u27, loadD_iptr a3, loadD_pagg a29 z29, loadD_ptr a27, loadD_ptr a3, hg, ↓h7', h10, h13, h14]
   refine ⟨rfl, ?_⟩
   exact finish_is (ds := [bv false]) (x := .v (.bool false)) (y := .v (.bool false)) (l := []) rfl rfl rfl rfl (by first | rfl | (simp only [wk, wks, wkL]; first | done | rfl))
 ·rw [if_neg h7] at h
  have h7' : decide (s3 < (w0_3.length : Int)) = false := decide_eq_false h7
  obtain rfl := Option.some.inj h
  simp (maxSteps := 10000000) (implicitDefEqProofs := false) (disch := first | assumption | omega | exact rfl | exact im_ _) only [bs, rs70, ls70, Nat.reduceAdd, ↓reduceIte, lenD_lst u27, loadD_iptr a3, loadD_pagg a29 z29, loadD_ptr a27, loadD_ptr a3, hg, ↓h7']
  exact ⟨rfl, rfl, by kernel_rfl⟩
theorem f70_ok  (x0 : Node) (r : Bool) (h : R07_shape x0 = some r) : callW Tryd.prog A0 70 [.p (.agg [.v (.int .i64 x0.Kind), .v (.string x0.Text), .lst false x0.Gaps.length (encL en_str x0.Gaps), .lst false x0.Kids.length (encL en_Node x0.Kids)])] [] = some (.p (.v (.bool r)), []) := by
 refine call_ofH (fn := Tryd.f70) (c := bodyOf Tryd.f70) rfl rfl (by kernel_rfl) (by kernel_rfl) ?_
 rw [show initS Tryd.f70 [.p (.agg [.v (.int .i64 x0.Kind), .v (.string x0.Text), .lst false x0.Gaps.length (encL en_str x0.Gaps), .lst false x0.Kids.length (encL en_Node x0.Kids)])] [] = ⟨.p (.agg [.v (.int .i64 x0.Kind), .v (.string x0.Text), .lst false x0.Gaps.length (encL en_str x0.Gaps), .lst false x0.Kids.length (encL en_Node x0.Kids)]) :: List.replicate 48 undefD, [], 0⟩ from by kernel_rfl]
 unfold R07_shape at h
 unfold bodyOf Tryd.f70; simp only [Option.getD_some, loopsOf, List.append_nil, List.nil_append, List.cons_append, List.getD_cons_zero, List.getD_cons_succ]
 simp only [List.replicate]
 by_cases h1 : x0.Kind < (1 : Int)
 ·rw [if_pos h1] at h
  have h1' : decide (x0.Kind < (1 : Int)) = true := decide_eq_true h1
  obtain rfl := Option.some.inj h
  simp (maxSteps := 10000000) (implicitDefEqProofs := false) (disch := first | assumption | omega | exact rfl | exact im_ _) only [bs, rs70, ls70, Nat.reduceAdd, ↓reduceIte, lenD_lst u27, loadD_iptr a3, loadD_pagg a29 z29, loadD_ptr a27, loadD_ptr a3, ↓h1']
  refine ⟨by first | exact .inl trivial | exact .inr trivial | simp, ?_⟩
  exact finish_is (ds := [bv false]) (x := .v (.bool false)) (y := .v (.bool false)) (l := []) rfl rfl rfl rfl (by first | rfl | (simp only [wk, wks, wkL]; first | done | rfl))
 ·rw [if_neg h1] at h
  have h1' : decide (x0.Kind < (1 : Int)) = false := decide_eq_false h1
  by_cases h2 : (26 : Int) < x0.Kind
  ·rw [if_pos h2] at h
   have h2' : decide ((26 : Int) < x0.Kind) = true := decide_eq_true h2
   obtain rfl := Option.some.inj h
   simp (maxSteps := 10000000) (implicitDefEqProofs := false) (disch := first | assumption | omega | exact rfl | exact im_ _) only [bs, rs70, ls70, Nat.reduceAdd, ↓reduceIte, lenD_lst u27, loadD_iptr a3, loadD_pagg a29 z29, loadD_ptr a27, loadD_ptr a3, ↓h1', ↓h2']
   refine ⟨by first | exact .inl trivial | exact .inr trivial | simp, ?_⟩
   exact finish_is (ds := [bv false]) (x := .v (.bool false)) (y := .v (.bool false)) (l := []) rfl rfl rfl rfl (by first | rfl | (simp only [wk, wks, wkL]; first | done | rfl))
  ·rw [if_neg h2] at h
   have h2' : decide ((26 : Int) < x0.Kind) = false := decide_eq_false h2
   obtain ⟨r3, h4, h⟩ := bsm h
   have h5 : ∀ H, callD (callW Tryd.prog A0) A0 H 82 [iv x0.Kind] = some (.p (.v (.int .i64 r3)), none) := fun H => R07_least_call h4
   by_cases h6 : (x0.Kids.length : Int) < r3
   ·rw [if_pos h6] at h
    have h6' : decide ((x0.Kids.length : Int) < r3) = true := decide_eq_true h6
    obtain rfl := Option.some.inj h
    simp (maxSteps := 10000000) (implicitDefEqProofs := false) (disch := first | assumption | omega | exact rfl | exact im_ _) only [bs, rs70, ls70, Nat.reduceAdd, ↓reduceIte, lenD_lst u27, loadD_iptr a3, loadD_pagg a29 z29, loadD_ptr a27, loadD_ptr a3, ↓h1', ↓h2', h5, ↓h6']
    refine ⟨by first | exact .inl trivial | exact .inr trivial | simp, ?_⟩
    exact finish_is (ds := [bv false]) (x := .v (.bool false)) (y := .v (.bool false)) (l := []) rfl rfl rfl rfl (by first | rfl | (simp only [wk, wks, wkL]; first | done | rfl))
   ·rw [if_neg h6] at h
    have h6' : decide ((x0.Kids.length : Int) < r3) = false := decide_eq_false h6
    obtain ⟨o, h15, h⟩ := bsm h
    simp (maxSteps := 10000000) (implicitDefEqProofs := false) (disch := first | assumption | omega | exact rfl | exact im_ _) only [bs, rs70, ls70, Nat.reduceAdd, ↓reduceIte, lenD_lst u27, loadD_iptr a3, loadD_pagg a29 z29, loadD_ptr a27, loadD_ptr a3, ↓h1', ↓h2', h5, ↓h6']
    refine Wp.ctx (fun x => seqW _ _ _ _ (blockW _ (x))) (L70_0_ok x0.Kind x0.Text x0.Gaps x0.Kids (0 : Int) _ o (by kernel_rfl) h15) ?_
    intro e st hq
    cases o with
    | next _ => (first | cases h | (simp at h))
    | jmp n_ s_ =>
     obtain ⟨rfl, rfl, hq⟩ := hq
     generalize s_ = s3_16 at h hq
     unfold F70_0 at hq
     (try simp only [] at h hq)
     obtain ⟨r17, h18, h⟩ := bsm h
     have h19 : ∀ H, callD (callW Tryd.prog A0) A0 H 72 [.p (.agg [.v (.int .i64 x0.Kind), .v (.string x0.Text), .lst false x0.Gaps.length (encL en_str x0.Gaps), .lst false x0.Kids.length (encL en_Node x0.Kids)])] = some (.p (.v (.bool r17)), none) := fun H => R07_named_call h18
     by_cases h20 : r17 = true
     ·rw [if_pos h20] at h
      obtain ⟨r21, h22, h⟩ := bsm h
      have h23 : ∀ H, callD (callW Tryd.prog A0) A0 H 85 [.p (.agg [.v (.int .i64 x0.Kind), .v (.string x0.Text), .lst false x0.Gaps.length (encL en_str x0.Gaps), .lst false x0.Kids.length (encL en_Node x0.Kids)])] = some (.p (.v (.bool r21)), none) := fun H => R07_levels_call h22
      obtain rfl := Option.some.inj h
      simp (maxSteps := 10000000) (implicitDefEqProofs := false) (disch := first | assumption | omega | exact rfl | exact im_ _) only [bs, rs70, ls70, Nat.reduceAdd, ↓reduceIte, lenD_lst u27, loadD_iptr a3, loadD_pagg a29 z29, loadD_ptr a27, loadD_ptr a3, ↓h1', ↓h2', h5, ↓h6', hq, h19, h20, h23]
      refine ⟨by first | exact .inl trivial | exact .inr trivial | simp, ?_⟩
      exact finish_is (ds := [bv r21]) (x := .v (.bool r21)) (y := .v (.bool r21)) (l := []) rfl rfl rfl rfl (by first | rfl | (simp only [wk, wks, wkL]; first | done | rfl))
     ·rw [if_neg h20] at h
      replace h20 := Bool.eq_false_iff.2 h20
      obtain ⟨r24, h25, h⟩ := bsm h
      have h26 : ∀ H, callD (callW Tryd.prog A0) A0 H 84 [.p (.agg [.v (.int .i64 x0.Kind), .v (.string x0.Text), .lst false x0.Gaps.length (encL en_str x0.Gaps), .lst false x0.Kids.length (encL en_Node x0.Kids)])] = some (.p (.v (.bool r24)), none) := fun H => R07_word_call h25
      by_cases h27 : r24 = true
      ·rw [if_pos h27] at h
       obtain ⟨r28, h29, h⟩ := bsm h
       have h30 : ∀ H, callD (callW Tryd.prog A0) A0 H 85 [.p (.agg [.v (.int .i64 x0.Kind), .v (.string x0.Text), .lst false x0.Gaps.length (encL en_str x0.Gaps), .lst false x0.Kids.length (encL en_Node x0.Kids)])] = some (.p (.v (.bool r28)), none) := fun H => R07_levels_call h29
       obtain rfl := Option.some.inj h
       simp (maxSteps := 10000000) (implicitDefEqProofs := false) (disch := first | assumption | omega | exact rfl | exact im_ _) only [bs, rs70, ls70, Nat.reduceAdd, ↓reduceIte, lenD_lst u27, loadD_iptr a3, loadD_pagg a29 z29, loadD_ptr a27, loadD_ptr a3, ↓h1', ↓h2', h5, ↓h6', hq, h19, h20, h26, h27, h30]
       refine ⟨by first | exact .inl trivial | exact .inr trivial | simp, ?_⟩
       exact finish_is (ds := [bv r28]) (x := .v (.bool r28)) (y := .v (.bool r28)) (l := []) rfl rfl rfl rfl (by first | rfl | (simp only [wk, wks, wkL]; first | done | rfl))
      ·rw [if_neg h27] at h
       replace h27 := Bool.eq_false_iff.2 h27
       obtain rfl := Option.some.inj h
       simp (maxSteps := 10000000) (implicitDefEqProofs := false) (disch := first | assumption | omega | exact rfl | exact im_ _) only [bs, rs70, ls70, Nat.reduceAdd, ↓reduceIte, lenD_lst u27, loadD_iptr a3, loadD_pagg a29 z29, loadD_ptr a27, loadD_ptr a3, ↓h1', ↓h2', h5, ↓h6', hq, h19, h20, h26, h27]
       refine ⟨by first | exact .inl trivial | exact .inr trivial | simp, ?_⟩
       exact finish_is (ds := [bv false]) (x := .v (.bool false)) (y := .v (.bool false)) (l := []) rfl rfl rfl rfl (by first | rfl | (simp only [wk, wks, wkL]; first | done | rfl))
    | ret r31 =>
     obtain ⟨rfl, hq⟩ := hq
     obtain rfl := Option.some.inj h
     simp (maxSteps := 10000000) (implicitDefEqProofs := false) (disch := first | assumption | omega | exact rfl | exact im_ _) only [bs, rs70, ls70, Nat.reduceAdd, ↓reduceIte, lenD_lst u27, loadD_iptr a3, loadD_pagg a29 z29, loadD_ptr a27, loadD_ptr a3]
     exact ⟨by first | exact .inl trivial | exact .inr trivial | simp, hq⟩
theorem R07_shape_call {b1 b2 : Bool} {H : List Ob} {x0 : Node} {r : Bool} (h : R07_shape x0 = some r) : callD (callW Tryd.prog A0) A0 H 70 [.p (.agg [.v (.int .i64 x0.Kind), .v (.string x0.Text), .lst b1 x0.Gaps.length (encL en_str x0.Gaps), .lst b2 x0.Kids.length (encL en_Node x0.Kids)])] = some (.p (.v (.bool r)), none) :=
  callD_fun (args := [.agg [.v (.int .i64 x0.Kind), .v (.string x0.Text), .lst b1 x0.Gaps.length (encL en_str x0.Gaps), .lst b2 x0.Kids.length (encL en_Node x0.Kids)]]) rfl rfl rfl (by simp only [List.map_cons, List.map_nil, wk, wks, wkL]; exact f70_ok x0 _ h)
def ls71 := @cv_5_3
noncomputable def L71_0 : Code := (loopsOf (bodyOf Tryd.f71)).getD 0 .skip
def g71_0 : List Ghost := [.keep [0, 3, 4]]
def F71_0 (s0 : ByteArray) : (Int × Int) → St := fun (s3, s4) => ⟨[.p (.v (.string s0)), .junk, .junk, iv s3, iv s4, .junk, .junk, .junk, .junk, .junk, .junk, .junk, .junk, .junk, .junk, .junk, .junk, .junk, .junk, .junk, .junk, .junk, .junk, .junk, .junk, .junk, .junk, .junk, .junk, .junk, .junk, .junk, .junk, .junk, .junk, .junk, .junk, .junk, .junk, .junk, .junk, .junk, .junk, .junk, .junk, .junk, .junk, .junk, .junk], [], 0⟩
theorem L71_0_ok (s0 : ByteArray) : ∀ s st o, ghostsD g71_0 st = some (F71_0 s0 s) → iter (R07_Integer_L0 s0) s = some o →
    Wp (evW Tryd.prog A0 71 (.loop L71_0) st) (OutQ (F71_0 s0) g71_0 (fun n s st => n = 0 ∧ ghostsD [.keep [0, 3, 4]] st = some (F71_0 s0 s)) (fun r st => finishD Tryd.prog A0 71 Tryd.f71 st = some (.p (.v (.bool r)), [])) o) := by
 refine Wp.iter ?_
 intro s st o hg h
 obtain ⟨s3, s4⟩ := s
 unfold R07_Integer_L0 at h
 unfold g71_0 F71_0 at hg ⊢
 (try simp only [] at h hg)
 unfold L71_0 bodyOf Tryd.f71; simp only [Option.getD_some, loopsOf, List.append_nil, List.nil_append, List.cons_append, List.getD_cons_zero, List.getD_cons_succ]
 by_cases h17 : s4 < (s0.size : Int)
 ·rw [if_pos h17] at h
  have h17' : decide (s4 < (s0.size : Int)) = true := decide_eq_true h17
  obtain ⟨q18, h19, h⟩ := bsm h
  have h20 : indexD Tryd.prog 9 (.p (.v (.string s0))) (.p (.v (.int .i64 s4))) = some (.p (.v (.int .u8 q18))) := indexD_str Tryd.underlying9 h19
  by_cases h21 : q18 < (48 : Int)
  ·rw [if_pos h21] at h
   have h21' : decide (q18 < (48 : Int)) = true := decide_eq_true h21
   obtain rfl := Option.some.inj h
   simp (maxSteps := 10000000) (implicitDefEqProofs := false) (disch := first | assumption | omega | exact rfl | exact im_ _) only [bs, rs71, ls71, Nat.reduceAdd, ↓reduceIte, binD_eql_k, binD_gtr_k, binD_lss_k, binD_sub_k (k := .u8), lenD_str u9, hg, ↓h17', h20, ↓h21']
   refine ⟨rfl, ?_⟩
   exact finish_is (ds := [bv false]) (x := .v (.bool false)) (y := .v (.bool false)) (l := []) rfl rfl rfl rfl (by first | rfl | (simp only [wk, wks, wkL]; first | done | rfl))
  ·rw [if_neg h21] at h
   have h21' : decide (q18 < (48 : Int)) = false := decide_eq_false h21
   by_cases h22 : (57 : Int) < q18
   ·rw [if_pos h22] at h
    have h22' : decide ((57 : Int) < q18) = true := decide_eq_true h22
    obtain rfl := Option.some.inj h
    simp (maxSteps := 10000000) (implicitDefEqProofs := false) (disch := first | assumption | omega | exact rfl | exact im_ _) only [bs, rs71, ls71, Nat.reduceAdd, ↓reduceIte, binD_eql_k, binD_gtr_k, binD_lss_k, binD_sub_k (k := .u8), lenD_str u9, hg, ↓h17', h20, ↓h21', ↓h22']
    refine ⟨rfl, ?_⟩
    exact finish_is (ds := [bv false]) (x := .v (.bool false)) (y := .v (.bool false)) (l := []) rfl rfl rfl rfl (by first | rfl | (simp only [wk, wks, wkL]; first | done | rfl))
   ·rw [if_neg h22] at h
    have h22' : decide ((57 : Int) < q18) = false := decide_eq_false h22
    obtain rfl := Option.some.inj h
    simp (maxSteps := 10000000) (implicitDefEqProofs := false) (disch := first | assumption | omega | exact rfl | exact im_ _) only [bs, rs71, ls71, Nat.reduceAdd, ↓reduceIte, binD_eql_k, binD_gtr_k, binD_lss_k, binD_sub_k (k := .u8), lenD_str u9, hg, ↓h17', h20, ↓h21', ↓h22']
    exact ⟨rfl, by kernel_rfl⟩
 ·rw [if_neg h17] at h
  have h17' : decide (s4 < (s0.size : Int)) = false := decide_eq_false h17
  obtain rfl := Option.some.inj h
  simp (maxSteps := 10000000) (implicitDefEqProofs := false) (disch := first | assumption | omega | exact rfl | exact im_ _) only [bs, rs71, ls71, Nat.reduceAdd, ↓reduceIte, binD_eql_k, binD_gtr_k, binD_lss_k, binD_sub_k (k := .u8), lenD_str u9, hg, ↓h17']
  exact ⟨rfl, rfl, by kernel_rfl⟩
theorem f71_ok  (x0 : ByteArray) (r : Bool) (h : R07_Integer x0 = some r) : callW Tryd.prog A0 71 [.p (.v (.string x0))] [] = some (.p (.v (.bool r)), []) := by
 refine call_ofH (fn := Tryd.f71) (c := bodyOf Tryd.f71) rfl rfl (by kernel_rfl) (by kernel_rfl) ?_
 rw [show initS Tryd.f71 [.p (.v (.string x0))] [] = ⟨.p (.v (.string x0)) :: List.replicate 48 undefD, [], 0⟩ from by kernel_rfl]
 unfold R07_Integer at h
 unfold bodyOf Tryd.f71; simp only [Option.getD_some, loopsOf, List.append_nil, List.nil_append, List.cons_append, List.getD_cons_zero, List.getD_cons_succ]
 simp only [List.replicate]
 by_cases h1 : (x0.size : Int) = (0 : Int)
 ·rw [if_pos h1] at h
  have h1' : decide ((x0.size : Int) = (0 : Int)) = true := decide_eq_true h1
  obtain rfl := Option.some.inj h
  simp (maxSteps := 10000000) (implicitDefEqProofs := false) (disch := first | assumption | omega | exact rfl | exact im_ _) only [bs, rs71, ls71, Nat.reduceAdd, ↓reduceIte, binD_eql_k, binD_gtr_k, binD_lss_k, binD_sub_k (k := .u8), lenD_str u9, ↓h1']
  refine ⟨by first | exact .inl trivial | exact .inr trivial | simp, ?_⟩
  exact finish_is (ds := [bv false]) (x := .v (.bool false)) (y := .v (.bool false)) (l := []) rfl rfl rfl rfl (by first | rfl | (simp only [wk, wks, wkL]; first | done | rfl))
 ·rw [if_neg h1] at h
  have h1' : decide ((x0.size : Int) = (0 : Int)) = false := decide_eq_false h1
  by_cases h2 : (13 : Int) < (x0.size : Int)
  ·rw [if_pos h2] at h
   have h2' : decide ((13 : Int) < (x0.size : Int)) = true := decide_eq_true h2
   obtain rfl := Option.some.inj h
   simp (maxSteps := 10000000) (implicitDefEqProofs := false) (disch := first | assumption | omega | exact rfl | exact im_ _) only [bs, rs71, ls71, Nat.reduceAdd, ↓reduceIte, binD_eql_k, binD_gtr_k, binD_lss_k, binD_sub_k (k := .u8), lenD_str u9, ↓h1', ↓h2']
   refine ⟨by first | exact .inl trivial | exact .inr trivial | simp, ?_⟩
   exact finish_is (ds := [bv false]) (x := .v (.bool false)) (y := .v (.bool false)) (l := []) rfl rfl rfl rfl (by first | rfl | (simp only [wk, wks, wkL]; first | done | rfl))
  ·rw [if_neg h2] at h
   have h2' : decide ((13 : Int) < (x0.size : Int)) = false := decide_eq_false h2
   by_cases h3 : (1 : Int) < (x0.size : Int)
   ·rw [if_pos h3] at h
    have h3' : decide ((1 : Int) < (x0.size : Int)) = true := decide_eq_true h3
    obtain ⟨q4, h5, h⟩ := bsm h
    have h6 : indexD Tryd.prog 9 (.p (.v (.string x0))) (.p (.v (.int .i64 (0 : Int)))) = some (.p (.v (.int .u8 q4))) := indexD_str Tryd.underlying9 h5
    by_cases h7 : q4 = (48 : Int)
    ·rw [if_pos h7] at h
     have h7' : decide (q4 = (48 : Int)) = true := decide_eq_true h7
     obtain rfl := Option.some.inj h
     simp (maxSteps := 10000000) (implicitDefEqProofs := false) (disch := first | assumption | omega | exact rfl | exact im_ _) only [bs, rs71, ls71, Nat.reduceAdd, ↓reduceIte, binD_eql_k, binD_gtr_k, binD_lss_k, binD_sub_k (k := .u8), lenD_str u9, ↓h1', ↓h2', ↓h3', h6, ↓h7']
     refine ⟨by first | exact .inl trivial | exact .inr trivial | simp, ?_⟩
     exact finish_is (ds := [bv false]) (x := .v (.bool false)) (y := .v (.bool false)) (l := []) rfl rfl rfl rfl (by first | rfl | (simp only [wk, wks, wkL]; first | done | rfl))
    ·rw [if_neg h7] at h
     have h7' : decide (q4 = (48 : Int)) = false := decide_eq_false h7
     obtain ⟨o, h14, h⟩ := bsm h
     simp (maxSteps := 10000000) (implicitDefEqProofs := false) (disch := first | assumption | omega | exact rfl | exact im_ _) only [bs, rs71, ls71, Nat.reduceAdd, ↓reduceIte, binD_eql_k, binD_gtr_k, binD_lss_k, binD_sub_k (k := .u8), lenD_str u9, ↓h1', ↓h2', ↓h3', h6, ↓h7']
     refine Wp.ctx (fun x => seqW _ _ _ _ (blockW _ (x))) (L71_0_ok x0 ((0 : Int), (0 : Int)) _ o (by kernel_rfl) h14) ?_
     intro e st hq
     cases o with
     | next _ => (first | cases h | (simp at h))
     | jmp n_ s_ =>
      obtain ⟨rfl, rfl, hq⟩ := hq
      obtain ⟨s3_15, s4_15⟩ := s_
      unfold F71_0 at hq
      (try simp only [] at h hq)
      obtain rfl := Option.some.inj h
      simp (maxSteps := 10000000) (implicitDefEqProofs := false) (disch := first | assumption | omega | exact rfl | exact im_ _) only [bs, rs71, ls71, Nat.reduceAdd, ↓reduceIte, binD_eql_k, binD_gtr_k, binD_lss_k, binD_sub_k (k := .u8), lenD_str u9, ↓h1', ↓h2', ↓h3', h6, ↓h7', hq]
      refine ⟨by first | exact .inl trivial | exact .inr trivial | simp, ?_⟩
      exact finish_is (ds := [bv (decide (s3_15 ≤ (1000000000000 : Int)))]) (x := .v (.bool (decide (s3_15 ≤ (1000000000000 : Int))))) (y := .v (.bool (decide (s3_15 ≤ (1000000000000 : Int))))) (l := []) rfl rfl rfl rfl (by first | rfl | (simp only [wk, wks, wkL]; first | done | rfl))
     | ret r16 =>
      obtain ⟨rfl, hq⟩ := hq
      obtain rfl := Option.some.inj h
      simp (maxSteps := 10000000) (implicitDefEqProofs := false) (disch := first | assumption | omega | exact rfl | exact im_ _) only [bs, rs71, ls71, Nat.reduceAdd, ↓reduceIte, binD_eql_k, binD_gtr_k, binD_lss_k, binD_sub_k (k := .u8), lenD_str u9]
      exact ⟨by first | exact .inl trivial | exact .inr trivial | simp, hq⟩
   ·rw [if_neg h3] at h
    have h3' : decide ((1 : Int) < (x0.size : Int)) = false := decide_eq_false h3
    obtain ⟨o, h23, h⟩ := bsm h
    simp (maxSteps := 10000000) (implicitDefEqProofs := false) (disch := first | assumption | omega | exact rfl | exact im_ _) only [bs, rs71, ls71, Nat.reduceAdd, ↓reduceIte, binD_eql_k, binD_gtr_k, binD_lss_k, binD_sub_k (k := .u8), lenD_str u9, ↓h1', ↓h2', ↓h3']
    refine Wp.ctx (fun x => seqW _ _ _ _ (blockW _ (x))) (L71_0_ok x0 ((0 : Int), (0 : Int)) _ o (by kernel_rfl) h23) ?_
    intro e st hq
    cases o with
    | next _ => (first | cases h | (simp at h))
    | jmp n_ s_ =>
     obtain ⟨rfl, rfl, hq⟩ := hq
     obtain ⟨s3_24, s4_24⟩ := s_
     unfold F71_0 at hq
     (try simp only [] at h hq)
     obtain rfl := Option.some.inj h
     simp (maxSteps := 10000000) (implicitDefEqProofs := false) (disch := first | assumption | omega | exact rfl | exact im_ _) only [bs, rs71, ls71, Nat.reduceAdd, ↓reduceIte, binD_eql_k, binD_gtr_k, binD_lss_k, binD_sub_k (k := .u8), lenD_str u9, ↓h1', ↓h2', ↓h3', hq]
     refine ⟨by first | exact .inl trivial | exact .inr trivial | simp, ?_⟩
     exact finish_is (ds := [bv (decide (s3_24 ≤ (1000000000000 : Int)))]) (x := .v (.bool (decide (s3_24 ≤ (1000000000000 : Int))))) (y := .v (.bool (decide (s3_24 ≤ (1000000000000 : Int))))) (l := []) rfl rfl rfl rfl (by first | rfl | (simp only [wk, wks, wkL]; first | done | rfl))
    | ret r25 =>
     obtain ⟨rfl, hq⟩ := hq
     obtain rfl := Option.some.inj h
     simp (maxSteps := 10000000) (implicitDefEqProofs := false) (disch := first | assumption | omega | exact rfl | exact im_ _) only [bs, rs71, ls71, Nat.reduceAdd, ↓reduceIte, binD_eql_k, binD_gtr_k, binD_lss_k, binD_sub_k (k := .u8), lenD_str u9]
     exact ⟨by first | exact .inl trivial | exact .inr trivial | simp, hq⟩
theorem R07_Integer_call {H : List Ob} {x0 : ByteArray} {r : Bool} (h : R07_Integer x0 = some r) : callD (callW Tryd.prog A0) A0 H 71 [.p (.v (.string x0))] = some (.p (.v (.bool r)), none) :=
  callD_fun (args := [.v (.string x0)]) rfl rfl rfl (by simp only [List.map_cons, List.map_nil, wk, wks, wkL]; exact f71_ok x0 _ h)
def ls42 := And.intro @faP_29_0 (And.intro @faP_29_1 (And.intro @faP_29_3 (And.intro @varld_4_0_0 (And.intro @varld_4_0_1 (@varld_4_0_3)))))
theorem f42_ok  (x0 : Node) (r : Int) (h : R07_Own x0 = some r) : callW Tryd.prog A0 42 [.p (.agg [.v (.int .i64 x0.Kind), .v (.string x0.Text), .lst false x0.Gaps.length (encL en_str x0.Gaps), .lst false x0.Kids.length (encL en_Node x0.Kids)])] [] = some (.p (.v (.int .i64 r)), []) := by
 refine call_ofH (fn := Tryd.f42) (c := bodyOf Tryd.f42) rfl rfl (by kernel_rfl) (by kernel_rfl) ?_
 rw [show initS Tryd.f42 [.p (.agg [.v (.int .i64 x0.Kind), .v (.string x0.Text), .lst false x0.Gaps.length (encL en_str x0.Gaps), .lst false x0.Kids.length (encL en_Node x0.Kids)])] [] = ⟨.p (.agg [.v (.int .i64 x0.Kind), .v (.string x0.Text), .lst false x0.Gaps.length (encL en_str x0.Gaps), .lst false x0.Kids.length (encL en_Node x0.Kids)]) :: List.replicate 55 undefD, [], 0⟩ from by kernel_rfl]
 unfold R07_Own at h
 unfold bodyOf Tryd.f42; simp only [Option.getD_some, loopsOf, List.append_nil, List.nil_append, List.cons_append, List.getD_cons_zero, List.getD_cons_succ]
 simp only [List.replicate]
 by_cases h1 : x0.Kind = (8 : Int)
 ·rw [if_pos h1] at h
  have h1' : decide (x0.Kind = (8 : Int)) = true := decide_eq_true h1
  by_cases h2 : x0.Text = (ByteArray.mk #[])
  ·rw [if_pos h2] at h
   have h2' : decide (x0.Text = (ByteArray.mk #[])) = true := decide_eq_true h2
   obtain rfl := Option.some.inj h
   simp (maxSteps := 10000000) (implicitDefEqProofs := false) (disch := first | assumption | omega | exact rfl | exact im_ _) only [bs, rs42, ls42, Nat.reduceAdd, ↓reduceIte, binD_eql_str, lenD_lst u27, loadD_ptr a27, loadD_ptr a3, loadD_ptr a9, maxD_int, minD_int, ↓h1', ↓h2']
   refine ⟨by first | exact .inl trivial | exact .inr trivial | simp, ?_⟩
   exact finish_is (ds := [iv (0 : Int)]) (x := .v (.int .i64 (0 : Int))) (y := .v (.int .i64 (0 : Int))) (l := []) rfl rfl rfl rfl (by first | rfl | (simp only [wk, wks, wkL]; first | done | rfl))
  ·rw [if_neg h2] at h
   have h2' : decide (x0.Text = (ByteArray.mk #[])) = false := decide_eq_false h2
   obtain rfl := Option.some.inj h
   simp (maxSteps := 10000000) (implicitDefEqProofs := false) (disch := first | assumption | omega | exact rfl | exact im_ _) only [bs, rs42, ls42, Nat.reduceAdd, ↓reduceIte, binD_eql_str, lenD_lst u27, loadD_ptr a27, loadD_ptr a3, loadD_ptr a9, maxD_int, minD_int, ↓h1', ↓h2']
   refine ⟨by first | exact .inl trivial | exact .inr trivial | simp, ?_⟩
   exact finish_is (ds := [iv (2 : Int)]) (x := .v (.int .i64 (2 : Int))) (y := .v (.int .i64 (2 : Int))) (l := []) rfl rfl rfl rfl (by first | rfl | (simp only [wk, wks, wkL]; first | done | rfl))
 ·rw [if_neg h1] at h
  have h1' : decide (x0.Kind = (8 : Int)) = false := decide_eq_false h1
  by_cases h3 : x0.Kind = (14 : Int)
  ·rw [if_pos h3] at h
   have h3' : decide (x0.Kind = (14 : Int)) = true := decide_eq_true h3
   obtain rfl := Option.some.inj h
   simp (maxSteps := 10000000) (implicitDefEqProofs := false) (disch := first | assumption | omega | exact rfl | exact im_ _) only [bs, rs42, ls42, Nat.reduceAdd, ↓reduceIte, binD_eql_str, lenD_lst u27, loadD_ptr a27, loadD_ptr a3, loadD_ptr a9, maxD_int, minD_int, ↓h1', ↓h3']
   refine ⟨by first | exact .inl trivial | exact .inr trivial | simp, ?_⟩
   exact finish_is (ds := [iv (min (x0.Kids.length : Int) (1 : Int))]) (x := .v (.int .i64 (min (x0.Kids.length : Int) (1 : Int)))) (y := .v (.int .i64 (min (x0.Kids.length : Int) (1 : Int)))) (l := []) rfl rfl rfl rfl (by first | rfl | (simp only [wk, wks, wkL]; first | done | rfl))
  ·rw [if_neg h3] at h
   have h3' : decide (x0.Kind = (14 : Int)) = false := decide_eq_false h3
   by_cases h4 : x0.Kind = (3 : Int)
   ·rw [if_pos h4] at h
    have h4' : decide (x0.Kind = (3 : Int)) = true := decide_eq_true h4
    obtain rfl := Option.some.inj h
    simp (maxSteps := 10000000) (implicitDefEqProofs := false) (disch := first | assumption | omega | exact rfl | exact im_ _) only [bs, rs42, ls42, Nat.reduceAdd, ↓reduceIte, binD_eql_str, lenD_lst u27, loadD_ptr a27, loadD_ptr a3, loadD_ptr a9, maxD_int, minD_int, ↓h1', ↓h3', ↓h4']
    refine ⟨by first | exact .inl trivial | exact .inr trivial | simp, ?_⟩
    exact finish_is (ds := [iv (w64 ((2 : Int) + (max (w64 ((x0.Kids.length : Int) - (1 : Int))) (0 : Int))))]) (x := .v (.int .i64 (w64 ((2 : Int) + (max (w64 ((x0.Kids.length : Int) - (1 : Int))) (0 : Int)))))) (y := .v (.int .i64 (w64 ((2 : Int) + (max (w64 ((x0.Kids.length : Int) - (1 : Int))) (0 : Int)))))) (l := []) rfl rfl rfl rfl (by first | rfl | (simp only [wk, wks, wkL]; first | done | rfl))
   ·rw [if_neg h4] at h
    have h4' : decide (x0.Kind = (3 : Int)) = false := decide_eq_false h4
    by_cases h5 : x0.Kind = (20 : Int)
    ·rw [if_pos h5] at h
     have h5' : decide (x0.Kind = (20 : Int)) = true := decide_eq_true h5
     obtain rfl := Option.some.inj h
     simp (maxSteps := 10000000) (implicitDefEqProofs := false) (disch := first | assumption | omega | exact rfl | exact im_ _) only [bs, rs42, ls42, Nat.reduceAdd, ↓reduceIte, binD_eql_str, lenD_lst u27, loadD_ptr a27, loadD_ptr a3, loadD_ptr a9, maxD_int, minD_int, ↓h1', ↓h3', ↓h4', ↓h5']
     refine ⟨by first | exact .inl trivial | exact .inr trivial | simp, ?_⟩
     exact finish_is (ds := [iv (w64 ((3 : Int) + (max (w64 ((x0.Kids.length : Int) - (1 : Int))) (0 : Int))))]) (x := .v (.int .i64 (w64 ((3 : Int) + (max (w64 ((x0.Kids.length : Int) - (1 : Int))) (0 : Int)))))) (y := .v (.int .i64 (w64 ((3 : Int) + (max (w64 ((x0.Kids.length : Int) - (1 : Int))) (0 : Int)))))) (l := []) rfl rfl rfl rfl (by first | rfl | (simp only [wk, wks, wkL]; first | done | rfl))
    ·rw [if_neg h5] at h
     have h5' : decide (x0.Kind = (20 : Int)) = false := decide_eq_false h5
     by_cases h6 : x0.Kind = (21 : Int)
     ·rw [if_pos h6] at h
      have h6' : decide (x0.Kind = (21 : Int)) = true := decide_eq_true h6
      obtain rfl := Option.some.inj h
      simp (maxSteps := 10000000) (implicitDefEqProofs := false) (disch := first | assumption | omega | exact rfl | exact im_ _) only [bs, rs42, ls42, Nat.reduceAdd, ↓reduceIte, binD_eql_str, lenD_lst u27, loadD_ptr a27, loadD_ptr a3, loadD_ptr a9, maxD_int, minD_int, ↓h1', ↓h3', ↓h4', ↓h5', ↓h6']
      refine ⟨by first | exact .inl trivial | exact .inr trivial | simp, ?_⟩
      exact finish_is (ds := [iv (w64 ((4 : Int) + (max (w64 ((x0.Kids.length : Int) - (2 : Int))) (0 : Int))))]) (x := .v (.int .i64 (w64 ((4 : Int) + (max (w64 ((x0.Kids.length : Int) - (2 : Int))) (0 : Int)))))) (y := .v (.int .i64 (w64 ((4 : Int) + (max (w64 ((x0.Kids.length : Int) - (2 : Int))) (0 : Int)))))) (l := []) rfl rfl rfl rfl (by first | rfl | (simp only [wk, wks, wkL]; first | done | rfl))
     ·rw [if_neg h6] at h
      have h6' : decide (x0.Kind = (21 : Int)) = false := decide_eq_false h6
      by_cases h7 : x0.Kind = (7 : Int)
      ·rw [if_pos h7] at h
       have h7' : decide (x0.Kind = (7 : Int)) = true := decide_eq_true h7
       obtain rfl := Option.some.inj h
       simp (maxSteps := 10000000) (implicitDefEqProofs := false) (disch := first | assumption | omega | exact rfl | exact im_ _) only [bs, rs42, ls42, Nat.reduceAdd, ↓reduceIte, binD_eql_str, lenD_lst u27, loadD_ptr a27, loadD_ptr a3, loadD_ptr a9, maxD_int, minD_int, ↓h1', ↓h3', ↓h4', ↓h5', ↓h6', ↓h7']
       refine ⟨by first | exact .inl trivial | exact .inr trivial | simp, ?_⟩
       exact finish_is (ds := [iv (4 : Int)]) (x := .v (.int .i64 (4 : Int))) (y := .v (.int .i64 (4 : Int))) (l := []) rfl rfl rfl rfl (by first | rfl | (simp only [wk, wks, wkL]; first | done | rfl))
      ·rw [if_neg h7] at h
       have h7' : decide (x0.Kind = (7 : Int)) = false := decide_eq_false h7
       by_cases h8 : x0.Kind = (9 : Int)
       ·rw [if_pos h8] at h
        have h8' : decide (x0.Kind = (9 : Int)) = true := decide_eq_true h8
        obtain rfl := Option.some.inj h
        simp (maxSteps := 10000000) (implicitDefEqProofs := false) (disch := first | assumption | omega | exact rfl | exact im_ _) only [bs, rs42, ls42, Nat.reduceAdd, ↓reduceIte, binD_eql_str, lenD_lst u27, loadD_ptr a27, loadD_ptr a3, loadD_ptr a9, maxD_int, minD_int, ↓h1', ↓h3', ↓h4', ↓h5', ↓h6', ↓h7', ↓h8']
        refine ⟨by first | exact .inl trivial | exact .inr trivial | simp, ?_⟩
        exact finish_is (ds := [iv (4 : Int)]) (x := .v (.int .i64 (4 : Int))) (y := .v (.int .i64 (4 : Int))) (l := []) rfl rfl rfl rfl (by first | rfl | (simp only [wk, wks, wkL]; first | done | rfl))
       ·rw [if_neg h8] at h
        have h8' : decide (x0.Kind = (9 : Int)) = false := decide_eq_false h8
        by_cases h9 : x0.Kind = (10 : Int)
        ·rw [if_pos h9] at h
         have h9' : decide (x0.Kind = (10 : Int)) = true := decide_eq_true h9
         obtain rfl := Option.some.inj h
         simp (maxSteps := 10000000) (implicitDefEqProofs := false) (disch := first | assumption | omega | exact rfl | exact im_ _) only [bs, rs42, ls42, Nat.reduceAdd, ↓reduceIte, binD_eql_str, lenD_lst u27, loadD_ptr a27, loadD_ptr a3, loadD_ptr a9, maxD_int, minD_int, ↓h1', ↓h3', ↓h4', ↓h5', ↓h6', ↓h7', ↓h8', ↓h9']
         refine ⟨by first | exact .inl trivial | exact .inr trivial | simp, ?_⟩
         exact finish_is (ds := [iv (4 : Int)]) (x := .v (.int .i64 (4 : Int))) (y := .v (.int .i64 (4 : Int))) (l := []) rfl rfl rfl rfl (by first | rfl | (simp only [wk, wks, wkL]; first | done | rfl))
        ·rw [if_neg h9] at h
         have h9' : decide (x0.Kind = (10 : Int)) = false := decide_eq_false h9
         by_cases h10 : x0.Kind = (22 : Int)
         ·rw [if_pos h10] at h
          have h10' : decide (x0.Kind = (22 : Int)) = true := decide_eq_true h10
          obtain rfl := Option.some.inj h
          simp (maxSteps := 10000000) (implicitDefEqProofs := false) (disch := first | assumption | omega | exact rfl | exact im_ _) only [bs, rs42, ls42, Nat.reduceAdd, ↓reduceIte, binD_eql_str, lenD_lst u27, loadD_ptr a27, loadD_ptr a3, loadD_ptr a9, maxD_int, minD_int, ↓h1', ↓h3', ↓h4', ↓h5', ↓h6', ↓h7', ↓h8', ↓h9', ↓h10']
          refine ⟨by first | exact .inl trivial | exact .inr trivial | simp, ?_⟩
          exact finish_is (ds := [iv (4 : Int)]) (x := .v (.int .i64 (4 : Int))) (y := .v (.int .i64 (4 : Int))) (l := []) rfl rfl rfl rfl (by first | rfl | (simp only [wk, wks, wkL]; first | done | rfl))
         ·rw [if_neg h10] at h
          have h10' : decide (x0.Kind = (22 : Int)) = false := decide_eq_false h10
          by_cases h11 : x0.Kind = (11 : Int)
          ·rw [if_pos h11] at h
           have h11' : decide (x0.Kind = (11 : Int)) = true := decide_eq_true h11
           obtain rfl := Option.some.inj h
           simp (maxSteps := 10000000) (implicitDefEqProofs := false) (disch := first | assumption | omega | exact rfl | exact im_ _) only [bs, rs42, ls42, Nat.reduceAdd, ↓reduceIte, binD_eql_str, lenD_lst u27, loadD_ptr a27, loadD_ptr a3, loadD_ptr a9, maxD_int, minD_int, ↓h1', ↓h3', ↓h4', ↓h5', ↓h6', ↓h7', ↓h8', ↓h9', ↓h10', ↓h11']
           refine ⟨by first | exact .inl trivial | exact .inr trivial | simp, ?_⟩
           exact finish_is (ds := [iv (3 : Int)]) (x := .v (.int .i64 (3 : Int))) (y := .v (.int .i64 (3 : Int))) (l := []) rfl rfl rfl rfl (by first | rfl | (simp only [wk, wks, wkL]; first | done | rfl))
          ·rw [if_neg h11] at h
           have h11' : decide (x0.Kind = (11 : Int)) = false := decide_eq_false h11
           by_cases h12 : x0.Kind = (2 : Int)
           ·rw [if_pos h12] at h
            have h12' : decide (x0.Kind = (2 : Int)) = true := decide_eq_true h12
            obtain rfl := Option.some.inj h
            simp (maxSteps := 10000000) (implicitDefEqProofs := false) (disch := first | assumption | omega | exact rfl | exact im_ _) only [bs, rs42, ls42, Nat.reduceAdd, ↓reduceIte, binD_eql_str, lenD_lst u27, loadD_ptr a27, loadD_ptr a3, loadD_ptr a9, maxD_int, minD_int, ↓h1', ↓h3', ↓h4', ↓h5', ↓h6', ↓h7', ↓h8', ↓h9', ↓h10', ↓h11', ↓h12']
            refine ⟨by first | exact .inl trivial | exact .inr trivial | simp, ?_⟩
            exact finish_is (ds := [iv (2 : Int)]) (x := .v (.int .i64 (2 : Int))) (y := .v (.int .i64 (2 : Int))) (l := []) rfl rfl rfl rfl (by first | rfl | (simp only [wk, wks, wkL]; first | done | rfl))
           ·rw [if_neg h12] at h
            have h12' : decide (x0.Kind = (2 : Int)) = false := decide_eq_false h12
            by_cases h13 : x0.Kind = (6 : Int)
            ·rw [if_pos h13] at h
             have h13' : decide (x0.Kind = (6 : Int)) = true := decide_eq_true h13
             obtain rfl := Option.some.inj h
             simp (maxSteps := 10000000) (implicitDefEqProofs := false) (disch := first | assumption | omega | exact rfl | exact im_ _) only [bs, rs42, ls42, Nat.reduceAdd, ↓reduceIte, binD_eql_str, lenD_lst u27, loadD_ptr a27, loadD_ptr a3, loadD_ptr a9, maxD_int, minD_int, ↓h1', ↓h3', ↓h4', ↓h5', ↓h6', ↓h7', ↓h8', ↓h9', ↓h10', ↓h11', ↓h12', ↓h13']
             refine ⟨by first | exact .inl trivial | exact .inr trivial | simp, ?_⟩
             exact finish_is (ds := [iv (2 : Int)]) (x := .v (.int .i64 (2 : Int))) (y := .v (.int .i64 (2 : Int))) (l := []) rfl rfl rfl rfl (by first | rfl | (simp only [wk, wks, wkL]; first | done | rfl))
            ·rw [if_neg h13] at h
             have h13' : decide (x0.Kind = (6 : Int)) = false := decide_eq_false h13
             by_cases h14 : x0.Kind = (12 : Int)
             ·rw [if_pos h14] at h
              have h14' : decide (x0.Kind = (12 : Int)) = true := decide_eq_true h14
              obtain rfl := Option.some.inj h
              simp (maxSteps := 10000000) (implicitDefEqProofs := false) (disch := first | assumption | omega | exact rfl | exact im_ _) only [bs, rs42, ls42, Nat.reduceAdd, ↓reduceIte, binD_eql_str, lenD_lst u27, loadD_ptr a27, loadD_ptr a3, loadD_ptr a9, maxD_int, minD_int, ↓h1', ↓h3', ↓h4', ↓h5', ↓h6', ↓h7', ↓h8', ↓h9', ↓h10', ↓h11', ↓h12', ↓h13', ↓h14']
              refine ⟨by first | exact .inl trivial | exact .inr trivial | simp, ?_⟩
              exact finish_is (ds := [iv (2 : Int)]) (x := .v (.int .i64 (2 : Int))) (y := .v (.int .i64 (2 : Int))) (l := []) rfl rfl rfl rfl (by first | rfl | (simp only [wk, wks, wkL]; first | done | rfl))
             ·rw [if_neg h14] at h
              have h14' : decide (x0.Kind = (12 : Int)) = false := decide_eq_false h14
              by_cases h15 : x0.Kind = (26 : Int)
              ·rw [if_pos h15] at h
               have h15' : decide (x0.Kind = (26 : Int)) = true := decide_eq_true h15
               obtain rfl := Option.some.inj h
               simp (maxSteps := 10000000) (implicitDefEqProofs := false) (disch := first | assumption | omega | exact rfl | exact im_ _) only [bs, rs42, ls42, Nat.reduceAdd, ↓reduceIte, binD_eql_str, lenD_lst u27, loadD_ptr a27, loadD_ptr a3, loadD_ptr a9, maxD_int, minD_int, ↓h1', ↓h3', ↓h4', ↓h5', ↓h6', ↓h7', ↓h8', ↓h9', ↓h10', ↓h11', ↓h12', ↓h13', ↓h14', ↓h15']
               refine ⟨by first | exact .inl trivial | exact .inr trivial | simp, ?_⟩
               exact finish_is (ds := [iv (2 : Int)]) (x := .v (.int .i64 (2 : Int))) (y := .v (.int .i64 (2 : Int))) (l := []) rfl rfl rfl rfl (by first | rfl | (simp only [wk, wks, wkL]; first | done | rfl))
              ·rw [if_neg h15] at h
               have h15' : decide (x0.Kind = (26 : Int)) = false := decide_eq_false h15
               by_cases h16 : (1 : Int) ≤ x0.Kind
               ·rw [if_pos h16] at h
                have h16' : decide ((1 : Int) ≤ x0.Kind) = true := decide_eq_true h16
                by_cases h17 : x0.Kind ≤ (26 : Int)
                ·rw [if_pos h17] at h
                 have h17' : decide (x0.Kind ≤ (26 : Int)) = true := decide_eq_true h17
                 obtain rfl := Option.some.inj h
                 simp (maxSteps := 10000000) (implicitDefEqProofs := false) (disch := first | assumption | omega | exact rfl | exact im_ _) only [bs, rs42, ls42, Nat.reduceAdd, ↓reduceIte, binD_eql_str, lenD_lst u27, loadD_ptr a27, loadD_ptr a3, loadD_ptr a9, maxD_int, minD_int, ↓h1', ↓h3', ↓h4', ↓h5', ↓h6', ↓h7', ↓h8', ↓h9', ↓h10', ↓h11', ↓h12', ↓h13', ↓h14', ↓h15', ↓h16', ↓h17']
                 refine ⟨by first | exact .inl trivial | exact .inr trivial | simp, ?_⟩
                 exact finish_is (ds := [iv (1 : Int)]) (x := .v (.int .i64 (1 : Int))) (y := .v (.int .i64 (1 : Int))) (l := []) rfl rfl rfl rfl (by first | rfl | (simp only [wk, wks, wkL]; first | done | rfl))
                ·rw [if_neg h17] at h
                 have h17' : decide (x0.Kind ≤ (26 : Int)) = false := decide_eq_false h17
                 obtain rfl := Option.some.inj h
                 simp (maxSteps := 10000000) (implicitDefEqProofs := false) (disch := first | assumption | omega | exact rfl | exact im_ _) only [bs, rs42, ls42, Nat.reduceAdd, ↓reduceIte, binD_eql_str, lenD_lst u27, loadD_ptr a27, loadD_ptr a3, loadD_ptr a9, maxD_int, minD_int, ↓h1', ↓h3', ↓h4', ↓h5', ↓h6', ↓h7', ↓h8', ↓h9', ↓h10', ↓h11', ↓h12', ↓h13', ↓h14', ↓h15', ↓h16', ↓h17']
                 refine ⟨by first | exact .inl trivial | exact .inr trivial | simp, ?_⟩
                 exact finish_is (ds := [iv (0 : Int)]) (x := .v (.int .i64 (0 : Int))) (y := .v (.int .i64 (0 : Int))) (l := []) rfl rfl rfl rfl (by first | rfl | (simp only [wk, wks, wkL]; first | done | rfl))
               ·rw [if_neg h16] at h
                have h16' : decide ((1 : Int) ≤ x0.Kind) = false := decide_eq_false h16
                obtain rfl := Option.some.inj h
                simp (maxSteps := 10000000) (implicitDefEqProofs := false) (disch := first | assumption | omega | exact rfl | exact im_ _) only [bs, rs42, ls42, Nat.reduceAdd, ↓reduceIte, binD_eql_str, lenD_lst u27, loadD_ptr a27, loadD_ptr a3, loadD_ptr a9, maxD_int, minD_int, ↓h1', ↓h3', ↓h4', ↓h5', ↓h6', ↓h7', ↓h8', ↓h9', ↓h10', ↓h11', ↓h12', ↓h13', ↓h14', ↓h15', ↓h16']
                refine ⟨by first | exact .inl trivial | exact .inr trivial | simp, ?_⟩
                exact finish_is (ds := [iv (0 : Int)]) (x := .v (.int .i64 (0 : Int))) (y := .v (.int .i64 (0 : Int))) (l := []) rfl rfl rfl rfl (by first | rfl | (simp only [wk, wks, wkL]; first | done | rfl))
theorem R07_Own_call {b1 b2 : Bool} {H : List Ob} {x0 : Node} {r : Int} (h : R07_Own x0 = some r) : callD (callW Tryd.prog A0) A0 H 42 [.p (.agg [.v (.int .i64 x0.Kind), .v (.string x0.Text), .lst b1 x0.Gaps.length (encL en_str x0.Gaps), .lst b2 x0.Kids.length (encL en_Node x0.Kids)])] = some (.p (.v (.int .i64 r)), none) :=
  callD_fun (args := [.agg [.v (.int .i64 x0.Kind), .v (.string x0.Text), .lst b1 x0.Gaps.length (encL en_str x0.Gaps), .lst b2 x0.Kids.length (encL en_Node x0.Kids)]]) rfl rfl rfl (by simp only [List.map_cons, List.map_nil, wk, wks, wkL]; exact f42_ok x0 _ h)
noncomputable def L76_0 : Code := (loopsOf (bodyOf Tryd.f76)).getD 0 .skip
def g76_0 : List Ghost := [.keep [0, 1, 5]]
def F76_0 (s0 : ByteArray) (s1 : Int) : Int → St := fun s5 => ⟨[.p (.v (.string s0)), iv s1, .junk, .junk, .junk, iv s5, .junk, .junk, .junk, .junk, .junk, .junk, .junk, .junk, .junk, .junk, .junk, .junk, .junk, .junk, .junk, .junk, .junk, .junk, .junk, .junk, .junk, .junk, .junk, .junk, .junk, .junk, .junk, .junk, .junk, .junk, .junk, .junk, .junk, .junk, .junk, .junk, .junk, .junk, .junk, .junk, .junk, .junk, .junk, .junk, .junk, .junk, .junk, .junk, .junk, .junk, .junk, .junk, .junk, .junk, .junk, .junk], [], 0⟩
theorem L76_0_ok (s0 : ByteArray) (s1 : Int) : ∀ s st o, ghostsD g76_0 st = some (F76_0 s0 s1 s) → iter (R04_step_L0 s0 s1) s = some o →
    Wp (evW Tryd.prog A0 76 (.loop L76_0) st) (OutQ (F76_0 s0 s1) g76_0 (fun n s st => n = 0 ∧ ghostsD [.keep [0, 1, 5]] st = some (F76_0 s0 s1 s)) (fun r st => finishD Tryd.prog A0 76 Tryd.f76 st = some (.p (.v (.int .i64 r)), [])) o) := by
 refine Wp.iter ?_
 intro s st o hg h
 generalize s = s5 at hg h
 unfold R04_step_L0 at h
 unfold g76_0 F76_0 at hg ⊢
 (try simp only [] at h hg)
 unfold L76_0 bodyOf Tryd.f76; simp only [Option.getD_some, loopsOf, List.append_nil, List.nil_append, List.cons_append, List.getD_cons_zero, List.getD_cons_succ]
 by_cases h14 : s5 < (s0.size : Int)
 ·rw [if_pos h14] at h
  have h14' : decide (s5 < (s0.size : Int)) = true := decide_eq_true h14
  obtain ⟨q15, h16, h⟩ := bsm h
  have h17 : indexD Tryd.prog 9 (.p (.v (.string s0))) (.p (.v (.int .i64 s5))) = some (.p (.v (.int .u8 q15))) := indexD_str Tryd.underlying9 h16
  by_cases h18 : q15 = (10 : Int)
  ·rw [if_pos h18] at h
   have h18' : decide (q15 = (10 : Int)) = true := decide_eq_true h18
   obtain rfl := Option.some.inj h
   simp (maxSteps := 10000000) (implicitDefEqProofs := false) (disch := first | assumption | omega | exact rfl | exact im_ _) only [bs, rs76, Nat.reduceAdd, ↓reduceIte, binD_eql_k, binD_neq_k, lenD_str u9, hg, ↓h14', h17, ↓h18']
   refine ⟨rfl, ?_⟩
   exact finish_is (ds := [iv (w64 (s5 + (1 : Int)))]) (x := .v (.int .i64 (w64 (s5 + (1 : Int))))) (y := .v (.int .i64 (w64 (s5 + (1 : Int))))) (l := []) rfl rfl rfl rfl (by first | rfl | (simp only [wk, wks, wkL]; first | done | rfl))
  ·rw [if_neg h18] at h
   have h18' : decide (q15 = (10 : Int)) = false := decide_eq_false h18
   obtain rfl := Option.some.inj h
   simp (maxSteps := 10000000) (implicitDefEqProofs := false) (disch := first | assumption | omega | exact rfl | exact im_ _) only [bs, rs76, Nat.reduceAdd, ↓reduceIte, binD_eql_k, binD_neq_k, lenD_str u9, hg, ↓h14', h17, ↓h18']
   exact ⟨rfl, by kernel_rfl⟩
 ·rw [if_neg h14] at h
  have h14' : decide (s5 < (s0.size : Int)) = false := decide_eq_false h14
  obtain rfl := Option.some.inj h
  simp (maxSteps := 10000000) (implicitDefEqProofs := false) (disch := first | assumption | omega | exact rfl | exact im_ _) only [bs, rs76, Nat.reduceAdd, ↓reduceIte, binD_eql_k, binD_neq_k, lenD_str u9, hg, ↓h14']
  exact ⟨rfl, rfl, by kernel_rfl⟩
theorem f76_ok  (x0 : ByteArray) (x1 : Int) (r : Int) (h : R04_step x0 x1 = some r) : callW Tryd.prog A0 76 [.p (.v (.string x0)), iv x1] [] = some (.p (.v (.int .i64 r)), []) := by
 refine call_ofH (fn := Tryd.f76) (c := bodyOf Tryd.f76) rfl rfl (by kernel_rfl) (by kernel_rfl) ?_
 rw [show initS Tryd.f76 [.p (.v (.string x0)), iv x1] [] = ⟨.p (.v (.string x0)) :: iv x1 :: List.replicate 60 undefD, [], 0⟩ from by kernel_rfl]
 unfold R04_step at h
 unfold bodyOf Tryd.f76; simp only [Option.getD_some, loopsOf, List.append_nil, List.nil_append, List.cons_append, List.getD_cons_zero, List.getD_cons_succ]
 simp only [List.replicate]
 by_cases h1 : (x0.size : Int) ≤ x1
 ·rw [if_pos h1] at h
  have h1' : decide ((x0.size : Int) ≤ x1) = true := decide_eq_true h1
  obtain rfl := Option.some.inj h
  simp (maxSteps := 10000000) (implicitDefEqProofs := false) (disch := first | assumption | omega | exact rfl | exact im_ _) only [bs, rs76, Nat.reduceAdd, ↓reduceIte, binD_eql_k, binD_neq_k, lenD_str u9, ↓h1']
  refine ⟨by first | exact .inl trivial | exact .inr trivial | simp, ?_⟩
  exact finish_is (ds := [iv x1]) (x := .v (.int .i64 x1)) (y := .v (.int .i64 x1)) (l := []) rfl rfl rfl rfl (by first | rfl | (simp only [wk, wks, wkL]; first | done | rfl))
 ·rw [if_neg h1] at h
  have h1' : decide ((x0.size : Int) ≤ x1) = false := decide_eq_false h1
  obtain ⟨q2, h3, h⟩ := bsm h
  have h4 : indexD Tryd.prog 9 (.p (.v (.string x0))) (.p (.v (.int .i64 x1))) = some (.p (.v (.int .u8 q2))) := indexD_str Tryd.underlying9 h3
  by_cases h5 : q2 = (32 : Int)
  ·rw [if_pos h5] at h
   have h5' : decide (q2 = (32 : Int)) = true := decide_eq_true h5
   obtain rfl := Option.some.inj h
   simp (maxSteps := 10000000) (implicitDefEqProofs := false) (disch := first | assumption | omega | exact rfl | exact im_ _) only [bs, rs76, Nat.reduceAdd, ↓reduceIte, binD_eql_k, binD_neq_k, lenD_str u9, ↓h1', h4, ↓h5']
   refine ⟨by first | exact .inl trivial | exact .inr trivial | simp, ?_⟩
   exact finish_is (ds := [iv (w64 (x1 + (1 : Int)))]) (x := .v (.int .i64 (w64 (x1 + (1 : Int))))) (y := .v (.int .i64 (w64 (x1 + (1 : Int))))) (l := []) rfl rfl rfl rfl (by first | rfl | (simp only [wk, wks, wkL]; first | done | rfl))
  ·rw [if_neg h5] at h
   have h5' : decide (q2 = (32 : Int)) = false := decide_eq_false h5
   by_cases h6 : q2 = (9 : Int)
   ·rw [if_pos h6] at h
    have h6' : decide (q2 = (9 : Int)) = true := decide_eq_true h6
    obtain rfl := Option.some.inj h
    simp (maxSteps := 10000000) (implicitDefEqProofs := false) (disch := first | assumption | omega | exact rfl | exact im_ _) only [bs, rs76, Nat.reduceAdd, ↓reduceIte, binD_eql_k, binD_neq_k, lenD_str u9, ↓h1', h4, ↓h5', ↓h6']
    refine ⟨by first | exact .inl trivial | exact .inr trivial | simp, ?_⟩
    exact finish_is (ds := [iv (w64 (x1 + (1 : Int)))]) (x := .v (.int .i64 (w64 (x1 + (1 : Int))))) (y := .v (.int .i64 (w64 (x1 + (1 : Int))))) (l := []) rfl rfl rfl rfl (by first | rfl | (simp only [wk, wks, wkL]; first | done | rfl))
   ·rw [if_neg h6] at h
    have h6' : decide (q2 = (9 : Int)) = false := decide_eq_false h6
    by_cases h7 : q2 = (10 : Int)
    ·rw [if_pos h7] at h
     have h7' : decide (q2 = (10 : Int)) = true := decide_eq_true h7
     obtain rfl := Option.some.inj h
     simp (maxSteps := 10000000) (implicitDefEqProofs := false) (disch := first | assumption | omega | exact rfl | exact im_ _) only [bs, rs76, Nat.reduceAdd, ↓reduceIte, binD_eql_k, binD_neq_k, lenD_str u9, ↓h1', h4, ↓h5', ↓h6', ↓h7']
     refine ⟨by first | exact .inl trivial | exact .inr trivial | simp, ?_⟩
     exact finish_is (ds := [iv (w64 (x1 + (1 : Int)))]) (x := .v (.int .i64 (w64 (x1 + (1 : Int))))) (y := .v (.int .i64 (w64 (x1 + (1 : Int))))) (l := []) rfl rfl rfl rfl (by first | rfl | (simp only [wk, wks, wkL]; first | done | rfl))
    ·rw [if_neg h7] at h
     have h7' : decide (q2 = (10 : Int)) = false := decide_eq_false h7
     by_cases h8 : q2 = (47 : Int)
     ·rw [if_pos h8] at h
      have h8' : decide (q2 = (47 : Int)) = true := decide_eq_true h8
      by_cases h9 : (x0.size : Int) ≤ (w64 (x1 + (1 : Int)))
      ·rw [if_pos h9] at h
       have h9' : decide ((x0.size : Int) ≤ (w64 (x1 + (1 : Int)))) = true := decide_eq_true h9
       obtain rfl := Option.some.inj h
       simp (maxSteps := 10000000) (implicitDefEqProofs := false) (disch := first | assumption | omega | exact rfl | exact im_ _) only [bs, rs76, Nat.reduceAdd, ↓reduceIte, binD_eql_k, binD_neq_k, lenD_str u9, ↓h1', h4, ↓h5', ↓h6', ↓h7', ↓h8', ↓h9']
       refine ⟨by first | exact .inl trivial | exact .inr trivial | simp, ?_⟩
       exact finish_is (ds := [iv x1]) (x := .v (.int .i64 x1)) (y := .v (.int .i64 x1)) (l := []) rfl rfl rfl rfl (by first | rfl | (simp only [wk, wks, wkL]; first | done | rfl))
      ·rw [if_neg h9] at h
       have h9' : decide ((x0.size : Int) ≤ (w64 (x1 + (1 : Int)))) = false := decide_eq_false h9
       obtain ⟨q10, h11, h⟩ := bsm h
       have h12 : indexD Tryd.prog 9 (.p (.v (.string x0))) (.p (.v (.int .i64 (w64 (x1 + (1 : Int)))))) = some (.p (.v (.int .u8 q10))) := indexD_str Tryd.underlying9 h11
       by_cases h13 : q10 = (47 : Int)
       ·rw [if_pos h13] at h
        have h13' : decide (q10 = (47 : Int)) = true := decide_eq_true h13
        obtain ⟨o, h19, h⟩ := bsm h
        simp (maxSteps := 10000000) (implicitDefEqProofs := false) (disch := first | assumption | omega | exact rfl | exact im_ _) only [bs, rs76, Nat.reduceAdd, ↓reduceIte, binD_eql_k, binD_neq_k, lenD_str u9, ↓h1', h4, ↓h5', ↓h6', ↓h7', ↓h8', ↓h9', h12, ↓h13']
        refine Wp.ctx (fun x => seqW _ _ _ _ (blockW _ (x))) (L76_0_ok x0 x1 x1 _ o (by kernel_rfl) h19) ?_
        intro e st hq
        cases o with
        | next _ => (first | cases h | (simp at h))
        | jmp n_ s_ =>
         obtain ⟨rfl, rfl, hq⟩ := hq
         generalize s_ = s5_20 at h hq
         unfold F76_0 at hq
         (try simp only [] at h hq)
         obtain rfl := Option.some.inj h
         simp (maxSteps := 10000000) (implicitDefEqProofs := false) (disch := first | assumption | omega | exact rfl | exact im_ _) only [bs, rs76, Nat.reduceAdd, ↓reduceIte, binD_eql_k, binD_neq_k, lenD_str u9, ↓h1', h4, ↓h5', ↓h6', ↓h7', ↓h8', ↓h9', h12, ↓h13', hq]
         refine ⟨by first | exact .inl trivial | exact .inr trivial | simp, ?_⟩
         exact finish_is (ds := [iv x1]) (x := .v (.int .i64 x1)) (y := .v (.int .i64 x1)) (l := []) rfl rfl rfl rfl (by first | rfl | (simp only [wk, wks, wkL]; first | done | rfl))
        | ret r21 =>
         obtain ⟨rfl, hq⟩ := hq
         obtain rfl := Option.some.inj h
         simp (maxSteps := 10000000) (implicitDefEqProofs := false) (disch := first | assumption | omega | exact rfl | exact im_ _) only [bs, rs76, Nat.reduceAdd, ↓reduceIte, binD_eql_k, binD_neq_k, lenD_str u9]
         exact ⟨by first | exact .inl trivial | exact .inr trivial | simp, hq⟩
       ·rw [if_neg h13] at h
        have h13' : decide (q10 = (47 : Int)) = false := decide_eq_false h13
        obtain rfl := Option.some.inj h
        simp (maxSteps := 10000000) (implicitDefEqProofs := false) (disch := first | assumption | omega | exact rfl | exact im_ _) only [bs, rs76, Nat.reduceAdd, ↓reduceIte, binD_eql_k, binD_neq_k, lenD_str u9, ↓h1', h4, ↓h5', ↓h6', ↓h7', ↓h8', ↓h9', h12, ↓h13']
        refine ⟨by first | exact .inl trivial | exact .inr trivial | simp, ?_⟩
        exact finish_is (ds := [iv x1]) (x := .v (.int .i64 x1)) (y := .v (.int .i64 x1)) (l := []) rfl rfl rfl rfl (by first | rfl | (simp only [wk, wks, wkL]; first | done | rfl))
     ·rw [if_neg h8] at h
      have h8' : decide (q2 = (47 : Int)) = false := decide_eq_false h8
      obtain rfl := Option.some.inj h
      simp (maxSteps := 10000000) (implicitDefEqProofs := false) (disch := first | assumption | omega | exact rfl | exact im_ _) only [bs, rs76, Nat.reduceAdd, ↓reduceIte, binD_eql_k, binD_neq_k, lenD_str u9, ↓h1', h4, ↓h5', ↓h6', ↓h7', ↓h8']
      refine ⟨by first | exact .inl trivial | exact .inr trivial | simp, ?_⟩
      exact finish_is (ds := [iv x1]) (x := .v (.int .i64 x1)) (y := .v (.int .i64 x1)) (l := []) rfl rfl rfl rfl (by first | rfl | (simp only [wk, wks, wkL]; first | done | rfl))
theorem R04_step_call {H : List Ob} {x0 : ByteArray} {x1 : Int} {r : Int} (h : R04_step x0 x1 = some r) : callD (callW Tryd.prog A0) A0 H 76 [.p (.v (.string x0)), iv x1] = some (.p (.v (.int .i64 r)), none) :=
  callD_fun (args := [.v (.string x0), .v (.int .i64 x1)]) rfl rfl rfl (by simp only [List.map_cons, List.map_nil, wk, wks, wkL]; exact f76_ok x0 x1 _ h)
noncomputable def L64_0 : Code := (loopsOf (bodyOf Tryd.f64)).getD 0 .skip
def g64_0 : List Ghost := [.keep [0, 1]]
def F64_0 (s0 : ByteArray) : Int → St := fun s1 => ⟨[.p (.v (.string s0)), iv s1, .junk, .junk, .junk, .junk, .junk, .junk, .junk, .junk, .junk, .junk, .junk, .junk, .junk, .junk, .junk, .junk, .junk, .junk, .junk, .junk, .junk], [], 0⟩
theorem L64_0_ok (s0 : ByteArray) : ∀ s st o, ghostsD g64_0 st = some (F64_0 s0 s) → iter (R04_End_L0 s0) s = some o →
    Wp (evW Tryd.prog A0 64 (.loop L64_0) st) (OutQ (F64_0 s0) g64_0 (fun n s st => n = 0 ∧ ghostsD [.keep [0, 1]] st = some (F64_0 s0 s)) (fun r st => finishD Tryd.prog A0 64 Tryd.f64 st = some (.p (.v (.int .i64 r)), [])) o) := by
 refine Wp.iter ?_
 intro s st o hg h
 generalize s = s1 at hg h
 unfold R04_End_L0 at h
 unfold g64_0 F64_0 at hg ⊢
 (try simp only [] at h hg)
 unfold L64_0 bodyOf Tryd.f64; simp only [Option.getD_some, loopsOf, List.append_nil, List.nil_append, List.cons_append, List.getD_cons_zero, List.getD_cons_succ]
 obtain ⟨r3, h4, h⟩ := bsm h
 have h5 : ∀ H, callD (callW Tryd.prog A0) A0 H 76 [.p (.v (.string s0)), iv s1] = some (.p (.v (.int .i64 r3)), none) := fun H => R04_step_call h4
 by_cases h6 : s1 < r3
 ·rw [if_pos h6] at h
  have h6' : decide (s1 < r3) = true := decide_eq_true h6
  obtain rfl := Option.some.inj h
  simp (maxSteps := 10000000) (implicitDefEqProofs := false) (disch := first | assumption | omega | exact rfl | exact im_ _) only [bs, rs64, Nat.reduceAdd, ↓reduceIte, lenD_str u9, hg, h5, ↓h6']
  exact ⟨rfl, by kernel_rfl⟩
 ·rw [if_neg h6] at h
  have h6' : decide (s1 < r3) = false := decide_eq_false h6
  obtain rfl := Option.some.inj h
  simp (maxSteps := 10000000) (implicitDefEqProofs := false) (disch := first | assumption | omega | exact rfl | exact im_ _) only [bs, rs64, Nat.reduceAdd, ↓reduceIte, lenD_str u9, hg, h5, ↓h6']
  exact ⟨rfl, rfl, by kernel_rfl⟩
theorem f64_ok  (x0 : ByteArray) (x1 : Int) (r : Int) (h : R04_End x0 x1 = some r) : callW Tryd.prog A0 64 [.p (.v (.string x0)), iv x1] [] = some (.p (.v (.int .i64 r)), []) := by
 refine call_ofH (fn := Tryd.f64) (c := bodyOf Tryd.f64) rfl rfl (by kernel_rfl) (by kernel_rfl) ?_
 rw [show initS Tryd.f64 [.p (.v (.string x0)), iv x1] [] = ⟨.p (.v (.string x0)) :: iv x1 :: List.replicate 21 undefD, [], 0⟩ from by kernel_rfl]
 unfold R04_End at h
 unfold bodyOf Tryd.f64; simp only [Option.getD_some, loopsOf, List.append_nil, List.nil_append, List.cons_append, List.getD_cons_zero, List.getD_cons_succ]
 simp only [List.replicate]
 by_cases h1 : x1 < (0 : Int)
 ·rw [if_pos h1] at h
  have h1' : decide (x1 < (0 : Int)) = true := decide_eq_true h1
  obtain rfl := Option.some.inj h
  simp (maxSteps := 10000000) (implicitDefEqProofs := false) (disch := first | assumption | omega | exact rfl | exact im_ _) only [bs, rs64, Nat.reduceAdd, ↓reduceIte, lenD_str u9, ↓h1']
  refine ⟨by first | exact .inl trivial | exact .inr trivial | simp, ?_⟩
  exact finish_is (ds := [iv x1]) (x := .v (.int .i64 x1)) (y := .v (.int .i64 x1)) (l := []) rfl rfl rfl rfl (by first | rfl | (simp only [wk, wks, wkL]; first | done | rfl))
 ·rw [if_neg h1] at h
  have h1' : decide (x1 < (0 : Int)) = false := decide_eq_false h1
  by_cases h2 : (x0.size : Int) < x1
  ·rw [if_pos h2] at h
   have h2' : decide ((x0.size : Int) < x1) = true := decide_eq_true h2
   obtain rfl := Option.some.inj h
   simp (maxSteps := 10000000) (implicitDefEqProofs := false) (disch := first | assumption | omega | exact rfl | exact im_ _) only [bs, rs64, Nat.reduceAdd, ↓reduceIte, lenD_str u9, ↓h1', ↓h2']
   refine ⟨by first | exact .inl trivial | exact .inr trivial | simp, ?_⟩
   exact finish_is (ds := [iv x1]) (x := .v (.int .i64 x1)) (y := .v (.int .i64 x1)) (l := []) rfl rfl rfl rfl (by first | rfl | (simp only [wk, wks, wkL]; first | done | rfl))
  ·rw [if_neg h2] at h
   have h2' : decide ((x0.size : Int) < x1) = false := decide_eq_false h2
   obtain ⟨o, h10, h⟩ := bsm h
   simp (maxSteps := 10000000) (implicitDefEqProofs := false) (disch := first | assumption | omega | exact rfl | exact im_ _) only [bs, rs64, Nat.reduceAdd, ↓reduceIte, lenD_str u9, ↓h1', ↓h2']
   refine Wp.ctx (fun x => seqW _ _ _ _ (blockW _ (x))) (L64_0_ok x0 x1 _ o (by kernel_rfl) h10) ?_
   intro e st hq
   cases o with
   | next _ => (first | cases h | (simp at h))
   | jmp n_ s_ =>
    obtain ⟨rfl, rfl, hq⟩ := hq
    generalize s_ = s1_11 at h hq
    unfold F64_0 at hq
    (try simp only [] at h hq)
    obtain rfl := Option.some.inj h
    simp (maxSteps := 10000000) (implicitDefEqProofs := false) (disch := first | assumption | omega | exact rfl | exact im_ _) only [bs, rs64, Nat.reduceAdd, ↓reduceIte, lenD_str u9, ↓h1', ↓h2', hq]
    refine ⟨by first | exact .inl trivial | exact .inr trivial | simp, ?_⟩
    exact finish_is (ds := [iv s1_11]) (x := .v (.int .i64 s1_11)) (y := .v (.int .i64 s1_11)) (l := []) rfl rfl rfl rfl (by first | rfl | (simp only [wk, wks, wkL]; first | done | rfl))
   | ret _ => (first | cases h | (simp at h))
theorem R04_End_call {H : List Ob} {x0 : ByteArray} {x1 : Int} {r : Int} (h : R04_End x0 x1 = some r) : callD (callW Tryd.prog A0) A0 H 64 [.p (.v (.string x0)), iv x1] = some (.p (.v (.int .i64 r)), none) :=
  callD_fun (args := [.v (.string x0), .v (.int .i64 x1)]) rfl rfl rfl (by simp only [List.map_cons, List.map_nil, wk, wks, wkL]; exact f64_ok x0 x1 _ h)
theorem f52_ok  (x0 : ByteArray) (r : Bool) (h : R04_Valid x0 = some r) : callW Tryd.prog A0 52 [.p (.v (.string x0))] [] = some (.p (.v (.bool r)), []) := by
 refine call_ofH (fn := Tryd.f52) (c := bodyOf Tryd.f52) rfl rfl (by kernel_rfl) (by kernel_rfl) ?_
 rw [show initS Tryd.f52 [.p (.v (.string x0))] [] = ⟨.p (.v (.string x0)) :: List.replicate 7 undefD, [], 0⟩ from by kernel_rfl]
 unfold R04_Valid at h
 unfold bodyOf Tryd.f52; simp only [Option.getD_some, loopsOf, List.append_nil, List.nil_append, List.cons_append, List.getD_cons_zero, List.getD_cons_succ]
 simp only [List.replicate]
 obtain ⟨r1, h2, h⟩ := bsm h
 have h3 : ∀ H, callD (callW Tryd.prog A0) A0 H 64 [.p (.v (.string x0)), iv (0 : Int)] = some (.p (.v (.int .i64 r1)), none) := fun H => R04_End_call h2
 obtain rfl := Option.some.inj h
 simp (maxSteps := 10000000) (implicitDefEqProofs := false) (disch := first | assumption | omega | exact rfl | exact im_ _) only [bs, rs52, Nat.reduceAdd, ↓reduceIte, lenD_str u9, h3]
 refine ⟨by first | exact .inl trivial | exact .inr trivial | simp, ?_⟩
 exact finish_is (ds := [bv (decide (r1 = (x0.size : Int)))]) (x := .v (.bool (decide (r1 = (x0.size : Int))))) (y := .v (.bool (decide (r1 = (x0.size : Int))))) (l := []) rfl rfl rfl rfl (by first | rfl | (simp only [wk, wks, wkL]; first | done | rfl))
theorem R04_Valid_call {H : List Ob} {x0 : ByteArray} {r : Bool} (h : R04_Valid x0 = some r) : callD (callW Tryd.prog A0) A0 H 52 [.p (.v (.string x0))] = some (.p (.v (.bool r)), none) :=
  callD_fun (args := [.v (.string x0)]) rfl rfl rfl (by simp only [List.map_cons, List.map_nil, wk, wks, wkL]; exact f52_ok x0 _ h)
theorem f86_ok  (x0 : Int) (r : Bool) (h : R03_digit x0 = some r) : callW Tryd.prog A0 86 [.p (.v (.int .u8 x0))] [] = some (.p (.v (.bool r)), []) := by
 refine call_ofH (fn := Tryd.f86) (c := bodyOf Tryd.f86) rfl rfl (by kernel_rfl) (by kernel_rfl) ?_
 rw [show initS Tryd.f86 [.p (.v (.int .u8 x0))] [] = ⟨.p (.v (.int .u8 x0)) :: List.replicate 8 undefD, [], 0⟩ from by kernel_rfl]
 unfold R03_digit at h
 unfold bodyOf Tryd.f86; simp only [Option.getD_some, loopsOf, List.append_nil, List.nil_append, List.cons_append, List.getD_cons_zero, List.getD_cons_succ]
 simp only [List.replicate]
 by_cases h1 : (48 : Int) ≤ x0
 ·rw [if_pos h1] at h
  have h1' : decide ((48 : Int) ≤ x0) = true := decide_eq_true h1
  obtain rfl := Option.some.inj h
  simp (maxSteps := 10000000) (implicitDefEqProofs := false) (disch := first | assumption | omega | exact rfl | exact im_ _) only [bs, rs86, Nat.reduceAdd, ↓reduceIte, binD_geq_k, binD_leq_k, ↓h1']
  refine ⟨by first | exact .inl trivial | exact .inr trivial | simp, ?_⟩
  exact finish_is (ds := [bv (decide (x0 ≤ (57 : Int)))]) (x := .v (.bool (decide (x0 ≤ (57 : Int))))) (y := .v (.bool (decide (x0 ≤ (57 : Int))))) (l := []) rfl rfl rfl rfl (by first | rfl | (simp only [wk, wks, wkL]; first | done | rfl))
 ·rw [if_neg h1] at h
  have h1' : decide ((48 : Int) ≤ x0) = false := decide_eq_false h1
  obtain rfl := Option.some.inj h
  simp (maxSteps := 10000000) (implicitDefEqProofs := false) (disch := first | assumption | omega | exact rfl | exact im_ _) only [bs, rs86, Nat.reduceAdd, ↓reduceIte, binD_geq_k, binD_leq_k, ↓h1']
  refine ⟨by first | exact .inl trivial | exact .inr trivial | simp, ?_⟩
  exact finish_is (ds := [bv false]) (x := .v (.bool false)) (y := .v (.bool false)) (l := []) rfl rfl rfl rfl (by first | rfl | (simp only [wk, wks, wkL]; first | done | rfl))
theorem R03_digit_call {H : List Ob} {x0 : Int} {r : Bool} (h : R03_digit x0 = some r) : callD (callW Tryd.prog A0) A0 H 86 [.p (.v (.int .u8 x0))] = some (.p (.v (.bool r)), none) :=
  callD_fun (args := [.v (.int .u8 x0)]) rfl rfl rfl (by simp only [List.map_cons, List.map_nil, wk, wks, wkL]; exact f86_ok x0 _ h)
theorem f87_ok  (x0 : ByteArray) (r : Bool) (h : R03_Keyword x0 = some r) : callW Tryd.prog A0 87 [.p (.v (.string x0))] [] = some (.p (.v (.bool r)), []) := by
 refine call_ofH (fn := Tryd.f87) (c := bodyOf Tryd.f87) rfl rfl (by kernel_rfl) (by kernel_rfl) ?_
 rw [show initS Tryd.f87 [.p (.v (.string x0))] [] = ⟨.p (.v (.string x0)) :: List.replicate 48 undefD, [], 0⟩ from by kernel_rfl]
 unfold R03_Keyword at h
 unfold bodyOf Tryd.f87; simp only [Option.getD_some, loopsOf, List.append_nil, List.nil_append, List.cons_append, List.getD_cons_zero, List.getD_cons_succ]
 simp only [List.replicate]
 by_cases h1 : x0 = (ByteArray.mk #[102, 110])
 ·rw [if_pos h1] at h
  have h1' : decide (x0 = (ByteArray.mk #[102, 110])) = true := decide_eq_true h1
  obtain rfl := Option.some.inj h
  simp (maxSteps := 10000000) (implicitDefEqProofs := false) (disch := first | assumption | omega | exact rfl | exact im_ _) only [bs, rs87, Nat.reduceAdd, ↓reduceIte, binD_eql_str, ↓h1']
  refine ⟨by first | exact .inl trivial | exact .inr trivial | simp, ?_⟩
  exact finish_is (ds := [bv true]) (x := .v (.bool true)) (y := .v (.bool true)) (l := []) rfl rfl rfl rfl (by first | rfl | (simp only [wk, wks, wkL]; first | done | rfl))
 ·rw [if_neg h1] at h
  have h1' : decide (x0 = (ByteArray.mk #[102, 110])) = false := decide_eq_false h1
  by_cases h2 : x0 = (ByteArray.mk #[99, 108, 97, 115, 115])
  ·rw [if_pos h2] at h
   have h2' : decide (x0 = (ByteArray.mk #[99, 108, 97, 115, 115])) = true := decide_eq_true h2
   obtain rfl := Option.some.inj h
   simp (maxSteps := 10000000) (implicitDefEqProofs := false) (disch := first | assumption | omega | exact rfl | exact im_ _) only [bs, rs87, Nat.reduceAdd, ↓reduceIte, binD_eql_str, ↓h1', ↓h2']
   refine ⟨by first | exact .inl trivial | exact .inr trivial | simp, ?_⟩
   exact finish_is (ds := [bv true]) (x := .v (.bool true)) (y := .v (.bool true)) (l := []) rfl rfl rfl rfl (by first | rfl | (simp only [wk, wks, wkL]; first | done | rfl))
  ·rw [if_neg h2] at h
   have h2' : decide (x0 = (ByteArray.mk #[99, 108, 97, 115, 115])) = false := decide_eq_false h2
   by_cases h3 : x0 = (ByteArray.mk #[99, 111, 110, 115, 116])
   ·rw [if_pos h3] at h
    have h3' : decide (x0 = (ByteArray.mk #[99, 111, 110, 115, 116])) = true := decide_eq_true h3
    obtain rfl := Option.some.inj h
    simp (maxSteps := 10000000) (implicitDefEqProofs := false) (disch := first | assumption | omega | exact rfl | exact im_ _) only [bs, rs87, Nat.reduceAdd, ↓reduceIte, binD_eql_str, ↓h1', ↓h2', ↓h3']
    refine ⟨by first | exact .inl trivial | exact .inr trivial | simp, ?_⟩
    exact finish_is (ds := [bv true]) (x := .v (.bool true)) (y := .v (.bool true)) (l := []) rfl rfl rfl rfl (by first | rfl | (simp only [wk, wks, wkL]; first | done | rfl))
   ·rw [if_neg h3] at h
    have h3' : decide (x0 = (ByteArray.mk #[99, 111, 110, 115, 116])) = false := decide_eq_false h3
    by_cases h4 : x0 = (ByteArray.mk #[108, 101, 116])
    ·rw [if_pos h4] at h
     have h4' : decide (x0 = (ByteArray.mk #[108, 101, 116])) = true := decide_eq_true h4
     obtain rfl := Option.some.inj h
     simp (maxSteps := 10000000) (implicitDefEqProofs := false) (disch := first | assumption | omega | exact rfl | exact im_ _) only [bs, rs87, Nat.reduceAdd, ↓reduceIte, binD_eql_str, ↓h1', ↓h2', ↓h3', ↓h4']
     refine ⟨by first | exact .inl trivial | exact .inr trivial | simp, ?_⟩
     exact finish_is (ds := [bv true]) (x := .v (.bool true)) (y := .v (.bool true)) (l := []) rfl rfl rfl rfl (by first | rfl | (simp only [wk, wks, wkL]; first | done | rfl))
    ·rw [if_neg h4] at h
     have h4' : decide (x0 = (ByteArray.mk #[108, 101, 116])) = false := decide_eq_false h4
     by_cases h5 : x0 = (ByteArray.mk #[114, 101, 116, 117, 114, 110])
     ·rw [if_pos h5] at h
      have h5' : decide (x0 = (ByteArray.mk #[114, 101, 116, 117, 114, 110])) = true := decide_eq_true h5
      obtain rfl := Option.some.inj h
      simp (maxSteps := 10000000) (implicitDefEqProofs := false) (disch := first | assumption | omega | exact rfl | exact im_ _) only [bs, rs87, Nat.reduceAdd, ↓reduceIte, binD_eql_str, ↓h1', ↓h2', ↓h3', ↓h4', ↓h5']
      refine ⟨by first | exact .inl trivial | exact .inr trivial | simp, ?_⟩
      exact finish_is (ds := [bv true]) (x := .v (.bool true)) (y := .v (.bool true)) (l := []) rfl rfl rfl rfl (by first | rfl | (simp only [wk, wks, wkL]; first | done | rfl))
     ·rw [if_neg h5] at h
      have h5' : decide (x0 = (ByteArray.mk #[114, 101, 116, 117, 114, 110])) = false := decide_eq_false h5
      by_cases h6 : x0 = (ByteArray.mk #[105, 102])
      ·rw [if_pos h6] at h
       have h6' : decide (x0 = (ByteArray.mk #[105, 102])) = true := decide_eq_true h6
       obtain rfl := Option.some.inj h
       simp (maxSteps := 10000000) (implicitDefEqProofs := false) (disch := first | assumption | omega | exact rfl | exact im_ _) only [bs, rs87, Nat.reduceAdd, ↓reduceIte, binD_eql_str, ↓h1', ↓h2', ↓h3', ↓h4', ↓h5', ↓h6']
       refine ⟨by first | exact .inl trivial | exact .inr trivial | simp, ?_⟩
       exact finish_is (ds := [bv true]) (x := .v (.bool true)) (y := .v (.bool true)) (l := []) rfl rfl rfl rfl (by first | rfl | (simp only [wk, wks, wkL]; first | done | rfl))
      ·rw [if_neg h6] at h
       have h6' : decide (x0 = (ByteArray.mk #[105, 102])) = false := decide_eq_false h6
       by_cases h7 : x0 = (ByteArray.mk #[101, 108, 115, 101])
       ·rw [if_pos h7] at h
        have h7' : decide (x0 = (ByteArray.mk #[101, 108, 115, 101])) = true := decide_eq_true h7
        obtain rfl := Option.some.inj h
        simp (maxSteps := 10000000) (implicitDefEqProofs := false) (disch := first | assumption | omega | exact rfl | exact im_ _) only [bs, rs87, Nat.reduceAdd, ↓reduceIte, binD_eql_str, ↓h1', ↓h2', ↓h3', ↓h4', ↓h5', ↓h6', ↓h7']
        refine ⟨by first | exact .inl trivial | exact .inr trivial | simp, ?_⟩
        exact finish_is (ds := [bv true]) (x := .v (.bool true)) (y := .v (.bool true)) (l := []) rfl rfl rfl rfl (by first | rfl | (simp only [wk, wks, wkL]; first | done | rfl))
       ·rw [if_neg h7] at h
        have h7' : decide (x0 = (ByteArray.mk #[101, 108, 115, 101])) = false := decide_eq_false h7
        by_cases h8 : x0 = (ByteArray.mk #[119, 104, 105, 108, 101])
        ·rw [if_pos h8] at h
         have h8' : decide (x0 = (ByteArray.mk #[119, 104, 105, 108, 101])) = true := decide_eq_true h8
         obtain rfl := Option.some.inj h
         simp (maxSteps := 10000000) (implicitDefEqProofs := false) (disch := first | assumption | omega | exact rfl | exact im_ _) only [bs, rs87, Nat.reduceAdd, ↓reduceIte, binD_eql_str, ↓h1', ↓h2', ↓h3', ↓h4', ↓h5', ↓h6', ↓h7', ↓h8']
         refine ⟨by first | exact .inl trivial | exact .inr trivial | simp, ?_⟩
         exact finish_is (ds := [bv true]) (x := .v (.bool true)) (y := .v (.bool true)) (l := []) rfl rfl rfl rfl (by first | rfl | (simp only [wk, wks, wkL]; first | done | rfl))
        ·rw [if_neg h8] at h
         have h8' : decide (x0 = (ByteArray.mk #[119, 104, 105, 108, 101])) = false := decide_eq_false h8
         by_cases h9 : x0 = (ByteArray.mk #[110, 101, 119])
         ·rw [if_pos h9] at h
          have h9' : decide (x0 = (ByteArray.mk #[110, 101, 119])) = true := decide_eq_true h9
          obtain rfl := Option.some.inj h
          simp (maxSteps := 10000000) (implicitDefEqProofs := false) (disch := first | assumption | omega | exact rfl | exact im_ _) only [bs, rs87, Nat.reduceAdd, ↓reduceIte, binD_eql_str, ↓h1', ↓h2', ↓h3', ↓h4', ↓h5', ↓h6', ↓h7', ↓h8', ↓h9']
          refine ⟨by first | exact .inl trivial | exact .inr trivial | simp, ?_⟩
          exact finish_is (ds := [bv true]) (x := .v (.bool true)) (y := .v (.bool true)) (l := []) rfl rfl rfl rfl (by first | rfl | (simp only [wk, wks, wkL]; first | done | rfl))
         ·rw [if_neg h9] at h
          have h9' : decide (x0 = (ByteArray.mk #[110, 101, 119])) = false := decide_eq_false h9
          by_cases h10 : x0 = (ByteArray.mk #[115, 101, 108, 102])
          ·rw [if_pos h10] at h
           have h10' : decide (x0 = (ByteArray.mk #[115, 101, 108, 102])) = true := decide_eq_true h10
           obtain rfl := Option.some.inj h
           simp (maxSteps := 10000000) (implicitDefEqProofs := false) (disch := first | assumption | omega | exact rfl | exact im_ _) only [bs, rs87, Nat.reduceAdd, ↓reduceIte, binD_eql_str, ↓h1', ↓h2', ↓h3', ↓h4', ↓h5', ↓h6', ↓h7', ↓h8', ↓h9', ↓h10']
           refine ⟨by first | exact .inl trivial | exact .inr trivial | simp, ?_⟩
           exact finish_is (ds := [bv true]) (x := .v (.bool true)) (y := .v (.bool true)) (l := []) rfl rfl rfl rfl (by first | rfl | (simp only [wk, wks, wkL]; first | done | rfl))
          ·rw [if_neg h10] at h
           have h10' : decide (x0 = (ByteArray.mk #[115, 101, 108, 102])) = false := decide_eq_false h10
           by_cases h11 : x0 = (ByteArray.mk #[116, 114, 117, 101])
           ·rw [if_pos h11] at h
            have h11' : decide (x0 = (ByteArray.mk #[116, 114, 117, 101])) = true := decide_eq_true h11
            obtain rfl := Option.some.inj h
            simp (maxSteps := 10000000) (implicitDefEqProofs := false) (disch := first | assumption | omega | exact rfl | exact im_ _) only [bs, rs87, Nat.reduceAdd, ↓reduceIte, binD_eql_str, ↓h1', ↓h2', ↓h3', ↓h4', ↓h5', ↓h6', ↓h7', ↓h8', ↓h9', ↓h10', ↓h11']
            refine ⟨by first | exact .inl trivial | exact .inr trivial | simp, ?_⟩
            exact finish_is (ds := [bv true]) (x := .v (.bool true)) (y := .v (.bool true)) (l := []) rfl rfl rfl rfl (by first | rfl | (simp only [wk, wks, wkL]; first | done | rfl))
           ·rw [if_neg h11] at h
            have h11' : decide (x0 = (ByteArray.mk #[116, 114, 117, 101])) = false := decide_eq_false h11
            obtain rfl := Option.some.inj h
            simp (maxSteps := 10000000) (implicitDefEqProofs := false) (disch := first | assumption | omega | exact rfl | exact im_ _) only [bs, rs87, Nat.reduceAdd, ↓reduceIte, binD_eql_str, ↓h1', ↓h2', ↓h3', ↓h4', ↓h5', ↓h6', ↓h7', ↓h8', ↓h9', ↓h10', ↓h11']
            refine ⟨by first | exact .inl trivial | exact .inr trivial | simp, ?_⟩
            exact finish_is (ds := [bv (decide (x0 = (ByteArray.mk #[102, 97, 108, 115, 101])))]) (x := .v (.bool (decide (x0 = (ByteArray.mk #[102, 97, 108, 115, 101]))))) (y := .v (.bool (decide (x0 = (ByteArray.mk #[102, 97, 108, 115, 101]))))) (l := []) rfl rfl rfl rfl (by first | rfl | (simp only [wk, wks, wkL]; first | done | rfl))
theorem R03_Keyword_call {H : List Ob} {x0 : ByteArray} {r : Bool} (h : R03_Keyword x0 = some r) : callD (callW Tryd.prog A0) A0 H 87 [.p (.v (.string x0))] = some (.p (.v (.bool r)), none) :=
  callD_fun (args := [.v (.string x0)]) rfl rfl rfl (by simp only [List.map_cons, List.map_nil, wk, wks, wkL]; exact f87_ok x0 _ h)
theorem f88_ok  (x0 : Int) (r : Bool) (h : R03_letter x0 = some r) : callW Tryd.prog A0 88 [.p (.v (.int .u8 x0))] [] = some (.p (.v (.bool r)), []) := by
 refine call_ofH (fn := Tryd.f88) (c := bodyOf Tryd.f88) rfl rfl (by kernel_rfl) (by kernel_rfl) ?_
 rw [show initS Tryd.f88 [.p (.v (.int .u8 x0))] [] = ⟨.p (.v (.int .u8 x0)) :: List.replicate 20 undefD, [], 0⟩ from by kernel_rfl]
 unfold R03_letter at h
 unfold bodyOf Tryd.f88; simp only [Option.getD_some, loopsOf, List.append_nil, List.nil_append, List.cons_append, List.getD_cons_zero, List.getD_cons_succ]
 simp only [List.replicate]
 by_cases h1 : (97 : Int) ≤ x0
 ·rw [if_pos h1] at h
  have h1' : decide ((97 : Int) ≤ x0) = true := decide_eq_true h1
  by_cases h2 : x0 ≤ (122 : Int)
  ·rw [if_pos h2] at h
   have h2' : decide (x0 ≤ (122 : Int)) = true := decide_eq_true h2
   obtain rfl := Option.some.inj h
   simp (maxSteps := 10000000) (implicitDefEqProofs := false) (disch := first | assumption | omega | exact rfl | exact im_ _) only [bs, rs88, Nat.reduceAdd, ↓reduceIte, binD_eql_k, binD_geq_k, binD_leq_k, ↓h1', ↓h2']
   refine ⟨by first | exact .inl trivial | exact .inr trivial | simp, ?_⟩
   exact finish_is (ds := [bv true]) (x := .v (.bool true)) (y := .v (.bool true)) (l := []) rfl rfl rfl rfl (by first | rfl | (simp only [wk, wks, wkL]; first | done | rfl))
  ·rw [if_neg h2] at h
   have h2' : decide (x0 ≤ (122 : Int)) = false := decide_eq_false h2
   by_cases h3 : (65 : Int) ≤ x0
   ·rw [if_pos h3] at h
    have h3' : decide ((65 : Int) ≤ x0) = true := decide_eq_true h3
    by_cases h4 : x0 ≤ (90 : Int)
    ·rw [if_pos h4] at h
     have h4' : decide (x0 ≤ (90 : Int)) = true := decide_eq_true h4
     obtain rfl := Option.some.inj h
     simp (maxSteps := 10000000) (implicitDefEqProofs := false) (disch := first | assumption | omega | exact rfl | exact im_ _) only [bs, rs88, Nat.reduceAdd, ↓reduceIte, binD_eql_k, binD_geq_k, binD_leq_k, ↓h1', ↓h2', ↓h3', ↓h4']
     refine ⟨by first | exact .inl trivial | exact .inr trivial | simp, ?_⟩
     exact finish_is (ds := [bv true]) (x := .v (.bool true)) (y := .v (.bool true)) (l := []) rfl rfl rfl rfl (by first | rfl | (simp only [wk, wks, wkL]; first | done | rfl))
    ·rw [if_neg h4] at h
     have h4' : decide (x0 ≤ (90 : Int)) = false := decide_eq_false h4
     obtain rfl := Option.some.inj h
     simp (maxSteps := 10000000) (implicitDefEqProofs := false) (disch := first | assumption | omega | exact rfl | exact im_ _) only [bs, rs88, Nat.reduceAdd, ↓reduceIte, binD_eql_k, binD_geq_k, binD_leq_k, ↓h1', ↓h2', ↓h3', ↓h4']
     refine ⟨by first | exact .inl trivial | exact .inr trivial | simp, ?_⟩
     exact finish_is (ds := [bv (decide (x0 = (95 : Int)))]) (x := .v (.bool (decide (x0 = (95 : Int))))) (y := .v (.bool (decide (x0 = (95 : Int))))) (l := []) rfl rfl rfl rfl (by first | rfl | (simp only [wk, wks, wkL]; first | done | rfl))
   ·rw [if_neg h3] at h
    have h3' : decide ((65 : Int) ≤ x0) = false := decide_eq_false h3
    obtain rfl := Option.some.inj h
    simp (maxSteps := 10000000) (implicitDefEqProofs := false) (disch := first | assumption | omega | exact rfl | exact im_ _) only [bs, rs88, Nat.reduceAdd, ↓reduceIte, binD_eql_k, binD_geq_k, binD_leq_k, ↓h1', ↓h2', ↓h3']
    refine ⟨by first | exact .inl trivial | exact .inr trivial | simp, ?_⟩
    exact finish_is (ds := [bv (decide (x0 = (95 : Int)))]) (x := .v (.bool (decide (x0 = (95 : Int))))) (y := .v (.bool (decide (x0 = (95 : Int))))) (l := []) rfl rfl rfl rfl (by first | rfl | (simp only [wk, wks, wkL]; first | done | rfl))
 ·rw [if_neg h1] at h
  have h1' : decide ((97 : Int) ≤ x0) = false := decide_eq_false h1
  by_cases h5 : (65 : Int) ≤ x0
  ·rw [if_pos h5] at h
   have h5' : decide ((65 : Int) ≤ x0) = true := decide_eq_true h5
   by_cases h6 : x0 ≤ (90 : Int)
   ·rw [if_pos h6] at h
    have h6' : decide (x0 ≤ (90 : Int)) = true := decide_eq_true h6
    obtain rfl := Option.some.inj h
    simp (maxSteps := 10000000) (implicitDefEqProofs := false) (disch := first | assumption | omega | exact rfl | exact im_ _) only [bs, rs88, Nat.reduceAdd, ↓reduceIte, binD_eql_k, binD_geq_k, binD_leq_k, ↓h1', ↓h5', ↓h6']
    refine ⟨by first | exact .inl trivial | exact .inr trivial | simp, ?_⟩
    exact finish_is (ds := [bv true]) (x := .v (.bool true)) (y := .v (.bool true)) (l := []) rfl rfl rfl rfl (by first | rfl | (simp only [wk, wks, wkL]; first | done | rfl))
   ·rw [if_neg h6] at h
    have h6' : decide (x0 ≤ (90 : Int)) = false := decide_eq_false h6
    obtain rfl := Option.some.inj h
    simp (maxSteps := 10000000) (implicitDefEqProofs := false) (disch := first | assumption | omega | exact rfl | exact im_ _) only [bs, rs88, Nat.reduceAdd, ↓reduceIte, binD_eql_k, binD_geq_k, binD_leq_k, ↓h1', ↓h5', ↓h6']
    refine ⟨by first | exact .inl trivial | exact .inr trivial | simp, ?_⟩
    exact finish_is (ds := [bv (decide (x0 = (95 : Int)))]) (x := .v (.bool (decide (x0 = (95 : Int))))) (y := .v (.bool (decide (x0 = (95 : Int))))) (l := []) rfl rfl rfl rfl (by first | rfl | (simp only [wk, wks, wkL]; first | done | rfl))
  ·rw [if_neg h5] at h
   have h5' : decide ((65 : Int) ≤ x0) = false := decide_eq_false h5
   obtain rfl := Option.some.inj h
   simp (maxSteps := 10000000) (implicitDefEqProofs := false) (disch := first | assumption | omega | exact rfl | exact im_ _) only [bs, rs88, Nat.reduceAdd, ↓reduceIte, binD_eql_k, binD_geq_k, binD_leq_k, ↓h1', ↓h5']
   refine ⟨by first | exact .inl trivial | exact .inr trivial | simp, ?_⟩
   exact finish_is (ds := [bv (decide (x0 = (95 : Int)))]) (x := .v (.bool (decide (x0 = (95 : Int))))) (y := .v (.bool (decide (x0 = (95 : Int))))) (l := []) rfl rfl rfl rfl (by first | rfl | (simp only [wk, wks, wkL]; first | done | rfl))
theorem R03_letter_call {H : List Ob} {x0 : Int} {r : Bool} (h : R03_letter x0 = some r) : callD (callW Tryd.prog A0) A0 H 88 [.p (.v (.int .u8 x0))] = some (.p (.v (.bool r)), none) :=
  callD_fun (args := [.v (.int .u8 x0)]) rfl rfl rfl (by simp only [List.map_cons, List.map_nil, wk, wks, wkL]; exact f88_ok x0 _ h)
noncomputable def L73_0 : Code := (loopsOf (bodyOf Tryd.f73)).getD 0 .skip
def g73_0 : List Ghost := [.keep [0, 3]]
def F73_0 (s0 : ByteArray) : Int → St := fun s3 => ⟨[.p (.v (.string s0)), .junk, .junk, iv s3, .junk, .junk, .junk, .junk, .junk, .junk, .junk, .junk, .junk, .junk, .junk, .junk, .junk, .junk, .junk, .junk, .junk, .junk, .junk, .junk, .junk, .junk, .junk, .junk, .junk, .junk, .junk, .junk, .junk, .junk, .junk, .junk, .junk, .junk, .junk], [], 0⟩
theorem L73_0_ok (s0 : ByteArray) : ∀ s st o, ghostsD g73_0 st = some (F73_0 s0 s) → iter (R03_Valid_L0 s0) s = some o →
    Wp (evW Tryd.prog A0 73 (.loop L73_0) st) (OutQ (F73_0 s0) g73_0 (fun n s st => n = 0 ∧ ghostsD [.keep [0, 3]] st = some (F73_0 s0 s)) (fun r st => finishD Tryd.prog A0 73 Tryd.f73 st = some (.p (.v (.bool r)), [])) o) := by
 refine Wp.iter ?_
 intro s st o hg h
 generalize s = s3 at hg h
 unfold R03_Valid_L0 at h
 unfold g73_0 F73_0 at hg ⊢
 (try simp only [] at h hg)
 unfold L73_0 bodyOf Tryd.f73; simp only [Option.getD_some, loopsOf, List.append_nil, List.nil_append, List.cons_append, List.getD_cons_zero, List.getD_cons_succ]
 by_cases h14 : s3 < (s0.size : Int)
 ·rw [if_pos h14] at h
  have h14' : decide (s3 < (s0.size : Int)) = true := decide_eq_true h14
  obtain ⟨q15, h16, h⟩ := bsm h
  have h17 : indexD Tryd.prog 9 (.p (.v (.string s0))) (.p (.v (.int .i64 s3))) = some (.p (.v (.int .u8 q15))) := indexD_str Tryd.underlying9 h16
  obtain ⟨r18, h19, h⟩ := bsm h
  have h20 : ∀ H, callD (callW Tryd.prog A0) A0 H 88 [.p (.v (.int .u8 q15))] = some (.p (.v (.bool r18)), none) := fun H => R03_letter_call h19
  by_cases h21 : r18 = true
  ·rw [if_pos h21] at h
   obtain rfl := Option.some.inj h
   simp (maxSteps := 10000000) (implicitDefEqProofs := false) (disch := first | assumption | omega | exact rfl | exact im_ _) only [bs, rs73, Nat.reduceAdd, ↓reduceIte, lenD_str u9, hg, ↓h14', h17, h20, h21]
   exact ⟨rfl, by kernel_rfl⟩
  ·rw [if_neg h21] at h
   replace h21 := Bool.eq_false_iff.2 h21
   obtain ⟨r22, h23, h⟩ := bsm h
   have h24 : ∀ H, callD (callW Tryd.prog A0) A0 H 86 [.p (.v (.int .u8 q15))] = some (.p (.v (.bool r22)), none) := fun H => R03_digit_call h23
   by_cases h25 : r22 = true
   ·rw [if_pos h25] at h
    obtain rfl := Option.some.inj h
    simp (maxSteps := 10000000) (implicitDefEqProofs := false) (disch := first | assumption | omega | exact rfl | exact im_ _) only [bs, rs73, Nat.reduceAdd, ↓reduceIte, lenD_str u9, hg, ↓h14', h17, h20, h21, h24, h25]
    exact ⟨rfl, by kernel_rfl⟩
   ·rw [if_neg h25] at h
    replace h25 := Bool.eq_false_iff.2 h25
    obtain rfl := Option.some.inj h
    simp (maxSteps := 10000000) (implicitDefEqProofs := false) (disch := first | assumption | omega | exact rfl | exact im_ _) only [bs, rs73, Nat.reduceAdd, ↓reduceIte, lenD_str u9, hg, ↓h14', h17, h20, h21, h24, h25]
    refine ⟨rfl, ?_⟩
    exact finish_is (ds := [bv false]) (x := .v (.bool false)) (y := .v (.bool false)) (l := []) rfl rfl rfl rfl (by first | rfl | (simp only [wk, wks, wkL]; first | done | rfl))
 ·rw [if_neg h14] at h
  have h14' : decide (s3 < (s0.size : Int)) = false := decide_eq_false h14
  obtain rfl := Option.some.inj h
  simp (maxSteps := 10000000) (implicitDefEqProofs := false) (disch := first | assumption | omega | exact rfl | exact im_ _) only [bs, rs73, Nat.reduceAdd, ↓reduceIte, lenD_str u9, hg, ↓h14']
  exact ⟨rfl, rfl, by kernel_rfl⟩
theorem f73_ok  (x0 : ByteArray) (r : Bool) (h : R03_Valid x0 = some r) : callW Tryd.prog A0 73 [.p (.v (.string x0))] [] = some (.p (.v (.bool r)), []) := by
 refine call_ofH (fn := Tryd.f73) (c := bodyOf Tryd.f73) rfl rfl (by kernel_rfl) (by kernel_rfl) ?_
 rw [show initS Tryd.f73 [.p (.v (.string x0))] [] = ⟨.p (.v (.string x0)) :: List.replicate 38 undefD, [], 0⟩ from by kernel_rfl]
 unfold R03_Valid at h
 unfold bodyOf Tryd.f73; simp only [Option.getD_some, loopsOf, List.append_nil, List.nil_append, List.cons_append, List.getD_cons_zero, List.getD_cons_succ]
 simp only [List.replicate]
 by_cases h1 : (x0.size : Int) < (1 : Int)
 ·rw [if_pos h1] at h
  have h1' : decide ((x0.size : Int) < (1 : Int)) = true := decide_eq_true h1
  obtain rfl := Option.some.inj h
  simp (maxSteps := 10000000) (implicitDefEqProofs := false) (disch := first | assumption | omega | exact rfl | exact im_ _) only [bs, rs73, Nat.reduceAdd, ↓reduceIte, lenD_str u9, ↓h1']
  refine ⟨by first | exact .inl trivial | exact .inr trivial | simp, ?_⟩
  exact finish_is (ds := [bv false]) (x := .v (.bool false)) (y := .v (.bool false)) (l := []) rfl rfl rfl rfl (by first | rfl | (simp only [wk, wks, wkL]; first | done | rfl))
 ·rw [if_neg h1] at h
  have h1' : decide ((x0.size : Int) < (1 : Int)) = false := decide_eq_false h1
  by_cases h2 : (32 : Int) < (x0.size : Int)
  ·rw [if_pos h2] at h
   have h2' : decide ((32 : Int) < (x0.size : Int)) = true := decide_eq_true h2
   obtain rfl := Option.some.inj h
   simp (maxSteps := 10000000) (implicitDefEqProofs := false) (disch := first | assumption | omega | exact rfl | exact im_ _) only [bs, rs73, Nat.reduceAdd, ↓reduceIte, lenD_str u9, ↓h1', ↓h2']
   refine ⟨by first | exact .inl trivial | exact .inr trivial | simp, ?_⟩
   exact finish_is (ds := [bv false]) (x := .v (.bool false)) (y := .v (.bool false)) (l := []) rfl rfl rfl rfl (by first | rfl | (simp only [wk, wks, wkL]; first | done | rfl))
  ·rw [if_neg h2] at h
   have h2' : decide ((32 : Int) < (x0.size : Int)) = false := decide_eq_false h2
   obtain ⟨q3, h4, h⟩ := bsm h
   have h5 : indexD Tryd.prog 9 (.p (.v (.string x0))) (.p (.v (.int .i64 (0 : Int)))) = some (.p (.v (.int .u8 q3))) := indexD_str Tryd.underlying9 h4
   obtain ⟨r6, h7, h⟩ := bsm h
   have h8 : ∀ H, callD (callW Tryd.prog A0) A0 H 86 [.p (.v (.int .u8 q3))] = some (.p (.v (.bool r6)), none) := fun H => R03_digit_call h7
   by_cases h9 : r6 = true
   ·rw [if_pos h9] at h
    obtain rfl := Option.some.inj h
    simp (maxSteps := 10000000) (implicitDefEqProofs := false) (disch := first | assumption | omega | exact rfl | exact im_ _) only [bs, rs73, Nat.reduceAdd, ↓reduceIte, lenD_str u9, ↓h1', ↓h2', h5, h8, h9]
    refine ⟨by first | exact .inl trivial | exact .inr trivial | simp, ?_⟩
    exact finish_is (ds := [bv false]) (x := .v (.bool false)) (y := .v (.bool false)) (l := []) rfl rfl rfl rfl (by first | rfl | (simp only [wk, wks, wkL]; first | done | rfl))
   ·rw [if_neg h9] at h
    replace h9 := Bool.eq_false_iff.2 h9
    obtain ⟨r10, h11, h⟩ := bsm h
    have h12 : ∀ H, callD (callW Tryd.prog A0) A0 H 87 [.p (.v (.string x0))] = some (.p (.v (.bool r10)), none) := fun H => R03_Keyword_call h11
    by_cases h13 : r10 = true
    ·rw [if_pos h13] at h
     obtain rfl := Option.some.inj h
     simp (maxSteps := 10000000) (implicitDefEqProofs := false) (disch := first | assumption | omega | exact rfl | exact im_ _) only [bs, rs73, Nat.reduceAdd, ↓reduceIte, lenD_str u9, ↓h1', ↓h2', h5, h8, h9, h12, h13]
     refine ⟨by first | exact .inl trivial | exact .inr trivial | simp, ?_⟩
     exact finish_is (ds := [bv false]) (x := .v (.bool false)) (y := .v (.bool false)) (l := []) rfl rfl rfl rfl (by first | rfl | (simp only [wk, wks, wkL]; first | done | rfl))
    ·rw [if_neg h13] at h
     replace h13 := Bool.eq_false_iff.2 h13
     obtain ⟨o, h26, h⟩ := bsm h
     simp (maxSteps := 10000000) (implicitDefEqProofs := false) (disch := first | assumption | omega | exact rfl | exact im_ _) only [bs, rs73, Nat.reduceAdd, ↓reduceIte, lenD_str u9, ↓h1', ↓h2', h5, h8, h9, h12, h13]
     refine Wp.ctx (fun x => seqW _ _ _ _ (blockW _ (x))) (L73_0_ok x0 (0 : Int) _ o (by kernel_rfl) h26) ?_
     intro e st hq
     cases o with
     | next _ => (first | cases h | (simp at h))
     | jmp n_ s_ =>
      obtain ⟨rfl, rfl, hq⟩ := hq
      generalize s_ = s3_27 at h hq
      unfold F73_0 at hq
      (try simp only [] at h hq)
      obtain rfl := Option.some.inj h
      simp (maxSteps := 10000000) (implicitDefEqProofs := false) (disch := first | assumption | omega | exact rfl | exact im_ _) only [bs, rs73, Nat.reduceAdd, ↓reduceIte, lenD_str u9, ↓h1', ↓h2', h5, h8, h9, h12, h13, hq]
      refine ⟨by first | exact .inl trivial | exact .inr trivial | simp, ?_⟩
      exact finish_is (ds := [bv true]) (x := .v (.bool true)) (y := .v (.bool true)) (l := []) rfl rfl rfl rfl (by first | rfl | (simp only [wk, wks, wkL]; first | done | rfl))
     | ret r28 =>
      obtain ⟨rfl, hq⟩ := hq
      obtain rfl := Option.some.inj h
      simp (maxSteps := 10000000) (implicitDefEqProofs := false) (disch := first | assumption | omega | exact rfl | exact im_ _) only [bs, rs73, Nat.reduceAdd, ↓reduceIte, lenD_str u9]
      exact ⟨by first | exact .inl trivial | exact .inr trivial | simp, hq⟩
theorem R03_Valid_call {H : List Ob} {x0 : ByteArray} {r : Bool} (h : R03_Valid x0 = some r) : callD (callW Tryd.prog A0) A0 H 73 [.p (.v (.string x0))] = some (.p (.v (.bool r)), none) :=
  callD_fun (args := [.v (.string x0)]) rfl rfl rfl (by simp only [List.map_cons, List.map_nil, wk, wks, wkL]; exact f73_ok x0 _ h)
def ls61 := And.intro @faP_29_0 (And.intro @faP_29_1 (And.intro @faP_29_2 (And.intro @idxL_22 (And.intro @varld_4_0_0 (And.intro @varld_4_0_1 (And.intro @varld_4_0_2 (@varlv_4_0_4)))))))
noncomputable def L61_0 : Code := (loopsOf (bodyOf Tryd.f61)).getD 0 .skip
def g61_0 : List Ghost := [.keep [1, 3]]
def F61_0 (w0_0 : Int) (w0_1 : ByteArray) (w0_2 : (List ByteArray)) (w0_3 : (List Node)) : Int → St := fun s3 => ⟨[.junk, .ptr 0 0, .junk, iv s3, .junk, .junk, .junk, .junk, .junk, .junk, .junk, .junk, .junk, .junk, .junk, .junk, .junk, .junk, .junk, .junk, .junk, .junk, .junk, .junk, .junk, .junk, .junk, .junk, .junk, .junk, .junk, .junk, .junk, .junk, .junk, .junk, .junk, .junk, .junk, .junk, .junk, .junk, .junk, .junk, .junk, .junk, .junk, .junk, .junk, .junk, .junk, .junk, .junk, .junk, .junk, .junk, .junk], [.var [iv w0_0, .p (.v (.string w0_1)), .p (.lst false w0_2.length (encL en_str w0_2)), .p (.lst false w0_3.length (encL en_Node w0_3))]], 0⟩
theorem L61_0_ok (w0_0 : Int) (w0_1 : ByteArray) (w0_2 : (List ByteArray)) (w0_3 : (List Node)) : ∀ s st o, ghostsD g61_0 st = some (F61_0 w0_0 w0_1 w0_2 w0_3 s) → iter (R07_node_L0 w0_0 w0_1 w0_2 w0_3) s = some o →
    Wp (evW Tryd.prog A0 61 (.loop L61_0) st) (OutQ (F61_0 w0_0 w0_1 w0_2 w0_3) g61_0 (fun n s st => n = 0 ∧ ghostsD [.keep [1, 3]] st = some (F61_0 w0_0 w0_1 w0_2 w0_3 s)) (fun r st => finishD Tryd.prog A0 61 Tryd.f61 st = some (.p (.v (.int .i64 r)), [])) o) := by
 refine Wp.iter ?_
 intro s st o hg h
 generalize s = s3 at hg h
 unfold R07_node_L0 at h
 unfold g61_0 F61_0 at hg ⊢
 (try simp only [] at h hg)
 unfold L61_0 bodyOf Tryd.f61; simp only [Option.getD_some, loopsOf, List.append_nil, List.nil_append, List.cons_append, List.getD_cons_zero, List.getD_cons_succ]
 by_cases h88 : s3 < (w0_2.length : Int)
 ·rw [if_pos h88] at h
  have h88' : decide (s3 < (w0_2.length : Int)) = true := decide_eq_true h88
  obtain ⟨v89, h90, h⟩ := bsm h
  obtain ⟨h90a, h90b, _⟩ := rd_some h90
  have h91 := ce_9_x h90
  obtain ⟨r92, h93, h⟩ := bsm h
  have h94 : ∀ H, callD (callW Tryd.prog A0) A0 H 52 [.p (.v (.string v89))] = some (.p (.v (.bool r92)), none) := fun H => R04_Valid_call h93
  by_cases h95 : r92 = true
  ·rw [if_pos h95] at h
   obtain rfl := Option.some.inj h
   simp (maxSteps := 10000000) (implicitDefEqProofs := false) (disch := first | assumption | omega | exact rfl | exact im_ _) only [bs, rs61, ls61, Nat.reduceAdd, ↓reduceIte, lenD_lst u22, loadD_iptr a9, loadD_pagg a29 z29, loadD_ptr a22, loadD_ptr a3, loadD_ptr a9, hg, ↓h88', h91, h94, h95]
   exact ⟨rfl, by kernel_rfl⟩
  ·rw [if_neg h95] at h
   replace h95 := Bool.eq_false_iff.2 h95
   obtain rfl := Option.some.inj h
   simp (maxSteps := 10000000) (implicitDefEqProofs := false) (disch := first | assumption | omega | exact rfl | exact im_ _) only [bs, rs61, ls61, Nat.reduceAdd, ↓reduceIte, lenD_lst u22, loadD_iptr a9, loadD_pagg a29 z29, loadD_ptr a22, loadD_ptr a3, loadD_ptr a9, hg, ↓h88', h91, h94, h95]
   refine ⟨rfl, ?_⟩
   exact finish_is (ds := [iv (7 : Int)]) (x := .v (.int .i64 (7 : Int))) (y := .v (.int .i64 (7 : Int))) (l := []) rfl rfl rfl rfl (by first | rfl | (simp only [wk, wks, wkL]; first | done | rfl))
 ·rw [if_neg h88] at h
  have h88' : decide (s3 < (w0_2.length : Int)) = false := decide_eq_false h88
  obtain rfl := Option.some.inj h
  simp (maxSteps := 10000000) (implicitDefEqProofs := false) (disch := first | assumption | omega | exact rfl | exact im_ _) only [bs, rs61, ls61, Nat.reduceAdd, ↓reduceIte, lenD_lst u22, loadD_iptr a9, loadD_pagg a29 z29, loadD_ptr a22, loadD_ptr a3, loadD_ptr a9, hg, ↓h88']
  exact ⟨rfl, rfl, by kernel_rfl⟩
theorem f61_ok  (x0 : Node) (r : Int) (h : R07_node x0 = some r) : callW Tryd.prog A0 61 [.p (.agg [.v (.int .i64 x0.Kind), .v (.string x0.Text), .lst false x0.Gaps.length (encL en_str x0.Gaps), .lst false x0.Kids.length (encL en_Node x0.Kids)])] [] = some (.p (.v (.int .i64 r)), []) := by
 refine call_ofH (fn := Tryd.f61) (c := bodyOf Tryd.f61) rfl rfl (by kernel_rfl) (by kernel_rfl) ?_
 rw [show initS Tryd.f61 [.p (.agg [.v (.int .i64 x0.Kind), .v (.string x0.Text), .lst false x0.Gaps.length (encL en_str x0.Gaps), .lst false x0.Kids.length (encL en_Node x0.Kids)])] [] = ⟨.p (.agg [.v (.int .i64 x0.Kind), .v (.string x0.Text), .lst false x0.Gaps.length (encL en_str x0.Gaps), .lst false x0.Kids.length (encL en_Node x0.Kids)]) :: List.replicate 56 undefD, [], 0⟩ from by kernel_rfl]
 unfold R07_node at h
 unfold bodyOf Tryd.f61; simp only [Option.getD_some, loopsOf, List.append_nil, List.nil_append, List.cons_append, List.getD_cons_zero, List.getD_cons_succ]
 simp only [List.replicate]
 obtain ⟨r1, h2, h⟩ := bsm h
 have h3 : ∀ H, callD (callW Tryd.prog A0) A0 H 70 [.p (.agg [.v (.int .i64 x0.Kind), .v (.string x0.Text), .lst false x0.Gaps.length (encL en_str x0.Gaps), .lst false x0.Kids.length (encL en_Node x0.Kids)])] = some (.p (.v (.bool r1)), none) := fun H => R07_shape_call h2
 by_cases h4 : r1 = true
 ·rw [if_pos h4] at h
  by_cases h5 : x0.Kind = (17 : Int)
  ·rw [if_pos h5] at h
   have h5' : decide (x0.Kind = (17 : Int)) = true := decide_eq_true h5
   obtain ⟨r6, h7, h⟩ := bsm h
   have h8 : ∀ H, callD (callW Tryd.prog A0) A0 H 71 [.p (.v (.string x0.Text))] = some (.p (.v (.bool r6)), none) := fun H => R07_Integer_call h7
   by_cases h9 : r6 = true
   ·rw [if_pos h9] at h
    by_cases h10 : (0 : Int) < (x0.Gaps.length : Int)
    ·rw [if_pos h10] at h
     have h10' : decide ((0 : Int) < (x0.Gaps.length : Int)) = true := decide_eq_true h10
     obtain ⟨r11, h12, h⟩ := bsm h
     have h13 : ∀ H, callD (callW Tryd.prog A0) A0 H 42 [.p (.agg [.v (.int .i64 x0.Kind), .v (.string x0.Text), .lst false x0.Gaps.length (encL en_str x0.Gaps), .lst false x0.Kids.length (encL en_Node x0.Kids)])] = some (.p (.v (.int .i64 r11)), none) := fun H => R07_Own_call h12
     by_cases h14 : (x0.Gaps.length : Int) = r11
     ·rw [if_pos h14] at h
      have h14' : decide ((x0.Gaps.length : Int) = r11) = true := decide_eq_true h14
      obtain ⟨o, h23, h⟩ := bsm h
      simp (maxSteps := 10000000) (implicitDefEqProofs := false) (disch := first | assumption | omega | exact rfl | exact im_ _) only [bs, rs61, ls61, Nat.reduceAdd, ↓reduceIte, lenD_lst u22, loadD_iptr a9, loadD_pagg a29 z29, loadD_ptr a22, loadD_ptr a3, loadD_ptr a9, h3, h4, ↓h5', h8, h9, ↓h10', h13, ↓h14']
      refine Wp.ctx (fun x => seqW _ _ _ _ (blockW _ (x))) (L61_0_ok x0.Kind x0.Text x0.Gaps x0.Kids (0 : Int) _ o (by kernel_rfl) h23) ?_
      intro e st hq
      cases o with
      | next _ => (first | cases h | (simp at h))
      | jmp n_ s_ =>
       obtain ⟨rfl, rfl, hq⟩ := hq
       generalize s_ = s3_24 at h hq
       unfold F61_0 at hq
       (try simp only [] at h hq)
       obtain rfl := Option.some.inj h
       simp (maxSteps := 10000000) (implicitDefEqProofs := false) (disch := first | assumption | omega | exact rfl | exact im_ _) only [bs, rs61, ls61, Nat.reduceAdd, ↓reduceIte, lenD_lst u22, loadD_iptr a9, loadD_pagg a29 z29, loadD_ptr a22, loadD_ptr a3, loadD_ptr a9, h3, h4, ↓h5', h8, h9, ↓h10', h13, ↓h14', hq]
       refine ⟨by first | exact .inl trivial | exact .inr trivial | simp, ?_⟩
       exact finish_is (ds := [iv (0 : Int)]) (x := .v (.int .i64 (0 : Int))) (y := .v (.int .i64 (0 : Int))) (l := []) rfl rfl rfl rfl (by first | rfl | (simp only [wk, wks, wkL]; first | done | rfl))
      | ret r25 =>
       obtain ⟨rfl, hq⟩ := hq
       obtain rfl := Option.some.inj h
       simp (maxSteps := 10000000) (implicitDefEqProofs := false) (disch := first | assumption | omega | exact rfl | exact im_ _) only [bs, rs61, ls61, Nat.reduceAdd, ↓reduceIte, lenD_lst u22, loadD_iptr a9, loadD_pagg a29 z29, loadD_ptr a22, loadD_ptr a3, loadD_ptr a9]
       exact ⟨by first | exact .inl trivial | exact .inr trivial | simp, hq⟩
     ·rw [if_neg h14] at h
      have h14' : decide ((x0.Gaps.length : Int) = r11) = false := decide_eq_false h14
      obtain rfl := Option.some.inj h
      simp (maxSteps := 10000000) (implicitDefEqProofs := false) (disch := first | assumption | omega | exact rfl | exact im_ _) only [bs, rs61, ls61, Nat.reduceAdd, ↓reduceIte, lenD_lst u22, loadD_iptr a9, loadD_pagg a29 z29, loadD_ptr a22, loadD_ptr a3, loadD_ptr a9, h3, h4, ↓h5', h8, h9, ↓h10', h13, ↓h14']
      refine ⟨by first | exact .inl trivial | exact .inr trivial | simp, ?_⟩
      exact finish_is (ds := [iv (7 : Int)]) (x := .v (.int .i64 (7 : Int))) (y := .v (.int .i64 (7 : Int))) (l := []) rfl rfl rfl rfl (by first | rfl | (simp only [wk, wks, wkL]; first | done | rfl))
    ·rw [if_neg h10] at h
     have h10' : decide ((0 : Int) < (x0.Gaps.length : Int)) = false := decide_eq_false h10
     obtain ⟨o, h34, h⟩ := bsm h
     simp (maxSteps := 10000000) (implicitDefEqProofs := false) (disch := first | assumption | omega | exact rfl | exact im_ _) only [bs, rs61, ls61, Nat.reduceAdd, ↓reduceIte, lenD_lst u22, loadD_iptr a9, loadD_pagg a29 z29, loadD_ptr a22, loadD_ptr a3, loadD_ptr a9, h3, h4, ↓h5', h8, h9, ↓h10']
     refine Wp.ctx (fun x => seqW _ _ _ _ (blockW _ (x))) (L61_0_ok x0.Kind x0.Text x0.Gaps x0.Kids (0 : Int) _ o (by kernel_rfl) h34) ?_
     intro e st hq
     cases o with
     | next _ => (first | cases h | (simp at h))
     | jmp n_ s_ =>
      obtain ⟨rfl, rfl, hq⟩ := hq
      generalize s_ = s3_35 at h hq
      unfold F61_0 at hq
      (try simp only [] at h hq)
      obtain rfl := Option.some.inj h
      simp (maxSteps := 10000000) (implicitDefEqProofs := false) (disch := first | assumption | omega | exact rfl | exact im_ _) only [bs, rs61, ls61, Nat.reduceAdd, ↓reduceIte, lenD_lst u22, loadD_iptr a9, loadD_pagg a29 z29, loadD_ptr a22, loadD_ptr a3, loadD_ptr a9, h3, h4, ↓h5', h8, h9, ↓h10', hq]
      refine ⟨by first | exact .inl trivial | exact .inr trivial | simp, ?_⟩
      exact finish_is (ds := [iv (0 : Int)]) (x := .v (.int .i64 (0 : Int))) (y := .v (.int .i64 (0 : Int))) (l := []) rfl rfl rfl rfl (by first | rfl | (simp only [wk, wks, wkL]; first | done | rfl))
     | ret r36 =>
      obtain ⟨rfl, hq⟩ := hq
      obtain rfl := Option.some.inj h
      simp (maxSteps := 10000000) (implicitDefEqProofs := false) (disch := first | assumption | omega | exact rfl | exact im_ _) only [bs, rs61, ls61, Nat.reduceAdd, ↓reduceIte, lenD_lst u22, loadD_iptr a9, loadD_pagg a29 z29, loadD_ptr a22, loadD_ptr a3, loadD_ptr a9]
      exact ⟨by first | exact .inl trivial | exact .inr trivial | simp, hq⟩
   ·rw [if_neg h9] at h
    replace h9 := Bool.eq_false_iff.2 h9
    obtain rfl := Option.some.inj h
    simp (maxSteps := 10000000) (implicitDefEqProofs := false) (disch := first | assumption | omega | exact rfl | exact im_ _) only [bs, rs61, ls61, Nat.reduceAdd, ↓reduceIte, lenD_lst u22, loadD_iptr a9, loadD_pagg a29 z29, loadD_ptr a22, loadD_ptr a3, loadD_ptr a9, h3, h4, ↓h5', h8, h9]
    refine ⟨by first | exact .inl trivial | exact .inr trivial | simp, ?_⟩
    exact finish_is (ds := [iv (4 : Int)]) (x := .v (.int .i64 (4 : Int))) (y := .v (.int .i64 (4 : Int))) (l := []) rfl rfl rfl rfl (by first | rfl | (simp only [wk, wks, wkL]; first | done | rfl))
  ·rw [if_neg h5] at h
   have h5' : decide (x0.Kind = (17 : Int)) = false := decide_eq_false h5
   obtain ⟨r37, h38, h⟩ := bsm h
   have h39 : ∀ H, callD (callW Tryd.prog A0) A0 H 72 [.p (.agg [.v (.int .i64 x0.Kind), .v (.string x0.Text), .lst false x0.Gaps.length (encL en_str x0.Gaps), .lst false x0.Kids.length (encL en_Node x0.Kids)])] = some (.p (.v (.bool r37)), none) := fun H => R07_named_call h38
   by_cases h40 : r37 = true
   ·rw [if_pos h40] at h
    obtain ⟨r41, h42, h⟩ := bsm h
    have h43 : ∀ H, callD (callW Tryd.prog A0) A0 H 73 [.p (.v (.string x0.Text))] = some (.p (.v (.bool r41)), none) := fun H => R03_Valid_call h42
    by_cases h44 : r41 = true
    ·rw [if_pos h44] at h
     by_cases h45 : (0 : Int) < (x0.Gaps.length : Int)
     ·rw [if_pos h45] at h
      have h45' : decide ((0 : Int) < (x0.Gaps.length : Int)) = true := decide_eq_true h45
      obtain ⟨r46, h47, h⟩ := bsm h
      have h48 : ∀ H, callD (callW Tryd.prog A0) A0 H 42 [.p (.agg [.v (.int .i64 x0.Kind), .v (.string x0.Text), .lst false x0.Gaps.length (encL en_str x0.Gaps), .lst false x0.Kids.length (encL en_Node x0.Kids)])] = some (.p (.v (.int .i64 r46)), none) := fun H => R07_Own_call h47
      by_cases h49 : (x0.Gaps.length : Int) = r46
      ·rw [if_pos h49] at h
       have h49' : decide ((x0.Gaps.length : Int) = r46) = true := decide_eq_true h49
       obtain ⟨o, h58, h⟩ := bsm h
       simp (maxSteps := 10000000) (implicitDefEqProofs := false) (disch := first | assumption | omega | exact rfl | exact im_ _) only [bs, rs61, ls61, Nat.reduceAdd, ↓reduceIte, lenD_lst u22, loadD_iptr a9, loadD_pagg a29 z29, loadD_ptr a22, loadD_ptr a3, loadD_ptr a9, h3, h4, ↓h5', h39, h40, h43, h44, ↓h45', h48, ↓h49']
       refine Wp.ctx (fun x => seqW _ _ _ _ (blockW _ (x))) (L61_0_ok x0.Kind x0.Text x0.Gaps x0.Kids (0 : Int) _ o (by kernel_rfl) h58) ?_
       intro e st hq
       cases o with
       | next _ => (first | cases h | (simp at h))
       | jmp n_ s_ =>
        obtain ⟨rfl, rfl, hq⟩ := hq
        generalize s_ = s3_59 at h hq
        unfold F61_0 at hq
        (try simp only [] at h hq)
        obtain rfl := Option.some.inj h
        simp (maxSteps := 10000000) (implicitDefEqProofs := false) (disch := first | assumption | omega | exact rfl | exact im_ _) only [bs, rs61, ls61, Nat.reduceAdd, ↓reduceIte, lenD_lst u22, loadD_iptr a9, loadD_pagg a29 z29, loadD_ptr a22, loadD_ptr a3, loadD_ptr a9, h3, h4, ↓h5', h39, h40, h43, h44, ↓h45', h48, ↓h49', hq]
        refine ⟨by first | exact .inl trivial | exact .inr trivial | simp, ?_⟩
        exact finish_is (ds := [iv (0 : Int)]) (x := .v (.int .i64 (0 : Int))) (y := .v (.int .i64 (0 : Int))) (l := []) rfl rfl rfl rfl (by first | rfl | (simp only [wk, wks, wkL]; first | done | rfl))
       | ret r60 =>
        obtain ⟨rfl, hq⟩ := hq
        obtain rfl := Option.some.inj h
        simp (maxSteps := 10000000) (implicitDefEqProofs := false) (disch := first | assumption | omega | exact rfl | exact im_ _) only [bs, rs61, ls61, Nat.reduceAdd, ↓reduceIte, lenD_lst u22, loadD_iptr a9, loadD_pagg a29 z29, loadD_ptr a22, loadD_ptr a3, loadD_ptr a9]
        exact ⟨by first | exact .inl trivial | exact .inr trivial | simp, hq⟩
      ·rw [if_neg h49] at h
       have h49' : decide ((x0.Gaps.length : Int) = r46) = false := decide_eq_false h49
       obtain rfl := Option.some.inj h
       simp (maxSteps := 10000000) (implicitDefEqProofs := false) (disch := first | assumption | omega | exact rfl | exact im_ _) only [bs, rs61, ls61, Nat.reduceAdd, ↓reduceIte, lenD_lst u22, loadD_iptr a9, loadD_pagg a29 z29, loadD_ptr a22, loadD_ptr a3, loadD_ptr a9, h3, h4, ↓h5', h39, h40, h43, h44, ↓h45', h48, ↓h49']
       refine ⟨by first | exact .inl trivial | exact .inr trivial | simp, ?_⟩
       exact finish_is (ds := [iv (7 : Int)]) (x := .v (.int .i64 (7 : Int))) (y := .v (.int .i64 (7 : Int))) (l := []) rfl rfl rfl rfl (by first | rfl | (simp only [wk, wks, wkL]; first | done | rfl))
     ·rw [if_neg h45] at h
      have h45' : decide ((0 : Int) < (x0.Gaps.length : Int)) = false := decide_eq_false h45
      obtain ⟨o, h69, h⟩ := bsm h
      simp (maxSteps := 10000000) (implicitDefEqProofs := false) (disch := first | assumption | omega | exact rfl | exact im_ _) only [bs, rs61, ls61, Nat.reduceAdd, ↓reduceIte, lenD_lst u22, loadD_iptr a9, loadD_pagg a29 z29, loadD_ptr a22, loadD_ptr a3, loadD_ptr a9, h3, h4, ↓h5', h39, h40, h43, h44, ↓h45']
      refine Wp.ctx (fun x => seqW _ _ _ _ (blockW _ (x))) (L61_0_ok x0.Kind x0.Text x0.Gaps x0.Kids (0 : Int) _ o (by kernel_rfl) h69) ?_
      intro e st hq
      cases o with
      | next _ => (first | cases h | (simp at h))
      | jmp n_ s_ =>
       obtain ⟨rfl, rfl, hq⟩ := hq
       generalize s_ = s3_70 at h hq
       unfold F61_0 at hq
       (try simp only [] at h hq)
       obtain rfl := Option.some.inj h
       simp (maxSteps := 10000000) (implicitDefEqProofs := false) (disch := first | assumption | omega | exact rfl | exact im_ _) only [bs, rs61, ls61, Nat.reduceAdd, ↓reduceIte, lenD_lst u22, loadD_iptr a9, loadD_pagg a29 z29, loadD_ptr a22, loadD_ptr a3, loadD_ptr a9, h3, h4, ↓h5', h39, h40, h43, h44, ↓h45', hq]
       refine ⟨by first | exact .inl trivial | exact .inr trivial | simp, ?_⟩
       exact finish_is (ds := [iv (0 : Int)]) (x := .v (.int .i64 (0 : Int))) (y := .v (.int .i64 (0 : Int))) (l := []) rfl rfl rfl rfl (by first | rfl | (simp only [wk, wks, wkL]; first | done | rfl))
      | ret r71 =>
       obtain ⟨rfl, hq⟩ := hq
       obtain rfl := Option.some.inj h
       simp (maxSteps := 10000000) (implicitDefEqProofs := false) (disch := first | assumption | omega | exact rfl | exact im_ _) only [bs, rs61, ls61, Nat.reduceAdd, ↓reduceIte, lenD_lst u22, loadD_iptr a9, loadD_pagg a29 z29, loadD_ptr a22, loadD_ptr a3, loadD_ptr a9]
       exact ⟨by first | exact .inl trivial | exact .inr trivial | simp, hq⟩
    ·rw [if_neg h44] at h
     replace h44 := Bool.eq_false_iff.2 h44
     obtain rfl := Option.some.inj h
     simp (maxSteps := 10000000) (implicitDefEqProofs := false) (disch := first | assumption | omega | exact rfl | exact im_ _) only [bs, rs61, ls61, Nat.reduceAdd, ↓reduceIte, lenD_lst u22, loadD_iptr a9, loadD_pagg a29 z29, loadD_ptr a22, loadD_ptr a3, loadD_ptr a9, h3, h4, ↓h5', h39, h40, h43, h44]
     refine ⟨by first | exact .inl trivial | exact .inr trivial | simp, ?_⟩
     exact finish_is (ds := [iv (4 : Int)]) (x := .v (.int .i64 (4 : Int))) (y := .v (.int .i64 (4 : Int))) (l := []) rfl rfl rfl rfl (by first | rfl | (simp only [wk, wks, wkL]; first | done | rfl))
   ·rw [if_neg h40] at h
    replace h40 := Bool.eq_false_iff.2 h40
    by_cases h72 : (0 : Int) < (x0.Gaps.length : Int)
    ·rw [if_pos h72] at h
     have h72' : decide ((0 : Int) < (x0.Gaps.length : Int)) = true := decide_eq_true h72
     obtain ⟨r73, h74, h⟩ := bsm h
     have h75 : ∀ H, callD (callW Tryd.prog A0) A0 H 42 [.p (.agg [.v (.int .i64 x0.Kind), .v (.string x0.Text), .lst false x0.Gaps.length (encL en_str x0.Gaps), .lst false x0.Kids.length (encL en_Node x0.Kids)])] = some (.p (.v (.int .i64 r73)), none) := fun H => R07_Own_call h74
     by_cases h76 : (x0.Gaps.length : Int) = r73
     ·rw [if_pos h76] at h
      have h76' : decide ((x0.Gaps.length : Int) = r73) = true := decide_eq_true h76
      obtain ⟨o, h85, h⟩ := bsm h
      simp (maxSteps := 10000000) (implicitDefEqProofs := false) (disch := first | assumption | omega | exact rfl | exact im_ _) only [bs, rs61, ls61, Nat.reduceAdd, ↓reduceIte, lenD_lst u22, loadD_iptr a9, loadD_pagg a29 z29, loadD_ptr a22, loadD_ptr a3, loadD_ptr a9, h3, h4, ↓h5', h39, h40, ↓h72', h75, ↓h76']
      refine Wp.ctx (fun x => seqW _ _ _ _ (blockW _ (x))) (L61_0_ok x0.Kind x0.Text x0.Gaps x0.Kids (0 : Int) _ o (by kernel_rfl) h85) ?_
      intro e st hq
      cases o with
      | next _ => (first | cases h | (simp at h))
      | jmp n_ s_ =>
       obtain ⟨rfl, rfl, hq⟩ := hq
       generalize s_ = s3_86 at h hq
       unfold F61_0 at hq
       (try simp only [] at h hq)
       obtain rfl := Option.some.inj h
       simp (maxSteps := 10000000) (implicitDefEqProofs := false) (disch := first | assumption | omega | exact rfl | exact im_ _) only [bs, rs61, ls61, Nat.reduceAdd, ↓reduceIte, lenD_lst u22, loadD_iptr a9, loadD_pagg a29 z29, loadD_ptr a22, loadD_ptr a3, loadD_ptr a9, h3, h4, ↓h5', h39, h40, ↓h72', h75, ↓h76', hq]
       refine ⟨by first | exact .inl trivial | exact .inr trivial | simp, ?_⟩
       exact finish_is (ds := [iv (0 : Int)]) (x := .v (.int .i64 (0 : Int))) (y := .v (.int .i64 (0 : Int))) (l := []) rfl rfl rfl rfl (by first | rfl | (simp only [wk, wks, wkL]; first | done | rfl))
      | ret r87 =>
       obtain ⟨rfl, hq⟩ := hq
       obtain rfl := Option.some.inj h
       simp (maxSteps := 10000000) (implicitDefEqProofs := false) (disch := first | assumption | omega | exact rfl | exact im_ _) only [bs, rs61, ls61, Nat.reduceAdd, ↓reduceIte, lenD_lst u22, loadD_iptr a9, loadD_pagg a29 z29, loadD_ptr a22, loadD_ptr a3, loadD_ptr a9]
       exact ⟨by first | exact .inl trivial | exact .inr trivial | simp, hq⟩
     ·rw [if_neg h76] at h
      have h76' : decide ((x0.Gaps.length : Int) = r73) = false := decide_eq_false h76
      obtain rfl := Option.some.inj h
      simp (maxSteps := 10000000) (implicitDefEqProofs := false) (disch := first | assumption | omega | exact rfl | exact im_ _) only [bs, rs61, ls61, Nat.reduceAdd, ↓reduceIte, lenD_lst u22, loadD_iptr a9, loadD_pagg a29 z29, loadD_ptr a22, loadD_ptr a3, loadD_ptr a9, h3, h4, ↓h5', h39, h40, ↓h72', h75, ↓h76']
      refine ⟨by first | exact .inl trivial | exact .inr trivial | simp, ?_⟩
      exact finish_is (ds := [iv (7 : Int)]) (x := .v (.int .i64 (7 : Int))) (y := .v (.int .i64 (7 : Int))) (l := []) rfl rfl rfl rfl (by first | rfl | (simp only [wk, wks, wkL]; first | done | rfl))
    ·rw [if_neg h72] at h
     have h72' : decide ((0 : Int) < (x0.Gaps.length : Int)) = false := decide_eq_false h72
     obtain ⟨o, h96, h⟩ := bsm h
     simp (maxSteps := 10000000) (implicitDefEqProofs := false) (disch := first | assumption | omega | exact rfl | exact im_ _) only [bs, rs61, ls61, Nat.reduceAdd, ↓reduceIte, lenD_lst u22, loadD_iptr a9, loadD_pagg a29 z29, loadD_ptr a22, loadD_ptr a3, loadD_ptr a9, h3, h4, ↓h5', h39, h40, ↓h72']
     refine Wp.ctx (fun x => seqW _ _ _ _ (blockW _ (x))) (L61_0_ok x0.Kind x0.Text x0.Gaps x0.Kids (0 : Int) _ o (by kernel_rfl) h96) ?_
     intro e st hq
     cases o with
     | next _ => (first | cases h | (simp at h))
     | jmp n_ s_ =>
      obtain ⟨rfl, rfl, hq⟩ := hq
      generalize s_ = s3_97 at h hq
      unfold F61_0 at hq
      (try simp only [] at h hq)
      obtain rfl := Option.some.inj h
      simp (maxSteps := 10000000) (implicitDefEqProofs := false) (disch := first | assumption | omega | exact rfl | exact im_ _) only [bs, rs61, ls61, Nat.reduceAdd, ↓reduceIte, lenD_lst u22, loadD_iptr a9, loadD_pagg a29 z29, loadD_ptr a22, loadD_ptr a3, loadD_ptr a9, h3, h4, ↓h5', h39, h40, ↓h72', hq]
      refine ⟨by first | exact .inl trivial | exact .inr trivial | simp, ?_⟩
      exact finish_is (ds := [iv (0 : Int)]) (x := .v (.int .i64 (0 : Int))) (y := .v (.int .i64 (0 : Int))) (l := []) rfl rfl rfl rfl (by first | rfl | (simp only [wk, wks, wkL]; first | done | rfl))
     | ret r98 =>
      obtain ⟨rfl, hq⟩ := hq
      obtain rfl := Option.some.inj h
      simp (maxSteps := 10000000) (implicitDefEqProofs := false) (disch := first | assumption | omega | exact rfl | exact im_ _) only [bs, rs61, ls61, Nat.reduceAdd, ↓reduceIte, lenD_lst u22, loadD_iptr a9, loadD_pagg a29 z29, loadD_ptr a22, loadD_ptr a3, loadD_ptr a9]
      exact ⟨by first | exact .inl trivial | exact .inr trivial | simp, hq⟩
 ·rw [if_neg h4] at h
  replace h4 := Bool.eq_false_iff.2 h4
  obtain rfl := Option.some.inj h
  simp (maxSteps := 10000000) (implicitDefEqProofs := false) (disch := first | assumption | omega | exact rfl | exact im_ _) only [bs, rs61, ls61, Nat.reduceAdd, ↓reduceIte, lenD_lst u22, loadD_iptr a9, loadD_pagg a29 z29, loadD_ptr a22, loadD_ptr a3, loadD_ptr a9, h3, h4]
  refine ⟨by first | exact .inl trivial | exact .inr trivial | simp, ?_⟩
  exact finish_is (ds := [iv (7 : Int)]) (x := .v (.int .i64 (7 : Int))) (y := .v (.int .i64 (7 : Int))) (l := []) rfl rfl rfl rfl (by first | rfl | (simp only [wk, wks, wkL]; first | done | rfl))
theorem R07_node_call {b1 b2 : Bool} {H : List Ob} {x0 : Node} {r : Int} (h : R07_node x0 = some r) : callD (callW Tryd.prog A0) A0 H 61 [.p (.agg [.v (.int .i64 x0.Kind), .v (.string x0.Text), .lst b1 x0.Gaps.length (encL en_str x0.Gaps), .lst b2 x0.Kids.length (encL en_Node x0.Kids)])] = some (.p (.v (.int .i64 r)), none) :=
  callD_fun (args := [.agg [.v (.int .i64 x0.Kind), .v (.string x0.Text), .lst b1 x0.Gaps.length (encL en_str x0.Gaps), .lst b2 x0.Kids.length (encL en_Node x0.Kids)]]) rfl rfl rfl (by simp only [List.map_cons, List.map_nil, wk, wks, wkL]; exact f61_ok x0 _ h)
def ls45 := And.intro @faP_29_3 (And.intro @idxL_27 (And.intro @varld_4_0_3 (@varlv_4_0_4)))
theorem R07_first_rcall {rec : Node → Option Int} (hrec : ∀ x0 r, rec x0 = some r → callW Tryd.prog A0 45 [.p (.agg [.v (.int .i64 x0.Kind), .v (.string x0.Text), .lst false x0.Gaps.length (encL en_str x0.Gaps), .lst false x0.Kids.length (encL en_Node x0.Kids)])] [] = some (.p (.v (.int .i64 r)), [])) {b1 b2 : Bool} {H : List Ob} {x0 : Node} {r : Int} (h : rec x0 = some r) : callD (callW Tryd.prog A0) A0 H 45 [.p (.agg [.v (.int .i64 x0.Kind), .v (.string x0.Text), .lst b1 x0.Gaps.length (encL en_str x0.Gaps), .lst b2 x0.Kids.length (encL en_Node x0.Kids)])] = some (.p (.v (.int .i64 r)), none) :=
  callD_fun (args := [.agg [.v (.int .i64 x0.Kind), .v (.string x0.Text), .lst b1 x0.Gaps.length (encL en_str x0.Gaps), .lst b2 x0.Kids.length (encL en_Node x0.Kids)]]) rfl rfl rfl (by simp only [List.map_cons, List.map_nil, wk, wks, wkL]; exact hrec x0 _ h)
noncomputable def L45_0 : Code := (loopsOf (bodyOf Tryd.f45)).getD 0 .skip
def g45_0 : List Ghost := [.keep [1, 3, 4]]
def F45_0 (w0_0 : Int) (w0_1 : ByteArray) (w0_2 : (List ByteArray)) (w0_3 : (List Node)) : (Int × Int) → St := fun (s3, s4) => ⟨[.junk, .ptr 0 0, .junk, iv s3, iv s4, .junk, .junk, .junk, .junk, .junk, .junk, .junk, .junk, .junk, .junk, .junk, .junk, .junk, .junk, .junk, .junk, .junk, .junk, .junk, .junk], [.var [iv w0_0, .p (.v (.string w0_1)), .p (.lst false w0_2.length (encL en_str w0_2)), .p (.lst false w0_3.length (encL en_Node w0_3))]], 0⟩
theorem L45_0_ok {rec : Node → Option Int} (hrec : ∀ x0 r, rec x0 = some r → callW Tryd.prog A0 45 [.p (.agg [.v (.int .i64 x0.Kind), .v (.string x0.Text), .lst false x0.Gaps.length (encL en_str x0.Gaps), .lst false x0.Kids.length (encL en_Node x0.Kids)])] [] = some (.p (.v (.int .i64 r)), [])) (w0_0 : Int) (w0_1 : ByteArray) (w0_2 : (List ByteArray)) (w0_3 : (List Node)) : ∀ s st o, ghostsD g45_0 st = some (F45_0 w0_0 w0_1 w0_2 w0_3 s) → iter (R07_first_L0 rec w0_0 w0_1 w0_2 w0_3) s = some o →
    Wp (evW Tryd.prog A0 45 (.loop L45_0) st) (OutQ (F45_0 w0_0 w0_1 w0_2 w0_3) g45_0 (fun n s st => n = 0 ∧ ghostsD [.keep [1, 3, 4]] st = some (F45_0 w0_0 w0_1 w0_2 w0_3 s)) (fun r st => finishD Tryd.prog A0 45 Tryd.f45 st = some (.p (.v (.int .i64 r)), [])) o) := by
 refine Wp.iter ?_
 intro s st o hg h
 obtain ⟨s3, s4⟩ := s
 unfold R07_first_L0 at h
 unfold g45_0 F45_0 at hg ⊢
 (try simp only [] at h hg)
 unfold L45_0 bodyOf Tryd.f45; simp only [Option.getD_some, loopsOf, List.append_nil, List.nil_append, List.cons_append, List.getD_cons_zero, List.getD_cons_succ]
 by_cases h4 : s4 < (w0_3.length : Int)
 ·rw [if_pos h4] at h
  have h4' : decide (s4 < (w0_3.length : Int)) = true := decide_eq_true h4
  by_cases h5 : s3 = (0 : Int)
  ·rw [if_pos h5] at h
   have h5' : decide (s3 = (0 : Int)) = true := decide_eq_true h5
   obtain ⟨v6, h7, h⟩ := bsm h
   obtain ⟨h7a, h7b, _⟩ := rd_some h7
   have h8 := lk_frz_29 h7
   obtain ⟨r9, h10, h⟩ := bsm h
   have h11 : ∀ H, callD (callW Tryd.prog A0) A0 H 45 [.p (.agg [.v (.int .i64 v6.Kind), .v (.string v6.Text), .lst false v6.Gaps.length (encL en_str v6.Gaps), .lst false v6.Kids.length (encL en_Node v6.Kids)])] = some (.p (.v (.int .i64 r9)), none) := fun H => R07_first_rcall hrec h10
   obtain rfl := Option.some.inj h
   simp (maxSteps := 10000000) (implicitDefEqProofs := false) (disch := first | assumption | omega | exact rfl | exact im_ _) only [bs, rs45, ls45, Nat.reduceAdd, ↓reduceIte, lenD_lst u27, loadD_iagg a29 z29, loadD_pagg a29 z29, loadD_ptr a27, hg, ↓h4', ↓h5', h8, h11]
   exact ⟨rfl, by kernel_rfl⟩
  ·rw [if_neg h5] at h
   have h5' : decide (s3 = (0 : Int)) = false := decide_eq_false h5
   obtain rfl := Option.some.inj h
   simp (maxSteps := 10000000) (implicitDefEqProofs := false) (disch := first | assumption | omega | exact rfl | exact im_ _) only [bs, rs45, ls45, Nat.reduceAdd, ↓reduceIte, lenD_lst u27, loadD_iagg a29 z29, loadD_pagg a29 z29, loadD_ptr a27, hg, ↓h4', ↓h5']
   exact ⟨rfl, rfl, by kernel_rfl⟩
 ·rw [if_neg h4] at h
  have h4' : decide (s4 < (w0_3.length : Int)) = false := decide_eq_false h4
  obtain rfl := Option.some.inj h
  simp (maxSteps := 10000000) (implicitDefEqProofs := false) (disch := first | assumption | omega | exact rfl | exact im_ _) only [bs, rs45, ls45, Nat.reduceAdd, ↓reduceIte, lenD_lst u27, loadD_iagg a29 z29, loadD_pagg a29 z29, loadD_ptr a27, hg, ↓h4']
  exact ⟨rfl, rfl, by kernel_rfl⟩
theorem f45_ok {rec : Node → Option Int} (hrec : ∀ x0 r, rec x0 = some r → callW Tryd.prog A0 45 [.p (.agg [.v (.int .i64 x0.Kind), .v (.string x0.Text), .lst false x0.Gaps.length (encL en_str x0.Gaps), .lst false x0.Kids.length (encL en_Node x0.Kids)])] [] = some (.p (.v (.int .i64 r)), []))  (x0 : Node) (r : Int) (h : R07_first.body rec x0 = some r) : callW Tryd.prog A0 45 [.p (.agg [.v (.int .i64 x0.Kind), .v (.string x0.Text), .lst false x0.Gaps.length (encL en_str x0.Gaps), .lst false x0.Kids.length (encL en_Node x0.Kids)])] [] = some (.p (.v (.int .i64 r)), []) := by
 refine call_ofH (fn := Tryd.f45) (c := bodyOf Tryd.f45) rfl rfl (by kernel_rfl) (by kernel_rfl) ?_
 rw [show initS Tryd.f45 [.p (.agg [.v (.int .i64 x0.Kind), .v (.string x0.Text), .lst false x0.Gaps.length (encL en_str x0.Gaps), .lst false x0.Kids.length (encL en_Node x0.Kids)])] [] = ⟨.p (.agg [.v (.int .i64 x0.Kind), .v (.string x0.Text), .lst false x0.Gaps.length (encL en_str x0.Gaps), .lst false x0.Kids.length (encL en_Node x0.Kids)]) :: List.replicate 24 undefD, [], 0⟩ from by kernel_rfl]
 unfold R07_first.body at h
 unfold bodyOf Tryd.f45; simp only [Option.getD_some, loopsOf, List.append_nil, List.nil_append, List.cons_append, List.getD_cons_zero, List.getD_cons_succ]
 simp only [List.replicate]
 obtain ⟨r1, h2, h⟩ := bsm h
 have h3 : ∀ H, callD (callW Tryd.prog A0) A0 H 61 [.p (.agg [.v (.int .i64 x0.Kind), .v (.string x0.Text), .lst false x0.Gaps.length (encL en_str x0.Gaps), .lst false x0.Kids.length (encL en_Node x0.Kids)])] = some (.p (.v (.int .i64 r1)), none) := fun H => R07_node_call h2
 obtain ⟨o, h12, h⟩ := bsm h
 simp (maxSteps := 10000000) (implicitDefEqProofs := false) (disch := first | assumption | omega | exact rfl | exact im_ _) only [bs, rs45, ls45, Nat.reduceAdd, ↓reduceIte, lenD_lst u27, loadD_iagg a29 z29, loadD_pagg a29 z29, loadD_ptr a27, h3]
 refine Wp.ctx (fun x => seqW _ _ _ _ (blockW _ (x))) (L45_0_ok hrec x0.Kind x0.Text x0.Gaps x0.Kids (r1, (0 : Int)) _ o (by kernel_rfl) h12) ?_
 intro e st hq
 cases o with
 | next _ => (first | cases h | (simp at h))
 | jmp n_ s_ =>
  obtain ⟨rfl, rfl, hq⟩ := hq
  obtain ⟨s3_13, s4_13⟩ := s_
  unfold F45_0 at hq
  (try simp only [] at h hq)
  obtain rfl := Option.some.inj h
  simp (maxSteps := 10000000) (implicitDefEqProofs := false) (disch := first | assumption | omega | exact rfl | exact im_ _) only [bs, rs45, ls45, Nat.reduceAdd, ↓reduceIte, lenD_lst u27, loadD_iagg a29 z29, loadD_pagg a29 z29, loadD_ptr a27, h3, hq]
  refine ⟨by first | exact .inl trivial | exact .inr trivial | simp, ?_⟩
  exact finish_is (ds := [iv s3_13]) (x := .v (.int .i64 s3_13)) (y := .v (.int .i64 s3_13)) (l := []) rfl rfl rfl rfl (by first | rfl | (simp only [wk, wks, wkL]; first | done | rfl))
 | ret _ => (first | cases h | (simp at h))
theorem f45_spec : ∀ (x0 : Node) r, R07_firstS x0 = some r → callW Tryd.prog A0 45 [.p (.agg [.v (.int .i64 x0.Kind), .v (.string x0.Text), .lst false x0.Gaps.length (encL en_str x0.Gaps), .lst false x0.Kids.length (encL en_Node x0.Kids)])] [] = some (.p (.v (.int .i64 r)), []) := by
  have key : ∀ n (x0 : Node) r, R07_firstS_mu x0 < n → R07_firstS x0 = some r → callW Tryd.prog A0 45 [.p (.agg [.v (.int .i64 x0.Kind), .v (.string x0.Text), .lst false x0.Gaps.length (encL en_str x0.Gaps), .lst false x0.Kids.length (encL en_Node x0.Kids)])] [] = some (.p (.v (.int .i64 r)), []) := by
    intro n
    induction n with
    | zero => intro x0 r h; omega
    | succ n ih =>
      intro x0 r hn h
      refine f45_ok (rec := fun x0' => if R07_firstS_mu x0' < R07_firstS_mu x0 then R07_firstS x0' else none) ?_ x0 r (R07_firstS_body x0 r h)
      intro x0' r' h'
      by_cases hm : R07_firstS_mu x0' < R07_firstS_mu x0
      · rw [if_pos hm] at h'; exact ih x0' r' (by omega) h'
      · rw [if_neg hm] at h'; cases h'
  intro x0 r h
  exact key _ x0 r (Nat.lt_succ_self _) h
theorem R07_first_call {b1 b2 : Bool} {H : List Ob} {x0 : Node} {r : Int} (h : R07_firstS x0 = some r) : callD (callW Tryd.prog A0) A0 H 45 [.p (.agg [.v (.int .i64 x0.Kind), .v (.string x0.Text), .lst b1 x0.Gaps.length (encL en_str x0.Gaps), .lst b2 x0.Kids.length (encL en_Node x0.Kids)])] = some (.p (.v (.int .i64 r)), none) :=
  callD_fun (args := [.agg [.v (.int .i64 x0.Kind), .v (.string x0.Text), .lst b1 x0.Gaps.length (encL en_str x0.Gaps), .lst b2 x0.Kids.length (encL en_Node x0.Kids)]]) rfl rfl rfl (by simp only [List.map_cons, List.map_nil, wk, wks, wkL]; exact f45_spec x0 _ h)
def ls21 := @varlv_4_0_4
theorem f21_ok  (x0 : Node) (r : Int) (h : R07_Check x0 = some r) : callW Tryd.prog A0 21 [.p (.agg [.v (.int .i64 x0.Kind), .v (.string x0.Text), .lst false x0.Gaps.length (encL en_str x0.Gaps), .lst false x0.Kids.length (encL en_Node x0.Kids)])] [] = some (.p (.v (.int .i64 r)), []) := by
 refine call_ofH (fn := Tryd.f21) (c := bodyOf Tryd.f21) rfl rfl (by kernel_rfl) (by kernel_rfl) ?_
 rw [show initS Tryd.f21 [.p (.agg [.v (.int .i64 x0.Kind), .v (.string x0.Text), .lst false x0.Gaps.length (encL en_str x0.Gaps), .lst false x0.Kids.length (encL en_Node x0.Kids)])] [] = ⟨.p (.agg [.v (.int .i64 x0.Kind), .v (.string x0.Text), .lst false x0.Gaps.length (encL en_str x0.Gaps), .lst false x0.Kids.length (encL en_Node x0.Kids)]) :: List.replicate 7 undefD, [], 0⟩ from by kernel_rfl]
 unfold R07_Check at h
 unfold bodyOf Tryd.f21; simp only [Option.getD_some, loopsOf, List.append_nil, List.nil_append, List.cons_append, List.getD_cons_zero, List.getD_cons_succ]
 simp only [List.replicate]
 obtain ⟨r1, h2, h⟩ := bsm h
 have h3 : ∀ H, callD (callW Tryd.prog A0) A0 H 44 [.p (.agg [.v (.int .i64 x0.Kind), .v (.string x0.Text), .lst false x0.Gaps.length (encL en_str x0.Gaps), .lst false x0.Kids.length (encL en_Node x0.Kids)]), iv (1 : Int)] = some (.p (.v (.int .i64 r1)), none) := fun H => R07_size_call h2
 by_cases h4 : (4000 : Int) < r1
 ·rw [if_pos h4] at h
  have h4' : decide ((4000 : Int) < r1) = true := decide_eq_true h4
  obtain rfl := Option.some.inj h
  simp (maxSteps := 10000000) (implicitDefEqProofs := false) (disch := first | assumption | omega | exact rfl | exact im_ _) only [bs, rs21, ls21, Nat.reduceAdd, ↓reduceIte, loadD_pagg a29 z29, h3, ↓h4']
  refine ⟨by first | exact .inl trivial | exact .inr trivial | simp, ?_⟩
  exact finish_is (ds := [iv (3 : Int)]) (x := .v (.int .i64 (3 : Int))) (y := .v (.int .i64 (3 : Int))) (l := []) rfl rfl rfl rfl (by first | rfl | (simp only [wk, wks, wkL]; first | done | rfl))
 ·rw [if_neg h4] at h
  have h4' : decide ((4000 : Int) < r1) = false := decide_eq_false h4
  obtain ⟨r5, h6, h⟩ := bsm h
  have h7 : ∀ H, callD (callW Tryd.prog A0) A0 H 45 [.p (.agg [.v (.int .i64 x0.Kind), .v (.string x0.Text), .lst false x0.Gaps.length (encL en_str x0.Gaps), .lst false x0.Kids.length (encL en_Node x0.Kids)])] = some (.p (.v (.int .i64 r5)), none) := fun H => R07_first_call h6
  obtain rfl := Option.some.inj h
  simp (maxSteps := 10000000) (implicitDefEqProofs := false) (disch := first | assumption | omega | exact rfl | exact im_ _) only [bs, rs21, ls21, Nat.reduceAdd, ↓reduceIte, loadD_pagg a29 z29, h3, ↓h4', h7]
  refine ⟨by first | exact .inl trivial | exact .inr trivial | simp, ?_⟩
  exact finish_is (ds := [iv r5]) (x := .v (.int .i64 r5)) (y := .v (.int .i64 r5)) (l := []) rfl rfl rfl rfl (by first | rfl | (simp only [wk, wks, wkL]; first | done | rfl))
theorem R07_Check_call {b1 b2 : Bool} {H : List Ob} {x0 : Node} {r : Int} (h : R07_Check x0 = some r) : callD (callW Tryd.prog A0) A0 H 21 [.p (.agg [.v (.int .i64 x0.Kind), .v (.string x0.Text), .lst b1 x0.Gaps.length (encL en_str x0.Gaps), .lst b2 x0.Kids.length (encL en_Node x0.Kids)])] = some (.p (.v (.int .i64 r)), none) :=
  callD_fun (args := [.agg [.v (.int .i64 x0.Kind), .v (.string x0.Text), .lst b1 x0.Gaps.length (encL en_str x0.Gaps), .lst b2 x0.Kids.length (encL en_Node x0.Kids)]]) rfl rfl rfl (by simp only [List.map_cons, List.map_nil, wk, wks, wkL]; exact f21_ok x0 _ h)
theorem f13_run : callN Tryd.prog A0 200 13 [] [] = some (.p (.v (.bool true)), []) := by kernel_rfl
theorem f13_ok (r : Bool) (h : law33_awake = some r) : callW Tryd.prog A0 13 [] [] = some (.p (.v (.bool r)), []) := by
  cases h; exact callW_some.2 ⟨200, f13_run⟩
theorem law33_awake_call {H : List Ob} {r : Bool} (h : law33_awake  = some r) : callD (callW Tryd.prog A0) A0 H 13 [] = some (.p (.v (.bool r)), none) :=
  callD_fun (args := []) rfl rfl rfl (by simp only [List.map_cons, List.map_nil, wk, wks, wkL]; exact f13_ok  _ h)
end Xr

