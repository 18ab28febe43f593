/- A part of the proof: P0. No conditions of its own. -/
import Derived.Test.YtdknlgpdjmjlnaaDoorL
namespace Xr
open Go Go.Ev Go.Proofs
set_option linter.unusedSimpArgs false
set_option linter.unusedVariables false
set_option linter.defProp false
set_option maxRecDepth 8000
set_option maxHeartbeats 40000000
def ls48 := And.intro @faP_29_3 (And.intro @idxL_27 (@varld_4_0_3))
theorem R06_left_rcall {rec : Node → Int → Int → Option Int} (hrec : ∀ x0 x1 x2 r, rec x0 x1 x2 = some r → callW Tryd.prog A0 48 [.p (.agg [.v (.int .i64 x0.Kind), .v (.string x0.Text), .lst false x0.Gaps.length (encL en_str x0.Gaps), .lst false x0.Kids.length (encL en_Node x0.Kids)]), iv x1, iv x2] [] = some (.p (.v (.int .i64 r)), [])) {b1 b2 : Bool} {H : List Ob} {x0 : Node} {x1 : Int} {x2 : Int} {r : Int} (h : rec x0 x1 x2 = some r) : callD (callW Tryd.prog A0) A0 H 48 [.p (.agg [.v (.int .i64 x0.Kind), .v (.string x0.Text), .lst b1 x0.Gaps.length (encL en_str x0.Gaps), .lst b2 x0.Kids.length (encL en_Node x0.Kids)]), iv x1, iv x2] = some (.p (.v (.int .i64 r)), none) :=
  callD_fun (args := [.agg [.v (.int .i64 x0.Kind), .v (.string x0.Text), .lst b1 x0.Gaps.length (encL en_str x0.Gaps), .lst b2 x0.Kids.length (encL en_Node x0.Kids)], .v (.int .i64 x1), .v (.int .i64 x2)]) rfl rfl rfl (by simp only [List.map_cons, List.map_nil, wk, wks, wkL]; exact hrec x0 x1 x2 _ h)
noncomputable def L48_0 : Code := (loopsOf (bodyOf Tryd.f48)).getD 0 .skip
def g48_0 : List Ghost := [.keep [2, 3, 7, 8]]
def F48_0 (s2 : Int) (w0_0 : Int) (w0_1 : ByteArray) (w0_2 : (List ByteArray)) (w0_3 : (List Node)) : (Int × Int) → St := fun (s7, s8) => ⟨[.junk, .junk, iv s2, .ptr 0 0, .junk, .junk, .junk, iv s7, iv s8, .junk, .junk, .junk, .junk, .junk, .junk, .junk, .junk, .junk, .junk, .junk, .junk, .junk, .junk, .junk, .junk, .junk, .junk, .junk, .junk, .junk, .junk, .junk, .junk, .junk, .junk, .junk, .junk, .junk, .junk, .junk, .junk, .junk, .junk], [.var [iv w0_0, .p (.v (.string w0_1)), .p (.lst false w0_2.length (encL en_str w0_2)), .p (.lst false w0_3.length (encL en_Node w0_3))]], 0⟩
theorem L48_0_ok {rec : Node → Int → Int → Option Int} (hrec : ∀ x0 x1 x2 r, rec x0 x1 x2 = some r → callW Tryd.prog A0 48 [.p (.agg [.v (.int .i64 x0.Kind), .v (.string x0.Text), .lst false x0.Gaps.length (encL en_str x0.Gaps), .lst false x0.Kids.length (encL en_Node x0.Kids)]), iv x1, iv x2] [] = some (.p (.v (.int .i64 r)), [])) (s2 : Int) (w0_0 : Int) (w0_1 : ByteArray) (w0_2 : (List ByteArray)) (w0_3 : (List Node)) : ∀ s st o, ghostsD g48_0 st = some (F48_0 s2 w0_0 w0_1 w0_2 w0_3 s) → iter (R06_left_L0 rec s2 w0_0 w0_1 w0_2 w0_3) s = some o →
    Wp (evW Tryd.prog A0 48 (.loop L48_0) st) (OutQ (F48_0 s2 w0_0 w0_1 w0_2 w0_3) g48_0 (fun n s st => n = 0 ∧ ghostsD [.keep [2, 3, 7, 8]] st = some (F48_0 s2 w0_0 w0_1 w0_2 w0_3 s)) (fun r st => finishD Tryd.prog A0 48 Tryd.f48 st = some (.p (.v (.int .i64 r)), [])) o) := by
 refine Wp.iter ?_
 intro s st o hg h
 obtain ⟨s7, s8⟩ := s
 unfold R06_left_L0 at h
 unfold g48_0 F48_0 at hg ⊢
 (try simp only [] at h hg)
 unfold L48_0 bodyOf Tryd.f48; simp only [Option.getD_some, loopsOf, List.append_nil, List.nil_append, List.cons_append, List.getD_cons_zero, List.getD_cons_succ]
 by_cases h4 : s8 < (w0_3.length : Int)
 ·rw [if_pos h4] at h
  have h4' : decide (s8 < (w0_3.length : Int)) = true := decide_eq_true h4
  obtain ⟨v5, h6, h⟩ := bsm h
  obtain ⟨h6a, h6b, _⟩ := rd_some h6
  have h7 := lk_frz_29 h6
  obtain ⟨r8, h9, h⟩ := bsm h
  have h10 : ∀ H, callD (callW Tryd.prog A0) A0 H 48 [.p (.agg [.v (.int .i64 v5.Kind), .v (.string v5.Text), .lst false v5.Gaps.length (encL en_str v5.Gaps), .lst false v5.Kids.length (encL en_Node v5.Kids)]), iv s7, iv (w64 (s2 - (1 : Int)))] = some (.p (.v (.int .i64 r8)), none) := fun H => R06_left_rcall hrec h9
  by_cases h11 : r8 < (0 : Int)
  ·rw [if_pos h11] at h
   have h11' : decide (r8 < (0 : Int)) = true := decide_eq_true h11
   obtain rfl := Option.some.inj h
   simp (maxSteps := 10000000) (implicitDefEqProofs := false) (disch := first | assumption | omega | exact rfl | exact im_ _) only [bs, rs48, ls48, Nat.reduceAdd, ↓reduceIte, lenD_lst u27, loadD_iagg a29 z29, loadD_ptr a27, hg, ↓h4', h7, h10, ↓h11']
   refine ⟨rfl, ?_⟩
   exact finish_is (ds := [iv (-1 : Int)]) (x := .v (.int .i64 (-1 : Int))) (y := .v (.int .i64 (-1 : Int))) (l := []) rfl rfl rfl rfl (by first | rfl | (simp only [wk, wks, wkL]; first | done | rfl))
  ·rw [if_neg h11] at h
   have h11' : decide (r8 < (0 : Int)) = false := decide_eq_false h11
   obtain rfl := Option.some.inj h
   simp (maxSteps := 10000000) (implicitDefEqProofs := false) (disch := first | assumption | omega | exact rfl | exact im_ _) only [bs, rs48, ls48, Nat.reduceAdd, ↓reduceIte, lenD_lst u27, loadD_iagg a29 z29, loadD_ptr a27, hg, ↓h4', h7, h10, ↓h11']
   exact ⟨rfl, by kernel_rfl⟩
 ·rw [if_neg h4] at h
  have h4' : decide (s8 < (w0_3.length : Int)) = false := decide_eq_false h4
  obtain rfl := Option.some.inj h
  simp (maxSteps := 10000000) (implicitDefEqProofs := false) (disch := first | assumption | omega | exact rfl | exact im_ _) only [bs, rs48, ls48, Nat.reduceAdd, ↓reduceIte, lenD_lst u27, loadD_iagg a29 z29, loadD_ptr a27, hg, ↓h4']
  exact ⟨rfl, rfl, by kernel_rfl⟩
theorem f48_ok {rec : Node → Int → Int → Option Int} (hrec : ∀ x0 x1 x2 r, rec x0 x1 x2 = some r → callW Tryd.prog A0 48 [.p (.agg [.v (.int .i64 x0.Kind), .v (.string x0.Text), .lst false x0.Gaps.length (encL en_str x0.Gaps), .lst false x0.Kids.length (encL en_Node x0.Kids)]), iv x1, iv x2] [] = some (.p (.v (.int .i64 r)), []))  (x0 : Node) (x1 : Int) (x2 : Int) (r : Int) (h : R06_left.body rec x0 x1 x2 = some r) : callW Tryd.prog A0 48 [.p (.agg [.v (.int .i64 x0.Kind), .v (.string x0.Text), .lst false x0.Gaps.length (encL en_str x0.Gaps), .lst false x0.Kids.length (encL en_Node x0.Kids)]), iv x1, iv x2] [] = some (.p (.v (.int .i64 r)), []) := by
 refine call_ofH (fn := Tryd.f48) (c := bodyOf Tryd.f48) rfl rfl (by kernel_rfl) (by kernel_rfl) ?_
 rw [show initS Tryd.f48 [.p (.agg [.v (.int .i64 x0.Kind), .v (.string x0.Text), .lst false x0.Gaps.length (encL en_str x0.Gaps), .lst false x0.Kids.length (encL en_Node x0.Kids)]), iv x1, iv x2] [] = ⟨.p (.agg [.v (.int .i64 x0.Kind), .v (.string x0.Text), .lst false x0.Gaps.length (encL en_str x0.Gaps), .lst false x0.Kids.length (encL en_Node x0.Kids)]) :: iv x1 :: iv x2 :: List.replicate 40 undefD, [], 0⟩ from by kernel_rfl]
 unfold R06_left.body at h
 unfold bodyOf Tryd.f48; simp only [Option.getD_some, loopsOf, List.append_nil, List.nil_append, List.cons_append, List.getD_cons_zero, List.getD_cons_succ]
 simp only [List.replicate]
 by_cases h1 : x1 < (1 : Int)
 ·rw [if_pos h1] at h
  have h1' : decide (x1 < (1 : Int)) = true := decide_eq_true h1
  obtain rfl := Option.some.inj h
  simp (maxSteps := 10000000) (implicitDefEqProofs := false) (disch := first | assumption | omega | exact rfl | exact im_ _) only [bs, rs48, ls48, Nat.reduceAdd, ↓reduceIte, lenD_lst u27, loadD_iagg a29 z29, loadD_ptr a27, ↓h1']
  refine ⟨by first | exact .inl trivial | exact .inr trivial | simp, ?_⟩
  exact finish_is (ds := [iv (-1 : Int)]) (x := .v (.int .i64 (-1 : Int))) (y := .v (.int .i64 (-1 : Int))) (l := []) rfl rfl rfl rfl (by first | rfl | (simp only [wk, wks, wkL]; first | done | rfl))
 ·rw [if_neg h1] at h
  have h1' : decide (x1 < (1 : Int)) = false := decide_eq_false h1
  by_cases h2 : x2 < (1 : Int)
  ·rw [if_pos h2] at h
   have h2' : decide (x2 < (1 : Int)) = true := decide_eq_true h2
   obtain rfl := Option.some.inj h
   simp (maxSteps := 10000000) (implicitDefEqProofs := false) (disch := first | assumption | omega | exact rfl | exact im_ _) only [bs, rs48, ls48, Nat.reduceAdd, ↓reduceIte, lenD_lst u27, loadD_iagg a29 z29, loadD_ptr a27, ↓h1', ↓h2']
   refine ⟨by first | exact .inl trivial | exact .inr trivial | simp, ?_⟩
   exact finish_is (ds := [iv (-1 : Int)]) (x := .v (.int .i64 (-1 : Int))) (y := .v (.int .i64 (-1 : Int))) (l := []) rfl rfl rfl rfl (by first | rfl | (simp only [wk, wks, wkL]; first | done | rfl))
  ·rw [if_neg h2] at h
   have h2' : decide (x2 < (1 : Int)) = false := decide_eq_false h2
   by_cases h3 : x1 < (x0.Kids.length : Int)
   ·rw [if_pos h3] at h
    have h3' : decide (x1 < (x0.Kids.length : Int)) = true := decide_eq_true h3
    obtain rfl := Option.some.inj h
    simp (maxSteps := 10000000) (implicitDefEqProofs := false) (disch := first | assumption | omega | exact rfl | exact im_ _) only [bs, rs48, ls48, Nat.reduceAdd, ↓reduceIte, lenD_lst u27, loadD_iagg a29 z29, loadD_ptr a27, ↓h1', ↓h2', ↓h3']
    refine ⟨by first | exact .inl trivial | exact .inr trivial | simp, ?_⟩
    exact finish_is (ds := [iv (-1 : Int)]) (x := .v (.int .i64 (-1 : Int))) (y := .v (.int .i64 (-1 : Int))) (l := []) rfl rfl rfl rfl (by first | rfl | (simp only [wk, wks, wkL]; first | done | rfl))
   ·rw [if_neg h3] at h
    have h3' : decide (x1 < (x0.Kids.length : Int)) = false := decide_eq_false h3
    obtain ⟨o, h12, h⟩ := bsm h
    simp (maxSteps := 10000000) (implicitDefEqProofs := false) (disch := first | assumption | omega | exact rfl | exact im_ _) only [bs, rs48, ls48, Nat.reduceAdd, ↓reduceIte, lenD_lst u27, loadD_iagg a29 z29, loadD_ptr a27, ↓h1', ↓h2', ↓h3']
    refine Wp.ctx (fun x => seqW _ _ _ _ (blockW _ (x))) (L48_0_ok hrec x2 x0.Kind x0.Text x0.Gaps x0.Kids (w64 (x1 - (1 : Int)), (0 : Int)) _ o (by kernel_rfl) h12) ?_
    intro e st hq
    cases o with
    | next _ => (first | cases h | (simp at h))
    | jmp n_ s_ =>
     obtain ⟨rfl, rfl, hq⟩ := hq
     obtain ⟨s7_13, s8_13⟩ := s_
     unfold F48_0 at hq
     (try simp only [] at h hq)
     obtain rfl := Option.some.inj h
     simp (maxSteps := 10000000) (implicitDefEqProofs := false) (disch := first | assumption | omega | exact rfl | exact im_ _) only [bs, rs48, ls48, Nat.reduceAdd, ↓reduceIte, lenD_lst u27, loadD_iagg a29 z29, loadD_ptr a27, ↓h1', ↓h2', ↓h3', hq]
     refine ⟨by first | exact .inl trivial | exact .inr trivial | simp, ?_⟩
     exact finish_is (ds := [iv s7_13]) (x := .v (.int .i64 s7_13)) (y := .v (.int .i64 s7_13)) (l := []) rfl rfl rfl rfl (by first | rfl | (simp only [wk, wks, wkL]; first | done | rfl))
    | ret r14 =>
     obtain ⟨rfl, hq⟩ := hq
     obtain rfl := Option.some.inj h
     simp (maxSteps := 10000000) (implicitDefEqProofs := false) (disch := first | assumption | omega | exact rfl | exact im_ _) only [bs, rs48, ls48, Nat.reduceAdd, ↓reduceIte, lenD_lst u27, loadD_iagg a29 z29, loadD_ptr a27]
     exact ⟨by first | exact .inl trivial | exact .inr trivial | simp, hq⟩
theorem f48_spec : ∀ (x0 : Node) (x1 : Int) (x2 : Int) r, R06_leftS x0 x1 x2 = some r → callW Tryd.prog A0 48 [.p (.agg [.v (.int .i64 x0.Kind), .v (.string x0.Text), .lst false x0.Gaps.length (encL en_str x0.Gaps), .lst false x0.Kids.length (encL en_Node x0.Kids)]), iv x1, iv x2] [] = some (.p (.v (.int .i64 r)), []) := by
  have key : ∀ n (x0 : Node) (x1 : Int) (x2 : Int) r, R06_leftS_mu x0 x1 x2 < n → R06_leftS x0 x1 x2 = some r → callW Tryd.prog A0 48 [.p (.agg [.v (.int .i64 x0.Kind), .v (.string x0.Text), .lst false x0.Gaps.length (encL en_str x0.Gaps), .lst false x0.Kids.length (encL en_Node x0.Kids)]), iv x1, iv x2] [] = some (.p (.v (.int .i64 r)), []) := by
    intro n
    induction n with
    | zero => intro x0 x1 x2 r h; omega
    | succ n ih =>
      intro x0 x1 x2 r hn h
      refine f48_ok (rec := fun x0' x1' x2' => if R06_leftS_mu x0' x1' x2' < R06_leftS_mu x0 x1 x2 then R06_leftS x0' x1' x2' else none) ?_ x0 x1 x2 r (R06_leftS_body x0 x1 x2 r h)
      intro x0' x1' x2' r' h'
      by_cases hm : R06_leftS_mu x0' x1' x2' < R06_leftS_mu x0 x1 x2
      · rw [if_pos hm] at h'; exact ih x0' x1' x2' r' (by omega) h'
      · rw [if_neg hm] at h'; cases h'
  intro x0 x1 x2 r h
  exact key _ x0 x1 x2 r (Nat.lt_succ_self _) h
theorem R06_left_call {b1 b2 : Bool} {H : List Ob} {x0 : Node} {x1 : Int} {x2 : Int} {r : Int} (h : R06_leftS x0 x1 x2 = some r) : callD (callW Tryd.prog A0) A0 H 48 [.p (.agg [.v (.int .i64 x0.Kind), .v (.string x0.Text), .lst b1 x0.Gaps.length (encL en_str x0.Gaps), .lst b2 x0.Kids.length (encL en_Node x0.Kids)]), iv x1, iv x2] = some (.p (.v (.int .i64 r)), none) :=
  callD_fun (args := [.agg [.v (.int .i64 x0.Kind), .v (.string x0.Text), .lst b1 x0.Gaps.length (encL en_str x0.Gaps), .lst b2 x0.Kids.length (encL en_Node x0.Kids)], .v (.int .i64 x1), .v (.int .i64 x2)]) rfl rfl rfl (by simp only [List.map_cons, List.map_nil, wk, wks, wkL]; exact f48_spec x0 x1 x2 _ h)
def ls28 := @varlv_4_0_4
theorem f28_ok  (x0 : Node) (x1 : Int) (x2 : Int) (r : Bool) (h : R06_Fits x0 x1 x2 = some r) : callW Tryd.prog A0 28 [.p (.agg [.v (.int .i64 x0.Kind), .v (.string x0.Text), .lst false x0.Gaps.length (encL en_str x0.Gaps), .lst false x0.Kids.length (encL en_Node x0.Kids)]), iv x1, iv x2] [] = some (.p (.v (.bool r)), []) := by
 refine call_ofH (fn := Tryd.f28) (c := bodyOf Tryd.f28) rfl rfl (by kernel_rfl) (by kernel_rfl) ?_
 rw [show initS Tryd.f28 [.p (.agg [.v (.int .i64 x0.Kind), .v (.string x0.Text), .lst false x0.Gaps.length (encL en_str x0.Gaps), .lst false x0.Kids.length (encL en_Node x0.Kids)]), iv x1, iv x2] [] = ⟨.p (.agg [.v (.int .i64 x0.Kind), .v (.string x0.Text), .lst false x0.Gaps.length (encL en_str x0.Gaps), .lst false x0.Kids.length (encL en_Node x0.Kids)]) :: iv x1 :: iv x2 :: List.replicate 9 undefD, [], 0⟩ from by kernel_rfl]
 unfold R06_Fits at h
 unfold bodyOf Tryd.f28; simp only [Option.getD_some, loopsOf, List.append_nil, List.nil_append, List.cons_append, List.getD_cons_zero, List.getD_cons_succ]
 simp only [List.replicate]
 obtain ⟨r1, h2, h⟩ := bsm h
 have h3 : ∀ H, callD (callW Tryd.prog A0) A0 H 48 [.p (.agg [.v (.int .i64 x0.Kind), .v (.string x0.Text), .lst false x0.Gaps.length (encL en_str x0.Gaps), .lst false x0.Kids.length (encL en_Node x0.Kids)]), iv x1, iv x2] = some (.p (.v (.int .i64 r1)), none) := fun H => R06_left_call h2
 obtain rfl := Option.some.inj h
 simp (maxSteps := 10000000) (implicitDefEqProofs := false) (disch := first | assumption | omega | exact rfl | exact im_ _) only [bs, rs28, ls28, Nat.reduceAdd, ↓reduceIte, loadD_pagg a29 z29, h3]
 refine ⟨by first | exact .inl trivial | exact .inr trivial | simp, ?_⟩
 exact finish_is (ds := [bv (decide ((0 : Int) ≤ r1))]) (x := .v (.bool (decide ((0 : Int) ≤ r1)))) (y := .v (.bool (decide ((0 : Int) ≤ r1)))) (l := []) rfl rfl rfl rfl (by first | rfl | (simp only [wk, wks, wkL]; first | done | rfl))
theorem R06_Fits_call {b1 b2 : Bool} {H : List Ob} {x0 : Node} {x1 : Int} {x2 : Int} {r : Bool} (h : R06_Fits x0 x1 x2 = some r) : callD (callW Tryd.prog A0) A0 H 28 [.p (.agg [.v (.int .i64 x0.Kind), .v (.string x0.Text), .lst b1 x0.Gaps.length (encL en_str x0.Gaps), .lst b2 x0.Kids.length (encL en_Node x0.Kids)]), iv x1, iv x2] = some (.p (.v (.bool r)), none) :=
  callD_fun (args := [.agg [.v (.int .i64 x0.Kind), .v (.string x0.Text), .lst b1 x0.Gaps.length (encL en_str x0.Gaps), .lst b2 x0.Kids.length (encL en_Node x0.Kids)], .v (.int .i64 x1), .v (.int .i64 x2)]) rfl rfl rfl (by simp only [List.map_cons, List.map_nil, wk, wks, wkL]; exact f28_ok x0 x1 x2 _ h)
def ls14 := @varlv_4_0_4
theorem f14_ok  (x0 : Node) (r : Bool) (h : law33_small x0 = some r) : callW Tryd.prog A0 14 [.p (.agg [.v (.int .i64 x0.Kind), .v (.string x0.Text), .lst false x0.Gaps.length (encL en_str x0.Gaps), .lst false x0.Kids.length (encL en_Node x0.Kids)])] [] = some (.p (.v (.bool r)), []) := by
 refine call_ofH (fn := Tryd.f14) (c := bodyOf Tryd.f14) rfl rfl (by kernel_rfl) (by kernel_rfl) ?_
 rw [show initS Tryd.f14 [.p (.agg [.v (.int .i64 x0.Kind), .v (.string x0.Text), .lst false x0.Gaps.length (encL en_str x0.Gaps), .lst false x0.Kids.length (encL en_Node x0.Kids)])] [] = ⟨.p (.agg [.v (.int .i64 x0.Kind), .v (.string x0.Text), .lst false x0.Gaps.length (encL en_str x0.Gaps), .lst false x0.Kids.length (encL en_Node x0.Kids)]) :: List.replicate 4 undefD, [], 0⟩ from by kernel_rfl]
 unfold law33_small at h
 unfold bodyOf Tryd.f14; simp only [Option.getD_some, loopsOf, List.append_nil, List.nil_append, List.cons_append, List.getD_cons_zero, List.getD_cons_succ]
 simp only [List.replicate]
 obtain ⟨r1, h2, h⟩ := bsm h
 have h3 : ∀ H, callD (callW Tryd.prog A0) A0 H 28 [.p (.agg [.v (.int .i64 x0.Kind), .v (.string x0.Text), .lst false x0.Gaps.length (encL en_str x0.Gaps), .lst false x0.Kids.length (encL en_Node x0.Kids)]), iv (60 : Int), iv (30 : Int)] = some (.p (.v (.bool r1)), none) := fun H => R06_Fits_call h2
 obtain rfl := Option.some.inj h
 simp (maxSteps := 10000000) (implicitDefEqProofs := false) (disch := first | assumption | omega | exact rfl | exact im_ _) only [bs, rs14, ls14, Nat.reduceAdd, ↓reduceIte, loadD_pagg a29 z29, h3]
 refine ⟨by first | exact .inl trivial | exact .inr trivial | simp, ?_⟩
 exact finish_is (ds := [bv r1]) (x := .v (.bool r1)) (y := .v (.bool r1)) (l := []) rfl rfl rfl rfl (by first | rfl | (simp only [wk, wks, wkL]; first | done | rfl))
theorem law33_small_call {b1 b2 : Bool} {H : List Ob} {x0 : Node} {r : Bool} (h : law33_small x0 = some r) : callD (callW Tryd.prog A0) A0 H 14 [.p (.agg [.v (.int .i64 x0.Kind), .v (.string x0.Text), .lst b1 x0.Gaps.length (encL en_str x0.Gaps), .lst b2 x0.Kids.length (encL en_Node x0.Kids)])] = some (.p (.v (.bool r)), none) :=
  callD_fun (args := [.agg [.v (.int .i64 x0.Kind), .v (.string x0.Text), .lst b1 x0.Gaps.length (encL en_str x0.Gaps), .lst b2 x0.Kids.length (encL en_Node x0.Kids)]]) rfl rfl rfl (by simp only [List.map_cons, List.map_nil, wk, wks, wkL]; exact f14_ok x0 _ h)
theorem f50_ok  (x0 : Int) (r : Bool) (h : grammar_known x0 = some r) : callW Tryd.prog A0 50 [iv x0] [] = some (.p (.v (.bool r)), []) := by
 refine call_ofH (fn := Tryd.f50) (c := bodyOf Tryd.f50) rfl rfl (by kernel_rfl) (by kernel_rfl) ?_
 rw [show initS Tryd.f50 [iv x0] [] = ⟨iv x0 :: List.replicate 8 undefD, [], 0⟩ from by kernel_rfl]
 unfold grammar_known at h
 unfold bodyOf Tryd.f50; simp only [Option.getD_some, loopsOf, List.append_nil, List.nil_append, List.cons_append, List.getD_cons_zero, List.getD_cons_succ]
 simp only [List.replicate]
 by_cases h1 : (1 : Int) ≤ x0
 ·rw [if_pos h1] at h
  have h1' : decide ((1 : Int) ≤ x0) = true := decide_eq_true h1
  obtain rfl := Option.some.inj h
  simp (maxSteps := 10000000) (implicitDefEqProofs := false) (disch := first | assumption | omega | exact rfl | exact im_ _) only [bs, rs50, Nat.reduceAdd, ↓reduceIte, ↓h1']
  refine ⟨by first | exact .inl trivial | exact .inr trivial | simp, ?_⟩
  exact finish_is (ds := [bv (decide (x0 < (27 : Int)))]) (x := .v (.bool (decide (x0 < (27 : Int))))) (y := .v (.bool (decide (x0 < (27 : Int))))) (l := []) rfl rfl rfl rfl (by first | rfl | (simp only [wk, wks, wkL]; first | done | rfl))
 ·rw [if_neg h1] at h
  have h1' : decide ((1 : Int) ≤ x0) = false := decide_eq_false h1
  obtain rfl := Option.some.inj h
  simp (maxSteps := 10000000) (implicitDefEqProofs := false) (disch := first | assumption | omega | exact rfl | exact im_ _) only [bs, rs50, Nat.reduceAdd, ↓reduceIte, ↓h1']
  refine ⟨by first | exact .inl trivial | exact .inr trivial | simp, ?_⟩
  exact finish_is (ds := [bv false]) (x := .v (.bool false)) (y := .v (.bool false)) (l := []) rfl rfl rfl rfl (by first | rfl | (simp only [wk, wks, wkL]; first | done | rfl))
theorem grammar_known_call {H : List Ob} {x0 : Int} {r : Bool} (h : grammar_known x0 = some r) : callD (callW Tryd.prog A0) A0 H 50 [iv x0] = some (.p (.v (.bool r)), none) :=
  callD_fun (args := [.v (.int .i64 x0)]) rfl rfl rfl (by simp only [List.map_cons, List.map_nil, wk, wks, wkL]; exact f50_ok x0 _ h)
def ls31 := And.intro @faI_67_4 (And.intro @faP_29_0 (And.intro @faP_29_1 (And.intro @faP_29_3 (And.intro @idxG_68 (And.intro @varld_4_0_0 (And.intro @varld_4_0_1 (@varld_4_0_3)))))))
theorem f31_ok  (x0 : Node) (r : Int) (h : grammar_Own x0 = some r) : callW Tryd.prog A0 31 [.p (.agg [.v (.int .i64 x0.Kind), .v (.string x0.Text), .lst false x0.Gaps.length (encL en_str x0.Gaps), .lst false x0.Kids.length (encL en_Node x0.Kids)])] [] = some (.p (.v (.int .i64 r)), []) := by
 refine call_ofH (fn := Tryd.f31) (c := bodyOf Tryd.f31) rfl rfl (by kernel_rfl) (by kernel_rfl) ?_
 rw [show initS Tryd.f31 [.p (.agg [.v (.int .i64 x0.Kind), .v (.string x0.Text), .lst false x0.Gaps.length (encL en_str x0.Gaps), .lst false x0.Kids.length (encL en_Node x0.Kids)])] [] = ⟨.p (.agg [.v (.int .i64 x0.Kind), .v (.string x0.Text), .lst false x0.Gaps.length (encL en_str x0.Gaps), .lst false x0.Kids.length (encL en_Node x0.Kids)]) :: List.replicate 44 undefD, [], 0⟩ from by kernel_rfl]
 unfold grammar_Own at h
 unfold bodyOf Tryd.f31; simp only [Option.getD_some, loopsOf, List.append_nil, List.nil_append, List.cons_append, List.getD_cons_zero, List.getD_cons_succ]
 simp only [List.replicate]
 obtain ⟨r1, h2, h⟩ := bsm h
 have h3 : ∀ H, callD (callW Tryd.prog A0) A0 H 50 [iv x0.Kind] = some (.p (.v (.bool r1)), none) := fun H => grammar_known_call h2
 by_cases h4 : r1 = true
 ·rw [if_pos h4] at h
  by_cases h5 : x0.Kind = (8 : Int)
  ·rw [if_pos h5] at h
   have h5' : decide (x0.Kind = (8 : Int)) = true := decide_eq_true h5
   by_cases h6 : x0.Text = (ByteArray.mk #[])
   ·rw [if_pos h6] at h
    have h6' : decide (x0.Text = (ByteArray.mk #[])) = true := decide_eq_true h6
    obtain rfl := Option.some.inj h
    simp (maxSteps := 10000000) (implicitDefEqProofs := false) (disch := first | assumption | omega | exact rfl | exact im_ _) only [bs, rs31, ls31, Nat.reduceAdd, ↓reduceIte, binD_eql_str, evalO_g0, lenD_lst u27, loadD_iptr a3, loadD_ptr a27, loadD_ptr a3, loadD_ptr a9, maxD_int, h3, h4, ↓h5', ↓h6']
    refine ⟨by first | exact .inl trivial | exact .inr trivial | simp, ?_⟩
    exact finish_is (ds := [iv (0 : Int)]) (x := .v (.int .i64 (0 : Int))) (y := .v (.int .i64 (0 : Int))) (l := []) rfl rfl rfl rfl (by first | rfl | (simp only [wk, wks, wkL]; first | done | rfl))
   ·rw [if_neg h6] at h
    have h6' : decide (x0.Text = (ByteArray.mk #[])) = false := decide_eq_false h6
    by_cases hw_ : 0 ≤ x0.Kind ∧ x0.Kind < 27
    case neg => rw [if_neg hw_] at h; cases h
    rw [if_pos hw_] at h
    obtain ⟨h7, h8⟩ := hw_
    obtain ⟨q9, h10, h⟩ := bsm h
    have h11 := gl0_5_ok h10
    obtain rfl := Option.some.inj h
    simp (maxSteps := 10000000) (implicitDefEqProofs := false) (disch := first | assumption | omega | exact rfl | exact im_ _) only [bs, rs31, ls31, Nat.reduceAdd, ↓reduceIte, binD_eql_str, evalO_g0, lenD_lst u27, loadD_iptr a3, loadD_ptr a27, loadD_ptr a3, loadD_ptr a9, maxD_int, h3, h4, ↓h5', ↓h6', h11]
    refine ⟨by first | exact .inl trivial | exact .inr trivial | simp, ?_⟩
    exact finish_is (ds := [iv q9]) (x := .v (.int .i64 q9)) (y := .v (.int .i64 q9)) (l := []) rfl rfl rfl rfl (by first | rfl | (simp only [wk, wks, wkL]; first | done | rfl))
  ·rw [if_neg h5] at h
   have h5' : decide (x0.Kind = (8 : Int)) = false := decide_eq_false h5
   by_cases h12 : x0.Kind = (14 : Int)
   ·rw [if_pos h12] at h
    have h12' : decide (x0.Kind = (14 : Int)) = true := decide_eq_true h12
    by_cases h13 : (x0.Kids.length : Int) = (0 : Int)
    ·rw [if_pos h13] at h
     have h13' : decide ((x0.Kids.length : Int) = (0 : Int)) = true := decide_eq_true h13
     obtain rfl := Option.some.inj h
     simp (maxSteps := 10000000) (implicitDefEqProofs := false) (disch := first | assumption | omega | exact rfl | exact im_ _) only [bs, rs31, ls31, Nat.reduceAdd, ↓reduceIte, binD_eql_str, evalO_g0, lenD_lst u27, loadD_iptr a3, loadD_ptr a27, loadD_ptr a3, loadD_ptr a9, maxD_int, h3, h4, ↓h5', ↓h12', ↓h13']
     refine ⟨by first | exact .inl trivial | exact .inr trivial | simp, ?_⟩
     exact finish_is (ds := [iv (0 : Int)]) (x := .v (.int .i64 (0 : Int))) (y := .v (.int .i64 (0 : Int))) (l := []) rfl rfl rfl rfl (by first | rfl | (simp only [wk, wks, wkL]; first | done | rfl))
    ·rw [if_neg h13] at h
     have h13' : decide ((x0.Kids.length : Int) = (0 : Int)) = false := decide_eq_false h13
     by_cases hw_ : 0 ≤ x0.Kind ∧ x0.Kind < 27
     case neg => rw [if_neg hw_] at h; cases h
     rw [if_pos hw_] at h
     obtain ⟨h14, h15⟩ := hw_
     obtain ⟨q16, h17, h⟩ := bsm h
     have h18 := gl0_5_ok h17
     obtain rfl := Option.some.inj h
     simp (maxSteps := 10000000) (implicitDefEqProofs := false) (disch := first | assumption | omega | exact rfl | exact im_ _) only [bs, rs31, ls31, Nat.reduceAdd, ↓reduceIte, binD_eql_str, evalO_g0, lenD_lst u27, loadD_iptr a3, loadD_ptr a27, loadD_ptr a3, loadD_ptr a9, maxD_int, h3, h4, ↓h5', ↓h12', ↓h13', h18]
     refine ⟨by first | exact .inl trivial | exact .inr trivial | simp, ?_⟩
     exact finish_is (ds := [iv q16]) (x := .v (.int .i64 q16)) (y := .v (.int .i64 q16)) (l := []) rfl rfl rfl rfl (by first | rfl | (simp only [wk, wks, wkL]; first | done | rfl))
   ·rw [if_neg h12] at h
    have h12' : decide (x0.Kind = (14 : Int)) = false := decide_eq_false h12
    by_cases h19 : x0.Kind = (21 : Int)
    ·rw [if_pos h19] at h
     have h19' : decide (x0.Kind = (21 : Int)) = true := decide_eq_true h19
     by_cases hw_ : 0 ≤ x0.Kind ∧ x0.Kind < 27
     case neg => rw [if_neg hw_] at h; cases h
     rw [if_pos hw_] at h
     obtain ⟨h20, h21⟩ := hw_
     obtain ⟨q22, h23, h⟩ := bsm h
     have h24 := gl0_5_ok h23
     obtain rfl := Option.some.inj h
     simp (maxSteps := 10000000) (implicitDefEqProofs := false) (disch := first | assumption | omega | exact rfl | exact im_ _) only [bs, rs31, ls31, Nat.reduceAdd, ↓reduceIte, binD_eql_str, evalO_g0, lenD_lst u27, loadD_iptr a3, loadD_ptr a27, loadD_ptr a3, loadD_ptr a9, maxD_int, h3, h4, ↓h5', ↓h12', ↓h19', h24]
     refine ⟨by first | exact .inl trivial | exact .inr trivial | simp, ?_⟩
     exact finish_is (ds := [iv (w64 (q22 + (max (0 : Int) (w64 ((w64 ((x0.Kids.length : Int) - (1 : Int))) - (1 : Int))))))]) (x := .v (.int .i64 (w64 (q22 + (max (0 : Int) (w64 ((w64 ((x0.Kids.length : Int) - (1 : Int))) - (1 : Int)))))))) (y := .v (.int .i64 (w64 (q22 + (max (0 : Int) (w64 ((w64 ((x0.Kids.length : Int) - (1 : Int))) - (1 : Int)))))))) (l := []) rfl rfl rfl rfl (by first | rfl | (simp only [wk, wks, wkL]; first | done | rfl))
    ·rw [if_neg h19] at h
     have h19' : decide (x0.Kind = (21 : Int)) = false := decide_eq_false h19
     by_cases h25 : x0.Kind = (20 : Int)
     ·rw [if_pos h25] at h
      have h25' : decide (x0.Kind = (20 : Int)) = true := decide_eq_true h25
      by_cases hw_ : 0 ≤ x0.Kind ∧ x0.Kind < 27
      case neg => rw [if_neg hw_] at h; cases h
      rw [if_pos hw_] at h
      obtain ⟨h26, h27⟩ := hw_
      obtain ⟨q28, h29, h⟩ := bsm h
      have h30 := gl0_5_ok h29
      obtain rfl := Option.some.inj h
      simp (maxSteps := 10000000) (implicitDefEqProofs := false) (disch := first | assumption | omega | exact rfl | exact im_ _) only [bs, rs31, ls31, Nat.reduceAdd, ↓reduceIte, binD_eql_str, evalO_g0, lenD_lst u27, loadD_iptr a3, loadD_ptr a27, loadD_ptr a3, loadD_ptr a9, maxD_int, h3, h4, ↓h5', ↓h12', ↓h19', ↓h25', h30]
      refine ⟨by first | exact .inl trivial | exact .inr trivial | simp, ?_⟩
      exact finish_is (ds := [iv (w64 (q28 + (max (0 : Int) (w64 ((x0.Kids.length : Int) - (1 : Int))))))]) (x := .v (.int .i64 (w64 (q28 + (max (0 : Int) (w64 ((x0.Kids.length : Int) - (1 : Int)))))))) (y := .v (.int .i64 (w64 (q28 + (max (0 : Int) (w64 ((x0.Kids.length : Int) - (1 : Int)))))))) (l := []) rfl rfl rfl rfl (by first | rfl | (simp only [wk, wks, wkL]; first | done | rfl))
     ·rw [if_neg h25] at h
      have h25' : decide (x0.Kind = (20 : Int)) = false := decide_eq_false h25
      by_cases h31 : x0.Kind = (3 : Int)
      ·rw [if_pos h31] at h
       have h31' : decide (x0.Kind = (3 : Int)) = true := decide_eq_true h31
       by_cases hw_ : 0 ≤ x0.Kind ∧ x0.Kind < 27
       case neg => rw [if_neg hw_] at h; cases h
       rw [if_pos hw_] at h
       obtain ⟨h32, h33⟩ := hw_
       obtain ⟨q34, h35, h⟩ := bsm h
       have h36 := gl0_5_ok h35
       obtain rfl := Option.some.inj h
       simp (maxSteps := 10000000) (implicitDefEqProofs := false) (disch := first | assumption | omega | exact rfl | exact im_ _) only [bs, rs31, ls31, Nat.reduceAdd, ↓reduceIte, binD_eql_str, evalO_g0, lenD_lst u27, loadD_iptr a3, loadD_ptr a27, loadD_ptr a3, loadD_ptr a9, maxD_int, h3, h4, ↓h5', ↓h12', ↓h19', ↓h25', ↓h31', h36]
       refine ⟨by first | exact .inl trivial | exact .inr trivial | simp, ?_⟩
       exact finish_is (ds := [iv (w64 (q34 + (max (0 : Int) (w64 ((x0.Kids.length : Int) - (1 : Int))))))]) (x := .v (.int .i64 (w64 (q34 + (max (0 : Int) (w64 ((x0.Kids.length : Int) - (1 : Int)))))))) (y := .v (.int .i64 (w64 (q34 + (max (0 : Int) (w64 ((x0.Kids.length : Int) - (1 : Int)))))))) (l := []) rfl rfl rfl rfl (by first | rfl | (simp only [wk, wks, wkL]; first | done | rfl))
      ·rw [if_neg h31] at h
       have h31' : decide (x0.Kind = (3 : Int)) = false := decide_eq_false h31
       by_cases hw_ : 0 ≤ x0.Kind ∧ x0.Kind < 27
       case neg => rw [if_neg hw_] at h; cases h
       rw [if_pos hw_] at h
       obtain ⟨h37, h38⟩ := hw_
       obtain ⟨q39, h40, h⟩ := bsm h
       have h41 := gl0_5_ok h40
       obtain rfl := Option.some.inj h
       simp (maxSteps := 10000000) (implicitDefEqProofs := false) (disch := first | assumption | omega | exact rfl | exact im_ _) only [bs, rs31, ls31, Nat.reduceAdd, ↓reduceIte, binD_eql_str, evalO_g0, lenD_lst u27, loadD_iptr a3, loadD_ptr a27, loadD_ptr a3, loadD_ptr a9, maxD_int, h3, h4, ↓h5', ↓h12', ↓h19', ↓h25', ↓h31', h41]
       refine ⟨by first | exact .inl trivial | exact .inr trivial | simp, ?_⟩
       exact finish_is (ds := [iv q39]) (x := .v (.int .i64 q39)) (y := .v (.int .i64 q39)) (l := []) rfl rfl rfl rfl (by first | rfl | (simp only [wk, wks, wkL]; first | done | rfl))
 ·rw [if_neg h4] at h
  replace h4 := Bool.eq_false_iff.2 h4
  obtain rfl := Option.some.inj h
  simp (maxSteps := 10000000) (implicitDefEqProofs := false) (disch := first | assumption | omega | exact rfl | exact im_ _) only [bs, rs31, ls31, Nat.reduceAdd, ↓reduceIte, binD_eql_str, evalO_g0, lenD_lst u27, loadD_iptr a3, loadD_ptr a27, loadD_ptr a3, loadD_ptr a9, maxD_int, h3, h4]
  refine ⟨by first | exact .inl trivial | exact .inr trivial | simp, ?_⟩
  exact finish_is (ds := [iv (0 : Int)]) (x := .v (.int .i64 (0 : Int))) (y := .v (.int .i64 (0 : Int))) (l := []) rfl rfl rfl rfl (by first | rfl | (simp only [wk, wks, wkL]; first | done | rfl))
theorem grammar_Own_call {b1 b2 : Bool} {H : List Ob} {x0 : Node} {r : Int} (h : grammar_Own x0 = some r) : callD (callW Tryd.prog A0) A0 H 31 [.p (.agg [.v (.int .i64 x0.Kind), .v (.string x0.Text), .lst b1 x0.Gaps.length (encL en_str x0.Gaps), .lst b2 x0.Kids.length (encL en_Node x0.Kids)])] = some (.p (.v (.int .i64 r)), none) :=
  callD_fun (args := [.agg [.v (.int .i64 x0.Kind), .v (.string x0.Text), .lst b1 x0.Gaps.length (encL en_str x0.Gaps), .lst b2 x0.Kids.length (encL en_Node x0.Kids)]]) rfl rfl rfl (by simp only [List.map_cons, List.map_nil, wk, wks, wkL]; exact f31_ok x0 _ h)
theorem f63_ok  (x0 : ByteArray) (r : Unit) (h : trivia_End_c1 x0 = some r) : callW Tryd.prog A0 63 [.p (.v (.string x0))] [] = some (.p (.tup []), []) := by
 refine call_ofH (fn := Tryd.f63) (c := bodyOf Tryd.f63) rfl rfl (by kernel_rfl) (by kernel_rfl) ?_
 rw [show initS Tryd.f63 [.p (.v (.string x0))] [] = ⟨.p (.v (.string x0)) :: List.replicate 1 undefD, [], 0⟩ from by kernel_rfl]
 unfold trivia_End_c1 at h
 unfold bodyOf Tryd.f63; simp only [Option.getD_some, loopsOf, List.append_nil, List.nil_append, List.cons_append, List.getD_cons_zero, List.getD_cons_succ]
 simp only [List.replicate]
 obtain rfl := Option.some.inj h
 simp (maxSteps := 10000000) (implicitDefEqProofs := false) (disch := first | assumption | omega | exact rfl | exact im_ _) only [bs, rs63, Nat.reduceAdd, ↓reduceIte]
 refine ⟨by first | exact .inl trivial | exact .inr trivial | simp, ?_⟩
 exact finish_is (ds := []) (x := .tup []) (y := .tup []) (l := []) rfl rfl rfl rfl rfl
theorem trivia_End_c1_call {H : List Ob} {x0 : ByteArray} {r : Unit} (h : trivia_End_c1 x0 = some r) : callD (callW Tryd.prog A0) A0 H 63 [.p (.v (.string x0))] = some (.p (.tup []), none) :=
  callD_fun (args := [.v (.string x0)]) rfl rfl rfl (by simp only [List.map_cons, List.map_nil, wk, wks, wkL]; exact f63_ok x0 _ h)
theorem f89_ok  (x0 : ByteArray) (x1 : ByteArray) (r : Bool) (h : internal_stringslite_HasPrefix x0 x1 = some r) : callW Tryd.prog A0 89 [.p (.v (.string x0)), .p (.v (.string x1))] [] = some (.p (.v (.bool r)), []) := by
 refine call_ofH (fn := Tryd.f89) (c := bodyOf Tryd.f89) rfl rfl (by kernel_rfl) (by kernel_rfl) ?_
 rw [show initS Tryd.f89 [.p (.v (.string x0)), .p (.v (.string x1))] [] = ⟨.p (.v (.string x0)) :: .p (.v (.string x1)) :: List.replicate 16 undefD, [], 0⟩ from by kernel_rfl]
 unfold internal_stringslite_HasPrefix at h
 unfold bodyOf Tryd.f89; simp only [Option.getD_some, loopsOf, List.append_nil, List.nil_append, List.cons_append, List.getD_cons_zero, List.getD_cons_succ]
 simp only [List.replicate]
 by_cases h1 : (x1.size : Int) ≤ (x0.size : Int)
 ·rw [if_pos h1] at h
  have h1' : decide ((x1.size : Int) ≤ (x0.size : Int)) = true := decide_eq_true h1
  by_cases hw_ : 0 ≤ (x1.size : Int) ∧ (x1.size : Int) ≤ (x0.size : Int)
  case neg => rw [if_neg hw_] at h; cases h
  rw [if_pos hw_] at h
  obtain ⟨h2, h3⟩ := hw_
  obtain rfl := Option.some.inj h
  simp (maxSteps := 10000000) (implicitDefEqProofs := false) (disch := first | assumption | omega | exact rfl | exact im_ _) only [bs, rs89, Nat.reduceAdd, ↓reduceIte, binD_eql_str, lenD_str u9, sliceD_shi us9, ↓h1']
  refine ⟨by first | exact .inl trivial | exact .inr trivial | simp, ?_⟩
  exact finish_is (ds := [bv (decide ((x0.extract 0 (x1.size : Int).toNat) = x1))]) (x := .v (.bool (decide ((x0.extract 0 (x1.size : Int).toNat) = x1)))) (y := .v (.bool (decide ((x0.extract 0 (x1.size : Int).toNat) = x1)))) (l := []) rfl rfl rfl rfl (by first | rfl | (simp only [wk, wks, wkL]; first | done | rfl))
 ·rw [if_neg h1] at h
  have h1' : decide ((x1.size : Int) ≤ (x0.size : Int)) = false := decide_eq_false h1
  obtain rfl := Option.some.inj h
  simp (maxSteps := 10000000) (implicitDefEqProofs := false) (disch := first | assumption | omega | exact rfl | exact im_ _) only [bs, rs89, Nat.reduceAdd, ↓reduceIte, binD_eql_str, lenD_str u9, sliceD_shi us9, ↓h1']
  refine ⟨by first | exact .inl trivial | exact .inr trivial | simp, ?_⟩
  exact finish_is (ds := [bv false]) (x := .v (.bool false)) (y := .v (.bool false)) (l := []) rfl rfl rfl rfl (by first | rfl | (simp only [wk, wks, wkL]; first | done | rfl))
theorem internal_stringslite_HasPrefix_call {H : List Ob} {x0 : ByteArray} {x1 : ByteArray} {r : Bool} (h : internal_stringslite_HasPrefix x0 x1 = some r) : callD (callW Tryd.prog A0) A0 H 89 [.p (.v (.string x0)), .p (.v (.string x1))] = some (.p (.v (.bool r)), none) :=
  callD_fun (args := [.v (.string x0), .v (.string x1)]) rfl rfl rfl (by simp only [List.map_cons, List.map_nil, wk, wks, wkL]; exact f89_ok x0 x1 _ h)
theorem f74_ok  (x0 : ByteArray) (x1 : ByteArray) (r : Bool) (h : strings_HasPrefix x0 x1 = some r) : callW Tryd.prog A0 74 [.p (.v (.string x0)), .p (.v (.string x1))] [] = some (.p (.v (.bool r)), []) := by
 refine call_ofH (fn := Tryd.f74) (c := bodyOf Tryd.f74) rfl rfl (by kernel_rfl) (by kernel_rfl) ?_
 rw [show initS Tryd.f74 [.p (.v (.string x0)), .p (.v (.string x1))] [] = ⟨.p (.v (.string x0)) :: .p (.v (.string x1)) :: List.replicate 6 undefD, [], 0⟩ from by kernel_rfl]
 unfold strings_HasPrefix at h
 unfold bodyOf Tryd.f74; simp only [Option.getD_some, loopsOf, List.append_nil, List.nil_append, List.cons_append, List.getD_cons_zero, List.getD_cons_succ]
 simp only [List.replicate]
 obtain ⟨r1, h2, h⟩ := bsm h
 have h3 : ∀ H, callD (callW Tryd.prog A0) A0 H 89 [.p (.v (.string x0)), .p (.v (.string x1))] = some (.p (.v (.bool r1)), none) := fun H => internal_stringslite_HasPrefix_call h2
 obtain rfl := Option.some.inj h
 simp (maxSteps := 10000000) (implicitDefEqProofs := false) (disch := first | assumption | omega | exact rfl | exact im_ _) only [bs, rs74, Nat.reduceAdd, ↓reduceIte, h3]
 refine ⟨by first | exact .inl trivial | exact .inr trivial | simp, ?_⟩
 exact finish_is (ds := [bv r1]) (x := .v (.bool r1)) (y := .v (.bool r1)) (l := []) rfl rfl rfl rfl (by first | rfl | (simp only [wk, wks, wkL]; first | done | rfl))
theorem strings_HasPrefix_call {H : List Ob} {x0 : ByteArray} {x1 : ByteArray} {r : Bool} (h : strings_HasPrefix x0 x1 = some r) : callD (callW Tryd.prog A0) A0 H 74 [.p (.v (.string x0)), .p (.v (.string x1))] = some (.p (.v (.bool r)), none) :=
  callD_fun (args := [.v (.string x0), .v (.string x1)]) rfl rfl rfl (by simp only [List.map_cons, List.map_nil, wk, wks, wkL]; exact f74_ok x0 x1 _ h)
theorem f90_ok  (x0 : ByteArray) (x1 : Int) (r : Int) (h : internal_stringslite_IndexByte x0 x1 = some r) : callW Tryd.prog A0 90 [.p (.v (.string x0)), .p (.v (.int .u8 x1))] [] = some (.p (.v (.int .i64 r)), []) := by
 refine call_ofH (fn := Tryd.f90) (c := bodyOf Tryd.f90) rfl rfl (by kernel_rfl) (by kernel_rfl) ?_
 rw [show initS Tryd.f90 [.p (.v (.string x0)), .p (.v (.int .u8 x1))] [] = ⟨.p (.v (.string x0)) :: .p (.v (.int .u8 x1)) :: List.replicate 6 undefD, [], 0⟩ from by kernel_rfl]
 unfold internal_stringslite_IndexByte at h
 unfold bodyOf Tryd.f90; simp only [Option.getD_some, loopsOf, List.append_nil, List.nil_append, List.cons_append, List.getD_cons_zero, List.getD_cons_succ]
 simp only [List.replicate]
 obtain ⟨r1, h2, h⟩ := bsm h
 have h3 : ∀ H, callD (callW Tryd.prog A0) A0 H 112 [.p (.v (.string x0)), .p (.v (.int .u8 x1))] = some (.p (.v (.int .i64 r1)), none) := fun H => internal_bytealg_IndexByteString_call h2
 obtain rfl := Option.some.inj h
 simp (maxSteps := 10000000) (implicitDefEqProofs := false) (disch := first | assumption | omega | exact rfl | exact im_ _) only [bs, rs90, Nat.reduceAdd, ↓reduceIte, h3]
 refine ⟨by first | exact .inl trivial | exact .inr trivial | simp, ?_⟩
 exact finish_is (ds := [iv r1]) (x := .v (.int .i64 r1)) (y := .v (.int .i64 r1)) (l := []) rfl rfl rfl rfl (by first | rfl | (simp only [wk, wks, wkL]; first | done | rfl))
theorem internal_stringslite_IndexByte_call {H : List Ob} {x0 : ByteArray} {x1 : Int} {r : Int} (h : internal_stringslite_IndexByte x0 x1 = some r) : callD (callW Tryd.prog A0) A0 H 90 [.p (.v (.string x0)), .p (.v (.int .u8 x1))] = some (.p (.v (.int .i64 r)), none) :=
  callD_fun (args := [.v (.string x0), .v (.int .u8 x1)]) rfl rfl rfl (by simp only [List.map_cons, List.map_nil, wk, wks, wkL]; exact f90_ok x0 x1 _ h)
theorem f75_ok  (x0 : ByteArray) (x1 : Int) (r : Int) (h : strings_IndexByte x0 x1 = some r) : callW Tryd.prog A0 75 [.p (.v (.string x0)), .p (.v (.int .u8 x1))] [] = some (.p (.v (.int .i64 r)), []) := by
 refine call_ofH (fn := Tryd.f75) (c := bodyOf Tryd.f75) rfl rfl (by kernel_rfl) (by kernel_rfl) ?_
 rw [show initS Tryd.f75 [.p (.v (.string x0)), .p (.v (.int .u8 x1))] [] = ⟨.p (.v (.string x0)) :: .p (.v (.int .u8 x1)) :: List.replicate 6 undefD, [], 0⟩ from by kernel_rfl]
 unfold strings_IndexByte at h
 unfold bodyOf Tryd.f75; simp only [Option.getD_some, loopsOf, List.append_nil, List.nil_append, List.cons_append, List.getD_cons_zero, List.getD_cons_succ]
 simp only [List.replicate]
 obtain ⟨r1, h2, h⟩ := bsm h
 have h3 : ∀ H, callD (callW Tryd.prog A0) A0 H 90 [.p (.v (.string x0)), .p (.v (.int .u8 x1))] = some (.p (.v (.int .i64 r1)), none) := fun H => internal_stringslite_IndexByte_call h2
 obtain rfl := Option.some.inj h
 simp (maxSteps := 10000000) (implicitDefEqProofs := false) (disch := first | assumption | omega | exact rfl | exact im_ _) only [bs, rs75, Nat.reduceAdd, ↓reduceIte, h3]
 refine ⟨by first | exact .inl trivial | exact .inr trivial | simp, ?_⟩
 exact finish_is (ds := [iv r1]) (x := .v (.int .i64 r1)) (y := .v (.int .i64 r1)) (l := []) rfl rfl rfl rfl (by first | rfl | (simp only [wk, wks, wkL]; first | done | rfl))
theorem strings_IndexByte_call {H : List Ob} {x0 : ByteArray} {x1 : Int} {r : Int} (h : strings_IndexByte x0 x1 = some r) : callD (callW Tryd.prog A0) A0 H 75 [.p (.v (.string x0)), .p (.v (.int .u8 x1))] = some (.p (.v (.int .i64 r)), none) :=
  callD_fun (args := [.v (.string x0), .v (.int .u8 x1)]) rfl rfl rfl (by simp only [List.map_cons, List.map_nil, wk, wks, wkL]; exact f75_ok x0 x1 _ h)
noncomputable def L62_0 : Code := (loopsOf (bodyOf Tryd.f62)).getD 0 .skip
def g62_0 : List Ghost := [.keep [0, 1, 2]]
def F62_63_0 (s0 : ByteArray) : Int → St := fun s1 => ⟨[.p (.v (.string s0)), iv s1, .p (.fn (.func 63) []), .junk, .junk, .junk, .junk, .junk, .junk, .junk, .junk, .junk, .junk, .junk, .junk, .junk, .junk, .junk, .junk, .junk, .junk, .junk, .junk, .junk, .junk, .junk, .junk, .junk, .junk, .junk, .junk, .junk, .junk, .junk, .junk, .junk, .junk, .junk, .junk, .junk, .junk, .junk, .junk, .junk, .junk, .junk, .junk], [], 0⟩
theorem L62_63_0_ok (s0 : ByteArray) : ∀ s st o, ghostsD g62_0 st = some (F62_63_0 s0 s) → iter (trivia_walk_L0 trivia_End_c1 s0) s = some o →
    Wp (evW Tryd.prog A0 62 (.loop L62_0) st) (OutQ (F62_63_0 s0) g62_0 (fun n s st => n = 0 ∧ ghostsD [.keep [0, 1, 2]] st = some (F62_63_0 s0 s)) (fun r st => finishD Tryd.prog A0 62 Tryd.f62 st = some (.p (.v (.int .i64 r)), [])) o) := by
 refine Wp.iter ?_
 intro s st o hg h
 generalize s = s1 at hg h
 unfold trivia_walk_L0 at h
 unfold g62_0 F62_63_0 at hg ⊢
 (try simp only [] at h hg)
 unfold L62_0 bodyOf Tryd.f62; simp only [Option.getD_some, loopsOf, List.append_nil, List.nil_append, List.cons_append, List.getD_cons_zero, List.getD_cons_succ]
 by_cases h1 : s1 < (s0.size : Int)
 ·rw [if_pos h1] at h
  have h1' : decide (s1 < (s0.size : Int)) = true := decide_eq_true h1
  obtain ⟨q2, h3, h⟩ := bsm h
  have h4 : indexD Tryd.prog 9 (.p (.v (.string s0))) (.p (.v (.int .i64 s1))) = some (.p (.v (.int .u8 q2))) := indexD_str Tryd.underlying9 h3
  by_cases h5 : q2 = (32 : Int)
  ·rw [if_pos h5] at h
   have h5' : decide (q2 = (32 : Int)) = true := decide_eq_true h5
   obtain rfl := Option.some.inj h
   simp (maxSteps := 10000000) (implicitDefEqProofs := false) (disch := first | assumption | omega | exact rfl | exact im_ _) only [bs, rs62, Nat.reduceAdd, ↓reduceIte, binD_eql_k, lenD_str u9, sliceD_slh us9, sliceD_slo us9, hg, ↓h1', h4, ↓h5']
   exact ⟨rfl, by kernel_rfl⟩
  ·rw [if_neg h5] at h
   have h5' : decide (q2 = (32 : Int)) = false := decide_eq_false h5
   by_cases h6 : q2 = (9 : Int)
   ·rw [if_pos h6] at h
    have h6' : decide (q2 = (9 : Int)) = true := decide_eq_true h6
    obtain rfl := Option.some.inj h
    simp (maxSteps := 10000000) (implicitDefEqProofs := false) (disch := first | assumption | omega | exact rfl | exact im_ _) only [bs, rs62, Nat.reduceAdd, ↓reduceIte, binD_eql_k, lenD_str u9, sliceD_slh us9, sliceD_slo us9, hg, ↓h1', h4, ↓h5', ↓h6']
    exact ⟨rfl, by kernel_rfl⟩
   ·rw [if_neg h6] at h
    have h6' : decide (q2 = (9 : Int)) = false := decide_eq_false h6
    by_cases h7 : q2 = (10 : Int)
    ·rw [if_pos h7] at h
     have h7' : decide (q2 = (10 : Int)) = true := decide_eq_true h7
     obtain rfl := Option.some.inj h
     simp (maxSteps := 10000000) (implicitDefEqProofs := false) (disch := first | assumption | omega | exact rfl | exact im_ _) only [bs, rs62, Nat.reduceAdd, ↓reduceIte, binD_eql_k, lenD_str u9, sliceD_slh us9, sliceD_slo us9, hg, ↓h1', h4, ↓h5', ↓h6', ↓h7']
     exact ⟨rfl, by kernel_rfl⟩
    ·rw [if_neg h7] at h
     have h7' : decide (q2 = (10 : Int)) = false := decide_eq_false h7
     by_cases hw_ : 0 ≤ s1 ∧ s1 ≤ (s0.size : Int)
     case neg => rw [if_neg hw_] at h; cases h
     rw [if_pos hw_] at h
     obtain ⟨h8, h9⟩ := hw_
     obtain ⟨r10, h11, h⟩ := bsm h
     have h12 : ∀ H, callD (callW Tryd.prog A0) A0 H 74 [.p (.v (.string (s0.extract s1.toNat s0.size))), .p (.v (.string (ByteArray.mk #[47, 47])))] = some (.p (.v (.bool r10)), none) := fun H => strings_HasPrefix_call h11
     by_cases h13 : r10 = true
     ·rw [if_pos h13] at h
      obtain ⟨r14, h15, h⟩ := bsm h
      have h16 : ∀ H, callD (callW Tryd.prog A0) A0 H 75 [.p (.v (.string (s0.extract s1.toNat s0.size))), .p (.v (.int .u8 (10 : Int)))] = some (.p (.v (.int .i64 r14)), none) := fun H => strings_IndexByte_call h15
      by_cases h17 : r14 < (0 : Int)
      ·rw [if_pos h17] at h
       have h17' : decide (r14 < (0 : Int)) = true := decide_eq_true h17
       obtain rfl := Option.some.inj h
       simp (maxSteps := 10000000) (implicitDefEqProofs := false) (disch := first | assumption | omega | exact rfl | exact im_ _) only [bs, rs62, Nat.reduceAdd, ↓reduceIte, binD_eql_k, lenD_str u9, sliceD_slh us9, sliceD_slo us9, hg, ↓h1', h4, ↓h5', ↓h6', ↓h7', h12, h13, h16, ↓h17']
       refine ⟨rfl, ?_⟩
       exact finish_is (ds := [iv s1]) (x := .v (.int .i64 s1)) (y := .v (.int .i64 s1)) (l := []) rfl rfl rfl rfl (by first | rfl | (simp only [wk, wks, wkL]; first | done | rfl))
      ·rw [if_neg h17] at h
       have h17' : decide (r14 < (0 : Int)) = false := decide_eq_false h17
       by_cases hw_ : s1 ≤ (w64 (s1 + r14)) ∧ (w64 (s1 + r14)) ≤ (s0.size : Int)
       case neg => rw [if_neg hw_] at h; cases h
       rw [if_pos hw_] at h
       obtain ⟨h18, h19⟩ := hw_
       obtain ⟨r20, h21, h⟩ := bsm h
       have h22 : ∀ H, callD (callW Tryd.prog A0) A0 H 63 [.p (.v (.string (s0.extract s1.toNat (w64 (s1 + r14)).toNat)))] = some (.p (.tup []), none) := fun H => trivia_End_c1_call h21
       obtain rfl := Option.some.inj h
       simp (maxSteps := 10000000) (implicitDefEqProofs := false) (disch := first | assumption | omega | exact rfl | exact im_ _) only [bs, rs62, Nat.reduceAdd, ↓reduceIte, binD_eql_k, lenD_str u9, sliceD_slh us9, sliceD_slo us9, hg, ↓h1', h4, ↓h5', ↓h6', ↓h7', h12, h13, h16, ↓h17', h22]
       exact ⟨rfl, by kernel_rfl⟩
     ·rw [if_neg h13] at h
      replace h13 := Bool.eq_false_iff.2 h13
      obtain rfl := Option.some.inj h
      simp (maxSteps := 10000000) (implicitDefEqProofs := false) (disch := first | assumption | omega | exact rfl | exact im_ _) only [bs, rs62, Nat.reduceAdd, ↓reduceIte, binD_eql_k, lenD_str u9, sliceD_slh us9, sliceD_slo us9, hg, ↓h1', h4, ↓h5', ↓h6', ↓h7', h12, h13]
      refine ⟨rfl, ?_⟩
      exact finish_is (ds := [iv s1]) (x := .v (.int .i64 s1)) (y := .v (.int .i64 s1)) (l := []) rfl rfl rfl rfl (by first | rfl | (simp only [wk, wks, wkL]; first | done | rfl))
 ·rw [if_neg h1] at h
  have h1' : decide (s1 < (s0.size : Int)) = false := decide_eq_false h1
  obtain rfl := Option.some.inj h
  simp (maxSteps := 10000000) (implicitDefEqProofs := false) (disch := first | assumption | omega | exact rfl | exact im_ _) only [bs, rs62, Nat.reduceAdd, ↓reduceIte, binD_eql_k, lenD_str u9, sliceD_slh us9, sliceD_slo us9, hg, ↓h1']
  exact ⟨rfl, rfl, by kernel_rfl⟩
theorem f62_63_ok  (x0 : ByteArray) (x1 : Int) (r : Int) (h : trivia_walk trivia_End_c1 x0 x1 = some r) : callW Tryd.prog A0 62 [.p (.v (.string x0)), iv x1, .p (.fn (.func 63) [])] [] = some (.p (.v (.int .i64 r)), []) := by
 refine call_ofH (fn := Tryd.f62) (c := bodyOf Tryd.f62) rfl rfl (by kernel_rfl) (by kernel_rfl) ?_
 rw [show initS Tryd.f62 [.p (.v (.string x0)), iv x1, .p (.fn (.func 63) [])] [] = ⟨.p (.v (.string x0)) :: iv x1 :: .p (.fn (.func 63) []) :: List.replicate 44 undefD, [], 0⟩ from by kernel_rfl]
 unfold trivia_walk at h
 unfold bodyOf Tryd.f62; simp only [Option.getD_some, loopsOf, List.append_nil, List.nil_append, List.cons_append, List.getD_cons_zero, List.getD_cons_succ]
 simp only [List.replicate]
 obtain ⟨o, h23, h⟩ := bsm h
 simp (maxSteps := 10000000) (implicitDefEqProofs := false) (disch := first | assumption | omega | exact rfl | exact im_ _) only [bs, rs62, Nat.reduceAdd, ↓reduceIte, binD_eql_k, lenD_str u9, sliceD_slh us9, sliceD_slo us9]
 refine Wp.ctx (fun x => seqW _ _ _ _ (blockW _ (x))) (L62_63_0_ok x0 x1 _ o (by kernel_rfl) h23) ?_
 intro e st hq
 cases o with
 | next _ => (first | cases h | (simp at h))
 | jmp n_ s_ =>
  obtain ⟨rfl, rfl, hq⟩ := hq
  generalize s_ = s1_24 at h hq
  unfold F62_63_0 at hq
  (try simp only [] at h hq)
  obtain rfl := Option.some.inj h
  simp (maxSteps := 10000000) (implicitDefEqProofs := false) (disch := first | assumption | omega | exact rfl | exact im_ _) only [bs, rs62, Nat.reduceAdd, ↓reduceIte, binD_eql_k, lenD_str u9, sliceD_slh us9, sliceD_slo us9, hq]
  refine ⟨by first | exact .inl trivial | exact .inr trivial | simp, ?_⟩
  exact finish_is (ds := [iv s1_24]) (x := .v (.int .i64 s1_24)) (y := .v (.int .i64 s1_24)) (l := []) rfl rfl rfl rfl (by first | rfl | (simp only [wk, wks, wkL]; first | done | rfl))
 | ret r25 =>
  obtain ⟨rfl, hq⟩ := hq
  obtain rfl := Option.some.inj h
  simp (maxSteps := 10000000) (implicitDefEqProofs := false) (disch := first | assumption | omega | exact rfl | exact im_ _) only [bs, rs62, Nat.reduceAdd, ↓reduceIte, binD_eql_k, lenD_str u9, sliceD_slh us9, sliceD_slo us9]
  exact ⟨by first | exact .inl trivial | exact .inr trivial | simp, hq⟩
theorem trivia_walk_63_call {H : List Ob} {x0 : ByteArray} {x1 : Int} {r : Int} (h : trivia_walk trivia_End_c1 x0 x1 = some r) : callD (callW Tryd.prog A0) A0 H 62 [.p (.v (.string x0)), iv x1, .p (.fn (.func 63) [])] = some (.p (.v (.int .i64 r)), none) :=
  callD_fun (args := [.v (.string x0), .v (.int .i64 x1), .fn (.func 63) []]) rfl rfl rfl (by simp only [List.map_cons, List.map_nil, wk, wks, wkL]; exact f62_63_ok x0 x1 _ h)
theorem f51_ok  (x0 : ByteArray) (x1 : Int) (r : Int) (h : trivia_End x0 x1 = some r) : callW Tryd.prog A0 51 [.p (.v (.string x0)), iv x1] [] = some (.p (.v (.int .i64 r)), []) := by
 refine call_ofH (fn := Tryd.f51) (c := bodyOf Tryd.f51) rfl rfl (by kernel_rfl) (by kernel_rfl) ?_
 rw [show initS Tryd.f51 [.p (.v (.string x0)), iv x1] [] = ⟨.p (.v (.string x0)) :: iv x1 :: List.replicate 15 undefD, [], 0⟩ from by kernel_rfl]
 unfold trivia_End at h
 unfold bodyOf Tryd.f51; simp only [Option.getD_some, loopsOf, List.append_nil, List.nil_append, List.cons_append, List.getD_cons_zero, List.getD_cons_succ]
 simp only [List.replicate]
 by_cases h1 : x1 < (0 : Int)
 ·rw [if_pos h1] at h
  have h1' : decide (x1 < (0 : Int)) = true := decide_eq_true h1
  obtain rfl := Option.some.inj h
  simp (maxSteps := 10000000) (implicitDefEqProofs := false) (disch := first | assumption | omega | exact rfl | exact im_ _) only [bs, rs51, Nat.reduceAdd, ↓reduceIte, lenD_str u9, ↓h1']
  refine ⟨by first | exact .inl trivial | exact .inr trivial | simp, ?_⟩
  exact finish_is (ds := [iv x1]) (x := .v (.int .i64 x1)) (y := .v (.int .i64 x1)) (l := []) rfl rfl rfl rfl (by first | rfl | (simp only [wk, wks, wkL]; first | done | rfl))
 ·rw [if_neg h1] at h
  have h1' : decide (x1 < (0 : Int)) = false := decide_eq_false h1
  by_cases h2 : (x0.size : Int) < x1
  ·rw [if_pos h2] at h
   have h2' : decide ((x0.size : Int) < x1) = true := decide_eq_true h2
   obtain rfl := Option.some.inj h
   simp (maxSteps := 10000000) (implicitDefEqProofs := false) (disch := first | assumption | omega | exact rfl | exact im_ _) only [bs, rs51, Nat.reduceAdd, ↓reduceIte, lenD_str u9, ↓h1', ↓h2']
   refine ⟨by first | exact .inl trivial | exact .inr trivial | simp, ?_⟩
   exact finish_is (ds := [iv x1]) (x := .v (.int .i64 x1)) (y := .v (.int .i64 x1)) (l := []) rfl rfl rfl rfl (by first | rfl | (simp only [wk, wks, wkL]; first | done | rfl))
  ·rw [if_neg h2] at h
   have h2' : decide ((x0.size : Int) < x1) = false := decide_eq_false h2
   obtain ⟨r3, h4, h⟩ := bsm h
   have h5 : ∀ H, callD (callW Tryd.prog A0) A0 H 62 [.p (.v (.string x0)), iv x1, .p (.fn (.func 63) [])] = some (.p (.v (.int .i64 r3)), none) := fun H => trivia_walk_63_call h4
   obtain rfl := Option.some.inj h
   simp (maxSteps := 10000000) (implicitDefEqProofs := false) (disch := first | assumption | omega | exact rfl | exact im_ _) only [bs, rs51, Nat.reduceAdd, ↓reduceIte, lenD_str u9, ↓h1', ↓h2', h5]
   refine ⟨by first | exact .inl trivial | exact .inr trivial | simp, ?_⟩
   exact finish_is (ds := [iv r3]) (x := .v (.int .i64 r3)) (y := .v (.int .i64 r3)) (l := []) rfl rfl rfl rfl (by first | rfl | (simp only [wk, wks, wkL]; first | done | rfl))
theorem trivia_End_call {H : List Ob} {x0 : ByteArray} {x1 : Int} {r : Int} (h : trivia_End x0 x1 = some r) : callD (callW Tryd.prog A0) A0 H 51 [.p (.v (.string x0)), iv x1] = some (.p (.v (.int .i64 r)), none) :=
  callD_fun (args := [.v (.string x0), .v (.int .i64 x1)]) rfl rfl rfl (by simp only [List.map_cons, List.map_nil, wk, wks, wkL]; exact f51_ok x0 x1 _ h)
theorem f32_ok  (x0 : ByteArray) (r : Bool) (h : trivia_Valid x0 = some r) : callW Tryd.prog A0 32 [.p (.v (.string x0))] [] = some (.p (.v (.bool r)), []) := by
 refine call_ofH (fn := Tryd.f32) (c := bodyOf Tryd.f32) rfl rfl (by kernel_rfl) (by kernel_rfl) ?_
 rw [show initS Tryd.f32 [.p (.v (.string x0))] [] = ⟨.p (.v (.string x0)) :: List.replicate 7 undefD, [], 0⟩ from by kernel_rfl]
 unfold trivia_Valid at h
 unfold bodyOf Tryd.f32; simp only [Option.getD_some, loopsOf, List.append_nil, List.nil_append, List.cons_append, List.getD_cons_zero, List.getD_cons_succ]
 simp only [List.replicate]
 obtain ⟨r1, h2, h⟩ := bsm h
 have h3 : ∀ H, callD (callW Tryd.prog A0) A0 H 51 [.p (.v (.string x0)), iv (0 : Int)] = some (.p (.v (.int .i64 r1)), none) := fun H => trivia_End_call h2
 obtain rfl := Option.some.inj h
 simp (maxSteps := 10000000) (implicitDefEqProofs := false) (disch := first | assumption | omega | exact rfl | exact im_ _) only [bs, rs32, Nat.reduceAdd, ↓reduceIte, lenD_str u9, h3]
 refine ⟨by first | exact .inl trivial | exact .inr trivial | simp, ?_⟩
 exact finish_is (ds := [bv (decide (r1 = (x0.size : Int)))]) (x := .v (.bool (decide (r1 = (x0.size : Int))))) (y := .v (.bool (decide (r1 = (x0.size : Int))))) (l := []) rfl rfl rfl rfl (by first | rfl | (simp only [wk, wks, wkL]; first | done | rfl))
theorem trivia_Valid_call {H : List Ob} {x0 : ByteArray} {r : Bool} (h : trivia_Valid x0 = some r) : callD (callW Tryd.prog A0) A0 H 32 [.p (.v (.string x0))] = some (.p (.v (.bool r)), none) :=
  callD_fun (args := [.v (.string x0)]) rfl rfl rfl (by simp only [List.map_cons, List.map_nil, wk, wks, wkL]; exact f32_ok x0 _ h)
def ls30 := And.intro @faP_29_2 (And.intro @idxL_22 (And.intro @varld_4_0_2 (@varlv_4_0_4)))
noncomputable def L30_0 : Code := (loopsOf (bodyOf Tryd.f30)).getD 0 .skip
def g30_0 : List Ghost := [.weak [14], .keep [2, 14, 15, 16]]
def F30_0 (s14 : (List ByteArray)) (s15 : Int) (w0_0 : Int) (w0_1 : ByteArray) (w0_2 : (List ByteArray)) (w0_3 : (List Node)) : Int → St := fun s16 => ⟨[.junk, .junk, .ptr 0 0, .junk, .junk, .junk, .junk, .junk, .junk, .junk, .junk, .junk, .junk, .junk, .p (.lst false s14.length (encL en_str s14)), iv s15, iv s16, .junk, .junk, .junk, .junk, .junk, .junk, .junk, .junk, .junk], [.var [iv w0_0, .p (.v (.string w0_1)), .p (.lst false w0_2.length (encL en_str w0_2)), .p (.lst false w0_3.length (encL en_Node w0_3))]], 0⟩
theorem L30_0_ok (s14 : (List ByteArray)) (s15 : Int) (w0_0 : Int) (w0_1 : ByteArray) (w0_2 : (List ByteArray)) (w0_3 : (List Node)) : ∀ s st o, ghostsD g30_0 st = some (F30_0 s14 s15 w0_0 w0_1 w0_2 w0_3 s) → iter (layout_Repair_c1_L0 s14 s15 w0_0 w0_1 w0_2 w0_3) s = some o →
    Wp (evW Tryd.prog A0 30 (.loop L30_0) st) (OutQ (F30_0 s14 s15 w0_0 w0_1 w0_2 w0_3) g30_0 (fun n s st => n = 0 ∧ ghostsD [.keep [2, 14, 15, 16]] st = some (F30_0 s14 s15 w0_0 w0_1 w0_2 w0_3 s)) (fun r st => finishD Tryd.prog A0 30 Tryd.f30 st = some (.p (.lst false r.length (encL en_str r)), [])) o) := by
 refine Wp.iter ?_
 intro s st o hg h
 generalize s = s16 at hg h
 unfold layout_Repair_c1_L0 at h
 unfold g30_0 F30_0 at hg ⊢
 (try simp only [] at h hg)
 unfold L30_0 bodyOf Tryd.f30; simp only [Option.getD_some, loopsOf, List.append_nil, List.nil_append, List.cons_append, List.getD_cons_zero, List.getD_cons_succ]
 by_cases h5 : s16 < s15
 ·rw [if_pos h5] at h
  have h5' : decide (s16 < s15) = true := decide_eq_true h5
  obtain ⟨v6, h7, h⟩ := bsm h
  obtain ⟨h7a, h7b, _⟩ := rd_some h7
  have h8 := ce_9_x h7
  obtain ⟨r9, h10, h⟩ := bsm h
  have h11 : ∀ H, callD (callW Tryd.prog A0) A0 H 32 [.p (.v (.string v6))] = some (.p (.v (.bool r9)), none) := fun H => trivia_Valid_call h10
  by_cases h12 : r9 = true
  ·rw [if_pos h12] at h
   obtain rfl := Option.some.inj h
   simp (maxSteps := 10000000) (implicitDefEqProofs := false) (disch := first | assumption | omega | exact rfl | exact im_ _) only [bs, rs30, ls30, Nat.reduceAdd, ↓reduceIte, lenD_lst u22, loadD_iptr a9, loadD_pagg a29 z29, loadD_ptr a22, hg, ↓h5', h8, h11, h12]
   exact ⟨rfl, by kernel_rfl⟩
  ·rw [if_neg h12] at h
   replace h12 := Bool.eq_false_iff.2 h12
   obtain rfl := Option.some.inj h
   simp (maxSteps := 10000000) (implicitDefEqProofs := false) (disch := first | assumption | omega | exact rfl | exact im_ _) only [bs, rs30, ls30, Nat.reduceAdd, ↓reduceIte, lenD_lst u22, loadD_iptr a9, loadD_pagg a29 z29, loadD_ptr a22, hg, ↓h5', h8, h11, h12]
   refine ⟨rfl, ?_⟩
   exact finish_is (ds := [.p (.lst true 0 [])]) (x := .lst true 0 []) (y := .lst false ([] : List ByteArray).length (encL en_str ([] : List ByteArray))) (l := []) rfl rfl rfl rfl (by first | rfl | (simp only [wk, wks, wkL]; first | done | rfl))
 ·rw [if_neg h5] at h
  have h5' : decide (s16 < s15) = false := decide_eq_false h5
  obtain rfl := Option.some.inj h
  simp (maxSteps := 10000000) (implicitDefEqProofs := false) (disch := first | assumption | omega | exact rfl | exact im_ _) only [bs, rs30, ls30, Nat.reduceAdd, ↓reduceIte, lenD_lst u22, loadD_iptr a9, loadD_pagg a29 z29, loadD_ptr a22, hg, ↓h5']
  exact ⟨rfl, rfl, by kernel_rfl⟩
theorem f30_ok  (x0 : Node) (x1 : Int) (r : (List ByteArray)) (h : layout_Repair_c1 x0 x1 = some r) : callW Tryd.prog A0 30 [.p (.agg [.v (.int .i64 x0.Kind), .v (.string x0.Text), .lst false x0.Gaps.length (encL en_str x0.Gaps), .lst false x0.Kids.length (encL en_Node x0.Kids)]), iv x1] [] = some (.p (.lst false r.length (encL en_str r)), []) := by
 refine call_ofH (fn := Tryd.f30) (c := bodyOf Tryd.f30) rfl rfl (by kernel_rfl) (by kernel_rfl) ?_
 rw [show initS Tryd.f30 [.p (.agg [.v (.int .i64 x0.Kind), .v (.string x0.Text), .lst false x0.Gaps.length (encL en_str x0.Gaps), .lst false x0.Kids.length (encL en_Node x0.Kids)]), iv x1] [] = ⟨.p (.agg [.v (.int .i64 x0.Kind), .v (.string x0.Text), .lst false x0.Gaps.length (encL en_str x0.Gaps), .lst false x0.Kids.length (encL en_Node x0.Kids)]) :: iv x1 :: List.replicate 24 undefD, [], 0⟩ from by kernel_rfl]
 unfold layout_Repair_c1 at h
 unfold bodyOf Tryd.f30; simp only [Option.getD_some, loopsOf, List.append_nil, List.nil_append, List.cons_append, List.getD_cons_zero, List.getD_cons_succ]
 simp only [List.replicate]
 obtain ⟨r1, h2, h⟩ := bsm h
 have h3 : ∀ H, callD (callW Tryd.prog A0) A0 H 31 [.p (.agg [.v (.int .i64 x0.Kind), .v (.string x0.Text), .lst false x0.Gaps.length (encL en_str x0.Gaps), .lst false x0.Kids.length (encL en_Node x0.Kids)])] = some (.p (.v (.int .i64 r1)), none) := fun H => grammar_Own_call h2
 by_cases h4 : (x0.Gaps.length : Int) = r1
 ·rw [if_pos h4] at h
  have h4' : decide ((x0.Gaps.length : Int) = r1) = true := decide_eq_true h4
  obtain ⟨o, h13, h⟩ := bsm h
  simp (maxSteps := 10000000) (implicitDefEqProofs := false) (disch := first | assumption | omega | exact rfl | exact im_ _) only [bs, rs30, ls30, Nat.reduceAdd, ↓reduceIte, lenD_lst u22, loadD_iptr a9, loadD_pagg a29 z29, loadD_ptr a22, h3, ↓h4']
  refine Wp.ctx (fun x => seqW _ _ _ _ (blockW _ (x))) (L30_0_ok x0.Gaps (x0.Gaps.length : Int) x0.Kind x0.Text x0.Gaps x0.Kids (0 : Int) _ o (by kernel_rfl) h13) ?_
  intro e st hq
  cases o with
  | next _ => (first | cases h | (simp at h))
  | jmp n_ s_ =>
   obtain ⟨rfl, rfl, hq⟩ := hq
   generalize s_ = s16_14 at h hq
   unfold F30_0 at hq
   (try simp only [] at h hq)
   obtain rfl := Option.some.inj h
   simp (maxSteps := 10000000) (implicitDefEqProofs := false) (disch := first | assumption | omega | exact rfl | exact im_ _) only [bs, rs30, ls30, Nat.reduceAdd, ↓reduceIte, lenD_lst u22, loadD_iptr a9, loadD_pagg a29 z29, loadD_ptr a22, h3, ↓h4', hq]
   refine ⟨by first | exact .inl trivial | exact .inr trivial | simp, ?_⟩
   exact finish_is (ds := [.p (.lst false x0.Gaps.length (encL en_str x0.Gaps))]) (x := .lst false x0.Gaps.length (encL en_str x0.Gaps)) (y := .lst false x0.Gaps.length (encL en_str x0.Gaps)) (l := []) rfl rfl rfl rfl (by first | rfl | (simp only [wk, wks, wkL]; first | done | rfl))
  | ret r15 =>
   obtain ⟨rfl, hq⟩ := hq
   obtain rfl := Option.some.inj h
   simp (maxSteps := 10000000) (implicitDefEqProofs := false) (disch := first | assumption | omega | exact rfl | exact im_ _) only [bs, rs30, ls30, Nat.reduceAdd, ↓reduceIte, lenD_lst u22, loadD_iptr a9, loadD_pagg a29 z29, loadD_ptr a22]
   exact ⟨by first | exact .inl trivial | exact .inr trivial | simp, hq⟩
 ·rw [if_neg h4] at h
  have h4' : decide ((x0.Gaps.length : Int) = r1) = false := decide_eq_false h4
  obtain rfl := Option.some.inj h
  simp (maxSteps := 10000000) (implicitDefEqProofs := false) (disch := first | assumption | omega | exact rfl | exact im_ _) only [bs, rs30, ls30, Nat.reduceAdd, ↓reduceIte, lenD_lst u22, loadD_iptr a9, loadD_pagg a29 z29, loadD_ptr a22, h3, ↓h4']
  refine ⟨by first | exact .inl trivial | exact .inr trivial | simp, ?_⟩
  exact finish_is (ds := [.p (.lst true 0 [])]) (x := .lst true 0 []) (y := .lst false ([] : List ByteArray).length (encL en_str ([] : List ByteArray))) (l := []) rfl rfl rfl rfl (by first | rfl | (simp only [wk, wks, wkL]; first | done | rfl))
theorem layout_Repair_c1_call {b1 b2 : Bool} {H : List Ob} {x0 : Node} {x1 : Int} {r : (List ByteArray)} (h : layout_Repair_c1 x0 x1 = some r) : callD (callW Tryd.prog A0) A0 H 30 [.p (.agg [.v (.int .i64 x0.Kind), .v (.string x0.Text), .lst b1 x0.Gaps.length (encL en_str x0.Gaps), .lst b2 x0.Kids.length (encL en_Node x0.Kids)]), iv x1] = some (.p (.lst false r.length (encL en_str r)), none) :=
  callD_fun (args := [.agg [.v (.int .i64 x0.Kind), .v (.string x0.Text), .lst b1 x0.Gaps.length (encL en_str x0.Gaps), .lst b2 x0.Kids.length (encL en_Node x0.Kids)], .v (.int .i64 x1)]) rfl rfl rfl (by simp only [List.map_cons, List.map_nil, wk, wks, wkL]; exact f30_ok x0 x1 _ h)
def ls23 := And.intro @apn_22_22 (@bs_22_0)
theorem f23_ok  (x0 : (List ByteArray)) (r : (List ByteArray)) (h : slices_Clone_string_string x0 = some r) : callW Tryd.prog A0 23 [.p (.lst false x0.length (encL en_str x0))] [] = some (.p (.lst false r.length (encL en_str r)), []) := by
 by_cases hx0 : x0 = []
 case pos => subst hx0; simp [slices_Clone_string_string] at h; subst h; exact clone_nil0 rfl rfl rfl
 refine call_ofH (fn := Tryd.f23) (c := bodyOf Tryd.f23) (by cases x0 with | nil => exact absurd rfl hx0 | cons _ _ => rfl) rfl (by kernel_rfl) (by kernel_rfl) ?_
 rw [show initS Tryd.f23 [.p (.lst false x0.length (encL en_str x0))] [] = ⟨.p (.lst false x0.length (encL en_str x0)) :: List.replicate 7 undefD, [], 0⟩ from by kernel_rfl]
 unfold slices_Clone_string_string at h
 unfold bodyOf Tryd.f23; simp only [Option.getD_some, loopsOf, List.append_nil, List.nil_append, List.cons_append, List.getD_cons_zero, List.getD_cons_succ]
 simp only [List.replicate]
 have h1 : ∀ b n, nilD Tryd.prog .eql 22 (.p (.lst b n (encL en_str x0))) = some (bv false) := fun b n => nilD_ne u22 (encL_ne en_str_len (by decide) hx0)
 by_cases hw_ : x0.length * 16 ≤ 140737488355328
 case neg => rw [if_neg hw_] at h; cases h
 rw [if_pos hw_] at h
 have h3 := hw_
 have h2 : ∀ (H : List Ob), apN H x0.length 1 16 (encL en_str x0) = some (.ref H.length 0 x0.length 1, H ++ [.arr (encL en_str x0)]) := fun H => apn_enc (y := x0) en_str_len rfl rfl (by assumption)
 obtain rfl := Option.some.inj h
 simp (maxSteps := 10000000) (implicitDefEqProofs := false) (disch := first | assumption | omega | exact rfl | exact im_ _) only [bs, rs23, ls23, Nat.reduceAdd, ↓reduceIte, binN_nil, h1, h2]
 refine ⟨by first | exact .inl trivial | exact .inr trivial | simp, ?_⟩
 exact finish_is (ds := [.ref 0 0 x0.length 1]) (x := .lst false x0.length (encL en_str x0)) (y := .lst false x0.length (encL en_str x0)) (l := [0]) rfl rfl rfl (purify1_enc en_str_len rfl (by first | rfl | omega)) (by first | rfl | (simp only [wk, wks, wkL]; first | done | rfl))
theorem slices_Clone_string_string_call {b1 : Bool} {H : List Ob} {x0 : (List ByteArray)} {r : (List ByteArray)} (h : slices_Clone_string_string x0 = some r) : callD (callW Tryd.prog A0) A0 H 23 [.p (.lst b1 x0.length (encL en_str x0))] = some (.p (.lst false r.length (encL en_str r)), none) :=
  callD_fun (args := [.lst b1 x0.length (encL en_str x0)]) rfl rfl rfl (by simp only [List.map_cons, List.map_nil, wk, wks, wkL]; exact f23_ok x0 _ h)
def ls49 := And.intro @al_29 (And.intro @ap_27_27 (And.intro @bs_27_1 (And.intro @bu_29_0_1_2 (And.intro @faP_29_0 (And.intro @faP_29_1 (And.intro @faP_29_3 (And.intro @idxL_27 (And.intro @sa_4_0_4 (And.intro @sg_4_0_3_r (And.intro @sg_4_0_pppr (And.intro @sv_1_0_1 (And.intro @varld_1_0 (And.intro @varld_4_0_0 (And.intro @varld_4_0_1 (And.intro @varld_4_0_3 (And.intro @varlg_pppr (@varlv_4_0_4)))))))))))))))))
theorem layout_mapped_c1_rcallg {rec : Node → Int → Option (Node × Int)} (hrec : ∀ x0 o0 r, rec x0 o0 = some r → callW Tryd.prog A0 49 [.p (.agg [.v (.int .i64 x0.Kind), .v (.string x0.Text), .lst false x0.Gaps.length (encL en_str x0.Gaps), .lst false x0.Kids.length (encL en_Node x0.Kids)]), .ptr 0 0, .ptr 1 0, .ptr 2 0] [.var [iv o0], .var [.p (.fn (.func 30) [])], .var [.fn (.func 49) [.ptr 0 0, .ptr 1 0, .ptr 2 0]]] = some (.p (.agg [.v (.int .i64 r.1.Kind), .v (.string r.1.Text), .lst false r.1.Gaps.length (encL en_str r.1.Gaps), .lst false r.1.Kids.length (encL en_Node r.1.Kids)]), [.var [iv r.2], .var [.p (.fn (.func 30) [])], .var [.fn (.func 49) [.ptr 0 0, .ptr 1 0, .ptr 2 0]]])) {x0 : Node} {o0 : Int} {r : (Node × Int)} (h : rec x0 o0 = some r) : callW Tryd.prog A0 49 [.p (.agg [.v (.int .i64 x0.Kind), .v (.string x0.Text), .lst false x0.Gaps.length (encL en_str x0.Gaps), .lst false x0.Kids.length (encL en_Node x0.Kids)]), .ptr 0 0, .ptr 1 0, .ptr 2 0] [.var [iv o0], .var [.p (.fn (.func 30) [])], .var [.fn (.func 49) [.ptr 0 0, .ptr 1 0, .ptr 2 0]]] = some (.p (.agg [.v (.int .i64 r.1.Kind), .v (.string r.1.Text), .lst false r.1.Gaps.length (encL en_str r.1.Gaps), .lst false r.1.Kids.length (encL en_Node r.1.Kids)]), [.var [iv r.2], .var [.p (.fn (.func 30) [])], .var [.fn (.func 49) [.ptr 0 0, .ptr 1 0, .ptr 2 0]]]) := hrec x0 o0 _ h
noncomputable def L49_0 : Code := (loopsOf (bodyOf Tryd.f49)).getD 0 .skip
def g49_0 : List Ghost := [.ownC 6 3 4, .weak [22], .keep [3, 5, 6, 22, 23, 24]]
def F49_0 (s22 : (List Node)) (s23 : Int) (w3_0 : Int) (w3_1 : ByteArray) (w4_0 : Int) (w4_1 : ByteArray) (w4_2 : (List ByteArray)) : (Int × Int × (List Node)) → St := fun (s24, w0_0, y5) => ⟨[.junk, .junk, .junk, .ptr 2 0, .junk, .ptr 3 0, .ptr 4 0, .junk, .junk, .junk, .junk, .junk, .junk, .junk, .junk, .junk, .junk, .junk, .junk, .junk, .junk, .junk, .p (.lst false s22.length (encL en_Node s22)), iv s23, iv s24, .junk, .junk, .junk, .junk, .junk, .junk, .junk, .junk, .junk, .junk, .junk, .junk, .junk], [.var [iv w0_0], .var [.p (.fn (.func 30) [])], .var [.fn (.func 49) [.ptr 0 0, .ptr 1 0, .ptr 2 0]], .var [iv w3_0, .p (.v (.string w3_1)), .p (.lst true 0 []), .p (.lst true 0 [])], .var [iv w4_0, .p (.v (.string w4_1)), .p (.lst false w4_2.length (encL en_str w4_2)), .ref 5 0 y5.length 4], .arr (encL en_Node y5)], 3⟩
theorem L49_0_ok {rec : Node → Int → Option (Node × Int)} (hrec : ∀ x0 o0 r, rec x0 o0 = some r → callW Tryd.prog A0 49 [.p (.agg [.v (.int .i64 x0.Kind), .v (.string x0.Text), .lst false x0.Gaps.length (encL en_str x0.Gaps), .lst false x0.Kids.length (encL en_Node x0.Kids)]), .ptr 0 0, .ptr 1 0, .ptr 2 0] [.var [iv o0], .var [.p (.fn (.func 30) [])], .var [.fn (.func 49) [.ptr 0 0, .ptr 1 0, .ptr 2 0]]] = some (.p (.agg [.v (.int .i64 r.1.Kind), .v (.string r.1.Text), .lst false r.1.Gaps.length (encL en_str r.1.Gaps), .lst false r.1.Kids.length (encL en_Node r.1.Kids)]), [.var [iv r.2], .var [.p (.fn (.func 30) [])], .var [.fn (.func 49) [.ptr 0 0, .ptr 1 0, .ptr 2 0]]])) (s22 : (List Node)) (s23 : Int) (w3_0 : Int) (w3_1 : ByteArray) (w4_0 : Int) (w4_1 : ByteArray) (w4_2 : (List ByteArray)) : ∀ s st o, ghostsD g49_0 st = some (F49_0 s22 s23 w3_0 w3_1 w4_0 w4_1 w4_2 s) → iter (layout_mapped_c1_L0 rec s22 s23 w3_0 w3_1 w4_0 w4_1 w4_2) s = some o →
    Wp (evW Tryd.prog A0 49 (.loop L49_0) st) (OutQ (F49_0 s22 s23 w3_0 w3_1 w4_0 w4_1 w4_2) g49_0 (fun n s st => n = 0 ∧ ghostsD [.keep [3, 5, 6, 22, 23, 24]] st = some (F49_0 s22 s23 w3_0 w3_1 w4_0 w4_1 w4_2 s)) (fun r st => finishD Tryd.prog A0 49 Tryd.f49 st = some (.p (.agg [.v (.int .i64 r.1.Kind), .v (.string r.1.Text), .lst false r.1.Gaps.length (encL en_str r.1.Gaps), .lst false r.1.Kids.length (encL en_Node r.1.Kids)]), [.var [iv r.2], .var [.p (.fn (.func 30) [])], .var [.fn (.func 49) [.ptr 0 0, .ptr 1 0, .ptr 2 0]]])) o) := by
 refine Wp.iter ?_
 intro s st o hg h
 obtain ⟨s24, w0_0, y5⟩ := s
 unfold layout_mapped_c1_L0 at h
 unfold g49_0 F49_0 at hg ⊢
 (try simp only [] at h hg)
 unfold L49_0 bodyOf Tryd.f49; simp only [Option.getD_some, loopsOf, List.append_nil, List.nil_append, List.cons_append, List.getD_cons_zero, List.getD_cons_succ]
 by_cases h7 : s24 < s23
 ·rw [if_pos h7] at h
  have h7' : decide (s24 < s23) = true := decide_eq_true h7
  obtain ⟨v8, h9, h⟩ := bsm h
  obtain ⟨h9a, h9b, _⟩ := rd_some h9
  have h10 := lk_frz_29 h9
  obtain ⟨r11, h12, h⟩ := bsm h
  have h13 : callD (callW Tryd.prog A0) A0 [.var [iv w0_0], .var [.p (.fn (.func 30) [])], .var [.fn (.func 49) [.ptr 0 0, .ptr 1 0, .ptr 2 0]], .var [iv w3_0, .p (.v (.string w3_1)), .p (.lst true 0 []), .p (.lst true 0 [])], .var [iv w4_0, .p (.v (.string w4_1)), .p (.lst false w4_2.length (encL en_str w4_2)), .ref 5 0 y5.length 4], .arr (encL en_Node y5), .var [iv v8.Kind, .p (.v (.string v8.Text)), .p (.lst false v8.Gaps.length (encL en_str v8.Gaps)), .p (.lst false v8.Kids.length (encL en_Node v8.Kids))]] 49 [.p (.agg [.v (.int .i64 v8.Kind), .v (.string v8.Text), .lst false v8.Gaps.length (encL en_str v8.Gaps), .lst false v8.Kids.length (encL en_Node v8.Kids)]), .ptr 0 0, .ptr 1 0, .ptr 2 0] = some (.p (.agg [.v (.int .i64 r11.1.Kind), .v (.string r11.1.Text), .lst false r11.1.Gaps.length (encL en_str r11.1.Gaps), .lst false r11.1.Kids.length (encL en_Node r11.1.Kids)]), some [.var [iv r11.2], .var [.p (.fn (.func 30) [])], .var [.fn (.func 49) [.ptr 0 0, .ptr 1 0, .ptr 2 0]], .var [iv w3_0, .p (.v (.string w3_1)), .p (.lst true 0 []), .p (.lst true 0 [])], .var [iv w4_0, .p (.v (.string w4_1)), .p (.lst false w4_2.length (encL en_str w4_2)), .ref 5 0 y5.length 4], .arr (encL en_Node y5), .var [iv v8.Kind, .p (.v (.string v8.Text)), .p (.lst false v8.Gaps.length (encL en_str v8.Gaps)), .p (.lst false v8.Kids.length (encL en_Node v8.Kids))]]) := (callD_put (dsw := [.p (.agg [.v (.int .i64 v8.Kind), .v (.string v8.Text), .lst false v8.Gaps.length (encL en_str v8.Gaps), .lst false v8.Kids.length (encL en_Node v8.Kids)]), .ptr 0 0, .ptr 1 0, .ptr 2 0]) (ds' := [.p (.agg [.v (.int .i64 v8.Kind), .v (.string v8.Text), .lst false v8.Gaps.length (encL en_str v8.Gaps), .lst false v8.Kids.length (encL en_Node v8.Kids)]), .ptr 0 0, .ptr 1 0, .ptr 2 0]) (i := 0) (ids := [1, 2]) (o := .var [iv w0_0]) (os := [.var [.p (.fn (.func 30) [])], .var [.fn (.func 49) [.ptr 0 0, .ptr 1 0, .ptr 2 0]]]) (o' := .var [iv r11.2]) (os' := [.var [.p (.fn (.func 30) [])], .var [.fn (.func 49) [.ptr 0 0, .ptr 1 0, .ptr 2 0]]]) rfl (by simp only [List.map_cons, List.map_nil, wkDv, wk, wks, wkL]) (by kernel_rfl) (by kernel_rfl) (by kernel_rfl) (by kernel_rfl) (layout_mapped_c1_rcallg hrec h12) rfl rfl).trans (by kernel_rfl)
  by_cases hw_ : (y5.length + 1) * 72 ≤ 140737488355328
  case neg => rw [if_neg hw_] at h; cases h
  rw [if_pos hw_] at h
  have h15 := hw_
  have h14 : ∀ (H : List Ob) (id : Nat), apOb H id 0 y5.length 1 4 4 72 [.v (.int .i64 r11.1.Kind), .v (.string r11.1.Text), .lst false r11.1.Gaps.length (encL en_str r11.1.Gaps), .lst false r11.1.Kids.length (encL en_Node r11.1.Kids)] (some (.arr (encL en_Node y5))) = some (.ref H.length 0 (y5 ++ [r11.1]).length 4, H.set id .dead ++ [.arr (encL en_Node (y5 ++ [r11.1]))]) := fun H id => ap_enc (y := [r11.1]) en_Node_len (by first | rfl | omega) rfl (by first | (simp only [encL_cons, encL_nil, en_Node_eq, List.cons_append, List.nil_append]; done) | (simp only [encL_cons, encL_nil, en_Node_eq, List.cons_append, List.nil_append]; rfl) | rfl) (by assumption)
  obtain rfl := Option.some.inj h
  simp (maxSteps := 10000000) (implicitDefEqProofs := false) (disch := first | assumption | omega | exact rfl | exact im_ _ | (refine dynT ?_; kernel_rfl) | (refine clearT ?_; kernel_rfl)) only [bs, rs49, ls49, Nat.reduceAdd, ↓reduceIte, lenD_lst u27, loadD_iagg a29 z29, loadD_pagg a29 z29, loadD_ptr a27, loadD_ptr a3, loadD_ptr a32, loadD_ptr a48, loadD_ptr a9, storeD_agg z29, storeD_gagg z29, storeD_gref z27, storeD_int z3, wksL_en_Node, wksL_en_str, wks_nil_, hg, ↓h7', h10, h13, h14]
  exact ⟨rfl, by kernel_rfl⟩
 ·rw [if_neg h7] at h
  have h7' : decide (s24 < s23) = false := decide_eq_false h7
  obtain rfl := Option.some.inj h
  simp (maxSteps := 10000000) (implicitDefEqProofs := false) (disch := first | assumption | omega | exact rfl | exact im_ _ | (refine dynT ?_; kernel_rfl) | (refine clearT ?_; kernel_rfl)) only [bs, rs49, ls49, Nat.reduceAdd, ↓reduceIte, lenD_lst u27, loadD_iagg a29 z29, loadD_pagg a29 z29, loadD_ptr a27, loadD_ptr a3, loadD_ptr a32, loadD_ptr a48, loadD_ptr a9, storeD_agg z29, storeD_gagg z29, storeD_gref z27, storeD_int z3, wksL_en_Node, wksL_en_str, wks_nil_, hg, ↓h7']
  exact ⟨rfl, rfl, by kernel_rfl⟩
theorem f49_ok {rec : Node → Int → Option (Node × Int)} (hrec : ∀ x0 o0 r, rec x0 o0 = some r → callW Tryd.prog A0 49 [.p (.agg [.v (.int .i64 x0.Kind), .v (.string x0.Text), .lst false x0.Gaps.length (encL en_str x0.Gaps), .lst false x0.Kids.length (encL en_Node x0.Kids)]), .ptr 0 0, .ptr 1 0, .ptr 2 0] [.var [iv o0], .var [.p (.fn (.func 30) [])], .var [.fn (.func 49) [.ptr 0 0, .ptr 1 0, .ptr 2 0]]] = some (.p (.agg [.v (.int .i64 r.1.Kind), .v (.string r.1.Text), .lst false r.1.Gaps.length (encL en_str r.1.Gaps), .lst false r.1.Kids.length (encL en_Node r.1.Kids)]), [.var [iv r.2], .var [.p (.fn (.func 30) [])], .var [.fn (.func 49) [.ptr 0 0, .ptr 1 0, .ptr 2 0]]]))  (x0 : Node) (o0 : Int) (r : (Node × Int)) (h : layout_mapped_c1.body rec x0 o0 = some r) : callW Tryd.prog A0 49 [.p (.agg [.v (.int .i64 x0.Kind), .v (.string x0.Text), .lst false x0.Gaps.length (encL en_str x0.Gaps), .lst false x0.Kids.length (encL en_Node x0.Kids)]), .ptr 0 0, .ptr 1 0, .ptr 2 0] [.var [iv o0], .var [.p (.fn (.func 30) [])], .var [.fn (.func 49) [.ptr 0 0, .ptr 1 0, .ptr 2 0]]] = some (.p (.agg [.v (.int .i64 r.1.Kind), .v (.string r.1.Text), .lst false r.1.Gaps.length (encL en_str r.1.Gaps), .lst false r.1.Kids.length (encL en_Node r.1.Kids)]), [.var [iv r.2], .var [.p (.fn (.func 30) [])], .var [.fn (.func 49) [.ptr 0 0, .ptr 1 0, .ptr 2 0]]]) := by
 refine call_ofH (fn := Tryd.f49) (c := bodyOf Tryd.f49) rfl rfl (by kernel_rfl) (by kernel_rfl) ?_
 rw [show initS Tryd.f49 [.p (.agg [.v (.int .i64 x0.Kind), .v (.string x0.Text), .lst false x0.Gaps.length (encL en_str x0.Gaps), .lst false x0.Kids.length (encL en_Node x0.Kids)]), .ptr 0 0, .ptr 1 0, .ptr 2 0] [.var [iv o0], .var [.p (.fn (.func 30) [])], .var [.fn (.func 49) [.ptr 0 0, .ptr 1 0, .ptr 2 0]]] = ⟨.p (.agg [.v (.int .i64 x0.Kind), .v (.string x0.Text), .lst false x0.Gaps.length (encL en_str x0.Gaps), .lst false x0.Kids.length (encL en_Node x0.Kids)]) :: .ptr 0 0 :: .ptr 1 0 :: .ptr 2 0 :: List.replicate 34 undefD, [.var [iv o0], .var [.p (.fn (.func 30) [])], .var [.fn (.func 49) [.ptr 0 0, .ptr 1 0, .ptr 2 0]]], 3⟩ from by kernel_rfl]
 unfold layout_mapped_c1.body at h
 unfold bodyOf Tryd.f49; simp only [Option.getD_some, loopsOf, List.append_nil, List.nil_append, List.cons_append, List.getD_cons_zero, List.getD_cons_succ]
 simp only [List.replicate]
 obtain ⟨r1, h2, h⟩ := bsm h
 have h3 : ∀ H, callD (callW Tryd.prog A0) A0 H 30 [.p (.agg [.v (.int .i64 x0.Kind), .v (.string x0.Text), .lst false x0.Gaps.length (encL en_str x0.Gaps), .lst false x0.Kids.length (encL en_Node x0.Kids)]), iv (w64 (o0 + (1 : Int)))] = some (.p (.lst false r1.length (encL en_str r1)), none) := fun H => layout_Repair_c1_call h2
 obtain ⟨r4, h5, h⟩ := bsm h
 have h6 : ∀ H, callD (callW Tryd.prog A0) A0 H 23 [.p (.lst false r1.length (encL en_str r1))] = some (.p (.lst false r4.length (encL en_str r4)), none) := fun H => slices_Clone_string_string_call h5
 obtain ⟨o, h16, h⟩ := bsm h
 simp (maxSteps := 10000000) (implicitDefEqProofs := false) (disch := first | assumption | omega | exact rfl | exact im_ _ | (refine dynT ?_; kernel_rfl) | (refine clearT ?_; kernel_rfl)) only [bs, rs49, ls49, Nat.reduceAdd, ↓reduceIte, lenD_lst u27, loadD_iagg a29 z29, loadD_pagg a29 z29, loadD_ptr a27, loadD_ptr a3, loadD_ptr a32, loadD_ptr a48, loadD_ptr a9, storeD_agg z29, storeD_gagg z29, storeD_gref z27, storeD_int z3, wksL_en_Node, wksL_en_str, wks_nil_, h3, h6]
 refine Wp.ctx (fun x => seqW _ _ _ _ (blockW _ (x))) (L49_0_ok hrec x0.Kids (x0.Kids.length : Int) (0 : Int) ByteArray.empty x0.Kind x0.Text r4 ((0 : Int), w64 (o0 + (1 : Int)), ([] : List Node)) _ o (by kernel_rfl) h16) ?_
 intro e st hq
 cases o with
 | next _ => (first | cases h | (simp at h))
 | jmp n_ s_ =>
  obtain ⟨rfl, rfl, hq⟩ := hq
  obtain ⟨s24_17, w0_0_17, y5_17⟩ := s_
  unfold F49_0 at hq
  (try simp only [] at h hq)
  obtain rfl := Option.some.inj h
  simp (maxSteps := 10000000) (implicitDefEqProofs := false) (disch := first | assumption | omega | exact rfl | exact im_ _ | (refine dynT ?_; kernel_rfl) | (refine clearT ?_; kernel_rfl)) only [bs, rs49, ls49, Nat.reduceAdd, ↓reduceIte, lenD_lst u27, loadD_iagg a29 z29, loadD_pagg a29 z29, loadD_ptr a27, loadD_ptr a3, loadD_ptr a32, loadD_ptr a48, loadD_ptr a9, storeD_agg z29, storeD_gagg z29, storeD_gref z27, storeD_int z3, wksL_en_Node, wksL_en_str, wks_nil_, h3, h6, hq]
  refine ⟨by first | exact .inl trivial | exact .inr trivial | simp, ?_⟩
  exact finish_isH (ds := [.agg [iv x0.Kind, .p (.v (.string x0.Text)), .p (.lst false r4.length (encL en_str r4)), .ref 5 0 y5_17.length 4]]) (x := .agg [.v (.int .i64 x0.Kind), .v (.string x0.Text), .lst false r4.length (encL en_str r4), .lst false y5_17.length (encL en_Node y5_17)]) (y := .agg [.v (.int .i64 x0.Kind), .v (.string x0.Text), .lst false r4.length (encL en_str r4), .lst false y5_17.length (encL en_Node y5_17)]) (l := [5]) rfl (by kernel_rfl) (purify1_agg (purifys_pc (purifys_pc (purifys_pc (purifys_rc en_Node_len rfl (by first | rfl | omega) purifys_nil))))) (by first | rfl | (simp only [wk, wks, wkL]; first | done | rfl)) (by kernel_rfl)
 | ret _ => (first | cases h | (simp at h))
theorem f49_spec : ∀ (x0 : Node) (o0 : Int) r, mappedS x0 o0 = some r → callW Tryd.prog A0 49 [.p (.agg [.v (.int .i64 x0.Kind), .v (.string x0.Text), .lst false x0.Gaps.length (encL en_str x0.Gaps), .lst false x0.Kids.length (encL en_Node x0.Kids)]), .ptr 0 0, .ptr 1 0, .ptr 2 0] [.var [iv o0], .var [.p (.fn (.func 30) [])], .var [.fn (.func 49) [.ptr 0 0, .ptr 1 0, .ptr 2 0]]] = some (.p (.agg [.v (.int .i64 r.1.Kind), .v (.string r.1.Text), .lst false r.1.Gaps.length (encL en_str r.1.Gaps), .lst false r.1.Kids.length (encL en_Node r.1.Kids)]), [.var [iv r.2], .var [.p (.fn (.func 30) [])], .var [.fn (.func 49) [.ptr 0 0, .ptr 1 0, .ptr 2 0]]]) := by
  have key : ∀ n (x0 : Node) (o0 : Int) r, mappedS_mu x0 o0 < n → mappedS x0 o0 = some r → callW Tryd.prog A0 49 [.p (.agg [.v (.int .i64 x0.Kind), .v (.string x0.Text), .lst false x0.Gaps.length (encL en_str x0.Gaps), .lst false x0.Kids.length (encL en_Node x0.Kids)]), .ptr 0 0, .ptr 1 0, .ptr 2 0] [.var [iv o0], .var [.p (.fn (.func 30) [])], .var [.fn (.func 49) [.ptr 0 0, .ptr 1 0, .ptr 2 0]]] = some (.p (.agg [.v (.int .i64 r.1.Kind), .v (.string r.1.Text), .lst false r.1.Gaps.length (encL en_str r.1.Gaps), .lst false r.1.Kids.length (encL en_Node r.1.Kids)]), [.var [iv r.2], .var [.p (.fn (.func 30) [])], .var [.fn (.func 49) [.ptr 0 0, .ptr 1 0, .ptr 2 0]]]) := by
    intro n
    induction n with
    | zero => intro x0 o0 r h; omega
    | succ n ih =>
      intro x0 o0 r hn h
      refine f49_ok (rec := fun x0' o0' => if mappedS_mu x0' o0' < mappedS_mu x0 o0 then mappedS x0' o0' else none) ?_ x0 o0 r (mappedS_body x0 o0 r h)
      intro x0' o0' r' h'
      by_cases hm : mappedS_mu x0' o0' < mappedS_mu x0 o0
      · rw [if_pos hm] at h'; exact ih x0' o0' r' (by omega) h'
      · rw [if_neg hm] at h'; cases h'
  intro x0 o0 r h
  exact key _ x0 o0 r (Nat.lt_succ_self _) h
theorem layout_mapped_c1_callg {x0 : Node} {o0 : Int} {r : (Node × Int)} (h : mappedS x0 o0 = some r) : callW Tryd.prog A0 49 [.p (.agg [.v (.int .i64 x0.Kind), .v (.string x0.Text), .lst false x0.Gaps.length (encL en_str x0.Gaps), .lst false x0.Kids.length (encL en_Node x0.Kids)]), .ptr 0 0, .ptr 1 0, .ptr 2 0] [.var [iv o0], .var [.p (.fn (.func 30) [])], .var [.fn (.func 49) [.ptr 0 0, .ptr 1 0, .ptr 2 0]]] = some (.p (.agg [.v (.int .i64 r.1.Kind), .v (.string r.1.Text), .lst false r.1.Gaps.length (encL en_str r.1.Gaps), .lst false r.1.Kids.length (encL en_Node r.1.Kids)]), [.var [iv r.2], .var [.p (.fn (.func 30) [])], .var [.fn (.func 49) [.ptr 0 0, .ptr 1 0, .ptr 2 0]]]) := f49_spec x0 o0 _ h
def ls29_30 := And.intro @al_29 (And.intro @al_3 (And.intro @al_32 (And.intro @sa_4_0_4 (And.intro @sg_1_0_f (And.intro @sv_1_0_1 (And.intro @varld_1_0 (@varlv_4_0_4)))))))
theorem f29_30_ok  (x0 : Node) (r : Node) (h : layout_mapped layout_Repair_c1 x0 = some r) : callW Tryd.prog A0 29 [.p (.agg [.v (.int .i64 x0.Kind), .v (.string x0.Text), .lst false x0.Gaps.length (encL en_str x0.Gaps), .lst false x0.Kids.length (encL en_Node x0.Kids)]), .p (.fn (.func 30) [])] [] = some (.p (.agg [.v (.int .i64 r.Kind), .v (.string r.Text), .lst false r.Gaps.length (encL en_str r.Gaps), .lst false r.Kids.length (encL en_Node r.Kids)]), []) := by
 refine call_ofH (fn := Tryd.f29) (c := bodyOf Tryd.f29) rfl rfl (by kernel_rfl) (by kernel_rfl) ?_
 rw [show initS Tryd.f29 [.p (.agg [.v (.int .i64 x0.Kind), .v (.string x0.Text), .lst false x0.Gaps.length (encL en_str x0.Gaps), .lst false x0.Kids.length (encL en_Node x0.Kids)]), .p (.fn (.func 30) [])] [] = ⟨.p (.agg [.v (.int .i64 x0.Kind), .v (.string x0.Text), .lst false x0.Gaps.length (encL en_str x0.Gaps), .lst false x0.Kids.length (encL en_Node x0.Kids)]) :: .p (.fn (.func 30) []) :: List.replicate 9 undefD, [], 0⟩ from by kernel_rfl]
 unfold layout_mapped at h
 unfold bodyOf Tryd.f29; simp only [Option.getD_some, loopsOf, List.append_nil, List.nil_append, List.cons_append, List.getD_cons_zero, List.getD_cons_succ]
 simp only [List.replicate]
 obtain ⟨r1, h2, h⟩ := bsm h
 have h3 : callD (callW Tryd.prog A0) A0 [.var [iv x0.Kind, .p (.v (.string x0.Text)), .p (.lst false x0.Gaps.length (encL en_str x0.Gaps)), .p (.lst false x0.Kids.length (encL en_Node x0.Kids))], .var [.p (.fn (.func 30) [])], .var [iv (0 : Int), .p (.v (.string ByteArray.empty)), .p (.lst true 0 []), .p (.lst true 0 [])], .var [iv (-1 : Int)], .var [.fn (.func 49) [.ptr 3 0, .ptr 1 0, .ptr 4 0]]] 49 [.p (.agg [.v (.int .i64 x0.Kind), .v (.string x0.Text), .lst false x0.Gaps.length (encL en_str x0.Gaps), .lst false x0.Kids.length (encL en_Node x0.Kids)]), .ptr 3 0, .ptr 1 0, .ptr 4 0] = some (.p (.agg [.v (.int .i64 r1.1.Kind), .v (.string r1.1.Text), .lst false r1.1.Gaps.length (encL en_str r1.1.Gaps), .lst false r1.1.Kids.length (encL en_Node r1.1.Kids)]), some [.var [iv x0.Kind, .p (.v (.string x0.Text)), .p (.lst false x0.Gaps.length (encL en_str x0.Gaps)), .p (.lst false x0.Kids.length (encL en_Node x0.Kids))], .var [.p (.fn (.func 30) [])], .var [iv (0 : Int), .p (.v (.string ByteArray.empty)), .p (.lst true 0 []), .p (.lst true 0 [])], .var [iv r1.2], .var [.fn (.func 49) [.ptr 3 0, .ptr 1 0, .ptr 4 0]]]) := (callD_put (dsw := [.p (.agg [.v (.int .i64 x0.Kind), .v (.string x0.Text), .lst false x0.Gaps.length (encL en_str x0.Gaps), .lst false x0.Kids.length (encL en_Node x0.Kids)]), .ptr 3 0, .ptr 1 0, .ptr 4 0]) (ds' := [.p (.agg [.v (.int .i64 x0.Kind), .v (.string x0.Text), .lst false x0.Gaps.length (encL en_str x0.Gaps), .lst false x0.Kids.length (encL en_Node x0.Kids)]), .ptr 0 0, .ptr 1 0, .ptr 2 0]) (i := 3) (ids := [1, 4]) (o := .var [iv (-1 : Int)]) (os := [.var [.p (.fn (.func 30) [])], .var [.fn (.func 49) [.ptr 0 0, .ptr 1 0, .ptr 2 0]]]) (o' := .var [iv r1.2]) (os' := [.var [.p (.fn (.func 30) [])], .var [.fn (.func 49) [.ptr 0 0, .ptr 1 0, .ptr 2 0]]]) rfl (by simp only [List.map_cons, List.map_nil, wkDv, wk, wks, wkL]) (by kernel_rfl) (by kernel_rfl) (by kernel_rfl) (by kernel_rfl) (layout_mapped_c1_callg h2) rfl rfl).trans (by kernel_rfl)
 obtain rfl := Option.some.inj h
 simp (maxSteps := 10000000) (implicitDefEqProofs := false) (disch := first | assumption | omega | exact rfl | exact im_ _) only [bs, rs29, ls29_30, Nat.reduceAdd, ↓reduceIte, allP, boxD_fn, loadD_pagg a29 z29, loadD_ptr a32, mkFn, ops_makeFunc_, storeD_agg z29, storeD_gfn z32, storeD_int z3, h3]
 refine ⟨by first | exact .inl trivial | exact .inr trivial | simp, ?_⟩
 exact finish_is (ds := [.p (.agg [.v (.int .i64 r1.1.Kind), .v (.string r1.1.Text), .lst false r1.1.Gaps.length (encL en_str r1.1.Gaps), .lst false r1.1.Kids.length (encL en_Node r1.1.Kids)])]) (x := .agg [.v (.int .i64 r1.1.Kind), .v (.string r1.1.Text), .lst false r1.1.Gaps.length (encL en_str r1.1.Gaps), .lst false r1.1.Kids.length (encL en_Node r1.1.Kids)]) (y := .agg [.v (.int .i64 r1.1.Kind), .v (.string r1.1.Text), .lst false r1.1.Gaps.length (encL en_str r1.1.Gaps), .lst false r1.1.Kids.length (encL en_Node r1.1.Kids)]) (l := []) rfl rfl (by kernel_rfl) rfl (by first | rfl | (simp only [wk, wks, wkL]; first | done | rfl))
theorem layout_mapped_30_call {b1 b2 : Bool} {H : List Ob} {x0 : Node} {r : Node} (h : layout_mapped layout_Repair_c1 x0 = some r) : callD (callW Tryd.prog A0) A0 H 29 [.p (.agg [.v (.int .i64 x0.Kind), .v (.string x0.Text), .lst b1 x0.Gaps.length (encL en_str x0.Gaps), .lst b2 x0.Kids.length (encL en_Node x0.Kids)]), .p (.fn (.func 30) [])] = some (.p (.agg [.v (.int .i64 r.Kind), .v (.string r.Text), .lst false r.Gaps.length (encL en_str r.Gaps), .lst false r.Kids.length (encL en_Node r.Kids)]), none) :=
  callD_fun (args := [.agg [.v (.int .i64 x0.Kind), .v (.string x0.Text), .lst b1 x0.Gaps.length (encL en_str x0.Gaps), .lst b2 x0.Kids.length (encL en_Node x0.Kids)], .fn (.func 30) []]) rfl rfl rfl (by simp only [List.map_cons, List.map_nil, wk, wks, wkL]; exact f29_30_ok x0 _ h)
def ls16 := And.intro @al_29 (And.intro @sa_4_0_4 (@varlv_4_0_4))
theorem f16_ok  (x0 : Node) (r : Node) (h : layout_Repair x0 = some r) : callW Tryd.prog A0 16 [.p (.agg [.v (.int .i64 x0.Kind), .v (.string x0.Text), .lst false x0.Gaps.length (encL en_str x0.Gaps), .lst false x0.Kids.length (encL en_Node x0.Kids)])] [] = some (.p (.agg [.v (.int .i64 r.Kind), .v (.string r.Text), .lst false r.Gaps.length (encL en_str r.Gaps), .lst false r.Kids.length (encL en_Node r.Kids)]), []) := by
 refine call_ofH (fn := Tryd.f16) (c := bodyOf Tryd.f16) rfl rfl (by kernel_rfl) (by kernel_rfl) ?_
 rw [show initS Tryd.f16 [.p (.agg [.v (.int .i64 x0.Kind), .v (.string x0.Text), .lst false x0.Gaps.length (encL en_str x0.Gaps), .lst false x0.Kids.length (encL en_Node x0.Kids)])] [] = ⟨.p (.agg [.v (.int .i64 x0.Kind), .v (.string x0.Text), .lst false x0.Gaps.length (encL en_str x0.Gaps), .lst false x0.Kids.length (encL en_Node x0.Kids)]) :: List.replicate 4 undefD, [], 0⟩ from by kernel_rfl]
 unfold layout_Repair at h
 unfold bodyOf Tryd.f16; simp only [Option.getD_some, loopsOf, List.append_nil, List.nil_append, List.cons_append, List.getD_cons_zero, List.getD_cons_succ]
 simp only [List.replicate]
 obtain ⟨r1, h2, h⟩ := bsm h
 have h3 : ∀ H, callD (callW Tryd.prog A0) A0 H 29 [.p (.agg [.v (.int .i64 x0.Kind), .v (.string x0.Text), .lst false x0.Gaps.length (encL en_str x0.Gaps), .lst false x0.Kids.length (encL en_Node x0.Kids)]), .p (.fn (.func 30) [])] = some (.p (.agg [.v (.int .i64 r1.Kind), .v (.string r1.Text), .lst false r1.Gaps.length (encL en_str r1.Gaps), .lst false r1.Kids.length (encL en_Node r1.Kids)]), none) := fun H => layout_mapped_30_call h2
 obtain rfl := Option.some.inj h
 simp (maxSteps := 10000000) (implicitDefEqProofs := false) (disch := first | assumption | omega | exact rfl | exact im_ _) only [bs, rs16, ls16, Nat.reduceAdd, ↓reduceIte, loadD_pagg a29 z29, storeD_agg z29, h3]
 refine ⟨by first | exact .inl trivial | exact .inr trivial | simp, ?_⟩
 exact finish_is (ds := [.p (.agg [.v (.int .i64 r1.Kind), .v (.string r1.Text), .lst false r1.Gaps.length (encL en_str r1.Gaps), .lst false r1.Kids.length (encL en_Node r1.Kids)])]) (x := .agg [.v (.int .i64 r1.Kind), .v (.string r1.Text), .lst false r1.Gaps.length (encL en_str r1.Gaps), .lst false r1.Kids.length (encL en_Node r1.Kids)]) (y := .agg [.v (.int .i64 r1.Kind), .v (.string r1.Text), .lst false r1.Gaps.length (encL en_str r1.Gaps), .lst false r1.Kids.length (encL en_Node r1.Kids)]) (l := []) rfl rfl (by kernel_rfl) rfl (by first | rfl | (simp only [wk, wks, wkL]; first | done | rfl))
theorem layout_Repair_call {b1 b2 : Bool} {H : List Ob} {x0 : Node} {r : Node} (h : layout_Repair x0 = some r) : callD (callW Tryd.prog A0) A0 H 16 [.p (.agg [.v (.int .i64 x0.Kind), .v (.string x0.Text), .lst b1 x0.Gaps.length (encL en_str x0.Gaps), .lst b2 x0.Kids.length (encL en_Node x0.Kids)])] = some (.p (.agg [.v (.int .i64 r.Kind), .v (.string r.Text), .lst false r.Gaps.length (encL en_str r.Gaps), .lst false r.Kids.length (encL en_Node r.Kids)]), none) :=
  callD_fun (args := [.agg [.v (.int .i64 x0.Kind), .v (.string x0.Text), .lst b1 x0.Gaps.length (encL en_str x0.Gaps), .lst b2 x0.Kids.length (encL en_Node x0.Kids)]]) rfl rfl rfl (by simp only [List.map_cons, List.map_nil, wk, wks, wkL]; exact f16_ok x0 _ h)
def ls20 := And.intro @faP_29_0 (And.intro @faP_29_1 (And.intro @faP_29_3 (And.intro @idxL_27 (And.intro @varld_4_0_0 (And.intro @varld_4_0_1 (@varld_4_0_3))))))
theorem R06_Same_rcall {rec : Node → Node → Option Bool} (hrec : ∀ x0 x1 r, rec x0 x1 = some r → callW Tryd.prog A0 20 [.p (.agg [.v (.int .i64 x0.Kind), .v (.string x0.Text), .lst false x0.Gaps.length (encL en_str x0.Gaps), .lst false x0.Kids.length (encL en_Node x0.Kids)]), .p (.agg [.v (.int .i64 x1.Kind), .v (.string x1.Text), .lst false x1.Gaps.length (encL en_str x1.Gaps), .lst false x1.Kids.length (encL en_Node x1.Kids)])] [] = some (.p (.v (.bool r)), [])) {b1 b2 b3 b4 : Bool} {H : List Ob} {x0 : Node} {x1 : Node} {r : Bool} (h : rec x0 x1 = some r) : callD (callW Tryd.prog A0) A0 H 20 [.p (.agg [.v (.int .i64 x0.Kind), .v (.string x0.Text), .lst b1 x0.Gaps.length (encL en_str x0.Gaps), .lst b2 x0.Kids.length (encL en_Node x0.Kids)]), .p (.agg [.v (.int .i64 x1.Kind), .v (.string x1.Text), .lst b3 x1.Gaps.length (encL en_str x1.Gaps), .lst b4 x1.Kids.length (encL en_Node x1.Kids)])] = some (.p (.v (.bool r)), none) :=
  callD_fun (args := [.agg [.v (.int .i64 x0.Kind), .v (.string x0.Text), .lst b1 x0.Gaps.length (encL en_str x0.Gaps), .lst b2 x0.Kids.length (encL en_Node x0.Kids)], .agg [.v (.int .i64 x1.Kind), .v (.string x1.Text), .lst b3 x1.Gaps.length (encL en_str x1.Gaps), .lst b4 x1.Kids.length (encL en_Node x1.Kids)]]) rfl rfl rfl (by simp only [List.map_cons, List.map_nil, wk, wks, wkL]; exact hrec x0 x1 _ h)
noncomputable def L20_0 : Code := (loopsOf (bodyOf Tryd.f20)).getD 0 .skip
def g20_0 : List Ghost := [.keep [2, 3, 5]]
def F20_0 (w0_0 : Int) (w0_1 : ByteArray) (w0_2 : (List ByteArray)) (w0_3 : (List Node)) (w1_0 : Int) (w1_1 : ByteArray) (w1_2 : (List ByteArray)) (w1_3 : (List Node)) : Int → St := fun s5 => ⟨[.junk, .junk, .ptr 0 0, .ptr 1 0, .junk, iv s5, .junk, .junk, .junk, .junk, .junk, .junk, .junk, .junk, .junk, .junk, .junk, .junk, .junk, .junk, .junk, .junk, .junk, .junk, .junk, .junk, .junk, .junk, .junk, .junk, .junk, .junk, .junk, .junk, .junk, .junk, .junk, .junk, .junk, .junk, .junk, .junk, .junk, .junk, .junk, .junk], [.var [iv w0_0, .p (.v (.string w0_1)), .p (.lst false w0_2.length (encL en_str w0_2)), .p (.lst false w0_3.length (encL en_Node w0_3))], .var [iv w1_0, .p (.v (.string w1_1)), .p (.lst false w1_2.length (encL en_str w1_2)), .p (.lst false w1_3.length (encL en_Node w1_3))]], 0⟩
theorem L20_0_ok {rec : Node → Node → Option Bool} (hrec : ∀ x0 x1 r, rec x0 x1 = some r → callW Tryd.prog A0 20 [.p (.agg [.v (.int .i64 x0.Kind), .v (.string x0.Text), .lst false x0.Gaps.length (encL en_str x0.Gaps), .lst false x0.Kids.length (encL en_Node x0.Kids)]), .p (.agg [.v (.int .i64 x1.Kind), .v (.string x1.Text), .lst false x1.Gaps.length (encL en_str x1.Gaps), .lst false x1.Kids.length (encL en_Node x1.Kids)])] [] = some (.p (.v (.bool r)), [])) (w0_0 : Int) (w0_1 : ByteArray) (w0_2 : (List ByteArray)) (w0_3 : (List Node)) (w1_0 : Int) (w1_1 : ByteArray) (w1_2 : (List ByteArray)) (w1_3 : (List Node)) : ∀ s st o, ghostsD g20_0 st = some (F20_0 w0_0 w0_1 w0_2 w0_3 w1_0 w1_1 w1_2 w1_3 s) → iter (R06_Same_L0 rec w0_0 w0_1 w0_2 w0_3 w1_0 w1_1 w1_2 w1_3) s = some o →
    Wp (evW Tryd.prog A0 20 (.loop L20_0) st) (OutQ (F20_0 w0_0 w0_1 w0_2 w0_3 w1_0 w1_1 w1_2 w1_3) g20_0 (fun n s st => n = 0 ∧ ghostsD [.keep [2, 3, 5]] st = some (F20_0 w0_0 w0_1 w0_2 w0_3 w1_0 w1_1 w1_2 w1_3 s)) (fun r st => finishD Tryd.prog A0 20 Tryd.f20 st = some (.p (.v (.bool r)), [])) o) := by
 refine Wp.iter ?_
 intro s st o hg h
 generalize s = s5 at hg h
 unfold R06_Same_L0 at h
 unfold g20_0 F20_0 at hg ⊢
 (try simp only [] at h hg)
 unfold L20_0 bodyOf Tryd.f20; simp only [Option.getD_some, loopsOf, List.append_nil, List.nil_append, List.cons_append, List.getD_cons_zero, List.getD_cons_succ]
 by_cases h4 : s5 < (w0_3.length : Int)
 ·rw [if_pos h4] at h
  have h4' : decide (s5 < (w0_3.length : Int)) = true := decide_eq_true h4
  obtain ⟨v5, h6, h⟩ := bsm h
  obtain ⟨h6a, h6b, _⟩ := rd_some h6
  have h7 := lk_frz_29 h6
  obtain ⟨v8, h9, h⟩ := bsm h
  obtain ⟨h9a, h9b, _⟩ := rd_some h9
  have h10 := lk_frz_29 h9
  obtain ⟨r11, h12, h⟩ := bsm h
  have h13 : ∀ H, callD (callW Tryd.prog A0) A0 H 20 [.p (.agg [.v (.int .i64 v5.Kind), .v (.string v5.Text), .lst false v5.Gaps.length (encL en_str v5.Gaps), .lst false v5.Kids.length (encL en_Node v5.Kids)]), .p (.agg [.v (.int .i64 v8.Kind), .v (.string v8.Text), .lst false v8.Gaps.length (encL en_str v8.Gaps), .lst false v8.Kids.length (encL en_Node v8.Kids)])] = some (.p (.v (.bool r11)), none) := fun H => R06_Same_rcall hrec h12
  by_cases h14 : r11 = true
  ·rw [if_pos h14] at h
   obtain rfl := Option.some.inj h
   simp (maxSteps := 10000000) (implicitDefEqProofs := false) (disch := first | assumption | omega | exact rfl | exact im_ _) only [bs, rs20, ls20, Nat.reduceAdd, ↓reduceIte, binD_neq_str, lenD_lst u27, loadD_iagg a29 z29, loadD_ptr a27, loadD_ptr a3, loadD_ptr a9, hg, ↓h4', h7, h10, h13, h14]
   exact ⟨rfl, by kernel_rfl⟩
  ·rw [if_neg h14] at h
   replace h14 := Bool.eq_false_iff.2 h14
   obtain rfl := Option.some.inj h
   simp (maxSteps := 10000000) (implicitDefEqProofs := false) (disch := first | assumption | omega | exact rfl | exact im_ _) only [bs, rs20, ls20, Nat.reduceAdd, ↓reduceIte, binD_neq_str, lenD_lst u27, loadD_iagg a29 z29, loadD_ptr a27, loadD_ptr a3, loadD_ptr a9, hg, ↓h4', h7, h10, h13, h14]
   refine ⟨rfl, ?_⟩
   exact finish_is (ds := [bv false]) (x := .v (.bool false)) (y := .v (.bool false)) (l := []) rfl rfl rfl rfl (by first | rfl | (simp only [wk, wks, wkL]; first | done | rfl))
 ·rw [if_neg h4] at h
  have h4' : decide (s5 < (w0_3.length : Int)) = false := decide_eq_false h4
  obtain rfl := Option.some.inj h
  simp (maxSteps := 10000000) (implicitDefEqProofs := false) (disch := first | assumption | omega | exact rfl | exact im_ _) only [bs, rs20, ls20, Nat.reduceAdd, ↓reduceIte, binD_neq_str, lenD_lst u27, loadD_iagg a29 z29, loadD_ptr a27, loadD_ptr a3, loadD_ptr a9, hg, ↓h4']
  exact ⟨rfl, rfl, by kernel_rfl⟩
theorem f20_ok {rec : Node → Node → Option Bool} (hrec : ∀ x0 x1 r, rec x0 x1 = some r → callW Tryd.prog A0 20 [.p (.agg [.v (.int .i64 x0.Kind), .v (.string x0.Text), .lst false x0.Gaps.length (encL en_str x0.Gaps), .lst false x0.Kids.length (encL en_Node x0.Kids)]), .p (.agg [.v (.int .i64 x1.Kind), .v (.string x1.Text), .lst false x1.Gaps.length (encL en_str x1.Gaps), .lst false x1.Kids.length (encL en_Node x1.Kids)])] [] = some (.p (.v (.bool r)), []))  (x0 : Node) (x1 : Node) (r : Bool) (h : R06_Same.body rec x0 x1 = some r) : callW Tryd.prog A0 20 [.p (.agg [.v (.int .i64 x0.Kind), .v (.string x0.Text), .lst false x0.Gaps.length (encL en_str x0.Gaps), .lst false x0.Kids.length (encL en_Node x0.Kids)]), .p (.agg [.v (.int .i64 x1.Kind), .v (.string x1.Text), .lst false x1.Gaps.length (encL en_str x1.Gaps), .lst false x1.Kids.length (encL en_Node x1.Kids)])] [] = some (.p (.v (.bool r)), []) := by
 refine call_ofH (fn := Tryd.f20) (c := bodyOf Tryd.f20) rfl rfl (by kernel_rfl) (by kernel_rfl) ?_
 rw [show initS Tryd.f20 [.p (.agg [.v (.int .i64 x0.Kind), .v (.string x0.Text), .lst false x0.Gaps.length (encL en_str x0.Gaps), .lst false x0.Kids.length (encL en_Node x0.Kids)]), .p (.agg [.v (.int .i64 x1.Kind), .v (.string x1.Text), .lst false x1.Gaps.length (encL en_str x1.Gaps), .lst false x1.Kids.length (encL en_Node x1.Kids)])] [] = ⟨.p (.agg [.v (.int .i64 x0.Kind), .v (.string x0.Text), .lst false x0.Gaps.length (encL en_str x0.Gaps), .lst false x0.Kids.length (encL en_Node x0.Kids)]) :: .p (.agg [.v (.int .i64 x1.Kind), .v (.string x1.Text), .lst false x1.Gaps.length (encL en_str x1.Gaps), .lst false x1.Kids.length (encL en_Node x1.Kids)]) :: List.replicate 44 undefD, [], 0⟩ from by kernel_rfl]
 unfold R06_Same.body at h
 unfold bodyOf Tryd.f20; simp only [Option.getD_some, loopsOf, List.append_nil, List.nil_append, List.cons_append, List.getD_cons_zero, List.getD_cons_succ]
 simp only [List.replicate]
 by_cases h1 : x0.Kind = x1.Kind
 ·rw [if_pos h1] at h
  have h1' : decide (x0.Kind = x1.Kind) = true := decide_eq_true h1
  by_cases h2 : x0.Text = x1.Text
  ·rw [if_pos h2] at h
   have h2' : decide (x0.Text = x1.Text) = true := decide_eq_true h2
   by_cases h3 : (x0.Kids.length : Int) = (x1.Kids.length : Int)
   ·rw [if_pos h3] at h
    have h3' : decide ((x0.Kids.length : Int) = (x1.Kids.length : Int)) = true := decide_eq_true h3
    obtain ⟨o, h15, h⟩ := bsm h
    simp (maxSteps := 10000000) (implicitDefEqProofs := false) (disch := first | assumption | omega | exact rfl | exact im_ _) only [bs, rs20, ls20, Nat.reduceAdd, ↓reduceIte, binD_neq_str, lenD_lst u27, loadD_iagg a29 z29, loadD_ptr a27, loadD_ptr a3, loadD_ptr a9, ↓h1', ↓h2', ↓h3']
    refine Wp.ctx (fun x => seqW _ _ _ _ (blockW _ (x))) (L20_0_ok hrec x0.Kind x0.Text x0.Gaps x0.Kids x1.Kind x1.Text x1.Gaps x1.Kids (0 : Int) _ o (by kernel_rfl) h15) ?_
    intro e st hq
    cases o with
    | next _ => (first | cases h | (simp at h))
    | jmp n_ s_ =>
     obtain ⟨rfl, rfl, hq⟩ := hq
     generalize s_ = s5_16 at h hq
     unfold F20_0 at hq
     (try simp only [] at h hq)
     obtain rfl := Option.some.inj h
     simp (maxSteps := 10000000) (implicitDefEqProofs := false) (disch := first | assumption | omega | exact rfl | exact im_ _) only [bs, rs20, ls20, Nat.reduceAdd, ↓reduceIte, binD_neq_str, lenD_lst u27, loadD_iagg a29 z29, loadD_ptr a27, loadD_ptr a3, loadD_ptr a9, ↓h1', ↓h2', ↓h3', hq]
     refine ⟨by first | exact .inl trivial | exact .inr trivial | simp, ?_⟩
     exact finish_is (ds := [bv true]) (x := .v (.bool true)) (y := .v (.bool true)) (l := []) rfl rfl rfl rfl (by first | rfl | (simp only [wk, wks, wkL]; first | done | rfl))
    | ret r17 =>
     obtain ⟨rfl, hq⟩ := hq
     obtain rfl := Option.some.inj h
     simp (maxSteps := 10000000) (implicitDefEqProofs := false) (disch := first | assumption | omega | exact rfl | exact im_ _) only [bs, rs20, ls20, Nat.reduceAdd, ↓reduceIte, binD_neq_str, lenD_lst u27, loadD_iagg a29 z29, loadD_ptr a27, loadD_ptr a3, loadD_ptr a9]
     exact ⟨by first | exact .inl trivial | exact .inr trivial | simp, hq⟩
   ·rw [if_neg h3] at h
    have h3' : decide ((x0.Kids.length : Int) = (x1.Kids.length : Int)) = false := decide_eq_false h3
    obtain rfl := Option.some.inj h
    simp (maxSteps := 10000000) (implicitDefEqProofs := false) (disch := first | assumption | omega | exact rfl | exact im_ _) only [bs, rs20, ls20, Nat.reduceAdd, ↓reduceIte, binD_neq_str, lenD_lst u27, loadD_iagg a29 z29, loadD_ptr a27, loadD_ptr a3, loadD_ptr a9, ↓h1', ↓h2', ↓h3']
    refine ⟨by first | exact .inl trivial | exact .inr trivial | simp, ?_⟩
    exact finish_is (ds := [bv false]) (x := .v (.bool false)) (y := .v (.bool false)) (l := []) rfl rfl rfl rfl (by first | rfl | (simp only [wk, wks, wkL]; first | done | rfl))
  ·rw [if_neg h2] at h
   have h2' : decide (x0.Text = x1.Text) = false := decide_eq_false h2
   obtain rfl := Option.some.inj h
   simp (maxSteps := 10000000) (implicitDefEqProofs := false) (disch := first | assumption | omega | exact rfl | exact im_ _) only [bs, rs20, ls20, Nat.reduceAdd, ↓reduceIte, binD_neq_str, lenD_lst u27, loadD_iagg a29 z29, loadD_ptr a27, loadD_ptr a3, loadD_ptr a9, ↓h1', ↓h2']
   refine ⟨by first | exact .inl trivial | exact .inr trivial | simp, ?_⟩
   exact finish_is (ds := [bv false]) (x := .v (.bool false)) (y := .v (.bool false)) (l := []) rfl rfl rfl rfl (by first | rfl | (simp only [wk, wks, wkL]; first | done | rfl))
 ·rw [if_neg h1] at h
  have h1' : decide (x0.Kind = x1.Kind) = false := decide_eq_false h1
  obtain rfl := Option.some.inj h
  simp (maxSteps := 10000000) (implicitDefEqProofs := false) (disch := first | assumption | omega | exact rfl | exact im_ _) only [bs, rs20, ls20, Nat.reduceAdd, ↓reduceIte, binD_neq_str, lenD_lst u27, loadD_iagg a29 z29, loadD_ptr a27, loadD_ptr a3, loadD_ptr a9, ↓h1']
  refine ⟨by first | exact .inl trivial | exact .inr trivial | simp, ?_⟩
  exact finish_is (ds := [bv false]) (x := .v (.bool false)) (y := .v (.bool false)) (l := []) rfl rfl rfl rfl (by first | rfl | (simp only [wk, wks, wkL]; first | done | rfl))
theorem f20_spec : ∀ (x0 : Node) (x1 : Node) r, R06_SameS x0 x1 = some r → callW Tryd.prog A0 20 [.p (.agg [.v (.int .i64 x0.Kind), .v (.string x0.Text), .lst false x0.Gaps.length (encL en_str x0.Gaps), .lst false x0.Kids.length (encL en_Node x0.Kids)]), .p (.agg [.v (.int .i64 x1.Kind), .v (.string x1.Text), .lst false x1.Gaps.length (encL en_str x1.Gaps), .lst false x1.Kids.length (encL en_Node x1.Kids)])] [] = some (.p (.v (.bool r)), []) := by
  have key : ∀ n (x0 : Node) (x1 : Node) r, R06_SameS_mu x0 x1 < n → R06_SameS x0 x1 = some r → callW Tryd.prog A0 20 [.p (.agg [.v (.int .i64 x0.Kind), .v (.string x0.Text), .lst false x0.Gaps.length (encL en_str x0.Gaps), .lst false x0.Kids.length (encL en_Node x0.Kids)]), .p (.agg [.v (.int .i64 x1.Kind), .v (.string x1.Text), .lst false x1.Gaps.length (encL en_str x1.Gaps), .lst false x1.Kids.length (encL en_Node x1.Kids)])] [] = some (.p (.v (.bool r)), []) := by
    intro n
    induction n with
    | zero => intro x0 x1 r h; omega
    | succ n ih =>
      intro x0 x1 r hn h
      refine f20_ok (rec := fun x0' x1' => if R06_SameS_mu x0' x1' < R06_SameS_mu x0 x1 then R06_SameS x0' x1' else none) ?_ x0 x1 r (R06_SameS_body x0 x1 r h)
      intro x0' x1' r' h'
      by_cases hm : R06_SameS_mu x0' x1' < R06_SameS_mu x0 x1
      · rw [if_pos hm] at h'; exact ih x0' x1' r' (by omega) h'
      · rw [if_neg hm] at h'; cases h'
  intro x0 x1 r h
  exact key _ x0 x1 r (Nat.lt_succ_self _) h
theorem R06_Same_call {b1 b2 b3 b4 : Bool} {H : List Ob} {x0 : Node} {x1 : Node} {r : Bool} (h : R06_SameS x0 x1 = some r) : callD (callW Tryd.prog A0) A0 H 20 [.p (.agg [.v (.int .i64 x0.Kind), .v (.string x0.Text), .lst b1 x0.Gaps.length (encL en_str x0.Gaps), .lst b2 x0.Kids.length (encL en_Node x0.Kids)]), .p (.agg [.v (.int .i64 x1.Kind), .v (.string x1.Text), .lst b3 x1.Gaps.length (encL en_str x1.Gaps), .lst b4 x1.Kids.length (encL en_Node x1.Kids)])] = some (.p (.v (.bool r)), none) :=
  callD_fun (args := [.agg [.v (.int .i64 x0.Kind), .v (.string x0.Text), .lst b1 x0.Gaps.length (encL en_str x0.Gaps), .lst b2 x0.Kids.length (encL en_Node x0.Kids)], .agg [.v (.int .i64 x1.Kind), .v (.string x1.Text), .lst b3 x1.Gaps.length (encL en_str x1.Gaps), .lst b4 x1.Kids.length (encL en_Node x1.Kids)]]) rfl rfl rfl (by simp only [List.map_cons, List.map_nil, wk, wks, wkL]; exact f20_spec x0 x1 _ h)
def ls8 := @idxL_22
noncomputable def L8_0 : Code := (loopsOf (bodyOf Tryd.f8)).getD 0 .skip
def g8_0 : List Ghost := [.weak [0, 1], .keep [0, 1, 5]]
def F8_0 (s0 : (List ByteArray)) (s1 : (List ByteArray)) : Int → St := fun s5 => ⟨[.p (.lst false s0.length (encL en_str s0)), .p (.lst false s1.length (encL en_str s1)), .junk, .junk, .junk, iv s5, .junk, .junk, .junk, .junk, .junk, .junk, .junk, .junk, .junk, .junk, .junk, .junk, .junk, .junk, .junk, .junk, .junk, .junk, .junk, .junk], [], 0⟩
theorem L8_0_ok (s0 : (List ByteArray)) (s1 : (List ByteArray)) : ∀ s st o, ghostsD g8_0 st = some (F8_0 s0 s1 s) → iter (R03_Strings_L0 s0 s1) s = some o →
    Wp (evW Tryd.prog A0 8 (.loop L8_0) st) (OutQ (F8_0 s0 s1) g8_0 (fun n s st => n = 0 ∧ ghostsD [.keep [0, 1, 5]] st = some (F8_0 s0 s1 s)) (fun r st => finishD Tryd.prog A0 8 Tryd.f8 st = some (.p (.v (.bool r)), [])) o) := by
 refine Wp.iter ?_
 intro s st o hg h
 generalize s = s5 at hg h
 unfold R03_Strings_L0 at h
 unfold g8_0 F8_0 at hg ⊢
 (try simp only [] at h hg)
 unfold L8_0 bodyOf Tryd.f8; simp only [Option.getD_some, loopsOf, List.append_nil, List.nil_append, List.cons_append, List.getD_cons_zero, List.getD_cons_succ]
 by_cases h2 : s5 < (s0.length : Int)
 ·rw [if_pos h2] at h
  have h2' : decide (s5 < (s0.length : Int)) = true := decide_eq_true h2
  obtain ⟨v3, h4, h⟩ := bsm h
  obtain ⟨h4a, h4b, _⟩ := rd_some h4
  have h5 := ce_9_x h4
  obtain ⟨v6, h7, h⟩ := bsm h
  obtain ⟨h7a, h7b, _⟩ := rd_some h7
  have h8 := ce_9_x h7
  by_cases h9 : v3 = v6
  ·rw [if_pos h9] at h
   have h9' : decide (v3 = v6) = true := decide_eq_true h9
   obtain rfl := Option.some.inj h
   simp (maxSteps := 10000000) (implicitDefEqProofs := false) (disch := first | assumption | omega | exact rfl | exact im_ _) only [bs, rs8, ls8, Nat.reduceAdd, ↓reduceIte, binD_neq_str, lenD_lst u22, loadD_iptr a9, hg, ↓h2', h5, h8, ↓h9']
   exact ⟨rfl, by kernel_rfl⟩
  ·rw [if_neg h9] at h
   have h9' : decide (v3 = v6) = false := decide_eq_false h9
   obtain rfl := Option.some.inj h
   simp (maxSteps := 10000000) (implicitDefEqProofs := false) (disch := first | assumption | omega | exact rfl | exact im_ _) only [bs, rs8, ls8, Nat.reduceAdd, ↓reduceIte, binD_neq_str, lenD_lst u22, loadD_iptr a9, hg, ↓h2', h5, h8, ↓h9']
   refine ⟨rfl, ?_⟩
   exact finish_is (ds := [bv false]) (x := .v (.bool false)) (y := .v (.bool false)) (l := []) rfl rfl rfl rfl (by first | rfl | (simp only [wk, wks, wkL]; first | done | rfl))
 ·rw [if_neg h2] at h
  have h2' : decide (s5 < (s0.length : Int)) = false := decide_eq_false h2
  obtain rfl := Option.some.inj h
  simp (maxSteps := 10000000) (implicitDefEqProofs := false) (disch := first | assumption | omega | exact rfl | exact im_ _) only [bs, rs8, ls8, Nat.reduceAdd, ↓reduceIte, binD_neq_str, lenD_lst u22, loadD_iptr a9, hg, ↓h2']
  exact ⟨rfl, rfl, by kernel_rfl⟩
theorem f8_ok  (x0 : (List ByteArray)) (x1 : (List ByteArray)) (r : Bool) (h : R03_Strings x0 x1 = some r) : callW Tryd.prog A0 8 [.p (.lst false x0.length (encL en_str x0)), .p (.lst false x1.length (encL en_str x1))] [] = some (.p (.v (.bool r)), []) := by
 refine call_ofH (fn := Tryd.f8) (c := bodyOf Tryd.f8) rfl rfl (by kernel_rfl) (by kernel_rfl) ?_
 rw [show initS Tryd.f8 [.p (.lst false x0.length (encL en_str x0)), .p (.lst false x1.length (encL en_str x1))] [] = ⟨.p (.lst false x0.length (encL en_str x0)) :: .p (.lst false x1.length (encL en_str x1)) :: List.replicate 24 undefD, [], 0⟩ from by kernel_rfl]
 unfold R03_Strings at h
 unfold bodyOf Tryd.f8; simp only [Option.getD_some, loopsOf, List.append_nil, List.nil_append, List.cons_append, List.getD_cons_zero, List.getD_cons_succ]
 simp only [List.replicate]
 by_cases h1 : (x0.length : Int) = (x1.length : Int)
 ·rw [if_pos h1] at h
  have h1' : decide ((x0.length : Int) = (x1.length : Int)) = true := decide_eq_true h1
  obtain ⟨o, h10, h⟩ := bsm h
  simp (maxSteps := 10000000) (implicitDefEqProofs := false) (disch := first | assumption | omega | exact rfl | exact im_ _) only [bs, rs8, ls8, Nat.reduceAdd, ↓reduceIte, binD_neq_str, lenD_lst u22, loadD_iptr a9, ↓h1']
  refine Wp.ctx (fun x => seqW _ _ _ _ (blockW _ (x))) (L8_0_ok x0 x1 (0 : Int) _ o (by kernel_rfl) h10) ?_
  intro e st hq
  cases o with
  | next _ => (first | cases h | (simp at h))
  | jmp n_ s_ =>
   obtain ⟨rfl, rfl, hq⟩ := hq
   generalize s_ = s5_11 at h hq
   unfold F8_0 at hq
   (try simp only [] at h hq)
   obtain rfl := Option.some.inj h
   simp (maxSteps := 10000000) (implicitDefEqProofs := false) (disch := first | assumption | omega | exact rfl | exact im_ _) only [bs, rs8, ls8, Nat.reduceAdd, ↓reduceIte, binD_neq_str, lenD_lst u22, loadD_iptr a9, ↓h1', hq]
   refine ⟨by first | exact .inl trivial | exact .inr trivial | simp, ?_⟩
   exact finish_is (ds := [bv true]) (x := .v (.bool true)) (y := .v (.bool true)) (l := []) rfl rfl rfl rfl (by first | rfl | (simp only [wk, wks, wkL]; first | done | rfl))
  | ret r12 =>
   obtain ⟨rfl, hq⟩ := hq
   obtain rfl := Option.some.inj h
   simp (maxSteps := 10000000) (implicitDefEqProofs := false) (disch := first | assumption | omega | exact rfl | exact im_ _) only [bs, rs8, ls8, Nat.reduceAdd, ↓reduceIte, binD_neq_str, lenD_lst u22, loadD_iptr a9]
   exact ⟨by first | exact .inl trivial | exact .inr trivial | simp, hq⟩
 ·rw [if_neg h1] at h
  have h1' : decide ((x0.length : Int) = (x1.length : Int)) = false := decide_eq_false h1
  obtain rfl := Option.some.inj h
  simp (maxSteps := 10000000) (implicitDefEqProofs := false) (disch := first | assumption | omega | exact rfl | exact im_ _) only [bs, rs8, ls8, Nat.reduceAdd, ↓reduceIte, binD_neq_str, lenD_lst u22, loadD_iptr a9, ↓h1']
  refine ⟨by first | exact .inl trivial | exact .inr trivial | simp, ?_⟩
  exact finish_is (ds := [bv false]) (x := .v (.bool false)) (y := .v (.bool false)) (l := []) rfl rfl rfl rfl (by first | rfl | (simp only [wk, wks, wkL]; first | done | rfl))
theorem R03_Strings_call {b1 b2 : Bool} {H : List Ob} {x0 : (List ByteArray)} {x1 : (List ByteArray)} {r : Bool} (h : R03_Strings x0 x1 = some r) : callD (callW Tryd.prog A0) A0 H 8 [.p (.lst b1 x0.length (encL en_str x0)), .p (.lst b2 x1.length (encL en_str x1))] = some (.p (.v (.bool r)), none) :=
  callD_fun (args := [.lst b1 x0.length (encL en_str x0), .lst b2 x1.length (encL en_str x1)]) rfl rfl rfl (by simp only [List.map_cons, List.map_nil, wk, wks, wkL]; exact f8_ok x0 x1 _ h)
def ls15 := And.intro @faP_29_0 (And.intro @faP_29_1 (And.intro @faP_29_2 (And.intro @faP_29_3 (And.intro @idxL_27 (And.intro @varld_4_0_0 (And.intro @varld_4_0_1 (And.intro @varld_4_0_2 (@varld_4_0_3))))))))
theorem R06_Equal_rcall {rec : Node → Node → Option Bool} (hrec : ∀ x0 x1 r, rec x0 x1 = some r → callW Tryd.prog A0 15 [.p (.agg [.v (.int .i64 x0.Kind), .v (.string x0.Text), .lst false x0.Gaps.length (encL en_str x0.Gaps), .lst false x0.Kids.length (encL en_Node x0.Kids)]), .p (.agg [.v (.int .i64 x1.Kind), .v (.string x1.Text), .lst false x1.Gaps.length (encL en_str x1.Gaps), .lst false x1.Kids.length (encL en_Node x1.Kids)])] [] = some (.p (.v (.bool r)), [])) {b1 b2 b3 b4 : Bool} {H : List Ob} {x0 : Node} {x1 : Node} {r : Bool} (h : rec x0 x1 = some r) : callD (callW Tryd.prog A0) A0 H 15 [.p (.agg [.v (.int .i64 x0.Kind), .v (.string x0.Text), .lst b1 x0.Gaps.length (encL en_str x0.Gaps), .lst b2 x0.Kids.length (encL en_Node x0.Kids)]), .p (.agg [.v (.int .i64 x1.Kind), .v (.string x1.Text), .lst b3 x1.Gaps.length (encL en_str x1.Gaps), .lst b4 x1.Kids.length (encL en_Node x1.Kids)])] = some (.p (.v (.bool r)), none) :=
  callD_fun (args := [.agg [.v (.int .i64 x0.Kind), .v (.string x0.Text), .lst b1 x0.Gaps.length (encL en_str x0.Gaps), .lst b2 x0.Kids.length (encL en_Node x0.Kids)], .agg [.v (.int .i64 x1.Kind), .v (.string x1.Text), .lst b3 x1.Gaps.length (encL en_str x1.Gaps), .lst b4 x1.Kids.length (encL en_Node x1.Kids)]]) rfl rfl rfl (by simp only [List.map_cons, List.map_nil, wk, wks, wkL]; exact hrec x0 x1 _ h)
noncomputable def L15_0 : Code := (loopsOf (bodyOf Tryd.f15)).getD 0 .skip
def g15_0 : List Ghost := [.keep [2, 3, 5]]
def F15_0 (w0_0 : Int) (w0_1 : ByteArray) (w0_2 : (List ByteArray)) (w0_3 : (List Node)) (w1_0 : Int) (w1_1 : ByteArray) (w1_2 : (List ByteArray)) (w1_3 : (List Node)) : Int → St := fun s5 => ⟨[.junk, .junk, .ptr 0 0, .ptr 1 0, .junk, iv s5, .junk, .junk, .junk, .junk, .junk, .junk, .junk, .junk, .junk, .junk, .junk, .junk, .junk, .junk, .junk, .junk, .junk, .junk, .junk, .junk, .junk, .junk, .junk, .junk, .junk, .junk, .junk, .junk, .junk, .junk, .junk, .junk, .junk, .junk, .junk, .junk, .junk, .junk, .junk, .junk, .junk, .junk, .junk, .junk, .junk, .junk, .junk, .junk], [.var [iv w0_0, .p (.v (.string w0_1)), .p (.lst false w0_2.length (encL en_str w0_2)), .p (.lst false w0_3.length (encL en_Node w0_3))], .var [iv w1_0, .p (.v (.string w1_1)), .p (.lst false w1_2.length (encL en_str w1_2)), .p (.lst false w1_3.length (encL en_Node w1_3))]], 0⟩
theorem L15_0_ok {rec : Node → Node → Option Bool} (hrec : ∀ x0 x1 r, rec x0 x1 = some r → callW Tryd.prog A0 15 [.p (.agg [.v (.int .i64 x0.Kind), .v (.string x0.Text), .lst false x0.Gaps.length (encL en_str x0.Gaps), .lst false x0.Kids.length (encL en_Node x0.Kids)]), .p (.agg [.v (.int .i64 x1.Kind), .v (.string x1.Text), .lst false x1.Gaps.length (encL en_str x1.Gaps), .lst false x1.Kids.length (encL en_Node x1.Kids)])] [] = some (.p (.v (.bool r)), [])) (w0_0 : Int) (w0_1 : ByteArray) (w0_2 : (List ByteArray)) (w0_3 : (List Node)) (w1_0 : Int) (w1_1 : ByteArray) (w1_2 : (List ByteArray)) (w1_3 : (List Node)) : ∀ s st o, ghostsD g15_0 st = some (F15_0 w0_0 w0_1 w0_2 w0_3 w1_0 w1_1 w1_2 w1_3 s) → iter (R06_Equal_L0 rec w0_0 w0_1 w0_2 w0_3 w1_0 w1_1 w1_2 w1_3) s = some o →
    Wp (evW Tryd.prog A0 15 (.loop L15_0) st) (OutQ (F15_0 w0_0 w0_1 w0_2 w0_3 w1_0 w1_1 w1_2 w1_3) g15_0 (fun n s st => n = 0 ∧ ghostsD [.keep [2, 3, 5]] st = some (F15_0 w0_0 w0_1 w0_2 w0_3 w1_0 w1_1 w1_2 w1_3 s)) (fun r st => finishD Tryd.prog A0 15 Tryd.f15 st = some (.p (.v (.bool r)), [])) o) := by
 refine Wp.iter ?_
 intro s st o hg h
 generalize s = s5 at hg h
 unfold R06_Equal_L0 at h
 unfold g15_0 F15_0 at hg ⊢
 (try simp only [] at h hg)
 unfold L15_0 bodyOf Tryd.f15; simp only [Option.getD_some, loopsOf, List.append_nil, List.nil_append, List.cons_append, List.getD_cons_zero, List.getD_cons_succ]
 by_cases h8 : s5 < (w0_3.length : Int)
 ·rw [if_pos h8] at h
  have h8' : decide (s5 < (w0_3.length : Int)) = true := decide_eq_true h8
  obtain ⟨v9, h10, h⟩ := bsm h
  obtain ⟨h10a, h10b, _⟩ := rd_some h10
  have h11 := lk_frz_29 h10
  obtain ⟨v12, h13, h⟩ := bsm h
  obtain ⟨h13a, h13b, _⟩ := rd_some h13
  have h14 := lk_frz_29 h13
  obtain ⟨r15, h16, h⟩ := bsm h
  have h17 : ∀ H, callD (callW Tryd.prog A0) A0 H 15 [.p (.agg [.v (.int .i64 v9.Kind), .v (.string v9.Text), .lst false v9.Gaps.length (encL en_str v9.Gaps), .lst false v9.Kids.length (encL en_Node v9.Kids)]), .p (.agg [.v (.int .i64 v12.Kind), .v (.string v12.Text), .lst false v12.Gaps.length (encL en_str v12.Gaps), .lst false v12.Kids.length (encL en_Node v12.Kids)])] = some (.p (.v (.bool r15)), none) := fun H => R06_Equal_rcall hrec h16
  by_cases h18 : r15 = true
  ·rw [if_pos h18] at h
   obtain rfl := Option.some.inj h
   simp (maxSteps := 10000000) (implicitDefEqProofs := false) (disch := first | assumption | omega | exact rfl | exact im_ _) only [bs, rs15, ls15, Nat.reduceAdd, ↓reduceIte, binD_neq_str, lenD_lst u27, loadD_iagg a29 z29, loadD_ptr a22, loadD_ptr a27, loadD_ptr a3, loadD_ptr a9, hg, ↓h8', h11, h14, h17, h18]
   exact ⟨rfl, by kernel_rfl⟩
  ·rw [if_neg h18] at h
   replace h18 := Bool.eq_false_iff.2 h18
   obtain rfl := Option.some.inj h
   simp (maxSteps := 10000000) (implicitDefEqProofs := false) (disch := first | assumption | omega | exact rfl | exact im_ _) only [bs, rs15, ls15, Nat.reduceAdd, ↓reduceIte, binD_neq_str, lenD_lst u27, loadD_iagg a29 z29, loadD_ptr a22, loadD_ptr a27, loadD_ptr a3, loadD_ptr a9, hg, ↓h8', h11, h14, h17, h18]
   refine ⟨rfl, ?_⟩
   exact finish_is (ds := [bv false]) (x := .v (.bool false)) (y := .v (.bool false)) (l := []) rfl rfl rfl rfl (by first | rfl | (simp only [wk, wks, wkL]; first | done | rfl))
 ·rw [if_neg h8] at h
  have h8' : decide (s5 < (w0_3.length : Int)) = false := decide_eq_false h8
  obtain rfl := Option.some.inj h
  simp (maxSteps := 10000000) (implicitDefEqProofs := false) (disch := first | assumption | omega | exact rfl | exact im_ _) only [bs, rs15, ls15, Nat.reduceAdd, ↓reduceIte, binD_neq_str, lenD_lst u27, loadD_iagg a29 z29, loadD_ptr a22, loadD_ptr a27, loadD_ptr a3, loadD_ptr a9, hg, ↓h8']
  exact ⟨rfl, rfl, by kernel_rfl⟩
theorem f15_ok {rec : Node → Node → Option Bool} (hrec : ∀ x0 x1 r, rec x0 x1 = some r → callW Tryd.prog A0 15 [.p (.agg [.v (.int .i64 x0.Kind), .v (.string x0.Text), .lst false x0.Gaps.length (encL en_str x0.Gaps), .lst false x0.Kids.length (encL en_Node x0.Kids)]), .p (.agg [.v (.int .i64 x1.Kind), .v (.string x1.Text), .lst false x1.Gaps.length (encL en_str x1.Gaps), .lst false x1.Kids.length (encL en_Node x1.Kids)])] [] = some (.p (.v (.bool r)), []))  (x0 : Node) (x1 : Node) (r : Bool) (h : R06_Equal.body rec x0 x1 = some r) : callW Tryd.prog A0 15 [.p (.agg [.v (.int .i64 x0.Kind), .v (.string x0.Text), .lst false x0.Gaps.length (encL en_str x0.Gaps), .lst false x0.Kids.length (encL en_Node x0.Kids)]), .p (.agg [.v (.int .i64 x1.Kind), .v (.string x1.Text), .lst false x1.Gaps.length (encL en_str x1.Gaps), .lst false x1.Kids.length (encL en_Node x1.Kids)])] [] = some (.p (.v (.bool r)), []) := by
 refine call_ofH (fn := Tryd.f15) (c := bodyOf Tryd.f15) rfl rfl (by kernel_rfl) (by kernel_rfl) ?_
 rw [show initS Tryd.f15 [.p (.agg [.v (.int .i64 x0.Kind), .v (.string x0.Text), .lst false x0.Gaps.length (encL en_str x0.Gaps), .lst false x0.Kids.length (encL en_Node x0.Kids)]), .p (.agg [.v (.int .i64 x1.Kind), .v (.string x1.Text), .lst false x1.Gaps.length (encL en_str x1.Gaps), .lst false x1.Kids.length (encL en_Node x1.Kids)])] [] = ⟨.p (.agg [.v (.int .i64 x0.Kind), .v (.string x0.Text), .lst false x0.Gaps.length (encL en_str x0.Gaps), .lst false x0.Kids.length (encL en_Node x0.Kids)]) :: .p (.agg [.v (.int .i64 x1.Kind), .v (.string x1.Text), .lst false x1.Gaps.length (encL en_str x1.Gaps), .lst false x1.Kids.length (encL en_Node x1.Kids)]) :: List.replicate 52 undefD, [], 0⟩ from by kernel_rfl]
 unfold R06_Equal.body at h
 unfold bodyOf Tryd.f15; simp only [Option.getD_some, loopsOf, List.append_nil, List.nil_append, List.cons_append, List.getD_cons_zero, List.getD_cons_succ]
 simp only [List.replicate]
 by_cases h1 : x0.Kind = x1.Kind
 ·rw [if_pos h1] at h
  have h1' : decide (x0.Kind = x1.Kind) = true := decide_eq_true h1
  by_cases h2 : x0.Text = x1.Text
  ·rw [if_pos h2] at h
   have h2' : decide (x0.Text = x1.Text) = true := decide_eq_true h2
   obtain ⟨r3, h4, h⟩ := bsm h
   have h5 : ∀ H, callD (callW Tryd.prog A0) A0 H 8 [.p (.lst false x0.Gaps.length (encL en_str x0.Gaps)), .p (.lst false x1.Gaps.length (encL en_str x1.Gaps))] = some (.p (.v (.bool r3)), none) := fun H => R03_Strings_call h4
   by_cases h6 : r3 = true
   ·rw [if_pos h6] at h
    by_cases h7 : (x0.Kids.length : Int) = (x1.Kids.length : Int)
    ·rw [if_pos h7] at h
     have h7' : decide ((x0.Kids.length : Int) = (x1.Kids.length : Int)) = true := decide_eq_true h7
     obtain ⟨o, h19, h⟩ := bsm h
     simp (maxSteps := 10000000) (implicitDefEqProofs := false) (disch := first | assumption | omega | exact rfl | exact im_ _) only [bs, rs15, ls15, Nat.reduceAdd, ↓reduceIte, binD_neq_str, lenD_lst u27, loadD_iagg a29 z29, loadD_ptr a22, loadD_ptr a27, loadD_ptr a3, loadD_ptr a9, ↓h1', ↓h2', h5, h6, ↓h7']
     refine Wp.ctx (fun x => seqW _ _ _ _ (blockW _ (x))) (L15_0_ok hrec x0.Kind x0.Text x0.Gaps x0.Kids x1.Kind x1.Text x1.Gaps x1.Kids (0 : Int) _ o (by kernel_rfl) h19) ?_
     intro e st hq
     cases o with
     | next _ => (first | cases h | (simp at h))
     | jmp n_ s_ =>
      obtain ⟨rfl, rfl, hq⟩ := hq
      generalize s_ = s5_20 at h hq
      unfold F15_0 at hq
      (try simp only [] at h hq)
      obtain rfl := Option.some.inj h
      simp (maxSteps := 10000000) (implicitDefEqProofs := false) (disch := first | assumption | omega | exact rfl | exact im_ _) only [bs, rs15, ls15, Nat.reduceAdd, ↓reduceIte, binD_neq_str, lenD_lst u27, loadD_iagg a29 z29, loadD_ptr a22, loadD_ptr a27, loadD_ptr a3, loadD_ptr a9, ↓h1', ↓h2', h5, h6, ↓h7', hq]
      refine ⟨by first | exact .inl trivial | exact .inr trivial | simp, ?_⟩
      exact finish_is (ds := [bv true]) (x := .v (.bool true)) (y := .v (.bool true)) (l := []) rfl rfl rfl rfl (by first | rfl | (simp only [wk, wks, wkL]; first | done | rfl))
     | ret r21 =>
      obtain ⟨rfl, hq⟩ := hq
      obtain rfl := Option.some.inj h
      simp (maxSteps := 10000000) (implicitDefEqProofs := false) (disch := first | assumption | omega | exact rfl | exact im_ _) only [bs, rs15, ls15, Nat.reduceAdd, ↓reduceIte, binD_neq_str, lenD_lst u27, loadD_iagg a29 z29, loadD_ptr a22, loadD_ptr a27, loadD_ptr a3, loadD_ptr a9]
      exact ⟨by first | exact .inl trivial | exact .inr trivial | simp, hq⟩
    ·rw [if_neg h7] at h
     have h7' : decide ((x0.Kids.length : Int) = (x1.Kids.length : Int)) = false := decide_eq_false h7
     obtain rfl := Option.some.inj h
     simp (maxSteps := 10000000) (implicitDefEqProofs := false) (disch := first | assumption | omega | exact rfl | exact im_ _) only [bs, rs15, ls15, Nat.reduceAdd, ↓reduceIte, binD_neq_str, lenD_lst u27, loadD_iagg a29 z29, loadD_ptr a22, loadD_ptr a27, loadD_ptr a3, loadD_ptr a9, ↓h1', ↓h2', h5, h6, ↓h7']
     refine ⟨by first | exact .inl trivial | exact .inr trivial | simp, ?_⟩
     exact finish_is (ds := [bv false]) (x := .v (.bool false)) (y := .v (.bool false)) (l := []) rfl rfl rfl rfl (by first | rfl | (simp only [wk, wks, wkL]; first | done | rfl))
   ·rw [if_neg h6] at h
    replace h6 := Bool.eq_false_iff.2 h6
    obtain rfl := Option.some.inj h
    simp (maxSteps := 10000000) (implicitDefEqProofs := false) (disch := first | assumption | omega | exact rfl | exact im_ _) only [bs, rs15, ls15, Nat.reduceAdd, ↓reduceIte, binD_neq_str, lenD_lst u27, loadD_iagg a29 z29, loadD_ptr a22, loadD_ptr a27, loadD_ptr a3, loadD_ptr a9, ↓h1', ↓h2', h5, h6]
    refine ⟨by first | exact .inl trivial | exact .inr trivial | simp, ?_⟩
    exact finish_is (ds := [bv false]) (x := .v (.bool false)) (y := .v (.bool false)) (l := []) rfl rfl rfl rfl (by first | rfl | (simp only [wk, wks, wkL]; first | done | rfl))
  ·rw [if_neg h2] at h
   have h2' : decide (x0.Text = x1.Text) = false := decide_eq_false h2
   obtain rfl := Option.some.inj h
   simp (maxSteps := 10000000) (implicitDefEqProofs := false) (disch := first | assumption | omega | exact rfl | exact im_ _) only [bs, rs15, ls15, Nat.reduceAdd, ↓reduceIte, binD_neq_str, lenD_lst u27, loadD_iagg a29 z29, loadD_ptr a22, loadD_ptr a27, loadD_ptr a3, loadD_ptr a9, ↓h1', ↓h2']
   refine ⟨by first | exact .inl trivial | exact .inr trivial | simp, ?_⟩
   exact finish_is (ds := [bv false]) (x := .v (.bool false)) (y := .v (.bool false)) (l := []) rfl rfl rfl rfl (by first | rfl | (simp only [wk, wks, wkL]; first | done | rfl))
 ·rw [if_neg h1] at h
  have h1' : decide (x0.Kind = x1.Kind) = false := decide_eq_false h1
  obtain rfl := Option.some.inj h
  simp (maxSteps := 10000000) (implicitDefEqProofs := false) (disch := first | assumption | omega | exact rfl | exact im_ _) only [bs, rs15, ls15, Nat.reduceAdd, ↓reduceIte, binD_neq_str, lenD_lst u27, loadD_iagg a29 z29, loadD_ptr a22, loadD_ptr a27, loadD_ptr a3, loadD_ptr a9, ↓h1']
  refine ⟨by first | exact .inl trivial | exact .inr trivial | simp, ?_⟩
  exact finish_is (ds := [bv false]) (x := .v (.bool false)) (y := .v (.bool false)) (l := []) rfl rfl rfl rfl (by first | rfl | (simp only [wk, wks, wkL]; first | done | rfl))
theorem f15_spec : ∀ (x0 : Node) (x1 : Node) r, R06_EqualS x0 x1 = some r → callW Tryd.prog A0 15 [.p (.agg [.v (.int .i64 x0.Kind), .v (.string x0.Text), .lst false x0.Gaps.length (encL en_str x0.Gaps), .lst false x0.Kids.length (encL en_Node x0.Kids)]), .p (.agg [.v (.int .i64 x1.Kind), .v (.string x1.Text), .lst false x1.Gaps.length (encL en_str x1.Gaps), .lst false x1.Kids.length (encL en_Node x1.Kids)])] [] = some (.p (.v (.bool r)), []) := by
  have key : ∀ n (x0 : Node) (x1 : Node) r, R06_EqualS_mu x0 x1 < n → R06_EqualS x0 x1 = some r → callW Tryd.prog A0 15 [.p (.agg [.v (.int .i64 x0.Kind), .v (.string x0.Text), .lst false x0.Gaps.length (encL en_str x0.Gaps), .lst false x0.Kids.length (encL en_Node x0.Kids)]), .p (.agg [.v (.int .i64 x1.Kind), .v (.string x1.Text), .lst false x1.Gaps.length (encL en_str x1.Gaps), .lst false x1.Kids.length (encL en_Node x1.Kids)])] [] = some (.p (.v (.bool r)), []) := by
    intro n
    induction n with
    | zero => intro x0 x1 r h; omega
    | succ n ih =>
      intro x0 x1 r hn h
      refine f15_ok (rec := fun x0' x1' => if R06_EqualS_mu x0' x1' < R06_EqualS_mu x0 x1 then R06_EqualS x0' x1' else none) ?_ x0 x1 r (R06_EqualS_body x0 x1 r h)
      intro x0' x1' r' h'
      by_cases hm : R06_EqualS_mu x0' x1' < R06_EqualS_mu x0 x1
      · rw [if_pos hm] at h'; exact ih x0' x1' r' (by omega) h'
      · rw [if_neg hm] at h'; cases h'
  intro x0 x1 r h
  exact key _ x0 x1 r (Nat.lt_succ_self _) h
theorem R06_Equal_call {b1 b2 b3 b4 : Bool} {H : List Ob} {x0 : Node} {x1 : Node} {r : Bool} (h : R06_EqualS x0 x1 = some r) : callD (callW Tryd.prog A0) A0 H 15 [.p (.agg [.v (.int .i64 x0.Kind), .v (.string x0.Text), .lst b1 x0.Gaps.length (encL en_str x0.Gaps), .lst b2 x0.Kids.length (encL en_Node x0.Kids)]), .p (.agg [.v (.int .i64 x1.Kind), .v (.string x1.Text), .lst b3 x1.Gaps.length (encL en_str x1.Gaps), .lst b4 x1.Kids.length (encL en_Node x1.Kids)])] = some (.p (.v (.bool r)), none) :=
  callD_fun (args := [.agg [.v (.int .i64 x0.Kind), .v (.string x0.Text), .lst b1 x0.Gaps.length (encL en_str x0.Gaps), .lst b2 x0.Kids.length (encL en_Node x0.Kids)], .agg [.v (.int .i64 x1.Kind), .v (.string x1.Text), .lst b3 x1.Gaps.length (encL en_str x1.Gaps), .lst b4 x1.Kids.length (encL en_Node x1.Kids)]]) rfl rfl rfl (by simp only [List.map_cons, List.map_nil, wk, wks, wkL]; exact f15_spec x0 x1 _ h)
def ls22 := And.intro @al_29 (And.intro @ap_27_27 (And.intro @bs_27_1 (And.intro @bu_29_0_1 (And.intro @faP_29_0 (And.intro @faP_29_1 (And.intro @faP_29_3 (And.intro @idxL_27 (And.intro @sa_4_0_4 (And.intro @sg_4_0_3_r (And.intro @sg_4_0_pppr (And.intro @varld_4_0_0 (And.intro @varld_4_0_1 (And.intro @varld_4_0_3 (@varlg_pppr))))))))))))))
theorem R06_Bare_rcall {rec : Node → Option Node} (hrec : ∀ x0 r, rec x0 = some r → callW Tryd.prog A0 22 [.p (.agg [.v (.int .i64 x0.Kind), .v (.string x0.Text), .lst false x0.Gaps.length (encL en_str x0.Gaps), .lst false x0.Kids.length (encL en_Node x0.Kids)])] [] = some (.p (.agg [.v (.int .i64 r.Kind), .v (.string r.Text), .lst false r.Gaps.length (encL en_str r.Gaps), .lst false r.Kids.length (encL en_Node r.Kids)]), [])) {b1 b2 : Bool} {H : List Ob} {x0 : Node} {r : Node} (h : rec x0 = some r) : callD (callW Tryd.prog A0) A0 H 22 [.p (.agg [.v (.int .i64 x0.Kind), .v (.string x0.Text), .lst b1 x0.Gaps.length (encL en_str x0.Gaps), .lst b2 x0.Kids.length (encL en_Node x0.Kids)])] = some (.p (.agg [.v (.int .i64 r.Kind), .v (.string r.Text), .lst false r.Gaps.length (encL en_str r.Gaps), .lst false r.Kids.length (encL en_Node r.Kids)]), none) :=
  callD_fun (args := [.agg [.v (.int .i64 x0.Kind), .v (.string x0.Text), .lst b1 x0.Gaps.length (encL en_str x0.Gaps), .lst b2 x0.Kids.length (encL en_Node x0.Kids)]]) rfl rfl rfl (by simp only [List.map_cons, List.map_nil, wk, wks, wkL]; exact hrec x0 _ h)
noncomputable def L22_0 : Code := (loopsOf (bodyOf Tryd.f22)).getD 0 .skip
def g22_0 : List Ghost := [.ownC 3 3 4, .keep [1, 2, 3, 4]]
def F22_0 (w0_0 : Int) (w0_1 : ByteArray) (w0_2 : (List ByteArray)) (w0_3 : (List Node)) (w1_0 : Int) (w1_1 : ByteArray) (w2_0 : Int) (w2_1 : ByteArray) : (Int × (List Node)) → St := fun (s4, y3) => ⟨[.junk, .ptr 0 0, .ptr 1 0, .ptr 2 0, iv s4, .junk, .junk, .junk, .junk, .junk, .junk, .junk, .junk, .junk, .junk, .junk, .junk, .junk, .junk, .junk, .junk, .junk, .junk, .junk, .junk, .junk, .junk, .junk, .junk], [.var [iv w0_0, .p (.v (.string w0_1)), .p (.lst false w0_2.length (encL en_str w0_2)), .p (.lst false w0_3.length (encL en_Node w0_3))], .var [iv w1_0, .p (.v (.string w1_1)), .p (.lst true 0 []), .p (.lst true 0 [])], .var [iv w2_0, .p (.v (.string w2_1)), .p (.lst true 0 []), .ref 3 0 y3.length 4], .arr (encL en_Node y3)], 0⟩
theorem L22_0_ok {rec : Node → Option Node} (hrec : ∀ x0 r, rec x0 = some r → callW Tryd.prog A0 22 [.p (.agg [.v (.int .i64 x0.Kind), .v (.string x0.Text), .lst false x0.Gaps.length (encL en_str x0.Gaps), .lst false x0.Kids.length (encL en_Node x0.Kids)])] [] = some (.p (.agg [.v (.int .i64 r.Kind), .v (.string r.Text), .lst false r.Gaps.length (encL en_str r.Gaps), .lst false r.Kids.length (encL en_Node r.Kids)]), [])) (w0_0 : Int) (w0_1 : ByteArray) (w0_2 : (List ByteArray)) (w0_3 : (List Node)) (w1_0 : Int) (w1_1 : ByteArray) (w2_0 : Int) (w2_1 : ByteArray) : ∀ s st o, ghostsD g22_0 st = some (F22_0 w0_0 w0_1 w0_2 w0_3 w1_0 w1_1 w2_0 w2_1 s) → iter (R06_Bare_L0 rec w0_0 w0_1 w0_2 w0_3 w1_0 w1_1 w2_0 w2_1) s = some o →
    Wp (evW Tryd.prog A0 22 (.loop L22_0) st) (OutQ (F22_0 w0_0 w0_1 w0_2 w0_3 w1_0 w1_1 w2_0 w2_1) g22_0 (fun n s st => n = 0 ∧ ghostsD [.keep [1, 2, 3, 4]] st = some (F22_0 w0_0 w0_1 w0_2 w0_3 w1_0 w1_1 w2_0 w2_1 s)) (fun r st => finishD Tryd.prog A0 22 Tryd.f22 st = some (.p (.agg [.v (.int .i64 r.Kind), .v (.string r.Text), .lst false r.Gaps.length (encL en_str r.Gaps), .lst false r.Kids.length (encL en_Node r.Kids)]), [])) o) := by
 refine Wp.iter ?_
 intro s st o hg h
 obtain ⟨s4, y3⟩ := s
 unfold R06_Bare_L0 at h
 unfold g22_0 F22_0 at hg ⊢
 (try simp only [] at h hg)
 unfold L22_0 bodyOf Tryd.f22; simp only [Option.getD_some, loopsOf, List.append_nil, List.nil_append, List.cons_append, List.getD_cons_zero, List.getD_cons_succ]
 by_cases h1 : s4 < (w0_3.length : Int)
 ·rw [if_pos h1] at h
  have h1' : decide (s4 < (w0_3.length : Int)) = true := decide_eq_true h1
  obtain ⟨v2, h3, h⟩ := bsm h
  obtain ⟨h3a, h3b, _⟩ := rd_some h3
  have h4 := lk_frz_29 h3
  obtain ⟨r5, h6, h⟩ := bsm h
  have h7 : ∀ H, callD (callW Tryd.prog A0) A0 H 22 [.p (.agg [.v (.int .i64 v2.Kind), .v (.string v2.Text), .lst false v2.Gaps.length (encL en_str v2.Gaps), .lst false v2.Kids.length (encL en_Node v2.Kids)])] = some (.p (.agg [.v (.int .i64 r5.Kind), .v (.string r5.Text), .lst false r5.Gaps.length (encL en_str r5.Gaps), .lst false r5.Kids.length (encL en_Node r5.Kids)]), none) := fun H => R06_Bare_rcall hrec h6
  by_cases hw_ : (y3.length + 1) * 72 ≤ 140737488355328
  case neg => rw [if_neg hw_] at h; cases h
  rw [if_pos hw_] at h
  have h9 := hw_
  have h8 : ∀ (H : List Ob) (id : Nat), apOb H id 0 y3.length 1 4 4 72 [.v (.int .i64 r5.Kind), .v (.string r5.Text), .lst false r5.Gaps.length (encL en_str r5.Gaps), .lst false r5.Kids.length (encL en_Node r5.Kids)] (some (.arr (encL en_Node y3))) = some (.ref H.length 0 (y3 ++ [r5]).length 4, H.set id .dead ++ [.arr (encL en_Node (y3 ++ [r5]))]) := fun H id => ap_enc (y := [r5]) en_Node_len (by first | rfl | omega) rfl (by first | (simp only [encL_cons, encL_nil, en_Node_eq, List.cons_append, List.nil_append]; done) | (simp only [encL_cons, encL_nil, en_Node_eq, List.cons_append, List.nil_append]; rfl) | rfl) (by assumption)
  obtain rfl := Option.some.inj h
  simp (maxSteps := 10000000) (implicitDefEqProofs := false) (disch := first | assumption | omega | exact rfl | exact im_ _) only [bs, rs22, ls22, Nat.reduceAdd, ↓reduceIte, lenD_lst u27, loadD_iagg a29 z29, loadD_pagg a29 z29, loadD_ptr a27, loadD_ptr a3, loadD_ptr a9, storeD_agg z29, storeD_gagg z29, storeD_gref z27, wksL_en_Node, wksL_en_str, wks_nil_, hg, ↓h1', h4, h7, h8]
  exact ⟨rfl, by kernel_rfl⟩
 ·rw [if_neg h1] at h
  have h1' : decide (s4 < (w0_3.length : Int)) = false := decide_eq_false h1
  obtain rfl := Option.some.inj h
  simp (maxSteps := 10000000) (implicitDefEqProofs := false) (disch := first | assumption | omega | exact rfl | exact im_ _) only [bs, rs22, ls22, Nat.reduceAdd, ↓reduceIte, lenD_lst u27, loadD_iagg a29 z29, loadD_pagg a29 z29, loadD_ptr a27, loadD_ptr a3, loadD_ptr a9, storeD_agg z29, storeD_gagg z29, storeD_gref z27, wksL_en_Node, wksL_en_str, wks_nil_, hg, ↓h1']
  exact ⟨rfl, rfl, by kernel_rfl⟩
theorem f22_ok {rec : Node → Option Node} (hrec : ∀ x0 r, rec x0 = some r → callW Tryd.prog A0 22 [.p (.agg [.v (.int .i64 x0.Kind), .v (.string x0.Text), .lst false x0.Gaps.length (encL en_str x0.Gaps), .lst false x0.Kids.length (encL en_Node x0.Kids)])] [] = some (.p (.agg [.v (.int .i64 r.Kind), .v (.string r.Text), .lst false r.Gaps.length (encL en_str r.Gaps), .lst false r.Kids.length (encL en_Node r.Kids)]), []))  (x0 : Node) (r : Node) (h : R06_Bare.body rec x0 = some r) : callW Tryd.prog A0 22 [.p (.agg [.v (.int .i64 x0.Kind), .v (.string x0.Text), .lst false x0.Gaps.length (encL en_str x0.Gaps), .lst false x0.Kids.length (encL en_Node x0.Kids)])] [] = some (.p (.agg [.v (.int .i64 r.Kind), .v (.string r.Text), .lst false r.Gaps.length (encL en_str r.Gaps), .lst false r.Kids.length (encL en_Node r.Kids)]), []) := by
 refine call_ofH (fn := Tryd.f22) (c := bodyOf Tryd.f22) rfl rfl (by kernel_rfl) (by kernel_rfl) ?_
 rw [show initS Tryd.f22 [.p (.agg [.v (.int .i64 x0.Kind), .v (.string x0.Text), .lst false x0.Gaps.length (encL en_str x0.Gaps), .lst false x0.Kids.length (encL en_Node x0.Kids)])] [] = ⟨.p (.agg [.v (.int .i64 x0.Kind), .v (.string x0.Text), .lst false x0.Gaps.length (encL en_str x0.Gaps), .lst false x0.Kids.length (encL en_Node x0.Kids)]) :: List.replicate 28 undefD, [], 0⟩ from by kernel_rfl]
 unfold R06_Bare.body at h
 unfold bodyOf Tryd.f22; simp only [Option.getD_some, loopsOf, List.append_nil, List.nil_append, List.cons_append, List.getD_cons_zero, List.getD_cons_succ]
 simp only [List.replicate]
 obtain ⟨o, h10, h⟩ := bsm h
 simp (maxSteps := 10000000) (implicitDefEqProofs := false) (disch := first | assumption | omega | exact rfl | exact im_ _) only [bs, rs22, ls22, Nat.reduceAdd, ↓reduceIte, lenD_lst u27, loadD_iagg a29 z29, loadD_pagg a29 z29, loadD_ptr a27, loadD_ptr a3, loadD_ptr a9, storeD_agg z29, storeD_gagg z29, storeD_gref z27, wksL_en_Node, wksL_en_str, wks_nil_]
 refine Wp.ctx (fun x => seqW _ _ _ _ (blockW _ (x))) (L22_0_ok hrec x0.Kind x0.Text x0.Gaps x0.Kids (0 : Int) ByteArray.empty x0.Kind x0.Text ((0 : Int), ([] : List Node)) _ o (by kernel_rfl) h10) ?_
 intro e st hq
 cases o with
 | next _ => (first | cases h | (simp at h))
 | jmp n_ s_ =>
  obtain ⟨rfl, rfl, hq⟩ := hq
  obtain ⟨s4_11, y3_11⟩ := s_
  unfold F22_0 at hq
  (try simp only [] at h hq)
  obtain rfl := Option.some.inj h
  simp (maxSteps := 10000000) (implicitDefEqProofs := false) (disch := first | assumption | omega | exact rfl | exact im_ _) only [bs, rs22, ls22, Nat.reduceAdd, ↓reduceIte, lenD_lst u27, loadD_iagg a29 z29, loadD_pagg a29 z29, loadD_ptr a27, loadD_ptr a3, loadD_ptr a9, storeD_agg z29, storeD_gagg z29, storeD_gref z27, wksL_en_Node, wksL_en_str, wks_nil_, hq]
  refine ⟨by first | exact .inl trivial | exact .inr trivial | simp, ?_⟩
  exact finish_is (ds := [.agg [iv x0.Kind, .p (.v (.string x0.Text)), .p (.lst true 0 []), .ref 3 0 y3_11.length 4]]) (x := .agg [.v (.int .i64 x0.Kind), .v (.string x0.Text), .lst true 0 [], .lst false y3_11.length (encL en_Node y3_11)]) (y := .agg [.v (.int .i64 x0.Kind), .v (.string x0.Text), .lst false ([] : List ByteArray).length (encL en_str ([] : List ByteArray)), .lst false y3_11.length (encL en_Node y3_11)]) (l := [3]) rfl rfl (by kernel_rfl) (purify1_agg (purifys_pc (purifys_pc (purifys_pc (purifys_rc en_Node_len rfl (by first | rfl | omega) purifys_nil))))) (by first | rfl | (simp only [wk, wks, wkL]; first | done | rfl))
 | ret _ => (first | cases h | (simp at h))
theorem f22_spec : ∀ (x0 : Node) r, R06_BareS x0 = some r → callW Tryd.prog A0 22 [.p (.agg [.v (.int .i64 x0.Kind), .v (.string x0.Text), .lst false x0.Gaps.length (encL en_str x0.Gaps), .lst false x0.Kids.length (encL en_Node x0.Kids)])] [] = some (.p (.agg [.v (.int .i64 r.Kind), .v (.string r.Text), .lst false r.Gaps.length (encL en_str r.Gaps), .lst false r.Kids.length (encL en_Node r.Kids)]), []) := by
  have key : ∀ n (x0 : Node) r, R06_BareS_mu x0 < n → R06_BareS x0 = some r → callW Tryd.prog A0 22 [.p (.agg [.v (.int .i64 x0.Kind), .v (.string x0.Text), .lst false x0.Gaps.length (encL en_str x0.Gaps), .lst false x0.Kids.length (encL en_Node x0.Kids)])] [] = some (.p (.agg [.v (.int .i64 r.Kind), .v (.string r.Text), .lst false r.Gaps.length (encL en_str r.Gaps), .lst false r.Kids.length (encL en_Node r.Kids)]), []) := by
    intro n
    induction n with
    | zero => intro x0 r h; omega
    | succ n ih =>
      intro x0 r hn h
      refine f22_ok (rec := fun x0' => if R06_BareS_mu x0' < R06_BareS_mu x0 then R06_BareS x0' else none) ?_ x0 r (R06_BareS_body x0 r h)
      intro x0' r' h'
      by_cases hm : R06_BareS_mu x0' < R06_BareS_mu x0
      · rw [if_pos hm] at h'; exact ih x0' r' (by omega) h'
      · rw [if_neg hm] at h'; cases h'
  intro x0 r h
  exact key _ x0 r (Nat.lt_succ_self _) h
theorem R06_Bare_call {b1 b2 : Bool} {H : List Ob} {x0 : Node} {r : Node} (h : R06_BareS x0 = some r) : callD (callW Tryd.prog A0) A0 H 22 [.p (.agg [.v (.int .i64 x0.Kind), .v (.string x0.Text), .lst b1 x0.Gaps.length (encL en_str x0.Gaps), .lst b2 x0.Kids.length (encL en_Node x0.Kids)])] = some (.p (.agg [.v (.int .i64 r.Kind), .v (.string r.Text), .lst false r.Gaps.length (encL en_str r.Gaps), .lst false r.Kids.length (encL en_Node r.Kids)]), none) :=
  callD_fun (args := [.agg [.v (.int .i64 x0.Kind), .v (.string x0.Text), .lst b1 x0.Gaps.length (encL en_str x0.Gaps), .lst b2 x0.Kids.length (encL en_Node x0.Kids)]]) rfl rfl rfl (by simp only [List.map_cons, List.map_nil, wk, wks, wkL]; exact f22_spec x0 _ h)
theorem f60_ok  (x0 : Int) (r : Int) (h : R07_most x0 = some r) : callW Tryd.prog A0 60 [iv x0] [] = some (.p (.v (.int .i64 r)), []) := by
 refine call_ofH (fn := Tryd.f60) (c := bodyOf Tryd.f60) rfl rfl (by kernel_rfl) (by kernel_rfl) ?_
 rw [show initS Tryd.f60 [iv x0] [] = ⟨iv x0 :: List.replicate 8 undefD, [], 0⟩ from by kernel_rfl]
 unfold R07_most at h
 unfold bodyOf Tryd.f60; simp only [Option.getD_some, loopsOf, List.append_nil, List.nil_append, List.cons_append, List.getD_cons_zero, List.getD_cons_succ]
 simp only [List.replicate]
 by_cases h1 : x0 = (3 : Int)
 ·rw [if_pos h1] at h
  have h1' : decide (x0 = (3 : Int)) = true := decide_eq_true h1
  obtain rfl := Option.some.inj h
  simp (maxSteps := 10000000) (implicitDefEqProofs := false) (disch := first | assumption | omega | exact rfl | exact im_ _) only [bs, rs60, Nat.reduceAdd, ↓reduceIte, ↓h1']
  refine ⟨by first | exact .inl trivial | exact .inr trivial | simp, ?_⟩
  exact finish_is (ds := [iv (16 : Int)]) (x := .v (.int .i64 (16 : Int))) (y := .v (.int .i64 (16 : Int))) (l := []) rfl rfl rfl rfl (by first | rfl | (simp only [wk, wks, wkL]; first | done | rfl))
 ·rw [if_neg h1] at h
  have h1' : decide (x0 = (3 : Int)) = false := decide_eq_false h1
  by_cases h2 : x0 = (20 : Int)
  ·rw [if_pos h2] at h
   have h2' : decide (x0 = (20 : Int)) = true := decide_eq_true h2
   obtain rfl := Option.some.inj h
   simp (maxSteps := 10000000) (implicitDefEqProofs := false) (disch := first | assumption | omega | exact rfl | exact im_ _) only [bs, rs60, Nat.reduceAdd, ↓reduceIte, ↓h1', ↓h2']
   refine ⟨by first | exact .inl trivial | exact .inr trivial | simp, ?_⟩
   exact finish_is (ds := [iv (16 : Int)]) (x := .v (.int .i64 (16 : Int))) (y := .v (.int .i64 (16 : Int))) (l := []) rfl rfl rfl rfl (by first | rfl | (simp only [wk, wks, wkL]; first | done | rfl))
  ·rw [if_neg h2] at h
   have h2' : decide (x0 = (20 : Int)) = false := decide_eq_false h2
   by_cases h3 : x0 = (21 : Int)
   ·rw [if_pos h3] at h
    have h3' : decide (x0 = (21 : Int)) = true := decide_eq_true h3
    obtain rfl := Option.some.inj h
    simp (maxSteps := 10000000) (implicitDefEqProofs := false) (disch := first | assumption | omega | exact rfl | exact im_ _) only [bs, rs60, Nat.reduceAdd, ↓reduceIte, ↓h1', ↓h2', ↓h3']
    refine ⟨by first | exact .inl trivial | exact .inr trivial | simp, ?_⟩
    exact finish_is (ds := [iv (17 : Int)]) (x := .v (.int .i64 (17 : Int))) (y := .v (.int .i64 (17 : Int))) (l := []) rfl rfl rfl rfl (by first | rfl | (simp only [wk, wks, wkL]; first | done | rfl))
   ·rw [if_neg h3] at h
    have h3' : decide (x0 = (21 : Int)) = false := decide_eq_false h3
    obtain rfl := Option.some.inj h
    simp (maxSteps := 10000000) (implicitDefEqProofs := false) (disch := first | assumption | omega | exact rfl | exact im_ _) only [bs, rs60, Nat.reduceAdd, ↓reduceIte, ↓h1', ↓h2', ↓h3']
    refine ⟨by first | exact .inl trivial | exact .inr trivial | simp, ?_⟩
    exact finish_is (ds := [iv (200 : Int)]) (x := .v (.int .i64 (200 : Int))) (y := .v (.int .i64 (200 : Int))) (l := []) rfl rfl rfl rfl (by first | rfl | (simp only [wk, wks, wkL]; first | done | rfl))
theorem R07_most_call {H : List Ob} {x0 : Int} {r : Int} (h : R07_most x0 = some r) : callD (callW Tryd.prog A0) A0 H 60 [iv x0] = some (.p (.v (.int .i64 r)), none) :=
  callD_fun (args := [.v (.int .i64 x0)]) rfl rfl rfl (by simp only [List.map_cons, List.map_nil, wk, wks, wkL]; exact f60_ok x0 _ h)
def ls44 := And.intro @faP_29_0 (And.intro @faP_29_3 (And.intro @idxL_27 (And.intro @varld_4_0_0 (@varld_4_0_3))))
theorem R07_size_rcall {rec : Node → Int → Option Int} (hrec : ∀ x0 x1 r, rec x0 x1 = some r → callW Tryd.prog A0 44 [.p (.agg [.v (.int .i64 x0.Kind), .v (.string x0.Text), .lst false x0.Gaps.length (encL en_str x0.Gaps), .lst false x0.Kids.length (encL en_Node x0.Kids)]), iv x1] [] = some (.p (.v (.int .i64 r)), [])) {b1 b2 : Bool} {H : List Ob} {x0 : Node} {x1 : Int} {r : Int} (h : rec x0 x1 = some r) : callD (callW Tryd.prog A0) A0 H 44 [.p (.agg [.v (.int .i64 x0.Kind), .v (.string x0.Text), .lst b1 x0.Gaps.length (encL en_str x0.Gaps), .lst b2 x0.Kids.length (encL en_Node x0.Kids)]), iv x1] = some (.p (.v (.int .i64 r)), none) :=
  callD_fun (args := [.agg [.v (.int .i64 x0.Kind), .v (.string x0.Text), .lst b1 x0.Gaps.length (encL en_str x0.Gaps), .lst b2 x0.Kids.length (encL en_Node x0.Kids)], .v (.int .i64 x1)]) rfl rfl rfl (by simp only [List.map_cons, List.map_nil, wk, wks, wkL]; exact hrec x0 x1 _ h)
noncomputable def L44_0 : Code := (loopsOf (bodyOf Tryd.f44)).getD 0 .skip
def g44_0 : List Ghost := [.keep [1, 2, 5, 6]]
def F44_0 (s1 : Int) (w0_0 : Int) (w0_1 : ByteArray) (w0_2 : (List ByteArray)) (w0_3 : (List Node)) : (Int × Int) → St := fun (s5, s6) => ⟨[.junk, iv s1, .ptr 0 0, .junk, .junk, iv s5, iv s6, .junk, .junk, .junk, .junk, .junk, .junk, .junk, .junk, .junk, .junk, .junk, .junk, .junk, .junk, .junk, .junk, .junk, .junk, .junk, .junk, .junk, .junk, .junk, .junk, .junk, .junk, .junk, .junk, .junk, .junk, .junk, .junk, .junk, .junk], [.var [iv w0_0, .p (.v (.string w0_1)), .p (.lst false w0_2.length (encL en_str w0_2)), .p (.lst false w0_3.length (encL en_Node w0_3))]], 0⟩
theorem L44_0_ok {rec : Node → Int → Option Int} (hrec : ∀ x0 x1 r, rec x0 x1 = some r → callW Tryd.prog A0 44 [.p (.agg [.v (.int .i64 x0.Kind), .v (.string x0.Text), .lst false x0.Gaps.length (encL en_str x0.Gaps), .lst false x0.Kids.length (encL en_Node x0.Kids)]), iv x1] [] = some (.p (.v (.int .i64 r)), [])) (s1 : Int) (w0_0 : Int) (w0_1 : ByteArray) (w0_2 : (List ByteArray)) (w0_3 : (List Node)) : ∀ s st o, ghostsD g44_0 st = some (F44_0 s1 w0_0 w0_1 w0_2 w0_3 s) → iter (R07_size_L0 rec s1 w0_0 w0_1 w0_2 w0_3) s = some o →
    Wp (evW Tryd.prog A0 44 (.loop L44_0) st) (OutQ (F44_0 s1 w0_0 w0_1 w0_2 w0_3) g44_0 (fun n s st => n = 0 ∧ ghostsD [.keep [1, 2, 5, 6]] st = some (F44_0 s1 w0_0 w0_1 w0_2 w0_3 s)) (fun r st => finishD Tryd.prog A0 44 Tryd.f44 st = some (.p (.v (.int .i64 r)), [])) o) := by
 refine Wp.iter ?_
 intro s st o hg h
 obtain ⟨s5, s6⟩ := s
 unfold R07_size_L0 at h
 unfold g44_0 F44_0 at hg ⊢
 (try simp only [] at h hg)
 unfold L44_0 bodyOf Tryd.f44; simp only [Option.getD_some, loopsOf, List.append_nil, List.nil_append, List.cons_append, List.getD_cons_zero, List.getD_cons_succ]
 by_cases h6 : s6 < (w0_3.length : Int)
 ·rw [if_pos h6] at h
  have h6' : decide (s6 < (w0_3.length : Int)) = true := decide_eq_true h6
  by_cases h7 : s5 ≤ (4000 : Int)
  ·rw [if_pos h7] at h
   have h7' : decide (s5 ≤ (4000 : Int)) = true := decide_eq_true h7
   obtain ⟨v8, h9, h⟩ := bsm h
   obtain ⟨h9a, h9b, _⟩ := rd_some h9
   have h10 := lk_frz_29 h9
   obtain ⟨r11, h12, h⟩ := bsm h
   have h13 : ∀ H, callD (callW Tryd.prog A0) A0 H 44 [.p (.agg [.v (.int .i64 v8.Kind), .v (.string v8.Text), .lst false v8.Gaps.length (encL en_str v8.Gaps), .lst false v8.Kids.length (encL en_Node v8.Kids)]), iv (w64 (s1 + (1 : Int)))] = some (.p (.v (.int .i64 r11)), none) := fun H => R07_size_rcall hrec h12
   obtain rfl := Option.some.inj h
   simp (maxSteps := 10000000) (implicitDefEqProofs := false) (disch := first | assumption | omega | exact rfl | exact im_ _) only [bs, rs44, ls44, Nat.reduceAdd, ↓reduceIte, lenD_lst u27, loadD_iagg a29 z29, loadD_ptr a27, loadD_ptr a3, minD_int, hg, ↓h6', ↓h7', h10, h13]
   exact ⟨rfl, by kernel_rfl⟩
  ·rw [if_neg h7] at h
   have h7' : decide (s5 ≤ (4000 : Int)) = false := decide_eq_false h7
   obtain rfl := Option.some.inj h
   simp (maxSteps := 10000000) (implicitDefEqProofs := false) (disch := first | assumption | omega | exact rfl | exact im_ _) only [bs, rs44, ls44, Nat.reduceAdd, ↓reduceIte, lenD_lst u27, loadD_iagg a29 z29, loadD_ptr a27, loadD_ptr a3, minD_int, hg, ↓h6', ↓h7']
   exact ⟨rfl, rfl, by kernel_rfl⟩
 ·rw [if_neg h6] at h
  have h6' : decide (s6 < (w0_3.length : Int)) = false := decide_eq_false h6
  obtain rfl := Option.some.inj h
  simp (maxSteps := 10000000) (implicitDefEqProofs := false) (disch := first | assumption | omega | exact rfl | exact im_ _) only [bs, rs44, ls44, Nat.reduceAdd, ↓reduceIte, lenD_lst u27, loadD_iagg a29 z29, loadD_ptr a27, loadD_ptr a3, minD_int, hg, ↓h6']
  exact ⟨rfl, rfl, by kernel_rfl⟩
theorem f44_ok {rec : Node → Int → Option Int} (hrec : ∀ x0 x1 r, rec x0 x1 = some r → callW Tryd.prog A0 44 [.p (.agg [.v (.int .i64 x0.Kind), .v (.string x0.Text), .lst false x0.Gaps.length (encL en_str x0.Gaps), .lst false x0.Kids.length (encL en_Node x0.Kids)]), iv x1] [] = some (.p (.v (.int .i64 r)), []))  (x0 : Node) (x1 : Int) (r : Int) (h : R07_size.body rec x0 x1 = some r) : callW Tryd.prog A0 44 [.p (.agg [.v (.int .i64 x0.Kind), .v (.string x0.Text), .lst false x0.Gaps.length (encL en_str x0.Gaps), .lst false x0.Kids.length (encL en_Node x0.Kids)]), iv x1] [] = some (.p (.v (.int .i64 r)), []) := by
 refine call_ofH (fn := Tryd.f44) (c := bodyOf Tryd.f44) rfl rfl (by kernel_rfl) (by kernel_rfl) ?_
 rw [show initS Tryd.f44 [.p (.agg [.v (.int .i64 x0.Kind), .v (.string x0.Text), .lst false x0.Gaps.length (encL en_str x0.Gaps), .lst false x0.Kids.length (encL en_Node x0.Kids)]), iv x1] [] = ⟨.p (.agg [.v (.int .i64 x0.Kind), .v (.string x0.Text), .lst false x0.Gaps.length (encL en_str x0.Gaps), .lst false x0.Kids.length (encL en_Node x0.Kids)]) :: iv x1 :: List.replicate 39 undefD, [], 0⟩ from by kernel_rfl]
 unfold R07_size.body at h
 unfold bodyOf Tryd.f44; simp only [Option.getD_some, loopsOf, List.append_nil, List.nil_append, List.cons_append, List.getD_cons_zero, List.getD_cons_succ]
 simp only [List.replicate]
 by_cases h1 : (60 : Int) < x1
 ·rw [if_pos h1] at h
  have h1' : decide ((60 : Int) < x1) = true := decide_eq_true h1
  obtain rfl := Option.some.inj h
  simp (maxSteps := 10000000) (implicitDefEqProofs := false) (disch := first | assumption | omega | exact rfl | exact im_ _) only [bs, rs44, ls44, Nat.reduceAdd, ↓reduceIte, lenD_lst u27, loadD_iagg a29 z29, loadD_ptr a27, loadD_ptr a3, minD_int, ↓h1']
  refine ⟨by first | exact .inl trivial | exact .inr trivial | simp, ?_⟩
  exact finish_is (ds := [iv (4001 : Int)]) (x := .v (.int .i64 (4001 : Int))) (y := .v (.int .i64 (4001 : Int))) (l := []) rfl rfl rfl rfl (by first | rfl | (simp only [wk, wks, wkL]; first | done | rfl))
 ·rw [if_neg h1] at h
  have h1' : decide ((60 : Int) < x1) = false := decide_eq_false h1
  obtain ⟨r2, h3, h⟩ := bsm h
  have h4 : ∀ H, callD (callW Tryd.prog A0) A0 H 60 [iv x0.Kind] = some (.p (.v (.int .i64 r2)), none) := fun H => R07_most_call h3
  by_cases h5 : r2 < (x0.Kids.length : Int)
  ·rw [if_pos h5] at h
   have h5' : decide (r2 < (x0.Kids.length : Int)) = true := decide_eq_true h5
   obtain rfl := Option.some.inj h
   simp (maxSteps := 10000000) (implicitDefEqProofs := false) (disch := first | assumption | omega | exact rfl | exact im_ _) only [bs, rs44, ls44, Nat.reduceAdd, ↓reduceIte, lenD_lst u27, loadD_iagg a29 z29, loadD_ptr a27, loadD_ptr a3, minD_int, ↓h1', h4, ↓h5']
   refine ⟨by first | exact .inl trivial | exact .inr trivial | simp, ?_⟩
   exact finish_is (ds := [iv (4001 : Int)]) (x := .v (.int .i64 (4001 : Int))) (y := .v (.int .i64 (4001 : Int))) (l := []) rfl rfl rfl rfl (by first | rfl | (simp only [wk, wks, wkL]; first | done | rfl))
  ·rw [if_neg h5] at h
   have h5' : decide (r2 < (x0.Kids.length : Int)) = false := decide_eq_false h5
   obtain ⟨o, h14, h⟩ := bsm h
   simp (maxSteps := 10000000) (implicitDefEqProofs := false) (disch := first | assumption | omega | exact rfl | exact im_ _) only [bs, rs44, ls44, Nat.reduceAdd, ↓reduceIte, lenD_lst u27, loadD_iagg a29 z29, loadD_ptr a27, loadD_ptr a3, minD_int, ↓h1', h4, ↓h5']
   refine Wp.ctx (fun x => seqW _ _ _ _ (blockW _ (x))) (L44_0_ok hrec x1 x0.Kind x0.Text x0.Gaps x0.Kids ((1 : Int), (0 : Int)) _ o (by kernel_rfl) h14) ?_
   intro e st hq
   cases o with
   | next _ => (first | cases h | (simp at h))
   | jmp n_ s_ =>
    obtain ⟨rfl, rfl, hq⟩ := hq
    obtain ⟨s5_15, s6_15⟩ := s_
    unfold F44_0 at hq
    (try simp only [] at h hq)
    obtain rfl := Option.some.inj h
    simp (maxSteps := 10000000) (implicitDefEqProofs := false) (disch := first | assumption | omega | exact rfl | exact im_ _) only [bs, rs44, ls44, Nat.reduceAdd, ↓reduceIte, lenD_lst u27, loadD_iagg a29 z29, loadD_ptr a27, loadD_ptr a3, minD_int, ↓h1', h4, ↓h5', hq]
    refine ⟨by first | exact .inl trivial | exact .inr trivial | simp, ?_⟩
    exact finish_is (ds := [iv (min s5_15 (4001 : Int))]) (x := .v (.int .i64 (min s5_15 (4001 : Int)))) (y := .v (.int .i64 (min s5_15 (4001 : Int)))) (l := []) rfl rfl rfl rfl (by first | rfl | (simp only [wk, wks, wkL]; first | done | rfl))
   | ret _ => (first | cases h | (simp at h))
theorem f44_spec : ∀ (x0 : Node) (x1 : Int) r, R07_sizeS x0 x1 = some r → callW Tryd.prog A0 44 [.p (.agg [.v (.int .i64 x0.Kind), .v (.string x0.Text), .lst false x0.Gaps.length (encL en_str x0.Gaps), .lst false x0.Kids.length (encL en_Node x0.Kids)]), iv x1] [] = some (.p (.v (.int .i64 r)), []) := by
  have key : ∀ n (x0 : Node) (x1 : Int) r, R07_sizeS_mu x0 x1 < n → R07_sizeS x0 x1 = some r → callW Tryd.prog A0 44 [.p (.agg [.v (.int .i64 x0.Kind), .v (.string x0.Text), .lst false x0.Gaps.length (encL en_str x0.Gaps), .lst false x0.Kids.length (encL en_Node x0.Kids)]), iv x1] [] = some (.p (.v (.int .i64 r)), []) := by
    intro n
    induction n with
    | zero => intro x0 x1 r h; omega
    | succ n ih =>
      intro x0 x1 r hn h
      refine f44_ok (rec := fun x0' x1' => if R07_sizeS_mu x0' x1' < R07_sizeS_mu x0 x1 then R07_sizeS x0' x1' else none) ?_ x0 x1 r (R07_sizeS_body x0 x1 r h)
      intro x0' x1' r' h'
      by_cases hm : R07_sizeS_mu x0' x1' < R07_sizeS_mu x0 x1
      · rw [if_pos hm] at h'; exact ih x0' x1' r' (by omega) h'
      · rw [if_neg hm] at h'; cases h'
  intro x0 x1 r h
  exact key _ x0 x1 r (Nat.lt_succ_self _) h
theorem R07_size_call {b1 b2 : Bool} {H : List Ob} {x0 : Node} {x1 : Int} {r : Int} (h : R07_sizeS x0 x1 = some r) : callD (callW Tryd.prog A0) A0 H 44 [.p (.agg [.v (.int .i64 x0.Kind), .v (.string x0.Text), .lst b1 x0.Gaps.length (encL en_str x0.Gaps), .lst b2 x0.Kids.length (encL en_Node x0.Kids)]), iv x1] = some (.p (.v (.int .i64 r)), none) :=
  callD_fun (args := [.agg [.v (.int .i64 x0.Kind), .v (.string x0.Text), .lst b1 x0.Gaps.length (encL en_str x0.Gaps), .lst b2 x0.Kids.length (encL en_Node x0.Kids)], .v (.int .i64 x1)]) rfl rfl rfl (by simp only [List.map_cons, List.map_nil, wk, wks, wkL]; exact f44_spec x0 x1 _ h)
theorem f82_ok  (x0 : Int) (r : Int) (h : R07_least x0 = some r) : callW Tryd.prog A0 82 [iv x0] [] = some (.p (.v (.int .i64 r)), []) := by
 refine call_ofH (fn := Tryd.f82) (c := bodyOf Tryd.f82) rfl rfl (by kernel_rfl) (by kernel_rfl) ?_
 rw [show initS Tryd.f82 [iv x0] [] = ⟨iv x0 :: List.replicate 20 undefD, [], 0⟩ from by kernel_rfl]
 unfold R07_least at h
 unfold bodyOf Tryd.f82; simp only [Option.getD_some, loopsOf, List.append_nil, List.nil_append, List.cons_append, List.getD_cons_zero, List.getD_cons_succ]
 simp only [List.replicate]
 by_cases h1 : x0 = (2 : Int)
 ·rw [if_pos h1] at h
  have h1' : decide (x0 = (2 : Int)) = true := decide_eq_true h1
  obtain rfl := Option.some.inj h
  simp (maxSteps := 10000000) (implicitDefEqProofs := false) (disch := first | assumption | omega | exact rfl | exact im_ _) only [bs, rs82, Nat.reduceAdd, ↓reduceIte, ↓h1']
  refine ⟨by first | exact .inl trivial | exact .inr trivial | simp, ?_⟩
  exact finish_is (ds := [iv (3 : Int)]) (x := .v (.int .i64 (3 : Int))) (y := .v (.int .i64 (3 : Int))) (l := []) rfl rfl rfl rfl (by first | rfl | (simp only [wk, wks, wkL]; first | done | rfl))
 ·rw [if_neg h1] at h
  have h1' : decide (x0 = (2 : Int)) = false := decide_eq_false h1
  by_cases h2 : x0 = (13 : Int)
  ·rw [if_pos h2] at h
   have h2' : decide (x0 = (13 : Int)) = true := decide_eq_true h2
   obtain rfl := Option.some.inj h
   simp (maxSteps := 10000000) (implicitDefEqProofs := false) (disch := first | assumption | omega | exact rfl | exact im_ _) only [bs, rs82, Nat.reduceAdd, ↓reduceIte, ↓h1', ↓h2']
   refine ⟨by first | exact .inl trivial | exact .inr trivial | simp, ?_⟩
   exact finish_is (ds := [iv (3 : Int)]) (x := .v (.int .i64 (3 : Int))) (y := .v (.int .i64 (3 : Int))) (l := []) rfl rfl rfl rfl (by first | rfl | (simp only [wk, wks, wkL]; first | done | rfl))
  ·rw [if_neg h2] at h
   have h2' : decide (x0 = (13 : Int)) = false := decide_eq_false h2
   by_cases h3 : x0 = (15 : Int)
   ·rw [if_pos h3] at h
    have h3' : decide (x0 = (15 : Int)) = true := decide_eq_true h3
    obtain rfl := Option.some.inj h
    simp (maxSteps := 10000000) (implicitDefEqProofs := false) (disch := first | assumption | omega | exact rfl | exact im_ _) only [bs, rs82, Nat.reduceAdd, ↓reduceIte, ↓h1', ↓h2', ↓h3']
    refine ⟨by first | exact .inl trivial | exact .inr trivial | simp, ?_⟩
    exact finish_is (ds := [iv (2 : Int)]) (x := .v (.int .i64 (2 : Int))) (y := .v (.int .i64 (2 : Int))) (l := []) rfl rfl rfl rfl (by first | rfl | (simp only [wk, wks, wkL]; first | done | rfl))
   ·rw [if_neg h3] at h
    have h3' : decide (x0 = (15 : Int)) = false := decide_eq_false h3
    by_cases h4 : x0 = (24 : Int)
    ·rw [if_pos h4] at h
     have h4' : decide (x0 = (24 : Int)) = true := decide_eq_true h4
     obtain rfl := Option.some.inj h
     simp (maxSteps := 10000000) (implicitDefEqProofs := false) (disch := first | assumption | omega | exact rfl | exact im_ _) only [bs, rs82, Nat.reduceAdd, ↓reduceIte, ↓h1', ↓h2', ↓h3', ↓h4']
     refine ⟨by first | exact .inl trivial | exact .inr trivial | simp, ?_⟩
     exact finish_is (ds := [iv (2 : Int)]) (x := .v (.int .i64 (2 : Int))) (y := .v (.int .i64 (2 : Int))) (l := []) rfl rfl rfl rfl (by first | rfl | (simp only [wk, wks, wkL]; first | done | rfl))
    ·rw [if_neg h4] at h
     have h4' : decide (x0 = (24 : Int)) = false := decide_eq_false h4
     by_cases h5 : x0 = (4 : Int)
     ·rw [if_pos h5] at h
      have h5' : decide (x0 = (4 : Int)) = true := decide_eq_true h5
      obtain rfl := Option.some.inj h
      simp (maxSteps := 10000000) (implicitDefEqProofs := false) (disch := first | assumption | omega | exact rfl | exact im_ _) only [bs, rs82, Nat.reduceAdd, ↓reduceIte, ↓h1', ↓h2', ↓h3', ↓h4', ↓h5']
      refine ⟨by first | exact .inl trivial | exact .inr trivial | simp, ?_⟩
      exact finish_is (ds := [iv (1 : Int)]) (x := .v (.int .i64 (1 : Int))) (y := .v (.int .i64 (1 : Int))) (l := []) rfl rfl rfl rfl (by first | rfl | (simp only [wk, wks, wkL]; first | done | rfl))
     ·rw [if_neg h5] at h
      have h5' : decide (x0 = (4 : Int)) = false := decide_eq_false h5
      by_cases h6 : x0 = (7 : Int)
      ·rw [if_pos h6] at h
       have h6' : decide (x0 = (7 : Int)) = true := decide_eq_true h6
       obtain rfl := Option.some.inj h
       simp (maxSteps := 10000000) (implicitDefEqProofs := false) (disch := first | assumption | omega | exact rfl | exact im_ _) only [bs, rs82, Nat.reduceAdd, ↓reduceIte, ↓h1', ↓h2', ↓h3', ↓h4', ↓h5', ↓h6']
       refine ⟨by first | exact .inl trivial | exact .inr trivial | simp, ?_⟩
       exact finish_is (ds := [iv (1 : Int)]) (x := .v (.int .i64 (1 : Int))) (y := .v (.int .i64 (1 : Int))) (l := []) rfl rfl rfl rfl (by first | rfl | (simp only [wk, wks, wkL]; first | done | rfl))
      ·rw [if_neg h6] at h
       have h6' : decide (x0 = (7 : Int)) = false := decide_eq_false h6
       by_cases h7 : x0 = (9 : Int)
       ·rw [if_pos h7] at h
        have h7' : decide (x0 = (9 : Int)) = true := decide_eq_true h7
        obtain rfl := Option.some.inj h
        simp (maxSteps := 10000000) (implicitDefEqProofs := false) (disch := first | assumption | omega | exact rfl | exact im_ _) only [bs, rs82, Nat.reduceAdd, ↓reduceIte, ↓h1', ↓h2', ↓h3', ↓h4', ↓h5', ↓h6', ↓h7']
        refine ⟨by first | exact .inl trivial | exact .inr trivial | simp, ?_⟩
        exact finish_is (ds := [iv (1 : Int)]) (x := .v (.int .i64 (1 : Int))) (y := .v (.int .i64 (1 : Int))) (l := []) rfl rfl rfl rfl (by first | rfl | (simp only [wk, wks, wkL]; first | done | rfl))
       ·rw [if_neg h7] at h
        have h7' : decide (x0 = (9 : Int)) = false := decide_eq_false h7
        by_cases h8 : x0 = (10 : Int)
        ·rw [if_pos h8] at h
         have h8' : decide (x0 = (10 : Int)) = true := decide_eq_true h8
         obtain rfl := Option.some.inj h
         simp (maxSteps := 10000000) (implicitDefEqProofs := false) (disch := first | assumption | omega | exact rfl | exact im_ _) only [bs, rs82, Nat.reduceAdd, ↓reduceIte, ↓h1', ↓h2', ↓h3', ↓h4', ↓h5', ↓h6', ↓h7', ↓h8']
         refine ⟨by first | exact .inl trivial | exact .inr trivial | simp, ?_⟩
         exact finish_is (ds := [iv (1 : Int)]) (x := .v (.int .i64 (1 : Int))) (y := .v (.int .i64 (1 : Int))) (l := []) rfl rfl rfl rfl (by first | rfl | (simp only [wk, wks, wkL]; first | done | rfl))
        ·rw [if_neg h8] at h
         have h8' : decide (x0 = (10 : Int)) = false := decide_eq_false h8
         by_cases h9 : x0 = (11 : Int)
         ·rw [if_pos h9] at h
          have h9' : decide (x0 = (11 : Int)) = true := decide_eq_true h9
          obtain rfl := Option.some.inj h
          simp (maxSteps := 10000000) (implicitDefEqProofs := false) (disch := first | assumption | omega | exact rfl | exact im_ _) only [bs, rs82, Nat.reduceAdd, ↓reduceIte, ↓h1', ↓h2', ↓h3', ↓h4', ↓h5', ↓h6', ↓h7', ↓h8', ↓h9']
          refine ⟨by first | exact .inl trivial | exact .inr trivial | simp, ?_⟩
          exact finish_is (ds := [iv (1 : Int)]) (x := .v (.int .i64 (1 : Int))) (y := .v (.int .i64 (1 : Int))) (l := []) rfl rfl rfl rfl (by first | rfl | (simp only [wk, wks, wkL]; first | done | rfl))
         ·rw [if_neg h9] at h
          have h9' : decide (x0 = (11 : Int)) = false := decide_eq_false h9
          by_cases h10 : x0 = (12 : Int)
          ·rw [if_pos h10] at h
           have h10' : decide (x0 = (12 : Int)) = true := decide_eq_true h10
           obtain rfl := Option.some.inj h
           simp (maxSteps := 10000000) (implicitDefEqProofs := false) (disch := first | assumption | omega | exact rfl | exact im_ _) only [bs, rs82, Nat.reduceAdd, ↓reduceIte, ↓h1', ↓h2', ↓h3', ↓h4', ↓h5', ↓h6', ↓h7', ↓h8', ↓h9', ↓h10']
           refine ⟨by first | exact .inl trivial | exact .inr trivial | simp, ?_⟩
           exact finish_is (ds := [iv (1 : Int)]) (x := .v (.int .i64 (1 : Int))) (y := .v (.int .i64 (1 : Int))) (l := []) rfl rfl rfl rfl (by first | rfl | (simp only [wk, wks, wkL]; first | done | rfl))
          ·rw [if_neg h10] at h
           have h10' : decide (x0 = (12 : Int)) = false := decide_eq_false h10
           by_cases h11 : x0 = (16 : Int)
           ·rw [if_pos h11] at h
            have h11' : decide (x0 = (16 : Int)) = true := decide_eq_true h11
            obtain rfl := Option.some.inj h
            simp (maxSteps := 10000000) (implicitDefEqProofs := false) (disch := first | assumption | omega | exact rfl | exact im_ _) only [bs, rs82, Nat.reduceAdd, ↓reduceIte, ↓h1', ↓h2', ↓h3', ↓h4', ↓h5', ↓h6', ↓h7', ↓h8', ↓h9', ↓h10', ↓h11']
            refine ⟨by first | exact .inl trivial | exact .inr trivial | simp, ?_⟩
            exact finish_is (ds := [iv (1 : Int)]) (x := .v (.int .i64 (1 : Int))) (y := .v (.int .i64 (1 : Int))) (l := []) rfl rfl rfl rfl (by first | rfl | (simp only [wk, wks, wkL]; first | done | rfl))
           ·rw [if_neg h11] at h
            have h11' : decide (x0 = (16 : Int)) = false := decide_eq_false h11
            by_cases h12 : x0 = (21 : Int)
            ·rw [if_pos h12] at h
             have h12' : decide (x0 = (21 : Int)) = true := decide_eq_true h12
             obtain rfl := Option.some.inj h
             simp (maxSteps := 10000000) (implicitDefEqProofs := false) (disch := first | assumption | omega | exact rfl | exact im_ _) only [bs, rs82, Nat.reduceAdd, ↓reduceIte, ↓h1', ↓h2', ↓h3', ↓h4', ↓h5', ↓h6', ↓h7', ↓h8', ↓h9', ↓h10', ↓h11', ↓h12']
             refine ⟨by first | exact .inl trivial | exact .inr trivial | simp, ?_⟩
             exact finish_is (ds := [iv (1 : Int)]) (x := .v (.int .i64 (1 : Int))) (y := .v (.int .i64 (1 : Int))) (l := []) rfl rfl rfl rfl (by first | rfl | (simp only [wk, wks, wkL]; first | done | rfl))
            ·rw [if_neg h12] at h
             have h12' : decide (x0 = (21 : Int)) = false := decide_eq_false h12
             by_cases h13 : x0 = (25 : Int)
             ·rw [if_pos h13] at h
              have h13' : decide (x0 = (25 : Int)) = true := decide_eq_true h13
              obtain rfl := Option.some.inj h
              simp (maxSteps := 10000000) (implicitDefEqProofs := false) (disch := first | assumption | omega | exact rfl | exact im_ _) only [bs, rs82, Nat.reduceAdd, ↓reduceIte, ↓h1', ↓h2', ↓h3', ↓h4', ↓h5', ↓h6', ↓h7', ↓h8', ↓h9', ↓h10', ↓h11', ↓h12', ↓h13']
              refine ⟨by first | exact .inl trivial | exact .inr trivial | simp, ?_⟩
              exact finish_is (ds := [iv (1 : Int)]) (x := .v (.int .i64 (1 : Int))) (y := .v (.int .i64 (1 : Int))) (l := []) rfl rfl rfl rfl (by first | rfl | (simp only [wk, wks, wkL]; first | done | rfl))
             ·rw [if_neg h13] at h
              have h13' : decide (x0 = (25 : Int)) = false := decide_eq_false h13
              by_cases h14 : x0 = (26 : Int)
              ·rw [if_pos h14] at h
               have h14' : decide (x0 = (26 : Int)) = true := decide_eq_true h14
               obtain rfl := Option.some.inj h
               simp (maxSteps := 10000000) (implicitDefEqProofs := false) (disch := first | assumption | omega | exact rfl | exact im_ _) only [bs, rs82, Nat.reduceAdd, ↓reduceIte, ↓h1', ↓h2', ↓h3', ↓h4', ↓h5', ↓h6', ↓h7', ↓h8', ↓h9', ↓h10', ↓h11', ↓h12', ↓h13', ↓h14']
               refine ⟨by first | exact .inl trivial | exact .inr trivial | simp, ?_⟩
               exact finish_is (ds := [iv (1 : Int)]) (x := .v (.int .i64 (1 : Int))) (y := .v (.int .i64 (1 : Int))) (l := []) rfl rfl rfl rfl (by first | rfl | (simp only [wk, wks, wkL]; first | done | rfl))
              ·rw [if_neg h14] at h
               have h14' : decide (x0 = (26 : Int)) = false := decide_eq_false h14
               obtain rfl := Option.some.inj h
               simp (maxSteps := 10000000) (implicitDefEqProofs := false) (disch := first | assumption | omega | exact rfl | exact im_ _) only [bs, rs82, Nat.reduceAdd, ↓reduceIte, ↓h1', ↓h2', ↓h3', ↓h4', ↓h5', ↓h6', ↓h7', ↓h8', ↓h9', ↓h10', ↓h11', ↓h12', ↓h13', ↓h14']
               refine ⟨by first | exact .inl trivial | exact .inr trivial | simp, ?_⟩
               exact finish_is (ds := [iv (0 : Int)]) (x := .v (.int .i64 (0 : Int))) (y := .v (.int .i64 (0 : Int))) (l := []) rfl rfl rfl rfl (by first | rfl | (simp only [wk, wks, wkL]; first | done | rfl))
theorem R07_least_call {H : List Ob} {x0 : Int} {r : Int} (h : R07_least x0 = some r) : callD (callW Tryd.prog A0) A0 H 82 [iv x0] = some (.p (.v (.int .i64 r)), none) :=
  callD_fun (args := [.v (.int .i64 x0)]) rfl rfl rfl (by simp only [List.map_cons, List.map_nil, wk, wks, wkL]; exact f82_ok x0 _ h)
theorem f110_ok  (x0 : Int) (r : Int) (h : R07_Group x0 = some r) : callW Tryd.prog A0 110 [iv x0] [] = some (.p (.v (.int .i64 r)), []) := by
 refine call_ofH (fn := Tryd.f110) (c := bodyOf Tryd.f110) rfl rfl (by kernel_rfl) (by kernel_rfl) ?_
 rw [show initS Tryd.f110 [iv x0] [] = ⟨iv x0 :: List.replicate 32 undefD, [], 0⟩ from by kernel_rfl]
 unfold R07_Group at h
 unfold bodyOf Tryd.f110; simp only [Option.getD_some, loopsOf, List.append_nil, List.nil_append, List.cons_append, List.getD_cons_zero, List.getD_cons_succ]
 simp only [List.replicate]
 by_cases h1 : x0 = (2 : Int)
 ·rw [if_pos h1] at h
  have h1' : decide (x0 = (2 : Int)) = true := decide_eq_true h1
  obtain rfl := Option.some.inj h
  simp (maxSteps := 10000000) (implicitDefEqProofs := false) (disch := first | assumption | omega | exact rfl | exact im_ _) only [bs, rs110, Nat.reduceAdd, ↓reduceIte, ↓h1']
  refine ⟨by first | exact .inl trivial | exact .inr trivial | simp, ?_⟩
  exact finish_is (ds := [iv (1 : Int)]) (x := .v (.int .i64 (1 : Int))) (y := .v (.int .i64 (1 : Int))) (l := []) rfl rfl rfl rfl (by first | rfl | (simp only [wk, wks, wkL]; first | done | rfl))
 ·rw [if_neg h1] at h
  have h1' : decide (x0 = (2 : Int)) = false := decide_eq_false h1
  by_cases h2 : x0 = (7 : Int)
  ·rw [if_pos h2] at h
   have h2' : decide (x0 = (7 : Int)) = true := decide_eq_true h2
   obtain rfl := Option.some.inj h
   simp (maxSteps := 10000000) (implicitDefEqProofs := false) (disch := first | assumption | omega | exact rfl | exact im_ _) only [bs, rs110, Nat.reduceAdd, ↓reduceIte, ↓h1', ↓h2']
   refine ⟨by first | exact .inl trivial | exact .inr trivial | simp, ?_⟩
   exact finish_is (ds := [iv (1 : Int)]) (x := .v (.int .i64 (1 : Int))) (y := .v (.int .i64 (1 : Int))) (l := []) rfl rfl rfl rfl (by first | rfl | (simp only [wk, wks, wkL]; first | done | rfl))
  ·rw [if_neg h2] at h
   have h2' : decide (x0 = (7 : Int)) = false := decide_eq_false h2
   by_cases h3 : x0 = (9 : Int)
   ·rw [if_pos h3] at h
    have h3' : decide (x0 = (9 : Int)) = true := decide_eq_true h3
    obtain rfl := Option.some.inj h
    simp (maxSteps := 10000000) (implicitDefEqProofs := false) (disch := first | assumption | omega | exact rfl | exact im_ _) only [bs, rs110, Nat.reduceAdd, ↓reduceIte, ↓h1', ↓h2', ↓h3']
    refine ⟨by first | exact .inl trivial | exact .inr trivial | simp, ?_⟩
    exact finish_is (ds := [iv (1 : Int)]) (x := .v (.int .i64 (1 : Int))) (y := .v (.int .i64 (1 : Int))) (l := []) rfl rfl rfl rfl (by first | rfl | (simp only [wk, wks, wkL]; first | done | rfl))
   ·rw [if_neg h3] at h
    have h3' : decide (x0 = (9 : Int)) = false := decide_eq_false h3
    by_cases h4 : (10 : Int) ≤ x0
    ·rw [if_pos h4] at h
     have h4' : decide ((10 : Int) ≤ x0) = true := decide_eq_true h4
     by_cases h5 : x0 ≤ (13 : Int)
     ·rw [if_pos h5] at h
      have h5' : decide (x0 ≤ (13 : Int)) = true := decide_eq_true h5
      obtain rfl := Option.some.inj h
      simp (maxSteps := 10000000) (implicitDefEqProofs := false) (disch := first | assumption | omega | exact rfl | exact im_ _) only [bs, rs110, Nat.reduceAdd, ↓reduceIte, ↓h1', ↓h2', ↓h3', ↓h4', ↓h5']
      refine ⟨by first | exact .inl trivial | exact .inr trivial | simp, ?_⟩
      exact finish_is (ds := [iv (2 : Int)]) (x := .v (.int .i64 (2 : Int))) (y := .v (.int .i64 (2 : Int))) (l := []) rfl rfl rfl rfl (by first | rfl | (simp only [wk, wks, wkL]; first | done | rfl))
     ·rw [if_neg h5] at h
      have h5' : decide (x0 ≤ (13 : Int)) = false := decide_eq_false h5
      by_cases h6 : x0 = (15 : Int)
      ·rw [if_pos h6] at h
       have h6' : decide (x0 = (15 : Int)) = true := decide_eq_true h6
       obtain rfl := Option.some.inj h
       simp (maxSteps := 10000000) (implicitDefEqProofs := false) (disch := first | assumption | omega | exact rfl | exact im_ _) only [bs, rs110, Nat.reduceAdd, ↓reduceIte, ↓h1', ↓h2', ↓h3', ↓h4', ↓h5', ↓h6']
       refine ⟨by first | exact .inl trivial | exact .inr trivial | simp, ?_⟩
       exact finish_is (ds := [iv (2 : Int)]) (x := .v (.int .i64 (2 : Int))) (y := .v (.int .i64 (2 : Int))) (l := []) rfl rfl rfl rfl (by first | rfl | (simp only [wk, wks, wkL]; first | done | rfl))
      ·rw [if_neg h6] at h
       have h6' : decide (x0 = (15 : Int)) = false := decide_eq_false h6
       by_cases h7 : x0 = (16 : Int)
       ·rw [if_pos h7] at h
        have h7' : decide (x0 = (16 : Int)) = true := decide_eq_true h7
        obtain rfl := Option.some.inj h
        simp (maxSteps := 10000000) (implicitDefEqProofs := false) (disch := first | assumption | omega | exact rfl | exact im_ _) only [bs, rs110, Nat.reduceAdd, ↓reduceIte, ↓h1', ↓h2', ↓h3', ↓h4', ↓h5', ↓h6', ↓h7']
        refine ⟨by first | exact .inl trivial | exact .inr trivial | simp, ?_⟩
        exact finish_is (ds := [iv (2 : Int)]) (x := .v (.int .i64 (2 : Int))) (y := .v (.int .i64 (2 : Int))) (l := []) rfl rfl rfl rfl (by first | rfl | (simp only [wk, wks, wkL]; first | done | rfl))
       ·rw [if_neg h7] at h
        have h7' : decide (x0 = (16 : Int)) = false := decide_eq_false h7
        by_cases h8 : (17 : Int) ≤ x0
        ·rw [if_pos h8] at h
         have h8' : decide ((17 : Int) ≤ x0) = true := decide_eq_true h8
         by_cases h9 : x0 ≤ (26 : Int)
         ·rw [if_pos h9] at h
          have h9' : decide (x0 ≤ (26 : Int)) = true := decide_eq_true h9
          obtain rfl := Option.some.inj h
          simp (maxSteps := 10000000) (implicitDefEqProofs := false) (disch := first | assumption | omega | exact rfl | exact im_ _) only [bs, rs110, Nat.reduceAdd, ↓reduceIte, ↓h1', ↓h2', ↓h3', ↓h4', ↓h5', ↓h6', ↓h7', ↓h8', ↓h9']
          refine ⟨by first | exact .inl trivial | exact .inr trivial | simp, ?_⟩
          exact finish_is (ds := [iv (3 : Int)]) (x := .v (.int .i64 (3 : Int))) (y := .v (.int .i64 (3 : Int))) (l := []) rfl rfl rfl rfl (by first | rfl | (simp only [wk, wks, wkL]; first | done | rfl))
         ·rw [if_neg h9] at h
          have h9' : decide (x0 ≤ (26 : Int)) = false := decide_eq_false h9
          obtain rfl := Option.some.inj h
          simp (maxSteps := 10000000) (implicitDefEqProofs := false) (disch := first | assumption | omega | exact rfl | exact im_ _) only [bs, rs110, Nat.reduceAdd, ↓reduceIte, ↓h1', ↓h2', ↓h3', ↓h4', ↓h5', ↓h6', ↓h7', ↓h8', ↓h9']
          refine ⟨by first | exact .inl trivial | exact .inr trivial | simp, ?_⟩
          exact finish_is (ds := [iv (0 : Int)]) (x := .v (.int .i64 (0 : Int))) (y := .v (.int .i64 (0 : Int))) (l := []) rfl rfl rfl rfl (by first | rfl | (simp only [wk, wks, wkL]; first | done | rfl))
        ·rw [if_neg h8] at h
         have h8' : decide ((17 : Int) ≤ x0) = false := decide_eq_false h8
         obtain rfl := Option.some.inj h
         simp (maxSteps := 10000000) (implicitDefEqProofs := false) (disch := first | assumption | omega | exact rfl | exact im_ _) only [bs, rs110, Nat.reduceAdd, ↓reduceIte, ↓h1', ↓h2', ↓h3', ↓h4', ↓h5', ↓h6', ↓h7', ↓h8']
         refine ⟨by first | exact .inl trivial | exact .inr trivial | simp, ?_⟩
         exact finish_is (ds := [iv (0 : Int)]) (x := .v (.int .i64 (0 : Int))) (y := .v (.int .i64 (0 : Int))) (l := []) rfl rfl rfl rfl (by first | rfl | (simp only [wk, wks, wkL]; first | done | rfl))
    ·rw [if_neg h4] at h
     have h4' : decide ((10 : Int) ≤ x0) = false := decide_eq_false h4
     by_cases h10 : x0 = (15 : Int)
     ·rw [if_pos h10] at h
      have h10' : decide (x0 = (15 : Int)) = true := decide_eq_true h10
      obtain rfl := Option.some.inj h
      simp (maxSteps := 10000000) (implicitDefEqProofs := false) (disch := first | assumption | omega | exact rfl | exact im_ _) only [bs, rs110, Nat.reduceAdd, ↓reduceIte, ↓h1', ↓h2', ↓h3', ↓h4', ↓h10']
      refine ⟨by first | exact .inl trivial | exact .inr trivial | simp, ?_⟩
      exact finish_is (ds := [iv (2 : Int)]) (x := .v (.int .i64 (2 : Int))) (y := .v (.int .i64 (2 : Int))) (l := []) rfl rfl rfl rfl (by first | rfl | (simp only [wk, wks, wkL]; first | done | rfl))
     ·rw [if_neg h10] at h
      have h10' : decide (x0 = (15 : Int)) = false := decide_eq_false h10
      by_cases h11 : x0 = (16 : Int)
      ·rw [if_pos h11] at h
       have h11' : decide (x0 = (16 : Int)) = true := decide_eq_true h11
       obtain rfl := Option.some.inj h
       simp (maxSteps := 10000000) (implicitDefEqProofs := false) (disch := first | assumption | omega | exact rfl | exact im_ _) only [bs, rs110, Nat.reduceAdd, ↓reduceIte, ↓h1', ↓h2', ↓h3', ↓h4', ↓h10', ↓h11']
       refine ⟨by first | exact .inl trivial | exact .inr trivial | simp, ?_⟩
       exact finish_is (ds := [iv (2 : Int)]) (x := .v (.int .i64 (2 : Int))) (y := .v (.int .i64 (2 : Int))) (l := []) rfl rfl rfl rfl (by first | rfl | (simp only [wk, wks, wkL]; first | done | rfl))
      ·rw [if_neg h11] at h
       have h11' : decide (x0 = (16 : Int)) = false := decide_eq_false h11
       by_cases h12 : (17 : Int) ≤ x0
       ·rw [if_pos h12] at h
        have h12' : decide ((17 : Int) ≤ x0) = true := decide_eq_true h12
        by_cases h13 : x0 ≤ (26 : Int)
        ·rw [if_pos h13] at h
         have h13' : decide (x0 ≤ (26 : Int)) = true := decide_eq_true h13
         obtain rfl := Option.some.inj h
         simp (maxSteps := 10000000) (implicitDefEqProofs := false) (disch := first | assumption | omega | exact rfl | exact im_ _) only [bs, rs110, Nat.reduceAdd, ↓reduceIte, ↓h1', ↓h2', ↓h3', ↓h4', ↓h10', ↓h11', ↓h12', ↓h13']
         refine ⟨by first | exact .inl trivial | exact .inr trivial | simp, ?_⟩
         exact finish_is (ds := [iv (3 : Int)]) (x := .v (.int .i64 (3 : Int))) (y := .v (.int .i64 (3 : Int))) (l := []) rfl rfl rfl rfl (by first | rfl | (simp only [wk, wks, wkL]; first | done | rfl))
        ·rw [if_neg h13] at h
         have h13' : decide (x0 ≤ (26 : Int)) = false := decide_eq_false h13
         obtain rfl := Option.some.inj h
         simp (maxSteps := 10000000) (implicitDefEqProofs := false) (disch := first | assumption | omega | exact rfl | exact im_ _) only [bs, rs110, Nat.reduceAdd, ↓reduceIte, ↓h1', ↓h2', ↓h3', ↓h4', ↓h10', ↓h11', ↓h12', ↓h13']
         refine ⟨by first | exact .inl trivial | exact .inr trivial | simp, ?_⟩
         exact finish_is (ds := [iv (0 : Int)]) (x := .v (.int .i64 (0 : Int))) (y := .v (.int .i64 (0 : Int))) (l := []) rfl rfl rfl rfl (by first | rfl | (simp only [wk, wks, wkL]; first | done | rfl))
       ·rw [if_neg h12] at h
        have h12' : decide ((17 : Int) ≤ x0) = false := decide_eq_false h12
        obtain rfl := Option.some.inj h
        simp (maxSteps := 10000000) (implicitDefEqProofs := false) (disch := first | assumption | omega | exact rfl | exact im_ _) only [bs, rs110, Nat.reduceAdd, ↓reduceIte, ↓h1', ↓h2', ↓h3', ↓h4', ↓h10', ↓h11', ↓h12']
        refine ⟨by first | exact .inl trivial | exact .inr trivial | simp, ?_⟩
        exact finish_is (ds := [iv (0 : Int)]) (x := .v (.int .i64 (0 : Int))) (y := .v (.int .i64 (0 : Int))) (l := []) rfl rfl rfl rfl (by first | rfl | (simp only [wk, wks, wkL]; first | done | rfl))
theorem R07_Group_call {H : List Ob} {x0 : Int} {r : Int} (h : R07_Group x0 = some r) : callD (callW Tryd.prog A0) A0 H 110 [iv x0] = some (.p (.v (.int .i64 r)), none) :=
  callD_fun (args := [.v (.int .i64 x0)]) rfl rfl rfl (by simp only [List.map_cons, List.map_nil, wk, wks, wkL]; exact f110_ok x0 _ h)
end Xr

