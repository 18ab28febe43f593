/- A part of the proof: P0. No conditions of its own. -/
import Derived.Test.YtddfehcpbgfmfaaL
namespace Xn
open Go Go.Ev Go.Proofs
set_option linter.unusedSimpArgs false
set_option linter.unusedVariables false
set_option linter.defProp false
set_option maxRecDepth 8000
set_option maxHeartbeats 40000000
def ls39 := And.intro @faP_25_3 (And.intro @idxL_23 (@varld_4_0_3))
theorem R06_left_rcall {rec : Node → Int → Int → Option Int} (hrec : ∀ x0 x1 x2 r, rec x0 x1 x2 = some r → callW Try.prog A0 39 [.p (.agg [.v (.int .i64 x0.Kind), .v (.string x0.Text), .lst false x0.Gaps.length (encL en_str x0.Gaps), .lst false x0.Kids.length (encL en_Node x0.Kids)]), iv x1, iv x2] [] = some (.p (.v (.int .i64 r)), [])) {b1 b2 : Bool} {H : List Ob} {x0 : Node} {x1 : Int} {x2 : Int} {r : Int} (h : rec x0 x1 x2 = some r) : callD (callW Try.prog A0) A0 H 39 [.p (.agg [.v (.int .i64 x0.Kind), .v (.string x0.Text), .lst b1 x0.Gaps.length (encL en_str x0.Gaps), .lst b2 x0.Kids.length (encL en_Node x0.Kids)]), iv x1, iv x2] = some (.p (.v (.int .i64 r)), none) :=
  callD_fun (args := [.agg [.v (.int .i64 x0.Kind), .v (.string x0.Text), .lst b1 x0.Gaps.length (encL en_str x0.Gaps), .lst b2 x0.Kids.length (encL en_Node x0.Kids)], .v (.int .i64 x1), .v (.int .i64 x2)]) rfl rfl rfl (by simp only [List.map_cons, List.map_nil, wk, wks, wkL]; exact hrec x0 x1 x2 _ h)
noncomputable def L39_0 : Code := (loopsOf (bodyOf Try.f39)).getD 0 .skip
def g39_0 : List Ghost := [.keep [2, 3, 7, 8]]
def F39_0 (s2 : Int) (w0_0 : Int) (w0_1 : ByteArray) (w0_2 : (List ByteArray)) (w0_3 : (List Node)) : (Int × Int) → St := fun (s7, s8) => ⟨[.junk, .junk, iv s2, .ptr 0 0, .junk, .junk, .junk, iv s7, iv s8, .junk, .junk, .junk, .junk, .junk, .junk, .junk, .junk, .junk, .junk, .junk, .junk, .junk, .junk, .junk, .junk, .junk, .junk, .junk, .junk, .junk, .junk, .junk, .junk, .junk, .junk, .junk, .junk, .junk, .junk, .junk, .junk, .junk, .junk], [.var [iv w0_0, .p (.v (.string w0_1)), .p (.lst false w0_2.length (encL en_str w0_2)), .p (.lst false w0_3.length (encL en_Node w0_3))]], 0⟩
theorem L39_0_ok {rec : Node → Int → Int → Option Int} (hrec : ∀ x0 x1 x2 r, rec x0 x1 x2 = some r → callW Try.prog A0 39 [.p (.agg [.v (.int .i64 x0.Kind), .v (.string x0.Text), .lst false x0.Gaps.length (encL en_str x0.Gaps), .lst false x0.Kids.length (encL en_Node x0.Kids)]), iv x1, iv x2] [] = some (.p (.v (.int .i64 r)), [])) (s2 : Int) (w0_0 : Int) (w0_1 : ByteArray) (w0_2 : (List ByteArray)) (w0_3 : (List Node)) : ∀ s st o, ghostsD g39_0 st = some (F39_0 s2 w0_0 w0_1 w0_2 w0_3 s) → iter (R06_left_L0 rec s2 w0_0 w0_1 w0_2 w0_3) s = some o →
    Wp (evW Try.prog A0 39 (.loop L39_0) st) (OutQ (F39_0 s2 w0_0 w0_1 w0_2 w0_3) g39_0 (fun n s st => n = 0 ∧ ghostsD [.keep [2, 3, 7, 8]] st = some (F39_0 s2 w0_0 w0_1 w0_2 w0_3 s)) (fun r st => finishD Try.prog A0 39 Try.f39 st = some (.p (.v (.int .i64 r)), [])) o) := by
 refine Wp.iter ?_
 intro s st o hg h
 obtain ⟨s7, s8⟩ := s
 unfold R06_left_L0 at h
 unfold g39_0 F39_0 at hg ⊢
 (try simp only [] at h hg)
 unfold L39_0 bodyOf Try.f39; simp only [Option.getD_some, loopsOf, List.append_nil, List.nil_append, List.cons_append, List.getD_cons_zero, List.getD_cons_succ]
 by_cases h4 : s8 < (w0_3.length : Int)
 ·rw [if_pos h4] at h
  have h4' : decide (s8 < (w0_3.length : Int)) = true := decide_eq_true h4
  obtain ⟨v5, h6, h⟩ := bsm h
  obtain ⟨h6a, h6b, _⟩ := rd_some h6
  have h7 := lk_frz_25 h6
  obtain ⟨r8, h9, h⟩ := bsm h
  have h10 : ∀ H, callD (callW Try.prog A0) A0 H 39 [.p (.agg [.v (.int .i64 v5.Kind), .v (.string v5.Text), .lst false v5.Gaps.length (encL en_str v5.Gaps), .lst false v5.Kids.length (encL en_Node v5.Kids)]), iv s7, iv (w64 (s2 - (1 : Int)))] = some (.p (.v (.int .i64 r8)), none) := fun H => R06_left_rcall hrec h9
  by_cases h11 : r8 < (0 : Int)
  ·rw [if_pos h11] at h
   have h11' : decide (r8 < (0 : Int)) = true := decide_eq_true h11
   obtain rfl := Option.some.inj h
   simp (maxSteps := 10000000) (implicitDefEqProofs := false) (disch := first | assumption | omega | exact rfl) only [bs, rs39, ls39, Nat.reduceAdd, ↓reduceIte, lenD_lst u23, loadD_iagg a25 z25, loadD_ptr a23, hg, ↓h4', h7, h10, ↓h11']
   refine ⟨rfl, ?_⟩
   exact finish_is (ds := [iv (-1 : Int)]) (x := .v (.int .i64 (-1 : Int))) (y := .v (.int .i64 (-1 : Int))) (l := []) rfl rfl rfl rfl (by first | rfl | (simp only [wk, wks, wkL]; first | done | rfl))
  ·rw [if_neg h11] at h
   have h11' : decide (r8 < (0 : Int)) = false := decide_eq_false h11
   obtain rfl := Option.some.inj h
   simp (maxSteps := 10000000) (implicitDefEqProofs := false) (disch := first | assumption | omega | exact rfl) only [bs, rs39, ls39, Nat.reduceAdd, ↓reduceIte, lenD_lst u23, loadD_iagg a25 z25, loadD_ptr a23, hg, ↓h4', h7, h10, ↓h11']
   exact ⟨rfl, by kernel_rfl⟩
 ·rw [if_neg h4] at h
  have h4' : decide (s8 < (w0_3.length : Int)) = false := decide_eq_false h4
  obtain rfl := Option.some.inj h
  simp (maxSteps := 10000000) (implicitDefEqProofs := false) (disch := first | assumption | omega | exact rfl) only [bs, rs39, ls39, Nat.reduceAdd, ↓reduceIte, lenD_lst u23, loadD_iagg a25 z25, loadD_ptr a23, hg, ↓h4']
  exact ⟨rfl, rfl, by kernel_rfl⟩
theorem f39_ok {rec : Node → Int → Int → Option Int} (hrec : ∀ x0 x1 x2 r, rec x0 x1 x2 = some r → callW Try.prog A0 39 [.p (.agg [.v (.int .i64 x0.Kind), .v (.string x0.Text), .lst false x0.Gaps.length (encL en_str x0.Gaps), .lst false x0.Kids.length (encL en_Node x0.Kids)]), iv x1, iv x2] [] = some (.p (.v (.int .i64 r)), []))  (x0 : Node) (x1 : Int) (x2 : Int) (r : Int) (h : R06_left.body rec x0 x1 x2 = some r) : callW Try.prog A0 39 [.p (.agg [.v (.int .i64 x0.Kind), .v (.string x0.Text), .lst false x0.Gaps.length (encL en_str x0.Gaps), .lst false x0.Kids.length (encL en_Node x0.Kids)]), iv x1, iv x2] [] = some (.p (.v (.int .i64 r)), []) := by
 refine call_ofH (fn := Try.f39) (c := bodyOf Try.f39) rfl rfl (by kernel_rfl) (by kernel_rfl) ?_
 rw [show initS Try.f39 [.p (.agg [.v (.int .i64 x0.Kind), .v (.string x0.Text), .lst false x0.Gaps.length (encL en_str x0.Gaps), .lst false x0.Kids.length (encL en_Node x0.Kids)]), iv x1, iv x2] [] = ⟨.p (.agg [.v (.int .i64 x0.Kind), .v (.string x0.Text), .lst false x0.Gaps.length (encL en_str x0.Gaps), .lst false x0.Kids.length (encL en_Node x0.Kids)]) :: iv x1 :: iv x2 :: List.replicate 40 undefD, [], 0⟩ from by kernel_rfl]
 unfold R06_left.body at h
 unfold bodyOf Try.f39; simp only [Option.getD_some, loopsOf, List.append_nil, List.nil_append, List.cons_append, List.getD_cons_zero, List.getD_cons_succ]
 simp only [List.replicate]
 by_cases h1 : x1 < (1 : Int)
 ·rw [if_pos h1] at h
  have h1' : decide (x1 < (1 : Int)) = true := decide_eq_true h1
  obtain rfl := Option.some.inj h
  simp (maxSteps := 10000000) (implicitDefEqProofs := false) (disch := first | assumption | omega | exact rfl) only [bs, rs39, ls39, Nat.reduceAdd, ↓reduceIte, lenD_lst u23, loadD_iagg a25 z25, loadD_ptr a23, ↓h1']
  refine ⟨by first | exact .inl trivial | exact .inr trivial | simp, ?_⟩
  exact finish_is (ds := [iv (-1 : Int)]) (x := .v (.int .i64 (-1 : Int))) (y := .v (.int .i64 (-1 : Int))) (l := []) rfl rfl rfl rfl (by first | rfl | (simp only [wk, wks, wkL]; first | done | rfl))
 ·rw [if_neg h1] at h
  have h1' : decide (x1 < (1 : Int)) = false := decide_eq_false h1
  by_cases h2 : x2 < (1 : Int)
  ·rw [if_pos h2] at h
   have h2' : decide (x2 < (1 : Int)) = true := decide_eq_true h2
   obtain rfl := Option.some.inj h
   simp (maxSteps := 10000000) (implicitDefEqProofs := false) (disch := first | assumption | omega | exact rfl) only [bs, rs39, ls39, Nat.reduceAdd, ↓reduceIte, lenD_lst u23, loadD_iagg a25 z25, loadD_ptr a23, ↓h1', ↓h2']
   refine ⟨by first | exact .inl trivial | exact .inr trivial | simp, ?_⟩
   exact finish_is (ds := [iv (-1 : Int)]) (x := .v (.int .i64 (-1 : Int))) (y := .v (.int .i64 (-1 : Int))) (l := []) rfl rfl rfl rfl (by first | rfl | (simp only [wk, wks, wkL]; first | done | rfl))
  ·rw [if_neg h2] at h
   have h2' : decide (x2 < (1 : Int)) = false := decide_eq_false h2
   by_cases h3 : x1 < (x0.Kids.length : Int)
   ·rw [if_pos h3] at h
    have h3' : decide (x1 < (x0.Kids.length : Int)) = true := decide_eq_true h3
    obtain rfl := Option.some.inj h
    simp (maxSteps := 10000000) (implicitDefEqProofs := false) (disch := first | assumption | omega | exact rfl) only [bs, rs39, ls39, Nat.reduceAdd, ↓reduceIte, lenD_lst u23, loadD_iagg a25 z25, loadD_ptr a23, ↓h1', ↓h2', ↓h3']
    refine ⟨by first | exact .inl trivial | exact .inr trivial | simp, ?_⟩
    exact finish_is (ds := [iv (-1 : Int)]) (x := .v (.int .i64 (-1 : Int))) (y := .v (.int .i64 (-1 : Int))) (l := []) rfl rfl rfl rfl (by first | rfl | (simp only [wk, wks, wkL]; first | done | rfl))
   ·rw [if_neg h3] at h
    have h3' : decide (x1 < (x0.Kids.length : Int)) = false := decide_eq_false h3
    obtain ⟨o, h12, h⟩ := bsm h
    simp (maxSteps := 10000000) (implicitDefEqProofs := false) (disch := first | assumption | omega | exact rfl) only [bs, rs39, ls39, Nat.reduceAdd, ↓reduceIte, lenD_lst u23, loadD_iagg a25 z25, loadD_ptr a23, ↓h1', ↓h2', ↓h3']
    refine Wp.ctx (fun x => seqW _ _ _ _ (blockW _ (x))) (L39_0_ok hrec x2 x0.Kind x0.Text x0.Gaps x0.Kids (w64 (x1 - (1 : Int)), (0 : Int)) _ o (by kernel_rfl) h12) ?_
    intro e st hq
    cases o with
    | next _ => (first | cases h | (simp at h))
    | jmp n_ s_ =>
     obtain ⟨rfl, rfl, hq⟩ := hq
     obtain ⟨s7_13, s8_13⟩ := s_
     unfold F39_0 at hq
     (try simp only [] at h hq)
     obtain rfl := Option.some.inj h
     simp (maxSteps := 10000000) (implicitDefEqProofs := false) (disch := first | assumption | omega | exact rfl) only [bs, rs39, ls39, Nat.reduceAdd, ↓reduceIte, lenD_lst u23, loadD_iagg a25 z25, loadD_ptr a23, ↓h1', ↓h2', ↓h3', hq]
     refine ⟨by first | exact .inl trivial | exact .inr trivial | simp, ?_⟩
     exact finish_is (ds := [iv s7_13]) (x := .v (.int .i64 s7_13)) (y := .v (.int .i64 s7_13)) (l := []) rfl rfl rfl rfl (by first | rfl | (simp only [wk, wks, wkL]; first | done | rfl))
    | ret r14 =>
     obtain ⟨rfl, hq⟩ := hq
     obtain rfl := Option.some.inj h
     simp (maxSteps := 10000000) (implicitDefEqProofs := false) (disch := first | assumption | omega | exact rfl) only [bs, rs39, ls39, Nat.reduceAdd, ↓reduceIte, lenD_lst u23, loadD_iagg a25 z25, loadD_ptr a23]
     exact ⟨by first | exact .inl trivial | exact .inr trivial | simp, hq⟩
theorem f39_spec : ∀ (x0 : Node) (x1 : Int) (x2 : Int) r, R06_leftS x0 x1 x2 = some r → callW Try.prog A0 39 [.p (.agg [.v (.int .i64 x0.Kind), .v (.string x0.Text), .lst false x0.Gaps.length (encL en_str x0.Gaps), .lst false x0.Kids.length (encL en_Node x0.Kids)]), iv x1, iv x2] [] = some (.p (.v (.int .i64 r)), []) := by
  have key : ∀ n (x0 : Node) (x1 : Int) (x2 : Int) r, R06_leftS_mu x0 x1 x2 < n → R06_leftS x0 x1 x2 = some r → callW Try.prog A0 39 [.p (.agg [.v (.int .i64 x0.Kind), .v (.string x0.Text), .lst false x0.Gaps.length (encL en_str x0.Gaps), .lst false x0.Kids.length (encL en_Node x0.Kids)]), iv x1, iv x2] [] = some (.p (.v (.int .i64 r)), []) := by
    intro n
    induction n with
    | zero => intro x0 x1 x2 r h; omega
    | succ n ih =>
      intro x0 x1 x2 r hn h
      refine f39_ok (rec := fun x0' x1' x2' => if R06_leftS_mu x0' x1' x2' < R06_leftS_mu x0 x1 x2 then R06_leftS x0' x1' x2' else none) ?_ x0 x1 x2 r (R06_leftS_body x0 x1 x2 r h)
      intro x0' x1' x2' r' h'
      by_cases hm : R06_leftS_mu x0' x1' x2' < R06_leftS_mu x0 x1 x2
      · rw [if_pos hm] at h'; exact ih x0' x1' x2' r' (by omega) h'
      · rw [if_neg hm] at h'; cases h'
  intro x0 x1 x2 r h
  exact key _ x0 x1 x2 r (Nat.lt_succ_self _) h
theorem R06_left_call {b1 b2 : Bool} {H : List Ob} {x0 : Node} {x1 : Int} {x2 : Int} {r : Int} (h : R06_leftS x0 x1 x2 = some r) : callD (callW Try.prog A0) A0 H 39 [.p (.agg [.v (.int .i64 x0.Kind), .v (.string x0.Text), .lst b1 x0.Gaps.length (encL en_str x0.Gaps), .lst b2 x0.Kids.length (encL en_Node x0.Kids)]), iv x1, iv x2] = some (.p (.v (.int .i64 r)), none) :=
  callD_fun (args := [.agg [.v (.int .i64 x0.Kind), .v (.string x0.Text), .lst b1 x0.Gaps.length (encL en_str x0.Gaps), .lst b2 x0.Kids.length (encL en_Node x0.Kids)], .v (.int .i64 x1), .v (.int .i64 x2)]) rfl rfl rfl (by simp only [List.map_cons, List.map_nil, wk, wks, wkL]; exact f39_spec x0 x1 x2 _ h)
def ls19 := @varlv_4_0_4
theorem f19_ok  (x0 : Node) (x1 : Int) (x2 : Int) (r : Bool) (h : R06_Fits x0 x1 x2 = some r) : callW Try.prog A0 19 [.p (.agg [.v (.int .i64 x0.Kind), .v (.string x0.Text), .lst false x0.Gaps.length (encL en_str x0.Gaps), .lst false x0.Kids.length (encL en_Node x0.Kids)]), iv x1, iv x2] [] = some (.p (.v (.bool r)), []) := by
 refine call_ofH (fn := Try.f19) (c := bodyOf Try.f19) rfl rfl (by kernel_rfl) (by kernel_rfl) ?_
 rw [show initS Try.f19 [.p (.agg [.v (.int .i64 x0.Kind), .v (.string x0.Text), .lst false x0.Gaps.length (encL en_str x0.Gaps), .lst false x0.Kids.length (encL en_Node x0.Kids)]), iv x1, iv x2] [] = ⟨.p (.agg [.v (.int .i64 x0.Kind), .v (.string x0.Text), .lst false x0.Gaps.length (encL en_str x0.Gaps), .lst false x0.Kids.length (encL en_Node x0.Kids)]) :: iv x1 :: iv x2 :: List.replicate 9 undefD, [], 0⟩ from by kernel_rfl]
 unfold R06_Fits at h
 unfold bodyOf Try.f19; simp only [Option.getD_some, loopsOf, List.append_nil, List.nil_append, List.cons_append, List.getD_cons_zero, List.getD_cons_succ]
 simp only [List.replicate]
 obtain ⟨r1, h2, h⟩ := bsm h
 have h3 : ∀ H, callD (callW Try.prog A0) A0 H 39 [.p (.agg [.v (.int .i64 x0.Kind), .v (.string x0.Text), .lst false x0.Gaps.length (encL en_str x0.Gaps), .lst false x0.Kids.length (encL en_Node x0.Kids)]), iv x1, iv x2] = some (.p (.v (.int .i64 r1)), none) := fun H => R06_left_call h2
 obtain rfl := Option.some.inj h
 simp (maxSteps := 10000000) (implicitDefEqProofs := false) (disch := first | assumption | omega | exact rfl) only [bs, rs19, ls19, Nat.reduceAdd, ↓reduceIte, loadD_pagg a25 z25, h3]
 refine ⟨by first | exact .inl trivial | exact .inr trivial | simp, ?_⟩
 exact finish_is (ds := [bv (decide ((0 : Int) ≤ r1))]) (x := .v (.bool (decide ((0 : Int) ≤ r1)))) (y := .v (.bool (decide ((0 : Int) ≤ r1)))) (l := []) rfl rfl rfl rfl (by first | rfl | (simp only [wk, wks, wkL]; first | done | rfl))
theorem R06_Fits_call {b1 b2 : Bool} {H : List Ob} {x0 : Node} {x1 : Int} {x2 : Int} {r : Bool} (h : R06_Fits x0 x1 x2 = some r) : callD (callW Try.prog A0) A0 H 19 [.p (.agg [.v (.int .i64 x0.Kind), .v (.string x0.Text), .lst b1 x0.Gaps.length (encL en_str x0.Gaps), .lst b2 x0.Kids.length (encL en_Node x0.Kids)]), iv x1, iv x2] = some (.p (.v (.bool r)), none) :=
  callD_fun (args := [.agg [.v (.int .i64 x0.Kind), .v (.string x0.Text), .lst b1 x0.Gaps.length (encL en_str x0.Gaps), .lst b2 x0.Kids.length (encL en_Node x0.Kids)], .v (.int .i64 x1), .v (.int .i64 x2)]) rfl rfl rfl (by simp only [List.map_cons, List.map_nil, wk, wks, wkL]; exact f19_ok x0 x1 x2 _ h)
def ls8 := @varlv_4_0_4
theorem f8_ok  (x0 : Node) (r : Bool) (h : law22_small x0 = some r) : callW Try.prog A0 8 [.p (.agg [.v (.int .i64 x0.Kind), .v (.string x0.Text), .lst false x0.Gaps.length (encL en_str x0.Gaps), .lst false x0.Kids.length (encL en_Node x0.Kids)])] [] = some (.p (.v (.bool r)), []) := by
 refine call_ofH (fn := Try.f8) (c := bodyOf Try.f8) rfl rfl (by kernel_rfl) (by kernel_rfl) ?_
 rw [show initS Try.f8 [.p (.agg [.v (.int .i64 x0.Kind), .v (.string x0.Text), .lst false x0.Gaps.length (encL en_str x0.Gaps), .lst false x0.Kids.length (encL en_Node x0.Kids)])] [] = ⟨.p (.agg [.v (.int .i64 x0.Kind), .v (.string x0.Text), .lst false x0.Gaps.length (encL en_str x0.Gaps), .lst false x0.Kids.length (encL en_Node x0.Kids)]) :: List.replicate 4 undefD, [], 0⟩ from by kernel_rfl]
 unfold law22_small at h
 unfold bodyOf Try.f8; simp only [Option.getD_some, loopsOf, List.append_nil, List.nil_append, List.cons_append, List.getD_cons_zero, List.getD_cons_succ]
 simp only [List.replicate]
 obtain ⟨r1, h2, h⟩ := bsm h
 have h3 : ∀ H, callD (callW Try.prog A0) A0 H 19 [.p (.agg [.v (.int .i64 x0.Kind), .v (.string x0.Text), .lst false x0.Gaps.length (encL en_str x0.Gaps), .lst false x0.Kids.length (encL en_Node x0.Kids)]), iv (40 : Int), iv (30 : Int)] = some (.p (.v (.bool r1)), none) := fun H => R06_Fits_call h2
 obtain rfl := Option.some.inj h
 simp (maxSteps := 10000000) (implicitDefEqProofs := false) (disch := first | assumption | omega | exact rfl) only [bs, rs8, ls8, Nat.reduceAdd, ↓reduceIte, loadD_pagg a25 z25, h3]
 refine ⟨by first | exact .inl trivial | exact .inr trivial | simp, ?_⟩
 exact finish_is (ds := [bv r1]) (x := .v (.bool r1)) (y := .v (.bool r1)) (l := []) rfl rfl rfl rfl (by first | rfl | (simp only [wk, wks, wkL]; first | done | rfl))
theorem law22_small_call {b1 b2 : Bool} {H : List Ob} {x0 : Node} {r : Bool} (h : law22_small x0 = some r) : callD (callW Try.prog A0) A0 H 8 [.p (.agg [.v (.int .i64 x0.Kind), .v (.string x0.Text), .lst b1 x0.Gaps.length (encL en_str x0.Gaps), .lst b2 x0.Kids.length (encL en_Node x0.Kids)])] = some (.p (.v (.bool r)), none) :=
  callD_fun (args := [.agg [.v (.int .i64 x0.Kind), .v (.string x0.Text), .lst b1 x0.Gaps.length (encL en_str x0.Gaps), .lst b2 x0.Kids.length (encL en_Node x0.Kids)]]) rfl rfl rfl (by simp only [List.map_cons, List.map_nil, wk, wks, wkL]; exact f8_ok x0 _ h)
def ls17 := And.intro @faP_25_3 (And.intro @idxL_23 (@varld_4_0_3))
theorem R06_Size_rcall {rec : Node → Option Int} (hrec : ∀ x0 r, rec x0 = some r → callW Try.prog A0 17 [.p (.agg [.v (.int .i64 x0.Kind), .v (.string x0.Text), .lst false x0.Gaps.length (encL en_str x0.Gaps), .lst false x0.Kids.length (encL en_Node x0.Kids)])] [] = some (.p (.v (.int .i64 r)), [])) {b1 b2 : Bool} {H : List Ob} {x0 : Node} {r : Int} (h : rec x0 = some r) : callD (callW Try.prog A0) A0 H 17 [.p (.agg [.v (.int .i64 x0.Kind), .v (.string x0.Text), .lst b1 x0.Gaps.length (encL en_str x0.Gaps), .lst b2 x0.Kids.length (encL en_Node x0.Kids)])] = some (.p (.v (.int .i64 r)), none) :=
  callD_fun (args := [.agg [.v (.int .i64 x0.Kind), .v (.string x0.Text), .lst b1 x0.Gaps.length (encL en_str x0.Gaps), .lst b2 x0.Kids.length (encL en_Node x0.Kids)]]) rfl rfl rfl (by simp only [List.map_cons, List.map_nil, wk, wks, wkL]; exact hrec x0 _ h)
noncomputable def L17_0 : Code := (loopsOf (bodyOf Try.f17)).getD 0 .skip
def g17_0 : List Ghost := [.keep [1, 3, 4]]
def F17_0 (w0_0 : Int) (w0_1 : ByteArray) (w0_2 : (List ByteArray)) (w0_3 : (List Node)) : (Int × Int) → St := fun (s3, s4) => ⟨[.junk, .ptr 0 0, .junk, iv s3, iv s4, .junk, .junk, .junk, .junk, .junk, .junk, .junk, .junk, .junk, .junk, .junk, .junk, .junk, .junk, .junk, .junk], [.var [iv w0_0, .p (.v (.string w0_1)), .p (.lst false w0_2.length (encL en_str w0_2)), .p (.lst false w0_3.length (encL en_Node w0_3))]], 0⟩
theorem L17_0_ok {rec : Node → Option Int} (hrec : ∀ x0 r, rec x0 = some r → callW Try.prog A0 17 [.p (.agg [.v (.int .i64 x0.Kind), .v (.string x0.Text), .lst false x0.Gaps.length (encL en_str x0.Gaps), .lst false x0.Kids.length (encL en_Node x0.Kids)])] [] = some (.p (.v (.int .i64 r)), [])) (w0_0 : Int) (w0_1 : ByteArray) (w0_2 : (List ByteArray)) (w0_3 : (List Node)) : ∀ s st o, ghostsD g17_0 st = some (F17_0 w0_0 w0_1 w0_2 w0_3 s) → iter (R06_Size_L0 rec w0_0 w0_1 w0_2 w0_3) s = some o →
    Wp (evW Try.prog A0 17 (.loop L17_0) st) (OutQ (F17_0 w0_0 w0_1 w0_2 w0_3) g17_0 (fun n s st => n = 0 ∧ ghostsD [.keep [1, 3, 4]] st = some (F17_0 w0_0 w0_1 w0_2 w0_3 s)) (fun r st => finishD Try.prog A0 17 Try.f17 st = some (.p (.v (.int .i64 r)), [])) o) := by
 refine Wp.iter ?_
 intro s st o hg h
 obtain ⟨s3, s4⟩ := s
 unfold R06_Size_L0 at h
 unfold g17_0 F17_0 at hg ⊢
 (try simp only [] at h hg)
 unfold L17_0 bodyOf Try.f17; simp only [Option.getD_some, loopsOf, List.append_nil, List.nil_append, List.cons_append, List.getD_cons_zero, List.getD_cons_succ]
 by_cases h1 : s4 < (w0_3.length : Int)
 ·rw [if_pos h1] at h
  have h1' : decide (s4 < (w0_3.length : Int)) = true := decide_eq_true h1
  obtain ⟨v2, h3, h⟩ := bsm h
  obtain ⟨h3a, h3b, _⟩ := rd_some h3
  have h4 := lk_frz_25 h3
  obtain ⟨r5, h6, h⟩ := bsm h
  have h7 : ∀ H, callD (callW Try.prog A0) A0 H 17 [.p (.agg [.v (.int .i64 v2.Kind), .v (.string v2.Text), .lst false v2.Gaps.length (encL en_str v2.Gaps), .lst false v2.Kids.length (encL en_Node v2.Kids)])] = some (.p (.v (.int .i64 r5)), none) := fun H => R06_Size_rcall hrec h6
  obtain rfl := Option.some.inj h
  simp (maxSteps := 10000000) (implicitDefEqProofs := false) (disch := first | assumption | omega | exact rfl) only [bs, rs17, ls17, Nat.reduceAdd, ↓reduceIte, lenD_lst u23, loadD_iagg a25 z25, loadD_ptr a23, hg, ↓h1', h4, h7]
  exact ⟨rfl, by kernel_rfl⟩
 ·rw [if_neg h1] at h
  have h1' : decide (s4 < (w0_3.length : Int)) = false := decide_eq_false h1
  obtain rfl := Option.some.inj h
  simp (maxSteps := 10000000) (implicitDefEqProofs := false) (disch := first | assumption | omega | exact rfl) only [bs, rs17, ls17, Nat.reduceAdd, ↓reduceIte, lenD_lst u23, loadD_iagg a25 z25, loadD_ptr a23, hg, ↓h1']
  exact ⟨rfl, rfl, by kernel_rfl⟩
theorem f17_ok {rec : Node → Option Int} (hrec : ∀ x0 r, rec x0 = some r → callW Try.prog A0 17 [.p (.agg [.v (.int .i64 x0.Kind), .v (.string x0.Text), .lst false x0.Gaps.length (encL en_str x0.Gaps), .lst false x0.Kids.length (encL en_Node x0.Kids)])] [] = some (.p (.v (.int .i64 r)), []))  (x0 : Node) (r : Int) (h : R06_Size.body rec x0 = some r) : callW Try.prog A0 17 [.p (.agg [.v (.int .i64 x0.Kind), .v (.string x0.Text), .lst false x0.Gaps.length (encL en_str x0.Gaps), .lst false x0.Kids.length (encL en_Node x0.Kids)])] [] = some (.p (.v (.int .i64 r)), []) := by
 refine call_ofH (fn := Try.f17) (c := bodyOf Try.f17) rfl rfl (by kernel_rfl) (by kernel_rfl) ?_
 rw [show initS Try.f17 [.p (.agg [.v (.int .i64 x0.Kind), .v (.string x0.Text), .lst false x0.Gaps.length (encL en_str x0.Gaps), .lst false x0.Kids.length (encL en_Node x0.Kids)])] [] = ⟨.p (.agg [.v (.int .i64 x0.Kind), .v (.string x0.Text), .lst false x0.Gaps.length (encL en_str x0.Gaps), .lst false x0.Kids.length (encL en_Node x0.Kids)]) :: List.replicate 20 undefD, [], 0⟩ from by kernel_rfl]
 unfold R06_Size.body at h
 unfold bodyOf Try.f17; simp only [Option.getD_some, loopsOf, List.append_nil, List.nil_append, List.cons_append, List.getD_cons_zero, List.getD_cons_succ]
 simp only [List.replicate]
 obtain ⟨o, h8, h⟩ := bsm h
 simp (maxSteps := 10000000) (implicitDefEqProofs := false) (disch := first | assumption | omega | exact rfl) only [bs, rs17, ls17, Nat.reduceAdd, ↓reduceIte, lenD_lst u23, loadD_iagg a25 z25, loadD_ptr a23]
 refine Wp.ctx (fun x => seqW _ _ _ _ (blockW _ (x))) (L17_0_ok hrec x0.Kind x0.Text x0.Gaps x0.Kids ((1 : Int), (0 : Int)) _ o (by kernel_rfl) h8) ?_
 intro e st hq
 cases o with
 | next _ => (first | cases h | (simp at h))
 | jmp n_ s_ =>
  obtain ⟨rfl, rfl, hq⟩ := hq
  obtain ⟨s3_9, s4_9⟩ := s_
  unfold F17_0 at hq
  (try simp only [] at h hq)
  obtain rfl := Option.some.inj h
  simp (maxSteps := 10000000) (implicitDefEqProofs := false) (disch := first | assumption | omega | exact rfl) only [bs, rs17, ls17, Nat.reduceAdd, ↓reduceIte, lenD_lst u23, loadD_iagg a25 z25, loadD_ptr a23, hq]
  refine ⟨by first | exact .inl trivial | exact .inr trivial | simp, ?_⟩
  exact finish_is (ds := [iv s3_9]) (x := .v (.int .i64 s3_9)) (y := .v (.int .i64 s3_9)) (l := []) rfl rfl rfl rfl (by first | rfl | (simp only [wk, wks, wkL]; first | done | rfl))
 | ret _ => (first | cases h | (simp at h))
theorem f17_spec : ∀ (x0 : Node) r, R06_SizeS x0 = some r → callW Try.prog A0 17 [.p (.agg [.v (.int .i64 x0.Kind), .v (.string x0.Text), .lst false x0.Gaps.length (encL en_str x0.Gaps), .lst false x0.Kids.length (encL en_Node x0.Kids)])] [] = some (.p (.v (.int .i64 r)), []) := by
  have key : ∀ n (x0 : Node) r, R06_SizeS_mu x0 < n → R06_SizeS x0 = some r → callW Try.prog A0 17 [.p (.agg [.v (.int .i64 x0.Kind), .v (.string x0.Text), .lst false x0.Gaps.length (encL en_str x0.Gaps), .lst false x0.Kids.length (encL en_Node x0.Kids)])] [] = some (.p (.v (.int .i64 r)), []) := by
    intro n
    induction n with
    | zero => intro x0 r h; omega
    | succ n ih =>
      intro x0 r hn h
      refine f17_ok (rec := fun x0' => if R06_SizeS_mu x0' < R06_SizeS_mu x0 then R06_SizeS x0' else none) ?_ x0 r (R06_SizeS_body x0 r h)
      intro x0' r' h'
      by_cases hm : R06_SizeS_mu x0' < R06_SizeS_mu x0
      · rw [if_pos hm] at h'; exact ih x0' r' (by omega) h'
      · rw [if_neg hm] at h'; cases h'
  intro x0 r h
  exact key _ x0 r (Nat.lt_succ_self _) h
theorem R06_Size_call {b1 b2 : Bool} {H : List Ob} {x0 : Node} {r : Int} (h : R06_SizeS x0 = some r) : callD (callW Try.prog A0) A0 H 17 [.p (.agg [.v (.int .i64 x0.Kind), .v (.string x0.Text), .lst b1 x0.Gaps.length (encL en_str x0.Gaps), .lst b2 x0.Kids.length (encL en_Node x0.Kids)])] = some (.p (.v (.int .i64 r)), none) :=
  callD_fun (args := [.agg [.v (.int .i64 x0.Kind), .v (.string x0.Text), .lst b1 x0.Gaps.length (encL en_str x0.Gaps), .lst b2 x0.Kids.length (encL en_Node x0.Kids)]]) rfl rfl rfl (by simp only [List.map_cons, List.map_nil, wk, wks, wkL]; exact f17_spec x0 _ h)
def ls40 := And.intro @al_25 (And.intro @bu_25_ (And.intro @ex_3_0 (And.intro @ex_3_1 (And.intro @ex_3_2 (And.intro @faP_25_3 (And.intro @idxL_23 (And.intro @sa_4_0_4 (And.intro @varld_4_0_3 (@varlv_4_0_4)))))))))
theorem tree_locate_rcall {rec : Node → Int → Option (Node × Int × Bool)} (hrec : ∀ x0 x1 r, rec x0 x1 = some r → callW Try.prog A0 40 [.p (.agg [.v (.int .i64 x0.Kind), .v (.string x0.Text), .lst false x0.Gaps.length (encL en_str x0.Gaps), .lst false x0.Kids.length (encL en_Node x0.Kids)]), iv x1] [] = some (.p (.tup [.agg [.v (.int .i64 r.1.Kind), .v (.string r.1.Text), .lst false r.1.Gaps.length (encL en_str r.1.Gaps), .lst false r.1.Kids.length (encL en_Node r.1.Kids)], .v (.int .i64 r.2.1), .v (.bool r.2.2)]), [])) {b1 b2 : Bool} {H : List Ob} {x0 : Node} {x1 : Int} {r : (Node × Int × Bool)} (h : rec x0 x1 = some r) : callD (callW Try.prog A0) A0 H 40 [.p (.agg [.v (.int .i64 x0.Kind), .v (.string x0.Text), .lst b1 x0.Gaps.length (encL en_str x0.Gaps), .lst b2 x0.Kids.length (encL en_Node x0.Kids)]), iv x1] = some (.p (.tup [.agg [.v (.int .i64 r.1.Kind), .v (.string r.1.Text), .lst false r.1.Gaps.length (encL en_str r.1.Gaps), .lst false r.1.Kids.length (encL en_Node r.1.Kids)], .v (.int .i64 r.2.1), .v (.bool r.2.2)]), none) :=
  callD_fun (args := [.agg [.v (.int .i64 x0.Kind), .v (.string x0.Text), .lst b1 x0.Gaps.length (encL en_str x0.Gaps), .lst b2 x0.Kids.length (encL en_Node x0.Kids)], .v (.int .i64 x1)]) rfl rfl rfl (by simp only [List.map_cons, List.map_nil, wk, wks, wkL]; exact hrec x0 x1 _ h)
noncomputable def L40_0 : Code := (loopsOf (bodyOf Try.f40)).getD 0 .skip
def g40_0 : List Ghost := [.weak [17], .keep [1, 4, 7, 17, 18, 19]]
def F40_0 (s1 : Int) (s17 : (List Node)) (s18 : Int) (w0_0 : Int) (w0_1 : ByteArray) : (Int × Int) → St := fun (s7, s19) => ⟨[.junk, iv s1, .junk, .junk, .ptr 0 0, .junk, .junk, iv s7, .junk, .junk, .junk, .junk, .junk, .junk, .junk, .junk, .junk, .p (.lst false s17.length (encL en_Node s17)), iv s18, iv s19, .junk, .junk, .junk, .junk, .junk, .junk, .junk, .junk, .junk, .junk, .junk, .junk, .junk, .junk, .junk, .junk, .junk, .junk, .junk, .junk], [.var [iv w0_0, .p (.v (.string w0_1)), .p (.lst true 0 []), .p (.lst true 0 [])]], 0⟩
theorem L40_0_ok {rec : Node → Int → Option (Node × Int × Bool)} (hrec : ∀ x0 x1 r, rec x0 x1 = some r → callW Try.prog A0 40 [.p (.agg [.v (.int .i64 x0.Kind), .v (.string x0.Text), .lst false x0.Gaps.length (encL en_str x0.Gaps), .lst false x0.Kids.length (encL en_Node x0.Kids)]), iv x1] [] = some (.p (.tup [.agg [.v (.int .i64 r.1.Kind), .v (.string r.1.Text), .lst false r.1.Gaps.length (encL en_str r.1.Gaps), .lst false r.1.Kids.length (encL en_Node r.1.Kids)], .v (.int .i64 r.2.1), .v (.bool r.2.2)]), [])) (s1 : Int) (s17 : (List Node)) (s18 : Int) (w0_0 : Int) (w0_1 : ByteArray) : ∀ s st o, ghostsD g40_0 st = some (F40_0 s1 s17 s18 w0_0 w0_1 s) → iter (tree_locate_L0 rec s1 s17 s18 w0_0 w0_1) s = some o →
    Wp (evW Try.prog A0 40 (.loop L40_0) st) (OutQ (F40_0 s1 s17 s18 w0_0 w0_1) g40_0 (fun n s st => n = 0 ∧ ghostsD [.keep [1, 4, 7, 17, 18, 19]] st = some (F40_0 s1 s17 s18 w0_0 w0_1 s)) (fun r st => finishD Try.prog A0 40 Try.f40 st = some (.p (.tup [.agg [.v (.int .i64 r.1.Kind), .v (.string r.1.Text), .lst false r.1.Gaps.length (encL en_str r.1.Gaps), .lst false r.1.Kids.length (encL en_Node r.1.Kids)], .v (.int .i64 r.2.1), .v (.bool r.2.2)]), [])) o) := by
 refine Wp.iter ?_
 intro s st o hg h
 obtain ⟨s7, s19⟩ := s
 unfold tree_locate_L0 at h
 unfold g40_0 F40_0 at hg ⊢
 (try simp only [] at h hg)
 unfold L40_0 bodyOf Try.f40; simp only [Option.getD_some, loopsOf, List.append_nil, List.nil_append, List.cons_append, List.getD_cons_zero, List.getD_cons_succ]
 by_cases h2 : s19 < s18
 ·rw [if_pos h2] at h
  have h2' : decide (s19 < s18) = true := decide_eq_true h2
  obtain ⟨v3, h4, h⟩ := bsm h
  obtain ⟨h4a, h4b, _⟩ := rd_some h4
  have h5 := lk_frz_25 h4
  obtain ⟨r6, h7, h⟩ := bsm h
  have h8 : ∀ H, callD (callW Try.prog A0) A0 H 40 [.p (.agg [.v (.int .i64 v3.Kind), .v (.string v3.Text), .lst false v3.Gaps.length (encL en_str v3.Gaps), .lst false v3.Kids.length (encL en_Node v3.Kids)]), iv (w64 (s1 - s7))] = some (.p (.tup [.agg [.v (.int .i64 r6.1.Kind), .v (.string r6.1.Text), .lst false r6.1.Gaps.length (encL en_str r6.1.Gaps), .lst false r6.1.Kids.length (encL en_Node r6.1.Kids)], .v (.int .i64 r6.2.1), .v (.bool r6.2.2)]), none) := fun H => tree_locate_rcall hrec h7
  by_cases h9 : r6.2.2 = true
  ·rw [if_pos h9] at h
   obtain rfl := Option.some.inj h
   simp (maxSteps := 10000000) (implicitDefEqProofs := false) (disch := first | assumption | omega | exact rfl) only [bs, rs40, ls40, Nat.reduceAdd, ↓reduceIte, lenD_lst u23, loadD_iagg a25 z25, loadD_pagg a25 z25, loadD_ptr a23, storeD_agg z25, hg, ↓h2', h5, h8, h9]
   refine ⟨rfl, ?_⟩
   exact finish_is (ds := [.p (.agg [.v (.int .i64 r6.1.Kind), .v (.string r6.1.Text), .lst false r6.1.Gaps.length (encL en_str r6.1.Gaps), .lst false r6.1.Kids.length (encL en_Node r6.1.Kids)]), iv (0 : Int), bv true]) (x := .tup [.agg [.v (.int .i64 r6.1.Kind), .v (.string r6.1.Text), .lst false r6.1.Gaps.length (encL en_str r6.1.Gaps), .lst false r6.1.Kids.length (encL en_Node r6.1.Kids)], .v (.int .i64 (0 : Int)), .v (.bool true)]) (y := .tup [.agg [.v (.int .i64 r6.1.Kind), .v (.string r6.1.Text), .lst false r6.1.Gaps.length (encL en_str r6.1.Gaps), .lst false r6.1.Kids.length (encL en_Node r6.1.Kids)], .v (.int .i64 (0 : Int)), .v (.bool true)]) (l := []) rfl rfl (by kernel_rfl) rfl (by first | rfl | (simp only [wk, wks, wkL]; first | done | rfl))
  ·rw [if_neg h9] at h
   replace h9 := Bool.eq_false_iff.2 h9
   obtain rfl := Option.some.inj h
   simp (maxSteps := 10000000) (implicitDefEqProofs := false) (disch := first | assumption | omega | exact rfl) only [bs, rs40, ls40, Nat.reduceAdd, ↓reduceIte, lenD_lst u23, loadD_iagg a25 z25, loadD_pagg a25 z25, loadD_ptr a23, storeD_agg z25, hg, ↓h2', h5, h8, h9]
   exact ⟨rfl, by kernel_rfl⟩
 ·rw [if_neg h2] at h
  have h2' : decide (s19 < s18) = false := decide_eq_false h2
  obtain rfl := Option.some.inj h
  simp (maxSteps := 10000000) (implicitDefEqProofs := false) (disch := first | assumption | omega | exact rfl) only [bs, rs40, ls40, Nat.reduceAdd, ↓reduceIte, lenD_lst u23, loadD_iagg a25 z25, loadD_pagg a25 z25, loadD_ptr a23, storeD_agg z25, hg, ↓h2']
  exact ⟨rfl, rfl, by kernel_rfl⟩
theorem f40_ok {rec : Node → Int → Option (Node × Int × Bool)} (hrec : ∀ x0 x1 r, rec x0 x1 = some r → callW Try.prog A0 40 [.p (.agg [.v (.int .i64 x0.Kind), .v (.string x0.Text), .lst false x0.Gaps.length (encL en_str x0.Gaps), .lst false x0.Kids.length (encL en_Node x0.Kids)]), iv x1] [] = some (.p (.tup [.agg [.v (.int .i64 r.1.Kind), .v (.string r.1.Text), .lst false r.1.Gaps.length (encL en_str r.1.Gaps), .lst false r.1.Kids.length (encL en_Node r.1.Kids)], .v (.int .i64 r.2.1), .v (.bool r.2.2)]), []))  (x0 : Node) (x1 : Int) (r : (Node × Int × Bool)) (h : tree_locate.body rec x0 x1 = some r) : callW Try.prog A0 40 [.p (.agg [.v (.int .i64 x0.Kind), .v (.string x0.Text), .lst false x0.Gaps.length (encL en_str x0.Gaps), .lst false x0.Kids.length (encL en_Node x0.Kids)]), iv x1] [] = some (.p (.tup [.agg [.v (.int .i64 r.1.Kind), .v (.string r.1.Text), .lst false r.1.Gaps.length (encL en_str r.1.Gaps), .lst false r.1.Kids.length (encL en_Node r.1.Kids)], .v (.int .i64 r.2.1), .v (.bool r.2.2)]), []) := by
 refine call_ofH (fn := Try.f40) (c := bodyOf Try.f40) rfl rfl (by kernel_rfl) (by kernel_rfl) ?_
 rw [show initS Try.f40 [.p (.agg [.v (.int .i64 x0.Kind), .v (.string x0.Text), .lst false x0.Gaps.length (encL en_str x0.Gaps), .lst false x0.Kids.length (encL en_Node x0.Kids)]), iv x1] [] = ⟨.p (.agg [.v (.int .i64 x0.Kind), .v (.string x0.Text), .lst false x0.Gaps.length (encL en_str x0.Gaps), .lst false x0.Kids.length (encL en_Node x0.Kids)]) :: iv x1 :: List.replicate 38 undefD, [], 0⟩ from by kernel_rfl]
 unfold tree_locate.body at h
 unfold bodyOf Try.f40; simp only [Option.getD_some, loopsOf, List.append_nil, List.nil_append, List.cons_append, List.getD_cons_zero, List.getD_cons_succ]
 simp only [List.replicate]
 by_cases h1 : x1 = (0 : Int)
 ·rw [if_pos h1] at h
  have h1' : decide (x1 = (0 : Int)) = true := decide_eq_true h1
  obtain rfl := Option.some.inj h
  simp (maxSteps := 10000000) (implicitDefEqProofs := false) (disch := first | assumption | omega | exact rfl) only [bs, rs40, ls40, Nat.reduceAdd, ↓reduceIte, lenD_lst u23, loadD_iagg a25 z25, loadD_pagg a25 z25, loadD_ptr a23, storeD_agg z25, ↓h1']
  refine ⟨by first | exact .inl trivial | exact .inr trivial | simp, ?_⟩
  exact finish_is (ds := [.p (.agg [.v (.int .i64 x0.Kind), .v (.string x0.Text), .lst false x0.Gaps.length (encL en_str x0.Gaps), .lst false x0.Kids.length (encL en_Node x0.Kids)]), iv (0 : Int), bv true]) (x := .tup [.agg [.v (.int .i64 x0.Kind), .v (.string x0.Text), .lst false x0.Gaps.length (encL en_str x0.Gaps), .lst false x0.Kids.length (encL en_Node x0.Kids)], .v (.int .i64 (0 : Int)), .v (.bool true)]) (y := .tup [.agg [.v (.int .i64 x0.Kind), .v (.string x0.Text), .lst false x0.Gaps.length (encL en_str x0.Gaps), .lst false x0.Kids.length (encL en_Node x0.Kids)], .v (.int .i64 (0 : Int)), .v (.bool true)]) (l := []) rfl rfl (by kernel_rfl) rfl (by first | rfl | (simp only [wk, wks, wkL]; first | done | rfl))
 ·rw [if_neg h1] at h
  have h1' : decide (x1 = (0 : Int)) = false := decide_eq_false h1
  obtain ⟨o, h10, h⟩ := bsm h
  simp (maxSteps := 10000000) (implicitDefEqProofs := false) (disch := first | assumption | omega | exact rfl) only [bs, rs40, ls40, Nat.reduceAdd, ↓reduceIte, lenD_lst u23, loadD_iagg a25 z25, loadD_pagg a25 z25, loadD_ptr a23, storeD_agg z25, ↓h1']
  refine Wp.ctx (fun x => seqW _ _ _ _ (blockW _ (x))) (L40_0_ok hrec x1 x0.Kids (x0.Kids.length : Int) (0 : Int) ByteArray.empty ((1 : Int), (0 : Int)) _ o (by kernel_rfl) h10) ?_
  intro e st hq
  cases o with
  | next _ => (first | cases h | (simp at h))
  | jmp n_ s_ =>
   obtain ⟨rfl, rfl, hq⟩ := hq
   obtain ⟨s7_11, s19_11⟩ := s_
   unfold F40_0 at hq
   (try simp only [] at h hq)
   obtain rfl := Option.some.inj h
   simp (maxSteps := 10000000) (implicitDefEqProofs := false) (disch := first | assumption | omega | exact rfl) only [bs, rs40, ls40, Nat.reduceAdd, ↓reduceIte, lenD_lst u23, loadD_iagg a25 z25, loadD_pagg a25 z25, loadD_ptr a23, storeD_agg z25, ↓h1', hq]
   refine ⟨by first | exact .inl trivial | exact .inr trivial | simp, ?_⟩
   exact finish_is (ds := [.p (.agg [.v (.int .i64 (0 : Int)), .v (.string ByteArray.empty), .lst true 0 [], .lst true 0 []]), iv s7_11, bv false]) (x := .tup [.agg [.v (.int .i64 (0 : Int)), .v (.string ByteArray.empty), .lst true 0 [], .lst true 0 []], .v (.int .i64 s7_11), .v (.bool false)]) (y := .tup [.agg [.v (.int .i64 (0 : Int)), .v (.string ByteArray.empty), .lst false ([] : List ByteArray).length (encL en_str ([] : List ByteArray)), .lst false ([] : List Node).length (encL en_Node ([] : List Node))], .v (.int .i64 s7_11), .v (.bool false)]) (l := []) rfl rfl (by kernel_rfl) rfl (by first | rfl | (simp only [wk, wks, wkL]; first | done | rfl))
  | ret r12 =>
   obtain ⟨rfl, hq⟩ := hq
   obtain rfl := Option.some.inj h
   simp (maxSteps := 10000000) (implicitDefEqProofs := false) (disch := first | assumption | omega | exact rfl) only [bs, rs40, ls40, Nat.reduceAdd, ↓reduceIte, lenD_lst u23, loadD_iagg a25 z25, loadD_pagg a25 z25, loadD_ptr a23, storeD_agg z25]
   exact ⟨by first | exact .inl trivial | exact .inr trivial | simp, hq⟩
theorem f40_spec : ∀ (x0 : Node) (x1 : Int) r, tree_locateS x0 x1 = some r → callW Try.prog A0 40 [.p (.agg [.v (.int .i64 x0.Kind), .v (.string x0.Text), .lst false x0.Gaps.length (encL en_str x0.Gaps), .lst false x0.Kids.length (encL en_Node x0.Kids)]), iv x1] [] = some (.p (.tup [.agg [.v (.int .i64 r.1.Kind), .v (.string r.1.Text), .lst false r.1.Gaps.length (encL en_str r.1.Gaps), .lst false r.1.Kids.length (encL en_Node r.1.Kids)], .v (.int .i64 r.2.1), .v (.bool r.2.2)]), []) := by
  have key : ∀ n (x0 : Node) (x1 : Int) r, tree_locateS_mu x0 x1 < n → tree_locateS x0 x1 = some r → callW Try.prog A0 40 [.p (.agg [.v (.int .i64 x0.Kind), .v (.string x0.Text), .lst false x0.Gaps.length (encL en_str x0.Gaps), .lst false x0.Kids.length (encL en_Node x0.Kids)]), iv x1] [] = some (.p (.tup [.agg [.v (.int .i64 r.1.Kind), .v (.string r.1.Text), .lst false r.1.Gaps.length (encL en_str r.1.Gaps), .lst false r.1.Kids.length (encL en_Node r.1.Kids)], .v (.int .i64 r.2.1), .v (.bool r.2.2)]), []) := by
    intro n
    induction n with
    | zero => intro x0 x1 r h; omega
    | succ n ih =>
      intro x0 x1 r hn h
      refine f40_ok (rec := fun x0' x1' => if tree_locateS_mu x0' x1' < tree_locateS_mu x0 x1 then tree_locateS x0' x1' else none) ?_ x0 x1 r (tree_locateS_body x0 x1 r h)
      intro x0' x1' r' h'
      by_cases hm : tree_locateS_mu x0' x1' < tree_locateS_mu x0 x1
      · rw [if_pos hm] at h'; exact ih x0' x1' r' (by omega) h'
      · rw [if_neg hm] at h'; cases h'
  intro x0 x1 r h
  exact key _ x0 x1 r (Nat.lt_succ_self _) h
theorem tree_locate_call {b1 b2 : Bool} {H : List Ob} {x0 : Node} {x1 : Int} {r : (Node × Int × Bool)} (h : tree_locateS x0 x1 = some r) : callD (callW Try.prog A0) A0 H 40 [.p (.agg [.v (.int .i64 x0.Kind), .v (.string x0.Text), .lst b1 x0.Gaps.length (encL en_str x0.Gaps), .lst b2 x0.Kids.length (encL en_Node x0.Kids)]), iv x1] = some (.p (.tup [.agg [.v (.int .i64 r.1.Kind), .v (.string r.1.Text), .lst false r.1.Gaps.length (encL en_str r.1.Gaps), .lst false r.1.Kids.length (encL en_Node r.1.Kids)], .v (.int .i64 r.2.1), .v (.bool r.2.2)]), none) :=
  callD_fun (args := [.agg [.v (.int .i64 x0.Kind), .v (.string x0.Text), .lst b1 x0.Gaps.length (encL en_str x0.Gaps), .lst b2 x0.Kids.length (encL en_Node x0.Kids)], .v (.int .i64 x1)]) rfl rfl rfl (by simp only [List.map_cons, List.map_nil, wk, wks, wkL]; exact f40_spec x0 x1 _ h)
def ls47 := @mk_22
theorem f47_ok  (x0 : (List ByteArray)) (r : (List ByteArray)) (h : tree_texts x0 = some r) : callW Try.prog A0 47 [.p (.lst false x0.length (encL en_str x0))] [] = some (.p (.lst false r.length (encL en_str r)), []) := by
 refine call_ofH (fn := Try.f47) (c := bodyOf Try.f47) rfl rfl (by kernel_rfl) (by kernel_rfl) ?_
 rw [show initS Try.f47 [.p (.lst false x0.length (encL en_str x0))] [] = ⟨.p (.lst false x0.length (encL en_str x0)) :: List.replicate 13 undefD, [], 0⟩ from by kernel_rfl]
 unfold tree_texts at h
 unfold bodyOf Try.f47; simp only [Option.getD_some, loopsOf, List.append_nil, List.nil_append, List.cons_append, List.getD_cons_zero, List.getD_cons_succ]
 simp only [List.replicate]
 by_cases h1 : (x0.length : Int) = (0 : Int)
 ·rw [if_pos h1] at h
  have h1' : decide ((x0.length : Int) = (0 : Int)) = true := decide_eq_true h1
  obtain rfl := Option.some.inj h
  simp (maxSteps := 10000000) (implicitDefEqProofs := false) (disch := first | assumption | omega | exact rfl) only [bs, rs47, ls47, Nat.reduceAdd, ↓reduceIte, lenD_lst u22, ops_copy, ↓h1']
  refine ⟨by first | exact .inl trivial | exact .inr trivial | simp, ?_⟩
  exact finish_is (ds := [.p (.lst true 0 [])]) (x := .lst true 0 []) (y := .lst false ([] : List ByteArray).length (encL en_str ([] : List ByteArray))) (l := []) rfl rfl rfl rfl (by first | rfl | (simp only [wk, wks, wkL]; first | done | rfl))
 ·rw [if_neg h1] at h
  have h1' : decide ((x0.length : Int) = (0 : Int)) = false := decide_eq_false h1
  by_cases hw_ : 0 ≤ (x0.length : Int) ∧ (x0.length : Int) * 16 ≤ 140737488355328
  case neg => rw [if_neg hw_] at h; cases h
  rw [if_pos hw_] at h
  obtain ⟨h2, h3⟩ := hw_
  have h4 := cp_22 (H := [.arr (encL en_str (List.replicate (x0.length : Int).toNat ByteArray.empty))]) (t2 := 22) (id := 0) (n := (List.replicate (x0.length : Int).toNat ByteArray.empty).length) (x := (List.replicate (x0.length : Int).toNat ByteArray.empty)) (y := x0) (full := false) rfl (by first | rfl | omega)
  have h5 : (cpL (List.replicate (x0.length : Int).toNat ByteArray.empty) x0).length = (List.replicate (x0.length : Int).toNat ByteArray.empty).length := cpL_len _ _
  obtain rfl := Option.some.inj h
  simp (maxSteps := 10000000) (implicitDefEqProofs := false) (disch := first | assumption | omega | exact rfl) only [bs, rs47, ls47, Nat.reduceAdd, ↓reduceIte, lenD_lst u22, ops_copy, ↓h1', h4]
  refine ⟨by first | exact .inl trivial | exact .inr trivial | simp, ?_⟩
  exact finish_is (ds := [.ref 0 0 ((List.replicate (x0.length : Int).toNat ByteArray.empty).length) 1]) (x := .lst false (cpL (List.replicate (x0.length : Int).toNat ByteArray.empty) x0).length (encL en_str (cpL (List.replicate (x0.length : Int).toNat ByteArray.empty) x0))) (y := .lst false (cpL (List.replicate (x0.length : Int).toNat ByteArray.empty) x0).length (encL en_str (cpL (List.replicate (x0.length : Int).toNat ByteArray.empty) x0))) (l := [0]) rfl rfl rfl (purify1_enc en_str_len rfl (by first | rfl | omega)) (by first | rfl | (simp only [wk, wks, wkL]; first | done | rfl))
theorem tree_texts_call {b1 : Bool} {H : List Ob} {x0 : (List ByteArray)} {r : (List ByteArray)} (h : tree_texts x0 = some r) : callD (callW Try.prog A0) A0 H 47 [.p (.lst b1 x0.length (encL en_str x0))] = some (.p (.lst false r.length (encL en_str r)), none) :=
  callD_fun (args := [.lst b1 x0.length (encL en_str x0)]) rfl rfl rfl (by simp only [List.map_cons, List.map_nil, wk, wks, wkL]; exact f47_ok x0 _ h)
def ls41 := And.intro @al_25 (And.intro @ap_23_23 (And.intro @bs_23_1 (And.intro @bu_25_0_1_2 (And.intro @faP_25_0 (And.intro @faP_25_1 (And.intro @faP_25_2 (And.intro @faP_25_3 (And.intro @idxL_23 (And.intro @sa_4_0_4 (And.intro @sg_4_0_3_r (And.intro @sg_4_0_pppr (And.intro @varld_4_0_0 (And.intro @varld_4_0_1 (And.intro @varld_4_0_2 (And.intro @varld_4_0_3 (And.intro @varlg_pppr (@varlv_4_0_4)))))))))))))))))
theorem tree_clone_rcall {rec : Node → Option Node} (hrec : ∀ x0 r, rec x0 = some r → callW Try.prog A0 41 [.p (.agg [.v (.int .i64 x0.Kind), .v (.string x0.Text), .lst false x0.Gaps.length (encL en_str x0.Gaps), .lst false x0.Kids.length (encL en_Node x0.Kids)])] [] = some (.p (.agg [.v (.int .i64 r.Kind), .v (.string r.Text), .lst false r.Gaps.length (encL en_str r.Gaps), .lst false r.Kids.length (encL en_Node r.Kids)]), [])) {b1 b2 : Bool} {H : List Ob} {x0 : Node} {r : Node} (h : rec x0 = some r) : callD (callW Try.prog A0) A0 H 41 [.p (.agg [.v (.int .i64 x0.Kind), .v (.string x0.Text), .lst b1 x0.Gaps.length (encL en_str x0.Gaps), .lst b2 x0.Kids.length (encL en_Node x0.Kids)])] = some (.p (.agg [.v (.int .i64 r.Kind), .v (.string r.Text), .lst false r.Gaps.length (encL en_str r.Gaps), .lst false r.Kids.length (encL en_Node r.Kids)]), none) :=
  callD_fun (args := [.agg [.v (.int .i64 x0.Kind), .v (.string x0.Text), .lst b1 x0.Gaps.length (encL en_str x0.Gaps), .lst b2 x0.Kids.length (encL en_Node x0.Kids)]]) rfl rfl rfl (by simp only [List.map_cons, List.map_nil, wk, wks, wkL]; exact hrec x0 _ h)
noncomputable def L41_0 : Code := (loopsOf (bodyOf Try.f41)).getD 0 .skip
def g41_0 : List Ghost := [.ownC 3 3 4, .weak [15], .keep [2, 3, 15, 16, 17]]
def F41_0 (s15 : (List Node)) (s16 : Int) (w0_0 : Int) (w0_1 : ByteArray) (w1_0 : Int) (w1_1 : ByteArray) (w1_2 : (List ByteArray)) : (Int × (List Node)) → St := fun (s17, y2) => ⟨[.junk, .junk, .ptr 0 0, .ptr 1 0, .junk, .junk, .junk, .junk, .junk, .junk, .junk, .junk, .junk, .junk, .junk, .p (.lst false s15.length (encL en_Node s15)), iv s16, iv s17, .junk, .junk, .junk, .junk, .junk, .junk, .junk, .junk, .junk, .junk, .junk, .junk], [.var [iv w0_0, .p (.v (.string w0_1)), .p (.lst true 0 []), .p (.lst true 0 [])], .var [iv w1_0, .p (.v (.string w1_1)), .p (.lst false w1_2.length (encL en_str w1_2)), .ref 2 0 y2.length 4], .arr (encL en_Node y2)], 0⟩
theorem L41_0_ok {rec : Node → Option Node} (hrec : ∀ x0 r, rec x0 = some r → callW Try.prog A0 41 [.p (.agg [.v (.int .i64 x0.Kind), .v (.string x0.Text), .lst false x0.Gaps.length (encL en_str x0.Gaps), .lst false x0.Kids.length (encL en_Node x0.Kids)])] [] = some (.p (.agg [.v (.int .i64 r.Kind), .v (.string r.Text), .lst false r.Gaps.length (encL en_str r.Gaps), .lst false r.Kids.length (encL en_Node r.Kids)]), [])) (s15 : (List Node)) (s16 : Int) (w0_0 : Int) (w0_1 : ByteArray) (w1_0 : Int) (w1_1 : ByteArray) (w1_2 : (List ByteArray)) : ∀ s st o, ghostsD g41_0 st = some (F41_0 s15 s16 w0_0 w0_1 w1_0 w1_1 w1_2 s) → iter (tree_clone_L0 rec s15 s16 w0_0 w0_1 w1_0 w1_1 w1_2) s = some o →
    Wp (evW Try.prog A0 41 (.loop L41_0) st) (OutQ (F41_0 s15 s16 w0_0 w0_1 w1_0 w1_1 w1_2) g41_0 (fun n s st => n = 0 ∧ ghostsD [.keep [2, 3, 15, 16, 17]] st = some (F41_0 s15 s16 w0_0 w0_1 w1_0 w1_1 w1_2 s)) (fun r st => finishD Try.prog A0 41 Try.f41 st = some (.p (.agg [.v (.int .i64 r.Kind), .v (.string r.Text), .lst false r.Gaps.length (encL en_str r.Gaps), .lst false r.Kids.length (encL en_Node r.Kids)]), [])) o) := by
 refine Wp.iter ?_
 intro s st o hg h
 obtain ⟨s17, y2⟩ := s
 unfold tree_clone_L0 at h
 unfold g41_0 F41_0 at hg ⊢
 (try simp only [] at h hg)
 unfold L41_0 bodyOf Try.f41; simp only [Option.getD_some, loopsOf, List.append_nil, List.nil_append, List.cons_append, List.getD_cons_zero, List.getD_cons_succ]
 by_cases h4 : s17 < s16
 ·rw [if_pos h4] at h
  have h4' : decide (s17 < s16) = true := decide_eq_true h4
  obtain ⟨v5, h6, h⟩ := bsm h
  obtain ⟨h6a, h6b, _⟩ := rd_some h6
  have h7 := lk_frz_25 h6
  obtain ⟨r8, h9, h⟩ := bsm h
  have h10 : ∀ H, callD (callW Try.prog A0) A0 H 41 [.p (.agg [.v (.int .i64 v5.Kind), .v (.string v5.Text), .lst false v5.Gaps.length (encL en_str v5.Gaps), .lst false v5.Kids.length (encL en_Node v5.Kids)])] = some (.p (.agg [.v (.int .i64 r8.Kind), .v (.string r8.Text), .lst false r8.Gaps.length (encL en_str r8.Gaps), .lst false r8.Kids.length (encL en_Node r8.Kids)]), none) := fun H => tree_clone_rcall hrec h9
  by_cases hw_ : (y2.length + 1) * 72 ≤ 140737488355328
  case neg => rw [if_neg hw_] at h; cases h
  rw [if_pos hw_] at h
  have h12 := hw_
  have h11 : ∀ (H : List Ob) (id : Nat), apOb H id 0 y2.length 1 4 4 72 [.v (.int .i64 r8.Kind), .v (.string r8.Text), .lst false r8.Gaps.length (encL en_str r8.Gaps), .lst false r8.Kids.length (encL en_Node r8.Kids)] (some (.arr (encL en_Node y2))) = some (.ref H.length 0 (y2 ++ [r8]).length 4, H.set id .dead ++ [.arr (encL en_Node (y2 ++ [r8]))]) := fun H id => ap_enc (y := [r8]) en_Node_len (by first | rfl | omega) rfl (by first | (simp only [encL_cons, encL_nil, en_Node_eq, List.cons_append, List.nil_append]; done) | (simp only [encL_cons, encL_nil, en_Node_eq, List.cons_append, List.nil_append]; rfl) | rfl) (by assumption)
  obtain rfl := Option.some.inj h
  simp (maxSteps := 10000000) (implicitDefEqProofs := false) (disch := first | assumption | omega | exact rfl | (refine dynT ?_; kernel_rfl)) only [bs, rs41, ls41, Nat.reduceAdd, ↓reduceIte, lenD_lst u23, loadD_iagg a25 z25, loadD_pagg a25 z25, loadD_ptr a22, loadD_ptr a23, loadD_ptr a3, loadD_ptr a9, storeD_agg z25, storeD_gagg z25, storeD_gref z23, wksL_en_Node, wksL_en_str, wks_nil_, hg, ↓h4', h7, h10, h11]
  exact ⟨rfl, by kernel_rfl⟩
 ·rw [if_neg h4] at h
  have h4' : decide (s17 < s16) = false := decide_eq_false h4
  obtain rfl := Option.some.inj h
  simp (maxSteps := 10000000) (implicitDefEqProofs := false) (disch := first | assumption | omega | exact rfl | (refine dynT ?_; kernel_rfl)) only [bs, rs41, ls41, Nat.reduceAdd, ↓reduceIte, lenD_lst u23, loadD_iagg a25 z25, loadD_pagg a25 z25, loadD_ptr a22, loadD_ptr a23, loadD_ptr a3, loadD_ptr a9, storeD_agg z25, storeD_gagg z25, storeD_gref z23, wksL_en_Node, wksL_en_str, wks_nil_, hg, ↓h4']
  exact ⟨rfl, rfl, by kernel_rfl⟩
theorem f41_ok {rec : Node → Option Node} (hrec : ∀ x0 r, rec x0 = some r → callW Try.prog A0 41 [.p (.agg [.v (.int .i64 x0.Kind), .v (.string x0.Text), .lst false x0.Gaps.length (encL en_str x0.Gaps), .lst false x0.Kids.length (encL en_Node x0.Kids)])] [] = some (.p (.agg [.v (.int .i64 r.Kind), .v (.string r.Text), .lst false r.Gaps.length (encL en_str r.Gaps), .lst false r.Kids.length (encL en_Node r.Kids)]), []))  (x0 : Node) (r : Node) (h : tree_clone.body rec x0 = some r) : callW Try.prog A0 41 [.p (.agg [.v (.int .i64 x0.Kind), .v (.string x0.Text), .lst false x0.Gaps.length (encL en_str x0.Gaps), .lst false x0.Kids.length (encL en_Node x0.Kids)])] [] = some (.p (.agg [.v (.int .i64 r.Kind), .v (.string r.Text), .lst false r.Gaps.length (encL en_str r.Gaps), .lst false r.Kids.length (encL en_Node r.Kids)]), []) := by
 refine call_ofH (fn := Try.f41) (c := bodyOf Try.f41) rfl rfl (by kernel_rfl) (by kernel_rfl) ?_
 rw [show initS Try.f41 [.p (.agg [.v (.int .i64 x0.Kind), .v (.string x0.Text), .lst false x0.Gaps.length (encL en_str x0.Gaps), .lst false x0.Kids.length (encL en_Node x0.Kids)])] [] = ⟨.p (.agg [.v (.int .i64 x0.Kind), .v (.string x0.Text), .lst false x0.Gaps.length (encL en_str x0.Gaps), .lst false x0.Kids.length (encL en_Node x0.Kids)]) :: List.replicate 29 undefD, [], 0⟩ from by kernel_rfl]
 unfold tree_clone.body at h
 unfold bodyOf Try.f41; simp only [Option.getD_some, loopsOf, List.append_nil, List.nil_append, List.cons_append, List.getD_cons_zero, List.getD_cons_succ]
 simp only [List.replicate]
 obtain ⟨r1, h2, h⟩ := bsm h
 have h3 : ∀ H, callD (callW Try.prog A0) A0 H 47 [.p (.lst false x0.Gaps.length (encL en_str x0.Gaps))] = some (.p (.lst false r1.length (encL en_str r1)), none) := fun H => tree_texts_call h2
 obtain ⟨o, h13, h⟩ := bsm h
 simp (maxSteps := 10000000) (implicitDefEqProofs := false) (disch := first | assumption | omega | exact rfl | (refine dynT ?_; kernel_rfl)) only [bs, rs41, ls41, Nat.reduceAdd, ↓reduceIte, lenD_lst u23, loadD_iagg a25 z25, loadD_pagg a25 z25, loadD_ptr a22, loadD_ptr a23, loadD_ptr a3, loadD_ptr a9, storeD_agg z25, storeD_gagg z25, storeD_gref z23, wksL_en_Node, wksL_en_str, wks_nil_, h3]
 refine Wp.ctx (fun x => seqW _ _ _ _ (blockW _ (x))) (L41_0_ok hrec x0.Kids (x0.Kids.length : Int) (0 : Int) ByteArray.empty x0.Kind x0.Text r1 ((0 : Int), ([] : List Node)) _ o (by kernel_rfl) h13) ?_
 intro e st hq
 cases o with
 | next _ => (first | cases h | (simp at h))
 | jmp n_ s_ =>
  obtain ⟨rfl, rfl, hq⟩ := hq
  obtain ⟨s17_14, y2_14⟩ := s_
  unfold F41_0 at hq
  (try simp only [] at h hq)
  obtain rfl := Option.some.inj h
  simp (maxSteps := 10000000) (implicitDefEqProofs := false) (disch := first | assumption | omega | exact rfl | (refine dynT ?_; kernel_rfl)) only [bs, rs41, ls41, Nat.reduceAdd, ↓reduceIte, lenD_lst u23, loadD_iagg a25 z25, loadD_pagg a25 z25, loadD_ptr a22, loadD_ptr a23, loadD_ptr a3, loadD_ptr a9, storeD_agg z25, storeD_gagg z25, storeD_gref z23, wksL_en_Node, wksL_en_str, wks_nil_, h3, hq]
  refine ⟨by first | exact .inl trivial | exact .inr trivial | simp, ?_⟩
  exact finish_is (ds := [.agg [iv x0.Kind, .p (.v (.string x0.Text)), .p (.lst false r1.length (encL en_str r1)), .ref 2 0 y2_14.length 4]]) (x := .agg [.v (.int .i64 x0.Kind), .v (.string x0.Text), .lst false r1.length (encL en_str r1), .lst false y2_14.length (encL en_Node y2_14)]) (y := .agg [.v (.int .i64 x0.Kind), .v (.string x0.Text), .lst false r1.length (encL en_str r1), .lst false y2_14.length (encL en_Node y2_14)]) (l := [2]) rfl rfl (by kernel_rfl) (purify1_agg (purifys_pc (purifys_pc (purifys_pc (purifys_rc en_Node_len rfl (by first | rfl | omega) purifys_nil))))) (by first | rfl | (simp only [wk, wks, wkL]; first | done | rfl))
 | ret _ => (first | cases h | (simp at h))
theorem f41_spec : ∀ (x0 : Node) r, tree_cloneS x0 = some r → callW Try.prog A0 41 [.p (.agg [.v (.int .i64 x0.Kind), .v (.string x0.Text), .lst false x0.Gaps.length (encL en_str x0.Gaps), .lst false x0.Kids.length (encL en_Node x0.Kids)])] [] = some (.p (.agg [.v (.int .i64 r.Kind), .v (.string r.Text), .lst false r.Gaps.length (encL en_str r.Gaps), .lst false r.Kids.length (encL en_Node r.Kids)]), []) := by
  have key : ∀ n (x0 : Node) r, tree_cloneS_mu x0 < n → tree_cloneS x0 = some r → callW Try.prog A0 41 [.p (.agg [.v (.int .i64 x0.Kind), .v (.string x0.Text), .lst false x0.Gaps.length (encL en_str x0.Gaps), .lst false x0.Kids.length (encL en_Node x0.Kids)])] [] = some (.p (.agg [.v (.int .i64 r.Kind), .v (.string r.Text), .lst false r.Gaps.length (encL en_str r.Gaps), .lst false r.Kids.length (encL en_Node r.Kids)]), []) := by
    intro n
    induction n with
    | zero => intro x0 r h; omega
    | succ n ih =>
      intro x0 r hn h
      refine f41_ok (rec := fun x0' => if tree_cloneS_mu x0' < tree_cloneS_mu x0 then tree_cloneS x0' else none) ?_ x0 r (tree_cloneS_body x0 r h)
      intro x0' r' h'
      by_cases hm : tree_cloneS_mu x0' < tree_cloneS_mu x0
      · rw [if_pos hm] at h'; exact ih x0' r' (by omega) h'
      · rw [if_neg hm] at h'; cases h'
  intro x0 r h
  exact key _ x0 r (Nat.lt_succ_self _) h
theorem tree_clone_call {b1 b2 : Bool} {H : List Ob} {x0 : Node} {r : Node} (h : tree_cloneS x0 = some r) : callD (callW Try.prog A0) A0 H 41 [.p (.agg [.v (.int .i64 x0.Kind), .v (.string x0.Text), .lst b1 x0.Gaps.length (encL en_str x0.Gaps), .lst b2 x0.Kids.length (encL en_Node x0.Kids)])] = some (.p (.agg [.v (.int .i64 r.Kind), .v (.string r.Text), .lst false r.Gaps.length (encL en_str r.Gaps), .lst false r.Kids.length (encL en_Node r.Kids)]), none) :=
  callD_fun (args := [.agg [.v (.int .i64 x0.Kind), .v (.string x0.Text), .lst b1 x0.Gaps.length (encL en_str x0.Gaps), .lst b2 x0.Kids.length (encL en_Node x0.Kids)]]) rfl rfl rfl (by simp only [List.map_cons, List.map_nil, wk, wks, wkL]; exact f41_spec x0 _ h)
def ls22 := And.intro @al_25 (And.intro @bu_25_ (And.intro @ex_3_0 (And.intro @ex_3_1 (And.intro @ex_3_2 (And.intro @sa_4_0_4 (@varlv_4_0_4))))))
theorem f22_ok  (x0 : Node) (x1 : Int) (r : (Node × Bool)) (h : tree_At x0 x1 = some r) : callW Try.prog A0 22 [.p (.agg [.v (.int .i64 x0.Kind), .v (.string x0.Text), .lst false x0.Gaps.length (encL en_str x0.Gaps), .lst false x0.Kids.length (encL en_Node x0.Kids)]), iv x1] [] = some (.p (.tup [.agg [.v (.int .i64 r.1.Kind), .v (.string r.1.Text), .lst false r.1.Gaps.length (encL en_str r.1.Gaps), .lst false r.1.Kids.length (encL en_Node r.1.Kids)], .v (.bool r.2)]), []) := by
 refine call_ofH (fn := Try.f22) (c := bodyOf Try.f22) rfl rfl (by kernel_rfl) (by kernel_rfl) ?_
 rw [show initS Try.f22 [.p (.agg [.v (.int .i64 x0.Kind), .v (.string x0.Text), .lst false x0.Gaps.length (encL en_str x0.Gaps), .lst false x0.Kids.length (encL en_Node x0.Kids)]), iv x1] [] = ⟨.p (.agg [.v (.int .i64 x0.Kind), .v (.string x0.Text), .lst false x0.Gaps.length (encL en_str x0.Gaps), .lst false x0.Kids.length (encL en_Node x0.Kids)]) :: iv x1 :: List.replicate 22 undefD, [], 0⟩ from by kernel_rfl]
 unfold tree_At at h
 unfold bodyOf Try.f22; simp only [Option.getD_some, loopsOf, List.append_nil, List.nil_append, List.cons_append, List.getD_cons_zero, List.getD_cons_succ]
 simp only [List.replicate]
 by_cases h1 : x1 < (0 : Int)
 ·rw [if_pos h1] at h
  have h1' : decide (x1 < (0 : Int)) = true := decide_eq_true h1
  obtain rfl := Option.some.inj h
  simp (maxSteps := 10000000) (implicitDefEqProofs := false) (disch := first | assumption | omega | exact rfl) only [bs, rs22, ls22, Nat.reduceAdd, ↓reduceIte, loadD_pagg a25 z25, storeD_agg z25, ↓h1']
  refine ⟨by first | exact .inl trivial | exact .inr trivial | simp, ?_⟩
  exact finish_is (ds := [.p (.agg [.v (.int .i64 (0 : Int)), .v (.string ByteArray.empty), .lst true 0 [], .lst true 0 []]), bv false]) (x := .tup [.agg [.v (.int .i64 (0 : Int)), .v (.string ByteArray.empty), .lst true 0 [], .lst true 0 []], .v (.bool false)]) (y := .tup [.agg [.v (.int .i64 (0 : Int)), .v (.string ByteArray.empty), .lst false ([] : List ByteArray).length (encL en_str ([] : List ByteArray)), .lst false ([] : List Node).length (encL en_Node ([] : List Node))], .v (.bool false)]) (l := []) rfl rfl (by kernel_rfl) rfl (by first | rfl | (simp only [wk, wks, wkL]; first | done | rfl))
 ·rw [if_neg h1] at h
  have h1' : decide (x1 < (0 : Int)) = false := decide_eq_false h1
  obtain ⟨r2, h3, h⟩ := bsm h
  have h4 : ∀ H, callD (callW Try.prog A0) A0 H 40 [.p (.agg [.v (.int .i64 x0.Kind), .v (.string x0.Text), .lst false x0.Gaps.length (encL en_str x0.Gaps), .lst false x0.Kids.length (encL en_Node x0.Kids)]), iv x1] = some (.p (.tup [.agg [.v (.int .i64 r2.1.Kind), .v (.string r2.1.Text), .lst false r2.1.Gaps.length (encL en_str r2.1.Gaps), .lst false r2.1.Kids.length (encL en_Node r2.1.Kids)], .v (.int .i64 r2.2.1), .v (.bool r2.2.2)]), none) := fun H => tree_locate_call h3
  by_cases h5 : r2.2.2 = true
  ·rw [if_pos h5] at h
   obtain ⟨r6, h7, h⟩ := bsm h
   have h8 : ∀ H, callD (callW Try.prog A0) A0 H 41 [.p (.agg [.v (.int .i64 r2.1.Kind), .v (.string r2.1.Text), .lst false r2.1.Gaps.length (encL en_str r2.1.Gaps), .lst false r2.1.Kids.length (encL en_Node r2.1.Kids)])] = some (.p (.agg [.v (.int .i64 r6.Kind), .v (.string r6.Text), .lst false r6.Gaps.length (encL en_str r6.Gaps), .lst false r6.Kids.length (encL en_Node r6.Kids)]), none) := fun H => tree_clone_call h7
   obtain rfl := Option.some.inj h
   simp (maxSteps := 10000000) (implicitDefEqProofs := false) (disch := first | assumption | omega | exact rfl) only [bs, rs22, ls22, Nat.reduceAdd, ↓reduceIte, loadD_pagg a25 z25, storeD_agg z25, ↓h1', h4, h5, h8]
   refine ⟨by first | exact .inl trivial | exact .inr trivial | simp, ?_⟩
   exact finish_is (ds := [.p (.agg [.v (.int .i64 r6.Kind), .v (.string r6.Text), .lst false r6.Gaps.length (encL en_str r6.Gaps), .lst false r6.Kids.length (encL en_Node r6.Kids)]), bv true]) (x := .tup [.agg [.v (.int .i64 r6.Kind), .v (.string r6.Text), .lst false r6.Gaps.length (encL en_str r6.Gaps), .lst false r6.Kids.length (encL en_Node r6.Kids)], .v (.bool true)]) (y := .tup [.agg [.v (.int .i64 r6.Kind), .v (.string r6.Text), .lst false r6.Gaps.length (encL en_str r6.Gaps), .lst false r6.Kids.length (encL en_Node r6.Kids)], .v (.bool true)]) (l := []) rfl rfl (by kernel_rfl) rfl (by first | rfl | (simp only [wk, wks, wkL]; first | done | rfl))
  ·rw [if_neg h5] at h
   replace h5 := Bool.eq_false_iff.2 h5
   obtain rfl := Option.some.inj h
   simp (maxSteps := 10000000) (implicitDefEqProofs := false) (disch := first | assumption | omega | exact rfl) only [bs, rs22, ls22, Nat.reduceAdd, ↓reduceIte, loadD_pagg a25 z25, storeD_agg z25, ↓h1', h4, h5]
   refine ⟨by first | exact .inl trivial | exact .inr trivial | simp, ?_⟩
   exact finish_is (ds := [.p (.agg [.v (.int .i64 (0 : Int)), .v (.string ByteArray.empty), .lst true 0 [], .lst true 0 []]), bv false]) (x := .tup [.agg [.v (.int .i64 (0 : Int)), .v (.string ByteArray.empty), .lst true 0 [], .lst true 0 []], .v (.bool false)]) (y := .tup [.agg [.v (.int .i64 (0 : Int)), .v (.string ByteArray.empty), .lst false ([] : List ByteArray).length (encL en_str ([] : List ByteArray)), .lst false ([] : List Node).length (encL en_Node ([] : List Node))], .v (.bool false)]) (l := []) rfl rfl (by kernel_rfl) rfl (by first | rfl | (simp only [wk, wks, wkL]; first | done | rfl))
theorem tree_At_call {b1 b2 : Bool} {H : List Ob} {x0 : Node} {x1 : Int} {r : (Node × Bool)} (h : tree_At x0 x1 = some r) : callD (callW Try.prog A0) A0 H 22 [.p (.agg [.v (.int .i64 x0.Kind), .v (.string x0.Text), .lst b1 x0.Gaps.length (encL en_str x0.Gaps), .lst b2 x0.Kids.length (encL en_Node x0.Kids)]), iv x1] = some (.p (.tup [.agg [.v (.int .i64 r.1.Kind), .v (.string r.1.Text), .lst false r.1.Gaps.length (encL en_str r.1.Gaps), .lst false r.1.Kids.length (encL en_Node r.1.Kids)], .v (.bool r.2)]), none) :=
  callD_fun (args := [.agg [.v (.int .i64 x0.Kind), .v (.string x0.Text), .lst b1 x0.Gaps.length (encL en_str x0.Gaps), .lst b2 x0.Kids.length (encL en_Node x0.Kids)], .v (.int .i64 x1)]) rfl rfl rfl (by simp only [List.map_cons, List.map_nil, wk, wks, wkL]; exact f22_ok x0 x1 _ h)
def ls23 := And.intro @al_25 (And.intro @faP_25_3 (And.intro @idxL_23 (And.intro @sa_4_0_4 (And.intro @varld_4_0_3 (@varlv_4_0_4)))))
theorem tree_Size_rcall {rec : Node → Option Int} (hrec : ∀ x0 r, rec x0 = some r → callW Try.prog A0 23 [.p (.agg [.v (.int .i64 x0.Kind), .v (.string x0.Text), .lst false x0.Gaps.length (encL en_str x0.Gaps), .lst false x0.Kids.length (encL en_Node x0.Kids)])] [] = some (.p (.v (.int .i64 r)), [])) {b1 b2 : Bool} {H : List Ob} {x0 : Node} {r : Int} (h : rec x0 = some r) : callD (callW Try.prog A0) A0 H 23 [.p (.agg [.v (.int .i64 x0.Kind), .v (.string x0.Text), .lst b1 x0.Gaps.length (encL en_str x0.Gaps), .lst b2 x0.Kids.length (encL en_Node x0.Kids)])] = some (.p (.v (.int .i64 r)), none) :=
  callD_fun (args := [.agg [.v (.int .i64 x0.Kind), .v (.string x0.Text), .lst b1 x0.Gaps.length (encL en_str x0.Gaps), .lst b2 x0.Kids.length (encL en_Node x0.Kids)]]) rfl rfl rfl (by simp only [List.map_cons, List.map_nil, wk, wks, wkL]; exact hrec x0 _ h)
noncomputable def L23_0 : Code := (loopsOf (bodyOf Try.f23)).getD 0 .skip
def g23_0 : List Ghost := [.weak [7], .keep [3, 7, 8, 9]]
def F23_0 (s7 : (List Node)) (s8 : Int) : (Int × Int) → St := fun (s3, s9) => ⟨[.junk, .junk, .junk, iv s3, .junk, .junk, .junk, .p (.lst false s7.length (encL en_Node s7)), iv s8, iv s9, .junk, .junk, .junk, .junk, .junk, .junk, .junk, .junk, .junk], [], 0⟩
theorem L23_0_ok {rec : Node → Option Int} (hrec : ∀ x0 r, rec x0 = some r → callW Try.prog A0 23 [.p (.agg [.v (.int .i64 x0.Kind), .v (.string x0.Text), .lst false x0.Gaps.length (encL en_str x0.Gaps), .lst false x0.Kids.length (encL en_Node x0.Kids)])] [] = some (.p (.v (.int .i64 r)), [])) (s7 : (List Node)) (s8 : Int) : ∀ s st o, ghostsD g23_0 st = some (F23_0 s7 s8 s) → iter (tree_Size_L0 rec s7 s8) s = some o →
    Wp (evW Try.prog A0 23 (.loop L23_0) st) (OutQ (F23_0 s7 s8) g23_0 (fun n s st => n = 0 ∧ ghostsD [.keep [3, 7, 8, 9]] st = some (F23_0 s7 s8 s)) (fun r st => finishD Try.prog A0 23 Try.f23 st = some (.p (.v (.int .i64 r)), [])) o) := by
 refine Wp.iter ?_
 intro s st o hg h
 obtain ⟨s3, s9⟩ := s
 unfold tree_Size_L0 at h
 unfold g23_0 F23_0 at hg ⊢
 (try simp only [] at h hg)
 unfold L23_0 bodyOf Try.f23; simp only [Option.getD_some, loopsOf, List.append_nil, List.nil_append, List.cons_append, List.getD_cons_zero, List.getD_cons_succ]
 by_cases h1 : s9 < s8
 ·rw [if_pos h1] at h
  have h1' : decide (s9 < s8) = true := decide_eq_true h1
  obtain ⟨v2, h3, h⟩ := bsm h
  obtain ⟨h3a, h3b, _⟩ := rd_some h3
  have h4 := lk_frz_25 h3
  obtain ⟨r5, h6, h⟩ := bsm h
  have h7 : ∀ H, callD (callW Try.prog A0) A0 H 23 [.p (.agg [.v (.int .i64 v2.Kind), .v (.string v2.Text), .lst false v2.Gaps.length (encL en_str v2.Gaps), .lst false v2.Kids.length (encL en_Node v2.Kids)])] = some (.p (.v (.int .i64 r5)), none) := fun H => tree_Size_rcall hrec h6
  obtain rfl := Option.some.inj h
  simp (maxSteps := 10000000) (implicitDefEqProofs := false) (disch := first | assumption | omega | exact rfl) only [bs, rs23, ls23, Nat.reduceAdd, ↓reduceIte, lenD_lst u23, loadD_iagg a25 z25, loadD_pagg a25 z25, loadD_ptr a23, storeD_agg z25, hg, ↓h1', h4, h7]
  exact ⟨rfl, by kernel_rfl⟩
 ·rw [if_neg h1] at h
  have h1' : decide (s9 < s8) = false := decide_eq_false h1
  obtain rfl := Option.some.inj h
  simp (maxSteps := 10000000) (implicitDefEqProofs := false) (disch := first | assumption | omega | exact rfl) only [bs, rs23, ls23, Nat.reduceAdd, ↓reduceIte, lenD_lst u23, loadD_iagg a25 z25, loadD_pagg a25 z25, loadD_ptr a23, storeD_agg z25, hg, ↓h1']
  exact ⟨rfl, rfl, by kernel_rfl⟩
theorem f23_ok {rec : Node → Option Int} (hrec : ∀ x0 r, rec x0 = some r → callW Try.prog A0 23 [.p (.agg [.v (.int .i64 x0.Kind), .v (.string x0.Text), .lst false x0.Gaps.length (encL en_str x0.Gaps), .lst false x0.Kids.length (encL en_Node x0.Kids)])] [] = some (.p (.v (.int .i64 r)), []))  (x0 : Node) (r : Int) (h : tree_Size.body rec x0 = some r) : callW Try.prog A0 23 [.p (.agg [.v (.int .i64 x0.Kind), .v (.string x0.Text), .lst false x0.Gaps.length (encL en_str x0.Gaps), .lst false x0.Kids.length (encL en_Node x0.Kids)])] [] = some (.p (.v (.int .i64 r)), []) := by
 refine call_ofH (fn := Try.f23) (c := bodyOf Try.f23) rfl rfl (by kernel_rfl) (by kernel_rfl) ?_
 rw [show initS Try.f23 [.p (.agg [.v (.int .i64 x0.Kind), .v (.string x0.Text), .lst false x0.Gaps.length (encL en_str x0.Gaps), .lst false x0.Kids.length (encL en_Node x0.Kids)])] [] = ⟨.p (.agg [.v (.int .i64 x0.Kind), .v (.string x0.Text), .lst false x0.Gaps.length (encL en_str x0.Gaps), .lst false x0.Kids.length (encL en_Node x0.Kids)]) :: List.replicate 18 undefD, [], 0⟩ from by kernel_rfl]
 unfold tree_Size.body at h
 unfold bodyOf Try.f23; simp only [Option.getD_some, loopsOf, List.append_nil, List.nil_append, List.cons_append, List.getD_cons_zero, List.getD_cons_succ]
 simp only [List.replicate]
 obtain ⟨o, h8, h⟩ := bsm h
 simp (maxSteps := 10000000) (implicitDefEqProofs := false) (disch := first | assumption | omega | exact rfl) only [bs, rs23, ls23, Nat.reduceAdd, ↓reduceIte, lenD_lst u23, loadD_iagg a25 z25, loadD_pagg a25 z25, loadD_ptr a23, storeD_agg z25]
 refine Wp.ctx (fun x => seqW _ _ _ _ (blockW _ (x))) (L23_0_ok hrec x0.Kids (x0.Kids.length : Int) ((1 : Int), (0 : Int)) _ o (by kernel_rfl) h8) ?_
 intro e st hq
 cases o with
 | next _ => (first | cases h | (simp at h))
 | jmp n_ s_ =>
  obtain ⟨rfl, rfl, hq⟩ := hq
  obtain ⟨s3_9, s9_9⟩ := s_
  unfold F23_0 at hq
  (try simp only [] at h hq)
  obtain rfl := Option.some.inj h
  simp (maxSteps := 10000000) (implicitDefEqProofs := false) (disch := first | assumption | omega | exact rfl) only [bs, rs23, ls23, Nat.reduceAdd, ↓reduceIte, lenD_lst u23, loadD_iagg a25 z25, loadD_pagg a25 z25, loadD_ptr a23, storeD_agg z25, hq]
  refine ⟨by first | exact .inl trivial | exact .inr trivial | simp, ?_⟩
  exact finish_is (ds := [iv s3_9]) (x := .v (.int .i64 s3_9)) (y := .v (.int .i64 s3_9)) (l := []) rfl rfl rfl rfl (by first | rfl | (simp only [wk, wks, wkL]; first | done | rfl))
 | ret _ => (first | cases h | (simp at h))
theorem f23_spec : ∀ (x0 : Node) r, tree_SizeS x0 = some r → callW Try.prog A0 23 [.p (.agg [.v (.int .i64 x0.Kind), .v (.string x0.Text), .lst false x0.Gaps.length (encL en_str x0.Gaps), .lst false x0.Kids.length (encL en_Node x0.Kids)])] [] = some (.p (.v (.int .i64 r)), []) := by
  have key : ∀ n (x0 : Node) r, tree_SizeS_mu x0 < n → tree_SizeS x0 = some r → callW Try.prog A0 23 [.p (.agg [.v (.int .i64 x0.Kind), .v (.string x0.Text), .lst false x0.Gaps.length (encL en_str x0.Gaps), .lst false x0.Kids.length (encL en_Node x0.Kids)])] [] = some (.p (.v (.int .i64 r)), []) := by
    intro n
    induction n with
    | zero => intro x0 r h; omega
    | succ n ih =>
      intro x0 r hn h
      refine f23_ok (rec := fun x0' => if tree_SizeS_mu x0' < tree_SizeS_mu x0 then tree_SizeS x0' else none) ?_ x0 r (tree_SizeS_body x0 r h)
      intro x0' r' h'
      by_cases hm : tree_SizeS_mu x0' < tree_SizeS_mu x0
      · rw [if_pos hm] at h'; exact ih x0' r' (by omega) h'
      · rw [if_neg hm] at h'; cases h'
  intro x0 r h
  exact key _ x0 r (Nat.lt_succ_self _) h
theorem tree_Size_call {b1 b2 : Bool} {H : List Ob} {x0 : Node} {r : Int} (h : tree_SizeS x0 = some r) : callD (callW Try.prog A0) A0 H 23 [.p (.agg [.v (.int .i64 x0.Kind), .v (.string x0.Text), .lst b1 x0.Gaps.length (encL en_str x0.Gaps), .lst b2 x0.Kids.length (encL en_Node x0.Kids)])] = some (.p (.v (.int .i64 r)), none) :=
  callD_fun (args := [.agg [.v (.int .i64 x0.Kind), .v (.string x0.Text), .lst b1 x0.Gaps.length (encL en_str x0.Gaps), .lst b2 x0.Kids.length (encL en_Node x0.Kids)]]) rfl rfl rfl (by simp only [List.map_cons, List.map_nil, wk, wks, wkL]; exact f23_spec x0 _ h)
theorem f24_ok  (x0 : Int) (x1 : Int) (x2 : Int) (r : Bool) (h : similar_below x0 x1 x2 = some r) : callW Try.prog A0 24 [iv x0, iv x1, iv x2] [] = some (.p (.v (.bool r)), []) := by
 refine call_ofH (fn := Try.f24) (c := bodyOf Try.f24) rfl rfl (by kernel_rfl) (by kernel_rfl) ?_
 rw [show initS Try.f24 [iv x0, iv x1, iv x2] [] = ⟨iv x0 :: iv x1 :: iv x2 :: List.replicate 14 undefD, [], 0⟩ from by kernel_rfl]
 unfold similar_below at h
 unfold bodyOf Try.f24; simp only [Option.getD_some, loopsOf, List.append_nil, List.nil_append, List.cons_append, List.getD_cons_zero, List.getD_cons_succ]
 simp only [List.replicate]
 by_cases h1 : x1 < x0
 ·rw [if_pos h1] at h
  have h1' : decide (x1 < x0) = true := decide_eq_true h1
  obtain rfl := Option.some.inj h
  simp (maxSteps := 10000000) (implicitDefEqProofs := false) (disch := first | assumption | omega | exact rfl) only [bs, rs24, Nat.reduceAdd, ↓reduceIte, ↓h1']
  refine ⟨by first | exact .inl trivial | exact .inr trivial | simp, ?_⟩
  exact finish_is (ds := [bv (decide (x0 < (w64 (x1 + x2))))]) (x := .v (.bool (decide (x0 < (w64 (x1 + x2)))))) (y := .v (.bool (decide (x0 < (w64 (x1 + x2)))))) (l := []) rfl rfl rfl rfl (by first | rfl | (simp only [wk, wks, wkL]; first | done | rfl))
 ·rw [if_neg h1] at h
  have h1' : decide (x1 < x0) = false := decide_eq_false h1
  obtain rfl := Option.some.inj h
  simp (maxSteps := 10000000) (implicitDefEqProofs := false) (disch := first | assumption | omega | exact rfl) only [bs, rs24, Nat.reduceAdd, ↓reduceIte, ↓h1']
  refine ⟨by first | exact .inl trivial | exact .inr trivial | simp, ?_⟩
  exact finish_is (ds := [bv false]) (x := .v (.bool false)) (y := .v (.bool false)) (l := []) rfl rfl rfl rfl (by first | rfl | (simp only [wk, wks, wkL]; first | done | rfl))
theorem similar_below_call {H : List Ob} {x0 : Int} {x1 : Int} {x2 : Int} {r : Bool} (h : similar_below x0 x1 x2 = some r) : callD (callW Try.prog A0) A0 H 24 [iv x0, iv x1, iv x2] = some (.p (.v (.bool r)), none) :=
  callD_fun (args := [.v (.int .i64 x0), .v (.int .i64 x1), .v (.int .i64 x2)]) rfl rfl rfl (by simp only [List.map_cons, List.map_nil, wk, wks, wkL]; exact f24_ok x0 x1 x2 _ h)
def ls10 := And.intro @al_25 (And.intro @al_39 (And.intro @ex_2_0 (And.intro @ex_2_1 (And.intro @faP_39_0 (And.intro @faP_39_1 (And.intro @idxL_26 (And.intro @sa_2_0_2 (And.intro @sa_4_0_4 (And.intro @varld_2_0_0 (And.intro @varld_2_0_1 (@varlv_4_0_4)))))))))))
noncomputable def L10_0 : Code := (loopsOf (bodyOf Try.f10)).getD 0 .skip
def g10_0 : List Ghost := [.weak [43], .keep [3, 4, 16, 17, 18, 43, 44, 45]]
def F10_0 (s3 : Int) (s4 : Int) (s16 : Int) (s17 : Int) (s43 : (List Pair)) (s44 : Int) : (Int × Int) → St := fun (s18, s45) => ⟨[.junk, .junk, .junk, iv s3, iv s4, .junk, .junk, .junk, .junk, .junk, .junk, .junk, .junk, .junk, .junk, .junk, iv s16, iv s17, iv s18, .junk, .junk, .junk, .junk, .junk, .junk, .junk, .junk, .junk, .junk, .junk, .junk, .junk, .junk, .junk, .junk, .junk, .junk, .junk, .junk, .junk, .junk, .junk, .junk, .p (.lst false s43.length (encL en_Pair s43)), iv s44, iv s45, .junk, .junk, .junk, .junk, .junk, .junk, .junk, .junk, .junk, .junk, .junk, .junk, .junk, .junk, .junk, .junk, .junk, .junk, .junk, .junk, .junk, .junk, .junk], [], 0⟩
theorem L10_0_ok (s3 : Int) (s4 : Int) (s16 : Int) (s17 : Int) (s43 : (List Pair)) (s44 : Int) : ∀ s st o, ghostsD g10_0 st = some (F10_0 s3 s4 s16 s17 s43 s44 s) → iter (similar_Score_L0 s3 s4 s16 s17 s43 s44) s = some o →
    Wp (evW Try.prog A0 10 (.loop L10_0) st) (OutQ (F10_0 s3 s4 s16 s17 s43 s44) g10_0 (fun n s st => n = 0 ∧ ghostsD [.keep [3, 4, 16, 17, 18, 43, 44, 45]] st = some (F10_0 s3 s4 s16 s17 s43 s44 s)) (fun r st => finishD Try.prog A0 10 Try.f10 st = some (.p (.tup [.v (.int .i64 r.1), .v (.int .i64 r.2)]), [])) o) := by
 refine Wp.iter ?_
 intro s st o hg h
 obtain ⟨s18, s45⟩ := s
 unfold similar_Score_L0 at h
 unfold g10_0 F10_0 at hg ⊢
 (try simp only [] at h hg)
 unfold L10_0 bodyOf Try.f10; simp only [Option.getD_some, loopsOf, List.append_nil, List.nil_append, List.cons_append, List.getD_cons_zero, List.getD_cons_succ]
 by_cases h15 : s45 < s44
 ·rw [if_pos h15] at h
  have h15' : decide (s45 < s44) = true := decide_eq_true h15
  obtain ⟨v16, h17, h⟩ := bsm h
  obtain ⟨h17a, h17b, _⟩ := rd_some h17
  have h18 := lk_frz_39 h17
  obtain ⟨r19, h20, h⟩ := bsm h
  have h21 : ∀ H, callD (callW Try.prog A0) A0 H 24 [iv v16.Old, iv s3, iv s16] = some (.p (.v (.bool r19)), none) := fun H => similar_below_call h20
  by_cases h22 : r19 = true
  ·rw [if_pos h22] at h
   obtain ⟨r23, h24, h⟩ := bsm h
   have h25 : ∀ H, callD (callW Try.prog A0) A0 H 24 [iv v16.New, iv s4, iv s17] = some (.p (.v (.bool r23)), none) := fun H => similar_below_call h24
   by_cases h26 : r23 = true
   ·rw [if_pos h26] at h
    obtain rfl := Option.some.inj h
    simp (maxSteps := 10000000) (implicitDefEqProofs := false) (disch := first | assumption | omega | exact rfl) only [bs, rs10, ls10, Nat.reduceAdd, ↓reduceIte, lenD_lst u26, loadD_iagg a39 z39, loadD_pagg a25 z25, loadD_ptr a3, storeD_agg z25, storeD_agg z39, hg, ↓h15', h18, h21, h22, h25, h26]
    exact ⟨rfl, by kernel_rfl⟩
   ·rw [if_neg h26] at h
    replace h26 := Bool.eq_false_iff.2 h26
    obtain rfl := Option.some.inj h
    simp (maxSteps := 10000000) (implicitDefEqProofs := false) (disch := first | assumption | omega | exact rfl) only [bs, rs10, ls10, Nat.reduceAdd, ↓reduceIte, lenD_lst u26, loadD_iagg a39 z39, loadD_pagg a25 z25, loadD_ptr a3, storeD_agg z25, storeD_agg z39, hg, ↓h15', h18, h21, h22, h25, h26]
    exact ⟨rfl, by kernel_rfl⟩
  ·rw [if_neg h22] at h
   replace h22 := Bool.eq_false_iff.2 h22
   obtain rfl := Option.some.inj h
   simp (maxSteps := 10000000) (implicitDefEqProofs := false) (disch := first | assumption | omega | exact rfl) only [bs, rs10, ls10, Nat.reduceAdd, ↓reduceIte, lenD_lst u26, loadD_iagg a39 z39, loadD_pagg a25 z25, loadD_ptr a3, storeD_agg z25, storeD_agg z39, hg, ↓h15', h18, h21, h22]
   exact ⟨rfl, by kernel_rfl⟩
 ·rw [if_neg h15] at h
  have h15' : decide (s45 < s44) = false := decide_eq_false h15
  obtain rfl := Option.some.inj h
  simp (maxSteps := 10000000) (implicitDefEqProofs := false) (disch := first | assumption | omega | exact rfl) only [bs, rs10, ls10, Nat.reduceAdd, ↓reduceIte, lenD_lst u26, loadD_iagg a39 z39, loadD_pagg a25 z25, loadD_ptr a3, storeD_agg z25, storeD_agg z39, hg, ↓h15']
  exact ⟨rfl, rfl, by kernel_rfl⟩
theorem f10_ok  (x0 : Node) (x1 : Node) (x2 : (List Pair)) (x3 : Int) (x4 : Int) (r : (Int × Int)) (h : similar_Score x0 x1 x2 x3 x4 = some r) : callW Try.prog A0 10 [.p (.agg [.v (.int .i64 x0.Kind), .v (.string x0.Text), .lst false x0.Gaps.length (encL en_str x0.Gaps), .lst false x0.Kids.length (encL en_Node x0.Kids)]), .p (.agg [.v (.int .i64 x1.Kind), .v (.string x1.Text), .lst false x1.Gaps.length (encL en_str x1.Gaps), .lst false x1.Kids.length (encL en_Node x1.Kids)]), .p (.lst false x2.length (encL en_Pair x2)), iv x3, iv x4] [] = some (.p (.tup [.v (.int .i64 r.1), .v (.int .i64 r.2)]), []) := by
 refine call_ofH (fn := Try.f10) (c := bodyOf Try.f10) rfl rfl (by kernel_rfl) (by kernel_rfl) ?_
 rw [show initS Try.f10 [.p (.agg [.v (.int .i64 x0.Kind), .v (.string x0.Text), .lst false x0.Gaps.length (encL en_str x0.Gaps), .lst false x0.Kids.length (encL en_Node x0.Kids)]), .p (.agg [.v (.int .i64 x1.Kind), .v (.string x1.Text), .lst false x1.Gaps.length (encL en_str x1.Gaps), .lst false x1.Kids.length (encL en_Node x1.Kids)]), .p (.lst false x2.length (encL en_Pair x2)), iv x3, iv x4] [] = ⟨.p (.agg [.v (.int .i64 x0.Kind), .v (.string x0.Text), .lst false x0.Gaps.length (encL en_str x0.Gaps), .lst false x0.Kids.length (encL en_Node x0.Kids)]) :: .p (.agg [.v (.int .i64 x1.Kind), .v (.string x1.Text), .lst false x1.Gaps.length (encL en_str x1.Gaps), .lst false x1.Kids.length (encL en_Node x1.Kids)]) :: .p (.lst false x2.length (encL en_Pair x2)) :: iv x3 :: iv x4 :: List.replicate 64 undefD, [], 0⟩ from by kernel_rfl]
 unfold similar_Score at h
 unfold bodyOf Try.f10; simp only [Option.getD_some, loopsOf, List.append_nil, List.nil_append, List.cons_append, List.getD_cons_zero, List.getD_cons_succ]
 simp only [List.replicate]
 obtain ⟨r1, h2, h⟩ := bsm h
 have h3 : ∀ H, callD (callW Try.prog A0) A0 H 22 [.p (.agg [.v (.int .i64 x0.Kind), .v (.string x0.Text), .lst false x0.Gaps.length (encL en_str x0.Gaps), .lst false x0.Kids.length (encL en_Node x0.Kids)]), iv x3] = some (.p (.tup [.agg [.v (.int .i64 r1.1.Kind), .v (.string r1.1.Text), .lst false r1.1.Gaps.length (encL en_str r1.1.Gaps), .lst false r1.1.Kids.length (encL en_Node r1.1.Kids)], .v (.bool r1.2)]), none) := fun H => tree_At_call h2
 obtain ⟨r4, h5, h⟩ := bsm h
 have h6 : ∀ H, callD (callW Try.prog A0) A0 H 22 [.p (.agg [.v (.int .i64 x1.Kind), .v (.string x1.Text), .lst false x1.Gaps.length (encL en_str x1.Gaps), .lst false x1.Kids.length (encL en_Node x1.Kids)]), iv x4] = some (.p (.tup [.agg [.v (.int .i64 r4.1.Kind), .v (.string r4.1.Text), .lst false r4.1.Gaps.length (encL en_str r4.1.Gaps), .lst false r4.1.Kids.length (encL en_Node r4.1.Kids)], .v (.bool r4.2)]), none) := fun H => tree_At_call h5
 by_cases h7 : r1.2 = true
 ·rw [if_pos h7] at h
  by_cases h8 : r4.2 = true
  ·rw [if_pos h8] at h
   obtain ⟨r9, h10, h⟩ := bsm h
   have h11 : ∀ H, callD (callW Try.prog A0) A0 H 23 [.p (.agg [.v (.int .i64 r1.1.Kind), .v (.string r1.1.Text), .lst false r1.1.Gaps.length (encL en_str r1.1.Gaps), .lst false r1.1.Kids.length (encL en_Node r1.1.Kids)])] = some (.p (.v (.int .i64 r9)), none) := fun H => tree_Size_call h10
   obtain ⟨r12, h13, h⟩ := bsm h
   have h14 : ∀ H, callD (callW Try.prog A0) A0 H 23 [.p (.agg [.v (.int .i64 r4.1.Kind), .v (.string r4.1.Text), .lst false r4.1.Gaps.length (encL en_str r4.1.Gaps), .lst false r4.1.Kids.length (encL en_Node r4.1.Kids)])] = some (.p (.v (.int .i64 r12)), none) := fun H => tree_Size_call h13
   obtain ⟨o, h27, h⟩ := bsm h
   simp (maxSteps := 10000000) (implicitDefEqProofs := false) (disch := first | assumption | omega | exact rfl) only [bs, rs10, ls10, Nat.reduceAdd, ↓reduceIte, lenD_lst u26, loadD_iagg a39 z39, loadD_pagg a25 z25, loadD_ptr a3, storeD_agg z25, storeD_agg z39, h3, h6, h7, h8, h11, h14]
   refine Wp.ctx (fun x => seqW _ _ _ _ (blockW _ (x))) (L10_0_ok x3 x4 r9 r12 x2 (x2.length : Int) ((0 : Int), (0 : Int)) _ o (by kernel_rfl) h27) ?_
   intro e st hq
   cases o with
   | next _ => (first | cases h | (simp at h))
   | jmp n_ s_ =>
    obtain ⟨rfl, rfl, hq⟩ := hq
    obtain ⟨s18_28, s45_28⟩ := s_
    unfold F10_0 at hq
    (try simp only [] at h hq)
    obtain rfl := Option.some.inj h
    simp (maxSteps := 10000000) (implicitDefEqProofs := false) (disch := first | assumption | omega | exact rfl) only [bs, rs10, ls10, Nat.reduceAdd, ↓reduceIte, lenD_lst u26, loadD_iagg a39 z39, loadD_pagg a25 z25, loadD_ptr a3, storeD_agg z25, storeD_agg z39, h3, h6, h7, h8, h11, h14, hq]
    refine ⟨by first | exact .inl trivial | exact .inr trivial | simp, ?_⟩
    exact finish_is (ds := [iv s18_28, iv (w64 ((w64 (r9 + r12)) - (2 : Int)))]) (x := .tup [.v (.int .i64 s18_28), .v (.int .i64 (w64 ((w64 (r9 + r12)) - (2 : Int))))]) (y := .tup [.v (.int .i64 s18_28), .v (.int .i64 (w64 ((w64 (r9 + r12)) - (2 : Int))))]) (l := []) rfl rfl rfl rfl (by first | rfl | (simp only [wk, wks, wkL]; first | done | rfl))
   | ret _ => (first | cases h | (simp at h))
  ·rw [if_neg h8] at h
   replace h8 := Bool.eq_false_iff.2 h8
   obtain rfl := Option.some.inj h
   simp (maxSteps := 10000000) (implicitDefEqProofs := false) (disch := first | assumption | omega | exact rfl) only [bs, rs10, ls10, Nat.reduceAdd, ↓reduceIte, lenD_lst u26, loadD_iagg a39 z39, loadD_pagg a25 z25, loadD_ptr a3, storeD_agg z25, storeD_agg z39, h3, h6, h7, h8]
   refine ⟨by first | exact .inl trivial | exact .inr trivial | simp, ?_⟩
   exact finish_is (ds := [iv (0 : Int), iv (0 : Int)]) (x := .tup [.v (.int .i64 (0 : Int)), .v (.int .i64 (0 : Int))]) (y := .tup [.v (.int .i64 (0 : Int)), .v (.int .i64 (0 : Int))]) (l := []) rfl rfl rfl rfl (by first | rfl | (simp only [wk, wks, wkL]; first | done | rfl))
 ·rw [if_neg h7] at h
  replace h7 := Bool.eq_false_iff.2 h7
  obtain rfl := Option.some.inj h
  simp (maxSteps := 10000000) (implicitDefEqProofs := false) (disch := first | assumption | omega | exact rfl) only [bs, rs10, ls10, Nat.reduceAdd, ↓reduceIte, lenD_lst u26, loadD_iagg a39 z39, loadD_pagg a25 z25, loadD_ptr a3, storeD_agg z25, storeD_agg z39, h3, h6, h7]
  refine ⟨by first | exact .inl trivial | exact .inr trivial | simp, ?_⟩
  exact finish_is (ds := [iv (0 : Int), iv (0 : Int)]) (x := .tup [.v (.int .i64 (0 : Int)), .v (.int .i64 (0 : Int))]) (y := .tup [.v (.int .i64 (0 : Int)), .v (.int .i64 (0 : Int))]) (l := []) rfl rfl rfl rfl (by first | rfl | (simp only [wk, wks, wkL]; first | done | rfl))
theorem similar_Score_callp {x0 : Node} {x1 : Node} {x2 : (List Pair)} {x3 : Int} {x4 : Int} {r : (Int × Int)} (h : similar_Score x0 x1 x2 x3 x4 = some r) : callW Try.prog A0 10 [.p (.agg [.v (.int .i64 x0.Kind), .v (.string x0.Text), .lst false x0.Gaps.length (encL en_str x0.Gaps), .lst false x0.Kids.length (encL en_Node x0.Kids)]), .p (.agg [.v (.int .i64 x1.Kind), .v (.string x1.Text), .lst false x1.Gaps.length (encL en_str x1.Gaps), .lst false x1.Kids.length (encL en_Node x1.Kids)]), .p (.lst false x2.length (encL en_Pair x2)), iv x3, iv x4] [] = some (.p (.tup [.v (.int .i64 r.1), .v (.int .i64 r.2)]), []) := f10_ok x0 x1 x2 x3 x4 _ h
def ls44 := And.intro @al_25 (And.intro @ap_49_49 (And.intro @bs_49_1 (And.intro @bu_58_0_1_2_3 (And.intro @faP_25_0 (And.intro @faP_25_1 (And.intro @faP_25_2 (And.intro @faP_25_3 (And.intro @faP_58_4 (And.intro @idxL_23 (And.intro @idxR_49 (And.intro @idxR_52 (And.intro @mk_52 (And.intro @sa_4_0_4 (And.intro @varld_4_0_0 (And.intro @varld_4_0_1 (And.intro @varld_4_0_2 (And.intro @varld_4_0_3 (@varlv_4_0_4))))))))))))))))))
theorem tree_list_rcall {rec : (List Row) → Node → Int → Option (List Row)} (hrec : ∀ x0 x1 x2 r, rec x0 x1 x2 = some r → callW Try.prog A0 44 [.ref 0 0 x0.length 5, .p (.agg [.v (.int .i64 x1.Kind), .v (.string x1.Text), .lst false x1.Gaps.length (encL en_str x1.Gaps), .lst false x1.Kids.length (encL en_Node x1.Kids)]), iv x2] [.arr (encL en_Row x0)] = some (.ref 1 0 r.length 5, [.dead, .arr (encL en_Row r)])) {H : List Ob} {id n : Nat} {b1 b2 : Bool} {x0 : (List Row)} {x1 : Node} {x2 : Int} {r : (List Row)} : H[id]? = some (.arr (encL en_Row x0)) → n = x0.length → ∀ (h : rec x0 x1 x2 = some r), callD (callW Try.prog A0) A0 H 44 [.ref id 0 n 5, .p (.agg [.v (.int .i64 x1.Kind), .v (.string x1.Text), .lst b1 x1.Gaps.length (encL en_str x1.Gaps), .lst b2 x1.Kids.length (encL en_Node x1.Kids)]), iv x2] = some (.ref H.length 0 r.length 5, some (H.set id .dead ++ [.arr (encL en_Row r)])) := by
  intro hid hn h; subst hn; exact callD_mut1 (args := [.agg [.v (.int .i64 x1.Kind), .v (.string x1.Text), .lst false x1.Gaps.length (encL en_str x1.Gaps), .lst false x1.Kids.length (encL en_Node x1.Kids)], .v (.int .i64 x2)]) (by simp only [List.map_cons, List.map_nil, wkDv, wk, wks, wkL]) rfl hid (hrec x0 x1 x2 _ h)
noncomputable def L44_0 : Code := (loopsOf (bodyOf Try.f44)).getD 0 .skip
def g44_0 : List Ghost := [.weak [35], .keep [0, 7, 8, 35, 36, 37]]
def F44_0 (s7 : Int) (s35 : (List Node)) (s36 : Int) : (Int × (List Row) × (List Int)) → St := fun (s37, y1, y2) => ⟨[.ref 1 0 y1.length 5, .junk, .junk, .junk, .junk, .junk, .junk, iv s7, .ref 2 0 y2.length 1, .junk, .junk, .junk, .junk, .junk, .junk, .junk, .junk, .junk, .junk, .junk, .junk, .junk, .junk, .junk, .junk, .junk, .junk, .junk, .junk, .junk, .junk, .junk, .junk, .junk, .junk, .p (.lst false s35.length (encL en_Node s35)), iv s36, iv s37, .junk, .junk, .junk, .junk, .junk, .junk, .junk, .junk, .junk, .junk, .junk, .junk, .junk, .junk, .junk, .junk, .junk, .junk, .junk, .junk], [.dead, .arr (encL en_Row y1), .arr (encL en_i64 y2)], 1⟩
theorem L44_0_ok {rec : (List Row) → Node → Int → Option (List Row)} (hrec : ∀ x0 x1 x2 r, rec x0 x1 x2 = some r → callW Try.prog A0 44 [.ref 0 0 x0.length 5, .p (.agg [.v (.int .i64 x1.Kind), .v (.string x1.Text), .lst false x1.Gaps.length (encL en_str x1.Gaps), .lst false x1.Kids.length (encL en_Node x1.Kids)]), iv x2] [.arr (encL en_Row x0)] = some (.ref 1 0 r.length 5, [.dead, .arr (encL en_Row r)])) (s7 : Int) (s35 : (List Node)) (s36 : Int) : ∀ s st o, ghostsD g44_0 st = some (F44_0 s7 s35 s36 s) → iter (tree_list_L0 rec s7 s35 s36) s = some o →
    Wp (evW Try.prog A0 44 (.loop L44_0) st) (OutQ (F44_0 s7 s35 s36) g44_0 (fun n s st => n = 0 ∧ ghostsD [.keep [0, 7, 8, 35, 36, 37]] st = some (F44_0 s7 s35 s36 s)) (fun r st => finishD Try.prog A0 44 Try.f44 st = some (.ref 1 0 r.length 5, [.dead, .arr (encL en_Row r)])) o) := by
 refine Wp.iter ?_
 intro s st o hg h
 obtain ⟨s37, y1, y2⟩ := s
 unfold tree_list_L0 at h
 unfold g44_0 F44_0 at hg ⊢
 (try simp only [] at h hg)
 unfold L44_0 bodyOf Try.f44; simp only [Option.getD_some, loopsOf, List.append_nil, List.nil_append, List.cons_append, List.getD_cons_zero, List.getD_cons_succ]
 by_cases h9 : s37 < s36
 ·rw [if_pos h9] at h
  have h9' : decide (s37 < s36) = true := decide_eq_true h9
  obtain ⟨v10, h11, h⟩ := bsm h
  obtain ⟨h11a, h11b, _⟩ := rd_some h11
  have h12 := lk_frz_25 h11
  obtain ⟨v13, h14, h⟩ := bsm h
  obtain ⟨h14a, h14b, _⟩ := rd_some h14
  have h15 : ∀ (H : List Ob) (id : Nat), stdOb H id (s37.toNat * 1) (.p (.v (.int .i64 (y1.length : Int)))) (some (.arr (encL en_i64 y2))) = some (H.set id (.arr (encL en_i64 (y2.set s37.toNat (y1.length : Int))))) := fun H id => std_enc0 en_i64_len h14 (by decide) (by rw [en_i64_eq, en_i64_eq]; rfl)
  have h16 : (y2.set s37.toNat (y1.length : Int)).length = y2.length := List.length_set
  obtain ⟨r17, h18, h⟩ := bsm h
  have h19 : ∀ H, H[1]? = some (.arr (encL en_Row y1)) → callD (callW Try.prog A0) A0 H 44 [.ref 1 0 y1.length 5, .p (.agg [.v (.int .i64 v10.Kind), .v (.string v10.Text), .lst false v10.Gaps.length (encL en_str v10.Gaps), .lst false v10.Kids.length (encL en_Node v10.Kids)]), iv s7] = some (.ref H.length 0 r17.length 5, some (H.set 1 .dead ++ [.arr (encL en_Row r17)])) := fun H hid => tree_list_rcall hrec (H := H) (id := 1) hid (by first | rfl | omega) h18
  have h19' := h19 [.dead, .arr (encL en_Row y1), .arr (encL en_i64 (y2.set s37.toNat (y1.length : Int))), .var [iv v10.Kind, .p (.v (.string v10.Text)), .p (.lst false v10.Gaps.length (encL en_str v10.Gaps)), .p (.lst false v10.Kids.length (encL en_Node v10.Kids))]] rfl
  obtain rfl := Option.some.inj h
  simp (maxSteps := 10000000) (implicitDefEqProofs := false) (disch := first | assumption | omega | exact rfl) only [bs, rs44, ls44, Nat.reduceAdd, ↓reduceIte, lenD_lst u23, lenD_ref u49, loadD_iagg a25 z25, loadD_pagg a25 z25, loadD_ptr a22, loadD_ptr a23, loadD_ptr a3, loadD_ptr a9, own_ref, storeD_agg z25, storeD_int z3, wksL_en_i64, wksL_en_str, wks_nil_, hg, ↓h9', h12, h15, h19']
  exact ⟨rfl, by simp only [List.length_set, cpL_len]; kernel_rfl⟩
 ·rw [if_neg h9] at h
  have h9' : decide (s37 < s36) = false := decide_eq_false h9
  obtain rfl := Option.some.inj h
  simp (maxSteps := 10000000) (implicitDefEqProofs := false) (disch := first | assumption | omega | exact rfl) only [bs, rs44, ls44, Nat.reduceAdd, ↓reduceIte, lenD_lst u23, lenD_ref u49, loadD_iagg a25 z25, loadD_pagg a25 z25, loadD_ptr a22, loadD_ptr a23, loadD_ptr a3, loadD_ptr a9, own_ref, storeD_agg z25, storeD_int z3, wksL_en_i64, wksL_en_str, wks_nil_, hg, ↓h9']
  exact ⟨rfl, rfl, by kernel_rfl⟩
theorem f44_ok {rec : (List Row) → Node → Int → Option (List Row)} (hrec : ∀ x0 x1 x2 r, rec x0 x1 x2 = some r → callW Try.prog A0 44 [.ref 0 0 x0.length 5, .p (.agg [.v (.int .i64 x1.Kind), .v (.string x1.Text), .lst false x1.Gaps.length (encL en_str x1.Gaps), .lst false x1.Kids.length (encL en_Node x1.Kids)]), iv x2] [.arr (encL en_Row x0)] = some (.ref 1 0 r.length 5, [.dead, .arr (encL en_Row r)]))  (x0 : (List Row)) (x1 : Node) (x2 : Int) (r : (List Row)) (h : tree_list.body rec x0 x1 x2 = some r) : callW Try.prog A0 44 [.ref 0 0 x0.length 5, .p (.agg [.v (.int .i64 x1.Kind), .v (.string x1.Text), .lst false x1.Gaps.length (encL en_str x1.Gaps), .lst false x1.Kids.length (encL en_Node x1.Kids)]), iv x2] [.arr (encL en_Row x0)] = some (.ref 1 0 r.length 5, [.dead, .arr (encL en_Row r)]) := by
 refine call_ofH (fn := Try.f44) (c := bodyOf Try.f44) rfl rfl (by kernel_rfl) (by kernel_rfl) ?_
 rw [show initS Try.f44 [.ref 0 0 x0.length 5, .p (.agg [.v (.int .i64 x1.Kind), .v (.string x1.Text), .lst false x1.Gaps.length (encL en_str x1.Gaps), .lst false x1.Kids.length (encL en_Node x1.Kids)]), iv x2] [.arr (encL en_Row x0)] = ⟨.ref 0 0 x0.length 5 :: .p (.agg [.v (.int .i64 x1.Kind), .v (.string x1.Text), .lst false x1.Gaps.length (encL en_str x1.Gaps), .lst false x1.Kids.length (encL en_Node x1.Kids)]) :: iv x2 :: List.replicate 55 undefD, [.arr (encL en_Row x0)], 1⟩ from by kernel_rfl]
 unfold tree_list.body at h
 unfold bodyOf Try.f44; simp only [Option.getD_some, loopsOf, List.append_nil, List.nil_append, List.cons_append, List.getD_cons_zero, List.getD_cons_succ]
 simp only [List.replicate]
 obtain ⟨r1, h2, h⟩ := bsm h
 have h3 : ∀ H, callD (callW Try.prog A0) A0 H 47 [.p (.lst false x1.Gaps.length (encL en_str x1.Gaps))] = some (.p (.lst false r1.length (encL en_str r1)), none) := fun H => tree_texts_call h2
 by_cases hw_ : (x0.length + 1) * 80 ≤ 140737488355328
 case neg => rw [if_neg hw_] at h; cases h
 rw [if_pos hw_] at h
 have h5 := hw_
 have h4 : ∀ (H : List Ob) (id : Nat), apOb H id 0 x0.length 1 5 5 80 [.v (.int .i64 x2), .v (.int .i64 x1.Kind), .v (.string x1.Text), .lst false r1.length (encL en_str r1), .lst false 0 []] (some (.arr (encL en_Row x0))) = some (.ref H.length 0 (x0 ++ [(Row.mk x2 x1.Kind x1.Text r1 ([] : List Int))]).length 5, H.set id .dead ++ [.arr (encL en_Row (x0 ++ [(Row.mk x2 x1.Kind x1.Text r1 ([] : List Int))]))]) := fun H id => ap_enc (y := [(Row.mk x2 x1.Kind x1.Text r1 ([] : List Int))]) en_Row_len (by first | rfl | omega) rfl (by first | (simp only [encL_cons, encL_nil, en_Row_eq, List.cons_append, List.nil_append]; done) | (simp only [encL_cons, encL_nil, en_Row_eq, List.cons_append, List.nil_append]; rfl) | rfl) (by assumption)
 by_cases h6 : (x1.Kids.length : Int) = (0 : Int)
 ·rw [if_pos h6] at h
  have h6' : decide ((x1.Kids.length : Int) = (0 : Int)) = true := decide_eq_true h6
  obtain rfl := Option.some.inj h
  simp (maxSteps := 10000000) (implicitDefEqProofs := false) (disch := first | assumption | omega | exact rfl) only [bs, rs44, ls44, Nat.reduceAdd, ↓reduceIte, lenD_lst u23, lenD_ref u49, loadD_iagg a25 z25, loadD_pagg a25 z25, loadD_ptr a22, loadD_ptr a23, loadD_ptr a3, loadD_ptr a9, own_ref, storeD_agg z25, storeD_int z3, wksL_en_i64, wksL_en_str, wks_nil_, h3, h4, ↓h6']
  refine ⟨by first | exact .inl trivial | exact .inr trivial | simp, ?_⟩
  show _ = _
  kernel_rfl
 ·rw [if_neg h6] at h
  have h6' : decide ((x1.Kids.length : Int) = (0 : Int)) = false := decide_eq_false h6
  by_cases hw_ : 0 ≤ (x1.Kids.length : Int) ∧ (x1.Kids.length : Int) * 8 ≤ 140737488355328
  case neg => rw [if_neg hw_] at h; cases h
  rw [if_pos hw_] at h
  obtain ⟨h7, h8⟩ := hw_
  obtain ⟨o, h20, h⟩ := bsm h
  simp (maxSteps := 10000000) (implicitDefEqProofs := false) (disch := first | assumption | omega | exact rfl) only [bs, rs44, ls44, Nat.reduceAdd, ↓reduceIte, lenD_lst u23, lenD_ref u49, loadD_iagg a25 z25, loadD_pagg a25 z25, loadD_ptr a22, loadD_ptr a23, loadD_ptr a3, loadD_ptr a9, own_ref, storeD_agg z25, storeD_int z3, wksL_en_i64, wksL_en_str, wks_nil_, h3, h4, ↓h6']
  refine Wp.ctx (fun x => seqW _ _ _ _ (blockW _ (x))) (L44_0_ok hrec (x0.length : Int) x1.Kids (x1.Kids.length : Int) ((0 : Int), (x0 ++ [(Row.mk x2 x1.Kind x1.Text r1 ([] : List Int))]), (List.replicate (x1.Kids.length : Int).toNat (0 : Int))) _ o (by kernel_rfl) h20) ?_
  intro e st hq
  cases o with
  | next _ => (first | cases h | (simp at h))
  | jmp n_ s_ =>
   obtain ⟨rfl, rfl, hq⟩ := hq
   obtain ⟨s37_21, y1_21, y2_21⟩ := s_
   unfold F44_0 at hq
   (try simp only [] at h hq)
   obtain ⟨v22, h23, h⟩ := bsm h
   obtain ⟨h23a, h23b, _⟩ := rd_some h23
   have h24 : storeD Try.prog [.dead, .arr (encL en_Row y1_21), .arr (encL en_i64 y2_21)] 52 (.ptr 1 ((x0.length : Int).toNat * 5 + 4)) (.ref 2 0 y2_21.length 1) = some [.dead, .arr (encL en_Row (y1_21.set (x0.length : Int).toNat (Row.mk v22.Parent v22.Kind v22.Text v22.Gaps y2_21))), .frz (encL en_i64 y2_21)] := (storeD_row (v' := (Row.mk v22.Parent v22.Kind v22.Text v22.Gaps y2_21)) (k := 4) z52 en_Row_len en_i64_len rfl rfl rfl (by first | rfl | omega) h23 (by decide) (by rw [en_Row_eq, en_Row_eq]; rfl)).trans rfl
   have h25 : (y1_21.set (x0.length : Int).toNat (Row.mk v22.Parent v22.Kind v22.Text v22.Gaps y2_21)).length = y1_21.length := List.length_set
   obtain rfl := Option.some.inj h
   simp (maxSteps := 10000000) (implicitDefEqProofs := false) (disch := first | assumption | omega | exact rfl) only [bs, rs44, ls44, Nat.reduceAdd, ↓reduceIte, lenD_lst u23, lenD_ref u49, loadD_iagg a25 z25, loadD_pagg a25 z25, loadD_ptr a22, loadD_ptr a23, loadD_ptr a3, loadD_ptr a9, own_ref, storeD_agg z25, storeD_int z3, wksL_en_i64, wksL_en_str, wks_nil_, h3, h4, ↓h6', hq, h24]
   refine ⟨by first | exact .inl trivial | exact .inr trivial | simp, ?_⟩
   show _ = _
   simp only [List.length_set, cpL_len]; kernel_rfl
  | ret _ => (first | cases h | (simp at h))
def ls44n := And.intro @al_25 (And.intro @ap_49_49 (And.intro @bs_49_1 (And.intro @bu_58_0_1_2_3 (And.intro @faP_25_0 (And.intro @faP_25_1 (And.intro @faP_25_2 (And.intro @faP_25_3 (And.intro @faP_58_4 (And.intro @idxL_23 (And.intro @idxR_49 (And.intro @idxR_52 (And.intro @mk_52 (And.intro @sa_4_0_4 (And.intro @varld_4_0_0 (And.intro @varld_4_0_1 (And.intro @varld_4_0_2 (And.intro @varld_4_0_3 (@varlv_4_0_4))))))))))))))))))
def F44n_0 (s7 : Int) (s35 : (List Node)) (s36 : Int) : (Int × (List Row) × (List Int)) → St := fun (s37, y0, y1) => ⟨[.ref 0 0 y0.length 5, .junk, .junk, .junk, .junk, .junk, .junk, iv s7, .ref 1 0 y1.length 1, .junk, .junk, .junk, .junk, .junk, .junk, .junk, .junk, .junk, .junk, .junk, .junk, .junk, .junk, .junk, .junk, .junk, .junk, .junk, .junk, .junk, .junk, .junk, .junk, .junk, .junk, .p (.lst false s35.length (encL en_Node s35)), iv s36, iv s37, .junk, .junk, .junk, .junk, .junk, .junk, .junk, .junk, .junk, .junk, .junk, .junk, .junk, .junk, .junk, .junk, .junk, .junk, .junk, .junk], [.arr (encL en_Row y0), .arr (encL en_i64 y1)], 0⟩
theorem L44n_0_ok {rec : (List Row) → Node → Int → Option (List Row)} (hrec : ∀ x0 x1 x2 r, rec x0 x1 x2 = some r → callW Try.prog A0 44 [.ref 0 0 x0.length 5, .p (.agg [.v (.int .i64 x1.Kind), .v (.string x1.Text), .lst false x1.Gaps.length (encL en_str x1.Gaps), .lst false x1.Kids.length (encL en_Node x1.Kids)]), iv x2] [.arr (encL en_Row x0)] = some (.ref 1 0 r.length 5, [.dead, .arr (encL en_Row r)])) (s7 : Int) (s35 : (List Node)) (s36 : Int) : ∀ s st o, ghostsD g44_0 st = some (F44n_0 s7 s35 s36 s) → iter (tree_list_L0 rec s7 s35 s36) s = some o →
    Wp (evW Try.prog A0 44 (.loop L44_0) st) (OutQ (F44n_0 s7 s35 s36) g44_0 (fun n s st => n = 0 ∧ ghostsD [.keep [0, 7, 8, 35, 36, 37]] st = some (F44n_0 s7 s35 s36 s)) (fun r st => finishD Try.prog A0 44 Try.f44 st = some (.ref 0 0 r.length 5, [.arr (encL en_Row r)])) o) := by
 refine Wp.iter ?_
 intro s st o hg h
 obtain ⟨s37, y0, y1⟩ := s
 unfold tree_list_L0 at h
 unfold g44_0 F44n_0 at hg ⊢
 (try simp only [] at h hg)
 unfold L44_0 bodyOf Try.f44; simp only [Option.getD_some, loopsOf, List.append_nil, List.nil_append, List.cons_append, List.getD_cons_zero, List.getD_cons_succ]
 by_cases h9 : s37 < s36
 ·rw [if_pos h9] at h
  have h9' : decide (s37 < s36) = true := decide_eq_true h9
  obtain ⟨v10, h11, h⟩ := bsm h
  obtain ⟨h11a, h11b, _⟩ := rd_some h11
  have h12 := lk_frz_25 h11
  obtain ⟨v13, h14, h⟩ := bsm h
  obtain ⟨h14a, h14b, _⟩ := rd_some h14
  have h15 : ∀ (H : List Ob) (id : Nat), stdOb H id (s37.toNat * 1) (.p (.v (.int .i64 (y0.length : Int)))) (some (.arr (encL en_i64 y1))) = some (H.set id (.arr (encL en_i64 (y1.set s37.toNat (y0.length : Int))))) := fun H id => std_enc0 en_i64_len h14 (by decide) (by rw [en_i64_eq, en_i64_eq]; rfl)
  have h16 : (y1.set s37.toNat (y0.length : Int)).length = y1.length := List.length_set
  obtain ⟨r17, h18, h⟩ := bsm h
  have h19 : ∀ H, H[0]? = some (.arr (encL en_Row y0)) → callD (callW Try.prog A0) A0 H 44 [.ref 0 0 y0.length 5, .p (.agg [.v (.int .i64 v10.Kind), .v (.string v10.Text), .lst false v10.Gaps.length (encL en_str v10.Gaps), .lst false v10.Kids.length (encL en_Node v10.Kids)]), iv s7] = some (.ref H.length 0 r17.length 5, some (H.set 0 .dead ++ [.arr (encL en_Row r17)])) := fun H hid => tree_list_rcall hrec (H := H) (id := 0) hid (by first | rfl | omega) h18
  have h19' := h19 [.arr (encL en_Row y0), .arr (encL en_i64 (y1.set s37.toNat (y0.length : Int))), .var [iv v10.Kind, .p (.v (.string v10.Text)), .p (.lst false v10.Gaps.length (encL en_str v10.Gaps)), .p (.lst false v10.Kids.length (encL en_Node v10.Kids))]] rfl
  obtain rfl := Option.some.inj h
  simp (maxSteps := 10000000) (implicitDefEqProofs := false) (disch := first | assumption | omega | exact rfl) only [bs, rs44, ls44n, Nat.reduceAdd, ↓reduceIte, lenD_lst u23, lenD_ref u49, loadD_iagg a25 z25, loadD_pagg a25 z25, loadD_ptr a22, loadD_ptr a23, loadD_ptr a3, loadD_ptr a9, own_ref, storeD_agg z25, storeD_int z3, wksL_en_i64, wksL_en_str, wks_nil_, hg, ↓h9', h12, h15, h19']
  exact ⟨rfl, by simp only [List.length_set, cpL_len]; kernel_rfl⟩
 ·rw [if_neg h9] at h
  have h9' : decide (s37 < s36) = false := decide_eq_false h9
  obtain rfl := Option.some.inj h
  simp (maxSteps := 10000000) (implicitDefEqProofs := false) (disch := first | assumption | omega | exact rfl) only [bs, rs44, ls44n, Nat.reduceAdd, ↓reduceIte, lenD_lst u23, lenD_ref u49, loadD_iagg a25 z25, loadD_pagg a25 z25, loadD_ptr a22, loadD_ptr a23, loadD_ptr a3, loadD_ptr a9, own_ref, storeD_agg z25, storeD_int z3, wksL_en_i64, wksL_en_str, wks_nil_, hg, ↓h9']
  exact ⟨rfl, rfl, by kernel_rfl⟩
theorem f44n_ok {rec : (List Row) → Node → Int → Option (List Row)} (hrec : ∀ x0 x1 x2 r, rec x0 x1 x2 = some r → callW Try.prog A0 44 [.ref 0 0 x0.length 5, .p (.agg [.v (.int .i64 x1.Kind), .v (.string x1.Text), .lst false x1.Gaps.length (encL en_str x1.Gaps), .lst false x1.Kids.length (encL en_Node x1.Kids)]), iv x2] [.arr (encL en_Row x0)] = some (.ref 1 0 r.length 5, [.dead, .arr (encL en_Row r)]))  (x0 : (List Row)) (x1 : Node) (x2 : Int) (hx0 : x0 = []) (r : (List Row)) (h : tree_list.body rec x0 x1 x2 = some r) : callW Try.prog A0 44 [.p (.lst true 0 []), .p (.agg [.v (.int .i64 x1.Kind), .v (.string x1.Text), .lst false x1.Gaps.length (encL en_str x1.Gaps), .lst false x1.Kids.length (encL en_Node x1.Kids)]), iv x2] [] = some (.ref 0 0 r.length 5, [.arr (encL en_Row r)]) := by
 refine call_ofH (fn := Try.f44) (c := bodyOf Try.f44) rfl rfl (by kernel_rfl) (by kernel_rfl) ?_
 rw [show initS Try.f44 [.p (.lst true 0 []), .p (.agg [.v (.int .i64 x1.Kind), .v (.string x1.Text), .lst false x1.Gaps.length (encL en_str x1.Gaps), .lst false x1.Kids.length (encL en_Node x1.Kids)]), iv x2] [] = ⟨.p (.lst true 0 []) :: .p (.agg [.v (.int .i64 x1.Kind), .v (.string x1.Text), .lst false x1.Gaps.length (encL en_str x1.Gaps), .lst false x1.Kids.length (encL en_Node x1.Kids)]) :: iv x2 :: List.replicate 55 undefD, [], 0⟩ from by kernel_rfl]
 unfold tree_list.body at h
 unfold bodyOf Try.f44; simp only [Option.getD_some, loopsOf, List.append_nil, List.nil_append, List.cons_append, List.getD_cons_zero, List.getD_cons_succ]
 simp only [List.replicate]
 have hown := own_nil' (en := en_Row) hx0 5
 obtain ⟨r1, h2, h⟩ := bsm h
 have h3 : ∀ H, callD (callW Try.prog A0) A0 H 47 [.p (.lst false x1.Gaps.length (encL en_str x1.Gaps))] = some (.p (.lst false r1.length (encL en_str r1)), none) := fun H => tree_texts_call h2
 by_cases hw_ : (x0.length + 1) * 80 ≤ 140737488355328
 case neg => rw [if_neg hw_] at h; cases h
 rw [if_pos hw_] at h
 have h5 := hw_
 have h4 : ∀ (H : List Ob) (id : Nat), apOb H id 0 x0.length 1 5 5 80 [.v (.int .i64 x2), .v (.int .i64 x1.Kind), .v (.string x1.Text), .lst false r1.length (encL en_str r1), .lst false 0 []] (some (.arr (encL en_Row x0))) = some (.ref H.length 0 (x0 ++ [(Row.mk x2 x1.Kind x1.Text r1 ([] : List Int))]).length 5, H.set id .dead ++ [.arr (encL en_Row (x0 ++ [(Row.mk x2 x1.Kind x1.Text r1 ([] : List Int))]))]) := fun H id => ap_enc (y := [(Row.mk x2 x1.Kind x1.Text r1 ([] : List Int))]) en_Row_len (by first | rfl | omega) rfl (by first | (simp only [encL_cons, encL_nil, en_Row_eq, List.cons_append, List.nil_append]; done) | (simp only [encL_cons, encL_nil, en_Row_eq, List.cons_append, List.nil_append]; rfl) | rfl) (by assumption)
 by_cases h6 : (x1.Kids.length : Int) = (0 : Int)
 ·rw [if_pos h6] at h
  have h6' : decide ((x1.Kids.length : Int) = (0 : Int)) = true := decide_eq_true h6
  obtain rfl := Option.some.inj h
  simp (maxSteps := 10000000) (implicitDefEqProofs := false) (disch := first | assumption | omega | exact rfl) only [bs, rs44, ls44n, Nat.reduceAdd, ↓reduceIte, lenD_lst u23, lenD_ref u49, loadD_iagg a25 z25, loadD_pagg a25 z25, loadD_ptr a22, loadD_ptr a23, loadD_ptr a3, loadD_ptr a9, own_ref, storeD_agg z25, storeD_int z3, wksL_en_i64, wksL_en_str, wks_nil_, hown, h3, h4, ↓h6']
  refine ⟨by first | exact .inl trivial | exact .inr trivial | simp, ?_⟩
  show _ = _
  kernel_rfl
 ·rw [if_neg h6] at h
  have h6' : decide ((x1.Kids.length : Int) = (0 : Int)) = false := decide_eq_false h6
  by_cases hw_ : 0 ≤ (x1.Kids.length : Int) ∧ (x1.Kids.length : Int) * 8 ≤ 140737488355328
  case neg => rw [if_neg hw_] at h; cases h
  rw [if_pos hw_] at h
  obtain ⟨h7, h8⟩ := hw_
  obtain ⟨o, h20, h⟩ := bsm h
  simp (maxSteps := 10000000) (implicitDefEqProofs := false) (disch := first | assumption | omega | exact rfl) only [bs, rs44, ls44n, Nat.reduceAdd, ↓reduceIte, lenD_lst u23, lenD_ref u49, loadD_iagg a25 z25, loadD_pagg a25 z25, loadD_ptr a22, loadD_ptr a23, loadD_ptr a3, loadD_ptr a9, own_ref, storeD_agg z25, storeD_int z3, wksL_en_i64, wksL_en_str, wks_nil_, hown, h3, h4, ↓h6']
  refine Wp.ctx (fun x => seqW _ _ _ _ (blockW _ (x))) (L44n_0_ok hrec (x0.length : Int) x1.Kids (x1.Kids.length : Int) ((0 : Int), (x0 ++ [(Row.mk x2 x1.Kind x1.Text r1 ([] : List Int))]), (List.replicate (x1.Kids.length : Int).toNat (0 : Int))) _ o (by kernel_rfl) h20) ?_
  intro e st hq
  cases o with
  | next _ => (first | cases h | (simp at h))
  | jmp n_ s_ =>
   obtain ⟨rfl, rfl, hq⟩ := hq
   obtain ⟨s37_21, y0_21, y1_21⟩ := s_
   unfold F44n_0 at hq
   (try simp only [] at h hq)
   obtain ⟨v22, h23, h⟩ := bsm h
   obtain ⟨h23a, h23b, _⟩ := rd_some h23
   have h24 : storeD Try.prog [.arr (encL en_Row y0_21), .arr (encL en_i64 y1_21)] 52 (.ptr 0 ((x0.length : Int).toNat * 5 + 4)) (.ref 1 0 y1_21.length 1) = some [.arr (encL en_Row (y0_21.set (x0.length : Int).toNat (Row.mk v22.Parent v22.Kind v22.Text v22.Gaps y1_21))), .frz (encL en_i64 y1_21)] := (storeD_row (v' := (Row.mk v22.Parent v22.Kind v22.Text v22.Gaps y1_21)) (k := 4) z52 en_Row_len en_i64_len rfl rfl rfl (by first | rfl | omega) h23 (by decide) (by rw [en_Row_eq, en_Row_eq]; rfl)).trans rfl
   have h25 : (y0_21.set (x0.length : Int).toNat (Row.mk v22.Parent v22.Kind v22.Text v22.Gaps y1_21)).length = y0_21.length := List.length_set
   obtain rfl := Option.some.inj h
   simp (maxSteps := 10000000) (implicitDefEqProofs := false) (disch := first | assumption | omega | exact rfl) only [bs, rs44, ls44n, Nat.reduceAdd, ↓reduceIte, lenD_lst u23, lenD_ref u49, loadD_iagg a25 z25, loadD_pagg a25 z25, loadD_ptr a22, loadD_ptr a23, loadD_ptr a3, loadD_ptr a9, own_ref, storeD_agg z25, storeD_int z3, wksL_en_i64, wksL_en_str, wks_nil_, hown, h3, h4, ↓h6', hq, h24]
   refine ⟨by first | exact .inl trivial | exact .inr trivial | simp, ?_⟩
   show _ = _
   simp only [List.length_set, cpL_len]; kernel_rfl
  | ret _ => (first | cases h | (simp at h))
theorem f44_spec : ∀ (x0 : (List Row)) (x1 : Node) (x2 : Int) r, tree_listS x0 x1 x2 = some r → callW Try.prog A0 44 [.ref 0 0 x0.length 5, .p (.agg [.v (.int .i64 x1.Kind), .v (.string x1.Text), .lst false x1.Gaps.length (encL en_str x1.Gaps), .lst false x1.Kids.length (encL en_Node x1.Kids)]), iv x2] [.arr (encL en_Row x0)] = some (.ref 1 0 r.length 5, [.dead, .arr (encL en_Row r)]) := by
  have key : ∀ n (x0 : (List Row)) (x1 : Node) (x2 : Int) r, tree_listS_mu x0 x1 x2 < n → tree_listS x0 x1 x2 = some r → callW Try.prog A0 44 [.ref 0 0 x0.length 5, .p (.agg [.v (.int .i64 x1.Kind), .v (.string x1.Text), .lst false x1.Gaps.length (encL en_str x1.Gaps), .lst false x1.Kids.length (encL en_Node x1.Kids)]), iv x2] [.arr (encL en_Row x0)] = some (.ref 1 0 r.length 5, [.dead, .arr (encL en_Row r)]) := by
    intro n
    induction n with
    | zero => intro x0 x1 x2 r h; omega
    | succ n ih =>
      intro x0 x1 x2 r hn h
      refine f44_ok (rec := fun x0' x1' x2' => if tree_listS_mu x0' x1' x2' < tree_listS_mu x0 x1 x2 then tree_listS x0' x1' x2' else none) ?_ x0 x1 x2 r (tree_listS_body x0 x1 x2 r h)
      intro x0' x1' x2' r' h'
      by_cases hm : tree_listS_mu x0' x1' x2' < tree_listS_mu x0 x1 x2
      · rw [if_pos hm] at h'; exact ih x0' x1' x2' r' (by omega) h'
      · rw [if_neg hm] at h'; cases h'
  intro x0 x1 x2 r h
  exact key _ x0 x1 x2 r (Nat.lt_succ_self _) h
theorem f44n_spec (x1 : Node) (x2 : Int) r (h : tree_listS ([] : List Row) x1 x2 = some r) : callW Try.prog A0 44 [.p (.lst true 0 []), .p (.agg [.v (.int .i64 x1.Kind), .v (.string x1.Text), .lst false x1.Gaps.length (encL en_str x1.Gaps), .lst false x1.Kids.length (encL en_Node x1.Kids)]), iv x2] [] = some (.ref 0 0 r.length 5, [.arr (encL en_Row r)]) := by
  refine f44n_ok (rec := fun x0' x1' x2' => if tree_listS_mu x0' x1' x2' < tree_listS_mu ([] : List Row) x1 x2 then tree_listS x0' x1' x2' else none) ?_ ([] : List Row) x1 x2 rfl r (tree_listS_body ([] : List Row) x1 x2 r h)
  intro x0' x1' x2' r' h'
  by_cases hm : tree_listS_mu x0' x1' x2' < tree_listS_mu ([] : List Row) x1 x2
  · rw [if_pos hm] at h'; exact f44_spec x0' x1' x2' r' h'
  · rw [if_neg hm] at h'; cases h'
theorem tree_list_calln {b1 b2 : Bool} {H : List Ob} {x1 : Node} {x2 : Int} {r : (List Row)} (h : tree_listS ([] : List Row) x1 x2 = some r) : callD (callW Try.prog A0) A0 H 44 [.p (.lst true 0 []), .p (.agg [.v (.int .i64 x1.Kind), .v (.string x1.Text), .lst b1 x1.Gaps.length (encL en_str x1.Gaps), .lst b2 x1.Kids.length (encL en_Node x1.Kids)]), iv x2] = some (.ref H.length 0 r.length 5, some (H ++ [.arr (encL en_Row r)])) :=
  callD_mut0 (args := [.lst true 0 [], .agg [.v (.int .i64 x1.Kind), .v (.string x1.Text), .lst false x1.Gaps.length (encL en_str x1.Gaps), .lst false x1.Kids.length (encL en_Node x1.Kids)], .v (.int .i64 x2)]) (by simp only [List.map_cons, List.map_nil, wkDv, wk, wks, wkL]) rfl (f44n_spec x1 x2 _ h)
def ls27 := @varlv_4_0_4
theorem f27_ok  (x0 : Node) (r : (List Row)) (h : tree_Rows x0 = some r) : callW Try.prog A0 27 [.p (.agg [.v (.int .i64 x0.Kind), .v (.string x0.Text), .lst false x0.Gaps.length (encL en_str x0.Gaps), .lst false x0.Kids.length (encL en_Node x0.Kids)])] [] = some (.p (.lst false r.length (encL en_Row r)), []) := by
 refine call_ofH (fn := Try.f27) (c := bodyOf Try.f27) rfl rfl (by kernel_rfl) (by kernel_rfl) ?_
 rw [show initS Try.f27 [.p (.agg [.v (.int .i64 x0.Kind), .v (.string x0.Text), .lst false x0.Gaps.length (encL en_str x0.Gaps), .lst false x0.Kids.length (encL en_Node x0.Kids)])] [] = ⟨.p (.agg [.v (.int .i64 x0.Kind), .v (.string x0.Text), .lst false x0.Gaps.length (encL en_str x0.Gaps), .lst false x0.Kids.length (encL en_Node x0.Kids)]) :: List.replicate 4 undefD, [], 0⟩ from by kernel_rfl]
 unfold tree_Rows at h
 unfold bodyOf Try.f27; simp only [Option.getD_some, loopsOf, List.append_nil, List.nil_append, List.cons_append, List.getD_cons_zero, List.getD_cons_succ]
 simp only [List.replicate]
 obtain ⟨r1, h2, h⟩ := bsm h
 have h3 : ∀ H, callD (callW Try.prog A0) A0 H 44 [.p (.lst true 0 []), .p (.agg [.v (.int .i64 x0.Kind), .v (.string x0.Text), .lst false x0.Gaps.length (encL en_str x0.Gaps), .lst false x0.Kids.length (encL en_Node x0.Kids)]), iv (-1 : Int)] = some (.ref H.length 0 r1.length 5, some (H ++ [.arr (encL en_Row r1)])) := fun H => tree_list_calln (H := H) h2
 obtain rfl := Option.some.inj h
 simp (maxSteps := 10000000) (implicitDefEqProofs := false) (disch := first | assumption | omega | exact rfl) only [bs, rs27, ls27, Nat.reduceAdd, ↓reduceIte, loadD_pagg a25 z25, h3]
 refine ⟨by first | exact .inl trivial | exact .inr trivial | simp, ?_⟩
 exact finish_is (ds := [.ref 1 0 r1.length 5]) (x := .lst false r1.length (encL en_Row r1)) (y := .lst false r1.length (encL en_Row r1)) (l := [1]) rfl rfl rfl (purify1_enc en_Row_len rfl (by first | rfl | omega)) (by first | rfl | (simp only [wk, wks, wkL]; first | done | rfl))
theorem tree_Rows_call {b1 b2 : Bool} {H : List Ob} {x0 : Node} {r : (List Row)} (h : tree_Rows x0 = some r) : callD (callW Try.prog A0) A0 H 27 [.p (.agg [.v (.int .i64 x0.Kind), .v (.string x0.Text), .lst b1 x0.Gaps.length (encL en_str x0.Gaps), .lst b2 x0.Kids.length (encL en_Node x0.Kids)])] = some (.p (.lst false r.length (encL en_Row r)), none) :=
  callD_fun (args := [.agg [.v (.int .i64 x0.Kind), .v (.string x0.Text), .lst b1 x0.Gaps.length (encL en_str x0.Gaps), .lst b2 x0.Kids.length (encL en_Node x0.Kids)]]) rfl rfl rfl (by simp only [List.map_cons, List.map_nil, wk, wks, wkL]; exact f27_ok x0 _ h)
def ls28 := And.intro @al_39 (And.intro @faI_58_1 (And.intro @faP_39_0 (And.intro @faP_39_1 (And.intro @idxL_26 (And.intro @idxL_49 (And.intro @idxR_54 (And.intro @mk_54 (And.intro @sa_2_0_2 (And.intro @varld_2_0_0 (@varld_2_0_1))))))))))
noncomputable def L28_0 : Code := (loopsOf (bodyOf Try.f28)).getD 0 .skip
def g28_0 : List Ghost := [.weak [0, 1, 14], .keep [0, 1, 7, 8, 14, 15, 16]]
def F28_0 (s0 : (List Row)) (s1 : (List Row)) (s14 : (List Pair)) (s15 : Int) : (Int × Int × (List Bool)) → St := fun (s8, s16, y0) => ⟨[.p (.lst false s0.length (encL en_Row s0)), .p (.lst false s1.length (encL en_Row s1)), .junk, .junk, .junk, .junk, .junk, .ref 0 0 y0.length 1, iv s8, .junk, .junk, .junk, .junk, .junk, .p (.lst false s14.length (encL en_Pair s14)), iv s15, iv s16, .junk, .junk, .junk, .junk, .junk, .junk, .junk, .junk, .junk, .junk, .junk, .junk, .junk, .junk, .junk, .junk, .junk, .junk, .junk, .junk, .junk, .junk, .junk, .junk, .junk, .junk, .junk, .junk, .junk, .junk, .junk, .junk, .junk, .junk, .junk, .junk, .junk, .junk, .junk, .junk, .junk, .junk, .junk, .junk, .junk, .junk, .junk, .junk, .junk, .junk, .junk, .junk, .junk, .junk, .junk, .junk, .junk, .junk, .junk, .junk, .junk, .junk, .junk, .junk], [.arr (encL en_bool y0)], 0⟩
theorem L28_0_ok (s0 : (List Row)) (s1 : (List Row)) (s14 : (List Pair)) (s15 : Int) : ∀ s st o, ghostsD g28_0 st = some (F28_0 s0 s1 s14 s15 s) → iter (similar_partial_L0 s0 s1 s14 s15) s = some o →
    Wp (evW Try.prog A0 28 (.loop L28_0) st) (OutQ (F28_0 s0 s1 s14 s15) g28_0 (fun n s st => n = 0 ∧ ghostsD [.keep [0, 1, 7, 8, 14, 15, 16]] st = some (F28_0 s0 s1 s14 s15 s)) (fun r st => finishD Try.prog A0 28 Try.f28 st = some (.p (.v (.bool r)), [])) o) := by
 refine Wp.iter ?_
 intro s st o hg h
 obtain ⟨s8, s16, y0⟩ := s
 unfold similar_partial_L0 at h
 unfold g28_0 F28_0 at hg ⊢
 (try simp only [] at h hg)
 unfold L28_0 bodyOf Try.f28; simp only [Option.getD_some, loopsOf, List.append_nil, List.nil_append, List.cons_append, List.getD_cons_zero, List.getD_cons_succ]
 by_cases h3 : s16 < s15
 ·rw [if_pos h3] at h
  have h3' : decide (s16 < s15) = true := decide_eq_true h3
  obtain ⟨v4, h5, h⟩ := bsm h
  obtain ⟨h5a, h5b, _⟩ := rd_some h5
  have h6 := lk_frz_39 h5
  by_cases h7 : v4.Old ≤ s8
  ·rw [if_pos h7] at h
   have h7' : decide (v4.Old ≤ s8) = true := decide_eq_true h7
   obtain rfl := Option.some.inj h
   simp (maxSteps := 10000000) (implicitDefEqProofs := false) (disch := first | assumption | omega | exact rfl) only [bs, rs28, ls28, Nat.reduceAdd, ↓reduceIte, binD_neq_bool Try.underlying4, lenD_lst u26, lenD_lst u49, loadD_iagg a39 z39, loadD_iptr a3, loadD_ptr a3, loadD_ptr a4, storeD_agg z39, storeD_bool z4, hg, ↓h3', h6, ↓h7']
   refine ⟨rfl, ?_⟩
   exact finish_is (ds := [bv false]) (x := .v (.bool false)) (y := .v (.bool false)) (l := []) rfl rfl rfl rfl (by first | rfl | (simp only [wk, wks, wkL]; first | done | rfl))
  ·rw [if_neg h7] at h
   have h7' : decide (v4.Old ≤ s8) = false := decide_eq_false h7
   by_cases h8 : (s0.length : Int) ≤ v4.Old
   ·rw [if_pos h8] at h
    have h8' : decide ((s0.length : Int) ≤ v4.Old) = true := decide_eq_true h8
    obtain rfl := Option.some.inj h
    simp (maxSteps := 10000000) (implicitDefEqProofs := false) (disch := first | assumption | omega | exact rfl) only [bs, rs28, ls28, Nat.reduceAdd, ↓reduceIte, binD_neq_bool Try.underlying4, lenD_lst u26, lenD_lst u49, loadD_iagg a39 z39, loadD_iptr a3, loadD_ptr a3, loadD_ptr a4, storeD_agg z39, storeD_bool z4, hg, ↓h3', h6, ↓h7', ↓h8']
    refine ⟨rfl, ?_⟩
    exact finish_is (ds := [bv false]) (x := .v (.bool false)) (y := .v (.bool false)) (l := []) rfl rfl rfl rfl (by first | rfl | (simp only [wk, wks, wkL]; first | done | rfl))
   ·rw [if_neg h8] at h
    have h8' : decide ((s0.length : Int) ≤ v4.Old) = false := decide_eq_false h8
    by_cases h9 : v4.New < (0 : Int)
    ·rw [if_pos h9] at h
     have h9' : decide (v4.New < (0 : Int)) = true := decide_eq_true h9
     obtain rfl := Option.some.inj h
     simp (maxSteps := 10000000) (implicitDefEqProofs := false) (disch := first | assumption | omega | exact rfl) only [bs, rs28, ls28, Nat.reduceAdd, ↓reduceIte, binD_neq_bool Try.underlying4, lenD_lst u26, lenD_lst u49, loadD_iagg a39 z39, loadD_iptr a3, loadD_ptr a3, loadD_ptr a4, storeD_agg z39, storeD_bool z4, hg, ↓h3', h6, ↓h7', ↓h8', ↓h9']
     refine ⟨rfl, ?_⟩
     exact finish_is (ds := [bv false]) (x := .v (.bool false)) (y := .v (.bool false)) (l := []) rfl rfl rfl rfl (by first | rfl | (simp only [wk, wks, wkL]; first | done | rfl))
    ·rw [if_neg h9] at h
     have h9' : decide (v4.New < (0 : Int)) = false := decide_eq_false h9
     by_cases h10 : (s1.length : Int) ≤ v4.New
     ·rw [if_pos h10] at h
      have h10' : decide ((s1.length : Int) ≤ v4.New) = true := decide_eq_true h10
      obtain rfl := Option.some.inj h
      simp (maxSteps := 10000000) (implicitDefEqProofs := false) (disch := first | assumption | omega | exact rfl) only [bs, rs28, ls28, Nat.reduceAdd, ↓reduceIte, binD_neq_bool Try.underlying4, lenD_lst u26, lenD_lst u49, loadD_iagg a39 z39, loadD_iptr a3, loadD_ptr a3, loadD_ptr a4, storeD_agg z39, storeD_bool z4, hg, ↓h3', h6, ↓h7', ↓h8', ↓h9', ↓h10']
      refine ⟨rfl, ?_⟩
      exact finish_is (ds := [bv false]) (x := .v (.bool false)) (y := .v (.bool false)) (l := []) rfl rfl rfl rfl (by first | rfl | (simp only [wk, wks, wkL]; first | done | rfl))
     ·rw [if_neg h10] at h
      have h10' : decide ((s1.length : Int) ≤ v4.New) = false := decide_eq_false h10
      obtain ⟨v11, h12, h⟩ := bsm h
      obtain ⟨h12a, h12b, _⟩ := rd_some h12
      have h13 := ce_4_x h12
      by_cases h14 : v11 = true
      ·rw [if_pos h14] at h
       obtain rfl := Option.some.inj h
       simp (maxSteps := 10000000) (implicitDefEqProofs := false) (disch := first | assumption | omega | exact rfl) only [bs, rs28, ls28, Nat.reduceAdd, ↓reduceIte, binD_neq_bool Try.underlying4, lenD_lst u26, lenD_lst u49, loadD_iagg a39 z39, loadD_iptr a3, loadD_ptr a3, loadD_ptr a4, storeD_agg z39, storeD_bool z4, hg, ↓h3', h6, ↓h7', ↓h8', ↓h9', ↓h10', h13, h14]
       refine ⟨rfl, ?_⟩
       exact finish_is (ds := [bv false]) (x := .v (.bool false)) (y := .v (.bool false)) (l := []) rfl rfl rfl rfl (by first | rfl | (simp only [wk, wks, wkL]; first | done | rfl))
      ·rw [if_neg h14] at h
       replace h14 := Bool.eq_false_iff.2 h14
       obtain ⟨v15, h16, h⟩ := bsm h
       obtain ⟨h16a, h16b, _⟩ := rd_some h16
       have h17 := ce_58__1 h16
       obtain ⟨v18, h19, h⟩ := bsm h
       obtain ⟨h19a, h19b, _⟩ := rd_some h19
       have h20 := ce_58__1 h19
       by_cases h21 : v15.Kind = v18.Kind
       ·rw [if_pos h21] at h
        have h21' : decide (v15.Kind = v18.Kind) = true := decide_eq_true h21
        by_cases h22 : (decide (v4.Old = (0 : Int))) = (decide (v4.New = (0 : Int)))
        ·rw [if_pos h22] at h
         have h22' : decide ((decide (v4.Old = (0 : Int))) = (decide (v4.New = (0 : Int)))) = true := decide_eq_true h22
         have h23 : ∀ (H : List Ob) (id : Nat), stdOb H id (v4.New.toNat * 1) (.p (.v (.bool true))) (some (.arr (encL en_bool y0))) = some (H.set id (.arr (encL en_bool (y0.set v4.New.toNat true)))) := fun H id => std_enc0 en_bool_len h12 (by decide) (by rw [en_bool_eq, en_bool_eq]; rfl)
         have h24 : (y0.set v4.New.toNat true).length = y0.length := List.length_set
         obtain rfl := Option.some.inj h
         simp (maxSteps := 10000000) (implicitDefEqProofs := false) (disch := first | assumption | omega | exact rfl) only [bs, rs28, ls28, Nat.reduceAdd, ↓reduceIte, binD_neq_bool Try.underlying4, lenD_lst u26, lenD_lst u49, loadD_iagg a39 z39, loadD_iptr a3, loadD_ptr a3, loadD_ptr a4, storeD_agg z39, storeD_bool z4, hg, ↓h3', h6, ↓h7', ↓h8', ↓h9', ↓h10', h13, h14, h17, h20, ↓h21', ↓h22', h23]
         exact ⟨rfl, by simp only [List.length_set, cpL_len]; kernel_rfl⟩
        ·rw [if_neg h22] at h
         have h22' : decide ((decide (v4.Old = (0 : Int))) = (decide (v4.New = (0 : Int)))) = false := decide_eq_false h22
         obtain rfl := Option.some.inj h
         simp (maxSteps := 10000000) (implicitDefEqProofs := false) (disch := first | assumption | omega | exact rfl) only [bs, rs28, ls28, Nat.reduceAdd, ↓reduceIte, binD_neq_bool Try.underlying4, lenD_lst u26, lenD_lst u49, loadD_iagg a39 z39, loadD_iptr a3, loadD_ptr a3, loadD_ptr a4, storeD_agg z39, storeD_bool z4, hg, ↓h3', h6, ↓h7', ↓h8', ↓h9', ↓h10', h13, h14, h17, h20, ↓h21', ↓h22']
         refine ⟨rfl, ?_⟩
         exact finish_is (ds := [bv false]) (x := .v (.bool false)) (y := .v (.bool false)) (l := []) rfl rfl rfl rfl (by first | rfl | (simp only [wk, wks, wkL]; first | done | rfl))
       ·rw [if_neg h21] at h
        have h21' : decide (v15.Kind = v18.Kind) = false := decide_eq_false h21
        obtain rfl := Option.some.inj h
        simp (maxSteps := 10000000) (implicitDefEqProofs := false) (disch := first | assumption | omega | exact rfl) only [bs, rs28, ls28, Nat.reduceAdd, ↓reduceIte, binD_neq_bool Try.underlying4, lenD_lst u26, lenD_lst u49, loadD_iagg a39 z39, loadD_iptr a3, loadD_ptr a3, loadD_ptr a4, storeD_agg z39, storeD_bool z4, hg, ↓h3', h6, ↓h7', ↓h8', ↓h9', ↓h10', h13, h14, h17, h20, ↓h21']
        refine ⟨rfl, ?_⟩
        exact finish_is (ds := [bv false]) (x := .v (.bool false)) (y := .v (.bool false)) (l := []) rfl rfl rfl rfl (by first | rfl | (simp only [wk, wks, wkL]; first | done | rfl))
 ·rw [if_neg h3] at h
  have h3' : decide (s16 < s15) = false := decide_eq_false h3
  obtain rfl := Option.some.inj h
  simp (maxSteps := 10000000) (implicitDefEqProofs := false) (disch := first | assumption | omega | exact rfl) only [bs, rs28, ls28, Nat.reduceAdd, ↓reduceIte, binD_neq_bool Try.underlying4, lenD_lst u26, lenD_lst u49, loadD_iagg a39 z39, loadD_iptr a3, loadD_ptr a3, loadD_ptr a4, storeD_agg z39, storeD_bool z4, hg, ↓h3']
  exact ⟨rfl, rfl, by kernel_rfl⟩
theorem f28_ok  (x0 : (List Row)) (x1 : (List Row)) (x2 : (List Pair)) (r : Bool) (h : similar_partial x0 x1 x2 = some r) : callW Try.prog A0 28 [.p (.lst false x0.length (encL en_Row x0)), .p (.lst false x1.length (encL en_Row x1)), .p (.lst false x2.length (encL en_Pair x2))] [] = some (.p (.v (.bool r)), []) := by
 refine call_ofH (fn := Try.f28) (c := bodyOf Try.f28) rfl rfl (by kernel_rfl) (by kernel_rfl) ?_
 rw [show initS Try.f28 [.p (.lst false x0.length (encL en_Row x0)), .p (.lst false x1.length (encL en_Row x1)), .p (.lst false x2.length (encL en_Pair x2))] [] = ⟨.p (.lst false x0.length (encL en_Row x0)) :: .p (.lst false x1.length (encL en_Row x1)) :: .p (.lst false x2.length (encL en_Pair x2)) :: List.replicate 78 undefD, [], 0⟩ from by kernel_rfl]
 unfold similar_partial at h
 unfold bodyOf Try.f28; simp only [Option.getD_some, loopsOf, List.append_nil, List.nil_append, List.cons_append, List.getD_cons_zero, List.getD_cons_succ]
 simp only [List.replicate]
 by_cases hw_ : 0 ≤ (x1.length : Int) ∧ (x1.length : Int) * 1 ≤ 140737488355328
 case neg => rw [if_neg hw_] at h; cases h
 rw [if_pos hw_] at h
 obtain ⟨h1, h2⟩ := hw_
 obtain ⟨o, h25, h⟩ := bsm h
 simp (maxSteps := 10000000) (implicitDefEqProofs := false) (disch := first | assumption | omega | exact rfl) only [bs, rs28, ls28, Nat.reduceAdd, ↓reduceIte, binD_neq_bool Try.underlying4, lenD_lst u26, lenD_lst u49, loadD_iagg a39 z39, loadD_iptr a3, loadD_ptr a3, loadD_ptr a4, storeD_agg z39, storeD_bool z4]
 refine Wp.ctx (fun x => seqW _ _ _ _ (blockW _ (x))) (L28_0_ok x0 x1 x2 (x2.length : Int) ((-1 : Int), (0 : Int), (List.replicate (x1.length : Int).toNat false)) _ o (by kernel_rfl) h25) ?_
 intro e st hq
 cases o with
 | next _ => (first | cases h | (simp at h))
 | jmp n_ s_ =>
  obtain ⟨rfl, rfl, hq⟩ := hq
  obtain ⟨s8_26, s16_26, y0_26⟩ := s_
  unfold F28_0 at hq
  (try simp only [] at h hq)
  obtain rfl := Option.some.inj h
  simp (maxSteps := 10000000) (implicitDefEqProofs := false) (disch := first | assumption | omega | exact rfl) only [bs, rs28, ls28, Nat.reduceAdd, ↓reduceIte, binD_neq_bool Try.underlying4, lenD_lst u26, lenD_lst u49, loadD_iagg a39 z39, loadD_iptr a3, loadD_ptr a3, loadD_ptr a4, storeD_agg z39, storeD_bool z4, hq]
  refine ⟨by first | exact .inl trivial | exact .inr trivial | simp, ?_⟩
  exact finish_is (ds := [bv true]) (x := .v (.bool true)) (y := .v (.bool true)) (l := []) rfl rfl rfl rfl (by first | rfl | (simp only [wk, wks, wkL]; first | done | rfl))
 | ret r27 =>
  obtain ⟨rfl, hq⟩ := hq
  obtain rfl := Option.some.inj h
  simp (maxSteps := 10000000) (implicitDefEqProofs := false) (disch := first | assumption | omega | exact rfl) only [bs, rs28, ls28, Nat.reduceAdd, ↓reduceIte, binD_neq_bool Try.underlying4, lenD_lst u26, lenD_lst u49, loadD_iagg a39 z39, loadD_iptr a3, loadD_ptr a3, loadD_ptr a4, storeD_agg z39, storeD_bool z4]
  exact ⟨by first | exact .inl trivial | exact .inr trivial | simp, hq⟩
theorem similar_partial_call {b1 b2 b3 : Bool} {H : List Ob} {x0 : (List Row)} {x1 : (List Row)} {x2 : (List Pair)} {r : Bool} (h : similar_partial x0 x1 x2 = some r) : callD (callW Try.prog A0) A0 H 28 [.p (.lst b1 x0.length (encL en_Row x0)), .p (.lst b2 x1.length (encL en_Row x1)), .p (.lst b3 x2.length (encL en_Pair x2))] = some (.p (.v (.bool r)), none) :=
  callD_fun (args := [.lst b1 x0.length (encL en_Row x0), .lst b2 x1.length (encL en_Row x1), .lst b3 x2.length (encL en_Pair x2)]) rfl rfl rfl (by simp only [List.map_cons, List.map_nil, wk, wks, wkL]; exact f28_ok x0 x1 x2 _ h)
def ls29 := And.intro @faI_58_0 (And.intro @idxL_49 (And.intro @idxR_52 (And.intro @mk_52 (@varlv_4_0_4))))
noncomputable def L29_0 : Code := (loopsOf (bodyOf Try.f29)).getD 0 .skip
def g29_0 : List Ghost := [.weak [3], .keep [3, 4, 5]]
def F29_0 (s3 : (List Row)) : (Int × (List Int)) → St := fun (s5, y0) => ⟨[.junk, .junk, .junk, .p (.lst false s3.length (encL en_Row s3)), .ref 0 0 y0.length 1, iv s5, .junk, .junk, .junk, .junk, .junk, .junk, .junk, .junk, .junk, .junk, .junk, .junk, .junk, .junk, .junk, .junk, .junk, .junk, .junk, .junk, .junk, .junk, .junk, .junk, .junk, .junk, .junk, .junk, .junk, .junk, .junk, .junk, .junk, .junk, .junk, .junk, .junk], [.arr (encL en_i64 y0)], 0⟩
theorem L29_0_ok (s3 : (List Row)) : ∀ s st o, ghostsD g29_0 st = some (F29_0 s3 s) → iter (similar_sizes_L0 s3) s = some o →
    Wp (evW Try.prog A0 29 (.loop L29_0) st) (OutQ (F29_0 s3) g29_0 (fun n s st => n = 0 ∧ ghostsD [.keep [3, 4, 5]] st = some (F29_0 s3 s)) (fun r st => finishD Try.prog A0 29 Try.f29 st = some (.p (.lst false r.length (encL en_i64 r)), [])) o) := by
 refine Wp.iter ?_
 intro s st o hg h
 obtain ⟨s5, y0⟩ := s
 unfold similar_sizes_L0 at h
 unfold g29_0 F29_0 at hg ⊢
 (try simp only [] at h hg)
 unfold L29_0 bodyOf Try.f29; simp only [Option.getD_some, loopsOf, List.append_nil, List.nil_append, List.cons_append, List.getD_cons_zero, List.getD_cons_succ]
 by_cases h6 : (0 : Int) ≤ s5
 ·rw [if_pos h6] at h
  have h6' : decide ((0 : Int) ≤ s5) = true := decide_eq_true h6
  obtain ⟨v7, h8, h⟩ := bsm h
  obtain ⟨h8a, h8b, _⟩ := rd_some h8
  have h9 := ce_3_x h8
  have h10 : ∀ (H : List Ob) (id : Nat), stdOb H id (s5.toNat * 1) (.p (.v (.int .i64 (w64 (v7 + (1 : Int)))))) (some (.arr (encL en_i64 y0))) = some (H.set id (.arr (encL en_i64 (y0.set s5.toNat (w64 (v7 + (1 : Int))))))) := fun H id => std_enc0 en_i64_len h8 (by decide) (by rw [en_i64_eq, en_i64_eq]; rfl)
  have h11 : (y0.set s5.toNat (w64 (v7 + (1 : Int)))).length = y0.length := List.length_set
  obtain ⟨v12, h13, h⟩ := bsm h
  obtain ⟨h13a, h13b, _⟩ := rd_some h13
  have h14 := ce_58__0 h13
  by_cases h15 : (0 : Int) ≤ v12.Parent
  ·rw [if_pos h15] at h
   have h15' : decide ((0 : Int) ≤ v12.Parent) = true := decide_eq_true h15
   obtain ⟨v16, h17, h⟩ := bsm h
   obtain ⟨h17a, h17b, _⟩ := rd_some h17
   have h18 := ce_3_x h17
   obtain ⟨v19, h20, h⟩ := bsm h
   obtain ⟨h20a, h20b, _⟩ := rd_some h20
   have h21 := ce_3_x h20
   have h22 : ∀ (H : List Ob) (id : Nat), stdOb H id (v12.Parent.toNat * 1) (.p (.v (.int .i64 (w64 (v16 + v19))))) (some (.arr (encL en_i64 (y0.set s5.toNat (w64 (v7 + (1 : Int))))))) = some (H.set id (.arr (encL en_i64 ((y0.set s5.toNat (w64 (v7 + (1 : Int)))).set v12.Parent.toNat (w64 (v16 + v19)))))) := fun H id => std_enc0 en_i64_len h17 (by decide) (by rw [en_i64_eq, en_i64_eq]; rfl)
   have h23 : ((y0.set s5.toNat (w64 (v7 + (1 : Int)))).set v12.Parent.toNat (w64 (v16 + v19))).length = (y0.set s5.toNat (w64 (v7 + (1 : Int)))).length := List.length_set
   obtain rfl := Option.some.inj h
   simp (maxSteps := 10000000) (implicitDefEqProofs := false) (disch := first | assumption | omega | exact rfl) only [bs, rs29, ls29, Nat.reduceAdd, ↓reduceIte, lenD_lst u49, loadD_iptr a3, loadD_pagg a25 z25, loadD_ptr a3, storeD_int z3, hg, ↓h6', h9, h10, h14, ↓h15', h18, h21, h22]
   exact ⟨rfl, by simp only [List.length_set, cpL_len]; kernel_rfl⟩
  ·rw [if_neg h15] at h
   have h15' : decide ((0 : Int) ≤ v12.Parent) = false := decide_eq_false h15
   obtain rfl := Option.some.inj h
   simp (maxSteps := 10000000) (implicitDefEqProofs := false) (disch := first | assumption | omega | exact rfl) only [bs, rs29, ls29, Nat.reduceAdd, ↓reduceIte, lenD_lst u49, loadD_iptr a3, loadD_pagg a25 z25, loadD_ptr a3, storeD_int z3, hg, ↓h6', h9, h10, h14, ↓h15']
   exact ⟨rfl, by simp only [List.length_set, cpL_len]; kernel_rfl⟩
 ·rw [if_neg h6] at h
  have h6' : decide ((0 : Int) ≤ s5) = false := decide_eq_false h6
  obtain rfl := Option.some.inj h
  simp (maxSteps := 10000000) (implicitDefEqProofs := false) (disch := first | assumption | omega | exact rfl) only [bs, rs29, ls29, Nat.reduceAdd, ↓reduceIte, lenD_lst u49, loadD_iptr a3, loadD_pagg a25 z25, loadD_ptr a3, storeD_int z3, hg, ↓h6']
  exact ⟨rfl, rfl, by kernel_rfl⟩
theorem f29_ok  (x0 : Node) (r : (List Int)) (h : similar_sizes x0 = some r) : callW Try.prog A0 29 [.p (.agg [.v (.int .i64 x0.Kind), .v (.string x0.Text), .lst false x0.Gaps.length (encL en_str x0.Gaps), .lst false x0.Kids.length (encL en_Node x0.Kids)])] [] = some (.p (.lst false r.length (encL en_i64 r)), []) := by
 refine call_ofH (fn := Try.f29) (c := bodyOf Try.f29) rfl rfl (by kernel_rfl) (by kernel_rfl) ?_
 rw [show initS Try.f29 [.p (.agg [.v (.int .i64 x0.Kind), .v (.string x0.Text), .lst false x0.Gaps.length (encL en_str x0.Gaps), .lst false x0.Kids.length (encL en_Node x0.Kids)])] [] = ⟨.p (.agg [.v (.int .i64 x0.Kind), .v (.string x0.Text), .lst false x0.Gaps.length (encL en_str x0.Gaps), .lst false x0.Kids.length (encL en_Node x0.Kids)]) :: List.replicate 42 undefD, [], 0⟩ from by kernel_rfl]
 unfold similar_sizes at h
 unfold bodyOf Try.f29; simp only [Option.getD_some, loopsOf, List.append_nil, List.nil_append, List.cons_append, List.getD_cons_zero, List.getD_cons_succ]
 simp only [List.replicate]
 obtain ⟨r1, h2, h⟩ := bsm h
 have h3 : ∀ H, callD (callW Try.prog A0) A0 H 27 [.p (.agg [.v (.int .i64 x0.Kind), .v (.string x0.Text), .lst false x0.Gaps.length (encL en_str x0.Gaps), .lst false x0.Kids.length (encL en_Node x0.Kids)])] = some (.p (.lst false r1.length (encL en_Row r1)), none) := fun H => tree_Rows_call h2
 by_cases hw_ : 0 ≤ (r1.length : Int) ∧ (r1.length : Int) * 8 ≤ 140737488355328
 case neg => rw [if_neg hw_] at h; cases h
 rw [if_pos hw_] at h
 obtain ⟨h4, h5⟩ := hw_
 obtain ⟨o, h24, h⟩ := bsm h
 simp (maxSteps := 10000000) (implicitDefEqProofs := false) (disch := first | assumption | omega | exact rfl) only [bs, rs29, ls29, Nat.reduceAdd, ↓reduceIte, lenD_lst u49, loadD_iptr a3, loadD_pagg a25 z25, loadD_ptr a3, storeD_int z3, h3]
 refine Wp.ctx (fun x => seqW _ _ _ _ (blockW _ (x))) (L29_0_ok r1 (w64 ((r1.length : Int) - (1 : Int)), (List.replicate (r1.length : Int).toNat (0 : Int))) _ o (by kernel_rfl) h24) ?_
 intro e st hq
 cases o with
 | next _ => (first | cases h | (simp at h))
 | jmp n_ s_ =>
  obtain ⟨rfl, rfl, hq⟩ := hq
  obtain ⟨s5_25, y0_25⟩ := s_
  unfold F29_0 at hq
  (try simp only [] at h hq)
  obtain rfl := Option.some.inj h
  simp (maxSteps := 10000000) (implicitDefEqProofs := false) (disch := first | assumption | omega | exact rfl) only [bs, rs29, ls29, Nat.reduceAdd, ↓reduceIte, lenD_lst u49, loadD_iptr a3, loadD_pagg a25 z25, loadD_ptr a3, storeD_int z3, h3, hq]
  refine ⟨by first | exact .inl trivial | exact .inr trivial | simp, ?_⟩
  exact finish_is (ds := [.ref 0 0 y0_25.length 1]) (x := .lst false y0_25.length (encL en_i64 y0_25)) (y := .lst false y0_25.length (encL en_i64 y0_25)) (l := [0]) rfl rfl rfl (purify1_enc en_i64_len rfl (by first | rfl | omega)) (by first | rfl | (simp only [wk, wks, wkL]; first | done | rfl))
 | ret _ => (first | cases h | (simp at h))
theorem similar_sizes_call {b1 b2 : Bool} {H : List Ob} {x0 : Node} {r : (List Int)} (h : similar_sizes x0 = some r) : callD (callW Try.prog A0) A0 H 29 [.p (.agg [.v (.int .i64 x0.Kind), .v (.string x0.Text), .lst b1 x0.Gaps.length (encL en_str x0.Gaps), .lst b2 x0.Kids.length (encL en_Node x0.Kids)])] = some (.p (.lst false r.length (encL en_i64 r)), none) :=
  callD_fun (args := [.agg [.v (.int .i64 x0.Kind), .v (.string x0.Text), .lst b1 x0.Gaps.length (encL en_str x0.Gaps), .lst b2 x0.Kids.length (encL en_Node x0.Kids)]]) rfl rfl rfl (by simp only [List.map_cons, List.map_nil, wk, wks, wkL]; exact f29_ok x0 _ h)
def ls30 := And.intro @apn_26_26 (@bs_26_0)
theorem f30_ok  (x0 : (List Pair)) (r : (List Pair)) (h : slices_Clone x0 = some r) : callW Try.prog A0 30 [.p (.lst false x0.length (encL en_Pair x0))] [] = some (.ref 0 0 r.length 2, [.arr (encL en_Pair r)]) := by
 by_cases hx0 : x0 = []
 case pos => subst hx0; simp [slices_Clone] at h; subst h; exact clone_nil rfl rfl
 refine call_ofH (fn := Try.f30) (c := bodyOf Try.f30) (by cases x0 with | nil => exact absurd rfl hx0 | cons _ _ => rfl) rfl (by kernel_rfl) (by kernel_rfl) ?_
 rw [show initS Try.f30 [.p (.lst false x0.length (encL en_Pair x0))] [] = ⟨.p (.lst false x0.length (encL en_Pair x0)) :: List.replicate 7 undefD, [], 0⟩ from by kernel_rfl]
 unfold slices_Clone at h
 unfold bodyOf Try.f30; simp only [Option.getD_some, loopsOf, List.append_nil, List.nil_append, List.cons_append, List.getD_cons_zero, List.getD_cons_succ]
 simp only [List.replicate]
 have h1 : ∀ b n, nilD Try.prog .eql 26 (.p (.lst b n (encL en_Pair x0))) = some (bv false) := fun b n => nilD_ne u26 (encL_ne en_Pair_len (by decide) hx0)
 by_cases hw_ : x0.length * 16 ≤ 140737488355328
 case neg => rw [if_neg hw_] at h; cases h
 rw [if_pos hw_] at h
 have h3 := hw_
 have h2 : ∀ (H : List Ob), apN H x0.length 2 16 (encL en_Pair x0) = some (.ref H.length 0 x0.length 2, H ++ [.arr (encL en_Pair x0)]) := fun H => apn_enc (y := x0) en_Pair_len rfl rfl (by assumption)
 obtain rfl := Option.some.inj h
 simp (maxSteps := 10000000) (implicitDefEqProofs := false) (disch := first | assumption | omega | exact rfl) only [bs, rs30, ls30, Nat.reduceAdd, ↓reduceIte, binN_nil, h1, h2]
 refine ⟨by first | exact .inl trivial | exact .inr trivial | simp, ?_⟩
 show _ = _
 kernel_rfl
theorem slices_Clone_call {b1 : Bool} {H : List Ob} {x0 : (List Pair)} {r : (List Pair)} (h : slices_Clone x0 = some r) : callD (callW Try.prog A0) A0 H 30 [.p (.lst b1 x0.length (encL en_Pair x0))] = some (.ref H.length 0 r.length 2, some (H ++ [.arr (encL en_Pair r)])) :=
  callD_new (args := [.lst b1 x0.length (encL en_Pair x0)]) rfl rfl rfl (by simp only [List.map_cons, List.map_nil, wk, wks, wkL]; exact f30_ok x0 _ h)
def ls32 := And.intro @al_39 (And.intro @faI_58_0 (And.intro @faP_39_0 (And.intro @faP_39_1 (And.intro @idxL_49 (And.intro @idxR_26 (And.intro @idxR_52 (And.intro @mk_52 (And.intro @sa_2_0_2 (And.intro @varld_2_0_0 (@varld_2_0_1))))))))))
noncomputable def L32_1 : Code := (loopsOf (bodyOf Try.f32)).getD 1 .skip
def g32_1 : List Ghost := [.weak [0], .keep [0, 2, 3, 9, 12, 16, 17, 18]]
def F32_1 (s0 : (List Row)) (s2 : Int) (s3 : Int) (s17 : Int) (s18 : Int) (y0 : (List Pair)) : (Int × (List Int)) → St := fun (s12, y1) => ⟨[.p (.lst false s0.length (encL en_Row s0)), .junk, iv s2, iv s3, .junk, .junk, .junk, .junk, .junk, .ref 1 0 y1.length 1, .junk, .junk, iv s12, .junk, .junk, .junk, .ref 0 0 y0.length 2, iv s17, iv s18, .junk, .junk, .junk, .junk, .junk, .junk, .junk, .junk, .junk, .junk, .junk, .junk, .junk, .junk, .junk, .junk, .junk, .junk, .junk, .junk, .junk, .junk, .junk, .junk, .junk, .junk, .junk, .junk, .junk], [.roa (encL en_Pair y0), .arr (encL en_i64 y1)], 1⟩
theorem L32_1_ok (s0 : (List Row)) (s2 : Int) (s3 : Int) (s17 : Int) (s18 : Int) (y0 : (List Pair)) : ∀ s st o, ghostsD g32_1 st = some (F32_1 s0 s2 s3 s17 s18 y0 s) → iter (similar_above_L1 s0 s2 s3 s17 s18 y0) s = some o →
    Wp (evW Try.prog A0 32 (.loop L32_1) st) (OutQ (F32_1 s0 s2 s3 s17 s18 y0) g32_1 (fun n s st => n = 2 ∧ ghostsD [.keep [0, 2, 3, 9, 12, 16, 17, 18]] st = some (F32_1 s0 s2 s3 s17 s18 y0 s)) (fun r st => finishD Try.prog A0 32 Try.f32 st = some (.p (.lst false r.length (encL en_i64 r)), [.roa (encL en_Pair y0)])) o) := by
 refine Wp.iter ?_
 intro s st o hg h
 obtain ⟨s12, y1⟩ := s
 unfold similar_above_L1 at h
 unfold g32_1 F32_1 at hg ⊢
 (try simp only [] at h hg)
 unfold L32_1 bodyOf Try.f32; simp only [Option.getD_some, loopsOf, List.append_nil, List.nil_append, List.cons_append, List.getD_cons_zero, List.getD_cons_succ]
 by_cases h14 : (0 : Int) ≤ s12
 ·rw [if_pos h14] at h
  have h14' : decide ((0 : Int) ≤ s12) = true := decide_eq_true h14
  obtain ⟨v15, h16, h⟩ := bsm h
  obtain ⟨h16a, h16b, _⟩ := rd_some h16
  have h17 := ce_3_x h16
  have h18 : ∀ (H : List Ob) (id : Nat), stdOb H id (s12.toNat * 1) (.p (.v (.int .i64 (w64 (v15 + (1 : Int)))))) (some (.arr (encL en_i64 y1))) = some (H.set id (.arr (encL en_i64 (y1.set s12.toNat (w64 (v15 + (1 : Int))))))) := fun H id => std_enc0 en_i64_len h16 (by decide) (by rw [en_i64_eq, en_i64_eq]; rfl)
  have h19 : (y1.set s12.toNat (w64 (v15 + (1 : Int)))).length = y1.length := List.length_set
  obtain ⟨v20, h21, h⟩ := bsm h
  obtain ⟨h21a, h21b, _⟩ := rd_some h21
  have h22 := ce_58__0 h21
  obtain rfl := Option.some.inj h
  simp (maxSteps := 10000000) (implicitDefEqProofs := false) (disch := first | assumption | omega | exact rfl) only [bs, rs32, ls32, Nat.reduceAdd, ↓reduceIte, ldOb_roa, lenD_lst u49, lenD_ref u26, loadD_iptr a3, loadD_pagg a39 z39, loadD_ptr a3, storeD_agg z39, storeD_int z3, hg, ↓h14', h17, h18, h22]
  exact ⟨rfl, by simp only [List.length_set, cpL_len]; kernel_rfl⟩
 ·rw [if_neg h14] at h
  have h14' : decide ((0 : Int) ≤ s12) = false := decide_eq_false h14
  obtain rfl := Option.some.inj h
  simp (maxSteps := 10000000) (implicitDefEqProofs := false) (disch := first | assumption | omega | exact rfl) only [bs, rs32, ls32, Nat.reduceAdd, ↓reduceIte, ldOb_roa, lenD_lst u49, lenD_ref u26, loadD_iptr a3, loadD_pagg a39 z39, loadD_ptr a3, storeD_agg z39, storeD_int z3, hg, ↓h14']
  exact ⟨rfl, rfl, by kernel_rfl⟩
noncomputable def L32_0 : Code := (loopsOf (bodyOf Try.f32)).getD 0 .skip
def g32_0 : List Ghost := [.weak [0], .keep [0, 2, 3, 9, 16, 17, 18]]
def F32_0 (s0 : (List Row)) (s2 : Int) (s3 : Int) (s17 : Int) (y0 : (List Pair)) : (Int × (List Int)) → St := fun (s18, y1) => ⟨[.p (.lst false s0.length (encL en_Row s0)), .junk, iv s2, iv s3, .junk, .junk, .junk, .junk, .junk, .ref 1 0 y1.length 1, .junk, .junk, .junk, .junk, .junk, .junk, .ref 0 0 y0.length 2, iv s17, iv s18, .junk, .junk, .junk, .junk, .junk, .junk, .junk, .junk, .junk, .junk, .junk, .junk, .junk, .junk, .junk, .junk, .junk, .junk, .junk, .junk, .junk, .junk, .junk, .junk, .junk, .junk, .junk, .junk, .junk], [.roa (encL en_Pair y0), .arr (encL en_i64 y1)], 1⟩
theorem L32_0_ok (s0 : (List Row)) (s2 : Int) (s3 : Int) (s17 : Int) (y0 : (List Pair)) : ∀ s st o, ghostsD g32_0 st = some (F32_0 s0 s2 s3 s17 y0 s) → iter (similar_above_L0 s0 s2 s3 s17 y0) s = some o →
    Wp (evW Try.prog A0 32 (.loop L32_0) st) (OutQ (F32_0 s0 s2 s3 s17 y0) g32_0 (fun n s st => n = 0 ∧ ghostsD [.keep [0, 2, 3, 9, 16, 17, 18]] st = some (F32_0 s0 s2 s3 s17 y0 s)) (fun r st => finishD Try.prog A0 32 Try.f32 st = some (.p (.lst false r.length (encL en_i64 r)), [.roa (encL en_Pair y0)])) o) := by
 refine Wp.iter ?_
 intro s st o hg h
 obtain ⟨s18, y1⟩ := s
 unfold similar_above_L0 at h
 unfold g32_0 F32_0 at hg ⊢
 (try simp only [] at h hg)
 unfold L32_0 bodyOf Try.f32; simp only [Option.getD_some, loopsOf, List.append_nil, List.nil_append, List.cons_append, List.getD_cons_zero, List.getD_cons_succ]
 by_cases h3 : s18 < s17
 ·rw [if_pos h3] at h
  have h3' : decide (s18 < s17) = true := decide_eq_true h3
  obtain ⟨v4, h5, h⟩ := bsm h
  obtain ⟨h5a, h5b, _⟩ := rd_some h5
  have h6 := lk_roa_39 h5
  obtain ⟨r7, h8, h⟩ := bsm h
  have h9 : ∀ H, callD (callW Try.prog A0) A0 H 24 [iv v4.Old, iv s2, iv s3] = some (.p (.v (.bool r7)), none) := fun H => similar_below_call h8
  by_cases h10 : r7 = true
  ·rw [if_pos h10] at h
   obtain ⟨v11, h12, h⟩ := bsm h
   obtain ⟨h12a, h12b, _⟩ := rd_some h12
   have h13 := ce_58__0 h12
   obtain ⟨o, h23, h⟩ := bsm h
   simp (maxSteps := 10000000) (implicitDefEqProofs := false) (disch := first | assumption | omega | exact rfl) only [bs, rs32, ls32, Nat.reduceAdd, ↓reduceIte, ldOb_roa, lenD_lst u49, lenD_ref u26, loadD_iptr a3, loadD_pagg a39 z39, loadD_ptr a3, storeD_agg z39, storeD_int z3, hg, ↓h3', h6, h9, h10, h13]
   refine Wp.ctx (fun x => seqW _ _ _ _ (blockW _ (blockW _ (x)))) (L32_1_ok s0 s2 s3 s17 s18 y0 (v11.Parent, y1) _ o (by kernel_rfl) h23) ?_
   intro e st hq
   cases o with
   | next _ => (first | cases h | (simp at h))
   | jmp n_ s_ =>
    obtain ⟨rfl, rfl, hq⟩ := hq
    obtain ⟨s12_24, y1_24⟩ := s_
    unfold F32_1 at hq
    (try simp only [] at h hq)
    obtain rfl := Option.some.inj h
    simp (maxSteps := 10000000) (implicitDefEqProofs := false) (disch := first | assumption | omega | exact rfl) only [bs, rs32, ls32, Nat.reduceAdd, ↓reduceIte, ldOb_roa, lenD_lst u49, lenD_ref u26, loadD_iptr a3, loadD_pagg a39 z39, loadD_ptr a3, storeD_agg z39, storeD_int z3, hg, ↓h3', h6, h9, h10, h13, hq]
    exact ⟨rfl, by kernel_rfl⟩
   | ret _ => (first | cases h | (simp at h))
  ·rw [if_neg h10] at h
   replace h10 := Bool.eq_false_iff.2 h10
   simp (maxSteps := 10000000) (implicitDefEqProofs := false) (disch := first | assumption | omega | exact rfl) only [bs, rs32, ls32, Nat.reduceAdd, ↓reduceIte, ldOb_roa, lenD_lst u49, lenD_ref u26, loadD_iptr a3, loadD_pagg a39 z39, loadD_ptr a3, storeD_agg z39, storeD_int z3, hg, ↓h3', h6, h9, h10]
   refine Wp.gh (fun x => regW _ _ _ _ _ x) ⟨[.p (.lst false s0.length (encL en_Row s0)), .junk, iv s2, iv s3, .junk, .junk, .junk, .junk, .junk, .ref 1 0 y1.length 1, .junk, .junk, .junk, .junk, .junk, .junk, .ref 0 0 y0.length 2, iv s17, iv s18, .junk, .junk, .junk, .junk, .junk, .junk, .junk, .junk, .junk, .junk, .junk, .junk, .junk, .junk, .junk, .junk, .junk, .junk, .junk, .junk, .junk, .junk, .junk, .junk, .junk, .junk, .junk, .junk, .junk], [.roa (encL en_Pair y0), .arr (encL en_i64 y1)], 1⟩ (by kernel_rfl) ?_
   obtain rfl := Option.some.inj h
   simp (maxSteps := 10000000) (implicitDefEqProofs := false) (disch := first | assumption | omega | exact rfl) only [bs, rs32, ls32, Nat.reduceAdd, ↓reduceIte, ldOb_roa, lenD_lst u49, lenD_ref u26, loadD_iptr a3, loadD_pagg a39 z39, loadD_ptr a3, storeD_agg z39, storeD_int z3, hg, ↓h3', h6, h9, h10]
   exact ⟨rfl, by kernel_rfl⟩
 ·rw [if_neg h3] at h
  have h3' : decide (s18 < s17) = false := decide_eq_false h3
  obtain rfl := Option.some.inj h
  simp (maxSteps := 10000000) (implicitDefEqProofs := false) (disch := first | assumption | omega | exact rfl) only [bs, rs32, ls32, Nat.reduceAdd, ↓reduceIte, ldOb_roa, lenD_lst u49, lenD_ref u26, loadD_iptr a3, loadD_pagg a39 z39, loadD_ptr a3, storeD_agg z39, storeD_int z3, hg, ↓h3']
  exact ⟨rfl, rfl, by kernel_rfl⟩
theorem f32_ok  (x0 : (List Row)) (x1 : (List Pair)) (x2 : Int) (x3 : Int) (r : (List Int)) (h : similar_above x0 x1 x2 x3 = some r) : callW Try.prog A0 32 [.p (.lst false x0.length (encL en_Row x0)), .ref 0 0 x1.length 2, iv x2, iv x3] [.roa (encL en_Pair x1)] = some (.p (.lst false r.length (encL en_i64 r)), [.roa (encL en_Pair x1)]) := by
 refine call_ofH (fn := Try.f32) (c := bodyOf Try.f32) rfl rfl (by kernel_rfl) (by kernel_rfl) ?_
 rw [show initS Try.f32 [.p (.lst false x0.length (encL en_Row x0)), .ref 0 0 x1.length 2, iv x2, iv x3] [.roa (encL en_Pair x1)] = ⟨.p (.lst false x0.length (encL en_Row x0)) :: .ref 0 0 x1.length 2 :: iv x2 :: iv x3 :: List.replicate 44 undefD, [.roa (encL en_Pair x1)], 1⟩ from by kernel_rfl]
 unfold similar_above at h
 unfold bodyOf Try.f32; simp only [Option.getD_some, loopsOf, List.append_nil, List.nil_append, List.cons_append, List.getD_cons_zero, List.getD_cons_succ]
 simp only [List.replicate]
 by_cases hw_ : 0 ≤ (x0.length : Int) ∧ (x0.length : Int) * 8 ≤ 140737488355328
 case neg => rw [if_neg hw_] at h; cases h
 rw [if_pos hw_] at h
 obtain ⟨h1, h2⟩ := hw_
 obtain ⟨o, h25, h⟩ := bsm h
 simp (maxSteps := 10000000) (implicitDefEqProofs := false) (disch := first | assumption | omega | exact rfl) only [bs, rs32, ls32, Nat.reduceAdd, ↓reduceIte, ldOb_roa, lenD_lst u49, lenD_ref u26, loadD_iptr a3, loadD_pagg a39 z39, loadD_ptr a3, storeD_agg z39, storeD_int z3]
 refine Wp.ctx (fun x => seqW _ _ _ _ (blockW _ (x))) (L32_0_ok x0 x2 x3 (x1.length : Int) x1 ((0 : Int), (List.replicate (x0.length : Int).toNat (0 : Int))) _ o (by kernel_rfl) h25) ?_
 intro e st hq
 cases o with
 | next _ => (first | cases h | (simp at h))
 | jmp n_ s_ =>
  obtain ⟨rfl, rfl, hq⟩ := hq
  obtain ⟨s18_26, y1_26⟩ := s_
  unfold F32_0 at hq
  (try simp only [] at h hq)
  obtain rfl := Option.some.inj h
  simp (maxSteps := 10000000) (implicitDefEqProofs := false) (disch := first | assumption | omega | exact rfl) only [bs, rs32, ls32, Nat.reduceAdd, ↓reduceIte, ldOb_roa, lenD_lst u49, lenD_ref u26, loadD_iptr a3, loadD_pagg a39 z39, loadD_ptr a3, storeD_agg z39, storeD_int z3, hq]
  refine ⟨by first | exact .inl trivial | exact .inr trivial | simp, ?_⟩
  exact finish_isH (ds := [.ref 1 0 y1_26.length 1]) (x := .lst false y1_26.length (encL en_i64 y1_26)) (y := .lst false y1_26.length (encL en_i64 y1_26)) (l := [1]) rfl rfl (purify1_enc en_i64_len rfl (by first | rfl | omega)) (by first | rfl | (simp only [wk, wks, wkL]; first | done | rfl)) (by kernel_rfl)
 | ret _ => (first | cases h | (simp at h))
theorem similar_above_callg {x0 : (List Row)} {x1 : (List Pair)} {x2 : Int} {x3 : Int} {r : (List Int)} (h : similar_above x0 x1 x2 x3 = some r) : callW Try.prog A0 32 [.p (.lst false x0.length (encL en_Row x0)), .ref 0 0 x1.length 2, iv x2, iv x3] [.roa (encL en_Pair x1)] = some (.p (.lst false r.length (encL en_i64 r)), [.roa (encL en_Pair x1)]) := f32_ok x0 x1 x2 x3 _ h
def ls31 := And.intro @ap_26_26 (And.intro @bs_26_1 (And.intro @bu_39_0_1 (And.intro @idxR_54 (And.intro @sg_1_0_r (@varld_1_0)))))
theorem f31_ok  (x0 : Int) (x1 : Int) (o3 : (List Pair)) (o4 : (List Bool)) (o5 : (List Bool)) (r : ((List Bool) × (List Bool) × (List Pair))) (h : similar_Match_c1 x0 x1 o3 o4 o5 = some r) : callW Try.prog A0 31 [iv x0, iv x1, .ptr 0 0, .ptr 1 0, .ptr 2 0] [.var [.ref 3 0 o3.length 2], .var [.ref 4 0 o4.length 1], .var [.ref 5 0 o5.length 1], .arr (encL en_Pair o3), .arr (encL en_bool o4), .arr (encL en_bool o5)] = some (.p (.tup []), [.var [.ref 6 0 r.2.2.length 2], .var [.ref 4 0 o4.length 1], .var [.ref 5 0 o5.length 1], .dead, .arr (encL en_bool r.1), .arr (encL en_bool r.2.1), .arr (encL en_Pair r.2.2)]) := by
 refine call_ofH (fn := Try.f31) (c := bodyOf Try.f31) rfl rfl (by kernel_rfl) (by kernel_rfl) ?_
 rw [show initS Try.f31 [iv x0, iv x1, .ptr 0 0, .ptr 1 0, .ptr 2 0] [.var [.ref 3 0 o3.length 2], .var [.ref 4 0 o4.length 1], .var [.ref 5 0 o5.length 1], .arr (encL en_Pair o3), .arr (encL en_bool o4), .arr (encL en_bool o5)] = ⟨iv x0 :: iv x1 :: .ptr 0 0 :: .ptr 1 0 :: .ptr 2 0 :: List.replicate 14 undefD, [.var [.ref 3 0 o3.length 2], .var [.ref 4 0 o4.length 1], .var [.ref 5 0 o5.length 1], .arr (encL en_Pair o3), .arr (encL en_bool o4), .arr (encL en_bool o5)], 6⟩ from by kernel_rfl]
 unfold similar_Match_c1 at h
 unfold bodyOf Try.f31; simp only [Option.getD_some, loopsOf, List.append_nil, List.nil_append, List.cons_append, List.getD_cons_zero, List.getD_cons_succ]
 simp only [List.replicate]
 by_cases hw_ : (o3.length + 1) * 16 ≤ 140737488355328
 case neg => rw [if_neg hw_] at h; cases h
 rw [if_pos hw_] at h
 have h2 := hw_
 have h1 : ∀ (H : List Ob) (id : Nat), apOb H id 0 o3.length 1 2 2 16 [.v (.int .i64 x0), .v (.int .i64 x1)] (some (.arr (encL en_Pair o3))) = some (.ref H.length 0 (o3 ++ [(Pair.mk x0 x1)]).length 2, H.set id .dead ++ [.arr (encL en_Pair (o3 ++ [(Pair.mk x0 x1)]))]) := fun H id => ap_enc (y := [(Pair.mk x0 x1)]) en_Pair_len (by first | rfl | omega) rfl (by first | (simp only [encL_cons, encL_nil, en_Pair_eq, List.cons_append, List.nil_append]; done) | (simp only [encL_cons, encL_nil, en_Pair_eq, List.cons_append, List.nil_append]; rfl) | rfl) (by assumption)
 obtain ⟨v3, h4, h⟩ := bsm h
 obtain ⟨h4a, h4b, _⟩ := rd_some h4
 have h5 : ∀ (H : List Ob) (id : Nat), stdOb H id (x0.toNat * 1) (.p (.v (.bool true))) (some (.arr (encL en_bool o4))) = some (H.set id (.arr (encL en_bool (o4.set x0.toNat true)))) := fun H id => std_enc0 en_bool_len h4 (by decide) (by rw [en_bool_eq, en_bool_eq]; rfl)
 have h6 : (o4.set x0.toNat true).length = o4.length := List.length_set
 obtain ⟨v7, h8, h⟩ := bsm h
 obtain ⟨h8a, h8b, _⟩ := rd_some h8
 have h9 : ∀ (H : List Ob) (id : Nat), stdOb H id (x1.toNat * 1) (.p (.v (.bool true))) (some (.arr (encL en_bool o5))) = some (H.set id (.arr (encL en_bool (o5.set x1.toNat true)))) := fun H id => std_enc0 en_bool_len h8 (by decide) (by rw [en_bool_eq, en_bool_eq]; rfl)
 have h10 : (o5.set x1.toNat true).length = o5.length := List.length_set
 obtain rfl := Option.some.inj h
 simp (maxSteps := 10000000) (implicitDefEqProofs := false) (disch := first | assumption | omega | exact rfl | (refine dynT ?_; kernel_rfl)) only [bs, rs31, ls31, Nat.reduceAdd, ↓reduceIte, loadD_ptr a26, loadD_ptr a54, storeD_bool z4, storeD_gref z26, wks_nil_, h1, h5, h9]
 refine ⟨by first | exact .inl trivial | exact .inr trivial | simp, ?_⟩
 show _ = _
 (try simp only [List.length_set, cpL_len]); kernel_rfl
theorem similar_Match_c1_callg {x0 : Int} {x1 : Int} {o3 : (List Pair)} {o4 : (List Bool)} {o5 : (List Bool)} {r : ((List Bool) × (List Bool) × (List Pair))} (h : similar_Match_c1 x0 x1 o3 o4 o5 = some r) : callW Try.prog A0 31 [iv x0, iv x1, .ptr 0 0, .ptr 1 0, .ptr 2 0] [.var [.ref 3 0 o3.length 2], .var [.ref 4 0 o4.length 1], .var [.ref 5 0 o5.length 1], .arr (encL en_Pair o3), .arr (encL en_bool o4), .arr (encL en_bool o5)] = some (.p (.tup []), [.var [.ref 6 0 r.2.2.length 2], .var [.ref 4 0 o4.length 1], .var [.ref 5 0 o5.length 1], .dead, .arr (encL en_bool r.1), .arr (encL en_bool r.2.1), .arr (encL en_Pair r.2.2)]) := f31_ok x0 x1 o3 o4 o5 _ h
def ls34 := And.intro @faP_39_0 (@varld_2_0_0)
theorem f34_ok  (x0 : Pair) (x1 : Pair) (r : Int) (h : similar_Match_c2 x0 x1 = some r) : callW Try.prog A0 34 [.p (.agg [.v (.int .i64 x0.Old), .v (.int .i64 x0.New)]), .p (.agg [.v (.int .i64 x1.Old), .v (.int .i64 x1.New)])] [] = some (.p (.v (.int .i64 r)), []) := by
 refine call_ofH (fn := Try.f34) (c := bodyOf Try.f34) rfl rfl (by kernel_rfl) (by kernel_rfl) ?_
 rw [show initS Try.f34 [.p (.agg [.v (.int .i64 x0.Old), .v (.int .i64 x0.New)]), .p (.agg [.v (.int .i64 x1.Old), .v (.int .i64 x1.New)])] [] = ⟨.p (.agg [.v (.int .i64 x0.Old), .v (.int .i64 x0.New)]) :: .p (.agg [.v (.int .i64 x1.Old), .v (.int .i64 x1.New)]) :: List.replicate 8 undefD, [], 0⟩ from by kernel_rfl]
 unfold similar_Match_c2 at h
 unfold bodyOf Try.f34; simp only [Option.getD_some, loopsOf, List.append_nil, List.nil_append, List.cons_append, List.getD_cons_zero, List.getD_cons_succ]
 simp only [List.replicate]
 obtain rfl := Option.some.inj h
 simp (maxSteps := 10000000) (implicitDefEqProofs := false) (disch := first | assumption | omega | exact rfl) only [bs, rs34, ls34, Nat.reduceAdd, ↓reduceIte, loadD_ptr a3]
 refine ⟨by first | exact .inl trivial | exact .inr trivial | simp, ?_⟩
 exact finish_is (ds := [iv (w64 (x0.Old - x1.Old))]) (x := .v (.int .i64 (w64 (x0.Old - x1.Old)))) (y := .v (.int .i64 (w64 (x0.Old - x1.Old)))) (l := []) rfl rfl rfl rfl (by first | rfl | (simp only [wk, wks, wkL]; first | done | rfl))
theorem similar_Match_c2_call {H : List Ob} {x0 : Pair} {x1 : Pair} {r : Int} (h : similar_Match_c2 x0 x1 = some r) : callD (callW Try.prog A0) A0 H 34 [.p (.agg [.v (.int .i64 x0.Old), .v (.int .i64 x0.New)]), .p (.agg [.v (.int .i64 x1.Old), .v (.int .i64 x1.New)])] = some (.p (.v (.int .i64 r)), none) :=
  callD_fun (args := [.agg [.v (.int .i64 x0.Old), .v (.int .i64 x0.New)], .agg [.v (.int .i64 x1.Old), .v (.int .i64 x1.New)]]) rfl rfl rfl (by simp only [List.map_cons, List.map_nil, wk, wks, wkL]; exact f34_ok x0 x1 _ h)
def ls57 := And.intro @cv_5_3 (@cv_86_5)
theorem f57_ok  (x0 : Int) (r : Int) (h : math_bits_Len64 x0 = some r) : callW Try.prog A0 57 [.p (.v (.int .u64 x0))] [] = some (.p (.v (.int .i64 r)), []) := by
 refine call_ofH (fn := Try.f57) (c := bodyOf Try.f57) rfl rfl (by kernel_rfl) (by kernel_rfl) ?_
 rw [show initS Try.f57 [.p (.v (.int .u64 x0))] [] = ⟨.p (.v (.int .u64 x0)) :: List.replicate 24 undefD, [], 0⟩ from by kernel_rfl]
 unfold math_bits_Len64 at h
 unfold bodyOf Try.f57; simp only [Option.getD_some, loopsOf, List.append_nil, List.nil_append, List.cons_append, List.getD_cons_zero, List.getD_cons_succ]
 simp only [List.replicate]
 by_cases h1 : (4294967296 : Int) ≤ x0
 ·rw [if_pos h1] at h
  have h1' : decide ((4294967296 : Int) ≤ x0) = true := decide_eq_true h1
  obtain ⟨q2, h3, h⟩ := bsm h
  have h4 : ∀ xo yo, binD Try.prog .shr 86 xo yo (.p (.v (.int .u64 x0))) (.p (.v (.int .u64 (32 : Int)))) = some (.p (.v (.int .u64 q2))) := fun xo yo => binD_shr_k h3
  by_cases h5 : (65536 : Int) ≤ q2
  ·rw [if_pos h5] at h
   have h5' : decide ((65536 : Int) ≤ q2) = true := decide_eq_true h5
   obtain ⟨q6, h7, h⟩ := bsm h
   have h8 : ∀ xo yo, binD Try.prog .shr 86 xo yo (.p (.v (.int .u64 q2))) (.p (.v (.int .u64 (16 : Int)))) = some (.p (.v (.int .u64 q6))) := fun xo yo => binD_shr_k h7
   by_cases h9 : (256 : Int) ≤ q6
   ·rw [if_pos h9] at h
    have h9' : decide ((256 : Int) ≤ q6) = true := decide_eq_true h9
    obtain ⟨q10, h11, h⟩ := bsm h
    have h12 : ∀ xo yo, binD Try.prog .shr 86 xo yo (.p (.v (.int .u64 q6))) (.p (.v (.int .u64 (8 : Int)))) = some (.p (.v (.int .u64 q10))) := fun xo yo => binD_shr_k h11
    obtain ⟨q13, h14, h⟩ := bsm h
    have h15 : indexD Try.prog 9 (.p (.v (.string (ByteArray.mk (((([0, 1, 2, 2, 3, 3, 3, 3, 4, 4, 4, 4, 4, 4, 4, 4, 5, 5, 5, 5, 5, 5, 5, 5, 5, 5, 5, 5, 5, 5, 5, 5, 6, 6, 6, 6, 6, 6, 6, 6, 6, 6, 6, 6, 6, 6, 6, 6, 6, 6, 6, 6, 6, 6, 6, 6, 6, 6, 6, 6, 6, 6, 6, 6] : List UInt8).append ([7, 7, 7, 7, 7, 7, 7, 7, 7, 7, 7, 7, 7, 7, 7, 7, 7, 7, 7, 7, 7, 7, 7, 7, 7, 7, 7, 7, 7, 7, 7, 7, 7, 7, 7, 7, 7, 7, 7, 7, 7, 7, 7, 7, 7, 7, 7, 7, 7, 7, 7, 7, 7, 7, 7, 7, 7, 7, 7, 7, 7, 7, 7, 7] : List UInt8)).append (([8, 8, 8, 8, 8, 8, 8, 8, 8, 8, 8, 8, 8, 8, 8, 8, 8, 8, 8, 8, 8, 8, 8, 8, 8, 8, 8, 8, 8, 8, 8, 8, 8, 8, 8, 8, 8, 8, 8, 8, 8, 8, 8, 8, 8, 8, 8, 8, 8, 8, 8, 8, 8, 8, 8, 8, 8, 8, 8, 8, 8, 8, 8, 8] : List UInt8).append ([8, 8, 8, 8, 8, 8, 8, 8, 8, 8, 8, 8, 8, 8, 8, 8, 8, 8, 8, 8, 8, 8, 8, 8, 8, 8, 8, 8, 8, 8, 8, 8, 8, 8, 8, 8, 8, 8, 8, 8, 8, 8, 8, 8, 8, 8, 8, 8, 8, 8, 8, 8, 8, 8, 8, 8, 8, 8, 8, 8, 8, 8, 8, 8] : List UInt8))).toArray))))) (.p (.v (.int .u8 (IntKind.wrap .u8 q10)))) = some (.p (.v (.int .u8 q13))) := indexD_str Try.underlying9 h14
    obtain rfl := Option.some.inj h
    simp (maxSteps := 10000000) (implicitDefEqProofs := false) (disch := first | assumption | omega | exact rfl) only [bs, rs57, ls57, Nat.reduceAdd, ↓reduceIte, binD_geq_k, ↓h1', h4, ↓h5', h8, ↓h9', h12, h15]
    refine ⟨by first | exact .inl trivial | exact .inr trivial | simp, ?_⟩
    exact finish_is (ds := [iv (w64 ((w64 ((w64 ((32 : Int) + (16 : Int))) + (8 : Int))) + (IntKind.wrap .i64 q13)))]) (x := .v (.int .i64 (w64 ((w64 ((w64 ((32 : Int) + (16 : Int))) + (8 : Int))) + (IntKind.wrap .i64 q13))))) (y := .v (.int .i64 (w64 ((w64 ((w64 ((32 : Int) + (16 : Int))) + (8 : Int))) + (IntKind.wrap .i64 q13))))) (l := []) rfl rfl rfl rfl (by first | rfl | (simp only [wk, wks, wkL]; first | done | rfl))
   ·rw [if_neg h9] at h
    have h9' : decide ((256 : Int) ≤ q6) = false := decide_eq_false h9
    obtain ⟨q16, h17, h⟩ := bsm h
    have h18 : indexD Try.prog 9 (.p (.v (.string (ByteArray.mk (((([0, 1, 2, 2, 3, 3, 3, 3, 4, 4, 4, 4, 4, 4, 4, 4, 5, 5, 5, 5, 5, 5, 5, 5, 5, 5, 5, 5, 5, 5, 5, 5, 6, 6, 6, 6, 6, 6, 6, 6, 6, 6, 6, 6, 6, 6, 6, 6, 6, 6, 6, 6, 6, 6, 6, 6, 6, 6, 6, 6, 6, 6, 6, 6] : List UInt8).append ([7, 7, 7, 7, 7, 7, 7, 7, 7, 7, 7, 7, 7, 7, 7, 7, 7, 7, 7, 7, 7, 7, 7, 7, 7, 7, 7, 7, 7, 7, 7, 7, 7, 7, 7, 7, 7, 7, 7, 7, 7, 7, 7, 7, 7, 7, 7, 7, 7, 7, 7, 7, 7, 7, 7, 7, 7, 7, 7, 7, 7, 7, 7, 7] : List UInt8)).append (([8, 8, 8, 8, 8, 8, 8, 8, 8, 8, 8, 8, 8, 8, 8, 8, 8, 8, 8, 8, 8, 8, 8, 8, 8, 8, 8, 8, 8, 8, 8, 8, 8, 8, 8, 8, 8, 8, 8, 8, 8, 8, 8, 8, 8, 8, 8, 8, 8, 8, 8, 8, 8, 8, 8, 8, 8, 8, 8, 8, 8, 8, 8, 8] : List UInt8).append ([8, 8, 8, 8, 8, 8, 8, 8, 8, 8, 8, 8, 8, 8, 8, 8, 8, 8, 8, 8, 8, 8, 8, 8, 8, 8, 8, 8, 8, 8, 8, 8, 8, 8, 8, 8, 8, 8, 8, 8, 8, 8, 8, 8, 8, 8, 8, 8, 8, 8, 8, 8, 8, 8, 8, 8, 8, 8, 8, 8, 8, 8, 8, 8] : List UInt8))).toArray))))) (.p (.v (.int .u8 (IntKind.wrap .u8 q6)))) = some (.p (.v (.int .u8 q16))) := indexD_str Try.underlying9 h17
    obtain rfl := Option.some.inj h
    simp (maxSteps := 10000000) (implicitDefEqProofs := false) (disch := first | assumption | omega | exact rfl) only [bs, rs57, ls57, Nat.reduceAdd, ↓reduceIte, binD_geq_k, ↓h1', h4, ↓h5', h8, ↓h9', h18]
    refine ⟨by first | exact .inl trivial | exact .inr trivial | simp, ?_⟩
    exact finish_is (ds := [iv (w64 ((w64 ((32 : Int) + (16 : Int))) + (IntKind.wrap .i64 q16)))]) (x := .v (.int .i64 (w64 ((w64 ((32 : Int) + (16 : Int))) + (IntKind.wrap .i64 q16))))) (y := .v (.int .i64 (w64 ((w64 ((32 : Int) + (16 : Int))) + (IntKind.wrap .i64 q16))))) (l := []) rfl rfl rfl rfl (by first | rfl | (simp only [wk, wks, wkL]; first | done | rfl))
  ·rw [if_neg h5] at h
   have h5' : decide ((65536 : Int) ≤ q2) = false := decide_eq_false h5
   by_cases h19 : (256 : Int) ≤ q2
   ·rw [if_pos h19] at h
    have h19' : decide ((256 : Int) ≤ q2) = true := decide_eq_true h19
    obtain ⟨q20, h21, h⟩ := bsm h
    have h22 : ∀ xo yo, binD Try.prog .shr 86 xo yo (.p (.v (.int .u64 q2))) (.p (.v (.int .u64 (8 : Int)))) = some (.p (.v (.int .u64 q20))) := fun xo yo => binD_shr_k h21
    obtain ⟨q23, h24, h⟩ := bsm h
    have h25 : indexD Try.prog 9 (.p (.v (.string (ByteArray.mk (((([0, 1, 2, 2, 3, 3, 3, 3, 4, 4, 4, 4, 4, 4, 4, 4, 5, 5, 5, 5, 5, 5, 5, 5, 5, 5, 5, 5, 5, 5, 5, 5, 6, 6, 6, 6, 6, 6, 6, 6, 6, 6, 6, 6, 6, 6, 6, 6, 6, 6, 6, 6, 6, 6, 6, 6, 6, 6, 6, 6, 6, 6, 6, 6] : List UInt8).append ([7, 7, 7, 7, 7, 7, 7, 7, 7, 7, 7, 7, 7, 7, 7, 7, 7, 7, 7, 7, 7, 7, 7, 7, 7, 7, 7, 7, 7, 7, 7, 7, 7, 7, 7, 7, 7, 7, 7, 7, 7, 7, 7, 7, 7, 7, 7, 7, 7, 7, 7, 7, 7, 7, 7, 7, 7, 7, 7, 7, 7, 7, 7, 7] : List UInt8)).append (([8, 8, 8, 8, 8, 8, 8, 8, 8, 8, 8, 8, 8, 8, 8, 8, 8, 8, 8, 8, 8, 8, 8, 8, 8, 8, 8, 8, 8, 8, 8, 8, 8, 8, 8, 8, 8, 8, 8, 8, 8, 8, 8, 8, 8, 8, 8, 8, 8, 8, 8, 8, 8, 8, 8, 8, 8, 8, 8, 8, 8, 8, 8, 8] : List UInt8).append ([8, 8, 8, 8, 8, 8, 8, 8, 8, 8, 8, 8, 8, 8, 8, 8, 8, 8, 8, 8, 8, 8, 8, 8, 8, 8, 8, 8, 8, 8, 8, 8, 8, 8, 8, 8, 8, 8, 8, 8, 8, 8, 8, 8, 8, 8, 8, 8, 8, 8, 8, 8, 8, 8, 8, 8, 8, 8, 8, 8, 8, 8, 8, 8] : List UInt8))).toArray))))) (.p (.v (.int .u8 (IntKind.wrap .u8 q20)))) = some (.p (.v (.int .u8 q23))) := indexD_str Try.underlying9 h24
    obtain rfl := Option.some.inj h
    simp (maxSteps := 10000000) (implicitDefEqProofs := false) (disch := first | assumption | omega | exact rfl) only [bs, rs57, ls57, Nat.reduceAdd, ↓reduceIte, binD_geq_k, ↓h1', h4, ↓h5', ↓h19', h22, h25]
    refine ⟨by first | exact .inl trivial | exact .inr trivial | simp, ?_⟩
    exact finish_is (ds := [iv (w64 ((w64 ((32 : Int) + (8 : Int))) + (IntKind.wrap .i64 q23)))]) (x := .v (.int .i64 (w64 ((w64 ((32 : Int) + (8 : Int))) + (IntKind.wrap .i64 q23))))) (y := .v (.int .i64 (w64 ((w64 ((32 : Int) + (8 : Int))) + (IntKind.wrap .i64 q23))))) (l := []) rfl rfl rfl rfl (by first | rfl | (simp only [wk, wks, wkL]; first | done | rfl))
   ·rw [if_neg h19] at h
    have h19' : decide ((256 : Int) ≤ q2) = false := decide_eq_false h19
    obtain ⟨q26, h27, h⟩ := bsm h
    have h28 : indexD Try.prog 9 (.p (.v (.string (ByteArray.mk (((([0, 1, 2, 2, 3, 3, 3, 3, 4, 4, 4, 4, 4, 4, 4, 4, 5, 5, 5, 5, 5, 5, 5, 5, 5, 5, 5, 5, 5, 5, 5, 5, 6, 6, 6, 6, 6, 6, 6, 6, 6, 6, 6, 6, 6, 6, 6, 6, 6, 6, 6, 6, 6, 6, 6, 6, 6, 6, 6, 6, 6, 6, 6, 6] : List UInt8).append ([7, 7, 7, 7, 7, 7, 7, 7, 7, 7, 7, 7, 7, 7, 7, 7, 7, 7, 7, 7, 7, 7, 7, 7, 7, 7, 7, 7, 7, 7, 7, 7, 7, 7, 7, 7, 7, 7, 7, 7, 7, 7, 7, 7, 7, 7, 7, 7, 7, 7, 7, 7, 7, 7, 7, 7, 7, 7, 7, 7, 7, 7, 7, 7] : List UInt8)).append (([8, 8, 8, 8, 8, 8, 8, 8, 8, 8, 8, 8, 8, 8, 8, 8, 8, 8, 8, 8, 8, 8, 8, 8, 8, 8, 8, 8, 8, 8, 8, 8, 8, 8, 8, 8, 8, 8, 8, 8, 8, 8, 8, 8, 8, 8, 8, 8, 8, 8, 8, 8, 8, 8, 8, 8, 8, 8, 8, 8, 8, 8, 8, 8] : List UInt8).append ([8, 8, 8, 8, 8, 8, 8, 8, 8, 8, 8, 8, 8, 8, 8, 8, 8, 8, 8, 8, 8, 8, 8, 8, 8, 8, 8, 8, 8, 8, 8, 8, 8, 8, 8, 8, 8, 8, 8, 8, 8, 8, 8, 8, 8, 8, 8, 8, 8, 8, 8, 8, 8, 8, 8, 8, 8, 8, 8, 8, 8, 8, 8, 8] : List UInt8))).toArray))))) (.p (.v (.int .u8 (IntKind.wrap .u8 q2)))) = some (.p (.v (.int .u8 q26))) := indexD_str Try.underlying9 h27
    obtain rfl := Option.some.inj h
    simp (maxSteps := 10000000) (implicitDefEqProofs := false) (disch := first | assumption | omega | exact rfl) only [bs, rs57, ls57, Nat.reduceAdd, ↓reduceIte, binD_geq_k, ↓h1', h4, ↓h5', ↓h19', h28]
    refine ⟨by first | exact .inl trivial | exact .inr trivial | simp, ?_⟩
    exact finish_is (ds := [iv (w64 ((32 : Int) + (IntKind.wrap .i64 q26)))]) (x := .v (.int .i64 (w64 ((32 : Int) + (IntKind.wrap .i64 q26))))) (y := .v (.int .i64 (w64 ((32 : Int) + (IntKind.wrap .i64 q26))))) (l := []) rfl rfl rfl rfl (by first | rfl | (simp only [wk, wks, wkL]; first | done | rfl))
 ·rw [if_neg h1] at h
  have h1' : decide ((4294967296 : Int) ≤ x0) = false := decide_eq_false h1
  by_cases h29 : (65536 : Int) ≤ x0
  ·rw [if_pos h29] at h
   have h29' : decide ((65536 : Int) ≤ x0) = true := decide_eq_true h29
   obtain ⟨q30, h31, h⟩ := bsm h
   have h32 : ∀ xo yo, binD Try.prog .shr 86 xo yo (.p (.v (.int .u64 x0))) (.p (.v (.int .u64 (16 : Int)))) = some (.p (.v (.int .u64 q30))) := fun xo yo => binD_shr_k h31
   by_cases h33 : (256 : Int) ≤ q30
   ·rw [if_pos h33] at h
    have h33' : decide ((256 : Int) ≤ q30) = true := decide_eq_true h33
    obtain ⟨q34, h35, h⟩ := bsm h
    have h36 : ∀ xo yo, binD Try.prog .shr 86 xo yo (.p (.v (.int .u64 q30))) (.p (.v (.int .u64 (8 : Int)))) = some (.p (.v (.int .u64 q34))) := fun xo yo => binD_shr_k h35
    obtain ⟨q37, h38, h⟩ := bsm h
    have h39 : indexD Try.prog 9 (.p (.v (.string (ByteArray.mk (((([0, 1, 2, 2, 3, 3, 3, 3, 4, 4, 4, 4, 4, 4, 4, 4, 5, 5, 5, 5, 5, 5, 5, 5, 5, 5, 5, 5, 5, 5, 5, 5, 6, 6, 6, 6, 6, 6, 6, 6, 6, 6, 6, 6, 6, 6, 6, 6, 6, 6, 6, 6, 6, 6, 6, 6, 6, 6, 6, 6, 6, 6, 6, 6] : List UInt8).append ([7, 7, 7, 7, 7, 7, 7, 7, 7, 7, 7, 7, 7, 7, 7, 7, 7, 7, 7, 7, 7, 7, 7, 7, 7, 7, 7, 7, 7, 7, 7, 7, 7, 7, 7, 7, 7, 7, 7, 7, 7, 7, 7, 7, 7, 7, 7, 7, 7, 7, 7, 7, 7, 7, 7, 7, 7, 7, 7, 7, 7, 7, 7, 7] : List UInt8)).append (([8, 8, 8, 8, 8, 8, 8, 8, 8, 8, 8, 8, 8, 8, 8, 8, 8, 8, 8, 8, 8, 8, 8, 8, 8, 8, 8, 8, 8, 8, 8, 8, 8, 8, 8, 8, 8, 8, 8, 8, 8, 8, 8, 8, 8, 8, 8, 8, 8, 8, 8, 8, 8, 8, 8, 8, 8, 8, 8, 8, 8, 8, 8, 8] : List UInt8).append ([8, 8, 8, 8, 8, 8, 8, 8, 8, 8, 8, 8, 8, 8, 8, 8, 8, 8, 8, 8, 8, 8, 8, 8, 8, 8, 8, 8, 8, 8, 8, 8, 8, 8, 8, 8, 8, 8, 8, 8, 8, 8, 8, 8, 8, 8, 8, 8, 8, 8, 8, 8, 8, 8, 8, 8, 8, 8, 8, 8, 8, 8, 8, 8] : List UInt8))).toArray))))) (.p (.v (.int .u8 (IntKind.wrap .u8 q34)))) = some (.p (.v (.int .u8 q37))) := indexD_str Try.underlying9 h38
    obtain rfl := Option.some.inj h
    simp (maxSteps := 10000000) (implicitDefEqProofs := false) (disch := first | assumption | omega | exact rfl) only [bs, rs57, ls57, Nat.reduceAdd, ↓reduceIte, binD_geq_k, ↓h1', ↓h29', h32, ↓h33', h36, h39]
    refine ⟨by first | exact .inl trivial | exact .inr trivial | simp, ?_⟩
    exact finish_is (ds := [iv (w64 ((w64 ((w64 ((0 : Int) + (16 : Int))) + (8 : Int))) + (IntKind.wrap .i64 q37)))]) (x := .v (.int .i64 (w64 ((w64 ((w64 ((0 : Int) + (16 : Int))) + (8 : Int))) + (IntKind.wrap .i64 q37))))) (y := .v (.int .i64 (w64 ((w64 ((w64 ((0 : Int) + (16 : Int))) + (8 : Int))) + (IntKind.wrap .i64 q37))))) (l := []) rfl rfl rfl rfl (by first | rfl | (simp only [wk, wks, wkL]; first | done | rfl))
   ·rw [if_neg h33] at h
    have h33' : decide ((256 : Int) ≤ q30) = false := decide_eq_false h33
    obtain ⟨q40, h41, h⟩ := bsm h
    have h42 : indexD Try.prog 9 (.p (.v (.string (ByteArray.mk (((([0, 1, 2, 2, 3, 3, 3, 3, 4, 4, 4, 4, 4, 4, 4, 4, 5, 5, 5, 5, 5, 5, 5, 5, 5, 5, 5, 5, 5, 5, 5, 5, 6, 6, 6, 6, 6, 6, 6, 6, 6, 6, 6, 6, 6, 6, 6, 6, 6, 6, 6, 6, 6, 6, 6, 6, 6, 6, 6, 6, 6, 6, 6, 6] : List UInt8).append ([7, 7, 7, 7, 7, 7, 7, 7, 7, 7, 7, 7, 7, 7, 7, 7, 7, 7, 7, 7, 7, 7, 7, 7, 7, 7, 7, 7, 7, 7, 7, 7, 7, 7, 7, 7, 7, 7, 7, 7, 7, 7, 7, 7, 7, 7, 7, 7, 7, 7, 7, 7, 7, 7, 7, 7, 7, 7, 7, 7, 7, 7, 7, 7] : List UInt8)).append (([8, 8, 8, 8, 8, 8, 8, 8, 8, 8, 8, 8, 8, 8, 8, 8, 8, 8, 8, 8, 8, 8, 8, 8, 8, 8, 8, 8, 8, 8, 8, 8, 8, 8, 8, 8, 8, 8, 8, 8, 8, 8, 8, 8, 8, 8, 8, 8, 8, 8, 8, 8, 8, 8, 8, 8, 8, 8, 8, 8, 8, 8, 8, 8] : List UInt8).append ([8, 8, 8, 8, 8, 8, 8, 8, 8, 8, 8, 8, 8, 8, 8, 8, 8, 8, 8, 8, 8, 8, 8, 8, 8, 8, 8, 8, 8, 8, 8, 8, 8, 8, 8, 8, 8, 8, 8, 8, 8, 8, 8, 8, 8, 8, 8, 8, 8, 8, 8, 8, 8, 8, 8, 8, 8, 8, 8, 8, 8, 8, 8, 8] : List UInt8))).toArray))))) (.p (.v (.int .u8 (IntKind.wrap .u8 q30)))) = some (.p (.v (.int .u8 q40))) := indexD_str Try.underlying9 h41
    obtain rfl := Option.some.inj h
    simp (maxSteps := 10000000) (implicitDefEqProofs := false) (disch := first | assumption | omega | exact rfl) only [bs, rs57, ls57, Nat.reduceAdd, ↓reduceIte, binD_geq_k, ↓h1', ↓h29', h32, ↓h33', h42]
    refine ⟨by first | exact .inl trivial | exact .inr trivial | simp, ?_⟩
    exact finish_is (ds := [iv (w64 ((w64 ((0 : Int) + (16 : Int))) + (IntKind.wrap .i64 q40)))]) (x := .v (.int .i64 (w64 ((w64 ((0 : Int) + (16 : Int))) + (IntKind.wrap .i64 q40))))) (y := .v (.int .i64 (w64 ((w64 ((0 : Int) + (16 : Int))) + (IntKind.wrap .i64 q40))))) (l := []) rfl rfl rfl rfl (by first | rfl | (simp only [wk, wks, wkL]; first | done | rfl))
  ·rw [if_neg h29] at h
   have h29' : decide ((65536 : Int) ≤ x0) = false := decide_eq_false h29
   by_cases h43 : (256 : Int) ≤ x0
   ·rw [if_pos h43] at h
    have h43' : decide ((256 : Int) ≤ x0) = true := decide_eq_true h43
    obtain ⟨q44, h45, h⟩ := bsm h
    have h46 : ∀ xo yo, binD Try.prog .shr 86 xo yo (.p (.v (.int .u64 x0))) (.p (.v (.int .u64 (8 : Int)))) = some (.p (.v (.int .u64 q44))) := fun xo yo => binD_shr_k h45
    obtain ⟨q47, h48, h⟩ := bsm h
    have h49 : indexD Try.prog 9 (.p (.v (.string (ByteArray.mk (((([0, 1, 2, 2, 3, 3, 3, 3, 4, 4, 4, 4, 4, 4, 4, 4, 5, 5, 5, 5, 5, 5, 5, 5, 5, 5, 5, 5, 5, 5, 5, 5, 6, 6, 6, 6, 6, 6, 6, 6, 6, 6, 6, 6, 6, 6, 6, 6, 6, 6, 6, 6, 6, 6, 6, 6, 6, 6, 6, 6, 6, 6, 6, 6] : List UInt8).append ([7, 7, 7, 7, 7, 7, 7, 7, 7, 7, 7, 7, 7, 7, 7, 7, 7, 7, 7, 7, 7, 7, 7, 7, 7, 7, 7, 7, 7, 7, 7, 7, 7, 7, 7, 7, 7, 7, 7, 7, 7, 7, 7, 7, 7, 7, 7, 7, 7, 7, 7, 7, 7, 7, 7, 7, 7, 7, 7, 7, 7, 7, 7, 7] : List UInt8)).append (([8, 8, 8, 8, 8, 8, 8, 8, 8, 8, 8, 8, 8, 8, 8, 8, 8, 8, 8, 8, 8, 8, 8, 8, 8, 8, 8, 8, 8, 8, 8, 8, 8, 8, 8, 8, 8, 8, 8, 8, 8, 8, 8, 8, 8, 8, 8, 8, 8, 8, 8, 8, 8, 8, 8, 8, 8, 8, 8, 8, 8, 8, 8, 8] : List UInt8).append ([8, 8, 8, 8, 8, 8, 8, 8, 8, 8, 8, 8, 8, 8, 8, 8, 8, 8, 8, 8, 8, 8, 8, 8, 8, 8, 8, 8, 8, 8, 8, 8, 8, 8, 8, 8, 8, 8, 8, 8, 8, 8, 8, 8, 8, 8, 8, 8, 8, 8, 8, 8, 8, 8, 8, 8, 8, 8, 8, 8, 8, 8, 8, 8] : List UInt8))).toArray))))) (.p (.v (.int .u8 (IntKind.wrap .u8 q44)))) = some (.p (.v (.int .u8 q47))) := indexD_str Try.underlying9 h48
    obtain rfl := Option.some.inj h
    simp (maxSteps := 10000000) (implicitDefEqProofs := false) (disch := first | assumption | omega | exact rfl) only [bs, rs57, ls57, Nat.reduceAdd, ↓reduceIte, binD_geq_k, ↓h1', ↓h29', ↓h43', h46, h49]
    refine ⟨by first | exact .inl trivial | exact .inr trivial | simp, ?_⟩
    exact finish_is (ds := [iv (w64 ((w64 ((0 : Int) + (8 : Int))) + (IntKind.wrap .i64 q47)))]) (x := .v (.int .i64 (w64 ((w64 ((0 : Int) + (8 : Int))) + (IntKind.wrap .i64 q47))))) (y := .v (.int .i64 (w64 ((w64 ((0 : Int) + (8 : Int))) + (IntKind.wrap .i64 q47))))) (l := []) rfl rfl rfl rfl (by first | rfl | (simp only [wk, wks, wkL]; first | done | rfl))
   ·rw [if_neg h43] at h
    have h43' : decide ((256 : Int) ≤ x0) = false := decide_eq_false h43
    obtain ⟨q50, h51, h⟩ := bsm h
    have h52 : indexD Try.prog 9 (.p (.v (.string (ByteArray.mk (((([0, 1, 2, 2, 3, 3, 3, 3, 4, 4, 4, 4, 4, 4, 4, 4, 5, 5, 5, 5, 5, 5, 5, 5, 5, 5, 5, 5, 5, 5, 5, 5, 6, 6, 6, 6, 6, 6, 6, 6, 6, 6, 6, 6, 6, 6, 6, 6, 6, 6, 6, 6, 6, 6, 6, 6, 6, 6, 6, 6, 6, 6, 6, 6] : List UInt8).append ([7, 7, 7, 7, 7, 7, 7, 7, 7, 7, 7, 7, 7, 7, 7, 7, 7, 7, 7, 7, 7, 7, 7, 7, 7, 7, 7, 7, 7, 7, 7, 7, 7, 7, 7, 7, 7, 7, 7, 7, 7, 7, 7, 7, 7, 7, 7, 7, 7, 7, 7, 7, 7, 7, 7, 7, 7, 7, 7, 7, 7, 7, 7, 7] : List UInt8)).append (([8, 8, 8, 8, 8, 8, 8, 8, 8, 8, 8, 8, 8, 8, 8, 8, 8, 8, 8, 8, 8, 8, 8, 8, 8, 8, 8, 8, 8, 8, 8, 8, 8, 8, 8, 8, 8, 8, 8, 8, 8, 8, 8, 8, 8, 8, 8, 8, 8, 8, 8, 8, 8, 8, 8, 8, 8, 8, 8, 8, 8, 8, 8, 8] : List UInt8).append ([8, 8, 8, 8, 8, 8, 8, 8, 8, 8, 8, 8, 8, 8, 8, 8, 8, 8, 8, 8, 8, 8, 8, 8, 8, 8, 8, 8, 8, 8, 8, 8, 8, 8, 8, 8, 8, 8, 8, 8, 8, 8, 8, 8, 8, 8, 8, 8, 8, 8, 8, 8, 8, 8, 8, 8, 8, 8, 8, 8, 8, 8, 8, 8] : List UInt8))).toArray))))) (.p (.v (.int .u8 (IntKind.wrap .u8 x0)))) = some (.p (.v (.int .u8 q50))) := indexD_str Try.underlying9 h51
    obtain rfl := Option.some.inj h
    simp (maxSteps := 10000000) (implicitDefEqProofs := false) (disch := first | assumption | omega | exact rfl) only [bs, rs57, ls57, Nat.reduceAdd, ↓reduceIte, binD_geq_k, ↓h1', ↓h29', ↓h43', h52]
    refine ⟨by first | exact .inl trivial | exact .inr trivial | simp, ?_⟩
    exact finish_is (ds := [iv (w64 ((0 : Int) + (IntKind.wrap .i64 q50)))]) (x := .v (.int .i64 (w64 ((0 : Int) + (IntKind.wrap .i64 q50))))) (y := .v (.int .i64 (w64 ((0 : Int) + (IntKind.wrap .i64 q50))))) (l := []) rfl rfl rfl rfl (by first | rfl | (simp only [wk, wks, wkL]; first | done | rfl))
theorem math_bits_Len64_call {H : List Ob} {x0 : Int} {r : Int} (h : math_bits_Len64 x0 = some r) : callD (callW Try.prog A0) A0 H 57 [.p (.v (.int .u64 x0))] = some (.p (.v (.int .i64 r)), none) :=
  callD_fun (args := [.v (.int .u64 x0)]) rfl rfl rfl (by simp only [List.map_cons, List.map_nil, wk, wks, wkL]; exact f57_ok x0 _ h)
theorem f46_ok  (x0 : Int) (r : Int) (h : math_bits_Len x0 = some r) : callW Try.prog A0 46 [.p (.v (.int .u64 x0))] [] = some (.p (.v (.int .i64 r)), []) := by
 refine call_ofH (fn := Try.f46) (c := bodyOf Try.f46) rfl rfl (by kernel_rfl) (by kernel_rfl) ?_
 rw [show initS Try.f46 [.p (.v (.int .u64 x0))] [] = ⟨.p (.v (.int .u64 x0)) :: List.replicate 7 undefD, [], 0⟩ from by kernel_rfl]
 unfold math_bits_Len at h
 unfold bodyOf Try.f46; simp only [Option.getD_some, loopsOf, List.append_nil, List.nil_append, List.cons_append, List.getD_cons_zero, List.getD_cons_succ]
 simp only [List.replicate]
 obtain ⟨r1, h2, h⟩ := bsm h
 have h3 : ∀ H, callD (callW Try.prog A0) A0 H 57 [.p (.v (.int .u64 x0))] = some (.p (.v (.int .i64 r1)), none) := fun H => math_bits_Len64_call h2
 obtain rfl := Option.some.inj h
 simp (maxSteps := 10000000) (implicitDefEqProofs := false) (disch := first | assumption | omega | exact rfl) only [bs, rs46, Nat.reduceAdd, ↓reduceIte, h3]
 refine ⟨by first | exact .inl trivial | exact .inr trivial | simp, ?_⟩
 exact finish_is (ds := [iv r1]) (x := .v (.int .i64 r1)) (y := .v (.int .i64 r1)) (l := []) rfl rfl rfl rfl (by first | rfl | (simp only [wk, wks, wkL]; first | done | rfl))
theorem math_bits_Len_call {H : List Ob} {x0 : Int} {r : Int} (h : math_bits_Len x0 = some r) : callD (callW Try.prog A0) A0 H 46 [.p (.v (.int .u64 x0))] = some (.p (.v (.int .i64 r)), none) :=
  callD_fun (args := [.v (.int .u64 x0)]) rfl rfl rfl (by simp only [List.map_cons, List.map_nil, wk, wks, wkL]; exact f46_ok x0 _ h)
def ls48_34 := @idxR_26
noncomputable def L48_1 : Code := (loopsOf (bodyOf Try.f48)).getD 1 .skip
def g48_1 : List Ghost := [.keep [0, 1, 2, 3, 8, 9]]
def F48_34_1 (s1 : Int) (s2 : Int) (s8 : Int) : (Int × (List Pair)) → St := fun (s9, y0) => ⟨[.ref 0 0 y0.length 2, iv s1, iv s2, .p (.fn (.func 34) []), .junk, .junk, .junk, .junk, iv s8, iv s9, .junk, .junk, .junk, .junk, .junk, .junk, .junk, .junk, .junk, .junk, .junk, .junk, .junk, .junk, .junk, .junk, .junk, .junk, .junk, .junk, .junk, .junk, .junk, .junk, .junk, .junk, .junk, .junk, .junk, .junk, .junk, .junk, .junk, .junk, .junk, .junk, .junk, .junk, .junk, .junk, .junk, .junk, .junk], [.arr (encL en_Pair y0)], 1⟩
theorem L48_34_1_ok (s1 : Int) (s2 : Int) (s8 : Int) : ∀ s st o, ghostsD g48_1 st = some (F48_34_1 s1 s2 s8 s) → iter (slices_insertionSortCmpFunc_L1 similar_Match_c2 s1 s2 s8) s = some o →
    Wp (evW Try.prog A0 48 (.loop L48_1) st) (OutQ (F48_34_1 s1 s2 s8) g48_1 (fun n s st => n = 2 ∧ ghostsD [.keep [0, 1, 2, 3, 8, 9]] st = some (F48_34_1 s1 s2 s8 s)) (fun r st => finishD Try.prog A0 48 Try.f48 st = some (.p (.tup []), [.arr (encL en_Pair r)])) o) := by
 refine Wp.iter ?_
 intro s st o hg h
 obtain ⟨s9, y0⟩ := s
 unfold slices_insertionSortCmpFunc_L1 at h
 unfold g48_1 F48_34_1 at hg ⊢
 (try simp only [] at h hg)
 unfold L48_1 bodyOf Try.f48; simp only [Option.getD_some, loopsOf, List.append_nil, List.nil_append, List.cons_append, List.getD_cons_zero, List.getD_cons_succ]
 by_cases h2 : s1 < s9
 ·rw [if_pos h2] at h
  have h2' : decide (s1 < s9) = true := decide_eq_true h2
  obtain ⟨v3, h4, h⟩ := bsm h
  obtain ⟨h4a, h4b, _⟩ := rd_some h4
  have h5 := lk_arr_39 h4
  obtain ⟨v6, h7, h⟩ := bsm h
  obtain ⟨h7a, h7b, _⟩ := rd_some h7
  have h8 := lk_arr_39 h7
  obtain ⟨r9, h10, h⟩ := bsm h
  have h11 : ∀ H, callD (callW Try.prog A0) A0 H 34 [.p (.agg [.v (.int .i64 v3.Old), .v (.int .i64 v3.New)]), .p (.agg [.v (.int .i64 v6.Old), .v (.int .i64 v6.New)])] = some (.p (.v (.int .i64 r9)), none) := fun H => similar_Match_c2_call h10
  by_cases h12 : r9 < (0 : Int)
  ·rw [if_pos h12] at h
   have h12' : decide (r9 < (0 : Int)) = true := decide_eq_true h12
   have h13 := lk_arr_39 h7
   have h14 := lk_arr_39 h4
   have h15 : ∀ (H : List Ob) (id : Nat), staOb H id (s9.toNat * 2) 2 [.v (.int .i64 v6.Old), .v (.int .i64 v6.New)] (some (.arr (encL en_Pair y0))) = some (H.set id (.arr (encL en_Pair (y0.set s9.toNat v6)))) := fun H id => by
       have := sta_arr (H := H) (id := id) (v := v6) en_Pair_len h4a h4b
       rw [en_Pair_eq] at this
       exact this
   have h16 : (y0.set s9.toNat v6).length = y0.length := List.length_set
   obtain ⟨v17, h18, h⟩ := bsm h
   obtain ⟨h18a, h18b, _⟩ := rd_some h18
   have h19 : ∀ (H : List Ob) (id : Nat), staOb H id ((w64 (s9 - (1 : Int))).toNat * 2) 2 [.v (.int .i64 v3.Old), .v (.int .i64 v3.New)] (some (.arr (encL en_Pair (y0.set s9.toNat v6)))) = some (H.set id (.arr (encL en_Pair ((y0.set s9.toNat v6).set (w64 (s9 - (1 : Int))).toNat v3)))) := fun H id => by
       have := sta_arr (H := H) (id := id) (v := v3) en_Pair_len h18a h18b
       rw [en_Pair_eq] at this
       exact this
   have h20 : ((y0.set s9.toNat v6).set (w64 (s9 - (1 : Int))).toNat v3).length = (y0.set s9.toNat v6).length := List.length_set
   obtain rfl := Option.some.inj h
   simp (maxSteps := 10000000) (implicitDefEqProofs := false) (disch := first | assumption | omega | exact rfl) only [bs, rs48, ls48_34, Nat.reduceAdd, ↓reduceIte, loadD_pagg a39 z39, storeD_agg z39, hg, ↓h2', h5, h8, h11, ↓h12', h13, h14, h15, h19]
   exact ⟨rfl, by simp only [List.length_set, cpL_len]; kernel_rfl⟩
  ·rw [if_neg h12] at h
   have h12' : decide (r9 < (0 : Int)) = false := decide_eq_false h12
   obtain rfl := Option.some.inj h
   simp (maxSteps := 10000000) (implicitDefEqProofs := false) (disch := first | assumption | omega | exact rfl) only [bs, rs48, ls48_34, Nat.reduceAdd, ↓reduceIte, loadD_pagg a39 z39, storeD_agg z39, hg, ↓h2', h5, h8, h11, ↓h12']
   exact ⟨rfl, rfl, by kernel_rfl⟩
 ·rw [if_neg h2] at h
  have h2' : decide (s1 < s9) = false := decide_eq_false h2
  obtain rfl := Option.some.inj h
  simp (maxSteps := 10000000) (implicitDefEqProofs := false) (disch := first | assumption | omega | exact rfl) only [bs, rs48, ls48_34, Nat.reduceAdd, ↓reduceIte, loadD_pagg a39 z39, storeD_agg z39, hg, ↓h2']
  exact ⟨rfl, rfl, by kernel_rfl⟩
noncomputable def L48_0 : Code := (loopsOf (bodyOf Try.f48)).getD 0 .skip
def g48_0 : List Ghost := [.keep [0, 1, 2, 3, 8]]
def F48_34_0 (s1 : Int) (s2 : Int) : (Int × (List Pair)) → St := fun (s8, y0) => ⟨[.ref 0 0 y0.length 2, iv s1, iv s2, .p (.fn (.func 34) []), .junk, .junk, .junk, .junk, iv s8, .junk, .junk, .junk, .junk, .junk, .junk, .junk, .junk, .junk, .junk, .junk, .junk, .junk, .junk, .junk, .junk, .junk, .junk, .junk, .junk, .junk, .junk, .junk, .junk, .junk, .junk, .junk, .junk, .junk, .junk, .junk, .junk, .junk, .junk, .junk, .junk, .junk, .junk, .junk, .junk, .junk, .junk, .junk, .junk], [.arr (encL en_Pair y0)], 1⟩
theorem L48_34_0_ok (s1 : Int) (s2 : Int) : ∀ s st o, ghostsD g48_0 st = some (F48_34_0 s1 s2 s) → iter (slices_insertionSortCmpFunc_L0 similar_Match_c2 s1 s2) s = some o →
    Wp (evW Try.prog A0 48 (.loop L48_0) st) (OutQ (F48_34_0 s1 s2) g48_0 (fun n s st => n = 0 ∧ (match s with | (s8, y0) => finishD Try.prog A0 48 Try.f48 st = some (.p (.tup []), [.arr (encL en_Pair y0)]))) (fun r st => finishD Try.prog A0 48 Try.f48 st = some (.p (.tup []), [.arr (encL en_Pair r)])) o) := by
 refine Wp.iter ?_
 intro s st o hg h
 obtain ⟨s8, y0⟩ := s
 unfold slices_insertionSortCmpFunc_L0 at h
 unfold g48_0 F48_34_0 at hg ⊢
 (try simp only [] at h hg)
 unfold L48_0 bodyOf Try.f48; simp only [Option.getD_some, loopsOf, List.append_nil, List.nil_append, List.cons_append, List.getD_cons_zero, List.getD_cons_succ]
 by_cases h1 : s8 < s2
 ·rw [if_pos h1] at h
  have h1' : decide (s8 < s2) = true := decide_eq_true h1
  obtain ⟨o, h21, h⟩ := bsm h
  simp (maxSteps := 10000000) (implicitDefEqProofs := false) (disch := first | assumption | omega | exact rfl) only [bs, rs48, ls48_34, Nat.reduceAdd, ↓reduceIte, loadD_pagg a39 z39, storeD_agg z39, hg, ↓h1']
  refine Wp.ctx (fun x => seqW _ _ _ _ (blockW _ (blockW _ (x)))) (L48_34_1_ok s1 s2 s8 (s8, y0) _ o (by kernel_rfl) h21) ?_
  intro e st hq
  cases o with
  | next _ => (first | cases h | (simp at h))
  | jmp n_ s_ =>
   obtain ⟨rfl, rfl, hq⟩ := hq
   obtain ⟨s9_22, y0_22⟩ := s_
   unfold F48_34_1 at hq
   (try simp only [] at h hq)
   obtain rfl := Option.some.inj h
   simp (maxSteps := 10000000) (implicitDefEqProofs := false) (disch := first | assumption | omega | exact rfl) only [bs, rs48, ls48_34, Nat.reduceAdd, ↓reduceIte, loadD_pagg a39 z39, storeD_agg z39, hg, ↓h1', hq]
   exact ⟨rfl, by kernel_rfl⟩
  | ret _ => (first | cases h | (simp at h))
 ·rw [if_neg h1] at h
  have h1' : decide (s8 < s2) = false := decide_eq_false h1
  obtain rfl := Option.some.inj h
  simp (maxSteps := 10000000) (implicitDefEqProofs := false) (disch := first | assumption | omega | exact rfl) only [bs, rs48, ls48_34, Nat.reduceAdd, ↓reduceIte, loadD_pagg a39 z39, storeD_agg z39, hg, ↓h1']
  refine ⟨rfl, rfl, ?_⟩
  show _ = _
  kernel_rfl
theorem f48_34_ok  (x0 : (List Pair)) (x1 : Int) (x2 : Int) (r : (List Pair)) (h : slices_insertionSortCmpFunc similar_Match_c2 x0 x1 x2 = some r) : callW Try.prog A0 48 [.ref 0 0 x0.length 2, iv x1, iv x2, .p (.fn (.func 34) [])] [.arr (encL en_Pair x0)] = some (.p (.tup []), [.arr (encL en_Pair r)]) := by
 refine call_ofH (fn := Try.f48) (c := bodyOf Try.f48) rfl rfl (by kernel_rfl) (by kernel_rfl) ?_
 rw [show initS Try.f48 [.ref 0 0 x0.length 2, iv x1, iv x2, .p (.fn (.func 34) [])] [.arr (encL en_Pair x0)] = ⟨.ref 0 0 x0.length 2 :: iv x1 :: iv x2 :: .p (.fn (.func 34) []) :: List.replicate 49 undefD, [.arr (encL en_Pair x0)], 1⟩ from by kernel_rfl]
 unfold slices_insertionSortCmpFunc at h
 unfold bodyOf Try.f48; simp only [Option.getD_some, loopsOf, List.append_nil, List.nil_append, List.cons_append, List.getD_cons_zero, List.getD_cons_succ]
 simp only [List.replicate]
 obtain ⟨o, h23, h⟩ := bsm h
 simp (maxSteps := 10000000) (implicitDefEqProofs := false) (disch := first | assumption | omega | exact rfl) only [bs, rs48, ls48_34, Nat.reduceAdd, ↓reduceIte, loadD_pagg a39 z39, storeD_agg z39]
 refine Wp.ctx (fun x => blockW _ (x)) (L48_34_0_ok x1 x2 (w64 (x1 + (1 : Int)), x0) _ o (by kernel_rfl) h23) ?_
 intro e st hq
 cases o with
 | next _ => (first | cases h | (simp at h))
 | jmp n_ s_ =>
  obtain ⟨rfl, rfl, hq⟩ := hq
  obtain ⟨s8_24, y0_24⟩ := s_
  obtain rfl := Option.some.inj h
  simp (maxSteps := 10000000) (implicitDefEqProofs := false) (disch := first | assumption | omega | exact rfl) only [bs, rs48, ls48_34, Nat.reduceAdd, ↓reduceIte, loadD_pagg a39 z39, storeD_agg z39]
  exact ⟨by first | exact .inl trivial | exact .inr trivial | simp, hq⟩
 | ret _ => (first | cases h | (simp at h))
theorem slices_insertionSortCmpFunc_34_call {x0 : (List Pair)} {x1 : Int} {x2 : Int} {r : (List Pair)} (h : slices_insertionSortCmpFunc similar_Match_c2 x0 x1 x2 = some r) : callW Try.prog A0 48 [.ref 0 0 x0.length 2, iv x1, iv x2, .p (.fn (.func 34) [])] [.arr (encL en_Pair x0)] = some (.p (.tup []), [.arr (encL en_Pair r)]) := f48_34_ok x0 x1 x2 _ h
def ls58_34 := @idxR_26
noncomputable def L58_0 : Code := (loopsOf (bodyOf Try.f58)).getD 0 .skip
def g58_0 : List Ghost := [.keep [0, 2, 3, 4, 10]]
def F58_34_0 (s2 : Int) (s3 : Int) : (Int × (List Pair)) → St := fun (s10, y0) => ⟨[.ref 0 0 y0.length 2, .junk, iv s2, iv s3, .p (.fn (.func 34) []), .junk, .junk, .junk, .junk, .junk, iv s10, .junk, .junk, .junk, .junk, .junk, .junk, .junk, .junk, .junk, .junk, .junk, .junk, .junk, .junk, .junk, .junk, .junk, .junk, .junk, .junk, .junk, .junk, .junk, .junk, .junk, .junk, .junk, .junk, .junk, .junk, .junk, .junk, .junk, .junk, .junk, .junk, .junk, .junk, .junk, .junk, .junk, .junk, .junk, .junk, .junk, .junk, .junk, .junk, .junk, .junk, .junk, .junk, .junk, .junk, .junk, .junk, .junk, .junk, .junk, .junk, .junk, .junk, .junk, .junk, .junk, .junk, .junk, .junk, .junk, .junk, .junk], [.arr (encL en_Pair y0)], 1⟩
theorem L58_34_0_ok (s2 : Int) (s3 : Int) : ∀ s st o, ghostsD g58_0 st = some (F58_34_0 s2 s3 s) → iter (slices_siftDownCmpFunc_L0 similar_Match_c2 s2 s3) s = some o →
    Wp (evW Try.prog A0 58 (.loop L58_0) st) (OutQ (F58_34_0 s2 s3) g58_0 (fun n s st => n = 0 ∧ (match s with | (s10, y0) => finishD Try.prog A0 58 Try.f58 st = some (.p (.tup []), [.arr (encL en_Pair y0)]))) (fun r st => finishD Try.prog A0 58 Try.f58 st = some (.p (.tup []), [.arr (encL en_Pair r)])) o) := by
 refine Wp.iter ?_
 intro s st o hg h
 obtain ⟨s10, y0⟩ := s
 unfold slices_siftDownCmpFunc_L0 at h
 unfold g58_0 F58_34_0 at hg ⊢
 (try simp only [] at h hg)
 unfold L58_0 bodyOf Try.f58; simp only [Option.getD_some, loopsOf, List.append_nil, List.nil_append, List.cons_append, List.getD_cons_zero, List.getD_cons_succ]
 by_cases h65 : s2 ≤ (w64 ((w64 ((2 : Int) * s10)) + (1 : Int)))
 ·rw [if_pos h65] at h
  have h65' : decide (s2 ≤ (w64 ((w64 ((2 : Int) * s10)) + (1 : Int)))) = true := decide_eq_true h65
  obtain rfl := Option.some.inj h
  simp (maxSteps := 10000000) (implicitDefEqProofs := false) (disch := first | assumption | omega | exact rfl) only [bs, rs58, ls58_34, Nat.reduceAdd, ↓reduceIte, loadD_pagg a39 z39, storeD_agg z39, hg, ↓h65']
  refine ⟨rfl, rfl, ?_⟩
  show _ = _
  kernel_rfl
 ·rw [if_neg h65] at h
  have h65' : decide (s2 ≤ (w64 ((w64 ((2 : Int) * s10)) + (1 : Int)))) = false := decide_eq_false h65
  by_cases h66 : (w64 ((w64 ((w64 ((2 : Int) * s10)) + (1 : Int))) + (1 : Int))) < s2
  ·rw [if_pos h66] at h
   have h66' : decide ((w64 ((w64 ((w64 ((2 : Int) * s10)) + (1 : Int))) + (1 : Int))) < s2) = true := decide_eq_true h66
   obtain ⟨v67, h68, h⟩ := bsm h
   obtain ⟨h68a, h68b, _⟩ := rd_some h68
   have h69 := lk_arr_39 h68
   obtain ⟨v70, h71, h⟩ := bsm h
   obtain ⟨h71a, h71b, _⟩ := rd_some h71
   have h72 := lk_arr_39 h71
   obtain ⟨r73, h74, h⟩ := bsm h
   have h75 : ∀ H, callD (callW Try.prog A0) A0 H 34 [.p (.agg [.v (.int .i64 v67.Old), .v (.int .i64 v67.New)]), .p (.agg [.v (.int .i64 v70.Old), .v (.int .i64 v70.New)])] = some (.p (.v (.int .i64 r73)), none) := fun H => similar_Match_c2_call h74
   by_cases h76 : r73 < (0 : Int)
   ·rw [if_pos h76] at h
    have h76' : decide (r73 < (0 : Int)) = true := decide_eq_true h76
    obtain ⟨v77, h78, h⟩ := bsm h
    obtain ⟨h78a, h78b, _⟩ := rd_some h78
    have h79 := lk_arr_39 h78
    obtain ⟨v80, h81, h⟩ := bsm h
    obtain ⟨h81a, h81b, _⟩ := rd_some h81
    have h82 := lk_arr_39 h81
    obtain ⟨r83, h84, h⟩ := bsm h
    have h85 : ∀ H, callD (callW Try.prog A0) A0 H 34 [.p (.agg [.v (.int .i64 v77.Old), .v (.int .i64 v77.New)]), .p (.agg [.v (.int .i64 v80.Old), .v (.int .i64 v80.New)])] = some (.p (.v (.int .i64 r83)), none) := fun H => similar_Match_c2_call h84
    by_cases h86 : r83 < (0 : Int)
    ·rw [if_pos h86] at h
     have h86' : decide (r83 < (0 : Int)) = true := decide_eq_true h86
     have h87 := lk_arr_39 h81
     have h88 := lk_arr_39 h78
     have h89 : ∀ (H : List Ob) (id : Nat), staOb H id ((w64 (s3 + s10)).toNat * 2) 2 [.v (.int .i64 v80.Old), .v (.int .i64 v80.New)] (some (.arr (encL en_Pair y0))) = some (H.set id (.arr (encL en_Pair (y0.set (w64 (s3 + s10)).toNat v80)))) := fun H id => by
         have := sta_arr (H := H) (id := id) (v := v80) en_Pair_len h78a h78b
         rw [en_Pair_eq] at this
         exact this
     have h90 : (y0.set (w64 (s3 + s10)).toNat v80).length = y0.length := List.length_set
     obtain ⟨v91, h92, h⟩ := bsm h
     obtain ⟨h92a, h92b, _⟩ := rd_some h92
     have h93 : ∀ (H : List Ob) (id : Nat), staOb H id ((w64 (s3 + (w64 ((w64 ((w64 ((2 : Int) * s10)) + (1 : Int))) + (1 : Int))))).toNat * 2) 2 [.v (.int .i64 v77.Old), .v (.int .i64 v77.New)] (some (.arr (encL en_Pair (y0.set (w64 (s3 + s10)).toNat v80)))) = some (H.set id (.arr (encL en_Pair ((y0.set (w64 (s3 + s10)).toNat v80).set (w64 (s3 + (w64 ((w64 ((w64 ((2 : Int) * s10)) + (1 : Int))) + (1 : Int))))).toNat v77)))) := fun H id => by
         have := sta_arr (H := H) (id := id) (v := v77) en_Pair_len h92a h92b
         rw [en_Pair_eq] at this
         exact this
     have h94 : ((y0.set (w64 (s3 + s10)).toNat v80).set (w64 (s3 + (w64 ((w64 ((w64 ((2 : Int) * s10)) + (1 : Int))) + (1 : Int))))).toNat v77).length = (y0.set (w64 (s3 + s10)).toNat v80).length := List.length_set
     obtain rfl := Option.some.inj h
     simp (maxSteps := 10000000) (implicitDefEqProofs := false) (disch := first | assumption | omega | exact rfl) only [bs, rs58, ls58_34, Nat.reduceAdd, ↓reduceIte, loadD_pagg a39 z39, storeD_agg z39, hg, ↓h65', ↓h66', h69, h72, h75, ↓h76', h79, h82, h85, ↓h86', h87, h88, h89, h93]
     exact ⟨rfl, by simp only [List.length_set, cpL_len]; kernel_rfl⟩
    ·rw [if_neg h86] at h
     have h86' : decide (r83 < (0 : Int)) = false := decide_eq_false h86
     obtain rfl := Option.some.inj h
     simp (maxSteps := 10000000) (implicitDefEqProofs := false) (disch := first | assumption | omega | exact rfl) only [bs, rs58, ls58_34, Nat.reduceAdd, ↓reduceIte, loadD_pagg a39 z39, storeD_agg z39, hg, ↓h65', ↓h66', h69, h72, h75, ↓h76', h79, h82, h85, ↓h86']
     refine ⟨rfl, ?_⟩
     show _ = _
     kernel_rfl
   ·rw [if_neg h76] at h
    have h76' : decide (r73 < (0 : Int)) = false := decide_eq_false h76
    obtain ⟨v95, h96, h⟩ := bsm h
    obtain ⟨h96a, h96b, _⟩ := rd_some h96
    have h97 := lk_arr_39 h96
    have h98 := lk_arr_39 h68
    obtain ⟨r99, h100, h⟩ := bsm h
    have h101 : ∀ H, callD (callW Try.prog A0) A0 H 34 [.p (.agg [.v (.int .i64 v95.Old), .v (.int .i64 v95.New)]), .p (.agg [.v (.int .i64 v67.Old), .v (.int .i64 v67.New)])] = some (.p (.v (.int .i64 r99)), none) := fun H => similar_Match_c2_call h100
    by_cases h102 : r99 < (0 : Int)
    ·rw [if_pos h102] at h
     have h102' : decide (r99 < (0 : Int)) = true := decide_eq_true h102
     have h103 := lk_arr_39 h68
     have h104 := lk_arr_39 h96
     have h105 : ∀ (H : List Ob) (id : Nat), staOb H id ((w64 (s3 + s10)).toNat * 2) 2 [.v (.int .i64 v67.Old), .v (.int .i64 v67.New)] (some (.arr (encL en_Pair y0))) = some (H.set id (.arr (encL en_Pair (y0.set (w64 (s3 + s10)).toNat v67)))) := fun H id => by
         have := sta_arr (H := H) (id := id) (v := v67) en_Pair_len h96a h96b
         rw [en_Pair_eq] at this
         exact this
     have h106 : (y0.set (w64 (s3 + s10)).toNat v67).length = y0.length := List.length_set
     obtain ⟨v107, h108, h⟩ := bsm h
     obtain ⟨h108a, h108b, _⟩ := rd_some h108
     have h109 : ∀ (H : List Ob) (id : Nat), staOb H id ((w64 (s3 + (w64 ((w64 ((2 : Int) * s10)) + (1 : Int))))).toNat * 2) 2 [.v (.int .i64 v95.Old), .v (.int .i64 v95.New)] (some (.arr (encL en_Pair (y0.set (w64 (s3 + s10)).toNat v67)))) = some (H.set id (.arr (encL en_Pair ((y0.set (w64 (s3 + s10)).toNat v67).set (w64 (s3 + (w64 ((w64 ((2 : Int) * s10)) + (1 : Int))))).toNat v95)))) := fun H id => by
         have := sta_arr (H := H) (id := id) (v := v95) en_Pair_len h108a h108b
         rw [en_Pair_eq] at this
         exact this
     have h110 : ((y0.set (w64 (s3 + s10)).toNat v67).set (w64 (s3 + (w64 ((w64 ((2 : Int) * s10)) + (1 : Int))))).toNat v95).length = (y0.set (w64 (s3 + s10)).toNat v67).length := List.length_set
     obtain rfl := Option.some.inj h
     simp (maxSteps := 10000000) (implicitDefEqProofs := false) (disch := first | assumption | omega | exact rfl) only [bs, rs58, ls58_34, Nat.reduceAdd, ↓reduceIte, loadD_pagg a39 z39, storeD_agg z39, hg, ↓h65', ↓h66', h69, h72, h75, ↓h76', h97, h98, h101, ↓h102', h103, h104, h105, h109]
     exact ⟨rfl, by simp only [List.length_set, cpL_len]; kernel_rfl⟩
    ·rw [if_neg h102] at h
     have h102' : decide (r99 < (0 : Int)) = false := decide_eq_false h102
     obtain rfl := Option.some.inj h
     simp (maxSteps := 10000000) (implicitDefEqProofs := false) (disch := first | assumption | omega | exact rfl) only [bs, rs58, ls58_34, Nat.reduceAdd, ↓reduceIte, loadD_pagg a39 z39, storeD_agg z39, hg, ↓h65', ↓h66', h69, h72, h75, ↓h76', h97, h98, h101, ↓h102']
     refine ⟨rfl, ?_⟩
     show _ = _
     kernel_rfl
  ·rw [if_neg h66] at h
   have h66' : decide ((w64 ((w64 ((w64 ((2 : Int) * s10)) + (1 : Int))) + (1 : Int))) < s2) = false := decide_eq_false h66
   obtain ⟨v111, h112, h⟩ := bsm h
   obtain ⟨h112a, h112b, _⟩ := rd_some h112
   have h113 := lk_arr_39 h112
   obtain ⟨v114, h115, h⟩ := bsm h
   obtain ⟨h115a, h115b, _⟩ := rd_some h115
   have h116 := lk_arr_39 h115
   obtain ⟨r117, h118, h⟩ := bsm h
   have h119 : ∀ H, callD (callW Try.prog A0) A0 H 34 [.p (.agg [.v (.int .i64 v111.Old), .v (.int .i64 v111.New)]), .p (.agg [.v (.int .i64 v114.Old), .v (.int .i64 v114.New)])] = some (.p (.v (.int .i64 r117)), none) := fun H => similar_Match_c2_call h118
   by_cases h120 : r117 < (0 : Int)
   ·rw [if_pos h120] at h
    have h120' : decide (r117 < (0 : Int)) = true := decide_eq_true h120
    have h121 := lk_arr_39 h115
    have h122 := lk_arr_39 h112
    have h123 : ∀ (H : List Ob) (id : Nat), staOb H id ((w64 (s3 + s10)).toNat * 2) 2 [.v (.int .i64 v114.Old), .v (.int .i64 v114.New)] (some (.arr (encL en_Pair y0))) = some (H.set id (.arr (encL en_Pair (y0.set (w64 (s3 + s10)).toNat v114)))) := fun H id => by
        have := sta_arr (H := H) (id := id) (v := v114) en_Pair_len h112a h112b
        rw [en_Pair_eq] at this
        exact this
    have h124 : (y0.set (w64 (s3 + s10)).toNat v114).length = y0.length := List.length_set
    obtain ⟨v125, h126, h⟩ := bsm h
    obtain ⟨h126a, h126b, _⟩ := rd_some h126
    have h127 : ∀ (H : List Ob) (id : Nat), staOb H id ((w64 (s3 + (w64 ((w64 ((2 : Int) * s10)) + (1 : Int))))).toNat * 2) 2 [.v (.int .i64 v111.Old), .v (.int .i64 v111.New)] (some (.arr (encL en_Pair (y0.set (w64 (s3 + s10)).toNat v114)))) = some (H.set id (.arr (encL en_Pair ((y0.set (w64 (s3 + s10)).toNat v114).set (w64 (s3 + (w64 ((w64 ((2 : Int) * s10)) + (1 : Int))))).toNat v111)))) := fun H id => by
        have := sta_arr (H := H) (id := id) (v := v111) en_Pair_len h126a h126b
        rw [en_Pair_eq] at this
        exact this
    have h128 : ((y0.set (w64 (s3 + s10)).toNat v114).set (w64 (s3 + (w64 ((w64 ((2 : Int) * s10)) + (1 : Int))))).toNat v111).length = (y0.set (w64 (s3 + s10)).toNat v114).length := List.length_set
    obtain rfl := Option.some.inj h
    simp (maxSteps := 10000000) (implicitDefEqProofs := false) (disch := first | assumption | omega | exact rfl) only [bs, rs58, ls58_34, Nat.reduceAdd, ↓reduceIte, loadD_pagg a39 z39, storeD_agg z39, hg, ↓h65', ↓h66', h113, h116, h119, ↓h120', h121, h122, h123, h127]
    exact ⟨rfl, by simp only [List.length_set, cpL_len]; kernel_rfl⟩
   ·rw [if_neg h120] at h
    have h120' : decide (r117 < (0 : Int)) = false := decide_eq_false h120
    obtain rfl := Option.some.inj h
    simp (maxSteps := 10000000) (implicitDefEqProofs := false) (disch := first | assumption | omega | exact rfl) only [bs, rs58, ls58_34, Nat.reduceAdd, ↓reduceIte, loadD_pagg a39 z39, storeD_agg z39, hg, ↓h65', ↓h66', h113, h116, h119, ↓h120']
    refine ⟨rfl, ?_⟩
    show _ = _
    kernel_rfl
theorem f58_34_ok  (x0 : (List Pair)) (x1 : Int) (x2 : Int) (x3 : Int) (r : (List Pair)) (h : slices_siftDownCmpFunc similar_Match_c2 x0 x1 x2 x3 = some r) : callW Try.prog A0 58 [.ref 0 0 x0.length 2, iv x1, iv x2, iv x3, .p (.fn (.func 34) [])] [.arr (encL en_Pair x0)] = some (.p (.tup []), [.arr (encL en_Pair r)]) := by
 refine call_ofH (fn := Try.f58) (c := bodyOf Try.f58) rfl rfl (by kernel_rfl) (by kernel_rfl) ?_
 rw [show initS Try.f58 [.ref 0 0 x0.length 2, iv x1, iv x2, iv x3, .p (.fn (.func 34) [])] [.arr (encL en_Pair x0)] = ⟨.ref 0 0 x0.length 2 :: iv x1 :: iv x2 :: iv x3 :: .p (.fn (.func 34) []) :: List.replicate 77 undefD, [.arr (encL en_Pair x0)], 1⟩ from by kernel_rfl]
 unfold slices_siftDownCmpFunc at h
 unfold bodyOf Try.f58; simp only [Option.getD_some, loopsOf, List.append_nil, List.nil_append, List.cons_append, List.getD_cons_zero, List.getD_cons_succ]
 simp only [List.replicate]
 obtain ⟨o, h129, h⟩ := bsm h
 simp (maxSteps := 10000000) (implicitDefEqProofs := false) (disch := first | assumption | omega | exact rfl) only [bs, rs58, ls58_34, Nat.reduceAdd, ↓reduceIte, loadD_pagg a39 z39, storeD_agg z39]
 refine Wp.ctx (fun x => blockW _ (x)) (L58_34_0_ok x2 x3 (x1, x0) _ o (by kernel_rfl) h129) ?_
 intro e st hq
 cases o with
 | next _ => (first | cases h | (simp at h))
 | jmp n_ s_ =>
  obtain ⟨rfl, rfl, hq⟩ := hq
  obtain ⟨s10_130, y0_130⟩ := s_
  obtain rfl := Option.some.inj h
  simp (maxSteps := 10000000) (implicitDefEqProofs := false) (disch := first | assumption | omega | exact rfl) only [bs, rs58, ls58_34, Nat.reduceAdd, ↓reduceIte, loadD_pagg a39 z39, storeD_agg z39]
  exact ⟨by first | exact .inl trivial | exact .inr trivial | simp, hq⟩
 | ret r131 =>
  obtain ⟨rfl, hq⟩ := hq
  obtain rfl := Option.some.inj h
  simp (maxSteps := 10000000) (implicitDefEqProofs := false) (disch := first | assumption | omega | exact rfl) only [bs, rs58, ls58_34, Nat.reduceAdd, ↓reduceIte, loadD_pagg a39 z39, storeD_agg z39]
  exact ⟨by first | exact .inl trivial | exact .inr trivial | simp, hq⟩
theorem slices_siftDownCmpFunc_34_call {x0 : (List Pair)} {x1 : Int} {x2 : Int} {x3 : Int} {r : (List Pair)} (h : slices_siftDownCmpFunc similar_Match_c2 x0 x1 x2 x3 = some r) : callW Try.prog A0 58 [.ref 0 0 x0.length 2, iv x1, iv x2, iv x3, .p (.fn (.func 34) [])] [.arr (encL en_Pair x0)] = some (.p (.tup []), [.arr (encL en_Pair r)]) := f58_34_ok x0 x1 x2 x3 _ h
def ls49_34 := @idxR_26
noncomputable def L49_1 : Code := (loopsOf (bodyOf Try.f49)).getD 1 .skip
def g49_1 : List Ghost := [.keep [0, 3, 8, 9, 12]]
def F49_34_1 (s8 : Int) (s9 : Int) : (Int × (List Pair)) → St := fun (s12, y0) => ⟨[.ref 0 0 y0.length 2, .junk, .junk, .p (.fn (.func 34) []), .junk, .junk, .junk, .junk, iv s8, iv s9, .junk, .junk, iv s12, .junk, .junk, .junk, .junk, .junk, .junk, .junk, .junk, .junk, .junk, .junk, .junk, .junk, .junk, .junk, .junk, .junk, .junk, .junk, .junk, .junk, .junk, .junk, .junk, .junk, .junk, .junk, .junk, .junk, .junk, .junk, .junk, .junk, .junk, .junk, .junk, .junk, .junk, .junk, .junk, .junk, .junk, .junk, .junk, .junk, .junk, .junk], [.arr (encL en_Pair y0)], 1⟩
theorem L49_34_1_ok (s8 : Int) (s9 : Int) : ∀ s st o, ghostsD g49_1 st = some (F49_34_1 s8 s9 s) → iter (slices_heapSortCmpFunc_L1 similar_Match_c2 s8 s9) s = some o →
    Wp (evW Try.prog A0 49 (.loop L49_1) st) (OutQ (F49_34_1 s8 s9) g49_1 (fun n s st => n = 2 ∧ (match s with | (s12, y0) => finishD Try.prog A0 49 Try.f49 st = some (.p (.tup []), [.arr (encL en_Pair y0)]))) (fun r st => finishD Try.prog A0 49 Try.f49 st = some (.p (.tup []), [.arr (encL en_Pair r)])) o) := by
 refine Wp.iter ?_
 intro s st o hg h
 obtain ⟨s12, y0⟩ := s
 unfold slices_heapSortCmpFunc_L1 at h
 unfold g49_1 F49_34_1 at hg ⊢
 (try simp only [] at h hg)
 unfold L49_1 bodyOf Try.f49; simp only [Option.getD_some, loopsOf, List.append_nil, List.nil_append, List.cons_append, List.getD_cons_zero, List.getD_cons_succ]
 by_cases h11 : (0 : Int) ≤ s12
 ·rw [if_pos h11] at h
  have h11' : decide ((0 : Int) ≤ s12) = true := decide_eq_true h11
  obtain ⟨v12, h13, h⟩ := bsm h
  obtain ⟨h13a, h13b, _⟩ := rd_some h13
  have h14 := lk_arr_39 h13
  obtain ⟨v15, h16, h⟩ := bsm h
  obtain ⟨h16a, h16b, _⟩ := rd_some h16
  have h17 := lk_arr_39 h16
  have h18 : ∀ (H : List Ob) (id : Nat), staOb H id (s8.toNat * 2) 2 [.v (.int .i64 v12.Old), .v (.int .i64 v12.New)] (some (.arr (encL en_Pair y0))) = some (H.set id (.arr (encL en_Pair (y0.set s8.toNat v12)))) := fun H id => by
      have := sta_arr (H := H) (id := id) (v := v12) en_Pair_len h16a h16b
      rw [en_Pair_eq] at this
      exact this
  have h19 : (y0.set s8.toNat v12).length = y0.length := List.length_set
  obtain ⟨v20, h21, h⟩ := bsm h
  obtain ⟨h21a, h21b, _⟩ := rd_some h21
  have h22 : ∀ (H : List Ob) (id : Nat), staOb H id ((w64 (s8 + s12)).toNat * 2) 2 [.v (.int .i64 v15.Old), .v (.int .i64 v15.New)] (some (.arr (encL en_Pair (y0.set s8.toNat v12)))) = some (H.set id (.arr (encL en_Pair ((y0.set s8.toNat v12).set (w64 (s8 + s12)).toNat v15)))) := fun H id => by
      have := sta_arr (H := H) (id := id) (v := v15) en_Pair_len h21a h21b
      rw [en_Pair_eq] at this
      exact this
  have h23 : ((y0.set s8.toNat v12).set (w64 (s8 + s12)).toNat v15).length = (y0.set s8.toNat v12).length := List.length_set
  obtain ⟨r24, h25, h⟩ := bsm h
  have h26 : callD (callW Try.prog A0) A0 [.arr (encL en_Pair ((y0.set s8.toNat v12).set (w64 (s8 + s12)).toNat v15))] 58 [.ref 0 0 y0.length 2, iv s9, iv s12, iv s8, .p (.fn (.func 34) [])] = some (.p (.tup []), some [.arr (encL en_Pair r24)]) := by
      rw [show y0.length = ((y0.set s8.toNat v12).set (w64 (s8 + s12)).toNat v15).length from by omega]; exact (callD_put (dsw := [.ref 0 0 (((y0.set s8.toNat v12).set (w64 (s8 + s12)).toNat v15).length) 2, iv s9, iv s12, iv s8, .p (.fn (.func 34) [])]) (ds' := [.ref 0 0 (((y0.set s8.toNat v12).set (w64 (s8 + s12)).toNat v15).length) 2, iv s9, iv s12, iv s8, .p (.fn (.func 34) [])]) (i := 0) (ids := []) (o := .arr (encL en_Pair ((y0.set s8.toNat v12).set (w64 (s8 + s12)).toNat v15))) (os := []) (o' := .arr (encL en_Pair r24)) (os' := []) rfl (by kernel_rfl) (by kernel_rfl) (by kernel_rfl) (by kernel_rfl) (by kernel_rfl) (slices_siftDownCmpFunc_34_call h25) rfl rfl).trans (by kernel_rfl)
  by_cases hw_ : r24.length = ((y0.set s8.toNat v12).set (w64 (s8 + s12)).toNat v15).length
  case neg => rw [if_neg hw_] at h; cases h
  rw [if_pos hw_] at h
  have h27 := hw_
  obtain rfl := Option.some.inj h
  simp (maxSteps := 10000000) (implicitDefEqProofs := false) (disch := first | assumption | omega | exact rfl) only [bs, rs49, ls49_34, Nat.reduceAdd, ↓reduceIte, loadD_pagg a39 z39, storeD_agg z39, hg, ↓h11', h14, h17, h18, h22, h26]
  exact ⟨rfl, by simp only [List.length_set, cpL_len, h27]; kernel_rfl⟩
 ·rw [if_neg h11] at h
  have h11' : decide ((0 : Int) ≤ s12) = false := decide_eq_false h11
  obtain rfl := Option.some.inj h
  simp (maxSteps := 10000000) (implicitDefEqProofs := false) (disch := first | assumption | omega | exact rfl) only [bs, rs49, ls49_34, Nat.reduceAdd, ↓reduceIte, loadD_pagg a39 z39, storeD_agg z39, hg, ↓h11']
  refine ⟨rfl, rfl, ?_⟩
  show _ = _
  kernel_rfl
noncomputable def L49_0 : Code := (loopsOf (bodyOf Try.f49)).getD 0 .skip
def g49_0 : List Ghost := [.keep [0, 3, 8, 9, 10, 11]]
def F49_34_0 (s8 : Int) (s9 : Int) (s10 : Int) : (Int × (List Pair)) → St := fun (s11, y0) => ⟨[.ref 0 0 y0.length 2, .junk, .junk, .p (.fn (.func 34) []), .junk, .junk, .junk, .junk, iv s8, iv s9, iv s10, iv s11, .junk, .junk, .junk, .junk, .junk, .junk, .junk, .junk, .junk, .junk, .junk, .junk, .junk, .junk, .junk, .junk, .junk, .junk, .junk, .junk, .junk, .junk, .junk, .junk, .junk, .junk, .junk, .junk, .junk, .junk, .junk, .junk, .junk, .junk, .junk, .junk, .junk, .junk, .junk, .junk, .junk, .junk, .junk, .junk, .junk, .junk, .junk, .junk], [.arr (encL en_Pair y0)], 1⟩
theorem L49_34_0_ok (s8 : Int) (s9 : Int) (s10 : Int) : ∀ s st o, ghostsD g49_0 st = some (F49_34_0 s8 s9 s10 s) → iter (slices_heapSortCmpFunc_L0 similar_Match_c2 s8 s9 s10) s = some o →
    Wp (evW Try.prog A0 49 (.loop L49_0) st) (OutQ (F49_34_0 s8 s9 s10) g49_0 (fun n s st => n = 0 ∧ ghostsD [.keep [0, 3, 8, 9, 10, 11]] st = some (F49_34_0 s8 s9 s10 s)) (fun r st => finishD Try.prog A0 49 Try.f49 st = some (.p (.tup []), [.arr (encL en_Pair r)])) o) := by
 refine Wp.iter ?_
 intro s st o hg h
 obtain ⟨s11, y0⟩ := s
 unfold slices_heapSortCmpFunc_L0 at h
 unfold g49_0 F49_34_0 at hg ⊢
 (try simp only [] at h hg)
 unfold L49_0 bodyOf Try.f49; simp only [Option.getD_some, loopsOf, List.append_nil, List.nil_append, List.cons_append, List.getD_cons_zero, List.getD_cons_succ]
 by_cases h4 : (0 : Int) ≤ s11
 ·rw [if_pos h4] at h
  have h4' : decide ((0 : Int) ≤ s11) = true := decide_eq_true h4
  obtain ⟨r5, h6, h⟩ := bsm h
  have h7 : callD (callW Try.prog A0) A0 [.arr (encL en_Pair y0)] 58 [.ref 0 0 y0.length 2, iv s11, iv s10, iv s8, .p (.fn (.func 34) [])] = some (.p (.tup []), some [.arr (encL en_Pair r5)]) := (callD_put (dsw := [.ref 0 0 y0.length 2, iv s11, iv s10, iv s8, .p (.fn (.func 34) [])]) (ds' := [.ref 0 0 y0.length 2, iv s11, iv s10, iv s8, .p (.fn (.func 34) [])]) (i := 0) (ids := []) (o := .arr (encL en_Pair y0)) (os := []) (o' := .arr (encL en_Pair r5)) (os' := []) rfl (by kernel_rfl) (by kernel_rfl) (by kernel_rfl) (by kernel_rfl) (by kernel_rfl) (slices_siftDownCmpFunc_34_call h6) rfl rfl).trans (by kernel_rfl)
  by_cases hw_ : r5.length = y0.length
  case neg => rw [if_neg hw_] at h; cases h
  rw [if_pos hw_] at h
  have h8 := hw_
  obtain rfl := Option.some.inj h
  simp (maxSteps := 10000000) (implicitDefEqProofs := false) (disch := first | assumption | omega | exact rfl) only [bs, rs49, ls49_34, Nat.reduceAdd, ↓reduceIte, loadD_pagg a39 z39, storeD_agg z39, hg, ↓h4', h7]
  exact ⟨rfl, by simp only [List.length_set, cpL_len, h8]; kernel_rfl⟩
 ·rw [if_neg h4] at h
  have h4' : decide ((0 : Int) ≤ s11) = false := decide_eq_false h4
  obtain rfl := Option.some.inj h
  simp (maxSteps := 10000000) (implicitDefEqProofs := false) (disch := first | assumption | omega | exact rfl) only [bs, rs49, ls49_34, Nat.reduceAdd, ↓reduceIte, loadD_pagg a39 z39, storeD_agg z39, hg, ↓h4']
  exact ⟨rfl, rfl, by kernel_rfl⟩
theorem f49_34_ok  (x0 : (List Pair)) (x1 : Int) (x2 : Int) (r : (List Pair)) (h : slices_heapSortCmpFunc similar_Match_c2 x0 x1 x2 = some r) : callW Try.prog A0 49 [.ref 0 0 x0.length 2, iv x1, iv x2, .p (.fn (.func 34) [])] [.arr (encL en_Pair x0)] = some (.p (.tup []), [.arr (encL en_Pair r)]) := by
 refine call_ofH (fn := Try.f49) (c := bodyOf Try.f49) rfl rfl (by kernel_rfl) (by kernel_rfl) ?_
 rw [show initS Try.f49 [.ref 0 0 x0.length 2, iv x1, iv x2, .p (.fn (.func 34) [])] [.arr (encL en_Pair x0)] = ⟨.ref 0 0 x0.length 2 :: iv x1 :: iv x2 :: .p (.fn (.func 34) []) :: List.replicate 56 undefD, [.arr (encL en_Pair x0)], 1⟩ from by kernel_rfl]
 unfold slices_heapSortCmpFunc at h
 unfold bodyOf Try.f49; simp only [Option.getD_some, loopsOf, List.append_nil, List.nil_append, List.cons_append, List.getD_cons_zero, List.getD_cons_succ]
 simp only [List.replicate]
 obtain ⟨q1, h2, h⟩ := bsm h
 have h3 : ∀ xo yo, binD Try.prog .quo 3 xo yo (.p (.v (.int .i64 (w64 ((w64 (x2 - x1)) - (1 : Int)))))) (.p (.v (.int .i64 (2 : Int)))) = some (.p (.v (.int .i64 q1))) := fun xo yo => binD_quo_k h2
 obtain ⟨o, h9, h⟩ := bsm h
 simp (maxSteps := 10000000) (implicitDefEqProofs := false) (disch := first | assumption | omega | exact rfl) only [bs, rs49, ls49_34, Nat.reduceAdd, ↓reduceIte, loadD_pagg a39 z39, storeD_agg z39, h3]
 refine Wp.ctx (fun x => seqW _ _ _ _ (blockW _ (x))) (L49_34_0_ok x1 (0 : Int) (w64 (x2 - x1)) (q1, x0) _ o (by kernel_rfl) h9) ?_
 intro e st hq
 cases o with
 | next _ => (first | cases h | (simp at h))
 | jmp n_ s_ =>
  obtain ⟨rfl, rfl, hq⟩ := hq
  obtain ⟨s11_10, y0_10⟩ := s_
  unfold F49_34_0 at hq
  (try simp only [] at h hq)
  obtain ⟨o, h28, h⟩ := bsm h
  simp (maxSteps := 10000000) (implicitDefEqProofs := false) (disch := first | assumption | omega | exact rfl) only [bs, rs49, ls49_34, Nat.reduceAdd, ↓reduceIte, loadD_pagg a39 z39, storeD_agg z39, h3, hq]
  refine Wp.ctx (fun x => blockW _ (x)) (L49_34_1_ok x1 (0 : Int) (w64 ((w64 (x2 - x1)) - (1 : Int)), y0_10) _ o (by kernel_rfl) h28) ?_
  intro e st hq
  cases o with
  | next _ => (first | cases h | (simp at h))
  | jmp n_ s_ =>
   obtain ⟨rfl, rfl, hq⟩ := hq
   obtain ⟨s12_29, y0_29⟩ := s_
   obtain rfl := Option.some.inj h
   simp (maxSteps := 10000000) (implicitDefEqProofs := false) (disch := first | assumption | omega | exact rfl) only [bs, rs49, ls49_34, Nat.reduceAdd, ↓reduceIte, loadD_pagg a39 z39, storeD_agg z39]
   exact ⟨by first | exact .inl trivial | exact .inr trivial | simp, hq⟩
  | ret _ => (first | cases h | (simp at h))
 | ret _ => (first | cases h | (simp at h))
theorem slices_heapSortCmpFunc_34_call {x0 : (List Pair)} {x1 : Int} {x2 : Int} {r : (List Pair)} (h : slices_heapSortCmpFunc similar_Match_c2 x0 x1 x2 = some r) : callW Try.prog A0 49 [.ref 0 0 x0.length 2, iv x1, iv x2, .p (.fn (.func 34) [])] [.arr (encL en_Pair x0)] = some (.p (.tup []), [.arr (encL en_Pair r)]) := f49_34_ok x0 x1 x2 _ h
def ls63_34 := And.intro @idxR_26 (And.intro @sv_1_0_1 (@varld_1_0))
theorem f63_34_ok  (x0 : (List Pair)) (x1 : Int) (x2 : Int) (x3 : Int) (r : (Int × Int × (List Pair) × Int)) (h : slices_order2CmpFunc similar_Match_c2 x0 x1 x2 x3 = some r) : callW Try.prog A0 63 [.ref 0 0 x0.length 2, iv x1, iv x2, .ptr 1 0, .p (.fn (.func 34) [])] [.arr (encL en_Pair x0), .var [iv x3]] = some (.p (.tup [.v (.int .i64 r.1), .v (.int .i64 r.2.1)]), [.arr (encL en_Pair r.2.2.1), .var [iv r.2.2.2]]) := by
 refine call_ofH (fn := Try.f63) (c := bodyOf Try.f63) rfl rfl (by kernel_rfl) (by kernel_rfl) ?_
 rw [show initS Try.f63 [.ref 0 0 x0.length 2, iv x1, iv x2, .ptr 1 0, .p (.fn (.func 34) [])] [.arr (encL en_Pair x0), .var [iv x3]] = ⟨.ref 0 0 x0.length 2 :: iv x1 :: iv x2 :: .ptr 1 0 :: .p (.fn (.func 34) []) :: List.replicate 27 undefD, [.arr (encL en_Pair x0), .var [iv x3]], 2⟩ from by kernel_rfl]
 unfold slices_order2CmpFunc at h
 unfold bodyOf Try.f63; simp only [Option.getD_some, loopsOf, List.append_nil, List.nil_append, List.cons_append, List.getD_cons_zero, List.getD_cons_succ]
 simp only [List.replicate]
 obtain ⟨v1, h2, h⟩ := bsm h
 obtain ⟨h2a, h2b, _⟩ := rd_some h2
 have h3 := lk_arr_39 h2
 obtain ⟨v4, h5, h⟩ := bsm h
 obtain ⟨h5a, h5b, _⟩ := rd_some h5
 have h6 := lk_arr_39 h5
 obtain ⟨r7, h8, h⟩ := bsm h
 have h9 : ∀ H, callD (callW Try.prog A0) A0 H 34 [.p (.agg [.v (.int .i64 v1.Old), .v (.int .i64 v1.New)]), .p (.agg [.v (.int .i64 v4.Old), .v (.int .i64 v4.New)])] = some (.p (.v (.int .i64 r7)), none) := fun H => similar_Match_c2_call h8
 by_cases h10 : r7 < (0 : Int)
 ·rw [if_pos h10] at h
  have h10' : decide (r7 < (0 : Int)) = true := decide_eq_true h10
  obtain rfl := Option.some.inj h
  simp (maxSteps := 10000000) (implicitDefEqProofs := false) (disch := first | assumption | omega | exact rfl) only [bs, rs63, ls63_34, Nat.reduceAdd, ↓reduceIte, loadD_pagg a39 z39, loadD_ptr a3, nilCheckD_ptr, ops_nilCheck, storeD_int z3, h3, h6, h9, ↓h10']
  refine ⟨by first | exact .inl trivial | exact .inr trivial | simp, ?_⟩
  show _ = _
  kernel_rfl
 ·rw [if_neg h10] at h
  have h10' : decide (r7 < (0 : Int)) = false := decide_eq_false h10
  obtain rfl := Option.some.inj h
  simp (maxSteps := 10000000) (implicitDefEqProofs := false) (disch := first | assumption | omega | exact rfl) only [bs, rs63, ls63_34, Nat.reduceAdd, ↓reduceIte, loadD_pagg a39 z39, loadD_ptr a3, nilCheckD_ptr, ops_nilCheck, storeD_int z3, h3, h6, h9, ↓h10']
  refine ⟨by first | exact .inl trivial | exact .inr trivial | simp, ?_⟩
  show _ = _
  kernel_rfl
theorem slices_order2CmpFunc_34_call {x0 : (List Pair)} {x1 : Int} {x2 : Int} {x3 : Int} {r : (Int × Int × (List Pair) × Int)} (h : slices_order2CmpFunc similar_Match_c2 x0 x1 x2 x3 = some r) : callW Try.prog A0 63 [.ref 0 0 x0.length 2, iv x1, iv x2, .ptr 1 0, .p (.fn (.func 34) [])] [.arr (encL en_Pair x0), .var [iv x3]] = some (.p (.tup [.v (.int .i64 r.1), .v (.int .i64 r.2.1)]), [.arr (encL en_Pair r.2.2.1), .var [iv r.2.2.2]]) := f63_34_ok x0 x1 x2 x3 _ h
def ls62_34 := And.intro @ex_2_0 (@ex_2_1)
theorem f62_34_ok  (x0 : (List Pair)) (x1 : Int) (x2 : Int) (x3 : Int) (x4 : Int) (r : (Int × (List Pair) × Int)) (h : slices_medianCmpFunc similar_Match_c2 x0 x1 x2 x3 x4 = some r) : callW Try.prog A0 62 [.ref 0 0 x0.length 2, iv x1, iv x2, iv x3, .ptr 1 0, .p (.fn (.func 34) [])] [.arr (encL en_Pair x0), .var [iv x4]] = some (.p (.v (.int .i64 r.1)), [.arr (encL en_Pair r.2.1), .var [iv r.2.2]]) := by
 refine call_ofH (fn := Try.f62) (c := bodyOf Try.f62) rfl rfl (by kernel_rfl) (by kernel_rfl) ?_
 rw [show initS Try.f62 [.ref 0 0 x0.length 2, iv x1, iv x2, iv x3, .ptr 1 0, .p (.fn (.func 34) [])] [.arr (encL en_Pair x0), .var [iv x4]] = ⟨.ref 0 0 x0.length 2 :: iv x1 :: iv x2 :: iv x3 :: .ptr 1 0 :: .p (.fn (.func 34) []) :: List.replicate 35 undefD, [.arr (encL en_Pair x0), .var [iv x4]], 2⟩ from by kernel_rfl]
 unfold slices_medianCmpFunc at h
 unfold bodyOf Try.f62; simp only [Option.getD_some, loopsOf, List.append_nil, List.nil_append, List.cons_append, List.getD_cons_zero, List.getD_cons_succ]
 simp only [List.replicate]
 obtain ⟨r1, h2, h⟩ := bsm h
 have h3 : callD (callW Try.prog A0) A0 [.arr (encL en_Pair x0), .var [iv x4]] 63 [.ref 0 0 x0.length 2, iv x1, iv x2, .ptr 1 0, .p (.fn (.func 34) [])] = some (.p (.tup [.v (.int .i64 r1.1), .v (.int .i64 r1.2.1)]), some [.arr (encL en_Pair r1.2.2.1), .var [iv r1.2.2.2]]) := (callD_put (dsw := [.ref 0 0 x0.length 2, iv x1, iv x2, .ptr 1 0, .p (.fn (.func 34) [])]) (ds' := [.ref 0 0 x0.length 2, iv x1, iv x2, .ptr 1 0, .p (.fn (.func 34) [])]) (i := 0) (ids := [1]) (o := .arr (encL en_Pair x0)) (os := [.var [iv x4]]) (o' := .arr (encL en_Pair r1.2.2.1)) (os' := [.var [iv r1.2.2.2]]) rfl (by kernel_rfl) (by kernel_rfl) (by kernel_rfl) (by kernel_rfl) (by kernel_rfl) (slices_order2CmpFunc_34_call h2) rfl rfl).trans (by kernel_rfl)
 by_cases hw_ : r1.2.2.1.length = x0.length
 case neg => rw [if_neg hw_] at h; cases h
 rw [if_pos hw_] at h
 have h4 := hw_
 obtain ⟨r5, h6, h⟩ := bsm h
 have h7 : callD (callW Try.prog A0) A0 [.arr (encL en_Pair r1.2.2.1), .var [iv r1.2.2.2]] 63 [.ref 0 0 x0.length 2, iv r1.2.1, iv x3, .ptr 1 0, .p (.fn (.func 34) [])] = some (.p (.tup [.v (.int .i64 r5.1), .v (.int .i64 r5.2.1)]), some [.arr (encL en_Pair r5.2.2.1), .var [iv r5.2.2.2]]) := by
     rw [show x0.length = r1.2.2.1.length from by omega]; exact (callD_put (dsw := [.ref 0 0 r1.2.2.1.length 2, iv r1.2.1, iv x3, .ptr 1 0, .p (.fn (.func 34) [])]) (ds' := [.ref 0 0 r1.2.2.1.length 2, iv r1.2.1, iv x3, .ptr 1 0, .p (.fn (.func 34) [])]) (i := 0) (ids := [1]) (o := .arr (encL en_Pair r1.2.2.1)) (os := [.var [iv r1.2.2.2]]) (o' := .arr (encL en_Pair r5.2.2.1)) (os' := [.var [iv r5.2.2.2]]) rfl (by kernel_rfl) (by kernel_rfl) (by kernel_rfl) (by kernel_rfl) (by kernel_rfl) (slices_order2CmpFunc_34_call h6) rfl rfl).trans (by kernel_rfl)
 by_cases hw_ : r5.2.2.1.length = r1.2.2.1.length
 case neg => rw [if_neg hw_] at h; cases h
 rw [if_pos hw_] at h
 have h8 := hw_
 obtain ⟨r9, h10, h⟩ := bsm h
 have h11 : callD (callW Try.prog A0) A0 [.arr (encL en_Pair r5.2.2.1), .var [iv r5.2.2.2]] 63 [.ref 0 0 x0.length 2, iv r1.1, iv r5.1, .ptr 1 0, .p (.fn (.func 34) [])] = some (.p (.tup [.v (.int .i64 r9.1), .v (.int .i64 r9.2.1)]), some [.arr (encL en_Pair r9.2.2.1), .var [iv r9.2.2.2]]) := by
     rw [show x0.length = r5.2.2.1.length from by omega]; exact (callD_put (dsw := [.ref 0 0 r5.2.2.1.length 2, iv r1.1, iv r5.1, .ptr 1 0, .p (.fn (.func 34) [])]) (ds' := [.ref 0 0 r5.2.2.1.length 2, iv r1.1, iv r5.1, .ptr 1 0, .p (.fn (.func 34) [])]) (i := 0) (ids := [1]) (o := .arr (encL en_Pair r5.2.2.1)) (os := [.var [iv r5.2.2.2]]) (o' := .arr (encL en_Pair r9.2.2.1)) (os' := [.var [iv r9.2.2.2]]) rfl (by kernel_rfl) (by kernel_rfl) (by kernel_rfl) (by kernel_rfl) (by kernel_rfl) (slices_order2CmpFunc_34_call h10) rfl rfl).trans (by kernel_rfl)
 by_cases hw_ : r9.2.2.1.length = r5.2.2.1.length
 case neg => rw [if_neg hw_] at h; cases h
 rw [if_pos hw_] at h
 have h12 := hw_
 obtain rfl := Option.some.inj h
 simp (maxSteps := 10000000) (implicitDefEqProofs := false) (disch := first | assumption | omega | exact rfl) only [bs, rs62, ls62_34, Nat.reduceAdd, ↓reduceIte, h3, h7, h11]
 refine ⟨by first | exact .inl trivial | exact .inr trivial | simp, ?_⟩
 show _ = _
 kernel_rfl
theorem slices_medianCmpFunc_34_call {x0 : (List Pair)} {x1 : Int} {x2 : Int} {x3 : Int} {x4 : Int} {r : (Int × (List Pair) × Int)} (h : slices_medianCmpFunc similar_Match_c2 x0 x1 x2 x3 x4 = some r) : callW Try.prog A0 62 [.ref 0 0 x0.length 2, iv x1, iv x2, iv x3, .ptr 1 0, .p (.fn (.func 34) [])] [.arr (encL en_Pair x0), .var [iv x4]] = some (.p (.v (.int .i64 r.1)), [.arr (encL en_Pair r.2.1), .var [iv r.2.2]]) := f62_34_ok x0 x1 x2 x3 x4 _ h
theorem f61_34_ok  (x0 : (List Pair)) (x1 : Int) (x2 : Int) (r : (Int × (List Pair) × Int)) (h : slices_medianAdjacentCmpFunc similar_Match_c2 x0 x1 x2 = some r) : callW Try.prog A0 61 [.ref 0 0 x0.length 2, iv x1, .ptr 1 0, .p (.fn (.func 34) [])] [.arr (encL en_Pair x0), .var [iv x2]] = some (.p (.v (.int .i64 r.1)), [.arr (encL en_Pair r.2.1), .var [iv r.2.2]]) := by
 refine call_ofH (fn := Try.f61) (c := bodyOf Try.f61) rfl rfl (by kernel_rfl) (by kernel_rfl) ?_
 rw [show initS Try.f61 [.ref 0 0 x0.length 2, iv x1, .ptr 1 0, .p (.fn (.func 34) [])] [.arr (encL en_Pair x0), .var [iv x2]] = ⟨.ref 0 0 x0.length 2 :: iv x1 :: .ptr 1 0 :: .p (.fn (.func 34) []) :: List.replicate 14 undefD, [.arr (encL en_Pair x0), .var [iv x2]], 2⟩ from by kernel_rfl]
 unfold slices_medianAdjacentCmpFunc at h
 unfold bodyOf Try.f61; simp only [Option.getD_some, loopsOf, List.append_nil, List.nil_append, List.cons_append, List.getD_cons_zero, List.getD_cons_succ]
 simp only [List.replicate]
 obtain ⟨r1, h2, h⟩ := bsm h
 have h3 : callD (callW Try.prog A0) A0 [.arr (encL en_Pair x0), .var [iv x2]] 62 [.ref 0 0 x0.length 2, iv (w64 (x1 - (1 : Int))), iv x1, iv (w64 (x1 + (1 : Int))), .ptr 1 0, .p (.fn (.func 34) [])] = some (.p (.v (.int .i64 r1.1)), some [.arr (encL en_Pair r1.2.1), .var [iv r1.2.2]]) := (callD_put (dsw := [.ref 0 0 x0.length 2, iv (w64 (x1 - (1 : Int))), iv x1, iv (w64 (x1 + (1 : Int))), .ptr 1 0, .p (.fn (.func 34) [])]) (ds' := [.ref 0 0 x0.length 2, iv (w64 (x1 - (1 : Int))), iv x1, iv (w64 (x1 + (1 : Int))), .ptr 1 0, .p (.fn (.func 34) [])]) (i := 0) (ids := [1]) (o := .arr (encL en_Pair x0)) (os := [.var [iv x2]]) (o' := .arr (encL en_Pair r1.2.1)) (os' := [.var [iv r1.2.2]]) rfl (by kernel_rfl) (by kernel_rfl) (by kernel_rfl) (by kernel_rfl) (by kernel_rfl) (slices_medianCmpFunc_34_call h2) rfl rfl).trans (by kernel_rfl)
 by_cases hw_ : r1.2.1.length = x0.length
 case neg => rw [if_neg hw_] at h; cases h
 rw [if_pos hw_] at h
 have h4 := hw_
 obtain rfl := Option.some.inj h
 simp (maxSteps := 10000000) (implicitDefEqProofs := false) (disch := first | assumption | omega | exact rfl) only [bs, rs61, Nat.reduceAdd, ↓reduceIte, h3]
 refine ⟨by first | exact .inl trivial | exact .inr trivial | simp, ?_⟩
 show _ = _
 kernel_rfl
theorem slices_medianAdjacentCmpFunc_34_call {x0 : (List Pair)} {x1 : Int} {x2 : Int} {r : (Int × (List Pair) × Int)} (h : slices_medianAdjacentCmpFunc similar_Match_c2 x0 x1 x2 = some r) : callW Try.prog A0 61 [.ref 0 0 x0.length 2, iv x1, .ptr 1 0, .p (.fn (.func 34) [])] [.arr (encL en_Pair x0), .var [iv x2]] = some (.p (.v (.int .i64 r.1)), [.arr (encL en_Pair r.2.1), .var [iv r.2.2]]) := f61_34_ok x0 x1 x2 _ h
end Xn

