/- A part of the proof: P0. No conditions of its own. -/
import Derived.Test.YtddfehcpbgfmfaaL
namespace Xn
open Go Go.Ev Go.Proofs
set_option linter.unusedSimpArgs false
set_option linter.unusedVariables false
set_option linter.defProp false
set_option maxRecDepth 8000
set_option maxHeartbeats 40000000
def ls39 := And.intro @faP_25_3 (And.intro @idxL_23 (@varld_4_0_3))
theorem R06_left_rcall {rec : Node → Int → Int → Option Int} (hrec : ∀ x0 x1 x2 r, rec x0 x1 x2 = some r → callW Try.prog A0 39 [.p (.agg [.v (.int .i64 x0.Kind), .v (.string x0.Text), .lst false x0.Gaps.length (encL en_str x0.Gaps), .lst false x0.Kids.length (encL en_Node x0.Kids)]), iv x1, iv x2] [] = some (.p (.v (.int .i64 r)), [])) {b1 b2 : Bool} {H : List Ob} {x0 : Node} {x1 : Int} {x2 : Int} {r : Int} (h : rec x0 x1 x2 = some r) : callD (callW Try.prog A0) A0 H 39 [.p (.agg [.v (.int .i64 x0.Kind), .v (.string x0.Text), .lst b1 x0.Gaps.length (encL en_str x0.Gaps), .lst b2 x0.Kids.length (encL en_Node x0.Kids)]), iv x1, iv x2] = some (.p (.v (.int .i64 r)), none) :=
  callD_fun (args := [.agg [.v (.int .i64 x0.Kind), .v (.string x0.Text), .lst b1 x0.Gaps.length (encL en_str x0.Gaps), .lst b2 x0.Kids.length (encL en_Node x0.Kids)], .v (.int .i64 x1), .v (.int .i64 x2)]) rfl rfl rfl (by simp only [List.map_cons, List.map_nil, wk, wks, wkL]; exact hrec x0 x1 x2 _ h)
noncomputable def L39_0 : Code := (loopsOf (bodyOf Try.f39)).getD 0 .skip
def g39_0 : List Ghost := [.keep [2, 3, 7, 8]]
def F39_0 (s2 : Int) (w0_0 : Int) (w0_1 : ByteArray) (w0_2 : (List ByteArray)) (w0_3 : (List Node)) : (Int × Int) → St := fun (s7, s8) => ⟨[.junk, .junk, iv s2, .ptr 0 0, .junk, .junk, .junk, iv s7, iv s8, .junk, .junk, .junk, .junk, .junk, .junk, .junk, .junk, .junk, .junk, .junk, .junk, .junk, .junk, .junk, .junk, .junk, .junk, .junk, .junk, .junk, .junk, .junk, .junk, .junk, .junk, .junk, .junk, .junk, .junk, .junk, .junk, .junk, .junk], [.var [iv w0_0, .p (.v (.string w0_1)), .p (.lst false w0_2.length (encL en_str w0_2)), .p (.lst false w0_3.length (encL en_Node w0_3))]], 0⟩
theorem L39_0_ok {rec : Node → Int → Int → Option Int} (hrec : ∀ x0 x1 x2 r, rec x0 x1 x2 = some r → callW Try.prog A0 39 [.p (.agg [.v (.int .i64 x0.Kind), .v (.string x0.Text), .lst false x0.Gaps.length (encL en_str x0.Gaps), .lst false x0.Kids.length (encL en_Node x0.Kids)]), iv x1, iv x2] [] = some (.p (.v (.int .i64 r)), [])) (s2 : Int) (w0_0 : Int) (w0_1 : ByteArray) (w0_2 : (List ByteArray)) (w0_3 : (List Node)) : ∀ s st o, ghostsD g39_0 st = some (F39_0 s2 w0_0 w0_1 w0_2 w0_3 s) → iter (R06_left_L0 rec s2 w0_0 w0_1 w0_2 w0_3) s = some o →
    Wp (evW Try.prog A0 39 (.loop L39_0) st) (OutQ (F39_0 s2 w0_0 w0_1 w0_2 w0_3) g39_0 (fun n s st => n = 0 ∧ ghostsD [.keep [2, 3, 7, 8]] st = some (F39_0 s2 w0_0 w0_1 w0_2 w0_3 s)) (fun r st => finishD Try.prog A0 39 Try.f39 st = some (.p (.v (.int .i64 r)), [])) o) := by
 refine Wp.iter ?_
 intro s st o hg h
 obtain ⟨s7, s8⟩ := s
 unfold R06_left_L0 at h
 unfold g39_0 F39_0 at hg ⊢
 (try simp only [] at h hg)
 unfold L39_0 bodyOf Try.f39; simp only [Option.getD_some, loopsOf, List.append_nil, List.nil_append, List.cons_append, List.getD_cons_zero, List.getD_cons_succ]
 by_cases h4 : s8 < (w0_3.length : Int)
 ·rw [if_pos h4] at h
  have h4' : decide (s8 < (w0_3.length : Int)) = true := decide_eq_true h4
  obtain ⟨v5, h6, h⟩ := Option.bind_eq_some_iff.1 h
  obtain ⟨h6a, h6b, _⟩ := rd_some h6
  have h7 := lk_frz_25 h6
  obtain ⟨r8, h9, h⟩ := Option.bind_eq_some_iff.1 h
  have h10 : ∀ H, callD (callW Try.prog A0) A0 H 39 [.p (.agg [.v (.int .i64 v5.Kind), .v (.string v5.Text), .lst false v5.Gaps.length (encL en_str v5.Gaps), .lst false v5.Kids.length (encL en_Node v5.Kids)]), iv s7, iv (w64 (s2 - (1 : Int)))] = some (.p (.v (.int .i64 r8)), none) := fun H => R06_left_rcall hrec h9
  by_cases h11 : r8 < (0 : Int)
  ·rw [if_pos h11] at h
   have h11' : decide (r8 < (0 : Int)) = true := decide_eq_true h11
   obtain rfl := Option.some.inj h
   simp (maxSteps := 10000000) (implicitDefEqProofs := false) (disch := first | assumption | omega | exact rfl) only [bs, rs39, ls39, Nat.reduceAdd, ↓reduceIte, lenD_lst u23, loadD_iagg a25 z25, loadD_ptr a23, hg, ↓h4', h7, h10, ↓h11']
   refine ⟨rfl, ?_⟩
   exact finish_is (ds := [iv (-1 : Int)]) (x := .v (.int .i64 (-1 : Int))) (y := .v (.int .i64 (-1 : Int))) (l := []) rfl rfl rfl rfl (by first | rfl | (simp only [wk, wks, wkL]; first | done | rfl))
  ·rw [if_neg h11] at h
   have h11' : decide (r8 < (0 : Int)) = false := decide_eq_false h11
   obtain rfl := Option.some.inj h
   simp (maxSteps := 10000000) (implicitDefEqProofs := false) (disch := first | assumption | omega | exact rfl) only [bs, rs39, ls39, Nat.reduceAdd, ↓reduceIte, lenD_lst u23, loadD_iagg a25 z25, loadD_ptr a23, hg, ↓h4', h7, h10, ↓h11']
   exact ⟨rfl, by kernel_rfl⟩
 ·rw [if_neg h4] at h
  have h4' : decide (s8 < (w0_3.length : Int)) = false := decide_eq_false h4
  obtain rfl := Option.some.inj h
  simp (maxSteps := 10000000) (implicitDefEqProofs := false) (disch := first | assumption | omega | exact rfl) only [bs, rs39, ls39, Nat.reduceAdd, ↓reduceIte, lenD_lst u23, loadD_iagg a25 z25, loadD_ptr a23, hg, ↓h4']
  exact ⟨rfl, rfl, by kernel_rfl⟩
theorem f39_ok {rec : Node → Int → Int → Option Int} (hrec : ∀ x0 x1 x2 r, rec x0 x1 x2 = some r → callW Try.prog A0 39 [.p (.agg [.v (.int .i64 x0.Kind), .v (.string x0.Text), .lst false x0.Gaps.length (encL en_str x0.Gaps), .lst false x0.Kids.length (encL en_Node x0.Kids)]), iv x1, iv x2] [] = some (.p (.v (.int .i64 r)), []))  (x0 : Node) (x1 : Int) (x2 : Int) (r : Int) (h : R06_left.body rec x0 x1 x2 = some r) : callW Try.prog A0 39 [.p (.agg [.v (.int .i64 x0.Kind), .v (.string x0.Text), .lst false x0.Gaps.length (encL en_str x0.Gaps), .lst false x0.Kids.length (encL en_Node x0.Kids)]), iv x1, iv x2] [] = some (.p (.v (.int .i64 r)), []) := by
 refine call_ofH (fn := Try.f39) (c := bodyOf Try.f39) rfl rfl (by kernel_rfl) (by kernel_rfl) ?_
 rw [show initS Try.f39 [.p (.agg [.v (.int .i64 x0.Kind), .v (.string x0.Text), .lst false x0.Gaps.length (encL en_str x0.Gaps), .lst false x0.Kids.length (encL en_Node x0.Kids)]), iv x1, iv x2] [] = ⟨.p (.agg [.v (.int .i64 x0.Kind), .v (.string x0.Text), .lst false x0.Gaps.length (encL en_str x0.Gaps), .lst false x0.Kids.length (encL en_Node x0.Kids)]) :: iv x1 :: iv x2 :: List.replicate 40 undefD, [], 0⟩ from by kernel_rfl]
 unfold R06_left.body at h
 unfold bodyOf Try.f39; simp only [Option.getD_some, loopsOf, List.append_nil, List.nil_append, List.cons_append, List.getD_cons_zero, List.getD_cons_succ]
 simp only [List.replicate]
 by_cases h1 : x1 < (1 : Int)
 ·rw [if_pos h1] at h
  have h1' : decide (x1 < (1 : Int)) = true := decide_eq_true h1
  obtain rfl := Option.some.inj h
  simp (maxSteps := 10000000) (implicitDefEqProofs := false) (disch := first | assumption | omega | exact rfl) only [bs, rs39, ls39, Nat.reduceAdd, ↓reduceIte, lenD_lst u23, loadD_iagg a25 z25, loadD_ptr a23, ↓h1']
  refine ⟨by first | exact .inl trivial | exact .inr trivial | simp, ?_⟩
  exact finish_is (ds := [iv (-1 : Int)]) (x := .v (.int .i64 (-1 : Int))) (y := .v (.int .i64 (-1 : Int))) (l := []) rfl rfl rfl rfl (by first | rfl | (simp only [wk, wks, wkL]; first | done | rfl))
 ·rw [if_neg h1] at h
  have h1' : decide (x1 < (1 : Int)) = false := decide_eq_false h1
  by_cases h2 : x2 < (1 : Int)
  ·rw [if_pos h2] at h
   have h2' : decide (x2 < (1 : Int)) = true := decide_eq_true h2
   obtain rfl := Option.some.inj h
   simp (maxSteps := 10000000) (implicitDefEqProofs := false) (disch := first | assumption | omega | exact rfl) only [bs, rs39, ls39, Nat.reduceAdd, ↓reduceIte, lenD_lst u23, loadD_iagg a25 z25, loadD_ptr a23, ↓h1', ↓h2']
   refine ⟨by first | exact .inl trivial | exact .inr trivial | simp, ?_⟩
   exact finish_is (ds := [iv (-1 : Int)]) (x := .v (.int .i64 (-1 : Int))) (y := .v (.int .i64 (-1 : Int))) (l := []) rfl rfl rfl rfl (by first | rfl | (simp only [wk, wks, wkL]; first | done | rfl))
  ·rw [if_neg h2] at h
   have h2' : decide (x2 < (1 : Int)) = false := decide_eq_false h2
   by_cases h3 : x1 < (x0.Kids.length : Int)
   ·rw [if_pos h3] at h
    have h3' : decide (x1 < (x0.Kids.length : Int)) = true := decide_eq_true h3
    obtain rfl := Option.some.inj h
    simp (maxSteps := 10000000) (implicitDefEqProofs := false) (disch := first | assumption | omega | exact rfl) only [bs, rs39, ls39, Nat.reduceAdd, ↓reduceIte, lenD_lst u23, loadD_iagg a25 z25, loadD_ptr a23, ↓h1', ↓h2', ↓h3']
    refine ⟨by first | exact .inl trivial | exact .inr trivial | simp, ?_⟩
    exact finish_is (ds := [iv (-1 : Int)]) (x := .v (.int .i64 (-1 : Int))) (y := .v (.int .i64 (-1 : Int))) (l := []) rfl rfl rfl rfl (by first | rfl | (simp only [wk, wks, wkL]; first | done | rfl))
   ·rw [if_neg h3] at h
    have h3' : decide (x1 < (x0.Kids.length : Int)) = false := decide_eq_false h3
    obtain ⟨o, h12, h⟩ := Option.bind_eq_some_iff.1 h
    simp (maxSteps := 10000000) (implicitDefEqProofs := false) (disch := first | assumption | omega | exact rfl) only [bs, rs39, ls39, Nat.reduceAdd, ↓reduceIte, lenD_lst u23, loadD_iagg a25 z25, loadD_ptr a23, ↓h1', ↓h2', ↓h3']
    refine Wp.ctx (fun x => seqW _ _ _ _ (blockW _ (x))) (L39_0_ok hrec x2 x0.Kind x0.Text x0.Gaps x0.Kids (w64 (x1 - (1 : Int)), (0 : Int)) _ o (by kernel_rfl) h12) ?_
    intro e st hq
    cases o with
    | next _ => (first | cases h | (simp at h))
    | jmp n_ s_ =>
     obtain ⟨rfl, rfl, hq⟩ := hq
     obtain ⟨s7_13, s8_13⟩ := s_
     unfold F39_0 at hq
     (try simp only [] at h hq)
     obtain rfl := Option.some.inj h
     simp (maxSteps := 10000000) (implicitDefEqProofs := false) (disch := first | assumption | omega | exact rfl) only [bs, rs39, ls39, Nat.reduceAdd, ↓reduceIte, lenD_lst u23, loadD_iagg a25 z25, loadD_ptr a23, ↓h1', ↓h2', ↓h3', hq]
     refine ⟨by first | exact .inl trivial | exact .inr trivial | simp, ?_⟩
     exact finish_is (ds := [iv s7_13]) (x := .v (.int .i64 s7_13)) (y := .v (.int .i64 s7_13)) (l := []) rfl rfl rfl rfl (by first | rfl | (simp only [wk, wks, wkL]; first | done | rfl))
    | ret r14 =>
     obtain ⟨rfl, hq⟩ := hq
     obtain rfl := Option.some.inj h
     simp (maxSteps := 10000000) (implicitDefEqProofs := false) (disch := first | assumption | omega | exact rfl) only [bs, rs39, ls39, Nat.reduceAdd, ↓reduceIte, lenD_lst u23, loadD_iagg a25 z25, loadD_ptr a23]
     exact ⟨by first | exact .inl trivial | exact .inr trivial | simp, hq⟩
theorem f39_spec : ∀ (x0 : Node) (x1 : Int) (x2 : Int) r, R06_leftS x0 x1 x2 = some r → callW Try.prog A0 39 [.p (.agg [.v (.int .i64 x0.Kind), .v (.string x0.Text), .lst false x0.Gaps.length (encL en_str x0.Gaps), .lst false x0.Kids.length (encL en_Node x0.Kids)]), iv x1, iv x2] [] = some (.p (.v (.int .i64 r)), []) := by
  have key : ∀ n (x0 : Node) (x1 : Int) (x2 : Int) r, R06_leftS_mu x0 x1 x2 < n → R06_leftS x0 x1 x2 = some r → callW Try.prog A0 39 [.p (.agg [.v (.int .i64 x0.Kind), .v (.string x0.Text), .lst false x0.Gaps.length (encL en_str x0.Gaps), .lst false x0.Kids.length (encL en_Node x0.Kids)]), iv x1, iv x2] [] = some (.p (.v (.int .i64 r)), []) := by
    intro n
    induction n with
    | zero => intro x0 x1 x2 r h; omega
    | succ n ih =>
      intro x0 x1 x2 r hn h
      refine f39_ok (rec := fun x0' x1' x2' => if R06_leftS_mu x0' x1' x2' < R06_leftS_mu x0 x1 x2 then R06_leftS x0' x1' x2' else none) ?_ x0 x1 x2 r (R06_leftS_body x0 x1 x2 r h)
      intro x0' x1' x2' r' h'
      by_cases hm : R06_leftS_mu x0' x1' x2' < R06_leftS_mu x0 x1 x2
      · rw [if_pos hm] at h'; exact ih x0' x1' x2' r' (by omega) h'
      · rw [if_neg hm] at h'; cases h'
  intro x0 x1 x2 r h
  exact key _ x0 x1 x2 r (Nat.lt_succ_self _) h
theorem R06_left_call {b1 b2 : Bool} {H : List Ob} {x0 : Node} {x1 : Int} {x2 : Int} {r : Int} (h : R06_leftS x0 x1 x2 = some r) : callD (callW Try.prog A0) A0 H 39 [.p (.agg [.v (.int .i64 x0.Kind), .v (.string x0.Text), .lst b1 x0.Gaps.length (encL en_str x0.Gaps), .lst b2 x0.Kids.length (encL en_Node x0.Kids)]), iv x1, iv x2] = some (.p (.v (.int .i64 r)), none) :=
  callD_fun (args := [.agg [.v (.int .i64 x0.Kind), .v (.string x0.Text), .lst b1 x0.Gaps.length (encL en_str x0.Gaps), .lst b2 x0.Kids.length (encL en_Node x0.Kids)], .v (.int .i64 x1), .v (.int .i64 x2)]) rfl rfl rfl (by simp only [List.map_cons, List.map_nil, wk, wks, wkL]; exact f39_spec x0 x1 x2 _ h)
def ls19 := @varlv_4_0_4
theorem f19_ok  (x0 : Node) (x1 : Int) (x2 : Int) (r : Bool) (h : R06_Fits x0 x1 x2 = some r) : callW Try.prog A0 19 [.p (.agg [.v (.int .i64 x0.Kind), .v (.string x0.Text), .lst false x0.Gaps.length (encL en_str x0.Gaps), .lst false x0.Kids.length (encL en_Node x0.Kids)]), iv x1, iv x2] [] = some (.p (.v (.bool r)), []) := by
 refine call_ofH (fn := Try.f19) (c := bodyOf Try.f19) rfl rfl (by kernel_rfl) (by kernel_rfl) ?_
 rw [show initS Try.f19 [.p (.agg [.v (.int .i64 x0.Kind), .v (.string x0.Text), .lst false x0.Gaps.length (encL en_str x0.Gaps), .lst false x0.Kids.length (encL en_Node x0.Kids)]), iv x1, iv x2] [] = ⟨.p (.agg [.v (.int .i64 x0.Kind), .v (.string x0.Text), .lst false x0.Gaps.length (encL en_str x0.Gaps), .lst false x0.Kids.length (encL en_Node x0.Kids)]) :: iv x1 :: iv x2 :: List.replicate 9 undefD, [], 0⟩ from by kernel_rfl]
 unfold R06_Fits at h
 unfold bodyOf Try.f19; simp only [Option.getD_some, loopsOf, List.append_nil, List.nil_append, List.cons_append, List.getD_cons_zero, List.getD_cons_succ]
 simp only [List.replicate]
 obtain ⟨r1, h2, h⟩ := Option.bind_eq_some_iff.1 h
 have h3 : ∀ H, callD (callW Try.prog A0) A0 H 39 [.p (.agg [.v (.int .i64 x0.Kind), .v (.string x0.Text), .lst false x0.Gaps.length (encL en_str x0.Gaps), .lst false x0.Kids.length (encL en_Node x0.Kids)]), iv x1, iv x2] = some (.p (.v (.int .i64 r1)), none) := fun H => R06_left_call h2
 obtain rfl := Option.some.inj h
 simp (maxSteps := 10000000) (implicitDefEqProofs := false) (disch := first | assumption | omega | exact rfl) only [bs, rs19, ls19, Nat.reduceAdd, ↓reduceIte, loadD_pagg a25 z25, h3]
 refine ⟨by first | exact .inl trivial | exact .inr trivial | simp, ?_⟩
 exact finish_is (ds := [bv (decide ((0 : Int) ≤ r1))]) (x := .v (.bool (decide ((0 : Int) ≤ r1)))) (y := .v (.bool (decide ((0 : Int) ≤ r1)))) (l := []) rfl rfl rfl rfl (by first | rfl | (simp only [wk, wks, wkL]; first | done | rfl))
theorem R06_Fits_call {b1 b2 : Bool} {H : List Ob} {x0 : Node} {x1 : Int} {x2 : Int} {r : Bool} (h : R06_Fits x0 x1 x2 = some r) : callD (callW Try.prog A0) A0 H 19 [.p (.agg [.v (.int .i64 x0.Kind), .v (.string x0.Text), .lst b1 x0.Gaps.length (encL en_str x0.Gaps), .lst b2 x0.Kids.length (encL en_Node x0.Kids)]), iv x1, iv x2] = some (.p (.v (.bool r)), none) :=
  callD_fun (args := [.agg [.v (.int .i64 x0.Kind), .v (.string x0.Text), .lst b1 x0.Gaps.length (encL en_str x0.Gaps), .lst b2 x0.Kids.length (encL en_Node x0.Kids)], .v (.int .i64 x1), .v (.int .i64 x2)]) rfl rfl rfl (by simp only [List.map_cons, List.map_nil, wk, wks, wkL]; exact f19_ok x0 x1 x2 _ h)
def ls8 := @varlv_4_0_4
theorem f8_ok  (x0 : Node) (r : Bool) (h : law22_small x0 = some r) : callW Try.prog A0 8 [.p (.agg [.v (.int .i64 x0.Kind), .v (.string x0.Text), .lst false x0.Gaps.length (encL en_str x0.Gaps), .lst false x0.Kids.length (encL en_Node x0.Kids)])] [] = some (.p (.v (.bool r)), []) := by
 refine call_ofH (fn := Try.f8) (c := bodyOf Try.f8) rfl rfl (by kernel_rfl) (by kernel_rfl) ?_
 rw [show initS Try.f8 [.p (.agg [.v (.int .i64 x0.Kind), .v (.string x0.Text), .lst false x0.Gaps.length (encL en_str x0.Gaps), .lst false x0.Kids.length (encL en_Node x0.Kids)])] [] = ⟨.p (.agg [.v (.int .i64 x0.Kind), .v (.string x0.Text), .lst false x0.Gaps.length (encL en_str x0.Gaps), .lst false x0.Kids.length (encL en_Node x0.Kids)]) :: List.replicate 4 undefD, [], 0⟩ from by kernel_rfl]
 unfold law22_small at h
 unfold bodyOf Try.f8; simp only [Option.getD_some, loopsOf, List.append_nil, List.nil_append, List.cons_append, List.getD_cons_zero, List.getD_cons_succ]
 simp only [List.replicate]
 obtain ⟨r1, h2, h⟩ := Option.bind_eq_some_iff.1 h
 have h3 : ∀ H, callD (callW Try.prog A0) A0 H 19 [.p (.agg [.v (.int .i64 x0.Kind), .v (.string x0.Text), .lst false x0.Gaps.length (encL en_str x0.Gaps), .lst false x0.Kids.length (encL en_Node x0.Kids)]), iv (40 : Int), iv (30 : Int)] = some (.p (.v (.bool r1)), none) := fun H => R06_Fits_call h2
 obtain rfl := Option.some.inj h
 simp (maxSteps := 10000000) (implicitDefEqProofs := false) (disch := first | assumption | omega | exact rfl) only [bs, rs8, ls8, Nat.reduceAdd, ↓reduceIte, loadD_pagg a25 z25, h3]
 refine ⟨by first | exact .inl trivial | exact .inr trivial | simp, ?_⟩
 exact finish_is (ds := [bv r1]) (x := .v (.bool r1)) (y := .v (.bool r1)) (l := []) rfl rfl rfl rfl (by first | rfl | (simp only [wk, wks, wkL]; first | done | rfl))
theorem law22_small_call {b1 b2 : Bool} {H : List Ob} {x0 : Node} {r : Bool} (h : law22_small x0 = some r) : callD (callW Try.prog A0) A0 H 8 [.p (.agg [.v (.int .i64 x0.Kind), .v (.string x0.Text), .lst b1 x0.Gaps.length (encL en_str x0.Gaps), .lst b2 x0.Kids.length (encL en_Node x0.Kids)])] = some (.p (.v (.bool r)), none) :=
  callD_fun (args := [.agg [.v (.int .i64 x0.Kind), .v (.string x0.Text), .lst b1 x0.Gaps.length (encL en_str x0.Gaps), .lst b2 x0.Kids.length (encL en_Node x0.Kids)]]) rfl rfl rfl (by simp only [List.map_cons, List.map_nil, wk, wks, wkL]; exact f8_ok x0 _ h)
theorem f9_run : callN Try.prog A0 200 9 [] [] = some (.p (.v (.bool true)), []) := by kernel_rfl
theorem f9_ok (r : Bool) (h : law22_awake = some r) : callW Try.prog A0 9 [] [] = some (.p (.v (.bool r)), []) := by
  cases h; exact callW_some.2 ⟨200, f9_run⟩
theorem law22_awake_call {H : List Ob} {r : Bool} (h : law22_awake  = some r) : callD (callW Try.prog A0) A0 H 9 [] = some (.p (.v (.bool r)), none) :=
  callD_fun (args := []) rfl rfl rfl (by simp only [List.map_cons, List.map_nil, wk, wks, wkL]; exact f9_ok  _ h)
def ls40 := And.intro @al_25 (And.intro @bu_25_ (And.intro @ex_3_0 (And.intro @ex_3_1 (And.intro @ex_3_2 (And.intro @faP_25_3 (And.intro @idxL_23 (And.intro @sa_4_0_4 (And.intro @varld_4_0_3 (@varlv_4_0_4)))))))))
theorem tree_locate_rcall {rec : Node → Int → Option (Node × Int × Bool)} (hrec : ∀ x0 x1 r, rec x0 x1 = some r → callW Try.prog A0 40 [.p (.agg [.v (.int .i64 x0.Kind), .v (.string x0.Text), .lst false x0.Gaps.length (encL en_str x0.Gaps), .lst false x0.Kids.length (encL en_Node x0.Kids)]), iv x1] [] = some (.p (.tup [.agg [.v (.int .i64 r.1.Kind), .v (.string r.1.Text), .lst false r.1.Gaps.length (encL en_str r.1.Gaps), .lst false r.1.Kids.length (encL en_Node r.1.Kids)], .v (.int .i64 r.2.1), .v (.bool r.2.2)]), [])) {b1 b2 : Bool} {H : List Ob} {x0 : Node} {x1 : Int} {r : (Node × Int × Bool)} (h : rec x0 x1 = some r) : callD (callW Try.prog A0) A0 H 40 [.p (.agg [.v (.int .i64 x0.Kind), .v (.string x0.Text), .lst b1 x0.Gaps.length (encL en_str x0.Gaps), .lst b2 x0.Kids.length (encL en_Node x0.Kids)]), iv x1] = some (.p (.tup [.agg [.v (.int .i64 r.1.Kind), .v (.string r.1.Text), .lst false r.1.Gaps.length (encL en_str r.1.Gaps), .lst false r.1.Kids.length (encL en_Node r.1.Kids)], .v (.int .i64 r.2.1), .v (.bool r.2.2)]), none) :=
  callD_fun (args := [.agg [.v (.int .i64 x0.Kind), .v (.string x0.Text), .lst b1 x0.Gaps.length (encL en_str x0.Gaps), .lst b2 x0.Kids.length (encL en_Node x0.Kids)], .v (.int .i64 x1)]) rfl rfl rfl (by simp only [List.map_cons, List.map_nil, wk, wks, wkL]; exact hrec x0 x1 _ h)
noncomputable def L40_0 : Code := (loopsOf (bodyOf Try.f40)).getD 0 .skip
def g40_0 : List Ghost := [.weak [17], .keep [1, 4, 7, 17, 18, 19]]
def F40_0 (s1 : Int) (s17 : (List Node)) (s18 : Int) (w0_0 : Int) (w0_1 : ByteArray) : (Int × Int) → St := fun (s7, s19) => ⟨[.junk, iv s1, .junk, .junk, .ptr 0 0, .junk, .junk, iv s7, .junk, .junk, .junk, .junk, .junk, .junk, .junk, .junk, .junk, .p (.lst false s17.length (encL en_Node s17)), iv s18, iv s19, .junk, .junk, .junk, .junk, .junk, .junk, .junk, .junk, .junk, .junk, .junk, .junk, .junk, .junk, .junk, .junk, .junk, .junk, .junk, .junk], [.var [iv w0_0, .p (.v (.string w0_1)), .p (.lst true 0 []), .p (.lst true 0 [])]], 0⟩
theorem L40_0_ok {rec : Node → Int → Option (Node × Int × Bool)} (hrec : ∀ x0 x1 r, rec x0 x1 = some r → callW Try.prog A0 40 [.p (.agg [.v (.int .i64 x0.Kind), .v (.string x0.Text), .lst false x0.Gaps.length (encL en_str x0.Gaps), .lst false x0.Kids.length (encL en_Node x0.Kids)]), iv x1] [] = some (.p (.tup [.agg [.v (.int .i64 r.1.Kind), .v (.string r.1.Text), .lst false r.1.Gaps.length (encL en_str r.1.Gaps), .lst false r.1.Kids.length (encL en_Node r.1.Kids)], .v (.int .i64 r.2.1), .v (.bool r.2.2)]), [])) (s1 : Int) (s17 : (List Node)) (s18 : Int) (w0_0 : Int) (w0_1 : ByteArray) : ∀ s st o, ghostsD g40_0 st = some (F40_0 s1 s17 s18 w0_0 w0_1 s) → iter (tree_locate_L0 rec s1 s17 s18 w0_0 w0_1) s = some o →
    Wp (evW Try.prog A0 40 (.loop L40_0) st) (OutQ (F40_0 s1 s17 s18 w0_0 w0_1) g40_0 (fun n s st => n = 0 ∧ ghostsD [.keep [1, 4, 7, 17, 18, 19]] st = some (F40_0 s1 s17 s18 w0_0 w0_1 s)) (fun r st => finishD Try.prog A0 40 Try.f40 st = some (.p (.tup [.agg [.v (.int .i64 r.1.Kind), .v (.string r.1.Text), .lst false r.1.Gaps.length (encL en_str r.1.Gaps), .lst false r.1.Kids.length (encL en_Node r.1.Kids)], .v (.int .i64 r.2.1), .v (.bool r.2.2)]), [])) o) := by
 refine Wp.iter ?_
 intro s st o hg h
 obtain ⟨s7, s19⟩ := s
 unfold tree_locate_L0 at h
 unfold g40_0 F40_0 at hg ⊢
 (try simp only [] at h hg)
 unfold L40_0 bodyOf Try.f40; simp only [Option.getD_some, loopsOf, List.append_nil, List.nil_append, List.cons_append, List.getD_cons_zero, List.getD_cons_succ]
 by_cases h2 : s19 < s18
 ·rw [if_pos h2] at h
  have h2' : decide (s19 < s18) = true := decide_eq_true h2
  obtain ⟨v3, h4, h⟩ := Option.bind_eq_some_iff.1 h
  obtain ⟨h4a, h4b, _⟩ := rd_some h4
  have h5 := lk_frz_25 h4
  obtain ⟨r6, h7, h⟩ := Option.bind_eq_some_iff.1 h
  have h8 : ∀ H, callD (callW Try.prog A0) A0 H 40 [.p (.agg [.v (.int .i64 v3.Kind), .v (.string v3.Text), .lst false v3.Gaps.length (encL en_str v3.Gaps), .lst false v3.Kids.length (encL en_Node v3.Kids)]), iv (w64 (s1 - s7))] = some (.p (.tup [.agg [.v (.int .i64 r6.1.Kind), .v (.string r6.1.Text), .lst false r6.1.Gaps.length (encL en_str r6.1.Gaps), .lst false r6.1.Kids.length (encL en_Node r6.1.Kids)], .v (.int .i64 r6.2.1), .v (.bool r6.2.2)]), none) := fun H => tree_locate_rcall hrec h7
  by_cases h9 : r6.2.2 = true
  ·rw [if_pos h9] at h
   obtain rfl := Option.some.inj h
   simp (maxSteps := 10000000) (implicitDefEqProofs := false) (disch := first | assumption | omega | exact rfl) only [bs, rs40, ls40, Nat.reduceAdd, ↓reduceIte, lenD_lst u23, loadD_iagg a25 z25, loadD_pagg a25 z25, loadD_ptr a23, storeD_agg z25, hg, ↓h2', h5, h8, h9]
   refine ⟨rfl, ?_⟩
   exact finish_is (ds := [.p (.agg [.v (.int .i64 r6.1.Kind), .v (.string r6.1.Text), .lst false r6.1.Gaps.length (encL en_str r6.1.Gaps), .lst false r6.1.Kids.length (encL en_Node r6.1.Kids)]), iv (0 : Int), bv true]) (x := .tup [.agg [.v (.int .i64 r6.1.Kind), .v (.string r6.1.Text), .lst false r6.1.Gaps.length (encL en_str r6.1.Gaps), .lst false r6.1.Kids.length (encL en_Node r6.1.Kids)], .v (.int .i64 (0 : Int)), .v (.bool true)]) (y := .tup [.agg [.v (.int .i64 r6.1.Kind), .v (.string r6.1.Text), .lst false r6.1.Gaps.length (encL en_str r6.1.Gaps), .lst false r6.1.Kids.length (encL en_Node r6.1.Kids)], .v (.int .i64 (0 : Int)), .v (.bool true)]) (l := []) rfl rfl (by kernel_rfl) rfl (by first | rfl | (simp only [wk, wks, wkL]; first | done | rfl))
  ·rw [if_neg h9] at h
   replace h9 := Bool.eq_false_iff.2 h9
   obtain rfl := Option.some.inj h
   simp (maxSteps := 10000000) (implicitDefEqProofs := false) (disch := first | assumption | omega | exact rfl) only [bs, rs40, ls40, Nat.reduceAdd, ↓reduceIte, lenD_lst u23, loadD_iagg a25 z25, loadD_pagg a25 z25, loadD_ptr a23, storeD_agg z25, hg, ↓h2', h5, h8, h9]
   exact ⟨rfl, by kernel_rfl⟩
 ·rw [if_neg h2] at h
  have h2' : decide (s19 < s18) = false := decide_eq_false h2
  obtain rfl := Option.some.inj h
  simp (maxSteps := 10000000) (implicitDefEqProofs := false) (disch := first | assumption | omega | exact rfl) only [bs, rs40, ls40, Nat.reduceAdd, ↓reduceIte, lenD_lst u23, loadD_iagg a25 z25, loadD_pagg a25 z25, loadD_ptr a23, storeD_agg z25, hg, ↓h2']
  exact ⟨rfl, rfl, by kernel_rfl⟩
theorem f40_ok {rec : Node → Int → Option (Node × Int × Bool)} (hrec : ∀ x0 x1 r, rec x0 x1 = some r → callW Try.prog A0 40 [.p (.agg [.v (.int .i64 x0.Kind), .v (.string x0.Text), .lst false x0.Gaps.length (encL en_str x0.Gaps), .lst false x0.Kids.length (encL en_Node x0.Kids)]), iv x1] [] = some (.p (.tup [.agg [.v (.int .i64 r.1.Kind), .v (.string r.1.Text), .lst false r.1.Gaps.length (encL en_str r.1.Gaps), .lst false r.1.Kids.length (encL en_Node r.1.Kids)], .v (.int .i64 r.2.1), .v (.bool r.2.2)]), []))  (x0 : Node) (x1 : Int) (r : (Node × Int × Bool)) (h : tree_locate.body rec x0 x1 = some r) : callW Try.prog A0 40 [.p (.agg [.v (.int .i64 x0.Kind), .v (.string x0.Text), .lst false x0.Gaps.length (encL en_str x0.Gaps), .lst false x0.Kids.length (encL en_Node x0.Kids)]), iv x1] [] = some (.p (.tup [.agg [.v (.int .i64 r.1.Kind), .v (.string r.1.Text), .lst false r.1.Gaps.length (encL en_str r.1.Gaps), .lst false r.1.Kids.length (encL en_Node r.1.Kids)], .v (.int .i64 r.2.1), .v (.bool r.2.2)]), []) := by
 refine call_ofH (fn := Try.f40) (c := bodyOf Try.f40) rfl rfl (by kernel_rfl) (by kernel_rfl) ?_
 rw [show initS Try.f40 [.p (.agg [.v (.int .i64 x0.Kind), .v (.string x0.Text), .lst false x0.Gaps.length (encL en_str x0.Gaps), .lst false x0.Kids.length (encL en_Node x0.Kids)]), iv x1] [] = ⟨.p (.agg [.v (.int .i64 x0.Kind), .v (.string x0.Text), .lst false x0.Gaps.length (encL en_str x0.Gaps), .lst false x0.Kids.length (encL en_Node x0.Kids)]) :: iv x1 :: List.replicate 38 undefD, [], 0⟩ from by kernel_rfl]
 unfold tree_locate.body at h
 unfold bodyOf Try.f40; simp only [Option.getD_some, loopsOf, List.append_nil, List.nil_append, List.cons_append, List.getD_cons_zero, List.getD_cons_succ]
 simp only [List.replicate]
 by_cases h1 : x1 = (0 : Int)
 ·rw [if_pos h1] at h
  have h1' : decide (x1 = (0 : Int)) = true := decide_eq_true h1
  obtain rfl := Option.some.inj h
  simp (maxSteps := 10000000) (implicitDefEqProofs := false) (disch := first | assumption | omega | exact rfl) only [bs, rs40, ls40, Nat.reduceAdd, ↓reduceIte, lenD_lst u23, loadD_iagg a25 z25, loadD_pagg a25 z25, loadD_ptr a23, storeD_agg z25, ↓h1']
  refine ⟨by first | exact .inl trivial | exact .inr trivial | simp, ?_⟩
  exact finish_is (ds := [.p (.agg [.v (.int .i64 x0.Kind), .v (.string x0.Text), .lst false x0.Gaps.length (encL en_str x0.Gaps), .lst false x0.Kids.length (encL en_Node x0.Kids)]), iv (0 : Int), bv true]) (x := .tup [.agg [.v (.int .i64 x0.Kind), .v (.string x0.Text), .lst false x0.Gaps.length (encL en_str x0.Gaps), .lst false x0.Kids.length (encL en_Node x0.Kids)], .v (.int .i64 (0 : Int)), .v (.bool true)]) (y := .tup [.agg [.v (.int .i64 x0.Kind), .v (.string x0.Text), .lst false x0.Gaps.length (encL en_str x0.Gaps), .lst false x0.Kids.length (encL en_Node x0.Kids)], .v (.int .i64 (0 : Int)), .v (.bool true)]) (l := []) rfl rfl (by kernel_rfl) rfl (by first | rfl | (simp only [wk, wks, wkL]; first | done | rfl))
 ·rw [if_neg h1] at h
  have h1' : decide (x1 = (0 : Int)) = false := decide_eq_false h1
  obtain ⟨o, h10, h⟩ := Option.bind_eq_some_iff.1 h
  simp (maxSteps := 10000000) (implicitDefEqProofs := false) (disch := first | assumption | omega | exact rfl) only [bs, rs40, ls40, Nat.reduceAdd, ↓reduceIte, lenD_lst u23, loadD_iagg a25 z25, loadD_pagg a25 z25, loadD_ptr a23, storeD_agg z25, ↓h1']
  refine Wp.ctx (fun x => seqW _ _ _ _ (blockW _ (x))) (L40_0_ok hrec x1 x0.Kids (x0.Kids.length : Int) (0 : Int) ByteArray.empty ((1 : Int), (0 : Int)) _ o (by kernel_rfl) h10) ?_
  intro e st hq
  cases o with
  | next _ => (first | cases h | (simp at h))
  | jmp n_ s_ =>
   obtain ⟨rfl, rfl, hq⟩ := hq
   obtain ⟨s7_11, s19_11⟩ := s_
   unfold F40_0 at hq
   (try simp only [] at h hq)
   obtain rfl := Option.some.inj h
   simp (maxSteps := 10000000) (implicitDefEqProofs := false) (disch := first | assumption | omega | exact rfl) only [bs, rs40, ls40, Nat.reduceAdd, ↓reduceIte, lenD_lst u23, loadD_iagg a25 z25, loadD_pagg a25 z25, loadD_ptr a23, storeD_agg z25, ↓h1', hq]
   refine ⟨by first | exact .inl trivial | exact .inr trivial | simp, ?_⟩
   exact finish_is (ds := [.p (.agg [.v (.int .i64 (0 : Int)), .v (.string ByteArray.empty), .lst true 0 [], .lst true 0 []]), iv s7_11, bv false]) (x := .tup [.agg [.v (.int .i64 (0 : Int)), .v (.string ByteArray.empty), .lst true 0 [], .lst true 0 []], .v (.int .i64 s7_11), .v (.bool false)]) (y := .tup [.agg [.v (.int .i64 (0 : Int)), .v (.string ByteArray.empty), .lst false ([] : List ByteArray).length (encL en_str ([] : List ByteArray)), .lst false ([] : List Node).length (encL en_Node ([] : List Node))], .v (.int .i64 s7_11), .v (.bool false)]) (l := []) rfl rfl (by kernel_rfl) rfl (by first | rfl | (simp only [wk, wks, wkL]; first | done | rfl))
  | ret r12 =>
   obtain ⟨rfl, hq⟩ := hq
   obtain rfl := Option.some.inj h
   simp (maxSteps := 10000000) (implicitDefEqProofs := false) (disch := first | assumption | omega | exact rfl) only [bs, rs40, ls40, Nat.reduceAdd, ↓reduceIte, lenD_lst u23, loadD_iagg a25 z25, loadD_pagg a25 z25, loadD_ptr a23, storeD_agg z25]
   exact ⟨by first | exact .inl trivial | exact .inr trivial | simp, hq⟩
theorem f40_spec : ∀ (x0 : Node) (x1 : Int) r, tree_locateS x0 x1 = some r → callW Try.prog A0 40 [.p (.agg [.v (.int .i64 x0.Kind), .v (.string x0.Text), .lst false x0.Gaps.length (encL en_str x0.Gaps), .lst false x0.Kids.length (encL en_Node x0.Kids)]), iv x1] [] = some (.p (.tup [.agg [.v (.int .i64 r.1.Kind), .v (.string r.1.Text), .lst false r.1.Gaps.length (encL en_str r.1.Gaps), .lst false r.1.Kids.length (encL en_Node r.1.Kids)], .v (.int .i64 r.2.1), .v (.bool r.2.2)]), []) := by
  have key : ∀ n (x0 : Node) (x1 : Int) r, tree_locateS_mu x0 x1 < n → tree_locateS x0 x1 = some r → callW Try.prog A0 40 [.p (.agg [.v (.int .i64 x0.Kind), .v (.string x0.Text), .lst false x0.Gaps.length (encL en_str x0.Gaps), .lst false x0.Kids.length (encL en_Node x0.Kids)]), iv x1] [] = some (.p (.tup [.agg [.v (.int .i64 r.1.Kind), .v (.string r.1.Text), .lst false r.1.Gaps.length (encL en_str r.1.Gaps), .lst false r.1.Kids.length (encL en_Node r.1.Kids)], .v (.int .i64 r.2.1), .v (.bool r.2.2)]), []) := by
    intro n
    induction n with
    | zero => intro x0 x1 r h; omega
    | succ n ih =>
      intro x0 x1 r hn h
      refine f40_ok (rec := fun x0' x1' => if tree_locateS_mu x0' x1' < tree_locateS_mu x0 x1 then tree_locateS x0' x1' else none) ?_ x0 x1 r (tree_locateS_body x0 x1 r h)
      intro x0' x1' r' h'
      by_cases hm : tree_locateS_mu x0' x1' < tree_locateS_mu x0 x1
      · rw [if_pos hm] at h'; exact ih x0' x1' r' (by omega) h'
      · rw [if_neg hm] at h'; cases h'
  intro x0 x1 r h
  exact key _ x0 x1 r (Nat.lt_succ_self _) h
theorem tree_locate_call {b1 b2 : Bool} {H : List Ob} {x0 : Node} {x1 : Int} {r : (Node × Int × Bool)} (h : tree_locateS x0 x1 = some r) : callD (callW Try.prog A0) A0 H 40 [.p (.agg [.v (.int .i64 x0.Kind), .v (.string x0.Text), .lst b1 x0.Gaps.length (encL en_str x0.Gaps), .lst b2 x0.Kids.length (encL en_Node x0.Kids)]), iv x1] = some (.p (.tup [.agg [.v (.int .i64 r.1.Kind), .v (.string r.1.Text), .lst false r.1.Gaps.length (encL en_str r.1.Gaps), .lst false r.1.Kids.length (encL en_Node r.1.Kids)], .v (.int .i64 r.2.1), .v (.bool r.2.2)]), none) :=
  callD_fun (args := [.agg [.v (.int .i64 x0.Kind), .v (.string x0.Text), .lst b1 x0.Gaps.length (encL en_str x0.Gaps), .lst b2 x0.Kids.length (encL en_Node x0.Kids)], .v (.int .i64 x1)]) rfl rfl rfl (by simp only [List.map_cons, List.map_nil, wk, wks, wkL]; exact f40_spec x0 x1 _ h)
def ls47 := @mk_22
theorem f47_ok  (x0 : (List ByteArray)) (r : (List ByteArray)) (h : tree_texts x0 = some r) : callW Try.prog A0 47 [.p (.lst false x0.length (encL en_str x0))] [] = some (.p (.lst false r.length (encL en_str r)), []) := by
 refine call_ofH (fn := Try.f47) (c := bodyOf Try.f47) rfl rfl (by kernel_rfl) (by kernel_rfl) ?_
 rw [show initS Try.f47 [.p (.lst false x0.length (encL en_str x0))] [] = ⟨.p (.lst false x0.length (encL en_str x0)) :: List.replicate 13 undefD, [], 0⟩ from by kernel_rfl]
 unfold tree_texts at h
 unfold bodyOf Try.f47; simp only [Option.getD_some, loopsOf, List.append_nil, List.nil_append, List.cons_append, List.getD_cons_zero, List.getD_cons_succ]
 simp only [List.replicate]
 by_cases h1 : (x0.length : Int) = (0 : Int)
 ·rw [if_pos h1] at h
  have h1' : decide ((x0.length : Int) = (0 : Int)) = true := decide_eq_true h1
  obtain rfl := Option.some.inj h
  simp (maxSteps := 10000000) (implicitDefEqProofs := false) (disch := first | assumption | omega | exact rfl) only [bs, rs47, ls47, Nat.reduceAdd, ↓reduceIte, lenD_lst u22, ops_copy, ↓h1']
  refine ⟨by first | exact .inl trivial | exact .inr trivial | simp, ?_⟩
  exact finish_is (ds := [.p (.lst true 0 [])]) (x := .lst true 0 []) (y := .lst false ([] : List ByteArray).length (encL en_str ([] : List ByteArray))) (l := []) rfl rfl rfl rfl (by first | rfl | (simp only [wk, wks, wkL]; first | done | rfl))
 ·rw [if_neg h1] at h
  have h1' : decide ((x0.length : Int) = (0 : Int)) = false := decide_eq_false h1
  by_cases hw_ : 0 ≤ (x0.length : Int) ∧ (x0.length : Int) * 16 ≤ 140737488355328
  case neg => rw [if_neg hw_] at h; cases h
  rw [if_pos hw_] at h
  obtain ⟨h2, h3⟩ := hw_
  have h4 := cp_22 (H := [.arr (encL en_str (List.replicate (x0.length : Int).toNat ByteArray.empty))]) (t2 := 22) (id := 0) (n := (List.replicate (x0.length : Int).toNat ByteArray.empty).length) (x := (List.replicate (x0.length : Int).toNat ByteArray.empty)) (y := x0) (full := false) rfl (by first | rfl | omega)
  have h5 : (cpL (List.replicate (x0.length : Int).toNat ByteArray.empty) x0).length = (List.replicate (x0.length : Int).toNat ByteArray.empty).length := cpL_len _ _
  obtain rfl := Option.some.inj h
  simp (maxSteps := 10000000) (implicitDefEqProofs := false) (disch := first | assumption | omega | exact rfl) only [bs, rs47, ls47, Nat.reduceAdd, ↓reduceIte, lenD_lst u22, ops_copy, ↓h1', h4]
  refine ⟨by first | exact .inl trivial | exact .inr trivial | simp, ?_⟩
  exact finish_is (ds := [.ref 0 0 ((List.replicate (x0.length : Int).toNat ByteArray.empty).length) 1]) (x := .lst false (cpL (List.replicate (x0.length : Int).toNat ByteArray.empty) x0).length (encL en_str (cpL (List.replicate (x0.length : Int).toNat ByteArray.empty) x0))) (y := .lst false (cpL (List.replicate (x0.length : Int).toNat ByteArray.empty) x0).length (encL en_str (cpL (List.replicate (x0.length : Int).toNat ByteArray.empty) x0))) (l := [0]) rfl rfl rfl (purify1_enc en_str_len rfl (by first | rfl | omega)) (by first | rfl | (simp only [wk, wks, wkL]; first | done | rfl))
theorem tree_texts_call {b1 : Bool} {H : List Ob} {x0 : (List ByteArray)} {r : (List ByteArray)} (h : tree_texts x0 = some r) : callD (callW Try.prog A0) A0 H 47 [.p (.lst b1 x0.length (encL en_str x0))] = some (.p (.lst false r.length (encL en_str r)), none) :=
  callD_fun (args := [.lst b1 x0.length (encL en_str x0)]) rfl rfl rfl (by simp only [List.map_cons, List.map_nil, wk, wks, wkL]; exact f47_ok x0 _ h)
def ls41 := And.intro @al_25 (And.intro @ap_23_23 (And.intro @bs_23_1 (And.intro @bu_25_0_1_2 (And.intro @faP_25_0 (And.intro @faP_25_1 (And.intro @faP_25_2 (And.intro @faP_25_3 (And.intro @idxL_23 (And.intro @sa_4_0_4 (And.intro @sg_4_0_3_r (And.intro @sg_4_0_pppr (And.intro @varld_4_0_0 (And.intro @varld_4_0_1 (And.intro @varld_4_0_2 (And.intro @varld_4_0_3 (And.intro @varlg_pppr (@varlv_4_0_4)))))))))))))))))
theorem tree_clone_rcall {rec : Node → Option Node} (hrec : ∀ x0 r, rec x0 = some r → callW Try.prog A0 41 [.p (.agg [.v (.int .i64 x0.Kind), .v (.string x0.Text), .lst false x0.Gaps.length (encL en_str x0.Gaps), .lst false x0.Kids.length (encL en_Node x0.Kids)])] [] = some (.p (.agg [.v (.int .i64 r.Kind), .v (.string r.Text), .lst false r.Gaps.length (encL en_str r.Gaps), .lst false r.Kids.length (encL en_Node r.Kids)]), [])) {b1 b2 : Bool} {H : List Ob} {x0 : Node} {r : Node} (h : rec x0 = some r) : callD (callW Try.prog A0) A0 H 41 [.p (.agg [.v (.int .i64 x0.Kind), .v (.string x0.Text), .lst b1 x0.Gaps.length (encL en_str x0.Gaps), .lst b2 x0.Kids.length (encL en_Node x0.Kids)])] = some (.p (.agg [.v (.int .i64 r.Kind), .v (.string r.Text), .lst false r.Gaps.length (encL en_str r.Gaps), .lst false r.Kids.length (encL en_Node r.Kids)]), none) :=
  callD_fun (args := [.agg [.v (.int .i64 x0.Kind), .v (.string x0.Text), .lst b1 x0.Gaps.length (encL en_str x0.Gaps), .lst b2 x0.Kids.length (encL en_Node x0.Kids)]]) rfl rfl rfl (by simp only [List.map_cons, List.map_nil, wk, wks, wkL]; exact hrec x0 _ h)
noncomputable def L41_0 : Code := (loopsOf (bodyOf Try.f41)).getD 0 .skip
def g41_0 : List Ghost := [.ownC 3 3 4, .weak [15], .keep [2, 3, 15, 16, 17]]
def F41_0 (s15 : (List Node)) (s16 : Int) (w0_0 : Int) (w0_1 : ByteArray) (w1_0 : Int) (w1_1 : ByteArray) (w1_2 : (List ByteArray)) : (Int × (List Node)) → St := fun (s17, y2) => ⟨[.junk, .junk, .ptr 0 0, .ptr 1 0, .junk, .junk, .junk, .junk, .junk, .junk, .junk, .junk, .junk, .junk, .junk, .p (.lst false s15.length (encL en_Node s15)), iv s16, iv s17, .junk, .junk, .junk, .junk, .junk, .junk, .junk, .junk, .junk, .junk, .junk, .junk], [.var [iv w0_0, .p (.v (.string w0_1)), .p (.lst true 0 []), .p (.lst true 0 [])], .var [iv w1_0, .p (.v (.string w1_1)), .p (.lst false w1_2.length (encL en_str w1_2)), .ref 2 0 y2.length 4], .arr (encL en_Node y2)], 0⟩
theorem L41_0_ok {rec : Node → Option Node} (hrec : ∀ x0 r, rec x0 = some r → callW Try.prog A0 41 [.p (.agg [.v (.int .i64 x0.Kind), .v (.string x0.Text), .lst false x0.Gaps.length (encL en_str x0.Gaps), .lst false x0.Kids.length (encL en_Node x0.Kids)])] [] = some (.p (.agg [.v (.int .i64 r.Kind), .v (.string r.Text), .lst false r.Gaps.length (encL en_str r.Gaps), .lst false r.Kids.length (encL en_Node r.Kids)]), [])) (s15 : (List Node)) (s16 : Int) (w0_0 : Int) (w0_1 : ByteArray) (w1_0 : Int) (w1_1 : ByteArray) (w1_2 : (List ByteArray)) : ∀ s st o, ghostsD g41_0 st = some (F41_0 s15 s16 w0_0 w0_1 w1_0 w1_1 w1_2 s) → iter (tree_clone_L0 rec s15 s16 w0_0 w0_1 w1_0 w1_1 w1_2) s = some o →
    Wp (evW Try.prog A0 41 (.loop L41_0) st) (OutQ (F41_0 s15 s16 w0_0 w0_1 w1_0 w1_1 w1_2) g41_0 (fun n s st => n = 0 ∧ ghostsD [.keep [2, 3, 15, 16, 17]] st = some (F41_0 s15 s16 w0_0 w0_1 w1_0 w1_1 w1_2 s)) (fun r st => finishD Try.prog A0 41 Try.f41 st = some (.p (.agg [.v (.int .i64 r.Kind), .v (.string r.Text), .lst false r.Gaps.length (encL en_str r.Gaps), .lst false r.Kids.length (encL en_Node r.Kids)]), [])) o) := by
 refine Wp.iter ?_
 intro s st o hg h
 obtain ⟨s17, y2⟩ := s
 unfold tree_clone_L0 at h
 unfold g41_0 F41_0 at hg ⊢
 (try simp only [] at h hg)
 unfold L41_0 bodyOf Try.f41; simp only [Option.getD_some, loopsOf, List.append_nil, List.nil_append, List.cons_append, List.getD_cons_zero, List.getD_cons_succ]
 by_cases h4 : s17 < s16
 ·rw [if_pos h4] at h
  have h4' : decide (s17 < s16) = true := decide_eq_true h4
  obtain ⟨v5, h6, h⟩ := Option.bind_eq_some_iff.1 h
  obtain ⟨h6a, h6b, _⟩ := rd_some h6
  have h7 := lk_frz_25 h6
  obtain ⟨r8, h9, h⟩ := Option.bind_eq_some_iff.1 h
  have h10 : ∀ H, callD (callW Try.prog A0) A0 H 41 [.p (.agg [.v (.int .i64 v5.Kind), .v (.string v5.Text), .lst false v5.Gaps.length (encL en_str v5.Gaps), .lst false v5.Kids.length (encL en_Node v5.Kids)])] = some (.p (.agg [.v (.int .i64 r8.Kind), .v (.string r8.Text), .lst false r8.Gaps.length (encL en_str r8.Gaps), .lst false r8.Kids.length (encL en_Node r8.Kids)]), none) := fun H => tree_clone_rcall hrec h9
  by_cases hw_ : (y2.length + 1) * 72 ≤ 140737488355328
  case neg => rw [if_neg hw_] at h; cases h
  rw [if_pos hw_] at h
  have h12 := hw_
  have h11 : ∀ (H : List Ob) (id : Nat), apOb H id 0 y2.length 1 4 4 72 [.v (.int .i64 r8.Kind), .v (.string r8.Text), .lst false r8.Gaps.length (encL en_str r8.Gaps), .lst false r8.Kids.length (encL en_Node r8.Kids)] (some (.arr (encL en_Node y2))) = some (.ref H.length 0 (y2 ++ [r8]).length 4, H.set id .dead ++ [.arr (encL en_Node (y2 ++ [r8]))]) := fun H id => ap_enc (y := [r8]) en_Node_len (by first | rfl | omega) rfl (by first | (simp only [encL_cons, encL_nil, en_Node_eq, List.cons_append, List.nil_append]; done) | (simp only [encL_cons, encL_nil, en_Node_eq, List.cons_append, List.nil_append]; rfl) | rfl) (by assumption)
  obtain rfl := Option.some.inj h
  simp (maxSteps := 10000000) (implicitDefEqProofs := false) (disch := first | assumption | omega | exact rfl | (refine dynT ?_; kernel_rfl)) only [bs, rs41, ls41, Nat.reduceAdd, ↓reduceIte, lenD_lst u23, loadD_iagg a25 z25, loadD_pagg a25 z25, loadD_ptr a22, loadD_ptr a23, loadD_ptr a3, loadD_ptr a9, storeD_agg z25, storeD_gagg z25, storeD_gref z23, wksL_en_Node, wksL_en_str, wks_nil_, hg, ↓h4', h7, h10, h11]
  exact ⟨rfl, by kernel_rfl⟩
 ·rw [if_neg h4] at h
  have h4' : decide (s17 < s16) = false := decide_eq_false h4
  obtain rfl := Option.some.inj h
  simp (maxSteps := 10000000) (implicitDefEqProofs := false) (disch := first | assumption | omega | exact rfl | (refine dynT ?_; kernel_rfl)) only [bs, rs41, ls41, Nat.reduceAdd, ↓reduceIte, lenD_lst u23, loadD_iagg a25 z25, loadD_pagg a25 z25, loadD_ptr a22, loadD_ptr a23, loadD_ptr a3, loadD_ptr a9, storeD_agg z25, storeD_gagg z25, storeD_gref z23, wksL_en_Node, wksL_en_str, wks_nil_, hg, ↓h4']
  exact ⟨rfl, rfl, by kernel_rfl⟩
theorem f41_ok {rec : Node → Option Node} (hrec : ∀ x0 r, rec x0 = some r → callW Try.prog A0 41 [.p (.agg [.v (.int .i64 x0.Kind), .v (.string x0.Text), .lst false x0.Gaps.length (encL en_str x0.Gaps), .lst false x0.Kids.length (encL en_Node x0.Kids)])] [] = some (.p (.agg [.v (.int .i64 r.Kind), .v (.string r.Text), .lst false r.Gaps.length (encL en_str r.Gaps), .lst false r.Kids.length (encL en_Node r.Kids)]), []))  (x0 : Node) (r : Node) (h : tree_clone.body rec x0 = some r) : callW Try.prog A0 41 [.p (.agg [.v (.int .i64 x0.Kind), .v (.string x0.Text), .lst false x0.Gaps.length (encL en_str x0.Gaps), .lst false x0.Kids.length (encL en_Node x0.Kids)])] [] = some (.p (.agg [.v (.int .i64 r.Kind), .v (.string r.Text), .lst false r.Gaps.length (encL en_str r.Gaps), .lst false r.Kids.length (encL en_Node r.Kids)]), []) := by
 refine call_ofH (fn := Try.f41) (c := bodyOf Try.f41) rfl rfl (by kernel_rfl) (by kernel_rfl) ?_
 rw [show initS Try.f41 [.p (.agg [.v (.int .i64 x0.Kind), .v (.string x0.Text), .lst false x0.Gaps.length (encL en_str x0.Gaps), .lst false x0.Kids.length (encL en_Node x0.Kids)])] [] = ⟨.p (.agg [.v (.int .i64 x0.Kind), .v (.string x0.Text), .lst false x0.Gaps.length (encL en_str x0.Gaps), .lst false x0.Kids.length (encL en_Node x0.Kids)]) :: List.replicate 29 undefD, [], 0⟩ from by kernel_rfl]
 unfold tree_clone.body at h
 unfold bodyOf Try.f41; simp only [Option.getD_some, loopsOf, List.append_nil, List.nil_append, List.cons_append, List.getD_cons_zero, List.getD_cons_succ]
 simp only [List.replicate]
 obtain ⟨r1, h2, h⟩ := Option.bind_eq_some_iff.1 h
 have h3 : ∀ H, callD (callW Try.prog A0) A0 H 47 [.p (.lst false x0.Gaps.length (encL en_str x0.Gaps))] = some (.p (.lst false r1.length (encL en_str r1)), none) := fun H => tree_texts_call h2
 obtain ⟨o, h13, h⟩ := Option.bind_eq_some_iff.1 h
 simp (maxSteps := 10000000) (implicitDefEqProofs := false) (disch := first | assumption | omega | exact rfl | (refine dynT ?_; kernel_rfl)) only [bs, rs41, ls41, Nat.reduceAdd, ↓reduceIte, lenD_lst u23, loadD_iagg a25 z25, loadD_pagg a25 z25, loadD_ptr a22, loadD_ptr a23, loadD_ptr a3, loadD_ptr a9, storeD_agg z25, storeD_gagg z25, storeD_gref z23, wksL_en_Node, wksL_en_str, wks_nil_, h3]
 refine Wp.ctx (fun x => seqW _ _ _ _ (blockW _ (x))) (L41_0_ok hrec x0.Kids (x0.Kids.length : Int) (0 : Int) ByteArray.empty x0.Kind x0.Text r1 ((0 : Int), ([] : List Node)) _ o (by kernel_rfl) h13) ?_
 intro e st hq
 cases o with
 | next _ => (first | cases h | (simp at h))
 | jmp n_ s_ =>
  obtain ⟨rfl, rfl, hq⟩ := hq
  obtain ⟨s17_14, y2_14⟩ := s_
  unfold F41_0 at hq
  (try simp only [] at h hq)
  obtain rfl := Option.some.inj h
  simp (maxSteps := 10000000) (implicitDefEqProofs := false) (disch := first | assumption | omega | exact rfl | (refine dynT ?_; kernel_rfl)) only [bs, rs41, ls41, Nat.reduceAdd, ↓reduceIte, lenD_lst u23, loadD_iagg a25 z25, loadD_pagg a25 z25, loadD_ptr a22, loadD_ptr a23, loadD_ptr a3, loadD_ptr a9, storeD_agg z25, storeD_gagg z25, storeD_gref z23, wksL_en_Node, wksL_en_str, wks_nil_, h3, hq]
  refine ⟨by first | exact .inl trivial | exact .inr trivial | simp, ?_⟩
  exact finish_is (ds := [.agg [iv x0.Kind, .p (.v (.string x0.Text)), .p (.lst false r1.length (encL en_str r1)), .ref 2 0 y2_14.length 4]]) (x := .agg [.v (.int .i64 x0.Kind), .v (.string x0.Text), .lst false r1.length (encL en_str r1), .lst false y2_14.length (encL en_Node y2_14)]) (y := .agg [.v (.int .i64 x0.Kind), .v (.string x0.Text), .lst false r1.length (encL en_str r1), .lst false y2_14.length (encL en_Node y2_14)]) (l := [2]) rfl rfl (by kernel_rfl) (purify1_agg (purifys_pc (purifys_pc (purifys_pc (purifys_rc en_Node_len rfl (by first | rfl | omega) purifys_nil))))) (by first | rfl | (simp only [wk, wks, wkL]; first | done | rfl))
 | ret _ => (first | cases h | (simp at h))
theorem f41_spec : ∀ (x0 : Node) r, tree_cloneS x0 = some r → callW Try.prog A0 41 [.p (.agg [.v (.int .i64 x0.Kind), .v (.string x0.Text), .lst false x0.Gaps.length (encL en_str x0.Gaps), .lst false x0.Kids.length (encL en_Node x0.Kids)])] [] = some (.p (.agg [.v (.int .i64 r.Kind), .v (.string r.Text), .lst false r.Gaps.length (encL en_str r.Gaps), .lst false r.Kids.length (encL en_Node r.Kids)]), []) := by
  have key : ∀ n (x0 : Node) r, tree_cloneS_mu x0 < n → tree_cloneS x0 = some r → callW Try.prog A0 41 [.p (.agg [.v (.int .i64 x0.Kind), .v (.string x0.Text), .lst false x0.Gaps.length (encL en_str x0.Gaps), .lst false x0.Kids.length (encL en_Node x0.Kids)])] [] = some (.p (.agg [.v (.int .i64 r.Kind), .v (.string r.Text), .lst false r.Gaps.length (encL en_str r.Gaps), .lst false r.Kids.length (encL en_Node r.Kids)]), []) := by
    intro n
    induction n with
    | zero => intro x0 r h; omega
    | succ n ih =>
      intro x0 r hn h
      refine f41_ok (rec := fun x0' => if tree_cloneS_mu x0' < tree_cloneS_mu x0 then tree_cloneS x0' else none) ?_ x0 r (tree_cloneS_body x0 r h)
      intro x0' r' h'
      by_cases hm : tree_cloneS_mu x0' < tree_cloneS_mu x0
      · rw [if_pos hm] at h'; exact ih x0' r' (by omega) h'
      · rw [if_neg hm] at h'; cases h'
  intro x0 r h
  exact key _ x0 r (Nat.lt_succ_self _) h
theorem tree_clone_call {b1 b2 : Bool} {H : List Ob} {x0 : Node} {r : Node} (h : tree_cloneS x0 = some r) : callD (callW Try.prog A0) A0 H 41 [.p (.agg [.v (.int .i64 x0.Kind), .v (.string x0.Text), .lst b1 x0.Gaps.length (encL en_str x0.Gaps), .lst b2 x0.Kids.length (encL en_Node x0.Kids)])] = some (.p (.agg [.v (.int .i64 r.Kind), .v (.string r.Text), .lst false r.Gaps.length (encL en_str r.Gaps), .lst false r.Kids.length (encL en_Node r.Kids)]), none) :=
  callD_fun (args := [.agg [.v (.int .i64 x0.Kind), .v (.string x0.Text), .lst b1 x0.Gaps.length (encL en_str x0.Gaps), .lst b2 x0.Kids.length (encL en_Node x0.Kids)]]) rfl rfl rfl (by simp only [List.map_cons, List.map_nil, wk, wks, wkL]; exact f41_spec x0 _ h)
def ls22 := And.intro @al_25 (And.intro @bu_25_ (And.intro @ex_3_0 (And.intro @ex_3_1 (And.intro @ex_3_2 (And.intro @sa_4_0_4 (@varlv_4_0_4))))))
theorem f22_ok  (x0 : Node) (x1 : Int) (r : (Node × Bool)) (h : tree_At x0 x1 = some r) : callW Try.prog A0 22 [.p (.agg [.v (.int .i64 x0.Kind), .v (.string x0.Text), .lst false x0.Gaps.length (encL en_str x0.Gaps), .lst false x0.Kids.length (encL en_Node x0.Kids)]), iv x1] [] = some (.p (.tup [.agg [.v (.int .i64 r.1.Kind), .v (.string r.1.Text), .lst false r.1.Gaps.length (encL en_str r.1.Gaps), .lst false r.1.Kids.length (encL en_Node r.1.Kids)], .v (.bool r.2)]), []) := by
 refine call_ofH (fn := Try.f22) (c := bodyOf Try.f22) rfl rfl (by kernel_rfl) (by kernel_rfl) ?_
 rw [show initS Try.f22 [.p (.agg [.v (.int .i64 x0.Kind), .v (.string x0.Text), .lst false x0.Gaps.length (encL en_str x0.Gaps), .lst false x0.Kids.length (encL en_Node x0.Kids)]), iv x1] [] = ⟨.p (.agg [.v (.int .i64 x0.Kind), .v (.string x0.Text), .lst false x0.Gaps.length (encL en_str x0.Gaps), .lst false x0.Kids.length (encL en_Node x0.Kids)]) :: iv x1 :: List.replicate 22 undefD, [], 0⟩ from by kernel_rfl]
 unfold tree_At at h
 unfold bodyOf Try.f22; simp only [Option.getD_some, loopsOf, List.append_nil, List.nil_append, List.cons_append, List.getD_cons_zero, List.getD_cons_succ]
 simp only [List.replicate]
 by_cases h1 : x1 < (0 : Int)
 ·rw [if_pos h1] at h
  have h1' : decide (x1 < (0 : Int)) = true := decide_eq_true h1
  obtain rfl := Option.some.inj h
  simp (maxSteps := 10000000) (implicitDefEqProofs := false) (disch := first | assumption | omega | exact rfl) only [bs, rs22, ls22, Nat.reduceAdd, ↓reduceIte, loadD_pagg a25 z25, storeD_agg z25, ↓h1']
  refine ⟨by first | exact .inl trivial | exact .inr trivial | simp, ?_⟩
  exact finish_is (ds := [.p (.agg [.v (.int .i64 (0 : Int)), .v (.string ByteArray.empty), .lst true 0 [], .lst true 0 []]), bv false]) (x := .tup [.agg [.v (.int .i64 (0 : Int)), .v (.string ByteArray.empty), .lst true 0 [], .lst true 0 []], .v (.bool false)]) (y := .tup [.agg [.v (.int .i64 (0 : Int)), .v (.string ByteArray.empty), .lst false ([] : List ByteArray).length (encL en_str ([] : List ByteArray)), .lst false ([] : List Node).length (encL en_Node ([] : List Node))], .v (.bool false)]) (l := []) rfl rfl (by kernel_rfl) rfl (by first | rfl | (simp only [wk, wks, wkL]; first | done | rfl))
 ·rw [if_neg h1] at h
  have h1' : decide (x1 < (0 : Int)) = false := decide_eq_false h1
  obtain ⟨r2, h3, h⟩ := Option.bind_eq_some_iff.1 h
  have h4 : ∀ H, callD (callW Try.prog A0) A0 H 40 [.p (.agg [.v (.int .i64 x0.Kind), .v (.string x0.Text), .lst false x0.Gaps.length (encL en_str x0.Gaps), .lst false x0.Kids.length (encL en_Node x0.Kids)]), iv x1] = some (.p (.tup [.agg [.v (.int .i64 r2.1.Kind), .v (.string r2.1.Text), .lst false r2.1.Gaps.length (encL en_str r2.1.Gaps), .lst false r2.1.Kids.length (encL en_Node r2.1.Kids)], .v (.int .i64 r2.2.1), .v (.bool r2.2.2)]), none) := fun H => tree_locate_call h3
  by_cases h5 : r2.2.2 = true
  ·rw [if_pos h5] at h
   obtain ⟨r6, h7, h⟩ := Option.bind_eq_some_iff.1 h
   have h8 : ∀ H, callD (callW Try.prog A0) A0 H 41 [.p (.agg [.v (.int .i64 r2.1.Kind), .v (.string r2.1.Text), .lst false r2.1.Gaps.length (encL en_str r2.1.Gaps), .lst false r2.1.Kids.length (encL en_Node r2.1.Kids)])] = some (.p (.agg [.v (.int .i64 r6.Kind), .v (.string r6.Text), .lst false r6.Gaps.length (encL en_str r6.Gaps), .lst false r6.Kids.length (encL en_Node r6.Kids)]), none) := fun H => tree_clone_call h7
   obtain rfl := Option.some.inj h
   simp (maxSteps := 10000000) (implicitDefEqProofs := false) (disch := first | assumption | omega | exact rfl) only [bs, rs22, ls22, Nat.reduceAdd, ↓reduceIte, loadD_pagg a25 z25, storeD_agg z25, ↓h1', h4, h5, h8]
   refine ⟨by first | exact .inl trivial | exact .inr trivial | simp, ?_⟩
   exact finish_is (ds := [.p (.agg [.v (.int .i64 r6.Kind), .v (.string r6.Text), .lst false r6.Gaps.length (encL en_str r6.Gaps), .lst false r6.Kids.length (encL en_Node r6.Kids)]), bv true]) (x := .tup [.agg [.v (.int .i64 r6.Kind), .v (.string r6.Text), .lst false r6.Gaps.length (encL en_str r6.Gaps), .lst false r6.Kids.length (encL en_Node r6.Kids)], .v (.bool true)]) (y := .tup [.agg [.v (.int .i64 r6.Kind), .v (.string r6.Text), .lst false r6.Gaps.length (encL en_str r6.Gaps), .lst false r6.Kids.length (encL en_Node r6.Kids)], .v (.bool true)]) (l := []) rfl rfl (by kernel_rfl) rfl (by first | rfl | (simp only [wk, wks, wkL]; first | done | rfl))
  ·rw [if_neg h5] at h
   replace h5 := Bool.eq_false_iff.2 h5
   obtain rfl := Option.some.inj h
   simp (maxSteps := 10000000) (implicitDefEqProofs := false) (disch := first | assumption | omega | exact rfl) only [bs, rs22, ls22, Nat.reduceAdd, ↓reduceIte, loadD_pagg a25 z25, storeD_agg z25, ↓h1', h4, h5]
   refine ⟨by first | exact .inl trivial | exact .inr trivial | simp, ?_⟩
   exact finish_is (ds := [.p (.agg [.v (.int .i64 (0 : Int)), .v (.string ByteArray.empty), .lst true 0 [], .lst true 0 []]), bv false]) (x := .tup [.agg [.v (.int .i64 (0 : Int)), .v (.string ByteArray.empty), .lst true 0 [], .lst true 0 []], .v (.bool false)]) (y := .tup [.agg [.v (.int .i64 (0 : Int)), .v (.string ByteArray.empty), .lst false ([] : List ByteArray).length (encL en_str ([] : List ByteArray)), .lst false ([] : List Node).length (encL en_Node ([] : List Node))], .v (.bool false)]) (l := []) rfl rfl (by kernel_rfl) rfl (by first | rfl | (simp only [wk, wks, wkL]; first | done | rfl))
theorem tree_At_call {b1 b2 : Bool} {H : List Ob} {x0 : Node} {x1 : Int} {r : (Node × Bool)} (h : tree_At x0 x1 = some r) : callD (callW Try.prog A0) A0 H 22 [.p (.agg [.v (.int .i64 x0.Kind), .v (.string x0.Text), .lst b1 x0.Gaps.length (encL en_str x0.Gaps), .lst b2 x0.Kids.length (encL en_Node x0.Kids)]), iv x1] = some (.p (.tup [.agg [.v (.int .i64 r.1.Kind), .v (.string r.1.Text), .lst false r.1.Gaps.length (encL en_str r.1.Gaps), .lst false r.1.Kids.length (encL en_Node r.1.Kids)], .v (.bool r.2)]), none) :=
  callD_fun (args := [.agg [.v (.int .i64 x0.Kind), .v (.string x0.Text), .lst b1 x0.Gaps.length (encL en_str x0.Gaps), .lst b2 x0.Kids.length (encL en_Node x0.Kids)], .v (.int .i64 x1)]) rfl rfl rfl (by simp only [List.map_cons, List.map_nil, wk, wks, wkL]; exact f22_ok x0 x1 _ h)
def ls23 := And.intro @al_25 (And.intro @faP_25_3 (And.intro @idxL_23 (And.intro @sa_4_0_4 (And.intro @varld_4_0_3 (@varlv_4_0_4)))))
theorem tree_Size_rcall {rec : Node → Option Int} (hrec : ∀ x0 r, rec x0 = some r → callW Try.prog A0 23 [.p (.agg [.v (.int .i64 x0.Kind), .v (.string x0.Text), .lst false x0.Gaps.length (encL en_str x0.Gaps), .lst false x0.Kids.length (encL en_Node x0.Kids)])] [] = some (.p (.v (.int .i64 r)), [])) {b1 b2 : Bool} {H : List Ob} {x0 : Node} {r : Int} (h : rec x0 = some r) : callD (callW Try.prog A0) A0 H 23 [.p (.agg [.v (.int .i64 x0.Kind), .v (.string x0.Text), .lst b1 x0.Gaps.length (encL en_str x0.Gaps), .lst b2 x0.Kids.length (encL en_Node x0.Kids)])] = some (.p (.v (.int .i64 r)), none) :=
  callD_fun (args := [.agg [.v (.int .i64 x0.Kind), .v (.string x0.Text), .lst b1 x0.Gaps.length (encL en_str x0.Gaps), .lst b2 x0.Kids.length (encL en_Node x0.Kids)]]) rfl rfl rfl (by simp only [List.map_cons, List.map_nil, wk, wks, wkL]; exact hrec x0 _ h)
noncomputable def L23_0 : Code := (loopsOf (bodyOf Try.f23)).getD 0 .skip
def g23_0 : List Ghost := [.weak [7], .keep [3, 7, 8, 9]]
def F23_0 (s7 : (List Node)) (s8 : Int) : (Int × Int) → St := fun (s3, s9) => ⟨[.junk, .junk, .junk, iv s3, .junk, .junk, .junk, .p (.lst false s7.length (encL en_Node s7)), iv s8, iv s9, .junk, .junk, .junk, .junk, .junk, .junk, .junk, .junk, .junk], [], 0⟩
theorem L23_0_ok {rec : Node → Option Int} (hrec : ∀ x0 r, rec x0 = some r → callW Try.prog A0 23 [.p (.agg [.v (.int .i64 x0.Kind), .v (.string x0.Text), .lst false x0.Gaps.length (encL en_str x0.Gaps), .lst false x0.Kids.length (encL en_Node x0.Kids)])] [] = some (.p (.v (.int .i64 r)), [])) (s7 : (List Node)) (s8 : Int) : ∀ s st o, ghostsD g23_0 st = some (F23_0 s7 s8 s) → iter (tree_Size_L0 rec s7 s8) s = some o →
    Wp (evW Try.prog A0 23 (.loop L23_0) st) (OutQ (F23_0 s7 s8) g23_0 (fun n s st => n = 0 ∧ ghostsD [.keep [3, 7, 8, 9]] st = some (F23_0 s7 s8 s)) (fun r st => finishD Try.prog A0 23 Try.f23 st = some (.p (.v (.int .i64 r)), [])) o) := by
 refine Wp.iter ?_
 intro s st o hg h
 obtain ⟨s3, s9⟩ := s
 unfold tree_Size_L0 at h
 unfold g23_0 F23_0 at hg ⊢
 (try simp only [] at h hg)
 unfold L23_0 bodyOf Try.f23; simp only [Option.getD_some, loopsOf, List.append_nil, List.nil_append, List.cons_append, List.getD_cons_zero, List.getD_cons_succ]
 by_cases h1 : s9 < s8
 ·rw [if_pos h1] at h
  have h1' : decide (s9 < s8) = true := decide_eq_true h1
  obtain ⟨v2, h3, h⟩ := Option.bind_eq_some_iff.1 h
  obtain ⟨h3a, h3b, _⟩ := rd_some h3
  have h4 := lk_frz_25 h3
  obtain ⟨r5, h6, h⟩ := Option.bind_eq_some_iff.1 h
  have h7 : ∀ H, callD (callW Try.prog A0) A0 H 23 [.p (.agg [.v (.int .i64 v2.Kind), .v (.string v2.Text), .lst false v2.Gaps.length (encL en_str v2.Gaps), .lst false v2.Kids.length (encL en_Node v2.Kids)])] = some (.p (.v (.int .i64 r5)), none) := fun H => tree_Size_rcall hrec h6
  obtain rfl := Option.some.inj h
  simp (maxSteps := 10000000) (implicitDefEqProofs := false) (disch := first | assumption | omega | exact rfl) only [bs, rs23, ls23, Nat.reduceAdd, ↓reduceIte, lenD_lst u23, loadD_iagg a25 z25, loadD_pagg a25 z25, loadD_ptr a23, storeD_agg z25, hg, ↓h1', h4, h7]
  exact ⟨rfl, by kernel_rfl⟩
 ·rw [if_neg h1] at h
  have h1' : decide (s9 < s8) = false := decide_eq_false h1
  obtain rfl := Option.some.inj h
  simp (maxSteps := 10000000) (implicitDefEqProofs := false) (disch := first | assumption | omega | exact rfl) only [bs, rs23, ls23, Nat.reduceAdd, ↓reduceIte, lenD_lst u23, loadD_iagg a25 z25, loadD_pagg a25 z25, loadD_ptr a23, storeD_agg z25, hg, ↓h1']
  exact ⟨rfl, rfl, by kernel_rfl⟩
theorem f23_ok {rec : Node → Option Int} (hrec : ∀ x0 r, rec x0 = some r → callW Try.prog A0 23 [.p (.agg [.v (.int .i64 x0.Kind), .v (.string x0.Text), .lst false x0.Gaps.length (encL en_str x0.Gaps), .lst false x0.Kids.length (encL en_Node x0.Kids)])] [] = some (.p (.v (.int .i64 r)), []))  (x0 : Node) (r : Int) (h : tree_Size.body rec x0 = some r) : callW Try.prog A0 23 [.p (.agg [.v (.int .i64 x0.Kind), .v (.string x0.Text), .lst false x0.Gaps.length (encL en_str x0.Gaps), .lst false x0.Kids.length (encL en_Node x0.Kids)])] [] = some (.p (.v (.int .i64 r)), []) := by
 refine call_ofH (fn := Try.f23) (c := bodyOf Try.f23) rfl rfl (by kernel_rfl) (by kernel_rfl) ?_
 rw [show initS Try.f23 [.p (.agg [.v (.int .i64 x0.Kind), .v (.string x0.Text), .lst false x0.Gaps.length (encL en_str x0.Gaps), .lst false x0.Kids.length (encL en_Node x0.Kids)])] [] = ⟨.p (.agg [.v (.int .i64 x0.Kind), .v (.string x0.Text), .lst false x0.Gaps.length (encL en_str x0.Gaps), .lst false x0.Kids.length (encL en_Node x0.Kids)]) :: List.replicate 18 undefD, [], 0⟩ from by kernel_rfl]
 unfold tree_Size.body at h
 unfold bodyOf Try.f23; simp only [Option.getD_some, loopsOf, List.append_nil, List.nil_append, List.cons_append, List.getD_cons_zero, List.getD_cons_succ]
 simp only [List.replicate]
 obtain ⟨o, h8, h⟩ := Option.bind_eq_some_iff.1 h
 simp (maxSteps := 10000000) (implicitDefEqProofs := false) (disch := first | assumption | omega | exact rfl) only [bs, rs23, ls23, Nat.reduceAdd, ↓reduceIte, lenD_lst u23, loadD_iagg a25 z25, loadD_pagg a25 z25, loadD_ptr a23, storeD_agg z25]
 refine Wp.ctx (fun x => seqW _ _ _ _ (blockW _ (x))) (L23_0_ok hrec x0.Kids (x0.Kids.length : Int) ((1 : Int), (0 : Int)) _ o (by kernel_rfl) h8) ?_
 intro e st hq
 cases o with
 | next _ => (first | cases h | (simp at h))
 | jmp n_ s_ =>
  obtain ⟨rfl, rfl, hq⟩ := hq
  obtain ⟨s3_9, s9_9⟩ := s_
  unfold F23_0 at hq
  (try simp only [] at h hq)
  obtain rfl := Option.some.inj h
  simp (maxSteps := 10000000) (implicitDefEqProofs := false) (disch := first | assumption | omega | exact rfl) only [bs, rs23, ls23, Nat.reduceAdd, ↓reduceIte, lenD_lst u23, loadD_iagg a25 z25, loadD_pagg a25 z25, loadD_ptr a23, storeD_agg z25, hq]
  refine ⟨by first | exact .inl trivial | exact .inr trivial | simp, ?_⟩
  exact finish_is (ds := [iv s3_9]) (x := .v (.int .i64 s3_9)) (y := .v (.int .i64 s3_9)) (l := []) rfl rfl rfl rfl (by first | rfl | (simp only [wk, wks, wkL]; first | done | rfl))
 | ret _ => (first | cases h | (simp at h))
theorem f23_spec : ∀ (x0 : Node) r, tree_SizeS x0 = some r → callW Try.prog A0 23 [.p (.agg [.v (.int .i64 x0.Kind), .v (.string x0.Text), .lst false x0.Gaps.length (encL en_str x0.Gaps), .lst false x0.Kids.length (encL en_Node x0.Kids)])] [] = some (.p (.v (.int .i64 r)), []) := by
  have key : ∀ n (x0 : Node) r, tree_SizeS_mu x0 < n → tree_SizeS x0 = some r → callW Try.prog A0 23 [.p (.agg [.v (.int .i64 x0.Kind), .v (.string x0.Text), .lst false x0.Gaps.length (encL en_str x0.Gaps), .lst false x0.Kids.length (encL en_Node x0.Kids)])] [] = some (.p (.v (.int .i64 r)), []) := by
    intro n
    induction n with
    | zero => intro x0 r h; omega
    | succ n ih =>
      intro x0 r hn h
      refine f23_ok (rec := fun x0' => if tree_SizeS_mu x0' < tree_SizeS_mu x0 then tree_SizeS x0' else none) ?_ x0 r (tree_SizeS_body x0 r h)
      intro x0' r' h'
      by_cases hm : tree_SizeS_mu x0' < tree_SizeS_mu x0
      · rw [if_pos hm] at h'; exact ih x0' r' (by omega) h'
      · rw [if_neg hm] at h'; cases h'
  intro x0 r h
  exact key _ x0 r (Nat.lt_succ_self _) h
theorem tree_Size_call {b1 b2 : Bool} {H : List Ob} {x0 : Node} {r : Int} (h : tree_SizeS x0 = some r) : callD (callW Try.prog A0) A0 H 23 [.p (.agg [.v (.int .i64 x0.Kind), .v (.string x0.Text), .lst b1 x0.Gaps.length (encL en_str x0.Gaps), .lst b2 x0.Kids.length (encL en_Node x0.Kids)])] = some (.p (.v (.int .i64 r)), none) :=
  callD_fun (args := [.agg [.v (.int .i64 x0.Kind), .v (.string x0.Text), .lst b1 x0.Gaps.length (encL en_str x0.Gaps), .lst b2 x0.Kids.length (encL en_Node x0.Kids)]]) rfl rfl rfl (by simp only [List.map_cons, List.map_nil, wk, wks, wkL]; exact f23_spec x0 _ h)
theorem f24_ok  (x0 : Int) (x1 : Int) (x2 : Int) (r : Bool) (h : similar_below x0 x1 x2 = some r) : callW Try.prog A0 24 [iv x0, iv x1, iv x2] [] = some (.p (.v (.bool r)), []) := by
 refine call_ofH (fn := Try.f24) (c := bodyOf Try.f24) rfl rfl (by kernel_rfl) (by kernel_rfl) ?_
 rw [show initS Try.f24 [iv x0, iv x1, iv x2] [] = ⟨iv x0 :: iv x1 :: iv x2 :: List.replicate 14 undefD, [], 0⟩ from by kernel_rfl]
 unfold similar_below at h
 unfold bodyOf Try.f24; simp only [Option.getD_some, loopsOf, List.append_nil, List.nil_append, List.cons_append, List.getD_cons_zero, List.getD_cons_succ]
 simp only [List.replicate]
 by_cases h1 : x1 < x0
 ·rw [if_pos h1] at h
  have h1' : decide (x1 < x0) = true := decide_eq_true h1
  obtain rfl := Option.some.inj h
  simp (maxSteps := 10000000) (implicitDefEqProofs := false) (disch := first | assumption | omega | exact rfl) only [bs, rs24, Nat.reduceAdd, ↓reduceIte, ↓h1']
  refine ⟨by first | exact .inl trivial | exact .inr trivial | simp, ?_⟩
  exact finish_is (ds := [bv (decide (x0 < (w64 (x1 + x2))))]) (x := .v (.bool (decide (x0 < (w64 (x1 + x2)))))) (y := .v (.bool (decide (x0 < (w64 (x1 + x2)))))) (l := []) rfl rfl rfl rfl (by first | rfl | (simp only [wk, wks, wkL]; first | done | rfl))
 ·rw [if_neg h1] at h
  have h1' : decide (x1 < x0) = false := decide_eq_false h1
  obtain rfl := Option.some.inj h
  simp (maxSteps := 10000000) (implicitDefEqProofs := false) (disch := first | assumption | omega | exact rfl) only [bs, rs24, Nat.reduceAdd, ↓reduceIte, ↓h1']
  refine ⟨by first | exact .inl trivial | exact .inr trivial | simp, ?_⟩
  exact finish_is (ds := [bv false]) (x := .v (.bool false)) (y := .v (.bool false)) (l := []) rfl rfl rfl rfl (by first | rfl | (simp only [wk, wks, wkL]; first | done | rfl))
theorem similar_below_call {H : List Ob} {x0 : Int} {x1 : Int} {x2 : Int} {r : Bool} (h : similar_below x0 x1 x2 = some r) : callD (callW Try.prog A0) A0 H 24 [iv x0, iv x1, iv x2] = some (.p (.v (.bool r)), none) :=
  callD_fun (args := [.v (.int .i64 x0), .v (.int .i64 x1), .v (.int .i64 x2)]) rfl rfl rfl (by simp only [List.map_cons, List.map_nil, wk, wks, wkL]; exact f24_ok x0 x1 x2 _ h)
def ls10 := And.intro @al_25 (And.intro @al_39 (And.intro @ex_2_0 (And.intro @ex_2_1 (And.intro @faP_39_0 (And.intro @faP_39_1 (And.intro @idxL_26 (And.intro @sa_2_0_2 (And.intro @sa_4_0_4 (And.intro @varld_2_0_0 (And.intro @varld_2_0_1 (@varlv_4_0_4)))))))))))
noncomputable def L10_0 : Code := (loopsOf (bodyOf Try.f10)).getD 0 .skip
def g10_0 : List Ghost := [.weak [43], .keep [3, 4, 16, 17, 18, 43, 44, 45]]
def F10_0 (s3 : Int) (s4 : Int) (s16 : Int) (s17 : Int) (s43 : (List Pair)) (s44 : Int) : (Int × Int) → St := fun (s18, s45) => ⟨[.junk, .junk, .junk, iv s3, iv s4, .junk, .junk, .junk, .junk, .junk, .junk, .junk, .junk, .junk, .junk, .junk, iv s16, iv s17, iv s18, .junk, .junk, .junk, .junk, .junk, .junk, .junk, .junk, .junk, .junk, .junk, .junk, .junk, .junk, .junk, .junk, .junk, .junk, .junk, .junk, .junk, .junk, .junk, .junk, .p (.lst false s43.length (encL en_Pair s43)), iv s44, iv s45, .junk, .junk, .junk, .junk, .junk, .junk, .junk, .junk, .junk, .junk, .junk, .junk, .junk, .junk, .junk, .junk, .junk, .junk, .junk, .junk, .junk, .junk, .junk], [], 0⟩
theorem L10_0_ok (s3 : Int) (s4 : Int) (s16 : Int) (s17 : Int) (s43 : (List Pair)) (s44 : Int) : ∀ s st o, ghostsD g10_0 st = some (F10_0 s3 s4 s16 s17 s43 s44 s) → iter (similar_Score_L0 s3 s4 s16 s17 s43 s44) s = some o →
    Wp (evW Try.prog A0 10 (.loop L10_0) st) (OutQ (F10_0 s3 s4 s16 s17 s43 s44) g10_0 (fun n s st => n = 0 ∧ ghostsD [.keep [3, 4, 16, 17, 18, 43, 44, 45]] st = some (F10_0 s3 s4 s16 s17 s43 s44 s)) (fun r st => finishD Try.prog A0 10 Try.f10 st = some (.p (.tup [.v (.int .i64 r.1), .v (.int .i64 r.2)]), [])) o) := by
 refine Wp.iter ?_
 intro s st o hg h
 obtain ⟨s18, s45⟩ := s
 unfold similar_Score_L0 at h
 unfold g10_0 F10_0 at hg ⊢
 (try simp only [] at h hg)
 unfold L10_0 bodyOf Try.f10; simp only [Option.getD_some, loopsOf, List.append_nil, List.nil_append, List.cons_append, List.getD_cons_zero, List.getD_cons_succ]
 by_cases h15 : s45 < s44
 ·rw [if_pos h15] at h
  have h15' : decide (s45 < s44) = true := decide_eq_true h15
  obtain ⟨v16, h17, h⟩ := Option.bind_eq_some_iff.1 h
  obtain ⟨h17a, h17b, _⟩ := rd_some h17
  have h18 := lk_frz_39 h17
  obtain ⟨r19, h20, h⟩ := Option.bind_eq_some_iff.1 h
  have h21 : ∀ H, callD (callW Try.prog A0) A0 H 24 [iv v16.Old, iv s3, iv s16] = some (.p (.v (.bool r19)), none) := fun H => similar_below_call h20
  by_cases h22 : r19 = true
  ·rw [if_pos h22] at h
   obtain ⟨r23, h24, h⟩ := Option.bind_eq_some_iff.1 h
   have h25 : ∀ H, callD (callW Try.prog A0) A0 H 24 [iv v16.New, iv s4, iv s17] = some (.p (.v (.bool r23)), none) := fun H => similar_below_call h24
   by_cases h26 : r23 = true
   ·rw [if_pos h26] at h
    obtain rfl := Option.some.inj h
    simp (maxSteps := 10000000) (implicitDefEqProofs := false) (disch := first | assumption | omega | exact rfl) only [bs, rs10, ls10, Nat.reduceAdd, ↓reduceIte, lenD_lst u26, loadD_iagg a39 z39, loadD_pagg a25 z25, loadD_ptr a3, storeD_agg z25, storeD_agg z39, hg, ↓h15', h18, h21, h22, h25, h26]
    exact ⟨rfl, by kernel_rfl⟩
   ·rw [if_neg h26] at h
    replace h26 := Bool.eq_false_iff.2 h26
    obtain rfl := Option.some.inj h
    simp (maxSteps := 10000000) (implicitDefEqProofs := false) (disch := first | assumption | omega | exact rfl) only [bs, rs10, ls10, Nat.reduceAdd, ↓reduceIte, lenD_lst u26, loadD_iagg a39 z39, loadD_pagg a25 z25, loadD_ptr a3, storeD_agg z25, storeD_agg z39, hg, ↓h15', h18, h21, h22, h25, h26]
    exact ⟨rfl, by kernel_rfl⟩
  ·rw [if_neg h22] at h
   replace h22 := Bool.eq_false_iff.2 h22
   obtain rfl := Option.some.inj h
   simp (maxSteps := 10000000) (implicitDefEqProofs := false) (disch := first | assumption | omega | exact rfl) only [bs, rs10, ls10, Nat.reduceAdd, ↓reduceIte, lenD_lst u26, loadD_iagg a39 z39, loadD_pagg a25 z25, loadD_ptr a3, storeD_agg z25, storeD_agg z39, hg, ↓h15', h18, h21, h22]
   exact ⟨rfl, by kernel_rfl⟩
 ·rw [if_neg h15] at h
  have h15' : decide (s45 < s44) = false := decide_eq_false h15
  obtain rfl := Option.some.inj h
  simp (maxSteps := 10000000) (implicitDefEqProofs := false) (disch := first | assumption | omega | exact rfl) only [bs, rs10, ls10, Nat.reduceAdd, ↓reduceIte, lenD_lst u26, loadD_iagg a39 z39, loadD_pagg a25 z25, loadD_ptr a3, storeD_agg z25, storeD_agg z39, hg, ↓h15']
  exact ⟨rfl, rfl, by kernel_rfl⟩
theorem f10_ok  (x0 : Node) (x1 : Node) (x2 : (List Pair)) (x3 : Int) (x4 : Int) (r : (Int × Int)) (h : similar_Score x0 x1 x2 x3 x4 = some r) : callW Try.prog A0 10 [.p (.agg [.v (.int .i64 x0.Kind), .v (.string x0.Text), .lst false x0.Gaps.length (encL en_str x0.Gaps), .lst false x0.Kids.length (encL en_Node x0.Kids)]), .p (.agg [.v (.int .i64 x1.Kind), .v (.string x1.Text), .lst false x1.Gaps.length (encL en_str x1.Gaps), .lst false x1.Kids.length (encL en_Node x1.Kids)]), .p (.lst false x2.length (encL en_Pair x2)), iv x3, iv x4] [] = some (.p (.tup [.v (.int .i64 r.1), .v (.int .i64 r.2)]), []) := by
 refine call_ofH (fn := Try.f10) (c := bodyOf Try.f10) rfl rfl (by kernel_rfl) (by kernel_rfl) ?_
 rw [show initS Try.f10 [.p (.agg [.v (.int .i64 x0.Kind), .v (.string x0.Text), .lst false x0.Gaps.length (encL en_str x0.Gaps), .lst false x0.Kids.length (encL en_Node x0.Kids)]), .p (.agg [.v (.int .i64 x1.Kind), .v (.string x1.Text), .lst false x1.Gaps.length (encL en_str x1.Gaps), .lst false x1.Kids.length (encL en_Node x1.Kids)]), .p (.lst false x2.length (encL en_Pair x2)), iv x3, iv x4] [] = ⟨.p (.agg [.v (.int .i64 x0.Kind), .v (.string x0.Text), .lst false x0.Gaps.length (encL en_str x0.Gaps), .lst false x0.Kids.length (encL en_Node x0.Kids)]) :: .p (.agg [.v (.int .i64 x1.Kind), .v (.string x1.Text), .lst false x1.Gaps.length (encL en_str x1.Gaps), .lst false x1.Kids.length (encL en_Node x1.Kids)]) :: .p (.lst false x2.length (encL en_Pair x2)) :: iv x3 :: iv x4 :: List.replicate 64 undefD, [], 0⟩ from by kernel_rfl]
 unfold similar_Score at h
 unfold bodyOf Try.f10; simp only [Option.getD_some, loopsOf, List.append_nil, List.nil_append, List.cons_append, List.getD_cons_zero, List.getD_cons_succ]
 simp only [List.replicate]
 obtain ⟨r1, h2, h⟩ := Option.bind_eq_some_iff.1 h
 have h3 : ∀ H, callD (callW Try.prog A0) A0 H 22 [.p (.agg [.v (.int .i64 x0.Kind), .v (.string x0.Text), .lst false x0.Gaps.length (encL en_str x0.Gaps), .lst false x0.Kids.length (encL en_Node x0.Kids)]), iv x3] = some (.p (.tup [.agg [.v (.int .i64 r1.1.Kind), .v (.string r1.1.Text), .lst false r1.1.Gaps.length (encL en_str r1.1.Gaps), .lst false r1.1.Kids.length (encL en_Node r1.1.Kids)], .v (.bool r1.2)]), none) := fun H => tree_At_call h2
 obtain ⟨r4, h5, h⟩ := Option.bind_eq_some_iff.1 h
 have h6 : ∀ H, callD (callW Try.prog A0) A0 H 22 [.p (.agg [.v (.int .i64 x1.Kind), .v (.string x1.Text), .lst false x1.Gaps.length (encL en_str x1.Gaps), .lst false x1.Kids.length (encL en_Node x1.Kids)]), iv x4] = some (.p (.tup [.agg [.v (.int .i64 r4.1.Kind), .v (.string r4.1.Text), .lst false r4.1.Gaps.length (encL en_str r4.1.Gaps), .lst false r4.1.Kids.length (encL en_Node r4.1.Kids)], .v (.bool r4.2)]), none) := fun H => tree_At_call h5
 by_cases h7 : r1.2 = true
 ·rw [if_pos h7] at h
  by_cases h8 : r4.2 = true
  ·rw [if_pos h8] at h
   obtain ⟨r9, h10, h⟩ := Option.bind_eq_some_iff.1 h
   have h11 : ∀ H, callD (callW Try.prog A0) A0 H 23 [.p (.agg [.v (.int .i64 r1.1.Kind), .v (.string r1.1.Text), .lst false r1.1.Gaps.length (encL en_str r1.1.Gaps), .lst false r1.1.Kids.length (encL en_Node r1.1.Kids)])] = some (.p (.v (.int .i64 r9)), none) := fun H => tree_Size_call h10
   obtain ⟨r12, h13, h⟩ := Option.bind_eq_some_iff.1 h
   have h14 : ∀ H, callD (callW Try.prog A0) A0 H 23 [.p (.agg [.v (.int .i64 r4.1.Kind), .v (.string r4.1.Text), .lst false r4.1.Gaps.length (encL en_str r4.1.Gaps), .lst false r4.1.Kids.length (encL en_Node r4.1.Kids)])] = some (.p (.v (.int .i64 r12)), none) := fun H => tree_Size_call h13
   obtain ⟨o, h27, h⟩ := Option.bind_eq_some_iff.1 h
   simp (maxSteps := 10000000) (implicitDefEqProofs := false) (disch := first | assumption | omega | exact rfl) only [bs, rs10, ls10, Nat.reduceAdd, ↓reduceIte, lenD_lst u26, loadD_iagg a39 z39, loadD_pagg a25 z25, loadD_ptr a3, storeD_agg z25, storeD_agg z39, h3, h6, h7, h8, h11, h14]
   refine Wp.ctx (fun x => seqW _ _ _ _ (blockW _ (x))) (L10_0_ok x3 x4 r9 r12 x2 (x2.length : Int) ((0 : Int), (0 : Int)) _ o (by kernel_rfl) h27) ?_
   intro e st hq
   cases o with
   | next _ => (first | cases h | (simp at h))
   | jmp n_ s_ =>
    obtain ⟨rfl, rfl, hq⟩ := hq
    obtain ⟨s18_28, s45_28⟩ := s_
    unfold F10_0 at hq
    (try simp only [] at h hq)
    obtain rfl := Option.some.inj h
    simp (maxSteps := 10000000) (implicitDefEqProofs := false) (disch := first | assumption | omega | exact rfl) only [bs, rs10, ls10, Nat.reduceAdd, ↓reduceIte, lenD_lst u26, loadD_iagg a39 z39, loadD_pagg a25 z25, loadD_ptr a3, storeD_agg z25, storeD_agg z39, h3, h6, h7, h8, h11, h14, hq]
    refine ⟨by first | exact .inl trivial | exact .inr trivial | simp, ?_⟩
    exact finish_is (ds := [iv s18_28, iv (w64 ((w64 (r9 + r12)) - (2 : Int)))]) (x := .tup [.v (.int .i64 s18_28), .v (.int .i64 (w64 ((w64 (r9 + r12)) - (2 : Int))))]) (y := .tup [.v (.int .i64 s18_28), .v (.int .i64 (w64 ((w64 (r9 + r12)) - (2 : Int))))]) (l := []) rfl rfl rfl rfl (by first | rfl | (simp only [wk, wks, wkL]; first | done | rfl))
   | ret _ => (first | cases h | (simp at h))
  ·rw [if_neg h8] at h
   replace h8 := Bool.eq_false_iff.2 h8
   obtain rfl := Option.some.inj h
   simp (maxSteps := 10000000) (implicitDefEqProofs := false) (disch := first | assumption | omega | exact rfl) only [bs, rs10, ls10, Nat.reduceAdd, ↓reduceIte, lenD_lst u26, loadD_iagg a39 z39, loadD_pagg a25 z25, loadD_ptr a3, storeD_agg z25, storeD_agg z39, h3, h6, h7, h8]
   refine ⟨by first | exact .inl trivial | exact .inr trivial | simp, ?_⟩
   exact finish_is (ds := [iv (0 : Int), iv (0 : Int)]) (x := .tup [.v (.int .i64 (0 : Int)), .v (.int .i64 (0 : Int))]) (y := .tup [.v (.int .i64 (0 : Int)), .v (.int .i64 (0 : Int))]) (l := []) rfl rfl rfl rfl (by first | rfl | (simp only [wk, wks, wkL]; first | done | rfl))
 ·rw [if_neg h7] at h
  replace h7 := Bool.eq_false_iff.2 h7
  obtain rfl := Option.some.inj h
  simp (maxSteps := 10000000) (implicitDefEqProofs := false) (disch := first | assumption | omega | exact rfl) only [bs, rs10, ls10, Nat.reduceAdd, ↓reduceIte, lenD_lst u26, loadD_iagg a39 z39, loadD_pagg a25 z25, loadD_ptr a3, storeD_agg z25, storeD_agg z39, h3, h6, h7]
  refine ⟨by first | exact .inl trivial | exact .inr trivial | simp, ?_⟩
  exact finish_is (ds := [iv (0 : Int), iv (0 : Int)]) (x := .tup [.v (.int .i64 (0 : Int)), .v (.int .i64 (0 : Int))]) (y := .tup [.v (.int .i64 (0 : Int)), .v (.int .i64 (0 : Int))]) (l := []) rfl rfl rfl rfl (by first | rfl | (simp only [wk, wks, wkL]; first | done | rfl))
theorem similar_Score_call {b1 b2 b3 b4 b5 : Bool} {H : List Ob} {x0 : Node} {x1 : Node} {x2 : (List Pair)} {x3 : Int} {x4 : Int} {r : (Int × Int)} (h : similar_Score x0 x1 x2 x3 x4 = some r) : callD (callW Try.prog A0) A0 H 10 [.p (.agg [.v (.int .i64 x0.Kind), .v (.string x0.Text), .lst b1 x0.Gaps.length (encL en_str x0.Gaps), .lst b2 x0.Kids.length (encL en_Node x0.Kids)]), .p (.agg [.v (.int .i64 x1.Kind), .v (.string x1.Text), .lst b3 x1.Gaps.length (encL en_str x1.Gaps), .lst b4 x1.Kids.length (encL en_Node x1.Kids)]), .p (.lst b5 x2.length (encL en_Pair x2)), iv x3, iv x4] = some (.p (.tup [.v (.int .i64 r.1), .v (.int .i64 r.2)]), none) :=
  callD_fun (args := [.agg [.v (.int .i64 x0.Kind), .v (.string x0.Text), .lst b1 x0.Gaps.length (encL en_str x0.Gaps), .lst b2 x0.Kids.length (encL en_Node x0.Kids)], .agg [.v (.int .i64 x1.Kind), .v (.string x1.Text), .lst b3 x1.Gaps.length (encL en_str x1.Gaps), .lst b4 x1.Kids.length (encL en_Node x1.Kids)], .lst b5 x2.length (encL en_Pair x2), .v (.int .i64 x3), .v (.int .i64 x4)]) rfl rfl rfl (by simp only [List.map_cons, List.map_nil, wk, wks, wkL]; exact f10_ok x0 x1 x2 x3 x4 _ h)
theorem similar_Score_callp {x0 : Node} {x1 : Node} {x2 : (List Pair)} {x3 : Int} {x4 : Int} {r : (Int × Int)} (h : similar_Score x0 x1 x2 x3 x4 = some r) : callW Try.prog A0 10 [.p (.agg [.v (.int .i64 x0.Kind), .v (.string x0.Text), .lst false x0.Gaps.length (encL en_str x0.Gaps), .lst false x0.Kids.length (encL en_Node x0.Kids)]), .p (.agg [.v (.int .i64 x1.Kind), .v (.string x1.Text), .lst false x1.Gaps.length (encL en_str x1.Gaps), .lst false x1.Kids.length (encL en_Node x1.Kids)]), .p (.lst false x2.length (encL en_Pair x2)), iv x3, iv x4] [] = some (.p (.tup [.v (.int .i64 r.1), .v (.int .i64 r.2)]), []) := f10_ok x0 x1 x2 x3 x4 _ h
def ls6 := And.intro @ap_26_26 (And.intro @bs_26_1 (And.intro @bu_39_0_1 (And.intro @ex_2_0 (And.intro @ex_2_1 (And.intro @faI_39_0 (And.intro @faI_39_1 (And.intro @idxL_26 (@varlv_4_0_4))))))))
noncomputable def L6_0 : Code := (loopsOf (bodyOf Try.f6)).getD 0 .skip
def g6_0 : List Ghost := [.own 11 2, .weak [2], .keep [2, 3, 4, 5, 6, 11, 12]]
def F6_0 (s2 : (List Pair)) (s3 : Int) (s4 : Int) (w0_0 : Int) (w0_1 : ByteArray) (w0_2 : (List ByteArray)) (w0_3 : (List Node)) (w1_0 : Int) (w1_1 : ByteArray) (w1_2 : (List ByteArray)) (w1_3 : (List Node)) : (Int × (List Pair)) → St := fun (s12, y2) => ⟨[.junk, .junk, .p (.lst false s2.length (encL en_Pair s2)), iv s3, iv s4, .ptr 0 0, .ptr 1 0, .junk, .junk, .junk, .junk, .ref 2 0 y2.length 2, iv s12, .junk, .junk, .junk, .junk, .junk, .junk, .junk, .junk, .junk, .junk, .junk, .junk, .junk, .junk, .junk, .junk, .junk, .junk, .junk, .junk, .junk, .junk, .junk, .junk, .junk, .junk, .junk, .junk, .junk, .junk, .junk, .junk, .junk, .junk, .junk, .junk, .junk, .junk, .junk, .junk, .junk, .junk, .junk, .junk, .junk, .junk, .junk, .junk, .junk, .junk, .junk, .junk, .junk, .junk, .junk, .junk, .junk, .junk, .junk, .junk, .junk, .junk, .junk, .junk, .junk, .junk, .junk], [.var [iv w0_0, .p (.v (.string w0_1)), .p (.lst false w0_2.length (encL en_str w0_2)), .p (.lst false w0_3.length (encL en_Node w0_3))], .var [iv w1_0, .p (.v (.string w1_1)), .p (.lst false w1_2.length (encL en_str w1_2)), .p (.lst false w1_3.length (encL en_Node w1_3))], .arr (encL en_Pair y2)], 0⟩
theorem L6_0_ok (s2 : (List Pair)) (s3 : Int) (s4 : Int) (w0_0 : Int) (w0_1 : ByteArray) (w0_2 : (List ByteArray)) (w0_3 : (List Node)) (w1_0 : Int) (w1_1 : ByteArray) (w1_2 : (List ByteArray)) (w1_3 : (List Node)) : ∀ s st o, ghostsD g6_0 st = some (F6_0 s2 s3 s4 w0_0 w0_1 w0_2 w0_3 w1_0 w1_1 w1_2 w1_3 s) → iter (law22_SimilarTurns_L0 s2 s3 s4 w0_0 w0_1 w0_2 w0_3 w1_0 w1_1 w1_2 w1_3) s = some o →
    Wp (evW Try.prog A0 6 (.loop L6_0) st) (OutQ (F6_0 s2 s3 s4 w0_0 w0_1 w0_2 w0_3 w1_0 w1_1 w1_2 w1_3) g6_0 (fun n s st => n = 0 ∧ ghostsD [.keep [2, 3, 4, 5, 6, 11, 12]] st = some (F6_0 s2 s3 s4 w0_0 w0_1 w0_2 w0_3 w1_0 w1_1 w1_2 w1_3 s)) (fun r st => finishD Try.prog A0 6 Try.f6 st = some (.p (.v (.bool r)), [])) o) := by
 refine Wp.iter ?_
 intro s st o hg h
 obtain ⟨s12, y2⟩ := s
 unfold law22_SimilarTurns_L0 at h
 unfold g6_0 F6_0 at hg ⊢
 (try simp only [] at h hg)
 unfold L6_0 bodyOf Try.f6; simp only [Option.getD_some, loopsOf, List.append_nil, List.nil_append, List.cons_append, List.getD_cons_zero, List.getD_cons_succ]
 by_cases h13 : s12 < (s2.length : Int)
 ·rw [if_pos h13] at h
  have h13' : decide (s12 < (s2.length : Int)) = true := decide_eq_true h13
  obtain ⟨v14, h15, h⟩ := Option.bind_eq_some_iff.1 h
  obtain ⟨h15a, h15b, _⟩ := rd_some h15
  have h16 := ce_39__1 h15
  have h17 := ce_39__0 h15
  by_cases hw_ : (y2.length + 1) * 16 ≤ 140737488355328
  case neg => rw [if_neg hw_] at h; cases h
  rw [if_pos hw_] at h
  have h19 := hw_
  have h18 : ∀ (H : List Ob) (id : Nat), apOb H id 0 y2.length 1 2 2 16 [.v (.int .i64 v14.New), .v (.int .i64 v14.Old)] (some (.arr (encL en_Pair y2))) = some (.ref H.length 0 (y2 ++ [(Pair.mk v14.New v14.Old)]).length 2, H.set id .dead ++ [.arr (encL en_Pair (y2 ++ [(Pair.mk v14.New v14.Old)]))]) := fun H id => ap_enc (y := [(Pair.mk v14.New v14.Old)]) en_Pair_len (by first | rfl | omega) rfl (by first | (simp only [encL_cons, encL_nil, en_Pair_eq, List.cons_append, List.nil_append]; done) | (simp only [encL_cons, encL_nil, en_Pair_eq, List.cons_append, List.nil_append]; rfl) | rfl) (by assumption)
  obtain rfl := Option.some.inj h
  simp (maxSteps := 10000000) (implicitDefEqProofs := false) (disch := first | assumption | omega | exact rfl) only [bs, rs6, ls6, Nat.reduceAdd, ↓reduceIte, lenD_lst u26, loadD_iptr a3, loadD_pagg a25 z25, wks_nil_, hg, ↓h13', h16, h17, h18]
  exact ⟨rfl, by kernel_rfl⟩
 ·rw [if_neg h13] at h
  have h13' : decide (s12 < (s2.length : Int)) = false := decide_eq_false h13
  obtain rfl := Option.some.inj h
  simp (maxSteps := 10000000) (implicitDefEqProofs := false) (disch := first | assumption | omega | exact rfl) only [bs, rs6, ls6, Nat.reduceAdd, ↓reduceIte, lenD_lst u26, loadD_iptr a3, loadD_pagg a25 z25, wks_nil_, hg, ↓h13']
  exact ⟨rfl, rfl, by kernel_rfl⟩
theorem f6_ok  (x0 : Node) (x1 : Node) (x2 : (List Pair)) (x3 : Int) (x4 : Int) (r : Bool) (h : law22_SimilarTurns x0 x1 x2 x3 x4 = some r) : callW Try.prog A0 6 [.p (.agg [.v (.int .i64 x0.Kind), .v (.string x0.Text), .lst false x0.Gaps.length (encL en_str x0.Gaps), .lst false x0.Kids.length (encL en_Node x0.Kids)]), .p (.agg [.v (.int .i64 x1.Kind), .v (.string x1.Text), .lst false x1.Gaps.length (encL en_str x1.Gaps), .lst false x1.Kids.length (encL en_Node x1.Kids)]), .p (.lst false x2.length (encL en_Pair x2)), iv x3, iv x4] [] = some (.p (.v (.bool r)), []) := by
 refine call_ofH (fn := Try.f6) (c := bodyOf Try.f6) rfl rfl (by kernel_rfl) (by kernel_rfl) ?_
 rw [show initS Try.f6 [.p (.agg [.v (.int .i64 x0.Kind), .v (.string x0.Text), .lst false x0.Gaps.length (encL en_str x0.Gaps), .lst false x0.Kids.length (encL en_Node x0.Kids)]), .p (.agg [.v (.int .i64 x1.Kind), .v (.string x1.Text), .lst false x1.Gaps.length (encL en_str x1.Gaps), .lst false x1.Kids.length (encL en_Node x1.Kids)]), .p (.lst false x2.length (encL en_Pair x2)), iv x3, iv x4] [] = ⟨.p (.agg [.v (.int .i64 x0.Kind), .v (.string x0.Text), .lst false x0.Gaps.length (encL en_str x0.Gaps), .lst false x0.Kids.length (encL en_Node x0.Kids)]) :: .p (.agg [.v (.int .i64 x1.Kind), .v (.string x1.Text), .lst false x1.Gaps.length (encL en_str x1.Gaps), .lst false x1.Kids.length (encL en_Node x1.Kids)]) :: .p (.lst false x2.length (encL en_Pair x2)) :: iv x3 :: iv x4 :: List.replicate 75 undefD, [], 0⟩ from by kernel_rfl]
 unfold law22_SimilarTurns at h
 unfold bodyOf Try.f6; simp only [Option.getD_some, loopsOf, List.append_nil, List.nil_append, List.cons_append, List.getD_cons_zero, List.getD_cons_succ]
 simp only [List.replicate]
 obtain ⟨r1, h2, h⟩ := Option.bind_eq_some_iff.1 h
 have h3 : ∀ H, callD (callW Try.prog A0) A0 H 8 [.p (.agg [.v (.int .i64 x0.Kind), .v (.string x0.Text), .lst false x0.Gaps.length (encL en_str x0.Gaps), .lst false x0.Kids.length (encL en_Node x0.Kids)])] = some (.p (.v (.bool r1)), none) := fun H => law22_small_call h2
 by_cases h4 : r1 = true
 ·rw [if_pos h4] at h
  obtain ⟨r5, h6, h⟩ := Option.bind_eq_some_iff.1 h
  have h7 : ∀ H, callD (callW Try.prog A0) A0 H 8 [.p (.agg [.v (.int .i64 x1.Kind), .v (.string x1.Text), .lst false x1.Gaps.length (encL en_str x1.Gaps), .lst false x1.Kids.length (encL en_Node x1.Kids)])] = some (.p (.v (.bool r5)), none) := fun H => law22_small_call h6
  by_cases h8 : r5 = true
  ·rw [if_pos h8] at h
   by_cases h9 : (200 : Int) < (x2.length : Int)
   ·rw [if_pos h9] at h
    have h9' : decide ((200 : Int) < (x2.length : Int)) = true := decide_eq_true h9
    obtain ⟨r10, h11, h⟩ := Option.bind_eq_some_iff.1 h
    have h12 : ∀ H, callD (callW Try.prog A0) A0 H 9 [] = some (.p (.v (.bool r10)), none) := fun H => law22_awake_call h11
    obtain rfl := Option.some.inj h
    simp (maxSteps := 10000000) (implicitDefEqProofs := false) (disch := first | assumption | omega | exact rfl) only [bs, rs6, ls6, Nat.reduceAdd, ↓reduceIte, lenD_lst u26, loadD_iptr a3, loadD_pagg a25 z25, wks_nil_, h3, h4, h7, h8, ↓h9', h12]
    refine ⟨by first | exact .inl trivial | exact .inr trivial | simp, ?_⟩
    exact finish_is (ds := [bv r10]) (x := .v (.bool r10)) (y := .v (.bool r10)) (l := []) rfl rfl rfl rfl (by first | rfl | (simp only [wk, wks, wkL]; first | done | rfl))
   ·rw [if_neg h9] at h
    have h9' : decide ((200 : Int) < (x2.length : Int)) = false := decide_eq_false h9
    obtain ⟨o, h20, h⟩ := Option.bind_eq_some_iff.1 h
    simp (maxSteps := 10000000) (implicitDefEqProofs := false) (disch := first | assumption | omega | exact rfl) only [bs, rs6, ls6, Nat.reduceAdd, ↓reduceIte, lenD_lst u26, loadD_iptr a3, loadD_pagg a25 z25, wks_nil_, h3, h4, h7, h8, ↓h9']
    refine Wp.ctx (fun x => seqW _ _ _ _ (blockW _ (x))) (L6_0_ok x2 x3 x4 x0.Kind x0.Text x0.Gaps x0.Kids x1.Kind x1.Text x1.Gaps x1.Kids ((0 : Int), ([] : List Pair)) _ o (by kernel_rfl) h20) ?_
    intro e st hq
    cases o with
    | next _ => (first | cases h | (simp at h))
    | jmp n_ s_ =>
     obtain ⟨rfl, rfl, hq⟩ := hq
     obtain ⟨s12_21, y2_21⟩ := s_
     unfold F6_0 at hq
     (try simp only [] at h hq)
     obtain ⟨r22, h23, h⟩ := Option.bind_eq_some_iff.1 h
     have h24 : ∀ H, callD (callW Try.prog A0) A0 H 10 [.p (.agg [.v (.int .i64 x0.Kind), .v (.string x0.Text), .lst false x0.Gaps.length (encL en_str x0.Gaps), .lst false x0.Kids.length (encL en_Node x0.Kids)]), .p (.agg [.v (.int .i64 x1.Kind), .v (.string x1.Text), .lst false x1.Gaps.length (encL en_str x1.Gaps), .lst false x1.Kids.length (encL en_Node x1.Kids)]), .p (.lst false x2.length (encL en_Pair x2)), iv x3, iv x4] = some (.p (.tup [.v (.int .i64 r22.1), .v (.int .i64 r22.2)]), none) := fun H => similar_Score_call h23
     obtain ⟨r25, h26, h⟩ := Option.bind_eq_some_iff.1 h
     have h27 : callD (callW Try.prog A0) A0 [.var [iv x0.Kind, .p (.v (.string x0.Text)), .p (.lst false x0.Gaps.length (encL en_str x0.Gaps)), .p (.lst false x0.Kids.length (encL en_Node x0.Kids))], .var [iv x1.Kind, .p (.v (.string x1.Text)), .p (.lst false x1.Gaps.length (encL en_str x1.Gaps)), .p (.lst false x1.Kids.length (encL en_Node x1.Kids))], .arr (encL en_Pair y2_21)] 10 [.p (.agg [.v (.int .i64 x1.Kind), .v (.string x1.Text), .lst false x1.Gaps.length (encL en_str x1.Gaps), .lst false x1.Kids.length (encL en_Node x1.Kids)]), .p (.agg [.v (.int .i64 x0.Kind), .v (.string x0.Text), .lst false x0.Gaps.length (encL en_str x0.Gaps), .lst false x0.Kids.length (encL en_Node x0.Kids)]), .ref 2 0 y2_21.length 2, iv x4, iv x3] = some (.p (.tup [.v (.int .i64 r25.1), .v (.int .i64 r25.2)]), some [.var [iv x0.Kind, .p (.v (.string x0.Text)), .p (.lst false x0.Gaps.length (encL en_str x0.Gaps)), .p (.lst false x0.Kids.length (encL en_Node x0.Kids))], .var [iv x1.Kind, .p (.v (.string x1.Text)), .p (.lst false x1.Gaps.length (encL en_str x1.Gaps)), .p (.lst false x1.Kids.length (encL en_Node x1.Kids))], .frz (encL en_Pair y2_21)]) := (callD_give (args := [.agg [.v (.int .i64 x1.Kind), .v (.string x1.Text), .lst false x1.Gaps.length (encL en_str x1.Gaps), .lst false x1.Kids.length (encL en_Node x1.Kids)], .agg [.v (.int .i64 x0.Kind), .v (.string x0.Text), .lst false x0.Gaps.length (encL en_str x0.Gaps), .lst false x0.Kids.length (encL en_Node x0.Kids)], .lst false y2_21.length (encL en_Pair y2_21), .v (.int .i64 x4), .v (.int .i64 x3)]) (ids := [2]) rfl rfl (by rw [giveD_p]; rw [giveD_p]; rw [giveD_arr (x := y2_21) en_Pair_len rfl (by first | rfl | omega)]; rw [giveD_p]; rw [giveD_p]; rw [giveD_nil]; first | rfl | (simp only [wk, wks, wkL]; rfl)) (similar_Score_callp h26)).trans rfl
     by_cases h28 : r22.1 = r25.1
     ·rw [if_pos h28] at h
      have h28' : decide (r22.1 = r25.1) = true := decide_eq_true h28
      by_cases h29 : r22.2 = r25.2
      ·rw [if_pos h29] at h
       have h29' : decide (r22.2 = r25.2) = true := decide_eq_true h29
       obtain ⟨r30, h31, h⟩ := Option.bind_eq_some_iff.1 h
       have h32 : ∀ H, callD (callW Try.prog A0) A0 H 9 [] = some (.p (.v (.bool r30)), none) := fun H => law22_awake_call h31
       obtain rfl := Option.some.inj h
       simp (maxSteps := 10000000) (implicitDefEqProofs := false) (disch := first | assumption | omega | exact rfl) only [bs, rs6, ls6, Nat.reduceAdd, ↓reduceIte, lenD_lst u26, loadD_iptr a3, loadD_pagg a25 z25, wks_nil_, h3, h4, h7, h8, ↓h9', hq, h24, h27, ↓h28', ↓h29', h32]
       refine ⟨by first | exact .inl trivial | exact .inr trivial | simp, ?_⟩
       exact finish_is (ds := [bv r30]) (x := .v (.bool r30)) (y := .v (.bool r30)) (l := []) rfl rfl rfl rfl (by first | rfl | (simp only [wk, wks, wkL]; first | done | rfl))
      ·rw [if_neg h29] at h
       have h29' : decide (r22.2 = r25.2) = false := decide_eq_false h29
       obtain rfl := Option.some.inj h
       simp (maxSteps := 10000000) (implicitDefEqProofs := false) (disch := first | assumption | omega | exact rfl) only [bs, rs6, ls6, Nat.reduceAdd, ↓reduceIte, lenD_lst u26, loadD_iptr a3, loadD_pagg a25 z25, wks_nil_, h3, h4, h7, h8, ↓h9', hq, h24, h27, ↓h28', ↓h29']
       refine ⟨by first | exact .inl trivial | exact .inr trivial | simp, ?_⟩
       exact finish_is (ds := [bv false]) (x := .v (.bool false)) (y := .v (.bool false)) (l := []) rfl rfl rfl rfl (by first | rfl | (simp only [wk, wks, wkL]; first | done | rfl))
     ·rw [if_neg h28] at h
      have h28' : decide (r22.1 = r25.1) = false := decide_eq_false h28
      obtain rfl := Option.some.inj h
      simp (maxSteps := 10000000) (implicitDefEqProofs := false) (disch := first | assumption | omega | exact rfl) only [bs, rs6, ls6, Nat.reduceAdd, ↓reduceIte, lenD_lst u26, loadD_iptr a3, loadD_pagg a25 z25, wks_nil_, h3, h4, h7, h8, ↓h9', hq, h24, h27, ↓h28']
      refine ⟨by first | exact .inl trivial | exact .inr trivial | simp, ?_⟩
      exact finish_is (ds := [bv false]) (x := .v (.bool false)) (y := .v (.bool false)) (l := []) rfl rfl rfl rfl (by first | rfl | (simp only [wk, wks, wkL]; first | done | rfl))
    | ret _ => (first | cases h | (simp at h))
  ·rw [if_neg h8] at h
   replace h8 := Bool.eq_false_iff.2 h8
   obtain ⟨r33, h34, h⟩ := Option.bind_eq_some_iff.1 h
   have h35 : ∀ H, callD (callW Try.prog A0) A0 H 9 [] = some (.p (.v (.bool r33)), none) := fun H => law22_awake_call h34
   obtain rfl := Option.some.inj h
   simp (maxSteps := 10000000) (implicitDefEqProofs := false) (disch := first | assumption | omega | exact rfl) only [bs, rs6, ls6, Nat.reduceAdd, ↓reduceIte, lenD_lst u26, loadD_iptr a3, loadD_pagg a25 z25, wks_nil_, h3, h4, h7, h8, h35]
   refine ⟨by first | exact .inl trivial | exact .inr trivial | simp, ?_⟩
   exact finish_is (ds := [bv r33]) (x := .v (.bool r33)) (y := .v (.bool r33)) (l := []) rfl rfl rfl rfl (by first | rfl | (simp only [wk, wks, wkL]; first | done | rfl))
 ·rw [if_neg h4] at h
  replace h4 := Bool.eq_false_iff.2 h4
  obtain ⟨r36, h37, h⟩ := Option.bind_eq_some_iff.1 h
  have h38 : ∀ H, callD (callW Try.prog A0) A0 H 9 [] = some (.p (.v (.bool r36)), none) := fun H => law22_awake_call h37
  obtain rfl := Option.some.inj h
  simp (maxSteps := 10000000) (implicitDefEqProofs := false) (disch := first | assumption | omega | exact rfl) only [bs, rs6, ls6, Nat.reduceAdd, ↓reduceIte, lenD_lst u26, loadD_iptr a3, loadD_pagg a25 z25, wks_nil_, h3, h4, h38]
  refine ⟨by first | exact .inl trivial | exact .inr trivial | simp, ?_⟩
  exact finish_is (ds := [bv r36]) (x := .v (.bool r36)) (y := .v (.bool r36)) (l := []) rfl rfl rfl rfl (by first | rfl | (simp only [wk, wks, wkL]; first | done | rfl))
end Xn

