/- A part of the proof: P0. No conditions of its own. -/
import Derived.Test.YtgjhagehbfhioaaL
namespace Xn
open Go Go.Ev Go.Proofs
set_option linter.unusedSimpArgs false
set_option linter.unusedVariables false
set_option linter.defProp false
set_option maxRecDepth 8000
set_option maxHeartbeats 40000000
def ls43 := And.intro @faP_25_3 (And.intro @idxL_23 (@varld_4_0_3))
theorem R06_left_rcall {rec : Node → Int → Int → Option Int} (hrec : ∀ x0 x1 x2 r, rec x0 x1 x2 = some r → callW Try.prog A0 43 [.p (.agg [.v (.int .i64 x0.Kind), .v (.string x0.Text), .lst false x0.Gaps.length (encL en_str x0.Gaps), .lst false x0.Kids.length (encL en_Node x0.Kids)]), iv x1, iv x2] [] = some (.p (.v (.int .i64 r)), [])) {b1 b2 : Bool} {H : List Ob} {x0 : Node} {x1 : Int} {x2 : Int} {r : Int} (h : rec x0 x1 x2 = some r) : callD (callW Try.prog A0) A0 H 43 [.p (.agg [.v (.int .i64 x0.Kind), .v (.string x0.Text), .lst b1 x0.Gaps.length (encL en_str x0.Gaps), .lst b2 x0.Kids.length (encL en_Node x0.Kids)]), iv x1, iv x2] = some (.p (.v (.int .i64 r)), none) :=
  callD_fun (args := [.agg [.v (.int .i64 x0.Kind), .v (.string x0.Text), .lst b1 x0.Gaps.length (encL en_str x0.Gaps), .lst b2 x0.Kids.length (encL en_Node x0.Kids)], .v (.int .i64 x1), .v (.int .i64 x2)]) rfl rfl rfl (by simp only [List.map_cons, List.map_nil, wk, wks, wkL]; exact hrec x0 x1 x2 _ h)
noncomputable def L43_0 : Code := (loopsOf (bodyOf Try.f43)).getD 0 .skip
def g43_0 : List Ghost := [.keep [2, 3, 7, 8]]
def F43_0 (s2 : Int) (w0_0 : Int) (w0_1 : ByteArray) (w0_2 : (List ByteArray)) (w0_3 : (List Node)) : (Int × Int) → St := fun (s7, s8) => ⟨[.junk, .junk, iv s2, .ptr 0 0, .junk, .junk, .junk, iv s7, iv s8, .junk, .junk, .junk, .junk, .junk, .junk, .junk, .junk, .junk, .junk, .junk, .junk, .junk, .junk, .junk, .junk, .junk, .junk, .junk, .junk, .junk, .junk, .junk, .junk, .junk, .junk, .junk, .junk, .junk, .junk, .junk, .junk, .junk, .junk], [.var [iv w0_0, .p (.v (.string w0_1)), .p (.lst false w0_2.length (encL en_str w0_2)), .p (.lst false w0_3.length (encL en_Node w0_3))]], 0⟩
theorem L43_0_ok {rec : Node → Int → Int → Option Int} (hrec : ∀ x0 x1 x2 r, rec x0 x1 x2 = some r → callW Try.prog A0 43 [.p (.agg [.v (.int .i64 x0.Kind), .v (.string x0.Text), .lst false x0.Gaps.length (encL en_str x0.Gaps), .lst false x0.Kids.length (encL en_Node x0.Kids)]), iv x1, iv x2] [] = some (.p (.v (.int .i64 r)), [])) (s2 : Int) (w0_0 : Int) (w0_1 : ByteArray) (w0_2 : (List ByteArray)) (w0_3 : (List Node)) : ∀ s st o, ghostsD g43_0 st = some (F43_0 s2 w0_0 w0_1 w0_2 w0_3 s) → iter (R06_left_L0 rec s2 w0_0 w0_1 w0_2 w0_3) s = some o →
    Wp (evW Try.prog A0 43 (.loop L43_0) st) (OutQ (F43_0 s2 w0_0 w0_1 w0_2 w0_3) g43_0 (fun n s st => n = 0 ∧ ghostsD [.keep [2, 3, 7, 8]] st = some (F43_0 s2 w0_0 w0_1 w0_2 w0_3 s)) (fun r st => finishD Try.prog A0 43 Try.f43 st = some (.p (.v (.int .i64 r)), [])) o) := by
 refine Wp.iter ?_
 intro s st o hg h
 obtain ⟨s7, s8⟩ := s
 unfold R06_left_L0 at h
 unfold g43_0 F43_0 at hg ⊢
 (try simp only [] at h hg)
 unfold L43_0 bodyOf Try.f43; simp only [Option.getD_some, loopsOf, List.append_nil, List.nil_append, List.cons_append, List.getD_cons_zero, List.getD_cons_succ]
 by_cases h4 : s8 < (w0_3.length : Int)
 ·rw [if_pos h4] at h
  have h4' : decide (s8 < (w0_3.length : Int)) = true := decide_eq_true h4
  obtain ⟨v5, h6, h⟩ := Option.bind_eq_some_iff.1 h
  obtain ⟨h6a, h6b, _⟩ := rd_some h6
  have h7 := lk_frz_25 h6
  obtain ⟨r8, h9, h⟩ := Option.bind_eq_some_iff.1 h
  have h10 : ∀ H, callD (callW Try.prog A0) A0 H 43 [.p (.agg [.v (.int .i64 v5.Kind), .v (.string v5.Text), .lst false v5.Gaps.length (encL en_str v5.Gaps), .lst false v5.Kids.length (encL en_Node v5.Kids)]), iv s7, iv (w64 (s2 - (1 : Int)))] = some (.p (.v (.int .i64 r8)), none) := fun H => R06_left_rcall hrec h9
  by_cases h11 : r8 < (0 : Int)
  ·rw [if_pos h11] at h
   have h11' : decide (r8 < (0 : Int)) = true := decide_eq_true h11
   obtain rfl := Option.some.inj h
   simp (maxSteps := 10000000) (implicitDefEqProofs := false) (disch := first | assumption | omega | exact rfl) only [bs, rs43, ls43, Nat.reduceAdd, ↓reduceIte, lenD_lst u23, loadD_iagg a25 z25, loadD_ptr a23, hg, ↓h4', h7, h10, ↓h11']
   refine ⟨rfl, ?_⟩
   exact finish_is (ds := [iv (-1 : Int)]) (x := .v (.int .i64 (-1 : Int))) (y := .v (.int .i64 (-1 : Int))) (l := []) rfl rfl rfl rfl (by first | rfl | (simp only [wk, wks, wkL]; first | done | rfl))
  ·rw [if_neg h11] at h
   have h11' : decide (r8 < (0 : Int)) = false := decide_eq_false h11
   obtain rfl := Option.some.inj h
   simp (maxSteps := 10000000) (implicitDefEqProofs := false) (disch := first | assumption | omega | exact rfl) only [bs, rs43, ls43, Nat.reduceAdd, ↓reduceIte, lenD_lst u23, loadD_iagg a25 z25, loadD_ptr a23, hg, ↓h4', h7, h10, ↓h11']
   exact ⟨rfl, by kernel_rfl⟩
 ·rw [if_neg h4] at h
  have h4' : decide (s8 < (w0_3.length : Int)) = false := decide_eq_false h4
  obtain rfl := Option.some.inj h
  simp (maxSteps := 10000000) (implicitDefEqProofs := false) (disch := first | assumption | omega | exact rfl) only [bs, rs43, ls43, Nat.reduceAdd, ↓reduceIte, lenD_lst u23, loadD_iagg a25 z25, loadD_ptr a23, hg, ↓h4']
  exact ⟨rfl, rfl, by kernel_rfl⟩
theorem f43_ok {rec : Node → Int → Int → Option Int} (hrec : ∀ x0 x1 x2 r, rec x0 x1 x2 = some r → callW Try.prog A0 43 [.p (.agg [.v (.int .i64 x0.Kind), .v (.string x0.Text), .lst false x0.Gaps.length (encL en_str x0.Gaps), .lst false x0.Kids.length (encL en_Node x0.Kids)]), iv x1, iv x2] [] = some (.p (.v (.int .i64 r)), []))  (x0 : Node) (x1 : Int) (x2 : Int) (r : Int) (h : R06_left.body rec x0 x1 x2 = some r) : callW Try.prog A0 43 [.p (.agg [.v (.int .i64 x0.Kind), .v (.string x0.Text), .lst false x0.Gaps.length (encL en_str x0.Gaps), .lst false x0.Kids.length (encL en_Node x0.Kids)]), iv x1, iv x2] [] = some (.p (.v (.int .i64 r)), []) := by
 refine call_ofH (fn := Try.f43) (c := bodyOf Try.f43) rfl (by kernel_rfl) (by kernel_rfl) ?_
 rw [show initS Try.f43 [.p (.agg [.v (.int .i64 x0.Kind), .v (.string x0.Text), .lst false x0.Gaps.length (encL en_str x0.Gaps), .lst false x0.Kids.length (encL en_Node x0.Kids)]), iv x1, iv x2] [] = ⟨.p (.agg [.v (.int .i64 x0.Kind), .v (.string x0.Text), .lst false x0.Gaps.length (encL en_str x0.Gaps), .lst false x0.Kids.length (encL en_Node x0.Kids)]) :: iv x1 :: iv x2 :: List.replicate 40 undefD, [], 0⟩ from by kernel_rfl]
 unfold R06_left.body at h
 unfold bodyOf Try.f43; simp only [Option.getD_some, loopsOf, List.append_nil, List.nil_append, List.cons_append, List.getD_cons_zero, List.getD_cons_succ]
 simp only [List.replicate]
 by_cases h1 : x1 < (1 : Int)
 ·rw [if_pos h1] at h
  have h1' : decide (x1 < (1 : Int)) = true := decide_eq_true h1
  obtain rfl := Option.some.inj h
  simp (maxSteps := 10000000) (implicitDefEqProofs := false) (disch := first | assumption | omega | exact rfl) only [bs, rs43, ls43, Nat.reduceAdd, ↓reduceIte, lenD_lst u23, loadD_iagg a25 z25, loadD_ptr a23, ↓h1']
  refine ⟨by first | exact .inl trivial | exact .inr trivial | simp, ?_⟩
  exact finish_is (ds := [iv (-1 : Int)]) (x := .v (.int .i64 (-1 : Int))) (y := .v (.int .i64 (-1 : Int))) (l := []) rfl rfl rfl rfl (by first | rfl | (simp only [wk, wks, wkL]; first | done | rfl))
 ·rw [if_neg h1] at h
  have h1' : decide (x1 < (1 : Int)) = false := decide_eq_false h1
  by_cases h2 : x2 < (1 : Int)
  ·rw [if_pos h2] at h
   have h2' : decide (x2 < (1 : Int)) = true := decide_eq_true h2
   obtain rfl := Option.some.inj h
   simp (maxSteps := 10000000) (implicitDefEqProofs := false) (disch := first | assumption | omega | exact rfl) only [bs, rs43, ls43, Nat.reduceAdd, ↓reduceIte, lenD_lst u23, loadD_iagg a25 z25, loadD_ptr a23, ↓h1', ↓h2']
   refine ⟨by first | exact .inl trivial | exact .inr trivial | simp, ?_⟩
   exact finish_is (ds := [iv (-1 : Int)]) (x := .v (.int .i64 (-1 : Int))) (y := .v (.int .i64 (-1 : Int))) (l := []) rfl rfl rfl rfl (by first | rfl | (simp only [wk, wks, wkL]; first | done | rfl))
  ·rw [if_neg h2] at h
   have h2' : decide (x2 < (1 : Int)) = false := decide_eq_false h2
   by_cases h3 : x1 < (x0.Kids.length : Int)
   ·rw [if_pos h3] at h
    have h3' : decide (x1 < (x0.Kids.length : Int)) = true := decide_eq_true h3
    obtain rfl := Option.some.inj h
    simp (maxSteps := 10000000) (implicitDefEqProofs := false) (disch := first | assumption | omega | exact rfl) only [bs, rs43, ls43, Nat.reduceAdd, ↓reduceIte, lenD_lst u23, loadD_iagg a25 z25, loadD_ptr a23, ↓h1', ↓h2', ↓h3']
    refine ⟨by first | exact .inl trivial | exact .inr trivial | simp, ?_⟩
    exact finish_is (ds := [iv (-1 : Int)]) (x := .v (.int .i64 (-1 : Int))) (y := .v (.int .i64 (-1 : Int))) (l := []) rfl rfl rfl rfl (by first | rfl | (simp only [wk, wks, wkL]; first | done | rfl))
   ·rw [if_neg h3] at h
    have h3' : decide (x1 < (x0.Kids.length : Int)) = false := decide_eq_false h3
    obtain ⟨o, h12, h⟩ := Option.bind_eq_some_iff.1 h
    simp (maxSteps := 10000000) (implicitDefEqProofs := false) (disch := first | assumption | omega | exact rfl) only [bs, rs43, ls43, Nat.reduceAdd, ↓reduceIte, lenD_lst u23, loadD_iagg a25 z25, loadD_ptr a23, ↓h1', ↓h2', ↓h3']
    refine Wp.ctx (fun x => seqW _ _ _ _ (blockW _ (x))) (L43_0_ok hrec x2 x0.Kind x0.Text x0.Gaps x0.Kids (w64 (x1 - (1 : Int)), (0 : Int)) _ o (by kernel_rfl) h12) ?_
    intro e st hq
    cases o with
    | next _ => (first | cases h | (simp at h))
    | jmp n_ s_ =>
     obtain ⟨rfl, rfl, hq⟩ := hq
     obtain ⟨s7_13, s8_13⟩ := s_
     unfold F43_0 at hq
     (try simp only [] at h hq)
     obtain rfl := Option.some.inj h
     simp (maxSteps := 10000000) (implicitDefEqProofs := false) (disch := first | assumption | omega | exact rfl) only [bs, rs43, ls43, Nat.reduceAdd, ↓reduceIte, lenD_lst u23, loadD_iagg a25 z25, loadD_ptr a23, ↓h1', ↓h2', ↓h3', hq]
     refine ⟨by first | exact .inl trivial | exact .inr trivial | simp, ?_⟩
     exact finish_is (ds := [iv s7_13]) (x := .v (.int .i64 s7_13)) (y := .v (.int .i64 s7_13)) (l := []) rfl rfl rfl rfl (by first | rfl | (simp only [wk, wks, wkL]; first | done | rfl))
    | ret r14 =>
     obtain ⟨rfl, hq⟩ := hq
     obtain rfl := Option.some.inj h
     simp (maxSteps := 10000000) (implicitDefEqProofs := false) (disch := first | assumption | omega | exact rfl) only [bs, rs43, ls43, Nat.reduceAdd, ↓reduceIte, lenD_lst u23, loadD_iagg a25 z25, loadD_ptr a23]
     exact ⟨by first | exact .inl trivial | exact .inr trivial | simp, hq⟩
theorem f43_spec : ∀ (x0 : Node) (x1 : Int) (x2 : Int) r, R06_leftS x0 x1 x2 = some r → callW Try.prog A0 43 [.p (.agg [.v (.int .i64 x0.Kind), .v (.string x0.Text), .lst false x0.Gaps.length (encL en_str x0.Gaps), .lst false x0.Kids.length (encL en_Node x0.Kids)]), iv x1, iv x2] [] = some (.p (.v (.int .i64 r)), []) := by
  have key : ∀ n (x0 : Node) (x1 : Int) (x2 : Int) r, R06_leftS_mu x0 x1 x2 < n → R06_leftS x0 x1 x2 = some r → callW Try.prog A0 43 [.p (.agg [.v (.int .i64 x0.Kind), .v (.string x0.Text), .lst false x0.Gaps.length (encL en_str x0.Gaps), .lst false x0.Kids.length (encL en_Node x0.Kids)]), iv x1, iv x2] [] = some (.p (.v (.int .i64 r)), []) := by
    intro n
    induction n with
    | zero => intro x0 x1 x2 r h; omega
    | succ n ih =>
      intro x0 x1 x2 r hn h
      refine f43_ok (rec := fun x0' x1' x2' => if R06_leftS_mu x0' x1' x2' < R06_leftS_mu x0 x1 x2 then R06_leftS x0' x1' x2' else none) ?_ x0 x1 x2 r (R06_leftS_body x0 x1 x2 r h)
      intro x0' x1' x2' r' h'
      by_cases hm : R06_leftS_mu x0' x1' x2' < R06_leftS_mu x0 x1 x2
      · rw [if_pos hm] at h'; exact ih x0' x1' x2' r' (by omega) h'
      · rw [if_neg hm] at h'; cases h'
  intro x0 x1 x2 r h
  exact key _ x0 x1 x2 r (Nat.lt_succ_self _) h
theorem R06_left_call {b1 b2 : Bool} {H : List Ob} {x0 : Node} {x1 : Int} {x2 : Int} {r : Int} (h : R06_leftS x0 x1 x2 = some r) : callD (callW Try.prog A0) A0 H 43 [.p (.agg [.v (.int .i64 x0.Kind), .v (.string x0.Text), .lst b1 x0.Gaps.length (encL en_str x0.Gaps), .lst b2 x0.Kids.length (encL en_Node x0.Kids)]), iv x1, iv x2] = some (.p (.v (.int .i64 r)), none) :=
  callD_fun (args := [.agg [.v (.int .i64 x0.Kind), .v (.string x0.Text), .lst b1 x0.Gaps.length (encL en_str x0.Gaps), .lst b2 x0.Kids.length (encL en_Node x0.Kids)], .v (.int .i64 x1), .v (.int .i64 x2)]) rfl rfl rfl (by simp only [List.map_cons, List.map_nil, wk, wks, wkL]; exact f43_spec x0 x1 x2 _ h)
def ls25 := @varlv_4_0_4
theorem f25_ok  (x0 : Node) (x1 : Int) (x2 : Int) (r : Bool) (h : R06_Fits x0 x1 x2 = some r) : callW Try.prog A0 25 [.p (.agg [.v (.int .i64 x0.Kind), .v (.string x0.Text), .lst false x0.Gaps.length (encL en_str x0.Gaps), .lst false x0.Kids.length (encL en_Node x0.Kids)]), iv x1, iv x2] [] = some (.p (.v (.bool r)), []) := by
 refine call_ofH (fn := Try.f25) (c := bodyOf Try.f25) rfl (by kernel_rfl) (by kernel_rfl) ?_
 rw [show initS Try.f25 [.p (.agg [.v (.int .i64 x0.Kind), .v (.string x0.Text), .lst false x0.Gaps.length (encL en_str x0.Gaps), .lst false x0.Kids.length (encL en_Node x0.Kids)]), iv x1, iv x2] [] = ⟨.p (.agg [.v (.int .i64 x0.Kind), .v (.string x0.Text), .lst false x0.Gaps.length (encL en_str x0.Gaps), .lst false x0.Kids.length (encL en_Node x0.Kids)]) :: iv x1 :: iv x2 :: List.replicate 9 undefD, [], 0⟩ from by kernel_rfl]
 unfold R06_Fits at h
 unfold bodyOf Try.f25; simp only [Option.getD_some, loopsOf, List.append_nil, List.nil_append, List.cons_append, List.getD_cons_zero, List.getD_cons_succ]
 simp only [List.replicate]
 obtain ⟨r1, h2, h⟩ := Option.bind_eq_some_iff.1 h
 have h3 : ∀ H, callD (callW Try.prog A0) A0 H 43 [.p (.agg [.v (.int .i64 x0.Kind), .v (.string x0.Text), .lst false x0.Gaps.length (encL en_str x0.Gaps), .lst false x0.Kids.length (encL en_Node x0.Kids)]), iv x1, iv x2] = some (.p (.v (.int .i64 r1)), none) := fun H => R06_left_call h2
 obtain rfl := Option.some.inj h
 simp (maxSteps := 10000000) (implicitDefEqProofs := false) (disch := first | assumption | omega | exact rfl) only [bs, rs25, ls25, Nat.reduceAdd, ↓reduceIte, loadD_pagg a25 z25, h3]
 refine ⟨by first | exact .inl trivial | exact .inr trivial | simp, ?_⟩
 exact finish_is (ds := [bv (decide ((0 : Int) ≤ r1))]) (x := .v (.bool (decide ((0 : Int) ≤ r1)))) (y := .v (.bool (decide ((0 : Int) ≤ r1)))) (l := []) rfl rfl rfl rfl (by first | rfl | (simp only [wk, wks, wkL]; first | done | rfl))
theorem R06_Fits_call {b1 b2 : Bool} {H : List Ob} {x0 : Node} {x1 : Int} {x2 : Int} {r : Bool} (h : R06_Fits x0 x1 x2 = some r) : callD (callW Try.prog A0) A0 H 25 [.p (.agg [.v (.int .i64 x0.Kind), .v (.string x0.Text), .lst b1 x0.Gaps.length (encL en_str x0.Gaps), .lst b2 x0.Kids.length (encL en_Node x0.Kids)]), iv x1, iv x2] = some (.p (.v (.bool r)), none) :=
  callD_fun (args := [.agg [.v (.int .i64 x0.Kind), .v (.string x0.Text), .lst b1 x0.Gaps.length (encL en_str x0.Gaps), .lst b2 x0.Kids.length (encL en_Node x0.Kids)], .v (.int .i64 x1), .v (.int .i64 x2)]) rfl rfl rfl (by simp only [List.map_cons, List.map_nil, wk, wks, wkL]; exact f25_ok x0 x1 x2 _ h)
def ls9 := @varlv_4_0_4
theorem f9_ok  (x0 : Node) (r : Bool) (h : law27_small x0 = some r) : callW Try.prog A0 9 [.p (.agg [.v (.int .i64 x0.Kind), .v (.string x0.Text), .lst false x0.Gaps.length (encL en_str x0.Gaps), .lst false x0.Kids.length (encL en_Node x0.Kids)])] [] = some (.p (.v (.bool r)), []) := by
 refine call_ofH (fn := Try.f9) (c := bodyOf Try.f9) rfl (by kernel_rfl) (by kernel_rfl) ?_
 rw [show initS Try.f9 [.p (.agg [.v (.int .i64 x0.Kind), .v (.string x0.Text), .lst false x0.Gaps.length (encL en_str x0.Gaps), .lst false x0.Kids.length (encL en_Node x0.Kids)])] [] = ⟨.p (.agg [.v (.int .i64 x0.Kind), .v (.string x0.Text), .lst false x0.Gaps.length (encL en_str x0.Gaps), .lst false x0.Kids.length (encL en_Node x0.Kids)]) :: List.replicate 4 undefD, [], 0⟩ from by kernel_rfl]
 unfold law27_small at h
 unfold bodyOf Try.f9; simp only [Option.getD_some, loopsOf, List.append_nil, List.nil_append, List.cons_append, List.getD_cons_zero, List.getD_cons_succ]
 simp only [List.replicate]
 obtain ⟨r1, h2, h⟩ := Option.bind_eq_some_iff.1 h
 have h3 : ∀ H, callD (callW Try.prog A0) A0 H 25 [.p (.agg [.v (.int .i64 x0.Kind), .v (.string x0.Text), .lst false x0.Gaps.length (encL en_str x0.Gaps), .lst false x0.Kids.length (encL en_Node x0.Kids)]), iv (60 : Int), iv (30 : Int)] = some (.p (.v (.bool r1)), none) := fun H => R06_Fits_call h2
 obtain rfl := Option.some.inj h
 simp (maxSteps := 10000000) (implicitDefEqProofs := false) (disch := first | assumption | omega | exact rfl) only [bs, rs9, ls9, Nat.reduceAdd, ↓reduceIte, loadD_pagg a25 z25, h3]
 refine ⟨by first | exact .inl trivial | exact .inr trivial | simp, ?_⟩
 exact finish_is (ds := [bv r1]) (x := .v (.bool r1)) (y := .v (.bool r1)) (l := []) rfl rfl rfl rfl (by first | rfl | (simp only [wk, wks, wkL]; first | done | rfl))
theorem law27_small_call {b1 b2 : Bool} {H : List Ob} {x0 : Node} {r : Bool} (h : law27_small x0 = some r) : callD (callW Try.prog A0) A0 H 9 [.p (.agg [.v (.int .i64 x0.Kind), .v (.string x0.Text), .lst b1 x0.Gaps.length (encL en_str x0.Gaps), .lst b2 x0.Kids.length (encL en_Node x0.Kids)])] = some (.p (.v (.bool r)), none) :=
  callD_fun (args := [.agg [.v (.int .i64 x0.Kind), .v (.string x0.Text), .lst b1 x0.Gaps.length (encL en_str x0.Gaps), .lst b2 x0.Kids.length (encL en_Node x0.Kids)]]) rfl rfl rfl (by simp only [List.map_cons, List.map_nil, wk, wks, wkL]; exact f9_ok x0 _ h)
def ls24 := And.intro @faP_25_3 (And.intro @idxL_23 (@varld_4_0_3))
theorem R06_Size_rcall {rec : Node → Option Int} (hrec : ∀ x0 r, rec x0 = some r → callW Try.prog A0 24 [.p (.agg [.v (.int .i64 x0.Kind), .v (.string x0.Text), .lst false x0.Gaps.length (encL en_str x0.Gaps), .lst false x0.Kids.length (encL en_Node x0.Kids)])] [] = some (.p (.v (.int .i64 r)), [])) {b1 b2 : Bool} {H : List Ob} {x0 : Node} {r : Int} (h : rec x0 = some r) : callD (callW Try.prog A0) A0 H 24 [.p (.agg [.v (.int .i64 x0.Kind), .v (.string x0.Text), .lst b1 x0.Gaps.length (encL en_str x0.Gaps), .lst b2 x0.Kids.length (encL en_Node x0.Kids)])] = some (.p (.v (.int .i64 r)), none) :=
  callD_fun (args := [.agg [.v (.int .i64 x0.Kind), .v (.string x0.Text), .lst b1 x0.Gaps.length (encL en_str x0.Gaps), .lst b2 x0.Kids.length (encL en_Node x0.Kids)]]) rfl rfl rfl (by simp only [List.map_cons, List.map_nil, wk, wks, wkL]; exact hrec x0 _ h)
noncomputable def L24_0 : Code := (loopsOf (bodyOf Try.f24)).getD 0 .skip
def g24_0 : List Ghost := [.keep [1, 3, 4]]
def F24_0 (w0_0 : Int) (w0_1 : ByteArray) (w0_2 : (List ByteArray)) (w0_3 : (List Node)) : (Int × Int) → St := fun (s3, s4) => ⟨[.junk, .ptr 0 0, .junk, iv s3, iv s4, .junk, .junk, .junk, .junk, .junk, .junk, .junk, .junk, .junk, .junk, .junk, .junk, .junk, .junk, .junk, .junk], [.var [iv w0_0, .p (.v (.string w0_1)), .p (.lst false w0_2.length (encL en_str w0_2)), .p (.lst false w0_3.length (encL en_Node w0_3))]], 0⟩
theorem L24_0_ok {rec : Node → Option Int} (hrec : ∀ x0 r, rec x0 = some r → callW Try.prog A0 24 [.p (.agg [.v (.int .i64 x0.Kind), .v (.string x0.Text), .lst false x0.Gaps.length (encL en_str x0.Gaps), .lst false x0.Kids.length (encL en_Node x0.Kids)])] [] = some (.p (.v (.int .i64 r)), [])) (w0_0 : Int) (w0_1 : ByteArray) (w0_2 : (List ByteArray)) (w0_3 : (List Node)) : ∀ s st o, ghostsD g24_0 st = some (F24_0 w0_0 w0_1 w0_2 w0_3 s) → iter (R06_Size_L0 rec w0_0 w0_1 w0_2 w0_3) s = some o →
    Wp (evW Try.prog A0 24 (.loop L24_0) st) (OutQ (F24_0 w0_0 w0_1 w0_2 w0_3) g24_0 (fun n s st => n = 0 ∧ ghostsD [.keep [1, 3, 4]] st = some (F24_0 w0_0 w0_1 w0_2 w0_3 s)) (fun r st => finishD Try.prog A0 24 Try.f24 st = some (.p (.v (.int .i64 r)), [])) o) := by
 refine Wp.iter ?_
 intro s st o hg h
 obtain ⟨s3, s4⟩ := s
 unfold R06_Size_L0 at h
 unfold g24_0 F24_0 at hg ⊢
 (try simp only [] at h hg)
 unfold L24_0 bodyOf Try.f24; simp only [Option.getD_some, loopsOf, List.append_nil, List.nil_append, List.cons_append, List.getD_cons_zero, List.getD_cons_succ]
 by_cases h1 : s4 < (w0_3.length : Int)
 ·rw [if_pos h1] at h
  have h1' : decide (s4 < (w0_3.length : Int)) = true := decide_eq_true h1
  obtain ⟨v2, h3, h⟩ := Option.bind_eq_some_iff.1 h
  obtain ⟨h3a, h3b, _⟩ := rd_some h3
  have h4 := lk_frz_25 h3
  obtain ⟨r5, h6, h⟩ := Option.bind_eq_some_iff.1 h
  have h7 : ∀ H, callD (callW Try.prog A0) A0 H 24 [.p (.agg [.v (.int .i64 v2.Kind), .v (.string v2.Text), .lst false v2.Gaps.length (encL en_str v2.Gaps), .lst false v2.Kids.length (encL en_Node v2.Kids)])] = some (.p (.v (.int .i64 r5)), none) := fun H => R06_Size_rcall hrec h6
  obtain rfl := Option.some.inj h
  simp (maxSteps := 10000000) (implicitDefEqProofs := false) (disch := first | assumption | omega | exact rfl) only [bs, rs24, ls24, Nat.reduceAdd, ↓reduceIte, lenD_lst u23, loadD_iagg a25 z25, loadD_ptr a23, hg, ↓h1', h4, h7]
  exact ⟨rfl, by kernel_rfl⟩
 ·rw [if_neg h1] at h
  have h1' : decide (s4 < (w0_3.length : Int)) = false := decide_eq_false h1
  obtain rfl := Option.some.inj h
  simp (maxSteps := 10000000) (implicitDefEqProofs := false) (disch := first | assumption | omega | exact rfl) only [bs, rs24, ls24, Nat.reduceAdd, ↓reduceIte, lenD_lst u23, loadD_iagg a25 z25, loadD_ptr a23, hg, ↓h1']
  exact ⟨rfl, rfl, by kernel_rfl⟩
theorem f24_ok {rec : Node → Option Int} (hrec : ∀ x0 r, rec x0 = some r → callW Try.prog A0 24 [.p (.agg [.v (.int .i64 x0.Kind), .v (.string x0.Text), .lst false x0.Gaps.length (encL en_str x0.Gaps), .lst false x0.Kids.length (encL en_Node x0.Kids)])] [] = some (.p (.v (.int .i64 r)), []))  (x0 : Node) (r : Int) (h : R06_Size.body rec x0 = some r) : callW Try.prog A0 24 [.p (.agg [.v (.int .i64 x0.Kind), .v (.string x0.Text), .lst false x0.Gaps.length (encL en_str x0.Gaps), .lst false x0.Kids.length (encL en_Node x0.Kids)])] [] = some (.p (.v (.int .i64 r)), []) := by
 refine call_ofH (fn := Try.f24) (c := bodyOf Try.f24) rfl (by kernel_rfl) (by kernel_rfl) ?_
 rw [show initS Try.f24 [.p (.agg [.v (.int .i64 x0.Kind), .v (.string x0.Text), .lst false x0.Gaps.length (encL en_str x0.Gaps), .lst false x0.Kids.length (encL en_Node x0.Kids)])] [] = ⟨.p (.agg [.v (.int .i64 x0.Kind), .v (.string x0.Text), .lst false x0.Gaps.length (encL en_str x0.Gaps), .lst false x0.Kids.length (encL en_Node x0.Kids)]) :: List.replicate 20 undefD, [], 0⟩ from by kernel_rfl]
 unfold R06_Size.body at h
 unfold bodyOf Try.f24; simp only [Option.getD_some, loopsOf, List.append_nil, List.nil_append, List.cons_append, List.getD_cons_zero, List.getD_cons_succ]
 simp only [List.replicate]
 obtain ⟨o, h8, h⟩ := Option.bind_eq_some_iff.1 h
 simp (maxSteps := 10000000) (implicitDefEqProofs := false) (disch := first | assumption | omega | exact rfl) only [bs, rs24, ls24, Nat.reduceAdd, ↓reduceIte, lenD_lst u23, loadD_iagg a25 z25, loadD_ptr a23]
 refine Wp.ctx (fun x => seqW _ _ _ _ (blockW _ (x))) (L24_0_ok hrec x0.Kind x0.Text x0.Gaps x0.Kids ((1 : Int), (0 : Int)) _ o (by kernel_rfl) h8) ?_
 intro e st hq
 cases o with
 | next _ => (first | cases h | (simp at h))
 | jmp n_ s_ =>
  obtain ⟨rfl, rfl, hq⟩ := hq
  obtain ⟨s3_9, s4_9⟩ := s_
  unfold F24_0 at hq
  (try simp only [] at h hq)
  obtain rfl := Option.some.inj h
  simp (maxSteps := 10000000) (implicitDefEqProofs := false) (disch := first | assumption | omega | exact rfl) only [bs, rs24, ls24, Nat.reduceAdd, ↓reduceIte, lenD_lst u23, loadD_iagg a25 z25, loadD_ptr a23, hq]
  refine ⟨by first | exact .inl trivial | exact .inr trivial | simp, ?_⟩
  exact finish_is (ds := [iv s3_9]) (x := .v (.int .i64 s3_9)) (y := .v (.int .i64 s3_9)) (l := []) rfl rfl rfl rfl (by first | rfl | (simp only [wk, wks, wkL]; first | done | rfl))
 | ret _ => (first | cases h | (simp at h))
theorem f24_spec : ∀ (x0 : Node) r, R06_SizeS x0 = some r → callW Try.prog A0 24 [.p (.agg [.v (.int .i64 x0.Kind), .v (.string x0.Text), .lst false x0.Gaps.length (encL en_str x0.Gaps), .lst false x0.Kids.length (encL en_Node x0.Kids)])] [] = some (.p (.v (.int .i64 r)), []) := by
  have key : ∀ n (x0 : Node) r, R06_SizeS_mu x0 < n → R06_SizeS x0 = some r → callW Try.prog A0 24 [.p (.agg [.v (.int .i64 x0.Kind), .v (.string x0.Text), .lst false x0.Gaps.length (encL en_str x0.Gaps), .lst false x0.Kids.length (encL en_Node x0.Kids)])] [] = some (.p (.v (.int .i64 r)), []) := by
    intro n
    induction n with
    | zero => intro x0 r h; omega
    | succ n ih =>
      intro x0 r hn h
      refine f24_ok (rec := fun x0' => if R06_SizeS_mu x0' < R06_SizeS_mu x0 then R06_SizeS x0' else none) ?_ x0 r (R06_SizeS_body x0 r h)
      intro x0' r' h'
      by_cases hm : R06_SizeS_mu x0' < R06_SizeS_mu x0
      · rw [if_pos hm] at h'; exact ih x0' r' (by omega) h'
      · rw [if_neg hm] at h'; cases h'
  intro x0 r h
  exact key _ x0 r (Nat.lt_succ_self _) h
theorem R06_Size_call {b1 b2 : Bool} {H : List Ob} {x0 : Node} {r : Int} (h : R06_SizeS x0 = some r) : callD (callW Try.prog A0) A0 H 24 [.p (.agg [.v (.int .i64 x0.Kind), .v (.string x0.Text), .lst b1 x0.Gaps.length (encL en_str x0.Gaps), .lst b2 x0.Kids.length (encL en_Node x0.Kids)])] = some (.p (.v (.int .i64 r)), none) :=
  callD_fun (args := [.agg [.v (.int .i64 x0.Kind), .v (.string x0.Text), .lst b1 x0.Gaps.length (encL en_str x0.Gaps), .lst b2 x0.Kids.length (encL en_Node x0.Kids)]]) rfl rfl rfl (by simp only [List.map_cons, List.map_nil, wk, wks, wkL]; exact f24_spec x0 _ h)
def ls51 := @mk_22
theorem f51_ok  (x0 : (List ByteArray)) (r : (List ByteArray)) (h : tree_texts x0 = some r) : callW Try.prog A0 51 [.p (.lst false x0.length (encL en_str x0))] [] = some (.p (.lst false r.length (encL en_str r)), []) := by
 refine call_ofH (fn := Try.f51) (c := bodyOf Try.f51) rfl (by kernel_rfl) (by kernel_rfl) ?_
 rw [show initS Try.f51 [.p (.lst false x0.length (encL en_str x0))] [] = ⟨.p (.lst false x0.length (encL en_str x0)) :: List.replicate 13 undefD, [], 0⟩ from by kernel_rfl]
 unfold tree_texts at h
 unfold bodyOf Try.f51; simp only [Option.getD_some, loopsOf, List.append_nil, List.nil_append, List.cons_append, List.getD_cons_zero, List.getD_cons_succ]
 simp only [List.replicate]
 by_cases h1 : (x0.length : Int) = (0 : Int)
 ·rw [if_pos h1] at h
  have h1' : decide ((x0.length : Int) = (0 : Int)) = true := decide_eq_true h1
  obtain rfl := Option.some.inj h
  simp (maxSteps := 10000000) (implicitDefEqProofs := false) (disch := first | assumption | omega | exact rfl) only [bs, rs51, ls51, Nat.reduceAdd, ↓reduceIte, lenD_lst u22, ops_copy, ↓h1']
  refine ⟨by first | exact .inl trivial | exact .inr trivial | simp, ?_⟩
  exact finish_is (ds := [.p (.lst true 0 [])]) (x := .lst true 0 []) (y := .lst false ([] : List ByteArray).length (encL en_str ([] : List ByteArray))) (l := []) rfl rfl rfl rfl (by first | rfl | (simp only [wk, wks, wkL]; first | done | rfl))
 ·rw [if_neg h1] at h
  have h1' : decide ((x0.length : Int) = (0 : Int)) = false := decide_eq_false h1
  by_cases hw_ : 0 ≤ (x0.length : Int) ∧ (x0.length : Int) * 16 ≤ 140737488355328
  case neg => rw [if_neg hw_] at h; cases h
  rw [if_pos hw_] at h
  obtain ⟨h2, h3⟩ := hw_
  have h4 := cp_22 (H := [.arr (encL en_str (List.replicate (x0.length : Int).toNat ByteArray.empty))]) (t2 := 22) (id := 0) (n := (List.replicate (x0.length : Int).toNat ByteArray.empty).length) (x := (List.replicate (x0.length : Int).toNat ByteArray.empty)) (y := x0) (full := false) rfl (by first | rfl | omega)
  have h5 : (cpL (List.replicate (x0.length : Int).toNat ByteArray.empty) x0).length = (List.replicate (x0.length : Int).toNat ByteArray.empty).length := cpL_len _ _
  obtain rfl := Option.some.inj h
  simp (maxSteps := 10000000) (implicitDefEqProofs := false) (disch := first | assumption | omega | exact rfl) only [bs, rs51, ls51, Nat.reduceAdd, ↓reduceIte, lenD_lst u22, ops_copy, ↓h1', h4]
  refine ⟨by first | exact .inl trivial | exact .inr trivial | simp, ?_⟩
  exact finish_is (ds := [.ref 0 0 ((List.replicate (x0.length : Int).toNat ByteArray.empty).length) 1]) (x := .lst false (cpL (List.replicate (x0.length : Int).toNat ByteArray.empty) x0).length (encL en_str (cpL (List.replicate (x0.length : Int).toNat ByteArray.empty) x0))) (y := .lst false (cpL (List.replicate (x0.length : Int).toNat ByteArray.empty) x0).length (encL en_str (cpL (List.replicate (x0.length : Int).toNat ByteArray.empty) x0))) (l := [0]) rfl rfl rfl (purify1_enc en_str_len rfl (by first | rfl | omega)) (by first | rfl | (simp only [wk, wks, wkL]; first | done | rfl))
theorem tree_texts_call {b1 : Bool} {H : List Ob} {x0 : (List ByteArray)} {r : (List ByteArray)} (h : tree_texts x0 = some r) : callD (callW Try.prog A0) A0 H 51 [.p (.lst b1 x0.length (encL en_str x0))] = some (.p (.lst false r.length (encL en_str r)), none) :=
  callD_fun (args := [.lst b1 x0.length (encL en_str x0)]) rfl rfl rfl (by simp only [List.map_cons, List.map_nil, wk, wks, wkL]; exact f51_ok x0 _ h)
def ls44 := And.intro @al_25 (And.intro @ap_53_53 (And.intro @bs_53_1 (And.intro @bu_59_0_1_2_3 (And.intro @faP_25_0 (And.intro @faP_25_1 (And.intro @faP_25_2 (And.intro @faP_25_3 (And.intro @faP_59_4 (And.intro @idxL_23 (And.intro @idxR_38 (And.intro @idxR_53 (And.intro @mk_38 (And.intro @sa_4_0_4 (And.intro @varld_4_0_0 (And.intro @varld_4_0_1 (And.intro @varld_4_0_2 (And.intro @varld_4_0_3 (@varlv_4_0_4))))))))))))))))))
theorem tree_list_rcall {rec : (List Row) → Node → Int → Option (List Row)} (hrec : ∀ x0 x1 x2 r, rec x0 x1 x2 = some r → callW Try.prog A0 44 [.ref 0 0 x0.length 5, .p (.agg [.v (.int .i64 x1.Kind), .v (.string x1.Text), .lst false x1.Gaps.length (encL en_str x1.Gaps), .lst false x1.Kids.length (encL en_Node x1.Kids)]), iv x2] [.arr (encL en_Row x0)] = some (.ref 1 0 r.length 5, [.dead, .arr (encL en_Row r)])) {H : List Ob} {id n : Nat} {b1 b2 : Bool} {x0 : (List Row)} {x1 : Node} {x2 : Int} {r : (List Row)} : H[id]? = some (.arr (encL en_Row x0)) → n = x0.length → ∀ (h : rec x0 x1 x2 = some r), callD (callW Try.prog A0) A0 H 44 [.ref id 0 n 5, .p (.agg [.v (.int .i64 x1.Kind), .v (.string x1.Text), .lst b1 x1.Gaps.length (encL en_str x1.Gaps), .lst b2 x1.Kids.length (encL en_Node x1.Kids)]), iv x2] = some (.ref H.length 0 r.length 5, some (H.set id .dead ++ [.arr (encL en_Row r)])) := by
  intro hid hn h; subst hn; exact callD_mut1 (args := [.agg [.v (.int .i64 x1.Kind), .v (.string x1.Text), .lst false x1.Gaps.length (encL en_str x1.Gaps), .lst false x1.Kids.length (encL en_Node x1.Kids)], .v (.int .i64 x2)]) (by simp only [List.map_cons, List.map_nil, wkDv, wk, wks, wkL]) rfl hid (hrec x0 x1 x2 _ h)
noncomputable def L44_0 : Code := (loopsOf (bodyOf Try.f44)).getD 0 .skip
def g44_0 : List Ghost := [.weak [35], .keep [0, 7, 8, 35, 36, 37]]
def F44_0 (s7 : Int) (s35 : (List Node)) (s36 : Int) : (Int × (List Row) × (List Int)) → St := fun (s37, y1, y2) => ⟨[.ref 1 0 y1.length 5, .junk, .junk, .junk, .junk, .junk, .junk, iv s7, .ref 2 0 y2.length 1, .junk, .junk, .junk, .junk, .junk, .junk, .junk, .junk, .junk, .junk, .junk, .junk, .junk, .junk, .junk, .junk, .junk, .junk, .junk, .junk, .junk, .junk, .junk, .junk, .junk, .junk, .p (.lst false s35.length (encL en_Node s35)), iv s36, iv s37, .junk, .junk, .junk, .junk, .junk, .junk, .junk, .junk, .junk, .junk, .junk, .junk, .junk, .junk, .junk, .junk, .junk, .junk, .junk, .junk], [.dead, .arr (encL en_Row y1), .arr (encL en_i64 y2)], 1⟩
theorem L44_0_ok {rec : (List Row) → Node → Int → Option (List Row)} (hrec : ∀ x0 x1 x2 r, rec x0 x1 x2 = some r → callW Try.prog A0 44 [.ref 0 0 x0.length 5, .p (.agg [.v (.int .i64 x1.Kind), .v (.string x1.Text), .lst false x1.Gaps.length (encL en_str x1.Gaps), .lst false x1.Kids.length (encL en_Node x1.Kids)]), iv x2] [.arr (encL en_Row x0)] = some (.ref 1 0 r.length 5, [.dead, .arr (encL en_Row r)])) (s7 : Int) (s35 : (List Node)) (s36 : Int) : ∀ s st o, ghostsD g44_0 st = some (F44_0 s7 s35 s36 s) → iter (tree_list_L0 rec s7 s35 s36) s = some o →
    Wp (evW Try.prog A0 44 (.loop L44_0) st) (OutQ (F44_0 s7 s35 s36) g44_0 (fun n s st => n = 0 ∧ ghostsD [.keep [0, 7, 8, 35, 36, 37]] st = some (F44_0 s7 s35 s36 s)) (fun r st => finishD Try.prog A0 44 Try.f44 st = some (.ref 1 0 r.length 5, [.dead, .arr (encL en_Row r)])) o) := by
 refine Wp.iter ?_
 intro s st o hg h
 obtain ⟨s37, y1, y2⟩ := s
 unfold tree_list_L0 at h
 unfold g44_0 F44_0 at hg ⊢
 (try simp only [] at h hg)
 unfold L44_0 bodyOf Try.f44; simp only [Option.getD_some, loopsOf, List.append_nil, List.nil_append, List.cons_append, List.getD_cons_zero, List.getD_cons_succ]
 by_cases h9 : s37 < s36
 ·rw [if_pos h9] at h
  have h9' : decide (s37 < s36) = true := decide_eq_true h9
  obtain ⟨v10, h11, h⟩ := Option.bind_eq_some_iff.1 h
  obtain ⟨h11a, h11b, _⟩ := rd_some h11
  have h12 := lk_frz_25 h11
  obtain ⟨v13, h14, h⟩ := Option.bind_eq_some_iff.1 h
  obtain ⟨h14a, h14b, _⟩ := rd_some h14
  have h15 : ∀ (H : List Ob) (id : Nat), stdOb H id (s37.toNat * 1) (.p (.v (.int .i64 (y1.length : Int)))) (some (.arr (encL en_i64 y2))) = some (H.set id (.arr (encL en_i64 (y2.set s37.toNat (y1.length : Int))))) := fun H id => std_enc0 en_i64_len h14 (by decide) (by rw [en_i64_eq, en_i64_eq]; rfl)
  have h16 : (y2.set s37.toNat (y1.length : Int)).length = y2.length := List.length_set
  obtain ⟨r17, h18, h⟩ := Option.bind_eq_some_iff.1 h
  have h19 : ∀ H, H[1]? = some (.arr (encL en_Row y1)) → callD (callW Try.prog A0) A0 H 44 [.ref 1 0 y1.length 5, .p (.agg [.v (.int .i64 v10.Kind), .v (.string v10.Text), .lst false v10.Gaps.length (encL en_str v10.Gaps), .lst false v10.Kids.length (encL en_Node v10.Kids)]), iv s7] = some (.ref H.length 0 r17.length 5, some (H.set 1 .dead ++ [.arr (encL en_Row r17)])) := fun H hid => tree_list_rcall hrec (H := H) (id := 1) hid (by first | rfl | omega) h18
  have h19' := h19 [.dead, .arr (encL en_Row y1), .arr (encL en_i64 (y2.set s37.toNat (y1.length : Int))), .var [iv v10.Kind, .p (.v (.string v10.Text)), .p (.lst false v10.Gaps.length (encL en_str v10.Gaps)), .p (.lst false v10.Kids.length (encL en_Node v10.Kids))]] rfl
  obtain rfl := Option.some.inj h
  simp (maxSteps := 10000000) (implicitDefEqProofs := false) (disch := first | assumption | omega | exact rfl) only [bs, rs44, ls44, Nat.reduceAdd, ↓reduceIte, lenD_lst u23, lenD_ref u53, loadD_iagg a25 z25, loadD_pagg a25 z25, loadD_ptr a22, loadD_ptr a23, loadD_ptr a3, loadD_ptr a9, own_ref, storeD_agg z25, storeD_int z3, wksL_en_i64, wksL_en_str, wks_nil_, hg, ↓h9', h12, h15, h19']
  exact ⟨rfl, by simp only [List.length_set, cpL_len]; kernel_rfl⟩
 ·rw [if_neg h9] at h
  have h9' : decide (s37 < s36) = false := decide_eq_false h9
  obtain rfl := Option.some.inj h
  simp (maxSteps := 10000000) (implicitDefEqProofs := false) (disch := first | assumption | omega | exact rfl) only [bs, rs44, ls44, Nat.reduceAdd, ↓reduceIte, lenD_lst u23, lenD_ref u53, loadD_iagg a25 z25, loadD_pagg a25 z25, loadD_ptr a22, loadD_ptr a23, loadD_ptr a3, loadD_ptr a9, own_ref, storeD_agg z25, storeD_int z3, wksL_en_i64, wksL_en_str, wks_nil_, hg, ↓h9']
  exact ⟨rfl, rfl, by kernel_rfl⟩
theorem f44_ok {rec : (List Row) → Node → Int → Option (List Row)} (hrec : ∀ x0 x1 x2 r, rec x0 x1 x2 = some r → callW Try.prog A0 44 [.ref 0 0 x0.length 5, .p (.agg [.v (.int .i64 x1.Kind), .v (.string x1.Text), .lst false x1.Gaps.length (encL en_str x1.Gaps), .lst false x1.Kids.length (encL en_Node x1.Kids)]), iv x2] [.arr (encL en_Row x0)] = some (.ref 1 0 r.length 5, [.dead, .arr (encL en_Row r)]))  (x0 : (List Row)) (x1 : Node) (x2 : Int) (r : (List Row)) (h : tree_list.body rec x0 x1 x2 = some r) : callW Try.prog A0 44 [.ref 0 0 x0.length 5, .p (.agg [.v (.int .i64 x1.Kind), .v (.string x1.Text), .lst false x1.Gaps.length (encL en_str x1.Gaps), .lst false x1.Kids.length (encL en_Node x1.Kids)]), iv x2] [.arr (encL en_Row x0)] = some (.ref 1 0 r.length 5, [.dead, .arr (encL en_Row r)]) := by
 refine call_ofH (fn := Try.f44) (c := bodyOf Try.f44) rfl (by kernel_rfl) (by kernel_rfl) ?_
 rw [show initS Try.f44 [.ref 0 0 x0.length 5, .p (.agg [.v (.int .i64 x1.Kind), .v (.string x1.Text), .lst false x1.Gaps.length (encL en_str x1.Gaps), .lst false x1.Kids.length (encL en_Node x1.Kids)]), iv x2] [.arr (encL en_Row x0)] = ⟨.ref 0 0 x0.length 5 :: .p (.agg [.v (.int .i64 x1.Kind), .v (.string x1.Text), .lst false x1.Gaps.length (encL en_str x1.Gaps), .lst false x1.Kids.length (encL en_Node x1.Kids)]) :: iv x2 :: List.replicate 55 undefD, [.arr (encL en_Row x0)], 1⟩ from by kernel_rfl]
 unfold tree_list.body at h
 unfold bodyOf Try.f44; simp only [Option.getD_some, loopsOf, List.append_nil, List.nil_append, List.cons_append, List.getD_cons_zero, List.getD_cons_succ]
 simp only [List.replicate]
 obtain ⟨r1, h2, h⟩ := Option.bind_eq_some_iff.1 h
 have h3 : ∀ H, callD (callW Try.prog A0) A0 H 51 [.p (.lst false x1.Gaps.length (encL en_str x1.Gaps))] = some (.p (.lst false r1.length (encL en_str r1)), none) := fun H => tree_texts_call h2
 by_cases hw_ : (x0.length + 1) * 80 ≤ 140737488355328
 case neg => rw [if_neg hw_] at h; cases h
 rw [if_pos hw_] at h
 have h5 := hw_
 have h4 : ∀ (H : List Ob) (id : Nat), apOb H id 0 x0.length 1 5 5 80 [.v (.int .i64 x2), .v (.int .i64 x1.Kind), .v (.string x1.Text), .lst false r1.length (encL en_str r1), .lst false 0 []] (some (.arr (encL en_Row x0))) = some (.ref H.length 0 (x0 ++ [(Row.mk x2 x1.Kind x1.Text r1 ([] : List Int))]).length 5, H.set id .dead ++ [.arr (encL en_Row (x0 ++ [(Row.mk x2 x1.Kind x1.Text r1 ([] : List Int))]))]) := fun H id => ap_enc (y := [(Row.mk x2 x1.Kind x1.Text r1 ([] : List Int))]) en_Row_len (by first | rfl | omega) rfl (by first | (simp only [encL_cons, encL_nil, en_Row_eq, List.cons_append, List.nil_append]; done) | (simp only [encL_cons, encL_nil, en_Row_eq, List.cons_append, List.nil_append]; rfl) | rfl) (by assumption)
 by_cases h6 : (x1.Kids.length : Int) = (0 : Int)
 ·rw [if_pos h6] at h
  have h6' : decide ((x1.Kids.length : Int) = (0 : Int)) = true := decide_eq_true h6
  obtain rfl := Option.some.inj h
  simp (maxSteps := 10000000) (implicitDefEqProofs := false) (disch := first | assumption | omega | exact rfl) only [bs, rs44, ls44, Nat.reduceAdd, ↓reduceIte, lenD_lst u23, lenD_ref u53, loadD_iagg a25 z25, loadD_pagg a25 z25, loadD_ptr a22, loadD_ptr a23, loadD_ptr a3, loadD_ptr a9, own_ref, storeD_agg z25, storeD_int z3, wksL_en_i64, wksL_en_str, wks_nil_, h3, h4, ↓h6']
  refine ⟨by first | exact .inl trivial | exact .inr trivial | simp, ?_⟩
  show _ = _
  kernel_rfl
 ·rw [if_neg h6] at h
  have h6' : decide ((x1.Kids.length : Int) = (0 : Int)) = false := decide_eq_false h6
  by_cases hw_ : 0 ≤ (x1.Kids.length : Int) ∧ (x1.Kids.length : Int) * 8 ≤ 140737488355328
  case neg => rw [if_neg hw_] at h; cases h
  rw [if_pos hw_] at h
  obtain ⟨h7, h8⟩ := hw_
  obtain ⟨o, h20, h⟩ := Option.bind_eq_some_iff.1 h
  simp (maxSteps := 10000000) (implicitDefEqProofs := false) (disch := first | assumption | omega | exact rfl) only [bs, rs44, ls44, Nat.reduceAdd, ↓reduceIte, lenD_lst u23, lenD_ref u53, loadD_iagg a25 z25, loadD_pagg a25 z25, loadD_ptr a22, loadD_ptr a23, loadD_ptr a3, loadD_ptr a9, own_ref, storeD_agg z25, storeD_int z3, wksL_en_i64, wksL_en_str, wks_nil_, h3, h4, ↓h6']
  refine Wp.ctx (fun x => seqW _ _ _ _ (blockW _ (x))) (L44_0_ok hrec (x0.length : Int) x1.Kids (x1.Kids.length : Int) ((0 : Int), (x0 ++ [(Row.mk x2 x1.Kind x1.Text r1 ([] : List Int))]), (List.replicate (x1.Kids.length : Int).toNat (0 : Int))) _ o (by kernel_rfl) h20) ?_
  intro e st hq
  cases o with
  | next _ => (first | cases h | (simp at h))
  | jmp n_ s_ =>
   obtain ⟨rfl, rfl, hq⟩ := hq
   obtain ⟨s37_21, y1_21, y2_21⟩ := s_
   unfold F44_0 at hq
   (try simp only [] at h hq)
   obtain ⟨v22, h23, h⟩ := Option.bind_eq_some_iff.1 h
   obtain ⟨h23a, h23b, _⟩ := rd_some h23
   have h24 : storeD Try.prog [.dead, .arr (encL en_Row y1_21), .arr (encL en_i64 y2_21)] 38 (.ptr 1 ((x0.length : Int).toNat * 5 + 4)) (.ref 2 0 y2_21.length 1) = some [.dead, .arr (encL en_Row (y1_21.set (x0.length : Int).toNat (Row.mk v22.Parent v22.Kind v22.Text v22.Gaps y2_21))), .frz (encL en_i64 y2_21)] := (storeD_row (v' := (Row.mk v22.Parent v22.Kind v22.Text v22.Gaps y2_21)) (k := 4) z38 en_Row_len en_i64_len rfl rfl rfl (by first | rfl | omega) h23 (by decide) (by rw [en_Row_eq, en_Row_eq]; rfl)).trans rfl
   have h25 : (y1_21.set (x0.length : Int).toNat (Row.mk v22.Parent v22.Kind v22.Text v22.Gaps y2_21)).length = y1_21.length := List.length_set
   obtain rfl := Option.some.inj h
   simp (maxSteps := 10000000) (implicitDefEqProofs := false) (disch := first | assumption | omega | exact rfl) only [bs, rs44, ls44, Nat.reduceAdd, ↓reduceIte, lenD_lst u23, lenD_ref u53, loadD_iagg a25 z25, loadD_pagg a25 z25, loadD_ptr a22, loadD_ptr a23, loadD_ptr a3, loadD_ptr a9, own_ref, storeD_agg z25, storeD_int z3, wksL_en_i64, wksL_en_str, wks_nil_, h3, h4, ↓h6', hq, h24]
   refine ⟨by first | exact .inl trivial | exact .inr trivial | simp, ?_⟩
   show _ = _
   simp only [List.length_set, cpL_len]; kernel_rfl
  | ret _ => (first | cases h | (simp at h))
def ls44n := And.intro @al_25 (And.intro @ap_53_53 (And.intro @bs_53_1 (And.intro @bu_59_0_1_2_3 (And.intro @faP_25_0 (And.intro @faP_25_1 (And.intro @faP_25_2 (And.intro @faP_25_3 (And.intro @faP_59_4 (And.intro @idxL_23 (And.intro @idxR_38 (And.intro @idxR_53 (And.intro @mk_38 (And.intro @sa_4_0_4 (And.intro @varld_4_0_0 (And.intro @varld_4_0_1 (And.intro @varld_4_0_2 (And.intro @varld_4_0_3 (@varlv_4_0_4))))))))))))))))))
def F44n_0 (s7 : Int) (s35 : (List Node)) (s36 : Int) : (Int × (List Row) × (List Int)) → St := fun (s37, y0, y1) => ⟨[.ref 0 0 y0.length 5, .junk, .junk, .junk, .junk, .junk, .junk, iv s7, .ref 1 0 y1.length 1, .junk, .junk, .junk, .junk, .junk, .junk, .junk, .junk, .junk, .junk, .junk, .junk, .junk, .junk, .junk, .junk, .junk, .junk, .junk, .junk, .junk, .junk, .junk, .junk, .junk, .junk, .p (.lst false s35.length (encL en_Node s35)), iv s36, iv s37, .junk, .junk, .junk, .junk, .junk, .junk, .junk, .junk, .junk, .junk, .junk, .junk, .junk, .junk, .junk, .junk, .junk, .junk, .junk, .junk], [.arr (encL en_Row y0), .arr (encL en_i64 y1)], 0⟩
theorem L44n_0_ok {rec : (List Row) → Node → Int → Option (List Row)} (hrec : ∀ x0 x1 x2 r, rec x0 x1 x2 = some r → callW Try.prog A0 44 [.ref 0 0 x0.length 5, .p (.agg [.v (.int .i64 x1.Kind), .v (.string x1.Text), .lst false x1.Gaps.length (encL en_str x1.Gaps), .lst false x1.Kids.length (encL en_Node x1.Kids)]), iv x2] [.arr (encL en_Row x0)] = some (.ref 1 0 r.length 5, [.dead, .arr (encL en_Row r)])) (s7 : Int) (s35 : (List Node)) (s36 : Int) : ∀ s st o, ghostsD g44_0 st = some (F44n_0 s7 s35 s36 s) → iter (tree_list_L0 rec s7 s35 s36) s = some o →
    Wp (evW Try.prog A0 44 (.loop L44_0) st) (OutQ (F44n_0 s7 s35 s36) g44_0 (fun n s st => n = 0 ∧ ghostsD [.keep [0, 7, 8, 35, 36, 37]] st = some (F44n_0 s7 s35 s36 s)) (fun r st => finishD Try.prog A0 44 Try.f44 st = some (.ref 0 0 r.length 5, [.arr (encL en_Row r)])) o) := by
 refine Wp.iter ?_
 intro s st o hg h
 obtain ⟨s37, y0, y1⟩ := s
 unfold tree_list_L0 at h
 unfold g44_0 F44n_0 at hg ⊢
 (try simp only [] at h hg)
 unfold L44_0 bodyOf Try.f44; simp only [Option.getD_some, loopsOf, List.append_nil, List.nil_append, List.cons_append, List.getD_cons_zero, List.getD_cons_succ]
 by_cases h9 : s37 < s36
 ·rw [if_pos h9] at h
  have h9' : decide (s37 < s36) = true := decide_eq_true h9
  obtain ⟨v10, h11, h⟩ := Option.bind_eq_some_iff.1 h
  obtain ⟨h11a, h11b, _⟩ := rd_some h11
  have h12 := lk_frz_25 h11
  obtain ⟨v13, h14, h⟩ := Option.bind_eq_some_iff.1 h
  obtain ⟨h14a, h14b, _⟩ := rd_some h14
  have h15 : ∀ (H : List Ob) (id : Nat), stdOb H id (s37.toNat * 1) (.p (.v (.int .i64 (y0.length : Int)))) (some (.arr (encL en_i64 y1))) = some (H.set id (.arr (encL en_i64 (y1.set s37.toNat (y0.length : Int))))) := fun H id => std_enc0 en_i64_len h14 (by decide) (by rw [en_i64_eq, en_i64_eq]; rfl)
  have h16 : (y1.set s37.toNat (y0.length : Int)).length = y1.length := List.length_set
  obtain ⟨r17, h18, h⟩ := Option.bind_eq_some_iff.1 h
  have h19 : ∀ H, H[0]? = some (.arr (encL en_Row y0)) → callD (callW Try.prog A0) A0 H 44 [.ref 0 0 y0.length 5, .p (.agg [.v (.int .i64 v10.Kind), .v (.string v10.Text), .lst false v10.Gaps.length (encL en_str v10.Gaps), .lst false v10.Kids.length (encL en_Node v10.Kids)]), iv s7] = some (.ref H.length 0 r17.length 5, some (H.set 0 .dead ++ [.arr (encL en_Row r17)])) := fun H hid => tree_list_rcall hrec (H := H) (id := 0) hid (by first | rfl | omega) h18
  have h19' := h19 [.arr (encL en_Row y0), .arr (encL en_i64 (y1.set s37.toNat (y0.length : Int))), .var [iv v10.Kind, .p (.v (.string v10.Text)), .p (.lst false v10.Gaps.length (encL en_str v10.Gaps)), .p (.lst false v10.Kids.length (encL en_Node v10.Kids))]] rfl
  obtain rfl := Option.some.inj h
  simp (maxSteps := 10000000) (implicitDefEqProofs := false) (disch := first | assumption | omega | exact rfl) only [bs, rs44, ls44n, Nat.reduceAdd, ↓reduceIte, lenD_lst u23, lenD_ref u53, loadD_iagg a25 z25, loadD_pagg a25 z25, loadD_ptr a22, loadD_ptr a23, loadD_ptr a3, loadD_ptr a9, own_ref, storeD_agg z25, storeD_int z3, wksL_en_i64, wksL_en_str, wks_nil_, hg, ↓h9', h12, h15, h19']
  exact ⟨rfl, by simp only [List.length_set, cpL_len]; kernel_rfl⟩
 ·rw [if_neg h9] at h
  have h9' : decide (s37 < s36) = false := decide_eq_false h9
  obtain rfl := Option.some.inj h
  simp (maxSteps := 10000000) (implicitDefEqProofs := false) (disch := first | assumption | omega | exact rfl) only [bs, rs44, ls44n, Nat.reduceAdd, ↓reduceIte, lenD_lst u23, lenD_ref u53, loadD_iagg a25 z25, loadD_pagg a25 z25, loadD_ptr a22, loadD_ptr a23, loadD_ptr a3, loadD_ptr a9, own_ref, storeD_agg z25, storeD_int z3, wksL_en_i64, wksL_en_str, wks_nil_, hg, ↓h9']
  exact ⟨rfl, rfl, by kernel_rfl⟩
theorem f44n_ok {rec : (List Row) → Node → Int → Option (List Row)} (hrec : ∀ x0 x1 x2 r, rec x0 x1 x2 = some r → callW Try.prog A0 44 [.ref 0 0 x0.length 5, .p (.agg [.v (.int .i64 x1.Kind), .v (.string x1.Text), .lst false x1.Gaps.length (encL en_str x1.Gaps), .lst false x1.Kids.length (encL en_Node x1.Kids)]), iv x2] [.arr (encL en_Row x0)] = some (.ref 1 0 r.length 5, [.dead, .arr (encL en_Row r)]))  (x0 : (List Row)) (x1 : Node) (x2 : Int) (hx0 : x0 = []) (r : (List Row)) (h : tree_list.body rec x0 x1 x2 = some r) : callW Try.prog A0 44 [.p (.lst true 0 []), .p (.agg [.v (.int .i64 x1.Kind), .v (.string x1.Text), .lst false x1.Gaps.length (encL en_str x1.Gaps), .lst false x1.Kids.length (encL en_Node x1.Kids)]), iv x2] [] = some (.ref 0 0 r.length 5, [.arr (encL en_Row r)]) := by
 refine call_ofH (fn := Try.f44) (c := bodyOf Try.f44) rfl (by kernel_rfl) (by kernel_rfl) ?_
 rw [show initS Try.f44 [.p (.lst true 0 []), .p (.agg [.v (.int .i64 x1.Kind), .v (.string x1.Text), .lst false x1.Gaps.length (encL en_str x1.Gaps), .lst false x1.Kids.length (encL en_Node x1.Kids)]), iv x2] [] = ⟨.p (.lst true 0 []) :: .p (.agg [.v (.int .i64 x1.Kind), .v (.string x1.Text), .lst false x1.Gaps.length (encL en_str x1.Gaps), .lst false x1.Kids.length (encL en_Node x1.Kids)]) :: iv x2 :: List.replicate 55 undefD, [], 0⟩ from by kernel_rfl]
 unfold tree_list.body at h
 unfold bodyOf Try.f44; simp only [Option.getD_some, loopsOf, List.append_nil, List.nil_append, List.cons_append, List.getD_cons_zero, List.getD_cons_succ]
 simp only [List.replicate]
 have hown := own_nil' (en := en_Row) hx0 5
 obtain ⟨r1, h2, h⟩ := Option.bind_eq_some_iff.1 h
 have h3 : ∀ H, callD (callW Try.prog A0) A0 H 51 [.p (.lst false x1.Gaps.length (encL en_str x1.Gaps))] = some (.p (.lst false r1.length (encL en_str r1)), none) := fun H => tree_texts_call h2
 by_cases hw_ : (x0.length + 1) * 80 ≤ 140737488355328
 case neg => rw [if_neg hw_] at h; cases h
 rw [if_pos hw_] at h
 have h5 := hw_
 have h4 : ∀ (H : List Ob) (id : Nat), apOb H id 0 x0.length 1 5 5 80 [.v (.int .i64 x2), .v (.int .i64 x1.Kind), .v (.string x1.Text), .lst false r1.length (encL en_str r1), .lst false 0 []] (some (.arr (encL en_Row x0))) = some (.ref H.length 0 (x0 ++ [(Row.mk x2 x1.Kind x1.Text r1 ([] : List Int))]).length 5, H.set id .dead ++ [.arr (encL en_Row (x0 ++ [(Row.mk x2 x1.Kind x1.Text r1 ([] : List Int))]))]) := fun H id => ap_enc (y := [(Row.mk x2 x1.Kind x1.Text r1 ([] : List Int))]) en_Row_len (by first | rfl | omega) rfl (by first | (simp only [encL_cons, encL_nil, en_Row_eq, List.cons_append, List.nil_append]; done) | (simp only [encL_cons, encL_nil, en_Row_eq, List.cons_append, List.nil_append]; rfl) | rfl) (by assumption)
 by_cases h6 : (x1.Kids.length : Int) = (0 : Int)
 ·rw [if_pos h6] at h
  have h6' : decide ((x1.Kids.length : Int) = (0 : Int)) = true := decide_eq_true h6
  obtain rfl := Option.some.inj h
  simp (maxSteps := 10000000) (implicitDefEqProofs := false) (disch := first | assumption | omega | exact rfl) only [bs, rs44, ls44n, Nat.reduceAdd, ↓reduceIte, lenD_lst u23, lenD_ref u53, loadD_iagg a25 z25, loadD_pagg a25 z25, loadD_ptr a22, loadD_ptr a23, loadD_ptr a3, loadD_ptr a9, own_ref, storeD_agg z25, storeD_int z3, wksL_en_i64, wksL_en_str, wks_nil_, hown, h3, h4, ↓h6']
  refine ⟨by first | exact .inl trivial | exact .inr trivial | simp, ?_⟩
  show _ = _
  kernel_rfl
 ·rw [if_neg h6] at h
  have h6' : decide ((x1.Kids.length : Int) = (0 : Int)) = false := decide_eq_false h6
  by_cases hw_ : 0 ≤ (x1.Kids.length : Int) ∧ (x1.Kids.length : Int) * 8 ≤ 140737488355328
  case neg => rw [if_neg hw_] at h; cases h
  rw [if_pos hw_] at h
  obtain ⟨h7, h8⟩ := hw_
  obtain ⟨o, h20, h⟩ := Option.bind_eq_some_iff.1 h
  simp (maxSteps := 10000000) (implicitDefEqProofs := false) (disch := first | assumption | omega | exact rfl) only [bs, rs44, ls44n, Nat.reduceAdd, ↓reduceIte, lenD_lst u23, lenD_ref u53, loadD_iagg a25 z25, loadD_pagg a25 z25, loadD_ptr a22, loadD_ptr a23, loadD_ptr a3, loadD_ptr a9, own_ref, storeD_agg z25, storeD_int z3, wksL_en_i64, wksL_en_str, wks_nil_, hown, h3, h4, ↓h6']
  refine Wp.ctx (fun x => seqW _ _ _ _ (blockW _ (x))) (L44n_0_ok hrec (x0.length : Int) x1.Kids (x1.Kids.length : Int) ((0 : Int), (x0 ++ [(Row.mk x2 x1.Kind x1.Text r1 ([] : List Int))]), (List.replicate (x1.Kids.length : Int).toNat (0 : Int))) _ o (by kernel_rfl) h20) ?_
  intro e st hq
  cases o with
  | next _ => (first | cases h | (simp at h))
  | jmp n_ s_ =>
   obtain ⟨rfl, rfl, hq⟩ := hq
   obtain ⟨s37_21, y0_21, y1_21⟩ := s_
   unfold F44n_0 at hq
   (try simp only [] at h hq)
   obtain ⟨v22, h23, h⟩ := Option.bind_eq_some_iff.1 h
   obtain ⟨h23a, h23b, _⟩ := rd_some h23
   have h24 : storeD Try.prog [.arr (encL en_Row y0_21), .arr (encL en_i64 y1_21)] 38 (.ptr 0 ((x0.length : Int).toNat * 5 + 4)) (.ref 1 0 y1_21.length 1) = some [.arr (encL en_Row (y0_21.set (x0.length : Int).toNat (Row.mk v22.Parent v22.Kind v22.Text v22.Gaps y1_21))), .frz (encL en_i64 y1_21)] := (storeD_row (v' := (Row.mk v22.Parent v22.Kind v22.Text v22.Gaps y1_21)) (k := 4) z38 en_Row_len en_i64_len rfl rfl rfl (by first | rfl | omega) h23 (by decide) (by rw [en_Row_eq, en_Row_eq]; rfl)).trans rfl
   have h25 : (y0_21.set (x0.length : Int).toNat (Row.mk v22.Parent v22.Kind v22.Text v22.Gaps y1_21)).length = y0_21.length := List.length_set
   obtain rfl := Option.some.inj h
   simp (maxSteps := 10000000) (implicitDefEqProofs := false) (disch := first | assumption | omega | exact rfl) only [bs, rs44, ls44n, Nat.reduceAdd, ↓reduceIte, lenD_lst u23, lenD_ref u53, loadD_iagg a25 z25, loadD_pagg a25 z25, loadD_ptr a22, loadD_ptr a23, loadD_ptr a3, loadD_ptr a9, own_ref, storeD_agg z25, storeD_int z3, wksL_en_i64, wksL_en_str, wks_nil_, hown, h3, h4, ↓h6', hq, h24]
   refine ⟨by first | exact .inl trivial | exact .inr trivial | simp, ?_⟩
   show _ = _
   simp only [List.length_set, cpL_len]; kernel_rfl
  | ret _ => (first | cases h | (simp at h))
theorem f44_spec : ∀ (x0 : (List Row)) (x1 : Node) (x2 : Int) r, tree_listS x0 x1 x2 = some r → callW Try.prog A0 44 [.ref 0 0 x0.length 5, .p (.agg [.v (.int .i64 x1.Kind), .v (.string x1.Text), .lst false x1.Gaps.length (encL en_str x1.Gaps), .lst false x1.Kids.length (encL en_Node x1.Kids)]), iv x2] [.arr (encL en_Row x0)] = some (.ref 1 0 r.length 5, [.dead, .arr (encL en_Row r)]) := by
  have key : ∀ n (x0 : (List Row)) (x1 : Node) (x2 : Int) r, tree_listS_mu x0 x1 x2 < n → tree_listS x0 x1 x2 = some r → callW Try.prog A0 44 [.ref 0 0 x0.length 5, .p (.agg [.v (.int .i64 x1.Kind), .v (.string x1.Text), .lst false x1.Gaps.length (encL en_str x1.Gaps), .lst false x1.Kids.length (encL en_Node x1.Kids)]), iv x2] [.arr (encL en_Row x0)] = some (.ref 1 0 r.length 5, [.dead, .arr (encL en_Row r)]) := by
    intro n
    induction n with
    | zero => intro x0 x1 x2 r h; omega
    | succ n ih =>
      intro x0 x1 x2 r hn h
      refine f44_ok (rec := fun x0' x1' x2' => if tree_listS_mu x0' x1' x2' < tree_listS_mu x0 x1 x2 then tree_listS x0' x1' x2' else none) ?_ x0 x1 x2 r (tree_listS_body x0 x1 x2 r h)
      intro x0' x1' x2' r' h'
      by_cases hm : tree_listS_mu x0' x1' x2' < tree_listS_mu x0 x1 x2
      · rw [if_pos hm] at h'; exact ih x0' x1' x2' r' (by omega) h'
      · rw [if_neg hm] at h'; cases h'
  intro x0 x1 x2 r h
  exact key _ x0 x1 x2 r (Nat.lt_succ_self _) h
theorem f44n_spec (x1 : Node) (x2 : Int) r (h : tree_listS ([] : List Row) x1 x2 = some r) : callW Try.prog A0 44 [.p (.lst true 0 []), .p (.agg [.v (.int .i64 x1.Kind), .v (.string x1.Text), .lst false x1.Gaps.length (encL en_str x1.Gaps), .lst false x1.Kids.length (encL en_Node x1.Kids)]), iv x2] [] = some (.ref 0 0 r.length 5, [.arr (encL en_Row r)]) := by
  refine f44n_ok (rec := fun x0' x1' x2' => if tree_listS_mu x0' x1' x2' < tree_listS_mu ([] : List Row) x1 x2 then tree_listS x0' x1' x2' else none) ?_ ([] : List Row) x1 x2 rfl r (tree_listS_body ([] : List Row) x1 x2 r h)
  intro x0' x1' x2' r' h'
  by_cases hm : tree_listS_mu x0' x1' x2' < tree_listS_mu ([] : List Row) x1 x2
  · rw [if_pos hm] at h'; exact f44_spec x0' x1' x2' r' h'
  · rw [if_neg hm] at h'; cases h'
theorem tree_list_calln {b1 b2 : Bool} {H : List Ob} {x1 : Node} {x2 : Int} {r : (List Row)} (h : tree_listS ([] : List Row) x1 x2 = some r) : callD (callW Try.prog A0) A0 H 44 [.p (.lst true 0 []), .p (.agg [.v (.int .i64 x1.Kind), .v (.string x1.Text), .lst b1 x1.Gaps.length (encL en_str x1.Gaps), .lst b2 x1.Kids.length (encL en_Node x1.Kids)]), iv x2] = some (.ref H.length 0 r.length 5, some (H ++ [.arr (encL en_Row r)])) :=
  callD_mut0 (args := [.lst true 0 [], .agg [.v (.int .i64 x1.Kind), .v (.string x1.Text), .lst false x1.Gaps.length (encL en_str x1.Gaps), .lst false x1.Kids.length (encL en_Node x1.Kids)], .v (.int .i64 x2)]) (by simp only [List.map_cons, List.map_nil, wkDv, wk, wks, wkL]) rfl (f44n_spec x1 x2 _ h)
def ls29 := @varlv_4_0_4
theorem f29_ok  (x0 : Node) (r : (List Row)) (h : tree_Rows x0 = some r) : callW Try.prog A0 29 [.p (.agg [.v (.int .i64 x0.Kind), .v (.string x0.Text), .lst false x0.Gaps.length (encL en_str x0.Gaps), .lst false x0.Kids.length (encL en_Node x0.Kids)])] [] = some (.p (.lst false r.length (encL en_Row r)), []) := by
 refine call_ofH (fn := Try.f29) (c := bodyOf Try.f29) rfl (by kernel_rfl) (by kernel_rfl) ?_
 rw [show initS Try.f29 [.p (.agg [.v (.int .i64 x0.Kind), .v (.string x0.Text), .lst false x0.Gaps.length (encL en_str x0.Gaps), .lst false x0.Kids.length (encL en_Node x0.Kids)])] [] = ⟨.p (.agg [.v (.int .i64 x0.Kind), .v (.string x0.Text), .lst false x0.Gaps.length (encL en_str x0.Gaps), .lst false x0.Kids.length (encL en_Node x0.Kids)]) :: List.replicate 4 undefD, [], 0⟩ from by kernel_rfl]
 unfold tree_Rows at h
 unfold bodyOf Try.f29; simp only [Option.getD_some, loopsOf, List.append_nil, List.nil_append, List.cons_append, List.getD_cons_zero, List.getD_cons_succ]
 simp only [List.replicate]
 obtain ⟨r1, h2, h⟩ := Option.bind_eq_some_iff.1 h
 have h3 : ∀ H, callD (callW Try.prog A0) A0 H 44 [.p (.lst true 0 []), .p (.agg [.v (.int .i64 x0.Kind), .v (.string x0.Text), .lst false x0.Gaps.length (encL en_str x0.Gaps), .lst false x0.Kids.length (encL en_Node x0.Kids)]), iv (-1 : Int)] = some (.ref H.length 0 r1.length 5, some (H ++ [.arr (encL en_Row r1)])) := fun H => tree_list_calln (H := H) h2
 obtain rfl := Option.some.inj h
 simp (maxSteps := 10000000) (implicitDefEqProofs := false) (disch := first | assumption | omega | exact rfl) only [bs, rs29, ls29, Nat.reduceAdd, ↓reduceIte, loadD_pagg a25 z25, h3]
 refine ⟨by first | exact .inl trivial | exact .inr trivial | simp, ?_⟩
 exact finish_is (ds := [.ref 1 0 r1.length 5]) (x := .lst false r1.length (encL en_Row r1)) (y := .lst false r1.length (encL en_Row r1)) (l := [1]) rfl rfl rfl (purify1_enc en_Row_len rfl (by first | rfl | omega)) (by first | rfl | (simp only [wk, wks, wkL]; first | done | rfl))
theorem tree_Rows_call {b1 b2 : Bool} {H : List Ob} {x0 : Node} {r : (List Row)} (h : tree_Rows x0 = some r) : callD (callW Try.prog A0) A0 H 29 [.p (.agg [.v (.int .i64 x0.Kind), .v (.string x0.Text), .lst b1 x0.Gaps.length (encL en_str x0.Gaps), .lst b2 x0.Kids.length (encL en_Node x0.Kids)])] = some (.p (.lst false r.length (encL en_Row r)), none) :=
  callD_fun (args := [.agg [.v (.int .i64 x0.Kind), .v (.string x0.Text), .lst b1 x0.Gaps.length (encL en_str x0.Gaps), .lst b2 x0.Kids.length (encL en_Node x0.Kids)]]) rfl rfl rfl (by simp only [List.map_cons, List.map_nil, wk, wks, wkL]; exact f29_ok x0 _ h)
def ls28 := And.intro @al_46 (And.intro @faI_59_1 (And.intro @faP_25_0 (And.intro @faP_46_0 (And.intro @faP_46_1 (And.intro @idxL_26 (And.intro @idxL_53 (And.intro @idxR_70 (And.intro @mk_70 (And.intro @sa_2_0_2 (And.intro @varld_2_0_0 (And.intro @varld_2_0_1 (And.intro @varld_4_0_0 (@varlv_4_0_4)))))))))))))
noncomputable def L28_0 : Code := (loopsOf (bodyOf Try.f28)).getD 0 .skip
def g28_0 : List Ghost := [.weak [7, 8, 20], .keep [3, 4, 7, 8, 9, 10, 20, 21, 22]]
def F28_0 (s7 : (List Row)) (s8 : (List Row)) (s20 : (List Pair)) (s21 : Int) (w0_0 : Int) (w0_1 : ByteArray) (w0_2 : (List ByteArray)) (w0_3 : (List Node)) (w1_0 : Int) (w1_1 : ByteArray) (w1_2 : (List ByteArray)) (w1_3 : (List Node)) : (Int × Int × (List Bool)) → St := fun (s10, s22, y2) => ⟨[.junk, .junk, .junk, .ptr 0 0, .ptr 1 0, .junk, .junk, .p (.lst false s7.length (encL en_Row s7)), .p (.lst false s8.length (encL en_Row s8)), .ref 2 0 y2.length 1, iv s10, .junk, .junk, .junk, .junk, .junk, .junk, .junk, .junk, .junk, .p (.lst false s20.length (encL en_Pair s20)), iv s21, iv s22, .junk, .junk, .junk, .junk, .junk, .junk, .junk, .junk, .junk, .junk, .junk, .junk, .junk, .junk, .junk, .junk, .junk, .junk, .junk, .junk, .junk, .junk, .junk, .junk, .junk, .junk, .junk, .junk, .junk, .junk, .junk, .junk, .junk, .junk, .junk, .junk, .junk, .junk, .junk, .junk, .junk, .junk, .junk, .junk, .junk, .junk, .junk, .junk, .junk, .junk, .junk, .junk, .junk, .junk, .junk, .junk, .junk, .junk, .junk, .junk, .junk, .junk, .junk, .junk, .junk, .junk, .junk, .junk, .junk, .junk, .junk, .junk, .junk], [.var [iv w0_0, .p (.v (.string w0_1)), .p (.lst false w0_2.length (encL en_str w0_2)), .p (.lst false w0_3.length (encL en_Node w0_3))], .var [iv w1_0, .p (.v (.string w1_1)), .p (.lst false w1_2.length (encL en_str w1_2)), .p (.lst false w1_3.length (encL en_Node w1_3))], .arr (encL en_bool y2)], 0⟩
theorem L28_0_ok (s7 : (List Row)) (s8 : (List Row)) (s20 : (List Pair)) (s21 : Int) (w0_0 : Int) (w0_1 : ByteArray) (w0_2 : (List ByteArray)) (w0_3 : (List Node)) (w1_0 : Int) (w1_1 : ByteArray) (w1_2 : (List ByteArray)) (w1_3 : (List Node)) : ∀ s st o, ghostsD g28_0 st = some (F28_0 s7 s8 s20 s21 w0_0 w0_1 w0_2 w0_3 w1_0 w1_1 w1_2 w1_3 s) → iter (match_Check_L0 s7 s8 s20 s21 w0_0 w0_1 w0_2 w0_3 w1_0 w1_1 w1_2 w1_3) s = some o →
    Wp (evW Try.prog A0 28 (.loop L28_0) st) (OutQ (F28_0 s7 s8 s20 s21 w0_0 w0_1 w0_2 w0_3 w1_0 w1_1 w1_2 w1_3) g28_0 (fun n s st => n = 0 ∧ ghostsD [.keep [3, 4, 7, 8, 9, 10, 20, 21, 22]] st = some (F28_0 s7 s8 s20 s21 w0_0 w0_1 w0_2 w0_3 w1_0 w1_1 w1_2 w1_3 s)) (fun r st => finishD Try.prog A0 28 Try.f28 st = some (.p (.v (.int .i64 r)), [])) o) := by
 refine Wp.iter ?_
 intro s st o hg h
 obtain ⟨s10, s22, y2⟩ := s
 unfold match_Check_L0 at h
 unfold g28_0 F28_0 at hg ⊢
 (try simp only [] at h hg)
 unfold L28_0 bodyOf Try.f28; simp only [Option.getD_some, loopsOf, List.append_nil, List.nil_append, List.cons_append, List.getD_cons_zero, List.getD_cons_succ]
 by_cases h9 : s22 < s21
 ·rw [if_pos h9] at h
  have h9' : decide (s22 < s21) = true := decide_eq_true h9
  obtain ⟨v10, h11, h⟩ := Option.bind_eq_some_iff.1 h
  obtain ⟨h11a, h11b, _⟩ := rd_some h11
  have h12 := lk_frz_46 h11
  by_cases h13 : v10.Old ≤ s10
  ·rw [if_pos h13] at h
   have h13' : decide (v10.Old ≤ s10) = true := decide_eq_true h13
   obtain rfl := Option.some.inj h
   simp (maxSteps := 10000000) (implicitDefEqProofs := false) (disch := first | assumption | omega | exact rfl) only [bs, rs28, ls28, Nat.reduceAdd, ↓reduceIte, binD_neq_bool Try.underlying4, lenD_lst u26, lenD_lst u53, loadD_iagg a46 z46, loadD_iptr a3, loadD_pagg a25 z25, loadD_ptr a3, loadD_ptr a4, storeD_agg z46, storeD_bool z4, hg, ↓h9', h12, ↓h13']
   refine ⟨rfl, ?_⟩
   exact finish_is (ds := [iv (15 : Int)]) (x := .v (.int .i64 (15 : Int))) (y := .v (.int .i64 (15 : Int))) (l := []) rfl rfl rfl rfl (by first | rfl | (simp only [wk, wks, wkL]; first | done | rfl))
  ·rw [if_neg h13] at h
   have h13' : decide (v10.Old ≤ s10) = false := decide_eq_false h13
   by_cases h14 : (s7.length : Int) ≤ v10.Old
   ·rw [if_pos h14] at h
    have h14' : decide ((s7.length : Int) ≤ v10.Old) = true := decide_eq_true h14
    obtain rfl := Option.some.inj h
    simp (maxSteps := 10000000) (implicitDefEqProofs := false) (disch := first | assumption | omega | exact rfl) only [bs, rs28, ls28, Nat.reduceAdd, ↓reduceIte, binD_neq_bool Try.underlying4, lenD_lst u26, lenD_lst u53, loadD_iagg a46 z46, loadD_iptr a3, loadD_pagg a25 z25, loadD_ptr a3, loadD_ptr a4, storeD_agg z46, storeD_bool z4, hg, ↓h9', h12, ↓h13', ↓h14']
    refine ⟨rfl, ?_⟩
    exact finish_is (ds := [iv (15 : Int)]) (x := .v (.int .i64 (15 : Int))) (y := .v (.int .i64 (15 : Int))) (l := []) rfl rfl rfl rfl (by first | rfl | (simp only [wk, wks, wkL]; first | done | rfl))
   ·rw [if_neg h14] at h
    have h14' : decide ((s7.length : Int) ≤ v10.Old) = false := decide_eq_false h14
    by_cases h15 : v10.New < (0 : Int)
    ·rw [if_pos h15] at h
     have h15' : decide (v10.New < (0 : Int)) = true := decide_eq_true h15
     obtain rfl := Option.some.inj h
     simp (maxSteps := 10000000) (implicitDefEqProofs := false) (disch := first | assumption | omega | exact rfl) only [bs, rs28, ls28, Nat.reduceAdd, ↓reduceIte, binD_neq_bool Try.underlying4, lenD_lst u26, lenD_lst u53, loadD_iagg a46 z46, loadD_iptr a3, loadD_pagg a25 z25, loadD_ptr a3, loadD_ptr a4, storeD_agg z46, storeD_bool z4, hg, ↓h9', h12, ↓h13', ↓h14', ↓h15']
     refine ⟨rfl, ?_⟩
     exact finish_is (ds := [iv (15 : Int)]) (x := .v (.int .i64 (15 : Int))) (y := .v (.int .i64 (15 : Int))) (l := []) rfl rfl rfl rfl (by first | rfl | (simp only [wk, wks, wkL]; first | done | rfl))
    ·rw [if_neg h15] at h
     have h15' : decide (v10.New < (0 : Int)) = false := decide_eq_false h15
     by_cases h16 : (s8.length : Int) ≤ v10.New
     ·rw [if_pos h16] at h
      have h16' : decide ((s8.length : Int) ≤ v10.New) = true := decide_eq_true h16
      obtain rfl := Option.some.inj h
      simp (maxSteps := 10000000) (implicitDefEqProofs := false) (disch := first | assumption | omega | exact rfl) only [bs, rs28, ls28, Nat.reduceAdd, ↓reduceIte, binD_neq_bool Try.underlying4, lenD_lst u26, lenD_lst u53, loadD_iagg a46 z46, loadD_iptr a3, loadD_pagg a25 z25, loadD_ptr a3, loadD_ptr a4, storeD_agg z46, storeD_bool z4, hg, ↓h9', h12, ↓h13', ↓h14', ↓h15', ↓h16']
      refine ⟨rfl, ?_⟩
      exact finish_is (ds := [iv (15 : Int)]) (x := .v (.int .i64 (15 : Int))) (y := .v (.int .i64 (15 : Int))) (l := []) rfl rfl rfl rfl (by first | rfl | (simp only [wk, wks, wkL]; first | done | rfl))
     ·rw [if_neg h16] at h
      have h16' : decide ((s8.length : Int) ≤ v10.New) = false := decide_eq_false h16
      obtain ⟨v17, h18, h⟩ := Option.bind_eq_some_iff.1 h
      obtain ⟨h18a, h18b, _⟩ := rd_some h18
      have h19 := ce_4_x h18
      by_cases h20 : v17 = true
      ·rw [if_pos h20] at h
       obtain rfl := Option.some.inj h
       simp (maxSteps := 10000000) (implicitDefEqProofs := false) (disch := first | assumption | omega | exact rfl) only [bs, rs28, ls28, Nat.reduceAdd, ↓reduceIte, binD_neq_bool Try.underlying4, lenD_lst u26, lenD_lst u53, loadD_iagg a46 z46, loadD_iptr a3, loadD_pagg a25 z25, loadD_ptr a3, loadD_ptr a4, storeD_agg z46, storeD_bool z4, hg, ↓h9', h12, ↓h13', ↓h14', ↓h15', ↓h16', h19, h20]
       refine ⟨rfl, ?_⟩
       exact finish_is (ds := [iv (15 : Int)]) (x := .v (.int .i64 (15 : Int))) (y := .v (.int .i64 (15 : Int))) (l := []) rfl rfl rfl rfl (by first | rfl | (simp only [wk, wks, wkL]; first | done | rfl))
      ·rw [if_neg h20] at h
       replace h20 := Bool.eq_false_iff.2 h20
       obtain ⟨v21, h22, h⟩ := Option.bind_eq_some_iff.1 h
       obtain ⟨h22a, h22b, _⟩ := rd_some h22
       have h23 := ce_59__1 h22
       obtain ⟨v24, h25, h⟩ := Option.bind_eq_some_iff.1 h
       obtain ⟨h25a, h25b, _⟩ := rd_some h25
       have h26 := ce_59__1 h25
       by_cases h27 : v21.Kind = v24.Kind
       ·rw [if_pos h27] at h
        have h27' : decide (v21.Kind = v24.Kind) = true := decide_eq_true h27
        by_cases h28 : (decide (v10.Old = (0 : Int))) = (decide (v10.New = (0 : Int)))
        ·rw [if_pos h28] at h
         have h28' : decide ((decide (v10.Old = (0 : Int))) = (decide (v10.New = (0 : Int)))) = true := decide_eq_true h28
         have h29 : ∀ (H : List Ob) (id : Nat), stdOb H id (v10.New.toNat * 1) (.p (.v (.bool true))) (some (.arr (encL en_bool y2))) = some (H.set id (.arr (encL en_bool (y2.set v10.New.toNat true)))) := fun H id => std_enc0 en_bool_len h18 (by decide) (by rw [en_bool_eq, en_bool_eq]; rfl)
         have h30 : (y2.set v10.New.toNat true).length = y2.length := List.length_set
         obtain rfl := Option.some.inj h
         simp (maxSteps := 10000000) (implicitDefEqProofs := false) (disch := first | assumption | omega | exact rfl) only [bs, rs28, ls28, Nat.reduceAdd, ↓reduceIte, binD_neq_bool Try.underlying4, lenD_lst u26, lenD_lst u53, loadD_iagg a46 z46, loadD_iptr a3, loadD_pagg a25 z25, loadD_ptr a3, loadD_ptr a4, storeD_agg z46, storeD_bool z4, hg, ↓h9', h12, ↓h13', ↓h14', ↓h15', ↓h16', h19, h20, h23, h26, ↓h27', ↓h28', h29]
         exact ⟨rfl, by simp only [List.length_set, cpL_len]; kernel_rfl⟩
        ·rw [if_neg h28] at h
         have h28' : decide ((decide (v10.Old = (0 : Int))) = (decide (v10.New = (0 : Int)))) = false := decide_eq_false h28
         obtain rfl := Option.some.inj h
         simp (maxSteps := 10000000) (implicitDefEqProofs := false) (disch := first | assumption | omega | exact rfl) only [bs, rs28, ls28, Nat.reduceAdd, ↓reduceIte, binD_neq_bool Try.underlying4, lenD_lst u26, lenD_lst u53, loadD_iagg a46 z46, loadD_iptr a3, loadD_pagg a25 z25, loadD_ptr a3, loadD_ptr a4, storeD_agg z46, storeD_bool z4, hg, ↓h9', h12, ↓h13', ↓h14', ↓h15', ↓h16', h19, h20, h23, h26, ↓h27', ↓h28']
         refine ⟨rfl, ?_⟩
         exact finish_is (ds := [iv (15 : Int)]) (x := .v (.int .i64 (15 : Int))) (y := .v (.int .i64 (15 : Int))) (l := []) rfl rfl rfl rfl (by first | rfl | (simp only [wk, wks, wkL]; first | done | rfl))
       ·rw [if_neg h27] at h
        have h27' : decide (v21.Kind = v24.Kind) = false := decide_eq_false h27
        obtain rfl := Option.some.inj h
        simp (maxSteps := 10000000) (implicitDefEqProofs := false) (disch := first | assumption | omega | exact rfl) only [bs, rs28, ls28, Nat.reduceAdd, ↓reduceIte, binD_neq_bool Try.underlying4, lenD_lst u26, lenD_lst u53, loadD_iagg a46 z46, loadD_iptr a3, loadD_pagg a25 z25, loadD_ptr a3, loadD_ptr a4, storeD_agg z46, storeD_bool z4, hg, ↓h9', h12, ↓h13', ↓h14', ↓h15', ↓h16', h19, h20, h23, h26, ↓h27']
        refine ⟨rfl, ?_⟩
        exact finish_is (ds := [iv (15 : Int)]) (x := .v (.int .i64 (15 : Int))) (y := .v (.int .i64 (15 : Int))) (l := []) rfl rfl rfl rfl (by first | rfl | (simp only [wk, wks, wkL]; first | done | rfl))
 ·rw [if_neg h9] at h
  have h9' : decide (s22 < s21) = false := decide_eq_false h9
  obtain rfl := Option.some.inj h
  simp (maxSteps := 10000000) (implicitDefEqProofs := false) (disch := first | assumption | omega | exact rfl) only [bs, rs28, ls28, Nat.reduceAdd, ↓reduceIte, binD_neq_bool Try.underlying4, lenD_lst u26, lenD_lst u53, loadD_iagg a46 z46, loadD_iptr a3, loadD_pagg a25 z25, loadD_ptr a3, loadD_ptr a4, storeD_agg z46, storeD_bool z4, hg, ↓h9']
  exact ⟨rfl, rfl, by kernel_rfl⟩
theorem f28_ok  (x0 : Node) (x1 : Node) (x2 : (List Pair)) (r : Int) (h : match_Check x0 x1 x2 = some r) : callW Try.prog A0 28 [.p (.agg [.v (.int .i64 x0.Kind), .v (.string x0.Text), .lst false x0.Gaps.length (encL en_str x0.Gaps), .lst false x0.Kids.length (encL en_Node x0.Kids)]), .p (.agg [.v (.int .i64 x1.Kind), .v (.string x1.Text), .lst false x1.Gaps.length (encL en_str x1.Gaps), .lst false x1.Kids.length (encL en_Node x1.Kids)]), .p (.lst false x2.length (encL en_Pair x2))] [] = some (.p (.v (.int .i64 r)), []) := by
 refine call_ofH (fn := Try.f28) (c := bodyOf Try.f28) rfl (by kernel_rfl) (by kernel_rfl) ?_
 rw [show initS Try.f28 [.p (.agg [.v (.int .i64 x0.Kind), .v (.string x0.Text), .lst false x0.Gaps.length (encL en_str x0.Gaps), .lst false x0.Kids.length (encL en_Node x0.Kids)]), .p (.agg [.v (.int .i64 x1.Kind), .v (.string x1.Text), .lst false x1.Gaps.length (encL en_str x1.Gaps), .lst false x1.Kids.length (encL en_Node x1.Kids)]), .p (.lst false x2.length (encL en_Pair x2))] [] = ⟨.p (.agg [.v (.int .i64 x0.Kind), .v (.string x0.Text), .lst false x0.Gaps.length (encL en_str x0.Gaps), .lst false x0.Kids.length (encL en_Node x0.Kids)]) :: .p (.agg [.v (.int .i64 x1.Kind), .v (.string x1.Text), .lst false x1.Gaps.length (encL en_str x1.Gaps), .lst false x1.Kids.length (encL en_Node x1.Kids)]) :: .p (.lst false x2.length (encL en_Pair x2)) :: List.replicate 93 undefD, [], 0⟩ from by kernel_rfl]
 unfold match_Check at h
 unfold bodyOf Try.f28; simp only [Option.getD_some, loopsOf, List.append_nil, List.nil_append, List.cons_append, List.getD_cons_zero, List.getD_cons_succ]
 simp only [List.replicate]
 obtain ⟨r1, h2, h⟩ := Option.bind_eq_some_iff.1 h
 have h3 : ∀ H, callD (callW Try.prog A0) A0 H 29 [.p (.agg [.v (.int .i64 x0.Kind), .v (.string x0.Text), .lst false x0.Gaps.length (encL en_str x0.Gaps), .lst false x0.Kids.length (encL en_Node x0.Kids)])] = some (.p (.lst false r1.length (encL en_Row r1)), none) := fun H => tree_Rows_call h2
 obtain ⟨r4, h5, h⟩ := Option.bind_eq_some_iff.1 h
 have h6 : ∀ H, callD (callW Try.prog A0) A0 H 29 [.p (.agg [.v (.int .i64 x1.Kind), .v (.string x1.Text), .lst false x1.Gaps.length (encL en_str x1.Gaps), .lst false x1.Kids.length (encL en_Node x1.Kids)])] = some (.p (.lst false r4.length (encL en_Row r4)), none) := fun H => tree_Rows_call h5
 by_cases hw_ : 0 ≤ (r4.length : Int) ∧ (r4.length : Int) * 1 ≤ 140737488355328
 case neg => rw [if_neg hw_] at h; cases h
 rw [if_pos hw_] at h
 obtain ⟨h7, h8⟩ := hw_
 obtain ⟨o, h31, h⟩ := Option.bind_eq_some_iff.1 h
 simp (maxSteps := 10000000) (implicitDefEqProofs := false) (disch := first | assumption | omega | exact rfl) only [bs, rs28, ls28, Nat.reduceAdd, ↓reduceIte, binD_neq_bool Try.underlying4, lenD_lst u26, lenD_lst u53, loadD_iagg a46 z46, loadD_iptr a3, loadD_pagg a25 z25, loadD_ptr a3, loadD_ptr a4, storeD_agg z46, storeD_bool z4, h3, h6]
 refine Wp.ctx (fun x => seqW _ _ _ _ (blockW _ (x))) (L28_0_ok r1 r4 x2 (x2.length : Int) x0.Kind x0.Text x0.Gaps x0.Kids x1.Kind x1.Text x1.Gaps x1.Kids ((-1 : Int), (0 : Int), (List.replicate (r4.length : Int).toNat false)) _ o (by kernel_rfl) h31) ?_
 intro e st hq
 cases o with
 | next _ => (first | cases h | (simp at h))
 | jmp n_ s_ =>
  obtain ⟨rfl, rfl, hq⟩ := hq
  obtain ⟨s10_32, s22_32, y2_32⟩ := s_
  unfold F28_0 at hq
  (try simp only [] at h hq)
  by_cases h33 : x0.Kind = x1.Kind
  ·rw [if_pos h33] at h
   have h33' : decide (x0.Kind = x1.Kind) = true := decide_eq_true h33
   obtain ⟨v34, h35, h⟩ := Option.bind_eq_some_iff.1 h
   obtain ⟨h35a, h35b, _⟩ := rd_some h35
   have h36 := ce_4_x h35
   by_cases h37 : v34 = true
   ·rw [if_pos h37] at h
    obtain rfl := Option.some.inj h
    simp (maxSteps := 10000000) (implicitDefEqProofs := false) (disch := first | assumption | omega | exact rfl) only [bs, rs28, ls28, Nat.reduceAdd, ↓reduceIte, binD_neq_bool Try.underlying4, lenD_lst u26, lenD_lst u53, loadD_iagg a46 z46, loadD_iptr a3, loadD_pagg a25 z25, loadD_ptr a3, loadD_ptr a4, storeD_agg z46, storeD_bool z4, h3, h6, hq, ↓h33', h36, h37]
    refine ⟨by first | exact .inl trivial | exact .inr trivial | simp, ?_⟩
    exact finish_is (ds := [iv (0 : Int)]) (x := .v (.int .i64 (0 : Int))) (y := .v (.int .i64 (0 : Int))) (l := []) rfl rfl rfl rfl (by first | rfl | (simp only [wk, wks, wkL]; first | done | rfl))
   ·rw [if_neg h37] at h
    replace h37 := Bool.eq_false_iff.2 h37
    obtain rfl := Option.some.inj h
    simp (maxSteps := 10000000) (implicitDefEqProofs := false) (disch := first | assumption | omega | exact rfl) only [bs, rs28, ls28, Nat.reduceAdd, ↓reduceIte, binD_neq_bool Try.underlying4, lenD_lst u26, lenD_lst u53, loadD_iagg a46 z46, loadD_iptr a3, loadD_pagg a25 z25, loadD_ptr a3, loadD_ptr a4, storeD_agg z46, storeD_bool z4, h3, h6, hq, ↓h33', h36, h37]
    refine ⟨by first | exact .inl trivial | exact .inr trivial | simp, ?_⟩
    exact finish_is (ds := [iv (15 : Int)]) (x := .v (.int .i64 (15 : Int))) (y := .v (.int .i64 (15 : Int))) (l := []) rfl rfl rfl rfl (by first | rfl | (simp only [wk, wks, wkL]; first | done | rfl))
  ·rw [if_neg h33] at h
   have h33' : decide (x0.Kind = x1.Kind) = false := decide_eq_false h33
   obtain rfl := Option.some.inj h
   simp (maxSteps := 10000000) (implicitDefEqProofs := false) (disch := first | assumption | omega | exact rfl) only [bs, rs28, ls28, Nat.reduceAdd, ↓reduceIte, binD_neq_bool Try.underlying4, lenD_lst u26, lenD_lst u53, loadD_iagg a46 z46, loadD_iptr a3, loadD_pagg a25 z25, loadD_ptr a3, loadD_ptr a4, storeD_agg z46, storeD_bool z4, h3, h6, hq, ↓h33']
   refine ⟨by first | exact .inl trivial | exact .inr trivial | simp, ?_⟩
   exact finish_is (ds := [iv (0 : Int)]) (x := .v (.int .i64 (0 : Int))) (y := .v (.int .i64 (0 : Int))) (l := []) rfl rfl rfl rfl (by first | rfl | (simp only [wk, wks, wkL]; first | done | rfl))
 | ret r38 =>
  obtain ⟨rfl, hq⟩ := hq
  obtain rfl := Option.some.inj h
  simp (maxSteps := 10000000) (implicitDefEqProofs := false) (disch := first | assumption | omega | exact rfl) only [bs, rs28, ls28, Nat.reduceAdd, ↓reduceIte, binD_neq_bool Try.underlying4, lenD_lst u26, lenD_lst u53, loadD_iagg a46 z46, loadD_iptr a3, loadD_pagg a25 z25, loadD_ptr a3, loadD_ptr a4, storeD_agg z46, storeD_bool z4]
  exact ⟨by first | exact .inl trivial | exact .inr trivial | simp, hq⟩
theorem match_Check_call {b1 b2 b3 b4 b5 : Bool} {H : List Ob} {x0 : Node} {x1 : Node} {x2 : (List Pair)} {r : Int} (h : match_Check x0 x1 x2 = some r) : callD (callW Try.prog A0) A0 H 28 [.p (.agg [.v (.int .i64 x0.Kind), .v (.string x0.Text), .lst b1 x0.Gaps.length (encL en_str x0.Gaps), .lst b2 x0.Kids.length (encL en_Node x0.Kids)]), .p (.agg [.v (.int .i64 x1.Kind), .v (.string x1.Text), .lst b3 x1.Gaps.length (encL en_str x1.Gaps), .lst b4 x1.Kids.length (encL en_Node x1.Kids)]), .p (.lst b5 x2.length (encL en_Pair x2))] = some (.p (.v (.int .i64 r)), none) :=
  callD_fun (args := [.agg [.v (.int .i64 x0.Kind), .v (.string x0.Text), .lst b1 x0.Gaps.length (encL en_str x0.Gaps), .lst b2 x0.Kids.length (encL en_Node x0.Kids)], .agg [.v (.int .i64 x1.Kind), .v (.string x1.Text), .lst b3 x1.Gaps.length (encL en_str x1.Gaps), .lst b4 x1.Kids.length (encL en_Node x1.Kids)], .lst b5 x2.length (encL en_Pair x2)]) rfl rfl rfl (by simp only [List.map_cons, List.map_nil, wk, wks, wkL]; exact f28_ok x0 x1 x2 _ h)
def ls31 := And.intro @al_46 (And.intro @faP_46_0 (And.intro @faP_46_1 (And.intro @idxL_26 (And.intro @sa_2_0_2 (And.intro @varld_2_0_0 (@varld_2_0_1))))))
noncomputable def L31_0 : Code := (loopsOf (bodyOf Try.f31)).getD 0 .skip
def g31_0 : List Ghost := [.weak [8], .keep [1, 8, 9, 10]]
def F31_0 (s1 : Int) (s8 : (List Pair)) (s9 : Int) : Int → St := fun s10 => ⟨[.junk, iv s1, .junk, .junk, .junk, .junk, .junk, .junk, .p (.lst false s8.length (encL en_Pair s8)), iv s9, iv s10, .junk, .junk, .junk, .junk, .junk, .junk, .junk, .junk, .junk, .junk], [], 0⟩
theorem L31_0_ok (s1 : Int) (s8 : (List Pair)) (s9 : Int) : ∀ s st o, ghostsD g31_0 st = some (F31_0 s1 s8 s9 s) → iter (match_Find_L0 s1 s8 s9) s = some o →
    Wp (evW Try.prog A0 31 (.loop L31_0) st) (OutQ (F31_0 s1 s8 s9) g31_0 (fun n s st => n = 0 ∧ ghostsD [.keep [1, 8, 9, 10]] st = some (F31_0 s1 s8 s9 s)) (fun r st => finishD Try.prog A0 31 Try.f31 st = some (.p (.tup [.v (.int .i64 r.1), .v (.bool r.2)]), [])) o) := by
 refine Wp.iter ?_
 intro s st o hg h
 generalize s = s10 at hg h
 unfold match_Find_L0 at h
 unfold g31_0 F31_0 at hg ⊢
 (try simp only [] at h hg)
 unfold L31_0 bodyOf Try.f31; simp only [Option.getD_some, loopsOf, List.append_nil, List.nil_append, List.cons_append, List.getD_cons_zero, List.getD_cons_succ]
 by_cases h1 : s10 < s9
 ·rw [if_pos h1] at h
  have h1' : decide (s10 < s9) = true := decide_eq_true h1
  obtain ⟨v2, h3, h⟩ := Option.bind_eq_some_iff.1 h
  obtain ⟨h3a, h3b, _⟩ := rd_some h3
  have h4 := lk_frz_46 h3
  by_cases h5 : v2.Old = s1
  ·rw [if_pos h5] at h
   have h5' : decide (v2.Old = s1) = true := decide_eq_true h5
   obtain rfl := Option.some.inj h
   simp (maxSteps := 10000000) (implicitDefEqProofs := false) (disch := first | assumption | omega | exact rfl) only [bs, rs31, ls31, Nat.reduceAdd, ↓reduceIte, lenD_lst u26, loadD_iagg a46 z46, loadD_ptr a3, storeD_agg z46, hg, ↓h1', h4, ↓h5']
   refine ⟨rfl, ?_⟩
   exact finish_is (ds := [iv v2.New, bv true]) (x := .tup [.v (.int .i64 v2.New), .v (.bool true)]) (y := .tup [.v (.int .i64 v2.New), .v (.bool true)]) (l := []) rfl rfl rfl rfl (by first | rfl | (simp only [wk, wks, wkL]; first | done | rfl))
  ·rw [if_neg h5] at h
   have h5' : decide (v2.Old = s1) = false := decide_eq_false h5
   obtain rfl := Option.some.inj h
   simp (maxSteps := 10000000) (implicitDefEqProofs := false) (disch := first | assumption | omega | exact rfl) only [bs, rs31, ls31, Nat.reduceAdd, ↓reduceIte, lenD_lst u26, loadD_iagg a46 z46, loadD_ptr a3, storeD_agg z46, hg, ↓h1', h4, ↓h5']
   exact ⟨rfl, by kernel_rfl⟩
 ·rw [if_neg h1] at h
  have h1' : decide (s10 < s9) = false := decide_eq_false h1
  obtain rfl := Option.some.inj h
  simp (maxSteps := 10000000) (implicitDefEqProofs := false) (disch := first | assumption | omega | exact rfl) only [bs, rs31, ls31, Nat.reduceAdd, ↓reduceIte, lenD_lst u26, loadD_iagg a46 z46, loadD_ptr a3, storeD_agg z46, hg, ↓h1']
  exact ⟨rfl, rfl, by kernel_rfl⟩
theorem f31_ok  (x0 : (List Pair)) (x1 : Int) (r : (Int × Bool)) (h : match_Find x0 x1 = some r) : callW Try.prog A0 31 [.p (.lst false x0.length (encL en_Pair x0)), iv x1] [] = some (.p (.tup [.v (.int .i64 r.1), .v (.bool r.2)]), []) := by
 refine call_ofH (fn := Try.f31) (c := bodyOf Try.f31) rfl (by kernel_rfl) (by kernel_rfl) ?_
 rw [show initS Try.f31 [.p (.lst false x0.length (encL en_Pair x0)), iv x1] [] = ⟨.p (.lst false x0.length (encL en_Pair x0)) :: iv x1 :: List.replicate 19 undefD, [], 0⟩ from by kernel_rfl]
 unfold match_Find at h
 unfold bodyOf Try.f31; simp only [Option.getD_some, loopsOf, List.append_nil, List.nil_append, List.cons_append, List.getD_cons_zero, List.getD_cons_succ]
 simp only [List.replicate]
 obtain ⟨o, h6, h⟩ := Option.bind_eq_some_iff.1 h
 simp (maxSteps := 10000000) (implicitDefEqProofs := false) (disch := first | assumption | omega | exact rfl) only [bs, rs31, ls31, Nat.reduceAdd, ↓reduceIte, lenD_lst u26, loadD_iagg a46 z46, loadD_ptr a3, storeD_agg z46]
 refine Wp.ctx (fun x => seqW _ _ _ _ (blockW _ (x))) (L31_0_ok x1 x0 (x0.length : Int) (0 : Int) _ o (by kernel_rfl) h6) ?_
 intro e st hq
 cases o with
 | next _ => (first | cases h | (simp at h))
 | jmp n_ s_ =>
  obtain ⟨rfl, rfl, hq⟩ := hq
  generalize s_ = s10_7 at h hq
  unfold F31_0 at hq
  (try simp only [] at h hq)
  obtain rfl := Option.some.inj h
  simp (maxSteps := 10000000) (implicitDefEqProofs := false) (disch := first | assumption | omega | exact rfl) only [bs, rs31, ls31, Nat.reduceAdd, ↓reduceIte, lenD_lst u26, loadD_iagg a46 z46, loadD_ptr a3, storeD_agg z46, hq]
  refine ⟨by first | exact .inl trivial | exact .inr trivial | simp, ?_⟩
  exact finish_is (ds := [iv (0 : Int), bv false]) (x := .tup [.v (.int .i64 (0 : Int)), .v (.bool false)]) (y := .tup [.v (.int .i64 (0 : Int)), .v (.bool false)]) (l := []) rfl rfl rfl rfl (by first | rfl | (simp only [wk, wks, wkL]; first | done | rfl))
 | ret r8 =>
  obtain ⟨rfl, hq⟩ := hq
  obtain rfl := Option.some.inj h
  simp (maxSteps := 10000000) (implicitDefEqProofs := false) (disch := first | assumption | omega | exact rfl) only [bs, rs31, ls31, Nat.reduceAdd, ↓reduceIte, lenD_lst u26, loadD_iagg a46 z46, loadD_ptr a3, storeD_agg z46]
  exact ⟨by first | exact .inl trivial | exact .inr trivial | simp, hq⟩
theorem match_Find_call {b1 : Bool} {H : List Ob} {x0 : (List Pair)} {x1 : Int} {r : (Int × Bool)} (h : match_Find x0 x1 = some r) : callD (callW Try.prog A0) A0 H 31 [.p (.lst b1 x0.length (encL en_Pair x0)), iv x1] = some (.p (.tup [.v (.int .i64 r.1), .v (.bool r.2)]), none) :=
  callD_fun (args := [.lst b1 x0.length (encL en_Pair x0), .v (.int .i64 x1)]) rfl rfl rfl (by simp only [List.map_cons, List.map_nil, wk, wks, wkL]; exact f31_ok x0 x1 _ h)
def ls30 := And.intro @ex_2_0 (And.intro @ex_2_1 (@rold_1_0))
theorem f30_ok  (x0 : Int) (c0 : (List Pair)) (r : Int) (h : moves_Moves_c1 x0 c0 = some r) : callW Try.prog A0 30 [iv x0, .ptr 0 0] [.ro [.p (.lst false c0.length (encL en_Pair c0))]] = some (.p (.v (.int .i64 r)), [.ro [.p (.lst false c0.length (encL en_Pair c0))]]) := by
 refine call_ofH (fn := Try.f30) (c := bodyOf Try.f30) rfl (by kernel_rfl) (by kernel_rfl) ?_
 rw [show initS Try.f30 [iv x0, .ptr 0 0] [.ro [.p (.lst false c0.length (encL en_Pair c0))]] = ⟨iv x0 :: .ptr 0 0 :: List.replicate 12 undefD, [.ro [.p (.lst false c0.length (encL en_Pair c0))]], 1⟩ from by kernel_rfl]
 unfold moves_Moves_c1 at h
 unfold bodyOf Try.f30; simp only [Option.getD_some, loopsOf, List.append_nil, List.nil_append, List.cons_append, List.getD_cons_zero, List.getD_cons_succ]
 simp only [List.replicate]
 obtain ⟨r1, h2, h⟩ := Option.bind_eq_some_iff.1 h
 have h3 : ∀ H, callD (callW Try.prog A0) A0 H 31 [.p (.lst false c0.length (encL en_Pair c0)), iv x0] = some (.p (.tup [.v (.int .i64 r1.1), .v (.bool r1.2)]), none) := fun H => match_Find_call h2
 by_cases h4 : r1.2 = true
 ·rw [if_pos h4] at h
  obtain rfl := Option.some.inj h
  simp (maxSteps := 10000000) (implicitDefEqProofs := false) (disch := first | assumption | omega | exact rfl) only [bs, rs30, ls30, Nat.reduceAdd, ↓reduceIte, loadD_ptr a26, h3, h4]
  refine ⟨by first | exact .inl trivial | exact .inr trivial | simp, ?_⟩
  show _ = _
  kernel_rfl
 ·rw [if_neg h4] at h
  replace h4 := Bool.eq_false_iff.2 h4
  obtain rfl := Option.some.inj h
  simp (maxSteps := 10000000) (implicitDefEqProofs := false) (disch := first | assumption | omega | exact rfl) only [bs, rs30, ls30, Nat.reduceAdd, ↓reduceIte, loadD_ptr a26, h3, h4]
  refine ⟨by first | exact .inl trivial | exact .inr trivial | simp, ?_⟩
  show _ = _
  kernel_rfl
theorem moves_Moves_c1_callc {x0 : Int} {c0 : (List Pair)} {r : Int} (h : moves_Moves_c1 x0 c0 = some r) : callW Try.prog A0 30 [iv x0, .ptr 0 0] [.ro [.p (.lst false c0.length (encL en_Pair c0))]] = some (.p (.v (.int .i64 r)), [.ro [.p (.lst false c0.length (encL en_Pair c0))]]) := f30_ok x0 c0 _ h
def ls32 := @idxL_38
noncomputable def L32_0 : Code := (loopsOf (bodyOf Try.f32)).getD 0 .skip
def g32_0 : List Ghost := [.weak [0], .keep [0, 1, 7, 8]]
def F32_0 (s0 : (List Int)) (s1 : Int) (s7 : Int) : Int → St := fun s8 => ⟨[.p (.lst false s0.length (encL en_i64 s0)), iv s1, .junk, .junk, .junk, .junk, .junk, iv s7, iv s8, .junk, .junk, .junk, .junk, .junk, .junk, .junk, .junk, .junk, .junk], [], 0⟩
theorem L32_0_ok (s0 : (List Int)) (s1 : Int) (s7 : Int) : ∀ s st o, ghostsD g32_0 st = some (F32_0 s0 s1 s7 s) → iter (slices_Index_int_int_L0 s0 s1 s7) s = some o →
    Wp (evW Try.prog A0 32 (.loop L32_0) st) (OutQ (F32_0 s0 s1 s7) g32_0 (fun n s st => n = 0 ∧ ghostsD [.keep [0, 1, 7, 8]] st = some (F32_0 s0 s1 s7 s)) (fun r st => finishD Try.prog A0 32 Try.f32 st = some (.p (.v (.int .i64 r)), [])) o) := by
 refine Wp.iter ?_
 intro s st o hg h
 generalize s = s8 at hg h
 unfold slices_Index_int_int_L0 at h
 unfold g32_0 F32_0 at hg ⊢
 (try simp only [] at h hg)
 unfold L32_0 bodyOf Try.f32; simp only [Option.getD_some, loopsOf, List.append_nil, List.nil_append, List.cons_append, List.getD_cons_zero, List.getD_cons_succ]
 by_cases h1 : s8 < s7
 ·rw [if_pos h1] at h
  have h1' : decide (s8 < s7) = true := decide_eq_true h1
  obtain ⟨v2, h3, h⟩ := Option.bind_eq_some_iff.1 h
  obtain ⟨h3a, h3b, _⟩ := rd_some h3
  have h4 := ce_3_x h3
  by_cases h5 : s1 = v2
  ·rw [if_pos h5] at h
   have h5' : decide (s1 = v2) = true := decide_eq_true h5
   obtain rfl := Option.some.inj h
   simp (maxSteps := 10000000) (implicitDefEqProofs := false) (disch := first | assumption | omega | exact rfl) only [bs, rs32, ls32, Nat.reduceAdd, ↓reduceIte, lenD_lst u38, loadD_iptr a3, hg, ↓h1', h4, ↓h5']
   refine ⟨rfl, ?_⟩
   exact finish_is (ds := [iv s8]) (x := .v (.int .i64 s8)) (y := .v (.int .i64 s8)) (l := []) rfl rfl rfl rfl (by first | rfl | (simp only [wk, wks, wkL]; first | done | rfl))
  ·rw [if_neg h5] at h
   have h5' : decide (s1 = v2) = false := decide_eq_false h5
   obtain rfl := Option.some.inj h
   simp (maxSteps := 10000000) (implicitDefEqProofs := false) (disch := first | assumption | omega | exact rfl) only [bs, rs32, ls32, Nat.reduceAdd, ↓reduceIte, lenD_lst u38, loadD_iptr a3, hg, ↓h1', h4, ↓h5']
   exact ⟨rfl, by kernel_rfl⟩
 ·rw [if_neg h1] at h
  have h1' : decide (s8 < s7) = false := decide_eq_false h1
  obtain rfl := Option.some.inj h
  simp (maxSteps := 10000000) (implicitDefEqProofs := false) (disch := first | assumption | omega | exact rfl) only [bs, rs32, ls32, Nat.reduceAdd, ↓reduceIte, lenD_lst u38, loadD_iptr a3, hg, ↓h1']
  exact ⟨rfl, rfl, by kernel_rfl⟩
theorem f32_ok  (x0 : (List Int)) (x1 : Int) (r : Int) (h : slices_Index_int_int x0 x1 = some r) : callW Try.prog A0 32 [.p (.lst false x0.length (encL en_i64 x0)), iv x1] [] = some (.p (.v (.int .i64 r)), []) := by
 refine call_ofH (fn := Try.f32) (c := bodyOf Try.f32) rfl (by kernel_rfl) (by kernel_rfl) ?_
 rw [show initS Try.f32 [.p (.lst false x0.length (encL en_i64 x0)), iv x1] [] = ⟨.p (.lst false x0.length (encL en_i64 x0)) :: iv x1 :: List.replicate 17 undefD, [], 0⟩ from by kernel_rfl]
 unfold slices_Index_int_int at h
 unfold bodyOf Try.f32; simp only [Option.getD_some, loopsOf, List.append_nil, List.nil_append, List.cons_append, List.getD_cons_zero, List.getD_cons_succ]
 simp only [List.replicate]
 obtain ⟨o, h6, h⟩ := Option.bind_eq_some_iff.1 h
 simp (maxSteps := 10000000) (implicitDefEqProofs := false) (disch := first | assumption | omega | exact rfl) only [bs, rs32, ls32, Nat.reduceAdd, ↓reduceIte, lenD_lst u38, loadD_iptr a3]
 refine Wp.ctx (fun x => seqW _ _ _ _ (blockW _ (x))) (L32_0_ok x0 x1 (x0.length : Int) (0 : Int) _ o (by kernel_rfl) h6) ?_
 intro e st hq
 cases o with
 | next _ => (first | cases h | (simp at h))
 | jmp n_ s_ =>
  obtain ⟨rfl, rfl, hq⟩ := hq
  generalize s_ = s8_7 at h hq
  unfold F32_0 at hq
  (try simp only [] at h hq)
  obtain rfl := Option.some.inj h
  simp (maxSteps := 10000000) (implicitDefEqProofs := false) (disch := first | assumption | omega | exact rfl) only [bs, rs32, ls32, Nat.reduceAdd, ↓reduceIte, lenD_lst u38, loadD_iptr a3, hq]
  refine ⟨by first | exact .inl trivial | exact .inr trivial | simp, ?_⟩
  exact finish_is (ds := [iv (-1 : Int)]) (x := .v (.int .i64 (-1 : Int))) (y := .v (.int .i64 (-1 : Int))) (l := []) rfl rfl rfl rfl (by first | rfl | (simp only [wk, wks, wkL]; first | done | rfl))
 | ret r8 =>
  obtain ⟨rfl, hq⟩ := hq
  obtain rfl := Option.some.inj h
  simp (maxSteps := 10000000) (implicitDefEqProofs := false) (disch := first | assumption | omega | exact rfl) only [bs, rs32, ls32, Nat.reduceAdd, ↓reduceIte, lenD_lst u38, loadD_iptr a3]
  exact ⟨by first | exact .inl trivial | exact .inr trivial | simp, hq⟩
theorem slices_Index_int_int_call {b1 : Bool} {H : List Ob} {x0 : (List Int)} {x1 : Int} {r : Int} (h : slices_Index_int_int x0 x1 = some r) : callD (callW Try.prog A0) A0 H 32 [.p (.lst b1 x0.length (encL en_i64 x0)), iv x1] = some (.p (.v (.int .i64 r)), none) :=
  callD_fun (args := [.lst b1 x0.length (encL en_i64 x0), .v (.int .i64 x1)]) rfl rfl rfl (by simp only [List.map_cons, List.map_nil, wk, wks, wkL]; exact f32_ok x0 x1 _ h)
def ls39 := And.intro @ap_38_38 (And.intro @bs_38_1 (And.intro @idxL_38 (And.intro @idxR_38 (@mk_38))))
noncomputable def L39_2 : Code := (loopsOf (bodyOf Try.f39)).getD 2 .skip
def g39_2 : List Ghost := [.own 7 1, .weak [0], .keep [0, 3, 4, 7, 59, 60]]
def F39_2 (s0 : (List Int)) (s59 : Int) (y0 : (List Int)) : (Int × Int × (List Int)) → St := fun (s4, s60, y1) => ⟨[.p (.lst false s0.length (encL en_i64 s0)), .junk, .junk, .ref 0 0 y0.length 1, iv s4, .junk, .junk, .ref 1 0 y1.length 1, .junk, .junk, .junk, .junk, .junk, .junk, .junk, .junk, .junk, .junk, .junk, .junk, .junk, .junk, .junk, .junk, .junk, .junk, .junk, .junk, .junk, .junk, .junk, .junk, .junk, .junk, .junk, .junk, .junk, .junk, .junk, .junk, .junk, .junk, .junk, .junk, .junk, .junk, .junk, .junk, .junk, .junk, .junk, .junk, .junk, .junk, .junk, .junk, .junk, .junk, .junk, iv s59, iv s60, .junk, .junk, .junk, .junk, .junk, .junk, .junk, .junk, .junk, .junk, .junk, .junk, .junk, .junk, .junk, .junk, .junk, .junk, .junk, .junk, .junk, .junk, .junk, .junk, .junk, .junk, .junk, .junk, .junk, .junk, .junk, .junk, .junk, .junk, .junk, .junk, .junk], [.arr (encL en_i64 y0), .arr (encL en_i64 y1)], 0⟩
theorem L39_2_ok (s0 : (List Int)) (s59 : Int) (y0 : (List Int)) : ∀ s st o, ghostsD g39_2 st = some (F39_2 s0 s59 y0 s) → iter (lcs_Rising_L2 s0 s59 y0) s = some o →
    Wp (evW Try.prog A0 39 (.loop L39_2) st) (OutQ (F39_2 s0 s59 y0) g39_2 (fun n s st => n = 4 ∧ ghostsD [.keep [0, 3, 4, 7, 59, 60]] st = some (F39_2 s0 s59 y0 s)) (fun r st => finishD Try.prog A0 39 Try.f39 st = some (.p (.lst false r.length (encL en_i64 r)), [])) o) := by
 refine Wp.iter ?_
 intro s st o hg h
 obtain ⟨s4, s60, y1⟩ := s
 unfold lcs_Rising_L2 at h
 unfold g39_2 F39_2 at hg ⊢
 (try simp only [] at h hg)
 unfold L39_2 bodyOf Try.f39; simp only [Option.getD_some, loopsOf, List.append_nil, List.nil_append, List.cons_append, List.getD_cons_zero, List.getD_cons_succ]
 by_cases h31 : s60 < s59
 ·rw [if_pos h31] at h
  have h31' : decide (s60 < s59) = true := decide_eq_true h31
  obtain ⟨v32, h33, h⟩ := Option.bind_eq_some_iff.1 h
  obtain ⟨h33a, h33b, _⟩ := rd_some h33
  have h34 := ce_3_x h33
  by_cases h35 : v32 = s4
  ·rw [if_pos h35] at h
   have h35' : decide (v32 = s4) = true := decide_eq_true h35
   by_cases h36 : (y1.length : Int) = (0 : Int)
   ·rw [if_pos h36] at h
    have h36' : decide ((y1.length : Int) = (0 : Int)) = true := decide_eq_true h36
    by_cases hw_ : (y1.length + 1) * 8 ≤ 140737488355328
    case neg => rw [if_neg hw_] at h; cases h
    rw [if_pos hw_] at h
    have h38 := hw_
    have h37 : ∀ (H : List Ob) (id : Nat), apOb H id 0 y1.length 1 1 1 8 [.v (.int .i64 s60)] (some (.arr (encL en_i64 y1))) = some (.ref H.length 0 (y1 ++ [s60]).length 1, H.set id .dead ++ [.arr (encL en_i64 (y1 ++ [s60]))]) := fun H id => ap_enc (y := [s60]) en_i64_len (by first | rfl | omega) rfl (by first | (simp only [encL_cons, encL_nil, en_i64_eq, List.cons_append, List.nil_append]; done) | (simp only [encL_cons, encL_nil, en_i64_eq, List.cons_append, List.nil_append]; rfl) | rfl) (by assumption)
    obtain rfl := Option.some.inj h
    simp (maxSteps := 10000000) (implicitDefEqProofs := false) (disch := first | assumption | omega | exact rfl) only [bs, rs39, ls39, Nat.reduceAdd, ↓reduceIte, lenD_lst u38, lenD_ref u38, loadD_iptr a3, loadD_ptr a3, maxD_int, storeD_int z3, wks_nil_, hg, ↓h31', h34, ↓h35', ↓h36', h37]
    exact ⟨rfl, by kernel_rfl⟩
   ·rw [if_neg h36] at h
    have h36' : decide ((y1.length : Int) = (0 : Int)) = false := decide_eq_false h36
    obtain ⟨v39, h40, h⟩ := Option.bind_eq_some_iff.1 h
    obtain ⟨h40a, h40b, _⟩ := rd_some h40
    have h41 := ce_3_x h40
    obtain ⟨v42, h43, h⟩ := Option.bind_eq_some_iff.1 h
    obtain ⟨h43a, h43b, _⟩ := rd_some h43
    have h44 := ce_3_x h43
    obtain ⟨v45, h46, h⟩ := Option.bind_eq_some_iff.1 h
    obtain ⟨h46a, h46b, _⟩ := rd_some h46
    have h47 := ce_3_x h46
    by_cases h48 : v45 < v39
    ·rw [if_pos h48] at h
     have h48' : decide (v45 < v39) = true := decide_eq_true h48
     by_cases hw_ : (y1.length + 1) * 8 ≤ 140737488355328
     case neg => rw [if_neg hw_] at h; cases h
     rw [if_pos hw_] at h
     have h50 := hw_
     have h49 : ∀ (H : List Ob) (id : Nat), apOb H id 0 y1.length 1 1 1 8 [.v (.int .i64 s60)] (some (.arr (encL en_i64 y1))) = some (.ref H.length 0 (y1 ++ [s60]).length 1, H.set id .dead ++ [.arr (encL en_i64 (y1 ++ [s60]))]) := fun H id => ap_enc (y := [s60]) en_i64_len (by first | rfl | omega) rfl (by first | (simp only [encL_cons, encL_nil, en_i64_eq, List.cons_append, List.nil_append]; done) | (simp only [encL_cons, encL_nil, en_i64_eq, List.cons_append, List.nil_append]; rfl) | rfl) (by assumption)
     obtain rfl := Option.some.inj h
     simp (maxSteps := 10000000) (implicitDefEqProofs := false) (disch := first | assumption | omega | exact rfl) only [bs, rs39, ls39, Nat.reduceAdd, ↓reduceIte, lenD_lst u38, lenD_ref u38, loadD_iptr a3, loadD_ptr a3, maxD_int, storeD_int z3, wks_nil_, hg, ↓h31', h34, ↓h35', ↓h36', h41, h44, h47, ↓h48', h49]
     exact ⟨rfl, by kernel_rfl⟩
    ·rw [if_neg h48] at h
     have h48' : decide (v45 < v39) = false := decide_eq_false h48
     obtain rfl := Option.some.inj h
     simp (maxSteps := 10000000) (implicitDefEqProofs := false) (disch := first | assumption | omega | exact rfl) only [bs, rs39, ls39, Nat.reduceAdd, ↓reduceIte, lenD_lst u38, lenD_ref u38, loadD_iptr a3, loadD_ptr a3, maxD_int, storeD_int z3, wks_nil_, hg, ↓h31', h34, ↓h35', ↓h36', h41, h44, h47, ↓h48']
     exact ⟨rfl, by kernel_rfl⟩
  ·rw [if_neg h35] at h
   have h35' : decide (v32 = s4) = false := decide_eq_false h35
   obtain rfl := Option.some.inj h
   simp (maxSteps := 10000000) (implicitDefEqProofs := false) (disch := first | assumption | omega | exact rfl) only [bs, rs39, ls39, Nat.reduceAdd, ↓reduceIte, lenD_lst u38, lenD_ref u38, loadD_iptr a3, loadD_ptr a3, maxD_int, storeD_int z3, wks_nil_, hg, ↓h31', h34, ↓h35']
   exact ⟨rfl, by kernel_rfl⟩
 ·rw [if_neg h31] at h
  have h31' : decide (s60 < s59) = false := decide_eq_false h31
  obtain rfl := Option.some.inj h
  simp (maxSteps := 10000000) (implicitDefEqProofs := false) (disch := first | assumption | omega | exact rfl) only [bs, rs39, ls39, Nat.reduceAdd, ↓reduceIte, lenD_lst u38, lenD_ref u38, loadD_iptr a3, loadD_ptr a3, maxD_int, storeD_int z3, wks_nil_, hg, ↓h31']
  exact ⟨rfl, rfl, by kernel_rfl⟩
noncomputable def L39_1 : Code := (loopsOf (bodyOf Try.f39)).getD 1 .skip
def g39_1 : List Ghost := [.weak [0], .keep [0, 3, 4, 5, 6]]
def F39_1 (s0 : (List Int)) (s4 : Int) (s5 : Int) : (Int × (List Int)) → St := fun (s6, y0) => ⟨[.p (.lst false s0.length (encL en_i64 s0)), .junk, .junk, .ref 0 0 y0.length 1, iv s4, iv s5, iv s6, .junk, .junk, .junk, .junk, .junk, .junk, .junk, .junk, .junk, .junk, .junk, .junk, .junk, .junk, .junk, .junk, .junk, .junk, .junk, .junk, .junk, .junk, .junk, .junk, .junk, .junk, .junk, .junk, .junk, .junk, .junk, .junk, .junk, .junk, .junk, .junk, .junk, .junk, .junk, .junk, .junk, .junk, .junk, .junk, .junk, .junk, .junk, .junk, .junk, .junk, .junk, .junk, .junk, .junk, .junk, .junk, .junk, .junk, .junk, .junk, .junk, .junk, .junk, .junk, .junk, .junk, .junk, .junk, .junk, .junk, .junk, .junk, .junk, .junk, .junk, .junk, .junk, .junk, .junk, .junk, .junk, .junk, .junk, .junk, .junk, .junk, .junk, .junk, .junk, .junk, .junk], [.arr (encL en_i64 y0)], 0⟩
theorem L39_1_ok (s0 : (List Int)) (s4 : Int) (s5 : Int) : ∀ s st o, ghostsD g39_1 st = some (F39_1 s0 s4 s5 s) → iter (lcs_Rising_L1 s0 s4 s5) s = some o →
    Wp (evW Try.prog A0 39 (.loop L39_1) st) (OutQ (F39_1 s0 s4 s5) g39_1 (fun n s st => n = 2 ∧ ghostsD [.keep [0, 3, 4, 5, 6]] st = some (F39_1 s0 s4 s5 s)) (fun r st => finishD Try.prog A0 39 Try.f39 st = some (.p (.lst false r.length (encL en_i64 r)), [])) o) := by
 refine Wp.iter ?_
 intro s st o hg h
 obtain ⟨s6, y0⟩ := s
 unfold lcs_Rising_L1 at h
 unfold g39_1 F39_1 at hg ⊢
 (try simp only [] at h hg)
 unfold L39_1 bodyOf Try.f39; simp only [Option.getD_some, loopsOf, List.append_nil, List.nil_append, List.cons_append, List.getD_cons_zero, List.getD_cons_succ]
 by_cases h8 : s6 < (s0.length : Int)
 ·rw [if_pos h8] at h
  have h8' : decide (s6 < (s0.length : Int)) = true := decide_eq_true h8
  obtain ⟨v9, h10, h⟩ := Option.bind_eq_some_iff.1 h
  obtain ⟨h10a, h10b, _⟩ := rd_some h10
  have h11 := ce_3_x h10
  obtain ⟨v12, h13, h⟩ := Option.bind_eq_some_iff.1 h
  obtain ⟨h13a, h13b, _⟩ := rd_some h13
  have h14 := ce_3_x h13
  by_cases h15 : v12 < v9
  ·rw [if_pos h15] at h
   have h15' : decide (v12 < v9) = true := decide_eq_true h15
   obtain ⟨v16, h17, h⟩ := Option.bind_eq_some_iff.1 h
   obtain ⟨h17a, h17b, _⟩ := rd_some h17
   have h18 := ce_3_x h17
   obtain ⟨v19, h20, h⟩ := Option.bind_eq_some_iff.1 h
   obtain ⟨h20a, h20b, _⟩ := rd_some h20
   have h21 := ce_3_x h20
   have h22 : ∀ (H : List Ob) (id : Nat), stdOb H id (s5.toNat * 1) (.p (.v (.int .i64 (max v16 (w64 (v19 + (1 : Int))))))) (some (.arr (encL en_i64 y0))) = some (H.set id (.arr (encL en_i64 (y0.set s5.toNat (max v16 (w64 (v19 + (1 : Int)))))))) := fun H id => std_enc0 en_i64_len h17 (by decide) (by rw [en_i64_eq, en_i64_eq]; rfl)
   have h23 : (y0.set s5.toNat (max v16 (w64 (v19 + (1 : Int))))).length = y0.length := List.length_set
   obtain rfl := Option.some.inj h
   simp (maxSteps := 10000000) (implicitDefEqProofs := false) (disch := first | assumption | omega | exact rfl) only [bs, rs39, ls39, Nat.reduceAdd, ↓reduceIte, lenD_lst u38, lenD_ref u38, loadD_iptr a3, loadD_ptr a3, maxD_int, storeD_int z3, wks_nil_, hg, ↓h8', h11, h14, ↓h15', h18, h21, h22]
   exact ⟨rfl, by simp only [List.length_set, cpL_len]; kernel_rfl⟩
  ·rw [if_neg h15] at h
   have h15' : decide (v12 < v9) = false := decide_eq_false h15
   obtain rfl := Option.some.inj h
   simp (maxSteps := 10000000) (implicitDefEqProofs := false) (disch := first | assumption | omega | exact rfl) only [bs, rs39, ls39, Nat.reduceAdd, ↓reduceIte, lenD_lst u38, lenD_ref u38, loadD_iptr a3, loadD_ptr a3, maxD_int, storeD_int z3, wks_nil_, hg, ↓h8', h11, h14, ↓h15']
   exact ⟨rfl, by kernel_rfl⟩
 ·rw [if_neg h8] at h
  have h8' : decide (s6 < (s0.length : Int)) = false := decide_eq_false h8
  obtain rfl := Option.some.inj h
  simp (maxSteps := 10000000) (implicitDefEqProofs := false) (disch := first | assumption | omega | exact rfl) only [bs, rs39, ls39, Nat.reduceAdd, ↓reduceIte, lenD_lst u38, lenD_ref u38, loadD_iptr a3, loadD_ptr a3, maxD_int, storeD_int z3, wks_nil_, hg, ↓h8']
  exact ⟨rfl, rfl, by kernel_rfl⟩
noncomputable def L39_0 : Code := (loopsOf (bodyOf Try.f39)).getD 0 .skip
def g39_0 : List Ghost := [.weak [0], .keep [0, 3, 4, 5]]
def F39_0 (s0 : (List Int)) : (Int × Int × (List Int)) → St := fun (s4, s5, y0) => ⟨[.p (.lst false s0.length (encL en_i64 s0)), .junk, .junk, .ref 0 0 y0.length 1, iv s4, iv s5, .junk, .junk, .junk, .junk, .junk, .junk, .junk, .junk, .junk, .junk, .junk, .junk, .junk, .junk, .junk, .junk, .junk, .junk, .junk, .junk, .junk, .junk, .junk, .junk, .junk, .junk, .junk, .junk, .junk, .junk, .junk, .junk, .junk, .junk, .junk, .junk, .junk, .junk, .junk, .junk, .junk, .junk, .junk, .junk, .junk, .junk, .junk, .junk, .junk, .junk, .junk, .junk, .junk, .junk, .junk, .junk, .junk, .junk, .junk, .junk, .junk, .junk, .junk, .junk, .junk, .junk, .junk, .junk, .junk, .junk, .junk, .junk, .junk, .junk, .junk, .junk, .junk, .junk, .junk, .junk, .junk, .junk, .junk, .junk, .junk, .junk, .junk, .junk, .junk, .junk, .junk, .junk], [.arr (encL en_i64 y0)], 0⟩
theorem L39_0_ok (s0 : (List Int)) : ∀ s st o, ghostsD g39_0 st = some (F39_0 s0 s) → iter (lcs_Rising_L0 s0) s = some o →
    Wp (evW Try.prog A0 39 (.loop L39_0) st) (OutQ (F39_0 s0) g39_0 (fun n s st => n = 0 ∧ ghostsD [.keep [0, 3, 4, 5]] st = some (F39_0 s0 s)) (fun r st => finishD Try.prog A0 39 Try.f39 st = some (.p (.lst false r.length (encL en_i64 r)), [])) o) := by
 refine Wp.iter ?_
 intro s st o hg h
 obtain ⟨s4, s5, y0⟩ := s
 unfold lcs_Rising_L0 at h
 unfold g39_0 F39_0 at hg ⊢
 (try simp only [] at h hg)
 unfold L39_0 bodyOf Try.f39; simp only [Option.getD_some, loopsOf, List.append_nil, List.nil_append, List.cons_append, List.getD_cons_zero, List.getD_cons_succ]
 by_cases h3 : (0 : Int) ≤ s5
 ·rw [if_pos h3] at h
  have h3' : decide ((0 : Int) ≤ s5) = true := decide_eq_true h3
  obtain ⟨v4, h5, h⟩ := Option.bind_eq_some_iff.1 h
  obtain ⟨h5a, h5b, _⟩ := rd_some h5
  have h6 : ∀ (H : List Ob) (id : Nat), stdOb H id (s5.toNat * 1) (.p (.v (.int .i64 (1 : Int)))) (some (.arr (encL en_i64 y0))) = some (H.set id (.arr (encL en_i64 (y0.set s5.toNat (1 : Int))))) := fun H id => std_enc0 en_i64_len h5 (by decide) (by rw [en_i64_eq, en_i64_eq]; rfl)
  have h7 : (y0.set s5.toNat (1 : Int)).length = y0.length := List.length_set
  obtain ⟨o, h24, h⟩ := Option.bind_eq_some_iff.1 h
  simp (maxSteps := 10000000) (implicitDefEqProofs := false) (disch := first | assumption | omega | exact rfl) only [bs, rs39, ls39, Nat.reduceAdd, ↓reduceIte, lenD_lst u38, lenD_ref u38, loadD_iptr a3, loadD_ptr a3, maxD_int, storeD_int z3, wks_nil_, hg, ↓h3', h6]
  refine Wp.ctx (fun x => seqW _ _ _ _ (blockW _ (seqW _ _ _ _ (blockW _ (x))))) (L39_1_ok s0 s4 s5 (w64 (s5 + (1 : Int)), (y0.set s5.toNat (1 : Int))) _ o (by unfold F39_1; simp only [List.length_set, cpL_len]; kernel_rfl) h24) ?_
  intro e st hq
  cases o with
  | next _ => (first | cases h | (simp at h))
  | jmp n_ s_ =>
   obtain ⟨rfl, rfl, hq⟩ := hq
   obtain ⟨s6_25, y0_25⟩ := s_
   unfold F39_1 at hq
   (try simp only [] at h hq)
   obtain ⟨v26, h27, h⟩ := Option.bind_eq_some_iff.1 h
   obtain ⟨h27a, h27b, _⟩ := rd_some h27
   have h28 := ce_3_x h27
   obtain rfl := Option.some.inj h
   simp (maxSteps := 10000000) (implicitDefEqProofs := false) (disch := first | assumption | omega | exact rfl) only [bs, rs39, ls39, Nat.reduceAdd, ↓reduceIte, lenD_lst u38, lenD_ref u38, loadD_iptr a3, loadD_ptr a3, maxD_int, storeD_int z3, wks_nil_, hg, ↓h3', h6, hq, h28]
   exact ⟨rfl, by kernel_rfl⟩
  | ret _ => (first | cases h | (simp at h))
 ·rw [if_neg h3] at h
  have h3' : decide ((0 : Int) ≤ s5) = false := decide_eq_false h3
  obtain rfl := Option.some.inj h
  simp (maxSteps := 10000000) (implicitDefEqProofs := false) (disch := first | assumption | omega | exact rfl) only [bs, rs39, ls39, Nat.reduceAdd, ↓reduceIte, lenD_lst u38, lenD_ref u38, loadD_iptr a3, loadD_ptr a3, maxD_int, storeD_int z3, wks_nil_, hg, ↓h3']
  exact ⟨rfl, rfl, by kernel_rfl⟩
theorem f39_ok  (x0 : (List Int)) (r : (List Int)) (h : lcs_Rising x0 = some r) : callW Try.prog A0 39 [.p (.lst false x0.length (encL en_i64 x0))] [] = some (.p (.lst false r.length (encL en_i64 r)), []) := by
 refine call_ofH (fn := Try.f39) (c := bodyOf Try.f39) rfl (by kernel_rfl) (by kernel_rfl) ?_
 rw [show initS Try.f39 [.p (.lst false x0.length (encL en_i64 x0))] [] = ⟨.p (.lst false x0.length (encL en_i64 x0)) :: List.replicate 97 undefD, [], 0⟩ from by kernel_rfl]
 unfold lcs_Rising at h
 unfold bodyOf Try.f39; simp only [Option.getD_some, loopsOf, List.append_nil, List.nil_append, List.cons_append, List.getD_cons_zero, List.getD_cons_succ]
 simp only [List.replicate]
 by_cases hw_ : 0 ≤ (x0.length : Int) ∧ (x0.length : Int) * 8 ≤ 140737488355328
 case neg => rw [if_neg hw_] at h; cases h
 rw [if_pos hw_] at h
 obtain ⟨h1, h2⟩ := hw_
 obtain ⟨o, h29, h⟩ := Option.bind_eq_some_iff.1 h
 simp (maxSteps := 10000000) (implicitDefEqProofs := false) (disch := first | assumption | omega | exact rfl) only [bs, rs39, ls39, Nat.reduceAdd, ↓reduceIte, lenD_lst u38, lenD_ref u38, loadD_iptr a3, loadD_ptr a3, maxD_int, storeD_int z3, wks_nil_]
 refine Wp.ctx (fun x => seqW _ _ _ _ (blockW _ (x))) (L39_0_ok x0 ((0 : Int), w64 ((x0.length : Int) - (1 : Int)), (List.replicate (x0.length : Int).toNat (0 : Int))) _ o (by kernel_rfl) h29) ?_
 intro e st hq
 cases o with
 | next _ => (first | cases h | (simp at h))
 | jmp n_ s_ =>
  obtain ⟨rfl, rfl, hq⟩ := hq
  obtain ⟨s4_30, s5_30, y0_30⟩ := s_
  unfold F39_0 at hq
  (try simp only [] at h hq)
  obtain ⟨o, h51, h⟩ := Option.bind_eq_some_iff.1 h
  simp (maxSteps := 10000000) (implicitDefEqProofs := false) (disch := first | assumption | omega | exact rfl) only [bs, rs39, ls39, Nat.reduceAdd, ↓reduceIte, lenD_lst u38, lenD_ref u38, loadD_iptr a3, loadD_ptr a3, maxD_int, storeD_int z3, wks_nil_, hq]
  refine Wp.ctx (fun x => seqW _ _ _ _ (blockW _ (x))) (L39_2_ok x0 (x0.length : Int) y0_30 (s4_30, (0 : Int), ([] : List Int)) _ o (by kernel_rfl) h51) ?_
  intro e st hq
  cases o with
  | next _ => (first | cases h | (simp at h))
  | jmp n_ s_ =>
   obtain ⟨rfl, rfl, hq⟩ := hq
   obtain ⟨s4_52, s60_52, y1_52⟩ := s_
   unfold F39_2 at hq
   (try simp only [] at h hq)
   obtain rfl := Option.some.inj h
   simp (maxSteps := 10000000) (implicitDefEqProofs := false) (disch := first | assumption | omega | exact rfl) only [bs, rs39, ls39, Nat.reduceAdd, ↓reduceIte, lenD_lst u38, lenD_ref u38, loadD_iptr a3, loadD_ptr a3, maxD_int, storeD_int z3, wks_nil_, hq, hq]
   refine ⟨by first | exact .inl trivial | exact .inr trivial | simp, ?_⟩
   exact finish_is (ds := [.ref 1 0 y1_52.length 1]) (x := .lst false y1_52.length (encL en_i64 y1_52)) (y := .lst false y1_52.length (encL en_i64 y1_52)) (l := [1]) rfl rfl rfl (purify1_enc en_i64_len rfl (by first | rfl | omega)) (by first | rfl | (simp only [wk, wks, wkL]; first | done | rfl))
  | ret _ => (first | cases h | (simp at h))
 | ret _ => (first | cases h | (simp at h))
theorem lcs_Rising_call {b1 : Bool} {H : List Ob} {x0 : (List Int)} {r : (List Int)} (h : lcs_Rising x0 = some r) : callD (callW Try.prog A0) A0 H 39 [.p (.lst b1 x0.length (encL en_i64 x0))] = some (.p (.lst false r.length (encL en_i64 r)), none) :=
  callD_fun (args := [.lst b1 x0.length (encL en_i64 x0)]) rfl rfl rfl (by simp only [List.map_cons, List.map_nil, wk, wks, wkL]; exact f39_ok x0 _ h)
def ls18 := And.intro @ap_38_38 (And.intro @bs_38_1 (And.intro @idxL_38 (@slo_38)))
noncomputable def L18_0 : Code := (loopsOf (bodyOf Try.f18)).getD 0 .skip
def g18_0 : List Ghost := [.own 3 1, .weak [4], .keep [3, 4, 9, 10]]
def F18_0 (s9 : Int) : ((List Int) × Int × (List Int)) → St := fun (s4, s10, y0) => ⟨[.junk, .junk, .junk, .ref 0 0 y0.length 1, .p (.lst false s4.length (encL en_i64 s4)), .junk, .junk, .junk, .junk, iv s9, iv s10, .junk, .junk, .junk, .junk, .junk, .junk, .junk, .junk, .junk, .junk, .junk, .junk, .junk, .junk, .junk, .junk, .junk, .junk, .junk, .junk], [.arr (encL en_i64 y0)], 0⟩
theorem L18_0_ok (s9 : Int) : ∀ s st o, ghostsD g18_0 st = some (F18_0 s9 s) → iter (moves_Least_L0 s9) s = some o →
    Wp (evW Try.prog A0 18 (.loop L18_0) st) (OutQ (F18_0 s9) g18_0 (fun n s st => n = 0 ∧ ghostsD [.keep [3, 4, 9, 10]] st = some (F18_0 s9 s)) (fun r st => finishD Try.prog A0 18 Try.f18 st = some (.p (.lst false r.length (encL en_i64 r)), [])) o) := by
 refine Wp.iter ?_
 intro s st o hg h
 obtain ⟨s4, s10, y0⟩ := s
 unfold moves_Least_L0 at h
 unfold g18_0 F18_0 at hg ⊢
 (try simp only [] at h hg)
 unfold L18_0 bodyOf Try.f18; simp only [Option.getD_some, loopsOf, List.append_nil, List.nil_append, List.cons_append, List.getD_cons_zero, List.getD_cons_succ]
 by_cases h4 : s10 < s9
 ·rw [if_pos h4] at h
  have h4' : decide (s10 < s9) = true := decide_eq_true h4
  by_cases h5 : (0 : Int) < (s4.length : Int)
  ·rw [if_pos h5] at h
   have h5' : decide ((0 : Int) < (s4.length : Int)) = true := decide_eq_true h5
   obtain ⟨v6, h7, h⟩ := Option.bind_eq_some_iff.1 h
   obtain ⟨h7a, h7b, _⟩ := rd_some h7
   have h8 := ce_3_x h7
   by_cases h9 : v6 = s10
   ·rw [if_pos h9] at h
    have h9' : decide (v6 = s10) = true := decide_eq_true h9
    by_cases hw_ : 0 ≤ (1 : Int) ∧ (1 : Int) ≤ (s4.length : Int)
    case neg => rw [if_neg hw_] at h; cases h
    rw [if_pos hw_] at h
    obtain ⟨h10, h11⟩ := hw_
    obtain rfl := Option.some.inj h
    simp (maxSteps := 10000000) (implicitDefEqProofs := false) (disch := first | assumption | omega | exact rfl) only [bs, rs18, ls18, Nat.reduceAdd, ↓reduceIte, lenD_lst u38, loadD_iptr a3, wks_nil_, hg, ↓h4', ↓h5', h8, ↓h9']
    exact ⟨rfl, by kernel_rfl⟩
   ·rw [if_neg h9] at h
    have h9' : decide (v6 = s10) = false := decide_eq_false h9
    by_cases hw_ : (y0.length + 1) * 8 ≤ 140737488355328
    case neg => rw [if_neg hw_] at h; cases h
    rw [if_pos hw_] at h
    have h13 := hw_
    have h12 : ∀ (H : List Ob) (id : Nat), apOb H id 0 y0.length 1 1 1 8 [.v (.int .i64 s10)] (some (.arr (encL en_i64 y0))) = some (.ref H.length 0 (y0 ++ [s10]).length 1, H.set id .dead ++ [.arr (encL en_i64 (y0 ++ [s10]))]) := fun H id => ap_enc (y := [s10]) en_i64_len (by first | rfl | omega) rfl (by first | (simp only [encL_cons, encL_nil, en_i64_eq, List.cons_append, List.nil_append]; done) | (simp only [encL_cons, encL_nil, en_i64_eq, List.cons_append, List.nil_append]; rfl) | rfl) (by assumption)
    obtain rfl := Option.some.inj h
    simp (maxSteps := 10000000) (implicitDefEqProofs := false) (disch := first | assumption | omega | exact rfl) only [bs, rs18, ls18, Nat.reduceAdd, ↓reduceIte, lenD_lst u38, loadD_iptr a3, wks_nil_, hg, ↓h4', ↓h5', h8, ↓h9', h12]
    exact ⟨rfl, by kernel_rfl⟩
  ·rw [if_neg h5] at h
   have h5' : decide ((0 : Int) < (s4.length : Int)) = false := decide_eq_false h5
   by_cases hw_ : (y0.length + 1) * 8 ≤ 140737488355328
   case neg => rw [if_neg hw_] at h; cases h
   rw [if_pos hw_] at h
   have h15 := hw_
   have h14 : ∀ (H : List Ob) (id : Nat), apOb H id 0 y0.length 1 1 1 8 [.v (.int .i64 s10)] (some (.arr (encL en_i64 y0))) = some (.ref H.length 0 (y0 ++ [s10]).length 1, H.set id .dead ++ [.arr (encL en_i64 (y0 ++ [s10]))]) := fun H id => ap_enc (y := [s10]) en_i64_len (by first | rfl | omega) rfl (by first | (simp only [encL_cons, encL_nil, en_i64_eq, List.cons_append, List.nil_append]; done) | (simp only [encL_cons, encL_nil, en_i64_eq, List.cons_append, List.nil_append]; rfl) | rfl) (by assumption)
   obtain rfl := Option.some.inj h
   simp (maxSteps := 10000000) (implicitDefEqProofs := false) (disch := first | assumption | omega | exact rfl) only [bs, rs18, ls18, Nat.reduceAdd, ↓reduceIte, lenD_lst u38, loadD_iptr a3, wks_nil_, hg, ↓h4', ↓h5', h14]
   exact ⟨rfl, by kernel_rfl⟩
 ·rw [if_neg h4] at h
  have h4' : decide (s10 < s9) = false := decide_eq_false h4
  obtain rfl := Option.some.inj h
  simp (maxSteps := 10000000) (implicitDefEqProofs := false) (disch := first | assumption | omega | exact rfl) only [bs, rs18, ls18, Nat.reduceAdd, ↓reduceIte, lenD_lst u38, loadD_iptr a3, wks_nil_, hg, ↓h4']
  exact ⟨rfl, rfl, by kernel_rfl⟩
theorem f18_ok  (x0 : (List Int)) (r : (List Int)) (h : moves_Least x0 = some r) : callW Try.prog A0 18 [.p (.lst false x0.length (encL en_i64 x0))] [] = some (.p (.lst false r.length (encL en_i64 r)), []) := by
 refine call_ofH (fn := Try.f18) (c := bodyOf Try.f18) rfl (by kernel_rfl) (by kernel_rfl) ?_
 rw [show initS Try.f18 [.p (.lst false x0.length (encL en_i64 x0))] [] = ⟨.p (.lst false x0.length (encL en_i64 x0)) :: List.replicate 30 undefD, [], 0⟩ from by kernel_rfl]
 unfold moves_Least at h
 unfold bodyOf Try.f18; simp only [Option.getD_some, loopsOf, List.append_nil, List.nil_append, List.cons_append, List.getD_cons_zero, List.getD_cons_succ]
 simp only [List.replicate]
 obtain ⟨r1, h2, h⟩ := Option.bind_eq_some_iff.1 h
 have h3 : ∀ H, callD (callW Try.prog A0) A0 H 39 [.p (.lst false x0.length (encL en_i64 x0))] = some (.p (.lst false r1.length (encL en_i64 r1)), none) := fun H => lcs_Rising_call h2
 obtain ⟨o, h16, h⟩ := Option.bind_eq_some_iff.1 h
 simp (maxSteps := 10000000) (implicitDefEqProofs := false) (disch := first | assumption | omega | exact rfl) only [bs, rs18, ls18, Nat.reduceAdd, ↓reduceIte, lenD_lst u38, loadD_iptr a3, wks_nil_, h3]
 refine Wp.ctx (fun x => seqW _ _ _ _ (blockW _ (x))) (L18_0_ok (x0.length : Int) (r1, (0 : Int), ([] : List Int)) _ o (by kernel_rfl) h16) ?_
 intro e st hq
 cases o with
 | next _ => (first | cases h | (simp at h))
 | jmp n_ s_ =>
  obtain ⟨rfl, rfl, hq⟩ := hq
  obtain ⟨s4_17, s10_17, y0_17⟩ := s_
  unfold F18_0 at hq
  (try simp only [] at h hq)
  obtain rfl := Option.some.inj h
  simp (maxSteps := 10000000) (implicitDefEqProofs := false) (disch := first | assumption | omega | exact rfl) only [bs, rs18, ls18, Nat.reduceAdd, ↓reduceIte, lenD_lst u38, loadD_iptr a3, wks_nil_, h3, hq]
  refine ⟨by first | exact .inl trivial | exact .inr trivial | simp, ?_⟩
  exact finish_is (ds := [.ref 0 0 y0_17.length 1]) (x := .lst false y0_17.length (encL en_i64 y0_17)) (y := .lst false y0_17.length (encL en_i64 y0_17)) (l := [0]) rfl rfl rfl (purify1_enc en_i64_len rfl (by first | rfl | omega)) (by first | rfl | (simp only [wk, wks, wkL]; first | done | rfl))
 | ret _ => (first | cases h | (simp at h))
theorem moves_Least_callp {x0 : (List Int)} {r : (List Int)} (h : moves_Least x0 = some r) : callW Try.prog A0 18 [.p (.lst false x0.length (encL en_i64 x0))] [] = some (.p (.lst false r.length (encL en_i64 r)), []) := f18_ok x0 _ h
def ls34 := And.intro @faP_44_1 (@varld_3_0_1)
theorem f34_ok  (x0 : Move) (x1 : Move) (r : Int) (h : moves_Moves_c2 x0 x1 = some r) : callW Try.prog A0 34 [.p (.agg [.v (.int .i64 x0.Kind), .v (.int .i64 x0.Old), .v (.int .i64 x0.New)]), .p (.agg [.v (.int .i64 x1.Kind), .v (.int .i64 x1.Old), .v (.int .i64 x1.New)])] [] = some (.p (.v (.int .i64 r)), []) := by
 refine call_ofH (fn := Try.f34) (c := bodyOf Try.f34) rfl (by kernel_rfl) (by kernel_rfl) ?_
 rw [show initS Try.f34 [.p (.agg [.v (.int .i64 x0.Kind), .v (.int .i64 x0.Old), .v (.int .i64 x0.New)]), .p (.agg [.v (.int .i64 x1.Kind), .v (.int .i64 x1.Old), .v (.int .i64 x1.New)])] [] = ⟨.p (.agg [.v (.int .i64 x0.Kind), .v (.int .i64 x0.Old), .v (.int .i64 x0.New)]) :: .p (.agg [.v (.int .i64 x1.Kind), .v (.int .i64 x1.Old), .v (.int .i64 x1.New)]) :: List.replicate 8 undefD, [], 0⟩ from by kernel_rfl]
 unfold moves_Moves_c2 at h
 unfold bodyOf Try.f34; simp only [Option.getD_some, loopsOf, List.append_nil, List.nil_append, List.cons_append, List.getD_cons_zero, List.getD_cons_succ]
 simp only [List.replicate]
 obtain rfl := Option.some.inj h
 simp (maxSteps := 10000000) (implicitDefEqProofs := false) (disch := first | assumption | omega | exact rfl) only [bs, rs34, ls34, Nat.reduceAdd, ↓reduceIte, loadD_ptr a3]
 refine ⟨by first | exact .inl trivial | exact .inr trivial | simp, ?_⟩
 exact finish_is (ds := [iv (w64 (x0.Old - x1.Old))]) (x := .v (.int .i64 (w64 (x0.Old - x1.Old)))) (y := .v (.int .i64 (w64 (x0.Old - x1.Old)))) (l := []) rfl rfl rfl rfl (by first | rfl | (simp only [wk, wks, wkL]; first | done | rfl))
theorem moves_Moves_c2_call {H : List Ob} {x0 : Move} {x1 : Move} {r : Int} (h : moves_Moves_c2 x0 x1 = some r) : callD (callW Try.prog A0) A0 H 34 [.p (.agg [.v (.int .i64 x0.Kind), .v (.int .i64 x0.Old), .v (.int .i64 x0.New)]), .p (.agg [.v (.int .i64 x1.Kind), .v (.int .i64 x1.Old), .v (.int .i64 x1.New)])] = some (.p (.v (.int .i64 r)), none) :=
  callD_fun (args := [.agg [.v (.int .i64 x0.Kind), .v (.int .i64 x0.Old), .v (.int .i64 x0.New)], .agg [.v (.int .i64 x1.Kind), .v (.int .i64 x1.Old), .v (.int .i64 x1.New)]]) rfl rfl rfl (by simp only [List.map_cons, List.map_nil, wk, wks, wkL]; exact f34_ok x0 x1 _ h)
def ls61 := And.intro @cv_5_3 (@cv_88_5)
theorem f61_ok  (x0 : Int) (r : Int) (h : math_bits_Len64 x0 = some r) : callW Try.prog A0 61 [.p (.v (.int .u64 x0))] [] = some (.p (.v (.int .i64 r)), []) := by
 refine call_ofH (fn := Try.f61) (c := bodyOf Try.f61) rfl (by kernel_rfl) (by kernel_rfl) ?_
 rw [show initS Try.f61 [.p (.v (.int .u64 x0))] [] = ⟨.p (.v (.int .u64 x0)) :: List.replicate 24 undefD, [], 0⟩ from by kernel_rfl]
 unfold math_bits_Len64 at h
 unfold bodyOf Try.f61; simp only [Option.getD_some, loopsOf, List.append_nil, List.nil_append, List.cons_append, List.getD_cons_zero, List.getD_cons_succ]
 simp only [List.replicate]
 by_cases h1 : (4294967296 : Int) ≤ x0
 ·rw [if_pos h1] at h
  have h1' : decide ((4294967296 : Int) ≤ x0) = true := decide_eq_true h1
  obtain ⟨q2, h3, h⟩ := Option.bind_eq_some_iff.1 h
  have h4 : ∀ xo yo, binD Try.prog .shr 88 xo yo (.p (.v (.int .u64 x0))) (.p (.v (.int .u64 (32 : Int)))) = some (.p (.v (.int .u64 q2))) := fun xo yo => binD_shr_k h3
  by_cases h5 : (65536 : Int) ≤ q2
  ·rw [if_pos h5] at h
   have h5' : decide ((65536 : Int) ≤ q2) = true := decide_eq_true h5
   obtain ⟨q6, h7, h⟩ := Option.bind_eq_some_iff.1 h
   have h8 : ∀ xo yo, binD Try.prog .shr 88 xo yo (.p (.v (.int .u64 q2))) (.p (.v (.int .u64 (16 : Int)))) = some (.p (.v (.int .u64 q6))) := fun xo yo => binD_shr_k h7
   by_cases h9 : (256 : Int) ≤ q6
   ·rw [if_pos h9] at h
    have h9' : decide ((256 : Int) ≤ q6) = true := decide_eq_true h9
    obtain ⟨q10, h11, h⟩ := Option.bind_eq_some_iff.1 h
    have h12 : ∀ xo yo, binD Try.prog .shr 88 xo yo (.p (.v (.int .u64 q6))) (.p (.v (.int .u64 (8 : Int)))) = some (.p (.v (.int .u64 q10))) := fun xo yo => binD_shr_k h11
    obtain ⟨q13, h14, h⟩ := Option.bind_eq_some_iff.1 h
    have h15 : indexD Try.prog 9 (.p (.v (.string (ByteArray.mk (((([0, 1, 2, 2, 3, 3, 3, 3, 4, 4, 4, 4, 4, 4, 4, 4, 5, 5, 5, 5, 5, 5, 5, 5, 5, 5, 5, 5, 5, 5, 5, 5, 6, 6, 6, 6, 6, 6, 6, 6, 6, 6, 6, 6, 6, 6, 6, 6, 6, 6, 6, 6, 6, 6, 6, 6, 6, 6, 6, 6, 6, 6, 6, 6] : List UInt8).append ([7, 7, 7, 7, 7, 7, 7, 7, 7, 7, 7, 7, 7, 7, 7, 7, 7, 7, 7, 7, 7, 7, 7, 7, 7, 7, 7, 7, 7, 7, 7, 7, 7, 7, 7, 7, 7, 7, 7, 7, 7, 7, 7, 7, 7, 7, 7, 7, 7, 7, 7, 7, 7, 7, 7, 7, 7, 7, 7, 7, 7, 7, 7, 7] : List UInt8)).append (([8, 8, 8, 8, 8, 8, 8, 8, 8, 8, 8, 8, 8, 8, 8, 8, 8, 8, 8, 8, 8, 8, 8, 8, 8, 8, 8, 8, 8, 8, 8, 8, 8, 8, 8, 8, 8, 8, 8, 8, 8, 8, 8, 8, 8, 8, 8, 8, 8, 8, 8, 8, 8, 8, 8, 8, 8, 8, 8, 8, 8, 8, 8, 8] : List UInt8).append ([8, 8, 8, 8, 8, 8, 8, 8, 8, 8, 8, 8, 8, 8, 8, 8, 8, 8, 8, 8, 8, 8, 8, 8, 8, 8, 8, 8, 8, 8, 8, 8, 8, 8, 8, 8, 8, 8, 8, 8, 8, 8, 8, 8, 8, 8, 8, 8, 8, 8, 8, 8, 8, 8, 8, 8, 8, 8, 8, 8, 8, 8, 8, 8] : List UInt8))).toArray))))) (.p (.v (.int .u8 (IntKind.wrap .u8 q10)))) = some (.p (.v (.int .u8 q13))) := indexD_str Try.underlying9 h14
    obtain rfl := Option.some.inj h
    simp (maxSteps := 10000000) (implicitDefEqProofs := false) (disch := first | assumption | omega | exact rfl) only [bs, rs61, ls61, Nat.reduceAdd, ↓reduceIte, binD_geq_k, ↓h1', h4, ↓h5', h8, ↓h9', h12, h15]
    refine ⟨by first | exact .inl trivial | exact .inr trivial | simp, ?_⟩
    exact finish_is (ds := [iv (w64 ((w64 ((w64 ((32 : Int) + (16 : Int))) + (8 : Int))) + (IntKind.wrap .i64 q13)))]) (x := .v (.int .i64 (w64 ((w64 ((w64 ((32 : Int) + (16 : Int))) + (8 : Int))) + (IntKind.wrap .i64 q13))))) (y := .v (.int .i64 (w64 ((w64 ((w64 ((32 : Int) + (16 : Int))) + (8 : Int))) + (IntKind.wrap .i64 q13))))) (l := []) rfl rfl rfl rfl (by first | rfl | (simp only [wk, wks, wkL]; first | done | rfl))
   ·rw [if_neg h9] at h
    have h9' : decide ((256 : Int) ≤ q6) = false := decide_eq_false h9
    obtain ⟨q16, h17, h⟩ := Option.bind_eq_some_iff.1 h
    have h18 : indexD Try.prog 9 (.p (.v (.string (ByteArray.mk (((([0, 1, 2, 2, 3, 3, 3, 3, 4, 4, 4, 4, 4, 4, 4, 4, 5, 5, 5, 5, 5, 5, 5, 5, 5, 5, 5, 5, 5, 5, 5, 5, 6, 6, 6, 6, 6, 6, 6, 6, 6, 6, 6, 6, 6, 6, 6, 6, 6, 6, 6, 6, 6, 6, 6, 6, 6, 6, 6, 6, 6, 6, 6, 6] : List UInt8).append ([7, 7, 7, 7, 7, 7, 7, 7, 7, 7, 7, 7, 7, 7, 7, 7, 7, 7, 7, 7, 7, 7, 7, 7, 7, 7, 7, 7, 7, 7, 7, 7, 7, 7, 7, 7, 7, 7, 7, 7, 7, 7, 7, 7, 7, 7, 7, 7, 7, 7, 7, 7, 7, 7, 7, 7, 7, 7, 7, 7, 7, 7, 7, 7] : List UInt8)).append (([8, 8, 8, 8, 8, 8, 8, 8, 8, 8, 8, 8, 8, 8, 8, 8, 8, 8, 8, 8, 8, 8, 8, 8, 8, 8, 8, 8, 8, 8, 8, 8, 8, 8, 8, 8, 8, 8, 8, 8, 8, 8, 8, 8, 8, 8, 8, 8, 8, 8, 8, 8, 8, 8, 8, 8, 8, 8, 8, 8, 8, 8, 8, 8] : List UInt8).append ([8, 8, 8, 8, 8, 8, 8, 8, 8, 8, 8, 8, 8, 8, 8, 8, 8, 8, 8, 8, 8, 8, 8, 8, 8, 8, 8, 8, 8, 8, 8, 8, 8, 8, 8, 8, 8, 8, 8, 8, 8, 8, 8, 8, 8, 8, 8, 8, 8, 8, 8, 8, 8, 8, 8, 8, 8, 8, 8, 8, 8, 8, 8, 8] : List UInt8))).toArray))))) (.p (.v (.int .u8 (IntKind.wrap .u8 q6)))) = some (.p (.v (.int .u8 q16))) := indexD_str Try.underlying9 h17
    obtain rfl := Option.some.inj h
    simp (maxSteps := 10000000) (implicitDefEqProofs := false) (disch := first | assumption | omega | exact rfl) only [bs, rs61, ls61, Nat.reduceAdd, ↓reduceIte, binD_geq_k, ↓h1', h4, ↓h5', h8, ↓h9', h18]
    refine ⟨by first | exact .inl trivial | exact .inr trivial | simp, ?_⟩
    exact finish_is (ds := [iv (w64 ((w64 ((32 : Int) + (16 : Int))) + (IntKind.wrap .i64 q16)))]) (x := .v (.int .i64 (w64 ((w64 ((32 : Int) + (16 : Int))) + (IntKind.wrap .i64 q16))))) (y := .v (.int .i64 (w64 ((w64 ((32 : Int) + (16 : Int))) + (IntKind.wrap .i64 q16))))) (l := []) rfl rfl rfl rfl (by first | rfl | (simp only [wk, wks, wkL]; first | done | rfl))
  ·rw [if_neg h5] at h
   have h5' : decide ((65536 : Int) ≤ q2) = false := decide_eq_false h5
   by_cases h19 : (256 : Int) ≤ q2
   ·rw [if_pos h19] at h
    have h19' : decide ((256 : Int) ≤ q2) = true := decide_eq_true h19
    obtain ⟨q20, h21, h⟩ := Option.bind_eq_some_iff.1 h
    have h22 : ∀ xo yo, binD Try.prog .shr 88 xo yo (.p (.v (.int .u64 q2))) (.p (.v (.int .u64 (8 : Int)))) = some (.p (.v (.int .u64 q20))) := fun xo yo => binD_shr_k h21
    obtain ⟨q23, h24, h⟩ := Option.bind_eq_some_iff.1 h
    have h25 : indexD Try.prog 9 (.p (.v (.string (ByteArray.mk (((([0, 1, 2, 2, 3, 3, 3, 3, 4, 4, 4, 4, 4, 4, 4, 4, 5, 5, 5, 5, 5, 5, 5, 5, 5, 5, 5, 5, 5, 5, 5, 5, 6, 6, 6, 6, 6, 6, 6, 6, 6, 6, 6, 6, 6, 6, 6, 6, 6, 6, 6, 6, 6, 6, 6, 6, 6, 6, 6, 6, 6, 6, 6, 6] : List UInt8).append ([7, 7, 7, 7, 7, 7, 7, 7, 7, 7, 7, 7, 7, 7, 7, 7, 7, 7, 7, 7, 7, 7, 7, 7, 7, 7, 7, 7, 7, 7, 7, 7, 7, 7, 7, 7, 7, 7, 7, 7, 7, 7, 7, 7, 7, 7, 7, 7, 7, 7, 7, 7, 7, 7, 7, 7, 7, 7, 7, 7, 7, 7, 7, 7] : List UInt8)).append (([8, 8, 8, 8, 8, 8, 8, 8, 8, 8, 8, 8, 8, 8, 8, 8, 8, 8, 8, 8, 8, 8, 8, 8, 8, 8, 8, 8, 8, 8, 8, 8, 8, 8, 8, 8, 8, 8, 8, 8, 8, 8, 8, 8, 8, 8, 8, 8, 8, 8, 8, 8, 8, 8, 8, 8, 8, 8, 8, 8, 8, 8, 8, 8] : List UInt8).append ([8, 8, 8, 8, 8, 8, 8, 8, 8, 8, 8, 8, 8, 8, 8, 8, 8, 8, 8, 8, 8, 8, 8, 8, 8, 8, 8, 8, 8, 8, 8, 8, 8, 8, 8, 8, 8, 8, 8, 8, 8, 8, 8, 8, 8, 8, 8, 8, 8, 8, 8, 8, 8, 8, 8, 8, 8, 8, 8, 8, 8, 8, 8, 8] : List UInt8))).toArray))))) (.p (.v (.int .u8 (IntKind.wrap .u8 q20)))) = some (.p (.v (.int .u8 q23))) := indexD_str Try.underlying9 h24
    obtain rfl := Option.some.inj h
    simp (maxSteps := 10000000) (implicitDefEqProofs := false) (disch := first | assumption | omega | exact rfl) only [bs, rs61, ls61, Nat.reduceAdd, ↓reduceIte, binD_geq_k, ↓h1', h4, ↓h5', ↓h19', h22, h25]
    refine ⟨by first | exact .inl trivial | exact .inr trivial | simp, ?_⟩
    exact finish_is (ds := [iv (w64 ((w64 ((32 : Int) + (8 : Int))) + (IntKind.wrap .i64 q23)))]) (x := .v (.int .i64 (w64 ((w64 ((32 : Int) + (8 : Int))) + (IntKind.wrap .i64 q23))))) (y := .v (.int .i64 (w64 ((w64 ((32 : Int) + (8 : Int))) + (IntKind.wrap .i64 q23))))) (l := []) rfl rfl rfl rfl (by first | rfl | (simp only [wk, wks, wkL]; first | done | rfl))
   ·rw [if_neg h19] at h
    have h19' : decide ((256 : Int) ≤ q2) = false := decide_eq_false h19
    obtain ⟨q26, h27, h⟩ := Option.bind_eq_some_iff.1 h
    have h28 : indexD Try.prog 9 (.p (.v (.string (ByteArray.mk (((([0, 1, 2, 2, 3, 3, 3, 3, 4, 4, 4, 4, 4, 4, 4, 4, 5, 5, 5, 5, 5, 5, 5, 5, 5, 5, 5, 5, 5, 5, 5, 5, 6, 6, 6, 6, 6, 6, 6, 6, 6, 6, 6, 6, 6, 6, 6, 6, 6, 6, 6, 6, 6, 6, 6, 6, 6, 6, 6, 6, 6, 6, 6, 6] : List UInt8).append ([7, 7, 7, 7, 7, 7, 7, 7, 7, 7, 7, 7, 7, 7, 7, 7, 7, 7, 7, 7, 7, 7, 7, 7, 7, 7, 7, 7, 7, 7, 7, 7, 7, 7, 7, 7, 7, 7, 7, 7, 7, 7, 7, 7, 7, 7, 7, 7, 7, 7, 7, 7, 7, 7, 7, 7, 7, 7, 7, 7, 7, 7, 7, 7] : List UInt8)).append (([8, 8, 8, 8, 8, 8, 8, 8, 8, 8, 8, 8, 8, 8, 8, 8, 8, 8, 8, 8, 8, 8, 8, 8, 8, 8, 8, 8, 8, 8, 8, 8, 8, 8, 8, 8, 8, 8, 8, 8, 8, 8, 8, 8, 8, 8, 8, 8, 8, 8, 8, 8, 8, 8, 8, 8, 8, 8, 8, 8, 8, 8, 8, 8] : List UInt8).append ([8, 8, 8, 8, 8, 8, 8, 8, 8, 8, 8, 8, 8, 8, 8, 8, 8, 8, 8, 8, 8, 8, 8, 8, 8, 8, 8, 8, 8, 8, 8, 8, 8, 8, 8, 8, 8, 8, 8, 8, 8, 8, 8, 8, 8, 8, 8, 8, 8, 8, 8, 8, 8, 8, 8, 8, 8, 8, 8, 8, 8, 8, 8, 8] : List UInt8))).toArray))))) (.p (.v (.int .u8 (IntKind.wrap .u8 q2)))) = some (.p (.v (.int .u8 q26))) := indexD_str Try.underlying9 h27
    obtain rfl := Option.some.inj h
    simp (maxSteps := 10000000) (implicitDefEqProofs := false) (disch := first | assumption | omega | exact rfl) only [bs, rs61, ls61, Nat.reduceAdd, ↓reduceIte, binD_geq_k, ↓h1', h4, ↓h5', ↓h19', h28]
    refine ⟨by first | exact .inl trivial | exact .inr trivial | simp, ?_⟩
    exact finish_is (ds := [iv (w64 ((32 : Int) + (IntKind.wrap .i64 q26)))]) (x := .v (.int .i64 (w64 ((32 : Int) + (IntKind.wrap .i64 q26))))) (y := .v (.int .i64 (w64 ((32 : Int) + (IntKind.wrap .i64 q26))))) (l := []) rfl rfl rfl rfl (by first | rfl | (simp only [wk, wks, wkL]; first | done | rfl))
 ·rw [if_neg h1] at h
  have h1' : decide ((4294967296 : Int) ≤ x0) = false := decide_eq_false h1
  by_cases h29 : (65536 : Int) ≤ x0
  ·rw [if_pos h29] at h
   have h29' : decide ((65536 : Int) ≤ x0) = true := decide_eq_true h29
   obtain ⟨q30, h31, h⟩ := Option.bind_eq_some_iff.1 h
   have h32 : ∀ xo yo, binD Try.prog .shr 88 xo yo (.p (.v (.int .u64 x0))) (.p (.v (.int .u64 (16 : Int)))) = some (.p (.v (.int .u64 q30))) := fun xo yo => binD_shr_k h31
   by_cases h33 : (256 : Int) ≤ q30
   ·rw [if_pos h33] at h
    have h33' : decide ((256 : Int) ≤ q30) = true := decide_eq_true h33
    obtain ⟨q34, h35, h⟩ := Option.bind_eq_some_iff.1 h
    have h36 : ∀ xo yo, binD Try.prog .shr 88 xo yo (.p (.v (.int .u64 q30))) (.p (.v (.int .u64 (8 : Int)))) = some (.p (.v (.int .u64 q34))) := fun xo yo => binD_shr_k h35
    obtain ⟨q37, h38, h⟩ := Option.bind_eq_some_iff.1 h
    have h39 : indexD Try.prog 9 (.p (.v (.string (ByteArray.mk (((([0, 1, 2, 2, 3, 3, 3, 3, 4, 4, 4, 4, 4, 4, 4, 4, 5, 5, 5, 5, 5, 5, 5, 5, 5, 5, 5, 5, 5, 5, 5, 5, 6, 6, 6, 6, 6, 6, 6, 6, 6, 6, 6, 6, 6, 6, 6, 6, 6, 6, 6, 6, 6, 6, 6, 6, 6, 6, 6, 6, 6, 6, 6, 6] : List UInt8).append ([7, 7, 7, 7, 7, 7, 7, 7, 7, 7, 7, 7, 7, 7, 7, 7, 7, 7, 7, 7, 7, 7, 7, 7, 7, 7, 7, 7, 7, 7, 7, 7, 7, 7, 7, 7, 7, 7, 7, 7, 7, 7, 7, 7, 7, 7, 7, 7, 7, 7, 7, 7, 7, 7, 7, 7, 7, 7, 7, 7, 7, 7, 7, 7] : List UInt8)).append (([8, 8, 8, 8, 8, 8, 8, 8, 8, 8, 8, 8, 8, 8, 8, 8, 8, 8, 8, 8, 8, 8, 8, 8, 8, 8, 8, 8, 8, 8, 8, 8, 8, 8, 8, 8, 8, 8, 8, 8, 8, 8, 8, 8, 8, 8, 8, 8, 8, 8, 8, 8, 8, 8, 8, 8, 8, 8, 8, 8, 8, 8, 8, 8] : List UInt8).append ([8, 8, 8, 8, 8, 8, 8, 8, 8, 8, 8, 8, 8, 8, 8, 8, 8, 8, 8, 8, 8, 8, 8, 8, 8, 8, 8, 8, 8, 8, 8, 8, 8, 8, 8, 8, 8, 8, 8, 8, 8, 8, 8, 8, 8, 8, 8, 8, 8, 8, 8, 8, 8, 8, 8, 8, 8, 8, 8, 8, 8, 8, 8, 8] : List UInt8))).toArray))))) (.p (.v (.int .u8 (IntKind.wrap .u8 q34)))) = some (.p (.v (.int .u8 q37))) := indexD_str Try.underlying9 h38
    obtain rfl := Option.some.inj h
    simp (maxSteps := 10000000) (implicitDefEqProofs := false) (disch := first | assumption | omega | exact rfl) only [bs, rs61, ls61, Nat.reduceAdd, ↓reduceIte, binD_geq_k, ↓h1', ↓h29', h32, ↓h33', h36, h39]
    refine ⟨by first | exact .inl trivial | exact .inr trivial | simp, ?_⟩
    exact finish_is (ds := [iv (w64 ((w64 ((w64 ((0 : Int) + (16 : Int))) + (8 : Int))) + (IntKind.wrap .i64 q37)))]) (x := .v (.int .i64 (w64 ((w64 ((w64 ((0 : Int) + (16 : Int))) + (8 : Int))) + (IntKind.wrap .i64 q37))))) (y := .v (.int .i64 (w64 ((w64 ((w64 ((0 : Int) + (16 : Int))) + (8 : Int))) + (IntKind.wrap .i64 q37))))) (l := []) rfl rfl rfl rfl (by first | rfl | (simp only [wk, wks, wkL]; first | done | rfl))
   ·rw [if_neg h33] at h
    have h33' : decide ((256 : Int) ≤ q30) = false := decide_eq_false h33
    obtain ⟨q40, h41, h⟩ := Option.bind_eq_some_iff.1 h
    have h42 : indexD Try.prog 9 (.p (.v (.string (ByteArray.mk (((([0, 1, 2, 2, 3, 3, 3, 3, 4, 4, 4, 4, 4, 4, 4, 4, 5, 5, 5, 5, 5, 5, 5, 5, 5, 5, 5, 5, 5, 5, 5, 5, 6, 6, 6, 6, 6, 6, 6, 6, 6, 6, 6, 6, 6, 6, 6, 6, 6, 6, 6, 6, 6, 6, 6, 6, 6, 6, 6, 6, 6, 6, 6, 6] : List UInt8).append ([7, 7, 7, 7, 7, 7, 7, 7, 7, 7, 7, 7, 7, 7, 7, 7, 7, 7, 7, 7, 7, 7, 7, 7, 7, 7, 7, 7, 7, 7, 7, 7, 7, 7, 7, 7, 7, 7, 7, 7, 7, 7, 7, 7, 7, 7, 7, 7, 7, 7, 7, 7, 7, 7, 7, 7, 7, 7, 7, 7, 7, 7, 7, 7] : List UInt8)).append (([8, 8, 8, 8, 8, 8, 8, 8, 8, 8, 8, 8, 8, 8, 8, 8, 8, 8, 8, 8, 8, 8, 8, 8, 8, 8, 8, 8, 8, 8, 8, 8, 8, 8, 8, 8, 8, 8, 8, 8, 8, 8, 8, 8, 8, 8, 8, 8, 8, 8, 8, 8, 8, 8, 8, 8, 8, 8, 8, 8, 8, 8, 8, 8] : List UInt8).append ([8, 8, 8, 8, 8, 8, 8, 8, 8, 8, 8, 8, 8, 8, 8, 8, 8, 8, 8, 8, 8, 8, 8, 8, 8, 8, 8, 8, 8, 8, 8, 8, 8, 8, 8, 8, 8, 8, 8, 8, 8, 8, 8, 8, 8, 8, 8, 8, 8, 8, 8, 8, 8, 8, 8, 8, 8, 8, 8, 8, 8, 8, 8, 8] : List UInt8))).toArray))))) (.p (.v (.int .u8 (IntKind.wrap .u8 q30)))) = some (.p (.v (.int .u8 q40))) := indexD_str Try.underlying9 h41
    obtain rfl := Option.some.inj h
    simp (maxSteps := 10000000) (implicitDefEqProofs := false) (disch := first | assumption | omega | exact rfl) only [bs, rs61, ls61, Nat.reduceAdd, ↓reduceIte, binD_geq_k, ↓h1', ↓h29', h32, ↓h33', h42]
    refine ⟨by first | exact .inl trivial | exact .inr trivial | simp, ?_⟩
    exact finish_is (ds := [iv (w64 ((w64 ((0 : Int) + (16 : Int))) + (IntKind.wrap .i64 q40)))]) (x := .v (.int .i64 (w64 ((w64 ((0 : Int) + (16 : Int))) + (IntKind.wrap .i64 q40))))) (y := .v (.int .i64 (w64 ((w64 ((0 : Int) + (16 : Int))) + (IntKind.wrap .i64 q40))))) (l := []) rfl rfl rfl rfl (by first | rfl | (simp only [wk, wks, wkL]; first | done | rfl))
  ·rw [if_neg h29] at h
   have h29' : decide ((65536 : Int) ≤ x0) = false := decide_eq_false h29
   by_cases h43 : (256 : Int) ≤ x0
   ·rw [if_pos h43] at h
    have h43' : decide ((256 : Int) ≤ x0) = true := decide_eq_true h43
    obtain ⟨q44, h45, h⟩ := Option.bind_eq_some_iff.1 h
    have h46 : ∀ xo yo, binD Try.prog .shr 88 xo yo (.p (.v (.int .u64 x0))) (.p (.v (.int .u64 (8 : Int)))) = some (.p (.v (.int .u64 q44))) := fun xo yo => binD_shr_k h45
    obtain ⟨q47, h48, h⟩ := Option.bind_eq_some_iff.1 h
    have h49 : indexD Try.prog 9 (.p (.v (.string (ByteArray.mk (((([0, 1, 2, 2, 3, 3, 3, 3, 4, 4, 4, 4, 4, 4, 4, 4, 5, 5, 5, 5, 5, 5, 5, 5, 5, 5, 5, 5, 5, 5, 5, 5, 6, 6, 6, 6, 6, 6, 6, 6, 6, 6, 6, 6, 6, 6, 6, 6, 6, 6, 6, 6, 6, 6, 6, 6, 6, 6, 6, 6, 6, 6, 6, 6] : List UInt8).append ([7, 7, 7, 7, 7, 7, 7, 7, 7, 7, 7, 7, 7, 7, 7, 7, 7, 7, 7, 7, 7, 7, 7, 7, 7, 7, 7, 7, 7, 7, 7, 7, 7, 7, 7, 7, 7, 7, 7, 7, 7, 7, 7, 7, 7, 7, 7, 7, 7, 7, 7, 7, 7, 7, 7, 7, 7, 7, 7, 7, 7, 7, 7, 7] : List UInt8)).append (([8, 8, 8, 8, 8, 8, 8, 8, 8, 8, 8, 8, 8, 8, 8, 8, 8, 8, 8, 8, 8, 8, 8, 8, 8, 8, 8, 8, 8, 8, 8, 8, 8, 8, 8, 8, 8, 8, 8, 8, 8, 8, 8, 8, 8, 8, 8, 8, 8, 8, 8, 8, 8, 8, 8, 8, 8, 8, 8, 8, 8, 8, 8, 8] : List UInt8).append ([8, 8, 8, 8, 8, 8, 8, 8, 8, 8, 8, 8, 8, 8, 8, 8, 8, 8, 8, 8, 8, 8, 8, 8, 8, 8, 8, 8, 8, 8, 8, 8, 8, 8, 8, 8, 8, 8, 8, 8, 8, 8, 8, 8, 8, 8, 8, 8, 8, 8, 8, 8, 8, 8, 8, 8, 8, 8, 8, 8, 8, 8, 8, 8] : List UInt8))).toArray))))) (.p (.v (.int .u8 (IntKind.wrap .u8 q44)))) = some (.p (.v (.int .u8 q47))) := indexD_str Try.underlying9 h48
    obtain rfl := Option.some.inj h
    simp (maxSteps := 10000000) (implicitDefEqProofs := false) (disch := first | assumption | omega | exact rfl) only [bs, rs61, ls61, Nat.reduceAdd, ↓reduceIte, binD_geq_k, ↓h1', ↓h29', ↓h43', h46, h49]
    refine ⟨by first | exact .inl trivial | exact .inr trivial | simp, ?_⟩
    exact finish_is (ds := [iv (w64 ((w64 ((0 : Int) + (8 : Int))) + (IntKind.wrap .i64 q47)))]) (x := .v (.int .i64 (w64 ((w64 ((0 : Int) + (8 : Int))) + (IntKind.wrap .i64 q47))))) (y := .v (.int .i64 (w64 ((w64 ((0 : Int) + (8 : Int))) + (IntKind.wrap .i64 q47))))) (l := []) rfl rfl rfl rfl (by first | rfl | (simp only [wk, wks, wkL]; first | done | rfl))
   ·rw [if_neg h43] at h
    have h43' : decide ((256 : Int) ≤ x0) = false := decide_eq_false h43
    obtain ⟨q50, h51, h⟩ := Option.bind_eq_some_iff.1 h
    have h52 : indexD Try.prog 9 (.p (.v (.string (ByteArray.mk (((([0, 1, 2, 2, 3, 3, 3, 3, 4, 4, 4, 4, 4, 4, 4, 4, 5, 5, 5, 5, 5, 5, 5, 5, 5, 5, 5, 5, 5, 5, 5, 5, 6, 6, 6, 6, 6, 6, 6, 6, 6, 6, 6, 6, 6, 6, 6, 6, 6, 6, 6, 6, 6, 6, 6, 6, 6, 6, 6, 6, 6, 6, 6, 6] : List UInt8).append ([7, 7, 7, 7, 7, 7, 7, 7, 7, 7, 7, 7, 7, 7, 7, 7, 7, 7, 7, 7, 7, 7, 7, 7, 7, 7, 7, 7, 7, 7, 7, 7, 7, 7, 7, 7, 7, 7, 7, 7, 7, 7, 7, 7, 7, 7, 7, 7, 7, 7, 7, 7, 7, 7, 7, 7, 7, 7, 7, 7, 7, 7, 7, 7] : List UInt8)).append (([8, 8, 8, 8, 8, 8, 8, 8, 8, 8, 8, 8, 8, 8, 8, 8, 8, 8, 8, 8, 8, 8, 8, 8, 8, 8, 8, 8, 8, 8, 8, 8, 8, 8, 8, 8, 8, 8, 8, 8, 8, 8, 8, 8, 8, 8, 8, 8, 8, 8, 8, 8, 8, 8, 8, 8, 8, 8, 8, 8, 8, 8, 8, 8] : List UInt8).append ([8, 8, 8, 8, 8, 8, 8, 8, 8, 8, 8, 8, 8, 8, 8, 8, 8, 8, 8, 8, 8, 8, 8, 8, 8, 8, 8, 8, 8, 8, 8, 8, 8, 8, 8, 8, 8, 8, 8, 8, 8, 8, 8, 8, 8, 8, 8, 8, 8, 8, 8, 8, 8, 8, 8, 8, 8, 8, 8, 8, 8, 8, 8, 8] : List UInt8))).toArray))))) (.p (.v (.int .u8 (IntKind.wrap .u8 x0)))) = some (.p (.v (.int .u8 q50))) := indexD_str Try.underlying9 h51
    obtain rfl := Option.some.inj h
    simp (maxSteps := 10000000) (implicitDefEqProofs := false) (disch := first | assumption | omega | exact rfl) only [bs, rs61, ls61, Nat.reduceAdd, ↓reduceIte, binD_geq_k, ↓h1', ↓h29', ↓h43', h52]
    refine ⟨by first | exact .inl trivial | exact .inr trivial | simp, ?_⟩
    exact finish_is (ds := [iv (w64 ((0 : Int) + (IntKind.wrap .i64 q50)))]) (x := .v (.int .i64 (w64 ((0 : Int) + (IntKind.wrap .i64 q50))))) (y := .v (.int .i64 (w64 ((0 : Int) + (IntKind.wrap .i64 q50))))) (l := []) rfl rfl rfl rfl (by first | rfl | (simp only [wk, wks, wkL]; first | done | rfl))
theorem math_bits_Len64_call {H : List Ob} {x0 : Int} {r : Int} (h : math_bits_Len64 x0 = some r) : callD (callW Try.prog A0) A0 H 61 [.p (.v (.int .u64 x0))] = some (.p (.v (.int .i64 r)), none) :=
  callD_fun (args := [.v (.int .u64 x0)]) rfl rfl rfl (by simp only [List.map_cons, List.map_nil, wk, wks, wkL]; exact f61_ok x0 _ h)
theorem f46_ok  (x0 : Int) (r : Int) (h : math_bits_Len x0 = some r) : callW Try.prog A0 46 [.p (.v (.int .u64 x0))] [] = some (.p (.v (.int .i64 r)), []) := by
 refine call_ofH (fn := Try.f46) (c := bodyOf Try.f46) rfl (by kernel_rfl) (by kernel_rfl) ?_
 rw [show initS Try.f46 [.p (.v (.int .u64 x0))] [] = ⟨.p (.v (.int .u64 x0)) :: List.replicate 7 undefD, [], 0⟩ from by kernel_rfl]
 unfold math_bits_Len at h
 unfold bodyOf Try.f46; simp only [Option.getD_some, loopsOf, List.append_nil, List.nil_append, List.cons_append, List.getD_cons_zero, List.getD_cons_succ]
 simp only [List.replicate]
 obtain ⟨r1, h2, h⟩ := Option.bind_eq_some_iff.1 h
 have h3 : ∀ H, callD (callW Try.prog A0) A0 H 61 [.p (.v (.int .u64 x0))] = some (.p (.v (.int .i64 r1)), none) := fun H => math_bits_Len64_call h2
 obtain rfl := Option.some.inj h
 simp (maxSteps := 10000000) (implicitDefEqProofs := false) (disch := first | assumption | omega | exact rfl) only [bs, rs46, Nat.reduceAdd, ↓reduceIte, h3]
 refine ⟨by first | exact .inl trivial | exact .inr trivial | simp, ?_⟩
 exact finish_is (ds := [iv r1]) (x := .v (.int .i64 r1)) (y := .v (.int .i64 r1)) (l := []) rfl rfl rfl rfl (by first | rfl | (simp only [wk, wks, wkL]; first | done | rfl))
theorem math_bits_Len_call {H : List Ob} {x0 : Int} {r : Int} (h : math_bits_Len x0 = some r) : callD (callW Try.prog A0) A0 H 46 [.p (.v (.int .u64 x0))] = some (.p (.v (.int .i64 r)), none) :=
  callD_fun (args := [.v (.int .u64 x0)]) rfl rfl rfl (by simp only [List.map_cons, List.map_nil, wk, wks, wkL]; exact f46_ok x0 _ h)
def ls52_34 := @idxR_29
noncomputable def L52_1 : Code := (loopsOf (bodyOf Try.f52)).getD 1 .skip
def g52_1 : List Ghost := [.keep [0, 1, 2, 3, 8, 9]]
def F52_34_1 (s1 : Int) (s2 : Int) (s8 : Int) : (Int × (List Move)) → St := fun (s9, y0) => ⟨[.ref 0 0 y0.length 3, iv s1, iv s2, .p (.fn (.func 34) []), .junk, .junk, .junk, .junk, iv s8, iv s9, .junk, .junk, .junk, .junk, .junk, .junk, .junk, .junk, .junk, .junk, .junk, .junk, .junk, .junk, .junk, .junk, .junk, .junk, .junk, .junk, .junk, .junk, .junk, .junk, .junk, .junk, .junk, .junk, .junk, .junk, .junk, .junk, .junk, .junk, .junk, .junk, .junk, .junk, .junk, .junk, .junk, .junk, .junk], [.arr (encL en_Move y0)], 1⟩
theorem L52_34_1_ok (s1 : Int) (s2 : Int) (s8 : Int) : ∀ s st o, ghostsD g52_1 st = some (F52_34_1 s1 s2 s8 s) → iter (slices_insertionSortCmpFunc_L1 moves_Moves_c2 s1 s2 s8) s = some o →
    Wp (evW Try.prog A0 52 (.loop L52_1) st) (OutQ (F52_34_1 s1 s2 s8) g52_1 (fun n s st => n = 2 ∧ ghostsD [.keep [0, 1, 2, 3, 8, 9]] st = some (F52_34_1 s1 s2 s8 s)) (fun r st => finishD Try.prog A0 52 Try.f52 st = some (.p (.tup []), [.arr (encL en_Move r)])) o) := by
 refine Wp.iter ?_
 intro s st o hg h
 obtain ⟨s9, y0⟩ := s
 unfold slices_insertionSortCmpFunc_L1 at h
 unfold g52_1 F52_34_1 at hg ⊢
 (try simp only [] at h hg)
 unfold L52_1 bodyOf Try.f52; simp only [Option.getD_some, loopsOf, List.append_nil, List.nil_append, List.cons_append, List.getD_cons_zero, List.getD_cons_succ]
 by_cases h2 : s1 < s9
 ·rw [if_pos h2] at h
  have h2' : decide (s1 < s9) = true := decide_eq_true h2
  obtain ⟨v3, h4, h⟩ := Option.bind_eq_some_iff.1 h
  obtain ⟨h4a, h4b, _⟩ := rd_some h4
  have h5 := lk_arr_44 h4
  obtain ⟨v6, h7, h⟩ := Option.bind_eq_some_iff.1 h
  obtain ⟨h7a, h7b, _⟩ := rd_some h7
  have h8 := lk_arr_44 h7
  obtain ⟨r9, h10, h⟩ := Option.bind_eq_some_iff.1 h
  have h11 : ∀ H, callD (callW Try.prog A0) A0 H 34 [.p (.agg [.v (.int .i64 v3.Kind), .v (.int .i64 v3.Old), .v (.int .i64 v3.New)]), .p (.agg [.v (.int .i64 v6.Kind), .v (.int .i64 v6.Old), .v (.int .i64 v6.New)])] = some (.p (.v (.int .i64 r9)), none) := fun H => moves_Moves_c2_call h10
  by_cases h12 : r9 < (0 : Int)
  ·rw [if_pos h12] at h
   have h12' : decide (r9 < (0 : Int)) = true := decide_eq_true h12
   have h13 := lk_arr_44 h7
   have h14 := lk_arr_44 h4
   have h15 : ∀ (H : List Ob) (id : Nat), staOb H id (s9.toNat * 3) 3 [.v (.int .i64 v6.Kind), .v (.int .i64 v6.Old), .v (.int .i64 v6.New)] (some (.arr (encL en_Move y0))) = some (H.set id (.arr (encL en_Move (y0.set s9.toNat v6)))) := fun H id => by
       have := sta_arr (H := H) (id := id) (v := v6) en_Move_len h4a h4b
       rw [en_Move_eq] at this
       exact this
   have h16 : (y0.set s9.toNat v6).length = y0.length := List.length_set
   obtain ⟨v17, h18, h⟩ := Option.bind_eq_some_iff.1 h
   obtain ⟨h18a, h18b, _⟩ := rd_some h18
   have h19 : ∀ (H : List Ob) (id : Nat), staOb H id ((w64 (s9 - (1 : Int))).toNat * 3) 3 [.v (.int .i64 v3.Kind), .v (.int .i64 v3.Old), .v (.int .i64 v3.New)] (some (.arr (encL en_Move (y0.set s9.toNat v6)))) = some (H.set id (.arr (encL en_Move ((y0.set s9.toNat v6).set (w64 (s9 - (1 : Int))).toNat v3)))) := fun H id => by
       have := sta_arr (H := H) (id := id) (v := v3) en_Move_len h18a h18b
       rw [en_Move_eq] at this
       exact this
   have h20 : ((y0.set s9.toNat v6).set (w64 (s9 - (1 : Int))).toNat v3).length = (y0.set s9.toNat v6).length := List.length_set
   obtain rfl := Option.some.inj h
   simp (maxSteps := 10000000) (implicitDefEqProofs := false) (disch := first | assumption | omega | exact rfl) only [bs, rs52, ls52_34, Nat.reduceAdd, ↓reduceIte, loadD_pagg a44 z44, storeD_agg z44, hg, ↓h2', h5, h8, h11, ↓h12', h13, h14, h15, h19]
   exact ⟨rfl, by simp only [List.length_set, cpL_len]; kernel_rfl⟩
  ·rw [if_neg h12] at h
   have h12' : decide (r9 < (0 : Int)) = false := decide_eq_false h12
   obtain rfl := Option.some.inj h
   simp (maxSteps := 10000000) (implicitDefEqProofs := false) (disch := first | assumption | omega | exact rfl) only [bs, rs52, ls52_34, Nat.reduceAdd, ↓reduceIte, loadD_pagg a44 z44, storeD_agg z44, hg, ↓h2', h5, h8, h11, ↓h12']
   exact ⟨rfl, rfl, by kernel_rfl⟩
 ·rw [if_neg h2] at h
  have h2' : decide (s1 < s9) = false := decide_eq_false h2
  obtain rfl := Option.some.inj h
  simp (maxSteps := 10000000) (implicitDefEqProofs := false) (disch := first | assumption | omega | exact rfl) only [bs, rs52, ls52_34, Nat.reduceAdd, ↓reduceIte, loadD_pagg a44 z44, storeD_agg z44, hg, ↓h2']
  exact ⟨rfl, rfl, by kernel_rfl⟩
noncomputable def L52_0 : Code := (loopsOf (bodyOf Try.f52)).getD 0 .skip
def g52_0 : List Ghost := [.keep [0, 1, 2, 3, 8]]
def F52_34_0 (s1 : Int) (s2 : Int) : (Int × (List Move)) → St := fun (s8, y0) => ⟨[.ref 0 0 y0.length 3, iv s1, iv s2, .p (.fn (.func 34) []), .junk, .junk, .junk, .junk, iv s8, .junk, .junk, .junk, .junk, .junk, .junk, .junk, .junk, .junk, .junk, .junk, .junk, .junk, .junk, .junk, .junk, .junk, .junk, .junk, .junk, .junk, .junk, .junk, .junk, .junk, .junk, .junk, .junk, .junk, .junk, .junk, .junk, .junk, .junk, .junk, .junk, .junk, .junk, .junk, .junk, .junk, .junk, .junk, .junk], [.arr (encL en_Move y0)], 1⟩
theorem L52_34_0_ok (s1 : Int) (s2 : Int) : ∀ s st o, ghostsD g52_0 st = some (F52_34_0 s1 s2 s) → iter (slices_insertionSortCmpFunc_L0 moves_Moves_c2 s1 s2) s = some o →
    Wp (evW Try.prog A0 52 (.loop L52_0) st) (OutQ (F52_34_0 s1 s2) g52_0 (fun n s st => n = 0 ∧ (match s with | (s8, y0) => finishD Try.prog A0 52 Try.f52 st = some (.p (.tup []), [.arr (encL en_Move y0)]))) (fun r st => finishD Try.prog A0 52 Try.f52 st = some (.p (.tup []), [.arr (encL en_Move r)])) o) := by
 refine Wp.iter ?_
 intro s st o hg h
 obtain ⟨s8, y0⟩ := s
 unfold slices_insertionSortCmpFunc_L0 at h
 unfold g52_0 F52_34_0 at hg ⊢
 (try simp only [] at h hg)
 unfold L52_0 bodyOf Try.f52; simp only [Option.getD_some, loopsOf, List.append_nil, List.nil_append, List.cons_append, List.getD_cons_zero, List.getD_cons_succ]
 by_cases h1 : s8 < s2
 ·rw [if_pos h1] at h
  have h1' : decide (s8 < s2) = true := decide_eq_true h1
  obtain ⟨o, h21, h⟩ := Option.bind_eq_some_iff.1 h
  simp (maxSteps := 10000000) (implicitDefEqProofs := false) (disch := first | assumption | omega | exact rfl) only [bs, rs52, ls52_34, Nat.reduceAdd, ↓reduceIte, loadD_pagg a44 z44, storeD_agg z44, hg, ↓h1']
  refine Wp.ctx (fun x => seqW _ _ _ _ (blockW _ (blockW _ (x)))) (L52_34_1_ok s1 s2 s8 (s8, y0) _ o (by kernel_rfl) h21) ?_
  intro e st hq
  cases o with
  | next _ => (first | cases h | (simp at h))
  | jmp n_ s_ =>
   obtain ⟨rfl, rfl, hq⟩ := hq
   obtain ⟨s9_22, y0_22⟩ := s_
   unfold F52_34_1 at hq
   (try simp only [] at h hq)
   obtain rfl := Option.some.inj h
   simp (maxSteps := 10000000) (implicitDefEqProofs := false) (disch := first | assumption | omega | exact rfl) only [bs, rs52, ls52_34, Nat.reduceAdd, ↓reduceIte, loadD_pagg a44 z44, storeD_agg z44, hg, ↓h1', hq]
   exact ⟨rfl, by kernel_rfl⟩
  | ret _ => (first | cases h | (simp at h))
 ·rw [if_neg h1] at h
  have h1' : decide (s8 < s2) = false := decide_eq_false h1
  obtain rfl := Option.some.inj h
  simp (maxSteps := 10000000) (implicitDefEqProofs := false) (disch := first | assumption | omega | exact rfl) only [bs, rs52, ls52_34, Nat.reduceAdd, ↓reduceIte, loadD_pagg a44 z44, storeD_agg z44, hg, ↓h1']
  refine ⟨rfl, rfl, ?_⟩
  show _ = _
  kernel_rfl
theorem f52_34_ok  (x0 : (List Move)) (x1 : Int) (x2 : Int) (r : (List Move)) (h : slices_insertionSortCmpFunc moves_Moves_c2 x0 x1 x2 = some r) : callW Try.prog A0 52 [.ref 0 0 x0.length 3, iv x1, iv x2, .p (.fn (.func 34) [])] [.arr (encL en_Move x0)] = some (.p (.tup []), [.arr (encL en_Move r)]) := by
 refine call_ofH (fn := Try.f52) (c := bodyOf Try.f52) rfl (by kernel_rfl) (by kernel_rfl) ?_
 rw [show initS Try.f52 [.ref 0 0 x0.length 3, iv x1, iv x2, .p (.fn (.func 34) [])] [.arr (encL en_Move x0)] = ⟨.ref 0 0 x0.length 3 :: iv x1 :: iv x2 :: .p (.fn (.func 34) []) :: List.replicate 49 undefD, [.arr (encL en_Move x0)], 1⟩ from by kernel_rfl]
 unfold slices_insertionSortCmpFunc at h
 unfold bodyOf Try.f52; simp only [Option.getD_some, loopsOf, List.append_nil, List.nil_append, List.cons_append, List.getD_cons_zero, List.getD_cons_succ]
 simp only [List.replicate]
 obtain ⟨o, h23, h⟩ := Option.bind_eq_some_iff.1 h
 simp (maxSteps := 10000000) (implicitDefEqProofs := false) (disch := first | assumption | omega | exact rfl) only [bs, rs52, ls52_34, Nat.reduceAdd, ↓reduceIte, loadD_pagg a44 z44, storeD_agg z44]
 refine Wp.ctx (fun x => blockW _ (x)) (L52_34_0_ok x1 x2 (w64 (x1 + (1 : Int)), x0) _ o (by kernel_rfl) h23) ?_
 intro e st hq
 cases o with
 | next _ => (first | cases h | (simp at h))
 | jmp n_ s_ =>
  obtain ⟨rfl, rfl, hq⟩ := hq
  obtain ⟨s8_24, y0_24⟩ := s_
  obtain rfl := Option.some.inj h
  simp (maxSteps := 10000000) (implicitDefEqProofs := false) (disch := first | assumption | omega | exact rfl) only [bs, rs52, ls52_34, Nat.reduceAdd, ↓reduceIte, loadD_pagg a44 z44, storeD_agg z44]
  exact ⟨by first | exact .inl trivial | exact .inr trivial | simp, hq⟩
 | ret _ => (first | cases h | (simp at h))
theorem slices_insertionSortCmpFunc_34_call {x0 : (List Move)} {x1 : Int} {x2 : Int} {r : (List Move)} (h : slices_insertionSortCmpFunc moves_Moves_c2 x0 x1 x2 = some r) : callW Try.prog A0 52 [.ref 0 0 x0.length 3, iv x1, iv x2, .p (.fn (.func 34) [])] [.arr (encL en_Move x0)] = some (.p (.tup []), [.arr (encL en_Move r)]) := f52_34_ok x0 x1 x2 _ h
def ls62_34 := @idxR_29
noncomputable def L62_0 : Code := (loopsOf (bodyOf Try.f62)).getD 0 .skip
def g62_0 : List Ghost := [.keep [0, 2, 3, 4, 10]]
def F62_34_0 (s2 : Int) (s3 : Int) : (Int × (List Move)) → St := fun (s10, y0) => ⟨[.ref 0 0 y0.length 3, .junk, iv s2, iv s3, .p (.fn (.func 34) []), .junk, .junk, .junk, .junk, .junk, iv s10, .junk, .junk, .junk, .junk, .junk, .junk, .junk, .junk, .junk, .junk, .junk, .junk, .junk, .junk, .junk, .junk, .junk, .junk, .junk, .junk, .junk, .junk, .junk, .junk, .junk, .junk, .junk, .junk, .junk, .junk, .junk, .junk, .junk, .junk, .junk, .junk, .junk, .junk, .junk, .junk, .junk, .junk, .junk, .junk, .junk, .junk, .junk, .junk, .junk, .junk, .junk, .junk, .junk, .junk, .junk, .junk, .junk, .junk, .junk, .junk, .junk, .junk, .junk, .junk, .junk, .junk, .junk, .junk, .junk, .junk, .junk], [.arr (encL en_Move y0)], 1⟩
theorem L62_34_0_ok (s2 : Int) (s3 : Int) : ∀ s st o, ghostsD g62_0 st = some (F62_34_0 s2 s3 s) → iter (slices_siftDownCmpFunc_L0 moves_Moves_c2 s2 s3) s = some o →
    Wp (evW Try.prog A0 62 (.loop L62_0) st) (OutQ (F62_34_0 s2 s3) g62_0 (fun n s st => n = 0 ∧ (match s with | (s10, y0) => finishD Try.prog A0 62 Try.f62 st = some (.p (.tup []), [.arr (encL en_Move y0)]))) (fun r st => finishD Try.prog A0 62 Try.f62 st = some (.p (.tup []), [.arr (encL en_Move r)])) o) := by
 refine Wp.iter ?_
 intro s st o hg h
 obtain ⟨s10, y0⟩ := s
 unfold slices_siftDownCmpFunc_L0 at h
 unfold g62_0 F62_34_0 at hg ⊢
 (try simp only [] at h hg)
 unfold L62_0 bodyOf Try.f62; simp only [Option.getD_some, loopsOf, List.append_nil, List.nil_append, List.cons_append, List.getD_cons_zero, List.getD_cons_succ]
 by_cases h65 : s2 ≤ (w64 ((w64 ((2 : Int) * s10)) + (1 : Int)))
 ·rw [if_pos h65] at h
  have h65' : decide (s2 ≤ (w64 ((w64 ((2 : Int) * s10)) + (1 : Int)))) = true := decide_eq_true h65
  obtain rfl := Option.some.inj h
  simp (maxSteps := 10000000) (implicitDefEqProofs := false) (disch := first | assumption | omega | exact rfl) only [bs, rs62, ls62_34, Nat.reduceAdd, ↓reduceIte, loadD_pagg a44 z44, storeD_agg z44, hg, ↓h65']
  refine ⟨rfl, rfl, ?_⟩
  show _ = _
  kernel_rfl
 ·rw [if_neg h65] at h
  have h65' : decide (s2 ≤ (w64 ((w64 ((2 : Int) * s10)) + (1 : Int)))) = false := decide_eq_false h65
  by_cases h66 : (w64 ((w64 ((w64 ((2 : Int) * s10)) + (1 : Int))) + (1 : Int))) < s2
  ·rw [if_pos h66] at h
   have h66' : decide ((w64 ((w64 ((w64 ((2 : Int) * s10)) + (1 : Int))) + (1 : Int))) < s2) = true := decide_eq_true h66
   obtain ⟨v67, h68, h⟩ := Option.bind_eq_some_iff.1 h
   obtain ⟨h68a, h68b, _⟩ := rd_some h68
   have h69 := lk_arr_44 h68
   obtain ⟨v70, h71, h⟩ := Option.bind_eq_some_iff.1 h
   obtain ⟨h71a, h71b, _⟩ := rd_some h71
   have h72 := lk_arr_44 h71
   obtain ⟨r73, h74, h⟩ := Option.bind_eq_some_iff.1 h
   have h75 : ∀ H, callD (callW Try.prog A0) A0 H 34 [.p (.agg [.v (.int .i64 v67.Kind), .v (.int .i64 v67.Old), .v (.int .i64 v67.New)]), .p (.agg [.v (.int .i64 v70.Kind), .v (.int .i64 v70.Old), .v (.int .i64 v70.New)])] = some (.p (.v (.int .i64 r73)), none) := fun H => moves_Moves_c2_call h74
   by_cases h76 : r73 < (0 : Int)
   ·rw [if_pos h76] at h
    have h76' : decide (r73 < (0 : Int)) = true := decide_eq_true h76
    obtain ⟨v77, h78, h⟩ := Option.bind_eq_some_iff.1 h
    obtain ⟨h78a, h78b, _⟩ := rd_some h78
    have h79 := lk_arr_44 h78
    obtain ⟨v80, h81, h⟩ := Option.bind_eq_some_iff.1 h
    obtain ⟨h81a, h81b, _⟩ := rd_some h81
    have h82 := lk_arr_44 h81
    obtain ⟨r83, h84, h⟩ := Option.bind_eq_some_iff.1 h
    have h85 : ∀ H, callD (callW Try.prog A0) A0 H 34 [.p (.agg [.v (.int .i64 v77.Kind), .v (.int .i64 v77.Old), .v (.int .i64 v77.New)]), .p (.agg [.v (.int .i64 v80.Kind), .v (.int .i64 v80.Old), .v (.int .i64 v80.New)])] = some (.p (.v (.int .i64 r83)), none) := fun H => moves_Moves_c2_call h84
    by_cases h86 : r83 < (0 : Int)
    ·rw [if_pos h86] at h
     have h86' : decide (r83 < (0 : Int)) = true := decide_eq_true h86
     have h87 := lk_arr_44 h81
     have h88 := lk_arr_44 h78
     have h89 : ∀ (H : List Ob) (id : Nat), staOb H id ((w64 (s3 + s10)).toNat * 3) 3 [.v (.int .i64 v80.Kind), .v (.int .i64 v80.Old), .v (.int .i64 v80.New)] (some (.arr (encL en_Move y0))) = some (H.set id (.arr (encL en_Move (y0.set (w64 (s3 + s10)).toNat v80)))) := fun H id => by
         have := sta_arr (H := H) (id := id) (v := v80) en_Move_len h78a h78b
         rw [en_Move_eq] at this
         exact this
     have h90 : (y0.set (w64 (s3 + s10)).toNat v80).length = y0.length := List.length_set
     obtain ⟨v91, h92, h⟩ := Option.bind_eq_some_iff.1 h
     obtain ⟨h92a, h92b, _⟩ := rd_some h92
     have h93 : ∀ (H : List Ob) (id : Nat), staOb H id ((w64 (s3 + (w64 ((w64 ((w64 ((2 : Int) * s10)) + (1 : Int))) + (1 : Int))))).toNat * 3) 3 [.v (.int .i64 v77.Kind), .v (.int .i64 v77.Old), .v (.int .i64 v77.New)] (some (.arr (encL en_Move (y0.set (w64 (s3 + s10)).toNat v80)))) = some (H.set id (.arr (encL en_Move ((y0.set (w64 (s3 + s10)).toNat v80).set (w64 (s3 + (w64 ((w64 ((w64 ((2 : Int) * s10)) + (1 : Int))) + (1 : Int))))).toNat v77)))) := fun H id => by
         have := sta_arr (H := H) (id := id) (v := v77) en_Move_len h92a h92b
         rw [en_Move_eq] at this
         exact this
     have h94 : ((y0.set (w64 (s3 + s10)).toNat v80).set (w64 (s3 + (w64 ((w64 ((w64 ((2 : Int) * s10)) + (1 : Int))) + (1 : Int))))).toNat v77).length = (y0.set (w64 (s3 + s10)).toNat v80).length := List.length_set
     obtain rfl := Option.some.inj h
     simp (maxSteps := 10000000) (implicitDefEqProofs := false) (disch := first | assumption | omega | exact rfl) only [bs, rs62, ls62_34, Nat.reduceAdd, ↓reduceIte, loadD_pagg a44 z44, storeD_agg z44, hg, ↓h65', ↓h66', h69, h72, h75, ↓h76', h79, h82, h85, ↓h86', h87, h88, h89, h93]
     exact ⟨rfl, by simp only [List.length_set, cpL_len]; kernel_rfl⟩
    ·rw [if_neg h86] at h
     have h86' : decide (r83 < (0 : Int)) = false := decide_eq_false h86
     obtain rfl := Option.some.inj h
     simp (maxSteps := 10000000) (implicitDefEqProofs := false) (disch := first | assumption | omega | exact rfl) only [bs, rs62, ls62_34, Nat.reduceAdd, ↓reduceIte, loadD_pagg a44 z44, storeD_agg z44, hg, ↓h65', ↓h66', h69, h72, h75, ↓h76', h79, h82, h85, ↓h86']
     refine ⟨rfl, ?_⟩
     show _ = _
     kernel_rfl
   ·rw [if_neg h76] at h
    have h76' : decide (r73 < (0 : Int)) = false := decide_eq_false h76
    obtain ⟨v95, h96, h⟩ := Option.bind_eq_some_iff.1 h
    obtain ⟨h96a, h96b, _⟩ := rd_some h96
    have h97 := lk_arr_44 h96
    have h98 := lk_arr_44 h68
    obtain ⟨r99, h100, h⟩ := Option.bind_eq_some_iff.1 h
    have h101 : ∀ H, callD (callW Try.prog A0) A0 H 34 [.p (.agg [.v (.int .i64 v95.Kind), .v (.int .i64 v95.Old), .v (.int .i64 v95.New)]), .p (.agg [.v (.int .i64 v67.Kind), .v (.int .i64 v67.Old), .v (.int .i64 v67.New)])] = some (.p (.v (.int .i64 r99)), none) := fun H => moves_Moves_c2_call h100
    by_cases h102 : r99 < (0 : Int)
    ·rw [if_pos h102] at h
     have h102' : decide (r99 < (0 : Int)) = true := decide_eq_true h102
     have h103 := lk_arr_44 h68
     have h104 := lk_arr_44 h96
     have h105 : ∀ (H : List Ob) (id : Nat), staOb H id ((w64 (s3 + s10)).toNat * 3) 3 [.v (.int .i64 v67.Kind), .v (.int .i64 v67.Old), .v (.int .i64 v67.New)] (some (.arr (encL en_Move y0))) = some (H.set id (.arr (encL en_Move (y0.set (w64 (s3 + s10)).toNat v67)))) := fun H id => by
         have := sta_arr (H := H) (id := id) (v := v67) en_Move_len h96a h96b
         rw [en_Move_eq] at this
         exact this
     have h106 : (y0.set (w64 (s3 + s10)).toNat v67).length = y0.length := List.length_set
     obtain ⟨v107, h108, h⟩ := Option.bind_eq_some_iff.1 h
     obtain ⟨h108a, h108b, _⟩ := rd_some h108
     have h109 : ∀ (H : List Ob) (id : Nat), staOb H id ((w64 (s3 + (w64 ((w64 ((2 : Int) * s10)) + (1 : Int))))).toNat * 3) 3 [.v (.int .i64 v95.Kind), .v (.int .i64 v95.Old), .v (.int .i64 v95.New)] (some (.arr (encL en_Move (y0.set (w64 (s3 + s10)).toNat v67)))) = some (H.set id (.arr (encL en_Move ((y0.set (w64 (s3 + s10)).toNat v67).set (w64 (s3 + (w64 ((w64 ((2 : Int) * s10)) + (1 : Int))))).toNat v95)))) := fun H id => by
         have := sta_arr (H := H) (id := id) (v := v95) en_Move_len h108a h108b
         rw [en_Move_eq] at this
         exact this
     have h110 : ((y0.set (w64 (s3 + s10)).toNat v67).set (w64 (s3 + (w64 ((w64 ((2 : Int) * s10)) + (1 : Int))))).toNat v95).length = (y0.set (w64 (s3 + s10)).toNat v67).length := List.length_set
     obtain rfl := Option.some.inj h
     simp (maxSteps := 10000000) (implicitDefEqProofs := false) (disch := first | assumption | omega | exact rfl) only [bs, rs62, ls62_34, Nat.reduceAdd, ↓reduceIte, loadD_pagg a44 z44, storeD_agg z44, hg, ↓h65', ↓h66', h69, h72, h75, ↓h76', h97, h98, h101, ↓h102', h103, h104, h105, h109]
     exact ⟨rfl, by simp only [List.length_set, cpL_len]; kernel_rfl⟩
    ·rw [if_neg h102] at h
     have h102' : decide (r99 < (0 : Int)) = false := decide_eq_false h102
     obtain rfl := Option.some.inj h
     simp (maxSteps := 10000000) (implicitDefEqProofs := false) (disch := first | assumption | omega | exact rfl) only [bs, rs62, ls62_34, Nat.reduceAdd, ↓reduceIte, loadD_pagg a44 z44, storeD_agg z44, hg, ↓h65', ↓h66', h69, h72, h75, ↓h76', h97, h98, h101, ↓h102']
     refine ⟨rfl, ?_⟩
     show _ = _
     kernel_rfl
  ·rw [if_neg h66] at h
   have h66' : decide ((w64 ((w64 ((w64 ((2 : Int) * s10)) + (1 : Int))) + (1 : Int))) < s2) = false := decide_eq_false h66
   obtain ⟨v111, h112, h⟩ := Option.bind_eq_some_iff.1 h
   obtain ⟨h112a, h112b, _⟩ := rd_some h112
   have h113 := lk_arr_44 h112
   obtain ⟨v114, h115, h⟩ := Option.bind_eq_some_iff.1 h
   obtain ⟨h115a, h115b, _⟩ := rd_some h115
   have h116 := lk_arr_44 h115
   obtain ⟨r117, h118, h⟩ := Option.bind_eq_some_iff.1 h
   have h119 : ∀ H, callD (callW Try.prog A0) A0 H 34 [.p (.agg [.v (.int .i64 v111.Kind), .v (.int .i64 v111.Old), .v (.int .i64 v111.New)]), .p (.agg [.v (.int .i64 v114.Kind), .v (.int .i64 v114.Old), .v (.int .i64 v114.New)])] = some (.p (.v (.int .i64 r117)), none) := fun H => moves_Moves_c2_call h118
   by_cases h120 : r117 < (0 : Int)
   ·rw [if_pos h120] at h
    have h120' : decide (r117 < (0 : Int)) = true := decide_eq_true h120
    have h121 := lk_arr_44 h115
    have h122 := lk_arr_44 h112
    have h123 : ∀ (H : List Ob) (id : Nat), staOb H id ((w64 (s3 + s10)).toNat * 3) 3 [.v (.int .i64 v114.Kind), .v (.int .i64 v114.Old), .v (.int .i64 v114.New)] (some (.arr (encL en_Move y0))) = some (H.set id (.arr (encL en_Move (y0.set (w64 (s3 + s10)).toNat v114)))) := fun H id => by
        have := sta_arr (H := H) (id := id) (v := v114) en_Move_len h112a h112b
        rw [en_Move_eq] at this
        exact this
    have h124 : (y0.set (w64 (s3 + s10)).toNat v114).length = y0.length := List.length_set
    obtain ⟨v125, h126, h⟩ := Option.bind_eq_some_iff.1 h
    obtain ⟨h126a, h126b, _⟩ := rd_some h126
    have h127 : ∀ (H : List Ob) (id : Nat), staOb H id ((w64 (s3 + (w64 ((w64 ((2 : Int) * s10)) + (1 : Int))))).toNat * 3) 3 [.v (.int .i64 v111.Kind), .v (.int .i64 v111.Old), .v (.int .i64 v111.New)] (some (.arr (encL en_Move (y0.set (w64 (s3 + s10)).toNat v114)))) = some (H.set id (.arr (encL en_Move ((y0.set (w64 (s3 + s10)).toNat v114).set (w64 (s3 + (w64 ((w64 ((2 : Int) * s10)) + (1 : Int))))).toNat v111)))) := fun H id => by
        have := sta_arr (H := H) (id := id) (v := v111) en_Move_len h126a h126b
        rw [en_Move_eq] at this
        exact this
    have h128 : ((y0.set (w64 (s3 + s10)).toNat v114).set (w64 (s3 + (w64 ((w64 ((2 : Int) * s10)) + (1 : Int))))).toNat v111).length = (y0.set (w64 (s3 + s10)).toNat v114).length := List.length_set
    obtain rfl := Option.some.inj h
    simp (maxSteps := 10000000) (implicitDefEqProofs := false) (disch := first | assumption | omega | exact rfl) only [bs, rs62, ls62_34, Nat.reduceAdd, ↓reduceIte, loadD_pagg a44 z44, storeD_agg z44, hg, ↓h65', ↓h66', h113, h116, h119, ↓h120', h121, h122, h123, h127]
    exact ⟨rfl, by simp only [List.length_set, cpL_len]; kernel_rfl⟩
   ·rw [if_neg h120] at h
    have h120' : decide (r117 < (0 : Int)) = false := decide_eq_false h120
    obtain rfl := Option.some.inj h
    simp (maxSteps := 10000000) (implicitDefEqProofs := false) (disch := first | assumption | omega | exact rfl) only [bs, rs62, ls62_34, Nat.reduceAdd, ↓reduceIte, loadD_pagg a44 z44, storeD_agg z44, hg, ↓h65', ↓h66', h113, h116, h119, ↓h120']
    refine ⟨rfl, ?_⟩
    show _ = _
    kernel_rfl
theorem f62_34_ok  (x0 : (List Move)) (x1 : Int) (x2 : Int) (x3 : Int) (r : (List Move)) (h : slices_siftDownCmpFunc moves_Moves_c2 x0 x1 x2 x3 = some r) : callW Try.prog A0 62 [.ref 0 0 x0.length 3, iv x1, iv x2, iv x3, .p (.fn (.func 34) [])] [.arr (encL en_Move x0)] = some (.p (.tup []), [.arr (encL en_Move r)]) := by
 refine call_ofH (fn := Try.f62) (c := bodyOf Try.f62) rfl (by kernel_rfl) (by kernel_rfl) ?_
 rw [show initS Try.f62 [.ref 0 0 x0.length 3, iv x1, iv x2, iv x3, .p (.fn (.func 34) [])] [.arr (encL en_Move x0)] = ⟨.ref 0 0 x0.length 3 :: iv x1 :: iv x2 :: iv x3 :: .p (.fn (.func 34) []) :: List.replicate 77 undefD, [.arr (encL en_Move x0)], 1⟩ from by kernel_rfl]
 unfold slices_siftDownCmpFunc at h
 unfold bodyOf Try.f62; simp only [Option.getD_some, loopsOf, List.append_nil, List.nil_append, List.cons_append, List.getD_cons_zero, List.getD_cons_succ]
 simp only [List.replicate]
 obtain ⟨o, h129, h⟩ := Option.bind_eq_some_iff.1 h
 simp (maxSteps := 10000000) (implicitDefEqProofs := false) (disch := first | assumption | omega | exact rfl) only [bs, rs62, ls62_34, Nat.reduceAdd, ↓reduceIte, loadD_pagg a44 z44, storeD_agg z44]
 refine Wp.ctx (fun x => blockW _ (x)) (L62_34_0_ok x2 x3 (x1, x0) _ o (by kernel_rfl) h129) ?_
 intro e st hq
 cases o with
 | next _ => (first | cases h | (simp at h))
 | jmp n_ s_ =>
  obtain ⟨rfl, rfl, hq⟩ := hq
  obtain ⟨s10_130, y0_130⟩ := s_
  obtain rfl := Option.some.inj h
  simp (maxSteps := 10000000) (implicitDefEqProofs := false) (disch := first | assumption | omega | exact rfl) only [bs, rs62, ls62_34, Nat.reduceAdd, ↓reduceIte, loadD_pagg a44 z44, storeD_agg z44]
  exact ⟨by first | exact .inl trivial | exact .inr trivial | simp, hq⟩
 | ret r131 =>
  obtain ⟨rfl, hq⟩ := hq
  obtain rfl := Option.some.inj h
  simp (maxSteps := 10000000) (implicitDefEqProofs := false) (disch := first | assumption | omega | exact rfl) only [bs, rs62, ls62_34, Nat.reduceAdd, ↓reduceIte, loadD_pagg a44 z44, storeD_agg z44]
  exact ⟨by first | exact .inl trivial | exact .inr trivial | simp, hq⟩
theorem slices_siftDownCmpFunc_34_call {x0 : (List Move)} {x1 : Int} {x2 : Int} {x3 : Int} {r : (List Move)} (h : slices_siftDownCmpFunc moves_Moves_c2 x0 x1 x2 x3 = some r) : callW Try.prog A0 62 [.ref 0 0 x0.length 3, iv x1, iv x2, iv x3, .p (.fn (.func 34) [])] [.arr (encL en_Move x0)] = some (.p (.tup []), [.arr (encL en_Move r)]) := f62_34_ok x0 x1 x2 x3 _ h
def ls53_34 := @idxR_29
noncomputable def L53_1 : Code := (loopsOf (bodyOf Try.f53)).getD 1 .skip
def g53_1 : List Ghost := [.keep [0, 3, 8, 9, 12]]
def F53_34_1 (s8 : Int) (s9 : Int) : (Int × (List Move)) → St := fun (s12, y0) => ⟨[.ref 0 0 y0.length 3, .junk, .junk, .p (.fn (.func 34) []), .junk, .junk, .junk, .junk, iv s8, iv s9, .junk, .junk, iv s12, .junk, .junk, .junk, .junk, .junk, .junk, .junk, .junk, .junk, .junk, .junk, .junk, .junk, .junk, .junk, .junk, .junk, .junk, .junk, .junk, .junk, .junk, .junk, .junk, .junk, .junk, .junk, .junk, .junk, .junk, .junk, .junk, .junk, .junk, .junk, .junk, .junk, .junk, .junk, .junk, .junk, .junk, .junk, .junk, .junk, .junk, .junk], [.arr (encL en_Move y0)], 1⟩
theorem L53_34_1_ok (s8 : Int) (s9 : Int) : ∀ s st o, ghostsD g53_1 st = some (F53_34_1 s8 s9 s) → iter (slices_heapSortCmpFunc_L1 moves_Moves_c2 s8 s9) s = some o →
    Wp (evW Try.prog A0 53 (.loop L53_1) st) (OutQ (F53_34_1 s8 s9) g53_1 (fun n s st => n = 2 ∧ (match s with | (s12, y0) => finishD Try.prog A0 53 Try.f53 st = some (.p (.tup []), [.arr (encL en_Move y0)]))) (fun r st => finishD Try.prog A0 53 Try.f53 st = some (.p (.tup []), [.arr (encL en_Move r)])) o) := by
 refine Wp.iter ?_
 intro s st o hg h
 obtain ⟨s12, y0⟩ := s
 unfold slices_heapSortCmpFunc_L1 at h
 unfold g53_1 F53_34_1 at hg ⊢
 (try simp only [] at h hg)
 unfold L53_1 bodyOf Try.f53; simp only [Option.getD_some, loopsOf, List.append_nil, List.nil_append, List.cons_append, List.getD_cons_zero, List.getD_cons_succ]
 by_cases h11 : (0 : Int) ≤ s12
 ·rw [if_pos h11] at h
  have h11' : decide ((0 : Int) ≤ s12) = true := decide_eq_true h11
  obtain ⟨v12, h13, h⟩ := Option.bind_eq_some_iff.1 h
  obtain ⟨h13a, h13b, _⟩ := rd_some h13
  have h14 := lk_arr_44 h13
  obtain ⟨v15, h16, h⟩ := Option.bind_eq_some_iff.1 h
  obtain ⟨h16a, h16b, _⟩ := rd_some h16
  have h17 := lk_arr_44 h16
  have h18 : ∀ (H : List Ob) (id : Nat), staOb H id (s8.toNat * 3) 3 [.v (.int .i64 v12.Kind), .v (.int .i64 v12.Old), .v (.int .i64 v12.New)] (some (.arr (encL en_Move y0))) = some (H.set id (.arr (encL en_Move (y0.set s8.toNat v12)))) := fun H id => by
      have := sta_arr (H := H) (id := id) (v := v12) en_Move_len h16a h16b
      rw [en_Move_eq] at this
      exact this
  have h19 : (y0.set s8.toNat v12).length = y0.length := List.length_set
  obtain ⟨v20, h21, h⟩ := Option.bind_eq_some_iff.1 h
  obtain ⟨h21a, h21b, _⟩ := rd_some h21
  have h22 : ∀ (H : List Ob) (id : Nat), staOb H id ((w64 (s8 + s12)).toNat * 3) 3 [.v (.int .i64 v15.Kind), .v (.int .i64 v15.Old), .v (.int .i64 v15.New)] (some (.arr (encL en_Move (y0.set s8.toNat v12)))) = some (H.set id (.arr (encL en_Move ((y0.set s8.toNat v12).set (w64 (s8 + s12)).toNat v15)))) := fun H id => by
      have := sta_arr (H := H) (id := id) (v := v15) en_Move_len h21a h21b
      rw [en_Move_eq] at this
      exact this
  have h23 : ((y0.set s8.toNat v12).set (w64 (s8 + s12)).toNat v15).length = (y0.set s8.toNat v12).length := List.length_set
  obtain ⟨r24, h25, h⟩ := Option.bind_eq_some_iff.1 h
  have h26 : callD (callW Try.prog A0) A0 [.arr (encL en_Move ((y0.set s8.toNat v12).set (w64 (s8 + s12)).toNat v15))] 62 [.ref 0 0 y0.length 3, iv s9, iv s12, iv s8, .p (.fn (.func 34) [])] = some (.p (.tup []), some [.arr (encL en_Move r24)]) := by
      rw [show y0.length = ((y0.set s8.toNat v12).set (w64 (s8 + s12)).toNat v15).length from by omega]; exact (callD_put (dsw := [.ref 0 0 (((y0.set s8.toNat v12).set (w64 (s8 + s12)).toNat v15).length) 3, iv s9, iv s12, iv s8, .p (.fn (.func 34) [])]) (ds' := [.ref 0 0 (((y0.set s8.toNat v12).set (w64 (s8 + s12)).toNat v15).length) 3, iv s9, iv s12, iv s8, .p (.fn (.func 34) [])]) (i := 0) (ids := []) (o := .arr (encL en_Move ((y0.set s8.toNat v12).set (w64 (s8 + s12)).toNat v15))) (os := []) (o' := .arr (encL en_Move r24)) (os' := []) rfl (by kernel_rfl) (by kernel_rfl) (by kernel_rfl) (by kernel_rfl) (by kernel_rfl) (slices_siftDownCmpFunc_34_call h25) rfl rfl).trans (by kernel_rfl)
  by_cases hw_ : r24.length = ((y0.set s8.toNat v12).set (w64 (s8 + s12)).toNat v15).length
  case neg => rw [if_neg hw_] at h; cases h
  rw [if_pos hw_] at h
  have h27 := hw_
  obtain rfl := Option.some.inj h
  simp (maxSteps := 10000000) (implicitDefEqProofs := false) (disch := first | assumption | omega | exact rfl) only [bs, rs53, ls53_34, Nat.reduceAdd, ↓reduceIte, loadD_pagg a44 z44, storeD_agg z44, hg, ↓h11', h14, h17, h18, h22, h26]
  exact ⟨rfl, by simp only [List.length_set, cpL_len, h27]; kernel_rfl⟩
 ·rw [if_neg h11] at h
  have h11' : decide ((0 : Int) ≤ s12) = false := decide_eq_false h11
  obtain rfl := Option.some.inj h
  simp (maxSteps := 10000000) (implicitDefEqProofs := false) (disch := first | assumption | omega | exact rfl) only [bs, rs53, ls53_34, Nat.reduceAdd, ↓reduceIte, loadD_pagg a44 z44, storeD_agg z44, hg, ↓h11']
  refine ⟨rfl, rfl, ?_⟩
  show _ = _
  kernel_rfl
noncomputable def L53_0 : Code := (loopsOf (bodyOf Try.f53)).getD 0 .skip
def g53_0 : List Ghost := [.keep [0, 3, 8, 9, 10, 11]]
def F53_34_0 (s8 : Int) (s9 : Int) (s10 : Int) : (Int × (List Move)) → St := fun (s11, y0) => ⟨[.ref 0 0 y0.length 3, .junk, .junk, .p (.fn (.func 34) []), .junk, .junk, .junk, .junk, iv s8, iv s9, iv s10, iv s11, .junk, .junk, .junk, .junk, .junk, .junk, .junk, .junk, .junk, .junk, .junk, .junk, .junk, .junk, .junk, .junk, .junk, .junk, .junk, .junk, .junk, .junk, .junk, .junk, .junk, .junk, .junk, .junk, .junk, .junk, .junk, .junk, .junk, .junk, .junk, .junk, .junk, .junk, .junk, .junk, .junk, .junk, .junk, .junk, .junk, .junk, .junk, .junk], [.arr (encL en_Move y0)], 1⟩
theorem L53_34_0_ok (s8 : Int) (s9 : Int) (s10 : Int) : ∀ s st o, ghostsD g53_0 st = some (F53_34_0 s8 s9 s10 s) → iter (slices_heapSortCmpFunc_L0 moves_Moves_c2 s8 s9 s10) s = some o →
    Wp (evW Try.prog A0 53 (.loop L53_0) st) (OutQ (F53_34_0 s8 s9 s10) g53_0 (fun n s st => n = 0 ∧ ghostsD [.keep [0, 3, 8, 9, 10, 11]] st = some (F53_34_0 s8 s9 s10 s)) (fun r st => finishD Try.prog A0 53 Try.f53 st = some (.p (.tup []), [.arr (encL en_Move r)])) o) := by
 refine Wp.iter ?_
 intro s st o hg h
 obtain ⟨s11, y0⟩ := s
 unfold slices_heapSortCmpFunc_L0 at h
 unfold g53_0 F53_34_0 at hg ⊢
 (try simp only [] at h hg)
 unfold L53_0 bodyOf Try.f53; simp only [Option.getD_some, loopsOf, List.append_nil, List.nil_append, List.cons_append, List.getD_cons_zero, List.getD_cons_succ]
 by_cases h4 : (0 : Int) ≤ s11
 ·rw [if_pos h4] at h
  have h4' : decide ((0 : Int) ≤ s11) = true := decide_eq_true h4
  obtain ⟨r5, h6, h⟩ := Option.bind_eq_some_iff.1 h
  have h7 : callD (callW Try.prog A0) A0 [.arr (encL en_Move y0)] 62 [.ref 0 0 y0.length 3, iv s11, iv s10, iv s8, .p (.fn (.func 34) [])] = some (.p (.tup []), some [.arr (encL en_Move r5)]) := (callD_put (dsw := [.ref 0 0 y0.length 3, iv s11, iv s10, iv s8, .p (.fn (.func 34) [])]) (ds' := [.ref 0 0 y0.length 3, iv s11, iv s10, iv s8, .p (.fn (.func 34) [])]) (i := 0) (ids := []) (o := .arr (encL en_Move y0)) (os := []) (o' := .arr (encL en_Move r5)) (os' := []) rfl (by kernel_rfl) (by kernel_rfl) (by kernel_rfl) (by kernel_rfl) (by kernel_rfl) (slices_siftDownCmpFunc_34_call h6) rfl rfl).trans (by kernel_rfl)
  by_cases hw_ : r5.length = y0.length
  case neg => rw [if_neg hw_] at h; cases h
  rw [if_pos hw_] at h
  have h8 := hw_
  obtain rfl := Option.some.inj h
  simp (maxSteps := 10000000) (implicitDefEqProofs := false) (disch := first | assumption | omega | exact rfl) only [bs, rs53, ls53_34, Nat.reduceAdd, ↓reduceIte, loadD_pagg a44 z44, storeD_agg z44, hg, ↓h4', h7]
  exact ⟨rfl, by simp only [List.length_set, cpL_len, h8]; kernel_rfl⟩
 ·rw [if_neg h4] at h
  have h4' : decide ((0 : Int) ≤ s11) = false := decide_eq_false h4
  obtain rfl := Option.some.inj h
  simp (maxSteps := 10000000) (implicitDefEqProofs := false) (disch := first | assumption | omega | exact rfl) only [bs, rs53, ls53_34, Nat.reduceAdd, ↓reduceIte, loadD_pagg a44 z44, storeD_agg z44, hg, ↓h4']
  exact ⟨rfl, rfl, by kernel_rfl⟩
theorem f53_34_ok  (x0 : (List Move)) (x1 : Int) (x2 : Int) (r : (List Move)) (h : slices_heapSortCmpFunc moves_Moves_c2 x0 x1 x2 = some r) : callW Try.prog A0 53 [.ref 0 0 x0.length 3, iv x1, iv x2, .p (.fn (.func 34) [])] [.arr (encL en_Move x0)] = some (.p (.tup []), [.arr (encL en_Move r)]) := by
 refine call_ofH (fn := Try.f53) (c := bodyOf Try.f53) rfl (by kernel_rfl) (by kernel_rfl) ?_
 rw [show initS Try.f53 [.ref 0 0 x0.length 3, iv x1, iv x2, .p (.fn (.func 34) [])] [.arr (encL en_Move x0)] = ⟨.ref 0 0 x0.length 3 :: iv x1 :: iv x2 :: .p (.fn (.func 34) []) :: List.replicate 56 undefD, [.arr (encL en_Move x0)], 1⟩ from by kernel_rfl]
 unfold slices_heapSortCmpFunc at h
 unfold bodyOf Try.f53; simp only [Option.getD_some, loopsOf, List.append_nil, List.nil_append, List.cons_append, List.getD_cons_zero, List.getD_cons_succ]
 simp only [List.replicate]
 obtain ⟨q1, h2, h⟩ := Option.bind_eq_some_iff.1 h
 have h3 : ∀ xo yo, binD Try.prog .quo 3 xo yo (.p (.v (.int .i64 (w64 ((w64 (x2 - x1)) - (1 : Int)))))) (.p (.v (.int .i64 (2 : Int)))) = some (.p (.v (.int .i64 q1))) := fun xo yo => binD_quo_k h2
 obtain ⟨o, h9, h⟩ := Option.bind_eq_some_iff.1 h
 simp (maxSteps := 10000000) (implicitDefEqProofs := false) (disch := first | assumption | omega | exact rfl) only [bs, rs53, ls53_34, Nat.reduceAdd, ↓reduceIte, loadD_pagg a44 z44, storeD_agg z44, h3]
 refine Wp.ctx (fun x => seqW _ _ _ _ (blockW _ (x))) (L53_34_0_ok x1 (0 : Int) (w64 (x2 - x1)) (q1, x0) _ o (by kernel_rfl) h9) ?_
 intro e st hq
 cases o with
 | next _ => (first | cases h | (simp at h))
 | jmp n_ s_ =>
  obtain ⟨rfl, rfl, hq⟩ := hq
  obtain ⟨s11_10, y0_10⟩ := s_
  unfold F53_34_0 at hq
  (try simp only [] at h hq)
  obtain ⟨o, h28, h⟩ := Option.bind_eq_some_iff.1 h
  simp (maxSteps := 10000000) (implicitDefEqProofs := false) (disch := first | assumption | omega | exact rfl) only [bs, rs53, ls53_34, Nat.reduceAdd, ↓reduceIte, loadD_pagg a44 z44, storeD_agg z44, h3, hq]
  refine Wp.ctx (fun x => blockW _ (x)) (L53_34_1_ok x1 (0 : Int) (w64 ((w64 (x2 - x1)) - (1 : Int)), y0_10) _ o (by kernel_rfl) h28) ?_
  intro e st hq
  cases o with
  | next _ => (first | cases h | (simp at h))
  | jmp n_ s_ =>
   obtain ⟨rfl, rfl, hq⟩ := hq
   obtain ⟨s12_29, y0_29⟩ := s_
   obtain rfl := Option.some.inj h
   simp (maxSteps := 10000000) (implicitDefEqProofs := false) (disch := first | assumption | omega | exact rfl) only [bs, rs53, ls53_34, Nat.reduceAdd, ↓reduceIte, loadD_pagg a44 z44, storeD_agg z44]
   exact ⟨by first | exact .inl trivial | exact .inr trivial | simp, hq⟩
  | ret _ => (first | cases h | (simp at h))
 | ret _ => (first | cases h | (simp at h))
theorem slices_heapSortCmpFunc_34_call {x0 : (List Move)} {x1 : Int} {x2 : Int} {r : (List Move)} (h : slices_heapSortCmpFunc moves_Moves_c2 x0 x1 x2 = some r) : callW Try.prog A0 53 [.ref 0 0 x0.length 3, iv x1, iv x2, .p (.fn (.func 34) [])] [.arr (encL en_Move x0)] = some (.p (.tup []), [.arr (encL en_Move r)]) := f53_34_ok x0 x1 x2 _ h
def ls67_34 := And.intro @idxR_29 (And.intro @sv_1_0_1 (@varld_1_0))
theorem f67_34_ok  (x0 : (List Move)) (x1 : Int) (x2 : Int) (x3 : Int) (r : (Int × Int × (List Move) × Int)) (h : slices_order2CmpFunc moves_Moves_c2 x0 x1 x2 x3 = some r) : callW Try.prog A0 67 [.ref 0 0 x0.length 3, iv x1, iv x2, .ptr 1 0, .p (.fn (.func 34) [])] [.arr (encL en_Move x0), .var [iv x3]] = some (.p (.tup [.v (.int .i64 r.1), .v (.int .i64 r.2.1)]), [.arr (encL en_Move r.2.2.1), .var [iv r.2.2.2]]) := by
 refine call_ofH (fn := Try.f67) (c := bodyOf Try.f67) rfl (by kernel_rfl) (by kernel_rfl) ?_
 rw [show initS Try.f67 [.ref 0 0 x0.length 3, iv x1, iv x2, .ptr 1 0, .p (.fn (.func 34) [])] [.arr (encL en_Move x0), .var [iv x3]] = ⟨.ref 0 0 x0.length 3 :: iv x1 :: iv x2 :: .ptr 1 0 :: .p (.fn (.func 34) []) :: List.replicate 27 undefD, [.arr (encL en_Move x0), .var [iv x3]], 2⟩ from by kernel_rfl]
 unfold slices_order2CmpFunc at h
 unfold bodyOf Try.f67; simp only [Option.getD_some, loopsOf, List.append_nil, List.nil_append, List.cons_append, List.getD_cons_zero, List.getD_cons_succ]
 simp only [List.replicate]
 obtain ⟨v1, h2, h⟩ := Option.bind_eq_some_iff.1 h
 obtain ⟨h2a, h2b, _⟩ := rd_some h2
 have h3 := lk_arr_44 h2
 obtain ⟨v4, h5, h⟩ := Option.bind_eq_some_iff.1 h
 obtain ⟨h5a, h5b, _⟩ := rd_some h5
 have h6 := lk_arr_44 h5
 obtain ⟨r7, h8, h⟩ := Option.bind_eq_some_iff.1 h
 have h9 : ∀ H, callD (callW Try.prog A0) A0 H 34 [.p (.agg [.v (.int .i64 v1.Kind), .v (.int .i64 v1.Old), .v (.int .i64 v1.New)]), .p (.agg [.v (.int .i64 v4.Kind), .v (.int .i64 v4.Old), .v (.int .i64 v4.New)])] = some (.p (.v (.int .i64 r7)), none) := fun H => moves_Moves_c2_call h8
 by_cases h10 : r7 < (0 : Int)
 ·rw [if_pos h10] at h
  have h10' : decide (r7 < (0 : Int)) = true := decide_eq_true h10
  obtain rfl := Option.some.inj h
  simp (maxSteps := 10000000) (implicitDefEqProofs := false) (disch := first | assumption | omega | exact rfl) only [bs, rs67, ls67_34, Nat.reduceAdd, ↓reduceIte, loadD_pagg a44 z44, loadD_ptr a3, nilCheckD_ptr, ops_nilCheck, storeD_int z3, h3, h6, h9, ↓h10']
  refine ⟨by first | exact .inl trivial | exact .inr trivial | simp, ?_⟩
  show _ = _
  kernel_rfl
 ·rw [if_neg h10] at h
  have h10' : decide (r7 < (0 : Int)) = false := decide_eq_false h10
  obtain rfl := Option.some.inj h
  simp (maxSteps := 10000000) (implicitDefEqProofs := false) (disch := first | assumption | omega | exact rfl) only [bs, rs67, ls67_34, Nat.reduceAdd, ↓reduceIte, loadD_pagg a44 z44, loadD_ptr a3, nilCheckD_ptr, ops_nilCheck, storeD_int z3, h3, h6, h9, ↓h10']
  refine ⟨by first | exact .inl trivial | exact .inr trivial | simp, ?_⟩
  show _ = _
  kernel_rfl
theorem slices_order2CmpFunc_34_call {x0 : (List Move)} {x1 : Int} {x2 : Int} {x3 : Int} {r : (Int × Int × (List Move) × Int)} (h : slices_order2CmpFunc moves_Moves_c2 x0 x1 x2 x3 = some r) : callW Try.prog A0 67 [.ref 0 0 x0.length 3, iv x1, iv x2, .ptr 1 0, .p (.fn (.func 34) [])] [.arr (encL en_Move x0), .var [iv x3]] = some (.p (.tup [.v (.int .i64 r.1), .v (.int .i64 r.2.1)]), [.arr (encL en_Move r.2.2.1), .var [iv r.2.2.2]]) := f67_34_ok x0 x1 x2 x3 _ h
def ls66_34 := And.intro @ex_2_0 (@ex_2_1)
theorem f66_34_ok  (x0 : (List Move)) (x1 : Int) (x2 : Int) (x3 : Int) (x4 : Int) (r : (Int × (List Move) × Int)) (h : slices_medianCmpFunc moves_Moves_c2 x0 x1 x2 x3 x4 = some r) : callW Try.prog A0 66 [.ref 0 0 x0.length 3, iv x1, iv x2, iv x3, .ptr 1 0, .p (.fn (.func 34) [])] [.arr (encL en_Move x0), .var [iv x4]] = some (.p (.v (.int .i64 r.1)), [.arr (encL en_Move r.2.1), .var [iv r.2.2]]) := by
 refine call_ofH (fn := Try.f66) (c := bodyOf Try.f66) rfl (by kernel_rfl) (by kernel_rfl) ?_
 rw [show initS Try.f66 [.ref 0 0 x0.length 3, iv x1, iv x2, iv x3, .ptr 1 0, .p (.fn (.func 34) [])] [.arr (encL en_Move x0), .var [iv x4]] = ⟨.ref 0 0 x0.length 3 :: iv x1 :: iv x2 :: iv x3 :: .ptr 1 0 :: .p (.fn (.func 34) []) :: List.replicate 35 undefD, [.arr (encL en_Move x0), .var [iv x4]], 2⟩ from by kernel_rfl]
 unfold slices_medianCmpFunc at h
 unfold bodyOf Try.f66; simp only [Option.getD_some, loopsOf, List.append_nil, List.nil_append, List.cons_append, List.getD_cons_zero, List.getD_cons_succ]
 simp only [List.replicate]
 obtain ⟨r1, h2, h⟩ := Option.bind_eq_some_iff.1 h
 have h3 : callD (callW Try.prog A0) A0 [.arr (encL en_Move x0), .var [iv x4]] 67 [.ref 0 0 x0.length 3, iv x1, iv x2, .ptr 1 0, .p (.fn (.func 34) [])] = some (.p (.tup [.v (.int .i64 r1.1), .v (.int .i64 r1.2.1)]), some [.arr (encL en_Move r1.2.2.1), .var [iv r1.2.2.2]]) := (callD_put (dsw := [.ref 0 0 x0.length 3, iv x1, iv x2, .ptr 1 0, .p (.fn (.func 34) [])]) (ds' := [.ref 0 0 x0.length 3, iv x1, iv x2, .ptr 1 0, .p (.fn (.func 34) [])]) (i := 0) (ids := [1]) (o := .arr (encL en_Move x0)) (os := [.var [iv x4]]) (o' := .arr (encL en_Move r1.2.2.1)) (os' := [.var [iv r1.2.2.2]]) rfl (by kernel_rfl) (by kernel_rfl) (by kernel_rfl) (by kernel_rfl) (by kernel_rfl) (slices_order2CmpFunc_34_call h2) rfl rfl).trans (by kernel_rfl)
 by_cases hw_ : r1.2.2.1.length = x0.length
 case neg => rw [if_neg hw_] at h; cases h
 rw [if_pos hw_] at h
 have h4 := hw_
 obtain ⟨r5, h6, h⟩ := Option.bind_eq_some_iff.1 h
 have h7 : callD (callW Try.prog A0) A0 [.arr (encL en_Move r1.2.2.1), .var [iv r1.2.2.2]] 67 [.ref 0 0 x0.length 3, iv r1.2.1, iv x3, .ptr 1 0, .p (.fn (.func 34) [])] = some (.p (.tup [.v (.int .i64 r5.1), .v (.int .i64 r5.2.1)]), some [.arr (encL en_Move r5.2.2.1), .var [iv r5.2.2.2]]) := by
     rw [show x0.length = r1.2.2.1.length from by omega]; exact (callD_put (dsw := [.ref 0 0 r1.2.2.1.length 3, iv r1.2.1, iv x3, .ptr 1 0, .p (.fn (.func 34) [])]) (ds' := [.ref 0 0 r1.2.2.1.length 3, iv r1.2.1, iv x3, .ptr 1 0, .p (.fn (.func 34) [])]) (i := 0) (ids := [1]) (o := .arr (encL en_Move r1.2.2.1)) (os := [.var [iv r1.2.2.2]]) (o' := .arr (encL en_Move r5.2.2.1)) (os' := [.var [iv r5.2.2.2]]) rfl (by kernel_rfl) (by kernel_rfl) (by kernel_rfl) (by kernel_rfl) (by kernel_rfl) (slices_order2CmpFunc_34_call h6) rfl rfl).trans (by kernel_rfl)
 by_cases hw_ : r5.2.2.1.length = r1.2.2.1.length
 case neg => rw [if_neg hw_] at h; cases h
 rw [if_pos hw_] at h
 have h8 := hw_
 obtain ⟨r9, h10, h⟩ := Option.bind_eq_some_iff.1 h
 have h11 : callD (callW Try.prog A0) A0 [.arr (encL en_Move r5.2.2.1), .var [iv r5.2.2.2]] 67 [.ref 0 0 x0.length 3, iv r1.1, iv r5.1, .ptr 1 0, .p (.fn (.func 34) [])] = some (.p (.tup [.v (.int .i64 r9.1), .v (.int .i64 r9.2.1)]), some [.arr (encL en_Move r9.2.2.1), .var [iv r9.2.2.2]]) := by
     rw [show x0.length = r5.2.2.1.length from by omega]; exact (callD_put (dsw := [.ref 0 0 r5.2.2.1.length 3, iv r1.1, iv r5.1, .ptr 1 0, .p (.fn (.func 34) [])]) (ds' := [.ref 0 0 r5.2.2.1.length 3, iv r1.1, iv r5.1, .ptr 1 0, .p (.fn (.func 34) [])]) (i := 0) (ids := [1]) (o := .arr (encL en_Move r5.2.2.1)) (os := [.var [iv r5.2.2.2]]) (o' := .arr (encL en_Move r9.2.2.1)) (os' := [.var [iv r9.2.2.2]]) rfl (by kernel_rfl) (by kernel_rfl) (by kernel_rfl) (by kernel_rfl) (by kernel_rfl) (slices_order2CmpFunc_34_call h10) rfl rfl).trans (by kernel_rfl)
 by_cases hw_ : r9.2.2.1.length = r5.2.2.1.length
 case neg => rw [if_neg hw_] at h; cases h
 rw [if_pos hw_] at h
 have h12 := hw_
 obtain rfl := Option.some.inj h
 simp (maxSteps := 10000000) (implicitDefEqProofs := false) (disch := first | assumption | omega | exact rfl) only [bs, rs66, ls66_34, Nat.reduceAdd, ↓reduceIte, h3, h7, h11]
 refine ⟨by first | exact .inl trivial | exact .inr trivial | simp, ?_⟩
 show _ = _
 kernel_rfl
theorem slices_medianCmpFunc_34_call {x0 : (List Move)} {x1 : Int} {x2 : Int} {x3 : Int} {x4 : Int} {r : (Int × (List Move) × Int)} (h : slices_medianCmpFunc moves_Moves_c2 x0 x1 x2 x3 x4 = some r) : callW Try.prog A0 66 [.ref 0 0 x0.length 3, iv x1, iv x2, iv x3, .ptr 1 0, .p (.fn (.func 34) [])] [.arr (encL en_Move x0), .var [iv x4]] = some (.p (.v (.int .i64 r.1)), [.arr (encL en_Move r.2.1), .var [iv r.2.2]]) := f66_34_ok x0 x1 x2 x3 x4 _ h
theorem f65_34_ok  (x0 : (List Move)) (x1 : Int) (x2 : Int) (r : (Int × (List Move) × Int)) (h : slices_medianAdjacentCmpFunc moves_Moves_c2 x0 x1 x2 = some r) : callW Try.prog A0 65 [.ref 0 0 x0.length 3, iv x1, .ptr 1 0, .p (.fn (.func 34) [])] [.arr (encL en_Move x0), .var [iv x2]] = some (.p (.v (.int .i64 r.1)), [.arr (encL en_Move r.2.1), .var [iv r.2.2]]) := by
 refine call_ofH (fn := Try.f65) (c := bodyOf Try.f65) rfl (by kernel_rfl) (by kernel_rfl) ?_
 rw [show initS Try.f65 [.ref 0 0 x0.length 3, iv x1, .ptr 1 0, .p (.fn (.func 34) [])] [.arr (encL en_Move x0), .var [iv x2]] = ⟨.ref 0 0 x0.length 3 :: iv x1 :: .ptr 1 0 :: .p (.fn (.func 34) []) :: List.replicate 14 undefD, [.arr (encL en_Move x0), .var [iv x2]], 2⟩ from by kernel_rfl]
 unfold slices_medianAdjacentCmpFunc at h
 unfold bodyOf Try.f65; simp only [Option.getD_some, loopsOf, List.append_nil, List.nil_append, List.cons_append, List.getD_cons_zero, List.getD_cons_succ]
 simp only [List.replicate]
 obtain ⟨r1, h2, h⟩ := Option.bind_eq_some_iff.1 h
 have h3 : callD (callW Try.prog A0) A0 [.arr (encL en_Move x0), .var [iv x2]] 66 [.ref 0 0 x0.length 3, iv (w64 (x1 - (1 : Int))), iv x1, iv (w64 (x1 + (1 : Int))), .ptr 1 0, .p (.fn (.func 34) [])] = some (.p (.v (.int .i64 r1.1)), some [.arr (encL en_Move r1.2.1), .var [iv r1.2.2]]) := (callD_put (dsw := [.ref 0 0 x0.length 3, iv (w64 (x1 - (1 : Int))), iv x1, iv (w64 (x1 + (1 : Int))), .ptr 1 0, .p (.fn (.func 34) [])]) (ds' := [.ref 0 0 x0.length 3, iv (w64 (x1 - (1 : Int))), iv x1, iv (w64 (x1 + (1 : Int))), .ptr 1 0, .p (.fn (.func 34) [])]) (i := 0) (ids := [1]) (o := .arr (encL en_Move x0)) (os := [.var [iv x2]]) (o' := .arr (encL en_Move r1.2.1)) (os' := [.var [iv r1.2.2]]) rfl (by kernel_rfl) (by kernel_rfl) (by kernel_rfl) (by kernel_rfl) (by kernel_rfl) (slices_medianCmpFunc_34_call h2) rfl rfl).trans (by kernel_rfl)
 by_cases hw_ : r1.2.1.length = x0.length
 case neg => rw [if_neg hw_] at h; cases h
 rw [if_pos hw_] at h
 have h4 := hw_
 obtain rfl := Option.some.inj h
 simp (maxSteps := 10000000) (implicitDefEqProofs := false) (disch := first | assumption | omega | exact rfl) only [bs, rs65, Nat.reduceAdd, ↓reduceIte, h3]
 refine ⟨by first | exact .inl trivial | exact .inr trivial | simp, ?_⟩
 show _ = _
 kernel_rfl
theorem slices_medianAdjacentCmpFunc_34_call {x0 : (List Move)} {x1 : Int} {x2 : Int} {r : (Int × (List Move) × Int)} (h : slices_medianAdjacentCmpFunc moves_Moves_c2 x0 x1 x2 = some r) : callW Try.prog A0 65 [.ref 0 0 x0.length 3, iv x1, .ptr 1 0, .p (.fn (.func 34) [])] [.arr (encL en_Move x0), .var [iv x2]] = some (.p (.v (.int .i64 r.1)), [.arr (encL en_Move r.2.1), .var [iv r.2.2]]) := f65_34_ok x0 x1 x2 _ h
def ls55_34 := And.intro @al_3 (@varld_1_0)
theorem f55_34_ok  (x0 : (List Move)) (x1 : Int) (x2 : Int) (r : (Int × Int × (List Move))) (h : slices_choosePivotCmpFunc moves_Moves_c2 x0 x1 x2 = some r) : callW Try.prog A0 55 [.ref 0 0 x0.length 3, iv x1, iv x2, .p (.fn (.func 34) [])] [.arr (encL en_Move x0)] = some (.p (.tup [.v (.int .i64 r.1), .v (.int .i64 r.2.1)]), [.arr (encL en_Move r.2.2)]) := by
 refine call_ofH (fn := Try.f55) (c := bodyOf Try.f55) rfl (by kernel_rfl) (by kernel_rfl) ?_
 rw [show initS Try.f55 [.ref 0 0 x0.length 3, iv x1, iv x2, .p (.fn (.func 34) [])] [.arr (encL en_Move x0)] = ⟨.ref 0 0 x0.length 3 :: iv x1 :: iv x2 :: .p (.fn (.func 34) []) :: List.replicate 59 undefD, [.arr (encL en_Move x0)], 1⟩ from by kernel_rfl]
 unfold slices_choosePivotCmpFunc at h
 unfold bodyOf Try.f55; simp only [Option.getD_some, loopsOf, List.append_nil, List.nil_append, List.cons_append, List.getD_cons_zero, List.getD_cons_succ]
 simp only [List.replicate]
 obtain ⟨q1, h2, h⟩ := Option.bind_eq_some_iff.1 h
 have h3 : ∀ xo yo, binD Try.prog .quo 3 xo yo (.p (.v (.int .i64 (w64 (x2 - x1))))) (.p (.v (.int .i64 (4 : Int)))) = some (.p (.v (.int .i64 q1))) := fun xo yo => binD_quo_k h2
 by_cases h4 : (8 : Int) ≤ (w64 (x2 - x1))
 ·rw [if_pos h4] at h
  have h4' : decide ((8 : Int) ≤ (w64 (x2 - x1))) = true := decide_eq_true h4
  by_cases h5 : (50 : Int) ≤ (w64 (x2 - x1))
  ·rw [if_pos h5] at h
   have h5' : decide ((50 : Int) ≤ (w64 (x2 - x1))) = true := decide_eq_true h5
   obtain ⟨r6, h7, h⟩ := Option.bind_eq_some_iff.1 h
   have h8 : callD (callW Try.prog A0) A0 [.arr (encL en_Move x0), .var [iv (0 : Int)]] 65 [.ref 0 0 x0.length 3, iv (w64 (x1 + (w64 (q1 * (1 : Int))))), .ptr 1 0, .p (.fn (.func 34) [])] = some (.p (.v (.int .i64 r6.1)), some [.arr (encL en_Move r6.2.1), .var [iv r6.2.2]]) := (callD_put (dsw := [.ref 0 0 x0.length 3, iv (w64 (x1 + (w64 (q1 * (1 : Int))))), .ptr 1 0, .p (.fn (.func 34) [])]) (ds' := [.ref 0 0 x0.length 3, iv (w64 (x1 + (w64 (q1 * (1 : Int))))), .ptr 1 0, .p (.fn (.func 34) [])]) (i := 0) (ids := [1]) (o := .arr (encL en_Move x0)) (os := [.var [iv (0 : Int)]]) (o' := .arr (encL en_Move r6.2.1)) (os' := [.var [iv r6.2.2]]) rfl (by kernel_rfl) (by kernel_rfl) (by kernel_rfl) (by kernel_rfl) (by kernel_rfl) (slices_medianAdjacentCmpFunc_34_call h7) rfl rfl).trans (by kernel_rfl)
   by_cases hw_ : r6.2.1.length = x0.length
   case neg => rw [if_neg hw_] at h; cases h
   rw [if_pos hw_] at h
   have h9 := hw_
   obtain ⟨r10, h11, h⟩ := Option.bind_eq_some_iff.1 h
   have h12 : callD (callW Try.prog A0) A0 [.arr (encL en_Move r6.2.1), .var [iv r6.2.2]] 65 [.ref 0 0 x0.length 3, iv (w64 (x1 + (w64 (q1 * (2 : Int))))), .ptr 1 0, .p (.fn (.func 34) [])] = some (.p (.v (.int .i64 r10.1)), some [.arr (encL en_Move r10.2.1), .var [iv r10.2.2]]) := by
       rw [show x0.length = r6.2.1.length from by omega]; exact (callD_put (dsw := [.ref 0 0 r6.2.1.length 3, iv (w64 (x1 + (w64 (q1 * (2 : Int))))), .ptr 1 0, .p (.fn (.func 34) [])]) (ds' := [.ref 0 0 r6.2.1.length 3, iv (w64 (x1 + (w64 (q1 * (2 : Int))))), .ptr 1 0, .p (.fn (.func 34) [])]) (i := 0) (ids := [1]) (o := .arr (encL en_Move r6.2.1)) (os := [.var [iv r6.2.2]]) (o' := .arr (encL en_Move r10.2.1)) (os' := [.var [iv r10.2.2]]) rfl (by kernel_rfl) (by kernel_rfl) (by kernel_rfl) (by kernel_rfl) (by kernel_rfl) (slices_medianAdjacentCmpFunc_34_call h11) rfl rfl).trans (by kernel_rfl)
   by_cases hw_ : r10.2.1.length = r6.2.1.length
   case neg => rw [if_neg hw_] at h; cases h
   rw [if_pos hw_] at h
   have h13 := hw_
   obtain ⟨r14, h15, h⟩ := Option.bind_eq_some_iff.1 h
   have h16 : callD (callW Try.prog A0) A0 [.arr (encL en_Move r10.2.1), .var [iv r10.2.2]] 65 [.ref 0 0 x0.length 3, iv (w64 (x1 + (w64 (q1 * (3 : Int))))), .ptr 1 0, .p (.fn (.func 34) [])] = some (.p (.v (.int .i64 r14.1)), some [.arr (encL en_Move r14.2.1), .var [iv r14.2.2]]) := by
       rw [show x0.length = r10.2.1.length from by omega]; exact (callD_put (dsw := [.ref 0 0 r10.2.1.length 3, iv (w64 (x1 + (w64 (q1 * (3 : Int))))), .ptr 1 0, .p (.fn (.func 34) [])]) (ds' := [.ref 0 0 r10.2.1.length 3, iv (w64 (x1 + (w64 (q1 * (3 : Int))))), .ptr 1 0, .p (.fn (.func 34) [])]) (i := 0) (ids := [1]) (o := .arr (encL en_Move r10.2.1)) (os := [.var [iv r10.2.2]]) (o' := .arr (encL en_Move r14.2.1)) (os' := [.var [iv r14.2.2]]) rfl (by kernel_rfl) (by kernel_rfl) (by kernel_rfl) (by kernel_rfl) (by kernel_rfl) (slices_medianAdjacentCmpFunc_34_call h15) rfl rfl).trans (by kernel_rfl)
   by_cases hw_ : r14.2.1.length = r10.2.1.length
   case neg => rw [if_neg hw_] at h; cases h
   rw [if_pos hw_] at h
   have h17 := hw_
   obtain ⟨r18, h19, h⟩ := Option.bind_eq_some_iff.1 h
   have h20 : callD (callW Try.prog A0) A0 [.arr (encL en_Move r14.2.1), .var [iv r14.2.2]] 66 [.ref 0 0 x0.length 3, iv r6.1, iv r10.1, iv r14.1, .ptr 1 0, .p (.fn (.func 34) [])] = some (.p (.v (.int .i64 r18.1)), some [.arr (encL en_Move r18.2.1), .var [iv r18.2.2]]) := by
       rw [show x0.length = r14.2.1.length from by omega]; exact (callD_put (dsw := [.ref 0 0 r14.2.1.length 3, iv r6.1, iv r10.1, iv r14.1, .ptr 1 0, .p (.fn (.func 34) [])]) (ds' := [.ref 0 0 r14.2.1.length 3, iv r6.1, iv r10.1, iv r14.1, .ptr 1 0, .p (.fn (.func 34) [])]) (i := 0) (ids := [1]) (o := .arr (encL en_Move r14.2.1)) (os := [.var [iv r14.2.2]]) (o' := .arr (encL en_Move r18.2.1)) (os' := [.var [iv r18.2.2]]) rfl (by kernel_rfl) (by kernel_rfl) (by kernel_rfl) (by kernel_rfl) (by kernel_rfl) (slices_medianCmpFunc_34_call h19) rfl rfl).trans (by kernel_rfl)
   by_cases hw_ : r18.2.1.length = r14.2.1.length
   case neg => rw [if_neg hw_] at h; cases h
   rw [if_pos hw_] at h
   have h21 := hw_
   by_cases h22 : r18.2.2 = (0 : Int)
   ·rw [if_pos h22] at h
    have h22' : decide (r18.2.2 = (0 : Int)) = true := decide_eq_true h22
    obtain rfl := Option.some.inj h
    simp (maxSteps := 10000000) (implicitDefEqProofs := false) (disch := first | assumption | omega | exact rfl) only [bs, rs55, ls55_34, Nat.reduceAdd, ↓reduceIte, Int.reduceEq, Int.reduceLE, Int.reduceLT, loadD_ptr a3, h3, ↓h4', ↓h5', h8, h12, h16, h20, ↓h22']
    refine ⟨by first | exact .inl trivial | exact .inr trivial | simp, ?_⟩
    show _ = _
    kernel_rfl
   ·rw [if_neg h22] at h
    have h22' : decide (r18.2.2 = (0 : Int)) = false := decide_eq_false h22
    by_cases h23 : r18.2.2 = (12 : Int)
    ·rw [if_pos h23] at h
     have h23' : decide (r18.2.2 = (12 : Int)) = true := decide_eq_true h23
     obtain rfl := Option.some.inj h
     simp (maxSteps := 10000000) (implicitDefEqProofs := false) (disch := first | assumption | omega | exact rfl) only [bs, rs55, ls55_34, Nat.reduceAdd, ↓reduceIte, Int.reduceEq, Int.reduceLE, Int.reduceLT, loadD_ptr a3, h3, ↓h4', ↓h5', h8, h12, h16, h20, ↓h22', ↓h23']
     refine ⟨by first | exact .inl trivial | exact .inr trivial | simp, ?_⟩
     show _ = _
     kernel_rfl
    ·rw [if_neg h23] at h
     have h23' : decide (r18.2.2 = (12 : Int)) = false := decide_eq_false h23
     obtain rfl := Option.some.inj h
     simp (maxSteps := 10000000) (implicitDefEqProofs := false) (disch := first | assumption | omega | exact rfl) only [bs, rs55, ls55_34, Nat.reduceAdd, ↓reduceIte, Int.reduceEq, Int.reduceLE, Int.reduceLT, loadD_ptr a3, h3, ↓h4', ↓h5', h8, h12, h16, h20, ↓h22', ↓h23']
     refine ⟨by first | exact .inl trivial | exact .inr trivial | simp, ?_⟩
     show _ = _
     kernel_rfl
  ·rw [if_neg h5] at h
   have h5' : decide ((50 : Int) ≤ (w64 (x2 - x1))) = false := decide_eq_false h5
   obtain ⟨r24, h25, h⟩ := Option.bind_eq_some_iff.1 h
   have h26 : callD (callW Try.prog A0) A0 [.arr (encL en_Move x0), .var [iv (0 : Int)]] 66 [.ref 0 0 x0.length 3, iv (w64 (x1 + (w64 (q1 * (1 : Int))))), iv (w64 (x1 + (w64 (q1 * (2 : Int))))), iv (w64 (x1 + (w64 (q1 * (3 : Int))))), .ptr 1 0, .p (.fn (.func 34) [])] = some (.p (.v (.int .i64 r24.1)), some [.arr (encL en_Move r24.2.1), .var [iv r24.2.2]]) := (callD_put (dsw := [.ref 0 0 x0.length 3, iv (w64 (x1 + (w64 (q1 * (1 : Int))))), iv (w64 (x1 + (w64 (q1 * (2 : Int))))), iv (w64 (x1 + (w64 (q1 * (3 : Int))))), .ptr 1 0, .p (.fn (.func 34) [])]) (ds' := [.ref 0 0 x0.length 3, iv (w64 (x1 + (w64 (q1 * (1 : Int))))), iv (w64 (x1 + (w64 (q1 * (2 : Int))))), iv (w64 (x1 + (w64 (q1 * (3 : Int))))), .ptr 1 0, .p (.fn (.func 34) [])]) (i := 0) (ids := [1]) (o := .arr (encL en_Move x0)) (os := [.var [iv (0 : Int)]]) (o' := .arr (encL en_Move r24.2.1)) (os' := [.var [iv r24.2.2]]) rfl (by kernel_rfl) (by kernel_rfl) (by kernel_rfl) (by kernel_rfl) (by kernel_rfl) (slices_medianCmpFunc_34_call h25) rfl rfl).trans (by kernel_rfl)
   by_cases hw_ : r24.2.1.length = x0.length
   case neg => rw [if_neg hw_] at h; cases h
   rw [if_pos hw_] at h
   have h27 := hw_
   by_cases h28 : r24.2.2 = (0 : Int)
   ·rw [if_pos h28] at h
    have h28' : decide (r24.2.2 = (0 : Int)) = true := decide_eq_true h28
    obtain rfl := Option.some.inj h
    simp (maxSteps := 10000000) (implicitDefEqProofs := false) (disch := first | assumption | omega | exact rfl) only [bs, rs55, ls55_34, Nat.reduceAdd, ↓reduceIte, Int.reduceEq, Int.reduceLE, Int.reduceLT, loadD_ptr a3, h3, ↓h4', ↓h5', h26, ↓h28']
    refine ⟨by first | exact .inl trivial | exact .inr trivial | simp, ?_⟩
    show _ = _
    kernel_rfl
   ·rw [if_neg h28] at h
    have h28' : decide (r24.2.2 = (0 : Int)) = false := decide_eq_false h28
    by_cases h29 : r24.2.2 = (12 : Int)
    ·rw [if_pos h29] at h
     have h29' : decide (r24.2.2 = (12 : Int)) = true := decide_eq_true h29
     obtain rfl := Option.some.inj h
     simp (maxSteps := 10000000) (implicitDefEqProofs := false) (disch := first | assumption | omega | exact rfl) only [bs, rs55, ls55_34, Nat.reduceAdd, ↓reduceIte, Int.reduceEq, Int.reduceLE, Int.reduceLT, loadD_ptr a3, h3, ↓h4', ↓h5', h26, ↓h28', ↓h29']
     refine ⟨by first | exact .inl trivial | exact .inr trivial | simp, ?_⟩
     show _ = _
     kernel_rfl
    ·rw [if_neg h29] at h
     have h29' : decide (r24.2.2 = (12 : Int)) = false := decide_eq_false h29
     obtain rfl := Option.some.inj h
     simp (maxSteps := 10000000) (implicitDefEqProofs := false) (disch := first | assumption | omega | exact rfl) only [bs, rs55, ls55_34, Nat.reduceAdd, ↓reduceIte, Int.reduceEq, Int.reduceLE, Int.reduceLT, loadD_ptr a3, h3, ↓h4', ↓h5', h26, ↓h28', ↓h29']
     refine ⟨by first | exact .inl trivial | exact .inr trivial | simp, ?_⟩
     show _ = _
     kernel_rfl
 ·rw [if_neg h4] at h
  have h4' : decide ((8 : Int) ≤ (w64 (x2 - x1))) = false := decide_eq_false h4
  obtain rfl := Option.some.inj h
  simp (maxSteps := 10000000) (implicitDefEqProofs := false) (disch := first | assumption | omega | exact rfl) only [bs, rs55, ls55_34, Nat.reduceAdd, ↓reduceIte, Int.reduceEq, Int.reduceLE, Int.reduceLT, loadD_ptr a3, h3, ↓h4']
  refine ⟨by first | exact .inl trivial | exact .inr trivial | simp, ?_⟩
  show _ = _
  kernel_rfl
theorem slices_choosePivotCmpFunc_34_call {x0 : (List Move)} {x1 : Int} {x2 : Int} {r : (Int × Int × (List Move))} (h : slices_choosePivotCmpFunc moves_Moves_c2 x0 x1 x2 = some r) : callW Try.prog A0 55 [.ref 0 0 x0.length 3, iv x1, iv x2, .p (.fn (.func 34) [])] [.arr (encL en_Move x0)] = some (.p (.tup [.v (.int .i64 r.1), .v (.int .i64 r.2.1)]), [.arr (encL en_Move r.2.2)]) := f55_34_ok x0 x1 x2 _ h
def ls56_34 := @idxR_29
noncomputable def L56_0 : Code := (loopsOf (bodyOf Try.f56)).getD 0 .skip
def g56_0 : List Ghost := [.keep [0, 8, 9]]
def F56_34_0 : (Int × Int × (List Move)) → St := fun (s8, s9, y0) => ⟨[.ref 0 0 y0.length 3, .junk, .junk, .junk, .junk, .junk, .junk, .junk, iv s8, iv s9, .junk, .junk, .junk, .junk, .junk, .junk, .junk, .junk, .junk, .junk, .junk, .junk, .junk, .junk, .junk, .junk, .junk, .junk, .junk, .junk, .junk, .junk, .junk, .junk], [.arr (encL en_Move y0)], 1⟩
theorem L56_34_0_ok : ∀ s st o, ghostsD g56_0 st = some (F56_34_0 s) → iter (slices_reverseRangeCmpFunc_L0 moves_Moves_c2) s = some o →
    Wp (evW Try.prog A0 56 (.loop L56_0) st) (OutQ (F56_34_0) g56_0 (fun n s st => n = 0 ∧ (match s with | (s8, s9, y0) => finishD Try.prog A0 56 Try.f56 st = some (.p (.tup []), [.arr (encL en_Move y0)]))) (fun r st => finishD Try.prog A0 56 Try.f56 st = some (.p (.tup []), [.arr (encL en_Move r)])) o) := by
 refine Wp.iter ?_
 intro s st o hg h
 obtain ⟨s8, s9, y0⟩ := s
 unfold slices_reverseRangeCmpFunc_L0 at h
 unfold g56_0 F56_34_0 at hg ⊢
 (try simp only [] at h hg)
 unfold L56_0 bodyOf Try.f56; simp only [Option.getD_some, loopsOf, List.append_nil, List.nil_append, List.cons_append, List.getD_cons_zero, List.getD_cons_succ]
 by_cases h14 : s8 < s9
 ·rw [if_pos h14] at h
  have h14' : decide (s8 < s9) = true := decide_eq_true h14
  obtain ⟨v15, h16, h⟩ := Option.bind_eq_some_iff.1 h
  obtain ⟨h16a, h16b, _⟩ := rd_some h16
  have h17 := lk_arr_44 h16
  obtain ⟨v18, h19, h⟩ := Option.bind_eq_some_iff.1 h
  obtain ⟨h19a, h19b, _⟩ := rd_some h19
  have h20 := lk_arr_44 h19
  have h21 : ∀ (H : List Ob) (id : Nat), staOb H id (s8.toNat * 3) 3 [.v (.int .i64 v15.Kind), .v (.int .i64 v15.Old), .v (.int .i64 v15.New)] (some (.arr (encL en_Move y0))) = some (H.set id (.arr (encL en_Move (y0.set s8.toNat v15)))) := fun H id => by
      have := sta_arr (H := H) (id := id) (v := v15) en_Move_len h19a h19b
      rw [en_Move_eq] at this
      exact this
  have h22 : (y0.set s8.toNat v15).length = y0.length := List.length_set
  obtain ⟨v23, h24, h⟩ := Option.bind_eq_some_iff.1 h
  obtain ⟨h24a, h24b, _⟩ := rd_some h24
  have h25 : ∀ (H : List Ob) (id : Nat), staOb H id (s9.toNat * 3) 3 [.v (.int .i64 v18.Kind), .v (.int .i64 v18.Old), .v (.int .i64 v18.New)] (some (.arr (encL en_Move (y0.set s8.toNat v15)))) = some (H.set id (.arr (encL en_Move ((y0.set s8.toNat v15).set s9.toNat v18)))) := fun H id => by
      have := sta_arr (H := H) (id := id) (v := v18) en_Move_len h24a h24b
      rw [en_Move_eq] at this
      exact this
  have h26 : ((y0.set s8.toNat v15).set s9.toNat v18).length = (y0.set s8.toNat v15).length := List.length_set
  obtain rfl := Option.some.inj h
  simp (maxSteps := 10000000) (implicitDefEqProofs := false) (disch := first | assumption | omega | exact rfl) only [bs, rs56, ls56_34, Nat.reduceAdd, ↓reduceIte, loadD_pagg a44 z44, storeD_agg z44, hg, ↓h14', h17, h20, h21, h25]
  exact ⟨rfl, by simp only [List.length_set, cpL_len]; kernel_rfl⟩
 ·rw [if_neg h14] at h
  have h14' : decide (s8 < s9) = false := decide_eq_false h14
  obtain rfl := Option.some.inj h
  simp (maxSteps := 10000000) (implicitDefEqProofs := false) (disch := first | assumption | omega | exact rfl) only [bs, rs56, ls56_34, Nat.reduceAdd, ↓reduceIte, loadD_pagg a44 z44, storeD_agg z44, hg, ↓h14']
  refine ⟨rfl, rfl, ?_⟩
  show _ = _
  kernel_rfl
theorem f56_34_ok  (x0 : (List Move)) (x1 : Int) (x2 : Int) (r : (List Move)) (h : slices_reverseRangeCmpFunc moves_Moves_c2 x0 x1 x2 = some r) : callW Try.prog A0 56 [.ref 0 0 x0.length 3, iv x1, iv x2, .p (.fn (.func 34) [])] [.arr (encL en_Move x0)] = some (.p (.tup []), [.arr (encL en_Move r)]) := by
 refine call_ofH (fn := Try.f56) (c := bodyOf Try.f56) rfl (by kernel_rfl) (by kernel_rfl) ?_
 rw [show initS Try.f56 [.ref 0 0 x0.length 3, iv x1, iv x2, .p (.fn (.func 34) [])] [.arr (encL en_Move x0)] = ⟨.ref 0 0 x0.length 3 :: iv x1 :: iv x2 :: .p (.fn (.func 34) []) :: List.replicate 30 undefD, [.arr (encL en_Move x0)], 1⟩ from by kernel_rfl]
 unfold slices_reverseRangeCmpFunc at h
 unfold bodyOf Try.f56; simp only [Option.getD_some, loopsOf, List.append_nil, List.nil_append, List.cons_append, List.getD_cons_zero, List.getD_cons_succ]
 simp only [List.replicate]
 obtain ⟨o, h27, h⟩ := Option.bind_eq_some_iff.1 h
 simp (maxSteps := 10000000) (implicitDefEqProofs := false) (disch := first | assumption | omega | exact rfl) only [bs, rs56, ls56_34, Nat.reduceAdd, ↓reduceIte, loadD_pagg a44 z44, storeD_agg z44]
 refine Wp.ctx (fun x => blockW _ (x)) (L56_34_0_ok (x1, w64 (x2 - (1 : Int)), x0) _ o (by kernel_rfl) h27) ?_
 intro e st hq
 cases o with
 | next _ => (first | cases h | (simp at h))
 | jmp n_ s_ =>
  obtain ⟨rfl, rfl, hq⟩ := hq
  obtain ⟨s8_28, s9_28, y0_28⟩ := s_
  obtain rfl := Option.some.inj h
  simp (maxSteps := 10000000) (implicitDefEqProofs := false) (disch := first | assumption | omega | exact rfl) only [bs, rs56, ls56_34, Nat.reduceAdd, ↓reduceIte, loadD_pagg a44 z44, storeD_agg z44]
  exact ⟨by first | exact .inl trivial | exact .inr trivial | simp, hq⟩
 | ret _ => (first | cases h | (simp at h))
theorem slices_reverseRangeCmpFunc_34_call {x0 : (List Move)} {x1 : Int} {x2 : Int} {r : (List Move)} (h : slices_reverseRangeCmpFunc moves_Moves_c2 x0 x1 x2 = some r) : callW Try.prog A0 56 [.ref 0 0 x0.length 3, iv x1, iv x2, .p (.fn (.func 34) [])] [.arr (encL en_Move x0)] = some (.p (.tup []), [.arr (encL en_Move r)]) := f56_34_ok x0 x1 x2 _ h
end Xn

