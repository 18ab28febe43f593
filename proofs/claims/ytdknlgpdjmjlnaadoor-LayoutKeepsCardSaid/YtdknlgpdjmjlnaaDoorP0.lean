/- A part of the proof: P0. No conditions of its own. -/
import Derived.Test.YtdknlgpdjmjlnaaDoorL
namespace Xl
open Go Go.Ev Go.Proofs
set_option linter.unusedSimpArgs false
set_option linter.unusedVariables false
set_option linter.defProp false
set_option maxRecDepth 8000
set_option maxHeartbeats 40000000
def ls27 := @idxL_22
noncomputable def L27_0 : Code := (loopsOf (bodyOf Tryd.f27)).getD 0 .skip
def g27_0 : List Ghost := [.weak [0, 1], .keep [0, 1, 12, 13]]
def F27_0 (s0 : (List ByteArray)) (s1 : (List ByteArray)) (s12 : Int) : Int → St := fun s13 => ⟨[.p (.lst false s0.length (encL en_str s0)), .p (.lst false s1.length (encL en_str s1)), .junk, .junk, .junk, .junk, .junk, .junk, .junk, .junk, .junk, .junk, iv s12, iv s13, .junk, .junk, .junk, .junk, .junk, .junk, .junk, .junk, .junk, .junk, .junk, .junk], [], 0⟩
theorem L27_0_ok (s0 : (List ByteArray)) (s1 : (List ByteArray)) (s12 : Int) : ∀ s st o, ghostsD g27_0 st = some (F27_0 s0 s1 s12 s) → iter (slices_Equal_string_string_L0 s0 s1 s12) s = some o →
    Wp (evW Tryd.prog A0 27 (.loop L27_0) st) (OutQ (F27_0 s0 s1 s12) g27_0 (fun n s st => n = 0 ∧ ghostsD [.keep [0, 1, 12, 13]] st = some (F27_0 s0 s1 s12 s)) (fun r st => finishD Tryd.prog A0 27 Tryd.f27 st = some (.p (.v (.bool r)), [])) o) := by
 refine Wp.iter ?_
 intro s st o hg h
 generalize s = s13 at hg h
 unfold slices_Equal_string_string_L0 at h
 unfold g27_0 F27_0 at hg ⊢
 (try simp only [] at h hg)
 unfold L27_0 bodyOf Tryd.f27; simp only [Option.getD_some, loopsOf, List.append_nil, List.nil_append, List.cons_append, List.getD_cons_zero, List.getD_cons_succ]
 by_cases h2 : s13 < s12
 ·rw [if_pos h2] at h
  have h2' : decide (s13 < s12) = true := decide_eq_true h2
  obtain ⟨v3, h4, h⟩ := bsm h
  obtain ⟨h4a, h4b, _⟩ := rd_some h4
  have h5 := ce_9_x h4
  obtain ⟨v6, h7, h⟩ := bsm h
  obtain ⟨h7a, h7b, _⟩ := rd_some h7
  have h8 := ce_9_x h7
  by_cases h9 : v3 = v6
  ·rw [if_pos h9] at h
   have h9' : decide (v3 = v6) = true := decide_eq_true h9
   obtain rfl := Option.some.inj h
   simp (maxSteps := 10000000) (implicitDefEqProofs := false) (disch := first | assumption | omega | exact rfl | exact im_ _) only [bs, rs27, ls27, Nat.reduceAdd, ↓reduceIte, binD_neq_str, lenD_lst u22, loadD_iptr a9, hg, ↓h2', h5, h8, ↓h9']
   exact ⟨rfl, by kernel_rfl⟩
  ·rw [if_neg h9] at h
   have h9' : decide (v3 = v6) = false := decide_eq_false h9
   obtain rfl := Option.some.inj h
   simp (maxSteps := 10000000) (implicitDefEqProofs := false) (disch := first | assumption | omega | exact rfl | exact im_ _) only [bs, rs27, ls27, Nat.reduceAdd, ↓reduceIte, binD_neq_str, lenD_lst u22, loadD_iptr a9, hg, ↓h2', h5, h8, ↓h9']
   refine ⟨rfl, ?_⟩
   exact finish_is (ds := [bv false]) (x := .v (.bool false)) (y := .v (.bool false)) (l := []) rfl rfl rfl rfl (by first | rfl | (simp only [wk, wks, wkL]; first | done | rfl))
 ·rw [if_neg h2] at h
  have h2' : decide (s13 < s12) = false := decide_eq_false h2
  obtain rfl := Option.some.inj h
  simp (maxSteps := 10000000) (implicitDefEqProofs := false) (disch := first | assumption | omega | exact rfl | exact im_ _) only [bs, rs27, ls27, Nat.reduceAdd, ↓reduceIte, binD_neq_str, lenD_lst u22, loadD_iptr a9, hg, ↓h2']
  exact ⟨rfl, rfl, by kernel_rfl⟩
theorem f27_ok  (x0 : (List ByteArray)) (x1 : (List ByteArray)) (r : Bool) (h : slices_Equal_string_string x0 x1 = some r) : callW Tryd.prog A0 27 [.p (.lst false x0.length (encL en_str x0)), .p (.lst false x1.length (encL en_str x1))] [] = some (.p (.v (.bool r)), []) := by
 refine call_ofH (fn := Tryd.f27) (c := bodyOf Tryd.f27) rfl rfl (by kernel_rfl) (by kernel_rfl) ?_
 rw [show initS Tryd.f27 [.p (.lst false x0.length (encL en_str x0)), .p (.lst false x1.length (encL en_str x1))] [] = ⟨.p (.lst false x0.length (encL en_str x0)) :: .p (.lst false x1.length (encL en_str x1)) :: List.replicate 24 undefD, [], 0⟩ from by kernel_rfl]
 unfold slices_Equal_string_string at h
 unfold bodyOf Tryd.f27; simp only [Option.getD_some, loopsOf, List.append_nil, List.nil_append, List.cons_append, List.getD_cons_zero, List.getD_cons_succ]
 simp only [List.replicate]
 by_cases h1 : (x0.length : Int) = (x1.length : Int)
 ·rw [if_pos h1] at h
  have h1' : decide ((x0.length : Int) = (x1.length : Int)) = true := decide_eq_true h1
  obtain ⟨o, h10, h⟩ := bsm h
  simp (maxSteps := 10000000) (implicitDefEqProofs := false) (disch := first | assumption | omega | exact rfl | exact im_ _) only [bs, rs27, ls27, Nat.reduceAdd, ↓reduceIte, binD_neq_str, lenD_lst u22, loadD_iptr a9, ↓h1']
  refine Wp.ctx (fun x => seqW _ _ _ _ (blockW _ (x))) (L27_0_ok x0 x1 (x0.length : Int) (0 : Int) _ o (by kernel_rfl) h10) ?_
  intro e st hq
  cases o with
  | next _ => (first | cases h | (simp at h))
  | jmp n_ s_ =>
   obtain ⟨rfl, rfl, hq⟩ := hq
   generalize s_ = s13_11 at h hq
   unfold F27_0 at hq
   (try simp only [] at h hq)
   obtain rfl := Option.some.inj h
   simp (maxSteps := 10000000) (implicitDefEqProofs := false) (disch := first | assumption | omega | exact rfl | exact im_ _) only [bs, rs27, ls27, Nat.reduceAdd, ↓reduceIte, binD_neq_str, lenD_lst u22, loadD_iptr a9, ↓h1', hq]
   refine ⟨by first | exact .inl trivial | exact .inr trivial | simp, ?_⟩
   exact finish_is (ds := [bv true]) (x := .v (.bool true)) (y := .v (.bool true)) (l := []) rfl rfl rfl rfl (by first | rfl | (simp only [wk, wks, wkL]; first | done | rfl))
  | ret r12 =>
   obtain ⟨rfl, hq⟩ := hq
   obtain rfl := Option.some.inj h
   simp (maxSteps := 10000000) (implicitDefEqProofs := false) (disch := first | assumption | omega | exact rfl | exact im_ _) only [bs, rs27, ls27, Nat.reduceAdd, ↓reduceIte, binD_neq_str, lenD_lst u22, loadD_iptr a9]
   exact ⟨by first | exact .inl trivial | exact .inr trivial | simp, hq⟩
 ·rw [if_neg h1] at h
  have h1' : decide ((x0.length : Int) = (x1.length : Int)) = false := decide_eq_false h1
  obtain rfl := Option.some.inj h
  simp (maxSteps := 10000000) (implicitDefEqProofs := false) (disch := first | assumption | omega | exact rfl | exact im_ _) only [bs, rs27, ls27, Nat.reduceAdd, ↓reduceIte, binD_neq_str, lenD_lst u22, loadD_iptr a9, ↓h1']
  refine ⟨by first | exact .inl trivial | exact .inr trivial | simp, ?_⟩
  exact finish_is (ds := [bv false]) (x := .v (.bool false)) (y := .v (.bool false)) (l := []) rfl rfl rfl rfl (by first | rfl | (simp only [wk, wks, wkL]; first | done | rfl))
theorem slices_Equal_string_string_call {b1 b2 : Bool} {H : List Ob} {x0 : (List ByteArray)} {x1 : (List ByteArray)} {r : Bool} (h : slices_Equal_string_string x0 x1 = some r) : callD (callW Tryd.prog A0) A0 H 27 [.p (.lst b1 x0.length (encL en_str x0)), .p (.lst b2 x1.length (encL en_str x1))] = some (.p (.v (.bool r)), none) :=
  callD_fun (args := [.lst b1 x0.length (encL en_str x0), .lst b2 x1.length (encL en_str x1)]) rfl rfl rfl (by simp only [List.map_cons, List.map_nil, wk, wks, wkL]; exact f27_ok x0 x1 _ h)
theorem f11_ok  (x0 : (List ByteArray)) (x1 : (List ByteArray)) (r : Bool) (h : layout_Equal x0 x1 = some r) : callW Tryd.prog A0 11 [.p (.lst false x0.length (encL en_str x0)), .p (.lst false x1.length (encL en_str x1))] [] = some (.p (.v (.bool r)), []) := by
 refine call_ofH (fn := Tryd.f11) (c := bodyOf Tryd.f11) rfl rfl (by kernel_rfl) (by kernel_rfl) ?_
 rw [show initS Tryd.f11 [.p (.lst false x0.length (encL en_str x0)), .p (.lst false x1.length (encL en_str x1))] [] = ⟨.p (.lst false x0.length (encL en_str x0)) :: .p (.lst false x1.length (encL en_str x1)) :: List.replicate 6 undefD, [], 0⟩ from by kernel_rfl]
 unfold layout_Equal at h
 unfold bodyOf Tryd.f11; simp only [Option.getD_some, loopsOf, List.append_nil, List.nil_append, List.cons_append, List.getD_cons_zero, List.getD_cons_succ]
 simp only [List.replicate]
 obtain ⟨r1, h2, h⟩ := bsm h
 have h3 : ∀ H, callD (callW Tryd.prog A0) A0 H 27 [.p (.lst false x0.length (encL en_str x0)), .p (.lst false x1.length (encL en_str x1))] = some (.p (.v (.bool r1)), none) := fun H => slices_Equal_string_string_call h2
 obtain rfl := Option.some.inj h
 simp (maxSteps := 10000000) (implicitDefEqProofs := false) (disch := first | assumption | omega | exact rfl | exact im_ _) only [bs, rs11, Nat.reduceAdd, ↓reduceIte, h3]
 refine ⟨by first | exact .inl trivial | exact .inr trivial | simp, ?_⟩
 exact finish_is (ds := [bv r1]) (x := .v (.bool r1)) (y := .v (.bool r1)) (l := []) rfl rfl rfl rfl (by first | rfl | (simp only [wk, wks, wkL]; first | done | rfl))
theorem layout_Equal_call {b1 b2 : Bool} {H : List Ob} {x0 : (List ByteArray)} {x1 : (List ByteArray)} {r : Bool} (h : layout_Equal x0 x1 = some r) : callD (callW Tryd.prog A0) A0 H 11 [.p (.lst b1 x0.length (encL en_str x0)), .p (.lst b2 x1.length (encL en_str x1))] = some (.p (.v (.bool r)), none) :=
  callD_fun (args := [.lst b1 x0.length (encL en_str x0), .lst b2 x1.length (encL en_str x1)]) rfl rfl rfl (by simp only [List.map_cons, List.map_nil, wk, wks, wkL]; exact f11_ok x0 x1 _ h)
def ls23 := And.intro @apn_22_22 (@bs_22_0)
theorem f23_ok  (x0 : (List ByteArray)) (r : (List ByteArray)) (h : slices_Clone_string_string x0 = some r) : callW Tryd.prog A0 23 [.p (.lst false x0.length (encL en_str x0))] [] = some (.p (.lst false r.length (encL en_str r)), []) := by
 by_cases hx0 : x0 = []
 case pos => subst hx0; simp [slices_Clone_string_string] at h; subst h; exact clone_nil0 rfl rfl rfl
 refine call_ofH (fn := Tryd.f23) (c := bodyOf Tryd.f23) (by cases x0 with | nil => exact absurd rfl hx0 | cons _ _ => rfl) rfl (by kernel_rfl) (by kernel_rfl) ?_
 rw [show initS Tryd.f23 [.p (.lst false x0.length (encL en_str x0))] [] = ⟨.p (.lst false x0.length (encL en_str x0)) :: List.replicate 7 undefD, [], 0⟩ from by kernel_rfl]
 unfold slices_Clone_string_string at h
 unfold bodyOf Tryd.f23; simp only [Option.getD_some, loopsOf, List.append_nil, List.nil_append, List.cons_append, List.getD_cons_zero, List.getD_cons_succ]
 simp only [List.replicate]
 have h1 : ∀ b n, nilD Tryd.prog .eql 22 (.p (.lst b n (encL en_str x0))) = some (bv false) := fun b n => nilD_ne u22 (encL_ne en_str_len (by decide) hx0)
 by_cases hw_ : x0.length * 16 ≤ 140737488355328
 case neg => rw [if_neg hw_] at h; cases h
 rw [if_pos hw_] at h
 have h3 := hw_
 have h2 : ∀ (H : List Ob), apN H x0.length 1 16 (encL en_str x0) = some (.ref H.length 0 x0.length 1, H ++ [.arr (encL en_str x0)]) := fun H => apn_enc (y := x0) en_str_len rfl rfl (by assumption)
 obtain rfl := Option.some.inj h
 simp (maxSteps := 10000000) (implicitDefEqProofs := false) (disch := first | assumption | omega | exact rfl | exact im_ _) only [bs, rs23, ls23, Nat.reduceAdd, ↓reduceIte, binN_nil, h1, h2]
 refine ⟨by first | exact .inl trivial | exact .inr trivial | simp, ?_⟩
 exact finish_is (ds := [.ref 0 0 x0.length 1]) (x := .lst false x0.length (encL en_str x0)) (y := .lst false x0.length (encL en_str x0)) (l := [0]) rfl rfl rfl (purify1_enc en_str_len rfl (by first | rfl | omega)) (by first | rfl | (simp only [wk, wks, wkL]; first | done | rfl))
theorem slices_Clone_string_string_call {b1 : Bool} {H : List Ob} {x0 : (List ByteArray)} {r : (List ByteArray)} (h : slices_Clone_string_string x0 = some r) : callD (callW Tryd.prog A0) A0 H 23 [.p (.lst b1 x0.length (encL en_str x0))] = some (.p (.lst false r.length (encL en_str r)), none) :=
  callD_fun (args := [.lst b1 x0.length (encL en_str x0)]) rfl rfl rfl (by simp only [List.map_cons, List.map_nil, wk, wks, wkL]; exact f23_ok x0 _ h)
theorem f25_ok  (x0 : ByteArray) (x1 : ByteArray) (r : ByteArray) (h : layout_greater x0 x1 = some r) : callW Tryd.prog A0 25 [.p (.v (.string x0)), .p (.v (.string x1))] [] = some (.p (.v (.string r)), []) := by
 refine call_ofH (fn := Tryd.f25) (c := bodyOf Tryd.f25) rfl rfl (by kernel_rfl) (by kernel_rfl) ?_
 rw [show initS Tryd.f25 [.p (.v (.string x0)), .p (.v (.string x1))] [] = ⟨.p (.v (.string x0)) :: .p (.v (.string x1)) :: List.replicate 22 undefD, [], 0⟩ from by kernel_rfl]
 unfold layout_greater at h
 unfold bodyOf Tryd.f25; simp only [Option.getD_some, loopsOf, List.append_nil, List.nil_append, List.cons_append, List.getD_cons_zero, List.getD_cons_succ]
 simp only [List.replicate]
 by_cases h1 : (x1.size : Int) < (x0.size : Int)
 ·rw [if_pos h1] at h
  have h1' : decide ((x1.size : Int) < (x0.size : Int)) = true := decide_eq_true h1
  obtain rfl := Option.some.inj h
  simp (maxSteps := 10000000) (implicitDefEqProofs := false) (disch := first | assumption | omega | exact rfl | exact im_ _) only [bs, rs25, Nat.reduceAdd, ↓reduceIte, binD_gtr_str, lenD_str u9, ↓h1']
  refine ⟨by first | exact .inl trivial | exact .inr trivial | simp, ?_⟩
  exact finish_is (ds := [.p (.v (.string x0))]) (x := .v (.string x0)) (y := .v (.string x0)) (l := []) rfl rfl rfl rfl (by first | rfl | (simp only [wk, wks, wkL]; first | done | rfl))
 ·rw [if_neg h1] at h
  have h1' : decide ((x1.size : Int) < (x0.size : Int)) = false := decide_eq_false h1
  by_cases h2 : (x0.size : Int) = (x1.size : Int)
  ·rw [if_pos h2] at h
   have h2' : decide ((x0.size : Int) = (x1.size : Int)) = true := decide_eq_true h2
   by_cases h3 : (strLt x0 x1 || decide (x0 = x1)) = true
   ·rw [if_pos h3] at h
    obtain rfl := Option.some.inj h
    simp (maxSteps := 10000000) (implicitDefEqProofs := false) (disch := first | assumption | omega | exact rfl | exact im_ _) only [bs, rs25, Nat.reduceAdd, ↓reduceIte, binD_gtr_str, lenD_str u9, ↓h1', ↓h2', h3]
    refine ⟨by first | exact .inl trivial | exact .inr trivial | simp, ?_⟩
    exact finish_is (ds := [.p (.v (.string x1))]) (x := .v (.string x1)) (y := .v (.string x1)) (l := []) rfl rfl rfl rfl (by first | rfl | (simp only [wk, wks, wkL]; first | done | rfl))
   ·rw [if_neg h3] at h
    replace h3 := Bool.eq_false_iff.2 h3
    obtain rfl := Option.some.inj h
    simp (maxSteps := 10000000) (implicitDefEqProofs := false) (disch := first | assumption | omega | exact rfl | exact im_ _) only [bs, rs25, Nat.reduceAdd, ↓reduceIte, binD_gtr_str, lenD_str u9, ↓h1', ↓h2', h3]
    refine ⟨by first | exact .inl trivial | exact .inr trivial | simp, ?_⟩
    exact finish_is (ds := [.p (.v (.string x0))]) (x := .v (.string x0)) (y := .v (.string x0)) (l := []) rfl rfl rfl rfl (by first | rfl | (simp only [wk, wks, wkL]; first | done | rfl))
  ·rw [if_neg h2] at h
   have h2' : decide ((x0.size : Int) = (x1.size : Int)) = false := decide_eq_false h2
   obtain rfl := Option.some.inj h
   simp (maxSteps := 10000000) (implicitDefEqProofs := false) (disch := first | assumption | omega | exact rfl | exact im_ _) only [bs, rs25, Nat.reduceAdd, ↓reduceIte, binD_gtr_str, lenD_str u9, ↓h1', ↓h2']
   refine ⟨by first | exact .inl trivial | exact .inr trivial | simp, ?_⟩
   exact finish_is (ds := [.p (.v (.string x1))]) (x := .v (.string x1)) (y := .v (.string x1)) (l := []) rfl rfl rfl rfl (by first | rfl | (simp only [wk, wks, wkL]; first | done | rfl))
theorem layout_greater_call {H : List Ob} {x0 : ByteArray} {x1 : ByteArray} {r : ByteArray} (h : layout_greater x0 x1 = some r) : callD (callW Tryd.prog A0) A0 H 25 [.p (.v (.string x0)), .p (.v (.string x1))] = some (.p (.v (.string r)), none) :=
  callD_fun (args := [.v (.string x0), .v (.string x1)]) rfl rfl rfl (by simp only [List.map_cons, List.map_nil, wk, wks, wkL]; exact f25_ok x0 x1 _ h)
theorem f24_ok  (x0 : ByteArray) (x1 : ByteArray) (x2 : ByteArray) (r : ByteArray) (h : layout_merged x0 x1 x2 = some r) : callW Tryd.prog A0 24 [.p (.v (.string x0)), .p (.v (.string x1)), .p (.v (.string x2))] [] = some (.p (.v (.string r)), []) := by
 refine call_ofH (fn := Tryd.f24) (c := bodyOf Tryd.f24) rfl rfl (by kernel_rfl) (by kernel_rfl) ?_
 rw [show initS Tryd.f24 [.p (.v (.string x0)), .p (.v (.string x1)), .p (.v (.string x2))] [] = ⟨.p (.v (.string x0)) :: .p (.v (.string x1)) :: .p (.v (.string x2)) :: List.replicate 20 undefD, [], 0⟩ from by kernel_rfl]
 unfold layout_merged at h
 unfold bodyOf Tryd.f24; simp only [Option.getD_some, loopsOf, List.append_nil, List.nil_append, List.cons_append, List.getD_cons_zero, List.getD_cons_succ]
 simp only [List.replicate]
 by_cases h1 : x1 = x2
 ·rw [if_pos h1] at h
  have h1' : decide (x1 = x2) = true := decide_eq_true h1
  obtain rfl := Option.some.inj h
  simp (maxSteps := 10000000) (implicitDefEqProofs := false) (disch := first | assumption | omega | exact rfl | exact im_ _) only [bs, rs24, Nat.reduceAdd, ↓reduceIte, binD_eql_str, ↓h1']
  refine ⟨by first | exact .inl trivial | exact .inr trivial | simp, ?_⟩
  exact finish_is (ds := [.p (.v (.string x1))]) (x := .v (.string x1)) (y := .v (.string x1)) (l := []) rfl rfl rfl rfl (by first | rfl | (simp only [wk, wks, wkL]; first | done | rfl))
 ·rw [if_neg h1] at h
  have h1' : decide (x1 = x2) = false := decide_eq_false h1
  by_cases h2 : x2 = x0
  ·rw [if_pos h2] at h
   have h2' : decide (x2 = x0) = true := decide_eq_true h2
   obtain rfl := Option.some.inj h
   simp (maxSteps := 10000000) (implicitDefEqProofs := false) (disch := first | assumption | omega | exact rfl | exact im_ _) only [bs, rs24, Nat.reduceAdd, ↓reduceIte, binD_eql_str, ↓h1', ↓h2']
   refine ⟨by first | exact .inl trivial | exact .inr trivial | simp, ?_⟩
   exact finish_is (ds := [.p (.v (.string x1))]) (x := .v (.string x1)) (y := .v (.string x1)) (l := []) rfl rfl rfl rfl (by first | rfl | (simp only [wk, wks, wkL]; first | done | rfl))
  ·rw [if_neg h2] at h
   have h2' : decide (x2 = x0) = false := decide_eq_false h2
   by_cases h3 : x1 = x0
   ·rw [if_pos h3] at h
    have h3' : decide (x1 = x0) = true := decide_eq_true h3
    obtain rfl := Option.some.inj h
    simp (maxSteps := 10000000) (implicitDefEqProofs := false) (disch := first | assumption | omega | exact rfl | exact im_ _) only [bs, rs24, Nat.reduceAdd, ↓reduceIte, binD_eql_str, ↓h1', ↓h2', ↓h3']
    refine ⟨by first | exact .inl trivial | exact .inr trivial | simp, ?_⟩
    exact finish_is (ds := [.p (.v (.string x2))]) (x := .v (.string x2)) (y := .v (.string x2)) (l := []) rfl rfl rfl rfl (by first | rfl | (simp only [wk, wks, wkL]; first | done | rfl))
   ·rw [if_neg h3] at h
    have h3' : decide (x1 = x0) = false := decide_eq_false h3
    obtain ⟨r4, h5, h⟩ := bsm h
    have h6 : ∀ H, callD (callW Tryd.prog A0) A0 H 25 [.p (.v (.string x1)), .p (.v (.string x2))] = some (.p (.v (.string r4)), none) := fun H => layout_greater_call h5
    obtain rfl := Option.some.inj h
    simp (maxSteps := 10000000) (implicitDefEqProofs := false) (disch := first | assumption | omega | exact rfl | exact im_ _) only [bs, rs24, Nat.reduceAdd, ↓reduceIte, binD_eql_str, ↓h1', ↓h2', ↓h3', h6]
    refine ⟨by first | exact .inl trivial | exact .inr trivial | simp, ?_⟩
    exact finish_is (ds := [.p (.v (.string r4))]) (x := .v (.string r4)) (y := .v (.string r4)) (l := []) rfl rfl rfl rfl (by first | rfl | (simp only [wk, wks, wkL]; first | done | rfl))
theorem layout_merged_call {H : List Ob} {x0 : ByteArray} {x1 : ByteArray} {x2 : ByteArray} {r : ByteArray} (h : layout_merged x0 x1 x2 = some r) : callD (callW Tryd.prog A0) A0 H 24 [.p (.v (.string x0)), .p (.v (.string x1)), .p (.v (.string x2))] = some (.p (.v (.string r)), none) :=
  callD_fun (args := [.v (.string x0), .v (.string x1), .v (.string x2)]) rfl rfl rfl (by simp only [List.map_cons, List.map_nil, wk, wks, wkL]; exact f24_ok x0 x1 x2 _ h)
def ls9 := And.intro @ap_22_22 (And.intro @bs_22_1 (@idxL_22))
noncomputable def L9_0 : Code := (loopsOf (bodyOf Tryd.f9)).getD 0 .skip
def g9_0 : List Ghost := [.own 9 1, .weak [0, 1, 2], .keep [0, 1, 2, 3, 9, 34, 35]]
def F9_0 (s0 : (List ByteArray)) (s1 : (List ByteArray)) (s2 : (List ByteArray)) (s3 : Int) (s34 : Int) : (Int × (List ByteArray)) → St := fun (s35, y0) => ⟨[.p (.lst false s0.length (encL en_str s0)), .p (.lst false s1.length (encL en_str s1)), .p (.lst false s2.length (encL en_str s2)), iv s3, .junk, .junk, .junk, .junk, .junk, .ref 0 0 y0.length 1, .junk, .junk, .junk, .junk, .junk, .junk, .junk, .junk, .junk, .junk, .junk, .junk, .junk, .junk, .junk, .junk, .junk, .junk, .junk, .junk, .junk, .junk, .junk, .junk, iv s34, iv s35, .junk, .junk, .junk, .junk, .junk, .junk, .junk, .junk, .junk, .junk, .junk, .junk, .junk, .junk, .junk, .junk, .junk, .junk, .junk, .junk, .junk, .junk, .junk, .junk, .junk, .junk, .junk, .junk, .junk, .junk, .junk, .junk, .junk, .junk, .junk, .junk, .junk, .junk, .junk, .junk, .junk, .junk, .junk, .junk, .junk, .junk, .junk, .junk, .junk, .junk, .junk, .junk, .junk, .junk, .junk, .junk, .junk, .junk, .junk, .junk, .junk, .junk, .junk, .junk, .junk, .junk], [.arr (encL en_str y0)], 0⟩
theorem L9_0_ok (s0 : (List ByteArray)) (s1 : (List ByteArray)) (s2 : (List ByteArray)) (s3 : Int) (s34 : Int) : ∀ s st o, ghostsD g9_0 st = some (F9_0 s0 s1 s2 s3 s34 s) → iter (layout_Gaps_L0 s0 s1 s2 s3 s34) s = some o →
    Wp (evW Tryd.prog A0 9 (.loop L9_0) st) (OutQ (F9_0 s0 s1 s2 s3 s34) g9_0 (fun n s st => n = 1 ∧ ghostsD [.keep [0, 1, 2, 3, 9, 34, 35]] st = some (F9_0 s0 s1 s2 s3 s34 s)) (fun r st => finishD Tryd.prog A0 9 Tryd.f9 st = some (.p (.lst false r.length (encL en_str r)), [])) o) := by
 refine Wp.iter ?_
 intro s st o hg h
 obtain ⟨s35, y0⟩ := s
 unfold layout_Gaps_L0 at h
 unfold g9_0 F9_0 at hg ⊢
 (try simp only [] at h hg)
 unfold L9_0 bodyOf Tryd.f9; simp only [Option.getD_some, loopsOf, List.append_nil, List.nil_append, List.cons_append, List.getD_cons_zero, List.getD_cons_succ]
 by_cases h26 : s35 < s34
 ·rw [if_pos h26] at h
  have h26' : decide (s35 < s34) = true := decide_eq_true h26
  obtain ⟨v27, h28, h⟩ := bsm h
  obtain ⟨h28a, h28b, _⟩ := rd_some h28
  have h29 := ce_9_x h28
  by_cases h30 : (s0.length : Int) = (s1.length : Int)
  ·rw [if_pos h30] at h
   have h30' : decide ((s0.length : Int) = (s1.length : Int)) = true := decide_eq_true h30
   obtain ⟨v31, h32, h⟩ := bsm h
   obtain ⟨h32a, h32b, _⟩ := rd_some h32
   have h33 := ce_9_x h32
   have h34 := ce_9_x h28
   obtain ⟨v35, h36, h⟩ := bsm h
   obtain ⟨h36a, h36b, _⟩ := rd_some h36
   have h37 := ce_9_x h36
   obtain ⟨r38, h39, h⟩ := bsm h
   have h40 : ∀ H, callD (callW Tryd.prog A0) A0 H 24 [.p (.v (.string v31)), .p (.v (.string v27)), .p (.v (.string v35))] = some (.p (.v (.string r38)), none) := fun H => layout_merged_call h39
   by_cases hw_ : (y0.length + 1) * 16 ≤ 140737488355328
   case neg => rw [if_neg hw_] at h; cases h
   rw [if_pos hw_] at h
   have h42 := hw_
   have h41 : ∀ (H : List Ob) (id : Nat), apOb H id 0 y0.length 1 1 1 16 [.v (.string r38)] (some (.arr (encL en_str y0))) = some (.ref H.length 0 (y0 ++ [r38]).length 1, H.set id .dead ++ [.arr (encL en_str (y0 ++ [r38]))]) := fun H id => ap_enc (y := [r38]) en_str_len (by first | rfl | omega) rfl (by first | (simp only [encL_cons, encL_nil, en_str_eq, List.cons_append, List.nil_append]; done) | (simp only [encL_cons, encL_nil, en_str_eq, List.cons_append, List.nil_append]; rfl) | rfl) (by assumption)
   obtain rfl := Option.some.inj h
   simp (maxSteps := 10000000) (implicitDefEqProofs := false) (disch := first | assumption | omega | exact rfl | exact im_ _) only [bs, rs9, ls9, Nat.reduceAdd, ↓reduceIte, binD_eql_str, lenD_lst u22, lenD_ref u22, loadD_iptr a9, wks_nil_, hg, ↓h26', h29, ↓h30', h33, h34, h37, h40, h41]
   exact ⟨rfl, by kernel_rfl⟩
  ·rw [if_neg h30] at h
   have h30' : decide ((s0.length : Int) = (s1.length : Int)) = false := decide_eq_false h30
   obtain ⟨v43, h44, h⟩ := bsm h
   obtain ⟨h44a, h44b, _⟩ := rd_some h44
   have h45 := ce_9_x h44
   by_cases h46 : v27 = v43
   ·rw [if_pos h46] at h
    have h46' : decide (v27 = v43) = true := decide_eq_true h46
    by_cases hw_ : (y0.length + 1) * 16 ≤ 140737488355328
    case neg => rw [if_neg hw_] at h; cases h
    rw [if_pos hw_] at h
    have h48 := hw_
    have h47 : ∀ (H : List Ob) (id : Nat), apOb H id 0 y0.length 1 1 1 16 [.v (.string v27)] (some (.arr (encL en_str y0))) = some (.ref H.length 0 (y0 ++ [v27]).length 1, H.set id .dead ++ [.arr (encL en_str (y0 ++ [v27]))]) := fun H id => ap_enc (y := [v27]) en_str_len (by first | rfl | omega) rfl (by first | (simp only [encL_cons, encL_nil, en_str_eq, List.cons_append, List.nil_append]; done) | (simp only [encL_cons, encL_nil, en_str_eq, List.cons_append, List.nil_append]; rfl) | rfl) (by assumption)
    obtain rfl := Option.some.inj h
    simp (maxSteps := 10000000) (implicitDefEqProofs := false) (disch := first | assumption | omega | exact rfl | exact im_ _) only [bs, rs9, ls9, Nat.reduceAdd, ↓reduceIte, binD_eql_str, lenD_lst u22, lenD_ref u22, loadD_iptr a9, wks_nil_, hg, ↓h26', h29, ↓h30', h45, ↓h46', h47]
    exact ⟨rfl, by kernel_rfl⟩
   ·rw [if_neg h46] at h
    have h46' : decide (v27 = v43) = false := decide_eq_false h46
    have h49 := ce_9_x h44
    obtain ⟨r50, h51, h⟩ := bsm h
    have h52 : ∀ H, callD (callW Tryd.prog A0) A0 H 25 [.p (.v (.string v27)), .p (.v (.string v43))] = some (.p (.v (.string r50)), none) := fun H => layout_greater_call h51
    by_cases hw_ : (y0.length + 1) * 16 ≤ 140737488355328
    case neg => rw [if_neg hw_] at h; cases h
    rw [if_pos hw_] at h
    have h54 := hw_
    have h53 : ∀ (H : List Ob) (id : Nat), apOb H id 0 y0.length 1 1 1 16 [.v (.string r50)] (some (.arr (encL en_str y0))) = some (.ref H.length 0 (y0 ++ [r50]).length 1, H.set id .dead ++ [.arr (encL en_str (y0 ++ [r50]))]) := fun H id => ap_enc (y := [r50]) en_str_len (by first | rfl | omega) rfl (by first | (simp only [encL_cons, encL_nil, en_str_eq, List.cons_append, List.nil_append]; done) | (simp only [encL_cons, encL_nil, en_str_eq, List.cons_append, List.nil_append]; rfl) | rfl) (by assumption)
    obtain rfl := Option.some.inj h
    simp (maxSteps := 10000000) (implicitDefEqProofs := false) (disch := first | assumption | omega | exact rfl | exact im_ _) only [bs, rs9, ls9, Nat.reduceAdd, ↓reduceIte, binD_eql_str, lenD_lst u22, lenD_ref u22, loadD_iptr a9, wks_nil_, hg, ↓h26', h29, ↓h30', h45, ↓h46', h49, h52, h53]
    exact ⟨rfl, by kernel_rfl⟩
 ·rw [if_neg h26] at h
  have h26' : decide (s35 < s34) = false := decide_eq_false h26
  obtain rfl := Option.some.inj h
  simp (maxSteps := 10000000) (implicitDefEqProofs := false) (disch := first | assumption | omega | exact rfl | exact im_ _) only [bs, rs9, ls9, Nat.reduceAdd, ↓reduceIte, binD_eql_str, lenD_lst u22, lenD_ref u22, loadD_iptr a9, wks_nil_, hg, ↓h26']
  exact ⟨rfl, rfl, by kernel_rfl⟩
theorem f9_ok  (x0 : (List ByteArray)) (x1 : (List ByteArray)) (x2 : (List ByteArray)) (x3 : Int) (r : (List ByteArray)) (h : layout_Gaps x0 x1 x2 x3 = some r) : callW Tryd.prog A0 9 [.p (.lst false x0.length (encL en_str x0)), .p (.lst false x1.length (encL en_str x1)), .p (.lst false x2.length (encL en_str x2)), iv x3] [] = some (.p (.lst false r.length (encL en_str r)), []) := by
 refine call_ofH (fn := Tryd.f9) (c := bodyOf Tryd.f9) rfl rfl (by kernel_rfl) (by kernel_rfl) ?_
 rw [show initS Tryd.f9 [.p (.lst false x0.length (encL en_str x0)), .p (.lst false x1.length (encL en_str x1)), .p (.lst false x2.length (encL en_str x2)), iv x3] [] = ⟨.p (.lst false x0.length (encL en_str x0)) :: .p (.lst false x1.length (encL en_str x1)) :: .p (.lst false x2.length (encL en_str x2)) :: iv x3 :: List.replicate 98 undefD, [], 0⟩ from by kernel_rfl]
 unfold layout_Gaps at h
 unfold bodyOf Tryd.f9; simp only [Option.getD_some, loopsOf, List.append_nil, List.nil_append, List.cons_append, List.getD_cons_zero, List.getD_cons_succ]
 simp only [List.replicate]
 obtain ⟨r1, h2, h⟩ := bsm h
 have h3 : ∀ H, callD (callW Tryd.prog A0) A0 H 11 [.p (.lst false x1.length (encL en_str x1)), .p (.lst false x2.length (encL en_str x2))] = some (.p (.v (.bool r1)), none) := fun H => layout_Equal_call h2
 by_cases h4 : r1 = true
 ·rw [if_pos h4] at h
  obtain ⟨r5, h6, h⟩ := bsm h
  have h7 : ∀ H, callD (callW Tryd.prog A0) A0 H 23 [.p (.lst false x1.length (encL en_str x1))] = some (.p (.lst false r5.length (encL en_str r5)), none) := fun H => slices_Clone_string_string_call h6
  simp (maxSteps := 10000000) (implicitDefEqProofs := false) (disch := first | assumption | omega | exact rfl | exact im_ _) only [bs, rs9, ls9, Nat.reduceAdd, ↓reduceIte, binD_eql_str, lenD_lst u22, lenD_ref u22, loadD_iptr a9, wks_nil_, h3, h4, h7]
  refine Wp.gh (fun x => seqW _ _ _ _ (seqW _ _ _ _ (regW _ _ _ _ _ x))) ⟨[.p (.lst false x0.length (encL en_str x0)), .p (.lst false x1.length (encL en_str x1)), .p (.lst false x2.length (encL en_str x2)), iv x3, .junk, .junk, .junk, .junk, .junk, .p (.lst false r5.length (encL en_str r5)), .junk, .junk, .junk, .junk, .junk, .junk, .junk, .junk, .junk, .junk, .junk, .junk, .junk, .junk, .junk, .junk, .junk, .junk, .junk, .junk, .junk, .junk, .junk, .junk, undefD, undefD, .junk, .junk, .junk, .junk, .junk, .junk, .junk, .junk, .junk, .junk, .junk, .junk, .junk, .junk, .junk, .junk, .junk, .junk, .junk, .junk, .junk, .junk, .junk, .junk, .junk, .junk, .junk, .junk, .junk, .junk, .junk, .junk, .junk, .junk, .junk, .junk, .junk, .junk, .junk, .junk, .junk, .junk, .junk, .junk, .junk, .junk, .junk, .junk, .junk, .junk, .junk, .junk, .junk, .junk, .junk, .junk, .junk, .junk, .junk, .junk, .junk, .junk, .junk, .junk, .junk, .junk], [], 0⟩ (by kernel_rfl) ?_
  by_cases h8 : (r5.length : Int) = x3
  ·rw [if_pos h8] at h
   have h8' : decide ((r5.length : Int) = x3) = true := decide_eq_true h8
   obtain rfl := Option.some.inj h
   simp (maxSteps := 10000000) (implicitDefEqProofs := false) (disch := first | assumption | omega | exact rfl | exact im_ _) only [bs, rs9, ls9, Nat.reduceAdd, ↓reduceIte, binD_eql_str, lenD_lst u22, lenD_ref u22, loadD_iptr a9, wks_nil_, h3, h4, h7, ↓h8']
   refine ⟨by first | exact .inl trivial | exact .inr trivial | simp, ?_⟩
   exact finish_is (ds := [.p (.lst false r5.length (encL en_str r5))]) (x := .lst false r5.length (encL en_str r5)) (y := .lst false r5.length (encL en_str r5)) (l := []) rfl rfl rfl rfl (by first | rfl | (simp only [wk, wks, wkL]; first | done | rfl))
  ·rw [if_neg h8] at h
   have h8' : decide ((r5.length : Int) = x3) = false := decide_eq_false h8
   obtain rfl := Option.some.inj h
   simp (maxSteps := 10000000) (implicitDefEqProofs := false) (disch := first | assumption | omega | exact rfl | exact im_ _) only [bs, rs9, ls9, Nat.reduceAdd, ↓reduceIte, binD_eql_str, lenD_lst u22, lenD_ref u22, loadD_iptr a9, wks_nil_, h3, h4, h7, ↓h8']
   refine ⟨by first | exact .inl trivial | exact .inr trivial | simp, ?_⟩
   exact finish_is (ds := [.p (.lst true 0 [])]) (x := .lst true 0 []) (y := .lst false ([] : List ByteArray).length (encL en_str ([] : List ByteArray))) (l := []) rfl rfl rfl rfl (by first | rfl | (simp only [wk, wks, wkL]; first | done | rfl))
 ·rw [if_neg h4] at h
  replace h4 := Bool.eq_false_iff.2 h4
  obtain ⟨r9, h10, h⟩ := bsm h
  have h11 : ∀ H, callD (callW Tryd.prog A0) A0 H 11 [.p (.lst false x2.length (encL en_str x2)), .p (.lst false x0.length (encL en_str x0))] = some (.p (.v (.bool r9)), none) := fun H => layout_Equal_call h10
  by_cases h12 : r9 = true
  ·rw [if_pos h12] at h
   obtain ⟨r13, h14, h⟩ := bsm h
   have h15 : ∀ H, callD (callW Tryd.prog A0) A0 H 23 [.p (.lst false x1.length (encL en_str x1))] = some (.p (.lst false r13.length (encL en_str r13)), none) := fun H => slices_Clone_string_string_call h14
   simp (maxSteps := 10000000) (implicitDefEqProofs := false) (disch := first | assumption | omega | exact rfl | exact im_ _) only [bs, rs9, ls9, Nat.reduceAdd, ↓reduceIte, binD_eql_str, lenD_lst u22, lenD_ref u22, loadD_iptr a9, wks_nil_, h3, h4, h11, h12, h15]
   refine Wp.gh (fun x => seqW _ _ _ _ (seqW _ _ _ _ (regW _ _ _ _ _ x))) ⟨[.p (.lst false x0.length (encL en_str x0)), .p (.lst false x1.length (encL en_str x1)), .p (.lst false x2.length (encL en_str x2)), iv x3, .junk, .junk, .junk, .junk, .junk, .p (.lst false r13.length (encL en_str r13)), .junk, .junk, .junk, .junk, .junk, .junk, .junk, .junk, .junk, .junk, .junk, .junk, .junk, .junk, .junk, .junk, .junk, .junk, .junk, .junk, .junk, .junk, .junk, .junk, undefD, undefD, .junk, .junk, .junk, .junk, .junk, .junk, .junk, .junk, .junk, .junk, .junk, .junk, .junk, .junk, .junk, .junk, .junk, .junk, .junk, .junk, .junk, .junk, .junk, .junk, .junk, .junk, .junk, .junk, .junk, .junk, .junk, .junk, .junk, .junk, .junk, .junk, .junk, .junk, .junk, .junk, .junk, .junk, .junk, .junk, .junk, .junk, .junk, .junk, .junk, .junk, .junk, .junk, .junk, .junk, .junk, .junk, .junk, .junk, .junk, .junk, .junk, .junk, .junk, .junk, .junk, .junk], [], 0⟩ (by kernel_rfl) ?_
   by_cases h16 : (r13.length : Int) = x3
   ·rw [if_pos h16] at h
    have h16' : decide ((r13.length : Int) = x3) = true := decide_eq_true h16
    obtain rfl := Option.some.inj h
    simp (maxSteps := 10000000) (implicitDefEqProofs := false) (disch := first | assumption | omega | exact rfl | exact im_ _) only [bs, rs9, ls9, Nat.reduceAdd, ↓reduceIte, binD_eql_str, lenD_lst u22, lenD_ref u22, loadD_iptr a9, wks_nil_, h3, h4, h11, h12, h15, ↓h16']
    refine ⟨by first | exact .inl trivial | exact .inr trivial | simp, ?_⟩
    exact finish_is (ds := [.p (.lst false r13.length (encL en_str r13))]) (x := .lst false r13.length (encL en_str r13)) (y := .lst false r13.length (encL en_str r13)) (l := []) rfl rfl rfl rfl (by first | rfl | (simp only [wk, wks, wkL]; first | done | rfl))
   ·rw [if_neg h16] at h
    have h16' : decide ((r13.length : Int) = x3) = false := decide_eq_false h16
    obtain rfl := Option.some.inj h
    simp (maxSteps := 10000000) (implicitDefEqProofs := false) (disch := first | assumption | omega | exact rfl | exact im_ _) only [bs, rs9, ls9, Nat.reduceAdd, ↓reduceIte, binD_eql_str, lenD_lst u22, lenD_ref u22, loadD_iptr a9, wks_nil_, h3, h4, h11, h12, h15, ↓h16']
    refine ⟨by first | exact .inl trivial | exact .inr trivial | simp, ?_⟩
    exact finish_is (ds := [.p (.lst true 0 [])]) (x := .lst true 0 []) (y := .lst false ([] : List ByteArray).length (encL en_str ([] : List ByteArray))) (l := []) rfl rfl rfl rfl (by first | rfl | (simp only [wk, wks, wkL]; first | done | rfl))
  ·rw [if_neg h12] at h
   replace h12 := Bool.eq_false_iff.2 h12
   obtain ⟨r17, h18, h⟩ := bsm h
   have h19 : ∀ H, callD (callW Tryd.prog A0) A0 H 11 [.p (.lst false x1.length (encL en_str x1)), .p (.lst false x0.length (encL en_str x0))] = some (.p (.v (.bool r17)), none) := fun H => layout_Equal_call h18
   by_cases h20 : r17 = true
   ·rw [if_pos h20] at h
    obtain ⟨r21, h22, h⟩ := bsm h
    have h23 : ∀ H, callD (callW Tryd.prog A0) A0 H 23 [.p (.lst false x2.length (encL en_str x2))] = some (.p (.lst false r21.length (encL en_str r21)), none) := fun H => slices_Clone_string_string_call h22
    simp (maxSteps := 10000000) (implicitDefEqProofs := false) (disch := first | assumption | omega | exact rfl | exact im_ _) only [bs, rs9, ls9, Nat.reduceAdd, ↓reduceIte, binD_eql_str, lenD_lst u22, lenD_ref u22, loadD_iptr a9, wks_nil_, h3, h4, h11, h12, h19, h20, h23]
    refine Wp.gh (fun x => seqW _ _ _ _ (seqW _ _ _ _ (regW _ _ _ _ _ x))) ⟨[.p (.lst false x0.length (encL en_str x0)), .p (.lst false x1.length (encL en_str x1)), .p (.lst false x2.length (encL en_str x2)), iv x3, .junk, .junk, .junk, .junk, .junk, .p (.lst false r21.length (encL en_str r21)), .junk, .junk, .junk, .junk, .junk, .junk, .junk, .junk, .junk, .junk, .junk, .junk, .junk, .junk, .junk, .junk, .junk, .junk, .junk, .junk, .junk, .junk, .junk, .junk, undefD, undefD, .junk, .junk, .junk, .junk, .junk, .junk, .junk, .junk, .junk, .junk, .junk, .junk, .junk, .junk, .junk, .junk, .junk, .junk, .junk, .junk, .junk, .junk, .junk, .junk, .junk, .junk, .junk, .junk, .junk, .junk, .junk, .junk, .junk, .junk, .junk, .junk, .junk, .junk, .junk, .junk, .junk, .junk, .junk, .junk, .junk, .junk, .junk, .junk, .junk, .junk, .junk, .junk, .junk, .junk, .junk, .junk, .junk, .junk, .junk, .junk, .junk, .junk, .junk, .junk, .junk, .junk], [], 0⟩ (by kernel_rfl) ?_
    by_cases h24 : (r21.length : Int) = x3
    ·rw [if_pos h24] at h
     have h24' : decide ((r21.length : Int) = x3) = true := decide_eq_true h24
     obtain rfl := Option.some.inj h
     simp (maxSteps := 10000000) (implicitDefEqProofs := false) (disch := first | assumption | omega | exact rfl | exact im_ _) only [bs, rs9, ls9, Nat.reduceAdd, ↓reduceIte, binD_eql_str, lenD_lst u22, lenD_ref u22, loadD_iptr a9, wks_nil_, h3, h4, h11, h12, h19, h20, h23, ↓h24']
     refine ⟨by first | exact .inl trivial | exact .inr trivial | simp, ?_⟩
     exact finish_is (ds := [.p (.lst false r21.length (encL en_str r21))]) (x := .lst false r21.length (encL en_str r21)) (y := .lst false r21.length (encL en_str r21)) (l := []) rfl rfl rfl rfl (by first | rfl | (simp only [wk, wks, wkL]; first | done | rfl))
    ·rw [if_neg h24] at h
     have h24' : decide ((r21.length : Int) = x3) = false := decide_eq_false h24
     obtain rfl := Option.some.inj h
     simp (maxSteps := 10000000) (implicitDefEqProofs := false) (disch := first | assumption | omega | exact rfl | exact im_ _) only [bs, rs9, ls9, Nat.reduceAdd, ↓reduceIte, binD_eql_str, lenD_lst u22, lenD_ref u22, loadD_iptr a9, wks_nil_, h3, h4, h11, h12, h19, h20, h23, ↓h24']
     refine ⟨by first | exact .inl trivial | exact .inr trivial | simp, ?_⟩
     exact finish_is (ds := [.p (.lst true 0 [])]) (x := .lst true 0 []) (y := .lst false ([] : List ByteArray).length (encL en_str ([] : List ByteArray))) (l := []) rfl rfl rfl rfl (by first | rfl | (simp only [wk, wks, wkL]; first | done | rfl))
   ·rw [if_neg h20] at h
    replace h20 := Bool.eq_false_iff.2 h20
    by_cases h25 : (x1.length : Int) = (x2.length : Int)
    ·rw [if_pos h25] at h
     have h25' : decide ((x1.length : Int) = (x2.length : Int)) = true := decide_eq_true h25
     obtain ⟨o, h55, h⟩ := bsm h
     simp (maxSteps := 10000000) (implicitDefEqProofs := false) (disch := first | assumption | omega | exact rfl | exact im_ _) only [bs, rs9, ls9, Nat.reduceAdd, ↓reduceIte, binD_eql_str, lenD_lst u22, lenD_ref u22, loadD_iptr a9, wks_nil_, h3, h4, h11, h12, h19, h20, ↓h25']
     refine Wp.ctx (fun x => seqW _ _ _ _ (blockW _ (blockW _ (x)))) (L9_0_ok x0 x1 x2 x3 (x1.length : Int) ((0 : Int), ([] : List ByteArray)) _ o (by kernel_rfl) h55) ?_
     intro e st hq
     cases o with
     | next _ => (first | cases h | (simp at h))
     | jmp n_ s_ =>
      obtain ⟨rfl, rfl, hq⟩ := hq
      obtain ⟨s35_56, y0_56⟩ := s_
      unfold F9_0 at hq
      (try simp only [] at h hq)
      by_cases h57 : (y0_56.length : Int) = x3
      ·rw [if_pos h57] at h
       have h57' : decide ((y0_56.length : Int) = x3) = true := decide_eq_true h57
       obtain rfl := Option.some.inj h
       simp (maxSteps := 10000000) (implicitDefEqProofs := false) (disch := first | assumption | omega | exact rfl | exact im_ _) only [bs, rs9, ls9, Nat.reduceAdd, ↓reduceIte, binD_eql_str, lenD_lst u22, lenD_ref u22, loadD_iptr a9, wks_nil_, h3, h4, h11, h12, h19, h20, ↓h25', hq, ↓h57']
       refine ⟨by first | exact .inl trivial | exact .inr trivial | simp, ?_⟩
       exact finish_is (ds := [.ref 0 0 y0_56.length 1]) (x := .lst false y0_56.length (encL en_str y0_56)) (y := .lst false y0_56.length (encL en_str y0_56)) (l := [0]) rfl rfl rfl (purify1_enc en_str_len rfl (by first | rfl | omega)) (by first | rfl | (simp only [wk, wks, wkL]; first | done | rfl))
      ·rw [if_neg h57] at h
       have h57' : decide ((y0_56.length : Int) = x3) = false := decide_eq_false h57
       obtain rfl := Option.some.inj h
       simp (maxSteps := 10000000) (implicitDefEqProofs := false) (disch := first | assumption | omega | exact rfl | exact im_ _) only [bs, rs9, ls9, Nat.reduceAdd, ↓reduceIte, binD_eql_str, lenD_lst u22, lenD_ref u22, loadD_iptr a9, wks_nil_, h3, h4, h11, h12, h19, h20, ↓h25', hq, ↓h57']
       refine ⟨by first | exact .inl trivial | exact .inr trivial | simp, ?_⟩
       exact finish_is (ds := [.p (.lst true 0 [])]) (x := .lst true 0 []) (y := .lst false ([] : List ByteArray).length (encL en_str ([] : List ByteArray))) (l := []) rfl rfl rfl rfl (by first | rfl | (simp only [wk, wks, wkL]; first | done | rfl))
     | ret _ => (first | cases h | (simp at h))
    ·rw [if_neg h25] at h
     have h25' : decide ((x1.length : Int) = (x2.length : Int)) = false := decide_eq_false h25
     by_cases h58 : (x1.length : Int) = x3
     ·rw [if_pos h58] at h
      have h58' : decide ((x1.length : Int) = x3) = true := decide_eq_true h58
      obtain ⟨r59, h60, h⟩ := bsm h
      have h61 : ∀ H, callD (callW Tryd.prog A0) A0 H 23 [.p (.lst false x1.length (encL en_str x1))] = some (.p (.lst false r59.length (encL en_str r59)), none) := fun H => slices_Clone_string_string_call h60
      simp (maxSteps := 10000000) (implicitDefEqProofs := false) (disch := first | assumption | omega | exact rfl | exact im_ _) only [bs, rs9, ls9, Nat.reduceAdd, ↓reduceIte, binD_eql_str, lenD_lst u22, lenD_ref u22, loadD_iptr a9, wks_nil_, h3, h4, h11, h12, h19, h20, ↓h25', ↓h58', h61]
      refine Wp.gh (fun x => seqW _ _ _ _ (seqW _ _ _ _ (regW _ _ _ _ _ x))) ⟨[.p (.lst false x0.length (encL en_str x0)), .p (.lst false x1.length (encL en_str x1)), .p (.lst false x2.length (encL en_str x2)), iv x3, .junk, .junk, .junk, .junk, .junk, .p (.lst false r59.length (encL en_str r59)), .junk, .junk, .junk, .junk, .junk, .junk, .junk, .junk, .junk, .junk, .junk, .junk, .junk, .junk, .junk, .junk, .junk, .junk, .junk, .junk, .junk, .junk, .junk, .junk, undefD, undefD, .junk, .junk, .junk, .junk, .junk, .junk, .junk, .junk, .junk, .junk, .junk, .junk, .junk, .junk, .junk, .junk, .junk, .junk, .junk, .junk, .junk, .junk, .junk, .junk, .junk, .junk, .junk, .junk, .junk, .junk, .junk, .junk, .junk, .junk, .junk, .junk, .junk, .junk, .junk, .junk, .junk, .junk, .junk, .junk, .junk, .junk, .junk, .junk, .junk, .junk, .junk, .junk, .junk, .junk, .junk, .junk, .junk, .junk, .junk, .junk, .junk, .junk, .junk, .junk, .junk, .junk], [], 0⟩ (by kernel_rfl) ?_
      by_cases h62 : (r59.length : Int) = x3
      ·rw [if_pos h62] at h
       have h62' : decide ((r59.length : Int) = x3) = true := decide_eq_true h62
       obtain rfl := Option.some.inj h
       simp (maxSteps := 10000000) (implicitDefEqProofs := false) (disch := first | assumption | omega | exact rfl | exact im_ _) only [bs, rs9, ls9, Nat.reduceAdd, ↓reduceIte, binD_eql_str, lenD_lst u22, lenD_ref u22, loadD_iptr a9, wks_nil_, h3, h4, h11, h12, h19, h20, ↓h25', ↓h58', h61, ↓h62']
       refine ⟨by first | exact .inl trivial | exact .inr trivial | simp, ?_⟩
       exact finish_is (ds := [.p (.lst false r59.length (encL en_str r59))]) (x := .lst false r59.length (encL en_str r59)) (y := .lst false r59.length (encL en_str r59)) (l := []) rfl rfl rfl rfl (by first | rfl | (simp only [wk, wks, wkL]; first | done | rfl))
      ·rw [if_neg h62] at h
       have h62' : decide ((r59.length : Int) = x3) = false := decide_eq_false h62
       obtain rfl := Option.some.inj h
       simp (maxSteps := 10000000) (implicitDefEqProofs := false) (disch := first | assumption | omega | exact rfl | exact im_ _) only [bs, rs9, ls9, Nat.reduceAdd, ↓reduceIte, binD_eql_str, lenD_lst u22, lenD_ref u22, loadD_iptr a9, wks_nil_, h3, h4, h11, h12, h19, h20, ↓h25', ↓h58', h61, ↓h62']
       refine ⟨by first | exact .inl trivial | exact .inr trivial | simp, ?_⟩
       exact finish_is (ds := [.p (.lst true 0 [])]) (x := .lst true 0 []) (y := .lst false ([] : List ByteArray).length (encL en_str ([] : List ByteArray))) (l := []) rfl rfl rfl rfl (by first | rfl | (simp only [wk, wks, wkL]; first | done | rfl))
     ·rw [if_neg h58] at h
      have h58' : decide ((x1.length : Int) = x3) = false := decide_eq_false h58
      by_cases h63 : (x2.length : Int) = x3
      ·rw [if_pos h63] at h
       have h63' : decide ((x2.length : Int) = x3) = true := decide_eq_true h63
       obtain ⟨r64, h65, h⟩ := bsm h
       have h66 : ∀ H, callD (callW Tryd.prog A0) A0 H 23 [.p (.lst false x2.length (encL en_str x2))] = some (.p (.lst false r64.length (encL en_str r64)), none) := fun H => slices_Clone_string_string_call h65
       simp (maxSteps := 10000000) (implicitDefEqProofs := false) (disch := first | assumption | omega | exact rfl | exact im_ _) only [bs, rs9, ls9, Nat.reduceAdd, ↓reduceIte, binD_eql_str, lenD_lst u22, lenD_ref u22, loadD_iptr a9, wks_nil_, h3, h4, h11, h12, h19, h20, ↓h25', ↓h58', ↓h63', h66]
       refine Wp.gh (fun x => seqW _ _ _ _ (seqW _ _ _ _ (regW _ _ _ _ _ x))) ⟨[.p (.lst false x0.length (encL en_str x0)), .p (.lst false x1.length (encL en_str x1)), .p (.lst false x2.length (encL en_str x2)), iv x3, .junk, .junk, .junk, .junk, .junk, .p (.lst false r64.length (encL en_str r64)), .junk, .junk, .junk, .junk, .junk, .junk, .junk, .junk, .junk, .junk, .junk, .junk, .junk, .junk, .junk, .junk, .junk, .junk, .junk, .junk, .junk, .junk, .junk, .junk, undefD, undefD, .junk, .junk, .junk, .junk, .junk, .junk, .junk, .junk, .junk, .junk, .junk, .junk, .junk, .junk, .junk, .junk, .junk, .junk, .junk, .junk, .junk, .junk, .junk, .junk, .junk, .junk, .junk, .junk, .junk, .junk, .junk, .junk, .junk, .junk, .junk, .junk, .junk, .junk, .junk, .junk, .junk, .junk, .junk, .junk, .junk, .junk, .junk, .junk, .junk, .junk, .junk, .junk, .junk, .junk, .junk, .junk, .junk, .junk, .junk, .junk, .junk, .junk, .junk, .junk, .junk, .junk], [], 0⟩ (by kernel_rfl) ?_
       by_cases h67 : (r64.length : Int) = x3
       ·rw [if_pos h67] at h
        have h67' : decide ((r64.length : Int) = x3) = true := decide_eq_true h67
        obtain rfl := Option.some.inj h
        simp (maxSteps := 10000000) (implicitDefEqProofs := false) (disch := first | assumption | omega | exact rfl | exact im_ _) only [bs, rs9, ls9, Nat.reduceAdd, ↓reduceIte, binD_eql_str, lenD_lst u22, lenD_ref u22, loadD_iptr a9, wks_nil_, h3, h4, h11, h12, h19, h20, ↓h25', ↓h58', ↓h63', h66, ↓h67']
        refine ⟨by first | exact .inl trivial | exact .inr trivial | simp, ?_⟩
        exact finish_is (ds := [.p (.lst false r64.length (encL en_str r64))]) (x := .lst false r64.length (encL en_str r64)) (y := .lst false r64.length (encL en_str r64)) (l := []) rfl rfl rfl rfl (by first | rfl | (simp only [wk, wks, wkL]; first | done | rfl))
       ·rw [if_neg h67] at h
        have h67' : decide ((r64.length : Int) = x3) = false := decide_eq_false h67
        obtain rfl := Option.some.inj h
        simp (maxSteps := 10000000) (implicitDefEqProofs := false) (disch := first | assumption | omega | exact rfl | exact im_ _) only [bs, rs9, ls9, Nat.reduceAdd, ↓reduceIte, binD_eql_str, lenD_lst u22, lenD_ref u22, loadD_iptr a9, wks_nil_, h3, h4, h11, h12, h19, h20, ↓h25', ↓h58', ↓h63', h66, ↓h67']
        refine ⟨by first | exact .inl trivial | exact .inr trivial | simp, ?_⟩
        exact finish_is (ds := [.p (.lst true 0 [])]) (x := .lst true 0 []) (y := .lst false ([] : List ByteArray).length (encL en_str ([] : List ByteArray))) (l := []) rfl rfl rfl rfl (by first | rfl | (simp only [wk, wks, wkL]; first | done | rfl))
      ·rw [if_neg h63] at h
       have h63' : decide ((x2.length : Int) = x3) = false := decide_eq_false h63
       simp (maxSteps := 10000000) (implicitDefEqProofs := false) (disch := first | assumption | omega | exact rfl | exact im_ _) only [bs, rs9, ls9, Nat.reduceAdd, ↓reduceIte, binD_eql_str, lenD_lst u22, lenD_ref u22, loadD_iptr a9, wks_nil_, h3, h4, h11, h12, h19, h20, ↓h25', ↓h58', ↓h63']
       refine Wp.gh (fun x => seqW _ _ _ _ (seqW _ _ _ _ (regW _ _ _ _ _ x))) ⟨[.p (.lst false x0.length (encL en_str x0)), .p (.lst false x1.length (encL en_str x1)), .p (.lst false x2.length (encL en_str x2)), iv x3, .junk, .junk, .junk, .junk, .junk, .p (.lst true 0 []), .junk, .junk, .junk, .junk, .junk, .junk, .junk, .junk, .junk, .junk, .junk, .junk, .junk, .junk, .junk, .junk, .junk, .junk, .junk, .junk, .junk, .junk, .junk, .junk, undefD, undefD, .junk, .junk, .junk, .junk, .junk, .junk, .junk, .junk, .junk, .junk, .junk, .junk, .junk, .junk, .junk, .junk, .junk, .junk, .junk, .junk, .junk, .junk, .junk, .junk, .junk, .junk, .junk, .junk, .junk, .junk, .junk, .junk, .junk, .junk, .junk, .junk, .junk, .junk, .junk, .junk, .junk, .junk, .junk, .junk, .junk, .junk, .junk, .junk, .junk, .junk, .junk, .junk, .junk, .junk, .junk, .junk, .junk, .junk, .junk, .junk, .junk, .junk, .junk, .junk, .junk, .junk], [], 0⟩ (by kernel_rfl) ?_
       by_cases h68 : ((0 : Nat) : Int) = x3
       ·rw [if_pos h68] at h
        have h68' : decide (((0 : Nat) : Int) = x3) = true := decide_eq_true h68
        obtain rfl := Option.some.inj h
        simp (maxSteps := 10000000) (implicitDefEqProofs := false) (disch := first | assumption | omega | exact rfl | exact im_ _) only [bs, rs9, ls9, Nat.reduceAdd, ↓reduceIte, binD_eql_str, lenD_lst u22, lenD_ref u22, loadD_iptr a9, wks_nil_, h3, h4, h11, h12, h19, h20, ↓h25', ↓h58', ↓h63', ↓h68']
        refine ⟨by first | exact .inl trivial | exact .inr trivial | simp, ?_⟩
        exact finish_is (ds := [.p (.lst true 0 [])]) (x := .lst true 0 []) (y := .lst false ([] : List ByteArray).length (encL en_str ([] : List ByteArray))) (l := []) rfl rfl rfl rfl (by first | rfl | (simp only [wk, wks, wkL]; first | done | rfl))
       ·rw [if_neg h68] at h
        have h68' : decide (((0 : Nat) : Int) = x3) = false := decide_eq_false h68
        obtain rfl := Option.some.inj h
        simp (maxSteps := 10000000) (implicitDefEqProofs := false) (disch := first | assumption | omega | exact rfl | exact im_ _) only [bs, rs9, ls9, Nat.reduceAdd, ↓reduceIte, binD_eql_str, lenD_lst u22, lenD_ref u22, loadD_iptr a9, wks_nil_, h3, h4, h11, h12, h19, h20, ↓h25', ↓h58', ↓h63', ↓h68']
        refine ⟨by first | exact .inl trivial | exact .inr trivial | simp, ?_⟩
        exact finish_is (ds := [.p (.lst true 0 [])]) (x := .lst true 0 []) (y := .lst false ([] : List ByteArray).length (encL en_str ([] : List ByteArray))) (l := []) rfl rfl rfl rfl (by first | rfl | (simp only [wk, wks, wkL]; first | done | rfl))
theorem layout_Gaps_call {b1 b2 b3 : Bool} {H : List Ob} {x0 : (List ByteArray)} {x1 : (List ByteArray)} {x2 : (List ByteArray)} {x3 : Int} {r : (List ByteArray)} (h : layout_Gaps x0 x1 x2 x3 = some r) : callD (callW Tryd.prog A0) A0 H 9 [.p (.lst b1 x0.length (encL en_str x0)), .p (.lst b2 x1.length (encL en_str x1)), .p (.lst b3 x2.length (encL en_str x2)), iv x3] = some (.p (.lst false r.length (encL en_str r)), none) :=
  callD_fun (args := [.lst b1 x0.length (encL en_str x0), .lst b2 x1.length (encL en_str x1), .lst b3 x2.length (encL en_str x2), .v (.int .i64 x3)]) rfl rfl rfl (by simp only [List.map_cons, List.map_nil, wk, wks, wkL]; exact f9_ok x0 x1 x2 x3 _ h)
def ls8 := @idxL_22
noncomputable def L8_0 : Code := (loopsOf (bodyOf Tryd.f8)).getD 0 .skip
def g8_0 : List Ghost := [.weak [0, 1], .keep [0, 1, 5]]
def F8_0 (s0 : (List ByteArray)) (s1 : (List ByteArray)) : Int → St := fun s5 => ⟨[.p (.lst false s0.length (encL en_str s0)), .p (.lst false s1.length (encL en_str s1)), .junk, .junk, .junk, iv s5, .junk, .junk, .junk, .junk, .junk, .junk, .junk, .junk, .junk, .junk, .junk, .junk, .junk, .junk, .junk, .junk, .junk, .junk, .junk, .junk], [], 0⟩
theorem L8_0_ok (s0 : (List ByteArray)) (s1 : (List ByteArray)) : ∀ s st o, ghostsD g8_0 st = some (F8_0 s0 s1 s) → iter (R03_Strings_L0 s0 s1) s = some o →
    Wp (evW Tryd.prog A0 8 (.loop L8_0) st) (OutQ (F8_0 s0 s1) g8_0 (fun n s st => n = 0 ∧ ghostsD [.keep [0, 1, 5]] st = some (F8_0 s0 s1 s)) (fun r st => finishD Tryd.prog A0 8 Tryd.f8 st = some (.p (.v (.bool r)), [])) o) := by
 refine Wp.iter ?_
 intro s st o hg h
 generalize s = s5 at hg h
 unfold R03_Strings_L0 at h
 unfold g8_0 F8_0 at hg ⊢
 (try simp only [] at h hg)
 unfold L8_0 bodyOf Tryd.f8; simp only [Option.getD_some, loopsOf, List.append_nil, List.nil_append, List.cons_append, List.getD_cons_zero, List.getD_cons_succ]
 by_cases h2 : s5 < (s0.length : Int)
 ·rw [if_pos h2] at h
  have h2' : decide (s5 < (s0.length : Int)) = true := decide_eq_true h2
  obtain ⟨v3, h4, h⟩ := bsm h
  obtain ⟨h4a, h4b, _⟩ := rd_some h4
  have h5 := ce_9_x h4
  obtain ⟨v6, h7, h⟩ := bsm h
  obtain ⟨h7a, h7b, _⟩ := rd_some h7
  have h8 := ce_9_x h7
  by_cases h9 : v3 = v6
  ·rw [if_pos h9] at h
   have h9' : decide (v3 = v6) = true := decide_eq_true h9
   obtain rfl := Option.some.inj h
   simp (maxSteps := 10000000) (implicitDefEqProofs := false) (disch := first | assumption | omega | exact rfl | exact im_ _) only [bs, rs8, ls8, Nat.reduceAdd, ↓reduceIte, binD_neq_str, lenD_lst u22, loadD_iptr a9, hg, ↓h2', h5, h8, ↓h9']
   exact ⟨rfl, by kernel_rfl⟩
  ·rw [if_neg h9] at h
   have h9' : decide (v3 = v6) = false := decide_eq_false h9
   obtain rfl := Option.some.inj h
   simp (maxSteps := 10000000) (implicitDefEqProofs := false) (disch := first | assumption | omega | exact rfl | exact im_ _) only [bs, rs8, ls8, Nat.reduceAdd, ↓reduceIte, binD_neq_str, lenD_lst u22, loadD_iptr a9, hg, ↓h2', h5, h8, ↓h9']
   refine ⟨rfl, ?_⟩
   exact finish_is (ds := [bv false]) (x := .v (.bool false)) (y := .v (.bool false)) (l := []) rfl rfl rfl rfl (by first | rfl | (simp only [wk, wks, wkL]; first | done | rfl))
 ·rw [if_neg h2] at h
  have h2' : decide (s5 < (s0.length : Int)) = false := decide_eq_false h2
  obtain rfl := Option.some.inj h
  simp (maxSteps := 10000000) (implicitDefEqProofs := false) (disch := first | assumption | omega | exact rfl | exact im_ _) only [bs, rs8, ls8, Nat.reduceAdd, ↓reduceIte, binD_neq_str, lenD_lst u22, loadD_iptr a9, hg, ↓h2']
  exact ⟨rfl, rfl, by kernel_rfl⟩
theorem f8_ok  (x0 : (List ByteArray)) (x1 : (List ByteArray)) (r : Bool) (h : R03_Strings x0 x1 = some r) : callW Tryd.prog A0 8 [.p (.lst false x0.length (encL en_str x0)), .p (.lst false x1.length (encL en_str x1))] [] = some (.p (.v (.bool r)), []) := by
 refine call_ofH (fn := Tryd.f8) (c := bodyOf Tryd.f8) rfl rfl (by kernel_rfl) (by kernel_rfl) ?_
 rw [show initS Tryd.f8 [.p (.lst false x0.length (encL en_str x0)), .p (.lst false x1.length (encL en_str x1))] [] = ⟨.p (.lst false x0.length (encL en_str x0)) :: .p (.lst false x1.length (encL en_str x1)) :: List.replicate 24 undefD, [], 0⟩ from by kernel_rfl]
 unfold R03_Strings at h
 unfold bodyOf Tryd.f8; simp only [Option.getD_some, loopsOf, List.append_nil, List.nil_append, List.cons_append, List.getD_cons_zero, List.getD_cons_succ]
 simp only [List.replicate]
 by_cases h1 : (x0.length : Int) = (x1.length : Int)
 ·rw [if_pos h1] at h
  have h1' : decide ((x0.length : Int) = (x1.length : Int)) = true := decide_eq_true h1
  obtain ⟨o, h10, h⟩ := bsm h
  simp (maxSteps := 10000000) (implicitDefEqProofs := false) (disch := first | assumption | omega | exact rfl | exact im_ _) only [bs, rs8, ls8, Nat.reduceAdd, ↓reduceIte, binD_neq_str, lenD_lst u22, loadD_iptr a9, ↓h1']
  refine Wp.ctx (fun x => seqW _ _ _ _ (blockW _ (x))) (L8_0_ok x0 x1 (0 : Int) _ o (by kernel_rfl) h10) ?_
  intro e st hq
  cases o with
  | next _ => (first | cases h | (simp at h))
  | jmp n_ s_ =>
   obtain ⟨rfl, rfl, hq⟩ := hq
   generalize s_ = s5_11 at h hq
   unfold F8_0 at hq
   (try simp only [] at h hq)
   obtain rfl := Option.some.inj h
   simp (maxSteps := 10000000) (implicitDefEqProofs := false) (disch := first | assumption | omega | exact rfl | exact im_ _) only [bs, rs8, ls8, Nat.reduceAdd, ↓reduceIte, binD_neq_str, lenD_lst u22, loadD_iptr a9, ↓h1', hq]
   refine ⟨by first | exact .inl trivial | exact .inr trivial | simp, ?_⟩
   exact finish_is (ds := [bv true]) (x := .v (.bool true)) (y := .v (.bool true)) (l := []) rfl rfl rfl rfl (by first | rfl | (simp only [wk, wks, wkL]; first | done | rfl))
  | ret r12 =>
   obtain ⟨rfl, hq⟩ := hq
   obtain rfl := Option.some.inj h
   simp (maxSteps := 10000000) (implicitDefEqProofs := false) (disch := first | assumption | omega | exact rfl | exact im_ _) only [bs, rs8, ls8, Nat.reduceAdd, ↓reduceIte, binD_neq_str, lenD_lst u22, loadD_iptr a9]
   exact ⟨by first | exact .inl trivial | exact .inr trivial | simp, hq⟩
 ·rw [if_neg h1] at h
  have h1' : decide ((x0.length : Int) = (x1.length : Int)) = false := decide_eq_false h1
  obtain rfl := Option.some.inj h
  simp (maxSteps := 10000000) (implicitDefEqProofs := false) (disch := first | assumption | omega | exact rfl | exact im_ _) only [bs, rs8, ls8, Nat.reduceAdd, ↓reduceIte, binD_neq_str, lenD_lst u22, loadD_iptr a9, ↓h1']
  refine ⟨by first | exact .inl trivial | exact .inr trivial | simp, ?_⟩
  exact finish_is (ds := [bv false]) (x := .v (.bool false)) (y := .v (.bool false)) (l := []) rfl rfl rfl rfl (by first | rfl | (simp only [wk, wks, wkL]; first | done | rfl))
theorem R03_Strings_call {b1 b2 : Bool} {H : List Ob} {x0 : (List ByteArray)} {x1 : (List ByteArray)} {r : Bool} (h : R03_Strings x0 x1 = some r) : callD (callW Tryd.prog A0) A0 H 8 [.p (.lst b1 x0.length (encL en_str x0)), .p (.lst b2 x1.length (encL en_str x1))] = some (.p (.v (.bool r)), none) :=
  callD_fun (args := [.lst b1 x0.length (encL en_str x0), .lst b2 x1.length (encL en_str x1)]) rfl rfl rfl (by simp only [List.map_cons, List.map_nil, wk, wks, wkL]; exact f8_ok x0 x1 _ h)
theorem f13_run : callN Tryd.prog A0 200 13 [] [] = some (.p (.v (.bool true)), []) := by kernel_rfl
theorem f13_ok (r : Bool) (h : law33_awake = some r) : callW Tryd.prog A0 13 [] [] = some (.p (.v (.bool r)), []) := by
  cases h; exact callW_some.2 ⟨200, f13_run⟩
theorem law33_awake_call {H : List Ob} {r : Bool} (h : law33_awake  = some r) : callD (callW Tryd.prog A0) A0 H 13 [] = some (.p (.v (.bool r)), none) :=
  callD_fun (args := []) rfl rfl rfl (by simp only [List.map_cons, List.map_nil, wk, wks, wkL]; exact f13_ok  _ h)
def ls6 := @idxL_22
noncomputable def L6_0 : Code := (loopsOf (bodyOf Tryd.f6)).getD 0 .skip
def g6_0 : List Ghost := [.weak [0, 1, 2, 9], .keep [0, 1, 2, 9, 11]]
def F6_0 (s0 : (List ByteArray)) (s1 : (List ByteArray)) (s2 : (List ByteArray)) (s9 : (List ByteArray)) : Int → St := fun s11 => ⟨[.p (.lst false s0.length (encL en_str s0)), .p (.lst false s1.length (encL en_str s1)), .p (.lst false s2.length (encL en_str s2)), .junk, .junk, .junk, .junk, .junk, .junk, .p (.lst false s9.length (encL en_str s9)), .junk, iv s11, .junk, .junk, .junk, .junk, .junk, .junk, .junk, .junk, .junk, .junk, .junk, .junk, .junk, .junk, .junk, .junk, .junk, .junk, .junk, .junk, .junk, .junk, .junk, .junk, .junk, .junk, .junk, .junk, .junk, .junk, .junk, .junk, .junk, .junk, .junk, .junk, .junk, .junk, .junk, .junk, .junk, .junk, .junk, .junk, .junk, .junk, .junk, .junk, .junk, .junk, .junk, .junk, .junk, .junk, .junk, .junk, .junk, .junk, .junk, .junk, .junk, .junk, .junk, .junk, .junk, .junk, .junk, .junk, .junk, .junk, .junk, .junk, .junk, .junk, .junk, .junk, .junk, .junk, .junk, .junk, .junk, .junk, .junk, .junk, .junk, .junk, .junk, .junk, .junk, .junk, .junk, .junk, .junk, .junk, .junk, .junk, .junk, .junk, .junk, .junk, .junk, .junk, .junk, .junk, .junk, .junk, .junk, .junk, .junk, .junk, .junk, .junk, .junk, .junk, .junk, .junk, .junk, .junk, .junk, .junk, .junk, .junk, .junk, .junk, .junk, .junk, .junk, .junk, .junk, .junk, .junk, .junk, .junk, .junk, .junk, .junk, .junk, .junk, .junk, .junk, .junk, .junk], [], 0⟩
theorem L6_0_ok (s0 : (List ByteArray)) (s1 : (List ByteArray)) (s2 : (List ByteArray)) (s9 : (List ByteArray)) : ∀ s st o, ghostsD g6_0 st = some (F6_0 s0 s1 s2 s9 s) → iter (law33_LayoutKeeps_L0 s0 s1 s2 s9) s = some o →
    Wp (evW Tryd.prog A0 6 (.loop L6_0) st) (OutQ (F6_0 s0 s1 s2 s9) g6_0 (fun n s st => n = 0 ∧ ghostsD [.keep [0, 1, 2, 9, 11]] st = some (F6_0 s0 s1 s2 s9 s)) (fun r st => finishD Tryd.prog A0 6 Tryd.f6 st = some (.p (.v (.bool r)), [])) o) := by
 refine Wp.iter ?_
 intro s st o hg h
 generalize s = s11 at hg h
 unfold law33_LayoutKeeps_L0 at h
 unfold g6_0 F6_0 at hg ⊢
 (try simp only [] at h hg)
 unfold L6_0 bodyOf Tryd.f6; simp only [Option.getD_some, loopsOf, List.append_nil, List.nil_append, List.cons_append, List.getD_cons_zero, List.getD_cons_succ]
 by_cases h113 : s11 < (s9.length : Int)
 ·rw [if_pos h113] at h
  have h113' : decide (s11 < (s9.length : Int)) = true := decide_eq_true h113
  obtain ⟨v114, h115, h⟩ := bsm h
  obtain ⟨h115a, h115b, _⟩ := rd_some h115
  have h116 := ce_9_x h115
  obtain ⟨v117, h118, h⟩ := bsm h
  obtain ⟨h118a, h118b, _⟩ := rd_some h118
  have h119 := ce_9_x h118
  by_cases h120 : v114 = v117
  ·rw [if_pos h120] at h
   have h120' : decide (v114 = v117) = true := decide_eq_true h120
   obtain ⟨v121, h122, h⟩ := bsm h
   obtain ⟨h122a, h122b, _⟩ := rd_some h122
   have h123 := ce_9_x h122
   have h124 := ce_9_x h118
   by_cases h125 : v121 = v117
   ·rw [if_pos h125] at h
    have h125' : decide (v121 = v117) = true := decide_eq_true h125
    have h126 := ce_9_x h115
    obtain ⟨v127, h128, h⟩ := bsm h
    obtain ⟨h128a, h128b, _⟩ := rd_some h128
    have h129 := ce_9_x h128
    by_cases h130 : v114 = v127
    ·rw [if_pos h130] at h
     have h130' : decide (v114 = v127) = true := decide_eq_true h130
     have h131 := ce_9_x h122
     have h132 := ce_9_x h128
     by_cases h133 : v121 = v127
     ·rw [if_pos h133] at h
      have h133' : decide (v121 = v127) = true := decide_eq_true h133
      have h134 := ce_9_x h115
      have h135 := ce_9_x h118
      obtain rfl := Option.some.inj h
      simp (maxSteps := 10000000) (implicitDefEqProofs := false) (disch := first | assumption | omega | exact rfl | exact im_ _) only [bs, rs6, ls6, Nat.reduceAdd, ↓reduceIte, binD_eql_str, binD_neq_str, lenD_lst u22, loadD_iptr a9, hg, ↓h113', h116, h119, ↓h120', h123, h124, ↓h125', h126, h129, ↓h130', h131, h132, ↓h133', h134, h135]
      exact ⟨rfl, by kernel_rfl⟩
     ·rw [if_neg h133] at h
      have h133' : decide (v121 = v127) = false := decide_eq_false h133
      obtain rfl := Option.some.inj h
      simp (maxSteps := 10000000) (implicitDefEqProofs := false) (disch := first | assumption | omega | exact rfl | exact im_ _) only [bs, rs6, ls6, Nat.reduceAdd, ↓reduceIte, binD_eql_str, binD_neq_str, lenD_lst u22, loadD_iptr a9, hg, ↓h113', h116, h119, ↓h120', h123, h124, ↓h125', h126, h129, ↓h130', h131, h132, ↓h133']
      exact ⟨rfl, by kernel_rfl⟩
    ·rw [if_neg h130] at h
     have h130' : decide (v114 = v127) = false := decide_eq_false h130
     obtain rfl := Option.some.inj h
     simp (maxSteps := 10000000) (implicitDefEqProofs := false) (disch := first | assumption | omega | exact rfl | exact im_ _) only [bs, rs6, ls6, Nat.reduceAdd, ↓reduceIte, binD_eql_str, binD_neq_str, lenD_lst u22, loadD_iptr a9, hg, ↓h113', h116, h119, ↓h120', h123, h124, ↓h125', h126, h129, ↓h130']
     refine ⟨rfl, ?_⟩
     exact finish_is (ds := [bv false]) (x := .v (.bool false)) (y := .v (.bool false)) (l := []) rfl rfl rfl rfl (by first | rfl | (simp only [wk, wks, wkL]; first | done | rfl))
   ·rw [if_neg h125] at h
    have h125' : decide (v121 = v117) = false := decide_eq_false h125
    have h136 := ce_9_x h122
    obtain ⟨v137, h138, h⟩ := bsm h
    obtain ⟨h138a, h138b, _⟩ := rd_some h138
    have h139 := ce_9_x h138
    by_cases h140 : v121 = v137
    ·rw [if_pos h140] at h
     have h140' : decide (v121 = v137) = true := decide_eq_true h140
     have h141 := ce_9_x h115
     have h142 := ce_9_x h118
     obtain rfl := Option.some.inj h
     simp (maxSteps := 10000000) (implicitDefEqProofs := false) (disch := first | assumption | omega | exact rfl | exact im_ _) only [bs, rs6, ls6, Nat.reduceAdd, ↓reduceIte, binD_eql_str, binD_neq_str, lenD_lst u22, loadD_iptr a9, hg, ↓h113', h116, h119, ↓h120', h123, h124, ↓h125', h136, h139, ↓h140', h141, h142]
     exact ⟨rfl, by kernel_rfl⟩
    ·rw [if_neg h140] at h
     have h140' : decide (v121 = v137) = false := decide_eq_false h140
     obtain rfl := Option.some.inj h
     simp (maxSteps := 10000000) (implicitDefEqProofs := false) (disch := first | assumption | omega | exact rfl | exact im_ _) only [bs, rs6, ls6, Nat.reduceAdd, ↓reduceIte, binD_eql_str, binD_neq_str, lenD_lst u22, loadD_iptr a9, hg, ↓h113', h116, h119, ↓h120', h123, h124, ↓h125', h136, h139, ↓h140']
     exact ⟨rfl, by kernel_rfl⟩
  ·rw [if_neg h120] at h
   have h120' : decide (v114 = v117) = false := decide_eq_false h120
   have h143 := ce_9_x h115
   obtain ⟨v144, h145, h⟩ := bsm h
   obtain ⟨h145a, h145b, _⟩ := rd_some h145
   have h146 := ce_9_x h145
   by_cases h147 : v114 = v144
   ·rw [if_pos h147] at h
    have h147' : decide (v114 = v144) = true := decide_eq_true h147
    obtain ⟨v148, h149, h⟩ := bsm h
    obtain ⟨h149a, h149b, _⟩ := rd_some h149
    have h150 := ce_9_x h149
    have h151 := ce_9_x h118
    by_cases h152 : v148 = v117
    ·rw [if_pos h152] at h
     have h152' : decide (v148 = v117) = true := decide_eq_true h152
     have h153 := ce_9_x h115
     have h154 := ce_9_x h145
     have h155 := ce_9_x h149
     have h156 := ce_9_x h145
     by_cases h157 : v148 = v144
     ·rw [if_pos h157] at h
      have h157' : decide (v148 = v144) = true := decide_eq_true h157
      have h158 := ce_9_x h115
      have h159 := ce_9_x h118
      obtain rfl := Option.some.inj h
      simp (maxSteps := 10000000) (implicitDefEqProofs := false) (disch := first | assumption | omega | exact rfl | exact im_ _) only [bs, rs6, ls6, Nat.reduceAdd, ↓reduceIte, binD_eql_str, binD_neq_str, lenD_lst u22, loadD_iptr a9, hg, ↓h113', h116, h119, ↓h120', h143, h146, ↓h147', h150, h151, ↓h152', h153, h154, h155, h156, ↓h157', h158, h159]
      refine ⟨rfl, ?_⟩
      exact finish_is (ds := [bv false]) (x := .v (.bool false)) (y := .v (.bool false)) (l := []) rfl rfl rfl rfl (by first | rfl | (simp only [wk, wks, wkL]; first | done | rfl))
     ·rw [if_neg h157] at h
      have h157' : decide (v148 = v144) = false := decide_eq_false h157
      obtain rfl := Option.some.inj h
      simp (maxSteps := 10000000) (implicitDefEqProofs := false) (disch := first | assumption | omega | exact rfl | exact im_ _) only [bs, rs6, ls6, Nat.reduceAdd, ↓reduceIte, binD_eql_str, binD_neq_str, lenD_lst u22, loadD_iptr a9, hg, ↓h113', h116, h119, ↓h120', h143, h146, ↓h147', h150, h151, ↓h152', h153, h154, h155, h156, ↓h157']
      exact ⟨rfl, by kernel_rfl⟩
    ·rw [if_neg h152] at h
     have h152' : decide (v148 = v117) = false := decide_eq_false h152
     have h160 := ce_9_x h149
     have h161 := ce_9_x h145
     by_cases h162 : v148 = v144
     ·rw [if_pos h162] at h
      have h162' : decide (v148 = v144) = true := decide_eq_true h162
      have h163 := ce_9_x h115
      have h164 := ce_9_x h118
      obtain rfl := Option.some.inj h
      simp (maxSteps := 10000000) (implicitDefEqProofs := false) (disch := first | assumption | omega | exact rfl | exact im_ _) only [bs, rs6, ls6, Nat.reduceAdd, ↓reduceIte, binD_eql_str, binD_neq_str, lenD_lst u22, loadD_iptr a9, hg, ↓h113', h116, h119, ↓h120', h143, h146, ↓h147', h150, h151, ↓h152', h160, h161, ↓h162', h163, h164]
      refine ⟨rfl, ?_⟩
      exact finish_is (ds := [bv false]) (x := .v (.bool false)) (y := .v (.bool false)) (l := []) rfl rfl rfl rfl (by first | rfl | (simp only [wk, wks, wkL]; first | done | rfl))
     ·rw [if_neg h162] at h
      have h162' : decide (v148 = v144) = false := decide_eq_false h162
      obtain rfl := Option.some.inj h
      simp (maxSteps := 10000000) (implicitDefEqProofs := false) (disch := first | assumption | omega | exact rfl | exact im_ _) only [bs, rs6, ls6, Nat.reduceAdd, ↓reduceIte, binD_eql_str, binD_neq_str, lenD_lst u22, loadD_iptr a9, hg, ↓h113', h116, h119, ↓h120', h143, h146, ↓h147', h150, h151, ↓h152', h160, h161, ↓h162']
      exact ⟨rfl, by kernel_rfl⟩
   ·rw [if_neg h147] at h
    have h147' : decide (v114 = v144) = false := decide_eq_false h147
    obtain rfl := Option.some.inj h
    simp (maxSteps := 10000000) (implicitDefEqProofs := false) (disch := first | assumption | omega | exact rfl | exact im_ _) only [bs, rs6, ls6, Nat.reduceAdd, ↓reduceIte, binD_eql_str, binD_neq_str, lenD_lst u22, loadD_iptr a9, hg, ↓h113', h116, h119, ↓h120', h143, h146, ↓h147']
    refine ⟨rfl, ?_⟩
    exact finish_is (ds := [bv false]) (x := .v (.bool false)) (y := .v (.bool false)) (l := []) rfl rfl rfl rfl (by first | rfl | (simp only [wk, wks, wkL]; first | done | rfl))
 ·rw [if_neg h113] at h
  have h113' : decide (s11 < (s9.length : Int)) = false := decide_eq_false h113
  obtain rfl := Option.some.inj h
  simp (maxSteps := 10000000) (implicitDefEqProofs := false) (disch := first | assumption | omega | exact rfl | exact im_ _) only [bs, rs6, ls6, Nat.reduceAdd, ↓reduceIte, binD_eql_str, binD_neq_str, lenD_lst u22, loadD_iptr a9, hg, ↓h113']
  exact ⟨rfl, rfl, by kernel_rfl⟩
theorem f6_ok  (x0 : (List ByteArray)) (x1 : (List ByteArray)) (x2 : (List ByteArray)) (x3 : Int) (r : Bool) (h : law33_LayoutKeeps x0 x1 x2 x3 = some r) : callW Tryd.prog A0 6 [.p (.lst false x0.length (encL en_str x0)), .p (.lst false x1.length (encL en_str x1)), .p (.lst false x2.length (encL en_str x2)), iv x3] [] = some (.p (.v (.bool r)), []) := by
 refine call_ofH (fn := Tryd.f6) (c := bodyOf Tryd.f6) rfl rfl (by kernel_rfl) (by kernel_rfl) ?_
 rw [show initS Tryd.f6 [.p (.lst false x0.length (encL en_str x0)), .p (.lst false x1.length (encL en_str x1)), .p (.lst false x2.length (encL en_str x2)), iv x3] [] = ⟨.p (.lst false x0.length (encL en_str x0)) :: .p (.lst false x1.length (encL en_str x1)) :: .p (.lst false x2.length (encL en_str x2)) :: iv x3 :: List.replicate 150 undefD, [], 0⟩ from by kernel_rfl]
 unfold law33_LayoutKeeps at h
 unfold bodyOf Tryd.f6; simp only [Option.getD_some, loopsOf, List.append_nil, List.nil_append, List.cons_append, List.getD_cons_zero, List.getD_cons_succ]
 simp only [List.replicate]
 obtain ⟨r1, h2, h⟩ := bsm h
 have h3 : ∀ H, callD (callW Tryd.prog A0) A0 H 9 [.p (.lst false x0.length (encL en_str x0)), .p (.lst false x1.length (encL en_str x1)), .p (.lst false x2.length (encL en_str x2)), iv x3] = some (.p (.lst false r1.length (encL en_str r1)), none) := fun H => layout_Gaps_call h2
 by_cases h4 : (r1.length : Int) = (0 : Int)
 ·rw [if_pos h4] at h
  have h4' : decide ((r1.length : Int) = (0 : Int)) = true := decide_eq_true h4
  obtain ⟨r5, h6, h⟩ := bsm h
  have h7 : ∀ H, callD (callW Tryd.prog A0) A0 H 9 [.p (.lst false x0.length (encL en_str x0)), .p (.lst false x2.length (encL en_str x2)), .p (.lst false x1.length (encL en_str x1)), iv x3] = some (.p (.lst false r5.length (encL en_str r5)), none) := fun H => layout_Gaps_call h6
  obtain ⟨r8, h9, h⟩ := bsm h
  have h10 : ∀ H, callD (callW Tryd.prog A0) A0 H 8 [.p (.lst false r1.length (encL en_str r1)), .p (.lst false r5.length (encL en_str r5))] = some (.p (.v (.bool r8)), none) := fun H => R03_Strings_call h9
  by_cases h11 : r8 = true
  ·rw [if_pos h11] at h
   obtain ⟨r12, h13, h⟩ := bsm h
   have h14 : ∀ H, callD (callW Tryd.prog A0) A0 H 9 [.p (.lst false x0.length (encL en_str x0)), .p (.lst false x1.length (encL en_str x1)), .p (.lst false x0.length (encL en_str x0)), iv x3] = some (.p (.lst false r12.length (encL en_str r12)), none) := fun H => layout_Gaps_call h13
   by_cases h15 : (x1.length : Int) = x3
   ·rw [if_pos h15] at h
    have h15' : decide ((x1.length : Int) = x3) = true := decide_eq_true h15
    obtain ⟨r16, h17, h⟩ := bsm h
    have h18 : ∀ H, callD (callW Tryd.prog A0) A0 H 8 [.p (.lst false r12.length (encL en_str r12)), .p (.lst false x1.length (encL en_str x1))] = some (.p (.v (.bool r16)), none) := fun H => R03_Strings_call h17
    by_cases h19 : r16 = true
    ·rw [if_pos h19] at h
     by_cases h20 : (x0.length : Int) = x3
     ·rw [if_pos h20] at h
      have h20' : decide ((x0.length : Int) = x3) = true := decide_eq_true h20
      by_cases h21 : (x2.length : Int) = x3
      ·rw [if_pos h21] at h
       have h21' : decide ((x2.length : Int) = x3) = true := decide_eq_true h21
       by_cases h22 : (r1.length : Int) = x3
       ·rw [if_pos h22] at h
        have h22' : decide ((r1.length : Int) = x3) = true := decide_eq_true h22
        obtain ⟨o, h75, h⟩ := bsm h
        simp (maxSteps := 10000000) (implicitDefEqProofs := false) (disch := first | assumption | omega | exact rfl | exact im_ _) only [bs, rs6, ls6, Nat.reduceAdd, ↓reduceIte, binD_eql_str, binD_neq_str, lenD_lst u22, loadD_iptr a9, h3, ↓h4', h7, h10, h11, h14, ↓h15', h18, h19, ↓h20', ↓h21', ↓h22']
        refine Wp.ctx (fun x => seqW _ _ _ _ (blockW _ (x))) (L6_0_ok x0 x1 x2 r1 (0 : Int) _ o (by kernel_rfl) h75) ?_
        intro e st hq
        cases o with
        | next _ => (first | cases h | (simp at h))
        | jmp n_ s_ =>
         obtain ⟨rfl, rfl, hq⟩ := hq
         generalize s_ = s11_76 at h hq
         unfold F6_0 at hq
         (try simp only [] at h hq)
         obtain ⟨r77, h78, h⟩ := bsm h
         have h79 : ∀ H, callD (callW Tryd.prog A0) A0 H 13 [] = some (.p (.v (.bool r77)), none) := fun H => law33_awake_call h78
         obtain rfl := Option.some.inj h
         simp (maxSteps := 10000000) (implicitDefEqProofs := false) (disch := first | assumption | omega | exact rfl | exact im_ _) only [bs, rs6, ls6, Nat.reduceAdd, ↓reduceIte, binD_eql_str, binD_neq_str, lenD_lst u22, loadD_iptr a9, h3, ↓h4', h7, h10, h11, h14, ↓h15', h18, h19, ↓h20', ↓h21', ↓h22', hq, h79]
         refine ⟨by first | exact .inl trivial | exact .inr trivial | simp, ?_⟩
         exact finish_is (ds := [bv r77]) (x := .v (.bool r77)) (y := .v (.bool r77)) (l := []) rfl rfl rfl rfl (by first | rfl | (simp only [wk, wks, wkL]; first | done | rfl))
        | ret r80 =>
         obtain ⟨rfl, hq⟩ := hq
         obtain rfl := Option.some.inj h
         simp (maxSteps := 10000000) (implicitDefEqProofs := false) (disch := first | assumption | omega | exact rfl | exact im_ _) only [bs, rs6, ls6, Nat.reduceAdd, ↓reduceIte, binD_eql_str, binD_neq_str, lenD_lst u22, loadD_iptr a9]
         exact ⟨by first | exact .inl trivial | exact .inr trivial | simp, hq⟩
       ·rw [if_neg h22] at h
        have h22' : decide ((r1.length : Int) = x3) = false := decide_eq_false h22
        obtain rfl := Option.some.inj h
        simp (maxSteps := 10000000) (implicitDefEqProofs := false) (disch := first | assumption | omega | exact rfl | exact im_ _) only [bs, rs6, ls6, Nat.reduceAdd, ↓reduceIte, binD_eql_str, binD_neq_str, lenD_lst u22, loadD_iptr a9, h3, ↓h4', h7, h10, h11, h14, ↓h15', h18, h19, ↓h20', ↓h21', ↓h22']
        refine ⟨by first | exact .inl trivial | exact .inr trivial | simp, ?_⟩
        exact finish_is (ds := [bv false]) (x := .v (.bool false)) (y := .v (.bool false)) (l := []) rfl rfl rfl rfl (by first | rfl | (simp only [wk, wks, wkL]; first | done | rfl))
      ·rw [if_neg h21] at h
       have h21' : decide ((x2.length : Int) = x3) = false := decide_eq_false h21
       obtain ⟨r81, h82, h⟩ := bsm h
       have h83 : ∀ H, callD (callW Tryd.prog A0) A0 H 13 [] = some (.p (.v (.bool r81)), none) := fun H => law33_awake_call h82
       obtain rfl := Option.some.inj h
       simp (maxSteps := 10000000) (implicitDefEqProofs := false) (disch := first | assumption | omega | exact rfl | exact im_ _) only [bs, rs6, ls6, Nat.reduceAdd, ↓reduceIte, binD_eql_str, binD_neq_str, lenD_lst u22, loadD_iptr a9, h3, ↓h4', h7, h10, h11, h14, ↓h15', h18, h19, ↓h20', ↓h21', h83]
       refine ⟨by first | exact .inl trivial | exact .inr trivial | simp, ?_⟩
       exact finish_is (ds := [bv r81]) (x := .v (.bool r81)) (y := .v (.bool r81)) (l := []) rfl rfl rfl rfl (by first | rfl | (simp only [wk, wks, wkL]; first | done | rfl))
     ·rw [if_neg h20] at h
      have h20' : decide ((x0.length : Int) = x3) = false := decide_eq_false h20
      obtain ⟨r84, h85, h⟩ := bsm h
      have h86 : ∀ H, callD (callW Tryd.prog A0) A0 H 13 [] = some (.p (.v (.bool r84)), none) := fun H => law33_awake_call h85
      obtain rfl := Option.some.inj h
      simp (maxSteps := 10000000) (implicitDefEqProofs := false) (disch := first | assumption | omega | exact rfl | exact im_ _) only [bs, rs6, ls6, Nat.reduceAdd, ↓reduceIte, binD_eql_str, binD_neq_str, lenD_lst u22, loadD_iptr a9, h3, ↓h4', h7, h10, h11, h14, ↓h15', h18, h19, ↓h20', h86]
      refine ⟨by first | exact .inl trivial | exact .inr trivial | simp, ?_⟩
      exact finish_is (ds := [bv r84]) (x := .v (.bool r84)) (y := .v (.bool r84)) (l := []) rfl rfl rfl rfl (by first | rfl | (simp only [wk, wks, wkL]; first | done | rfl))
    ·rw [if_neg h19] at h
     replace h19 := Bool.eq_false_iff.2 h19
     obtain rfl := Option.some.inj h
     simp (maxSteps := 10000000) (implicitDefEqProofs := false) (disch := first | assumption | omega | exact rfl | exact im_ _) only [bs, rs6, ls6, Nat.reduceAdd, ↓reduceIte, binD_eql_str, binD_neq_str, lenD_lst u22, loadD_iptr a9, h3, ↓h4', h7, h10, h11, h14, ↓h15', h18, h19]
     refine ⟨by first | exact .inl trivial | exact .inr trivial | simp, ?_⟩
     exact finish_is (ds := [bv false]) (x := .v (.bool false)) (y := .v (.bool false)) (l := []) rfl rfl rfl rfl (by first | rfl | (simp only [wk, wks, wkL]; first | done | rfl))
   ·rw [if_neg h15] at h
    have h15' : decide ((x1.length : Int) = x3) = false := decide_eq_false h15
    by_cases h87 : (r12.length : Int) = (0 : Int)
    ·rw [if_pos h87] at h
     have h87' : decide ((r12.length : Int) = (0 : Int)) = true := decide_eq_true h87
     by_cases h88 : (x0.length : Int) = x3
     ·rw [if_pos h88] at h
      have h88' : decide ((x0.length : Int) = x3) = true := decide_eq_true h88
      obtain ⟨r89, h90, h⟩ := bsm h
      have h91 : ∀ H, callD (callW Tryd.prog A0) A0 H 13 [] = some (.p (.v (.bool r89)), none) := fun H => law33_awake_call h90
      obtain rfl := Option.some.inj h
      simp (maxSteps := 10000000) (implicitDefEqProofs := false) (disch := first | assumption | omega | exact rfl | exact im_ _) only [bs, rs6, ls6, Nat.reduceAdd, ↓reduceIte, binD_eql_str, binD_neq_str, lenD_lst u22, loadD_iptr a9, h3, ↓h4', h7, h10, h11, h14, ↓h15', ↓h87', ↓h88', h91]
      refine ⟨by first | exact .inl trivial | exact .inr trivial | simp, ?_⟩
      exact finish_is (ds := [bv r89]) (x := .v (.bool r89)) (y := .v (.bool r89)) (l := []) rfl rfl rfl rfl (by first | rfl | (simp only [wk, wks, wkL]; first | done | rfl))
     ·rw [if_neg h88] at h
      have h88' : decide ((x0.length : Int) = x3) = false := decide_eq_false h88
      obtain ⟨r92, h93, h⟩ := bsm h
      have h94 : ∀ H, callD (callW Tryd.prog A0) A0 H 13 [] = some (.p (.v (.bool r92)), none) := fun H => law33_awake_call h93
      obtain rfl := Option.some.inj h
      simp (maxSteps := 10000000) (implicitDefEqProofs := false) (disch := first | assumption | omega | exact rfl | exact im_ _) only [bs, rs6, ls6, Nat.reduceAdd, ↓reduceIte, binD_eql_str, binD_neq_str, lenD_lst u22, loadD_iptr a9, h3, ↓h4', h7, h10, h11, h14, ↓h15', ↓h87', ↓h88', h94]
      refine ⟨by first | exact .inl trivial | exact .inr trivial | simp, ?_⟩
      exact finish_is (ds := [bv r92]) (x := .v (.bool r92)) (y := .v (.bool r92)) (l := []) rfl rfl rfl rfl (by first | rfl | (simp only [wk, wks, wkL]; first | done | rfl))
    ·rw [if_neg h87] at h
     have h87' : decide ((r12.length : Int) = (0 : Int)) = false := decide_eq_false h87
     obtain rfl := Option.some.inj h
     simp (maxSteps := 10000000) (implicitDefEqProofs := false) (disch := first | assumption | omega | exact rfl | exact im_ _) only [bs, rs6, ls6, Nat.reduceAdd, ↓reduceIte, binD_eql_str, binD_neq_str, lenD_lst u22, loadD_iptr a9, h3, ↓h4', h7, h10, h11, h14, ↓h15', ↓h87']
     refine ⟨by first | exact .inl trivial | exact .inr trivial | simp, ?_⟩
     exact finish_is (ds := [bv false]) (x := .v (.bool false)) (y := .v (.bool false)) (l := []) rfl rfl rfl rfl (by first | rfl | (simp only [wk, wks, wkL]; first | done | rfl))
  ·rw [if_neg h11] at h
   replace h11 := Bool.eq_false_iff.2 h11
   obtain rfl := Option.some.inj h
   simp (maxSteps := 10000000) (implicitDefEqProofs := false) (disch := first | assumption | omega | exact rfl | exact im_ _) only [bs, rs6, ls6, Nat.reduceAdd, ↓reduceIte, binD_eql_str, binD_neq_str, lenD_lst u22, loadD_iptr a9, h3, ↓h4', h7, h10, h11]
   refine ⟨by first | exact .inl trivial | exact .inr trivial | simp, ?_⟩
   exact finish_is (ds := [bv false]) (x := .v (.bool false)) (y := .v (.bool false)) (l := []) rfl rfl rfl rfl (by first | rfl | (simp only [wk, wks, wkL]; first | done | rfl))
 ·rw [if_neg h4] at h
  have h4' : decide ((r1.length : Int) = (0 : Int)) = false := decide_eq_false h4
  by_cases h95 : (r1.length : Int) = x3
  ·rw [if_pos h95] at h
   have h95' : decide ((r1.length : Int) = x3) = true := decide_eq_true h95
   obtain ⟨r96, h97, h⟩ := bsm h
   have h98 : ∀ H, callD (callW Tryd.prog A0) A0 H 9 [.p (.lst false x0.length (encL en_str x0)), .p (.lst false x2.length (encL en_str x2)), .p (.lst false x1.length (encL en_str x1)), iv x3] = some (.p (.lst false r96.length (encL en_str r96)), none) := fun H => layout_Gaps_call h97
   obtain ⟨r99, h100, h⟩ := bsm h
   have h101 : ∀ H, callD (callW Tryd.prog A0) A0 H 8 [.p (.lst false r1.length (encL en_str r1)), .p (.lst false r96.length (encL en_str r96))] = some (.p (.v (.bool r99)), none) := fun H => R03_Strings_call h100
   by_cases h102 : r99 = true
   ·rw [if_pos h102] at h
    obtain ⟨r103, h104, h⟩ := bsm h
    have h105 : ∀ H, callD (callW Tryd.prog A0) A0 H 9 [.p (.lst false x0.length (encL en_str x0)), .p (.lst false x1.length (encL en_str x1)), .p (.lst false x0.length (encL en_str x0)), iv x3] = some (.p (.lst false r103.length (encL en_str r103)), none) := fun H => layout_Gaps_call h104
    by_cases h106 : (x1.length : Int) = x3
    ·rw [if_pos h106] at h
     have h106' : decide ((x1.length : Int) = x3) = true := decide_eq_true h106
     obtain ⟨r107, h108, h⟩ := bsm h
     have h109 : ∀ H, callD (callW Tryd.prog A0) A0 H 8 [.p (.lst false r103.length (encL en_str r103)), .p (.lst false x1.length (encL en_str x1))] = some (.p (.v (.bool r107)), none) := fun H => R03_Strings_call h108
     by_cases h110 : r107 = true
     ·rw [if_pos h110] at h
      by_cases h111 : (x0.length : Int) = x3
      ·rw [if_pos h111] at h
       have h111' : decide ((x0.length : Int) = x3) = true := decide_eq_true h111
       by_cases h112 : (x2.length : Int) = x3
       ·rw [if_pos h112] at h
        have h112' : decide ((x2.length : Int) = x3) = true := decide_eq_true h112
        obtain ⟨o, h165, h⟩ := bsm h
        simp (maxSteps := 10000000) (implicitDefEqProofs := false) (disch := first | assumption | omega | exact rfl | exact im_ _) only [bs, rs6, ls6, Nat.reduceAdd, ↓reduceIte, binD_eql_str, binD_neq_str, lenD_lst u22, loadD_iptr a9, h3, ↓h4', ↓h95', h98, h101, h102, h105, ↓h106', h109, h110, ↓h111', ↓h112']
        refine Wp.ctx (fun x => seqW _ _ _ _ (blockW _ (x))) (L6_0_ok x0 x1 x2 r1 (0 : Int) _ o (by kernel_rfl) h165) ?_
        intro e st hq
        cases o with
        | next _ => (first | cases h | (simp at h))
        | jmp n_ s_ =>
         obtain ⟨rfl, rfl, hq⟩ := hq
         generalize s_ = s11_166 at h hq
         unfold F6_0 at hq
         (try simp only [] at h hq)
         obtain ⟨r167, h168, h⟩ := bsm h
         have h169 : ∀ H, callD (callW Tryd.prog A0) A0 H 13 [] = some (.p (.v (.bool r167)), none) := fun H => law33_awake_call h168
         obtain rfl := Option.some.inj h
         simp (maxSteps := 10000000) (implicitDefEqProofs := false) (disch := first | assumption | omega | exact rfl | exact im_ _) only [bs, rs6, ls6, Nat.reduceAdd, ↓reduceIte, binD_eql_str, binD_neq_str, lenD_lst u22, loadD_iptr a9, h3, ↓h4', ↓h95', h98, h101, h102, h105, ↓h106', h109, h110, ↓h111', ↓h112', hq, h169]
         refine ⟨by first | exact .inl trivial | exact .inr trivial | simp, ?_⟩
         exact finish_is (ds := [bv r167]) (x := .v (.bool r167)) (y := .v (.bool r167)) (l := []) rfl rfl rfl rfl (by first | rfl | (simp only [wk, wks, wkL]; first | done | rfl))
        | ret r170 =>
         obtain ⟨rfl, hq⟩ := hq
         obtain rfl := Option.some.inj h
         simp (maxSteps := 10000000) (implicitDefEqProofs := false) (disch := first | assumption | omega | exact rfl | exact im_ _) only [bs, rs6, ls6, Nat.reduceAdd, ↓reduceIte, binD_eql_str, binD_neq_str, lenD_lst u22, loadD_iptr a9]
         exact ⟨by first | exact .inl trivial | exact .inr trivial | simp, hq⟩
       ·rw [if_neg h112] at h
        have h112' : decide ((x2.length : Int) = x3) = false := decide_eq_false h112
        obtain ⟨r171, h172, h⟩ := bsm h
        have h173 : ∀ H, callD (callW Tryd.prog A0) A0 H 13 [] = some (.p (.v (.bool r171)), none) := fun H => law33_awake_call h172
        obtain rfl := Option.some.inj h
        simp (maxSteps := 10000000) (implicitDefEqProofs := false) (disch := first | assumption | omega | exact rfl | exact im_ _) only [bs, rs6, ls6, Nat.reduceAdd, ↓reduceIte, binD_eql_str, binD_neq_str, lenD_lst u22, loadD_iptr a9, h3, ↓h4', ↓h95', h98, h101, h102, h105, ↓h106', h109, h110, ↓h111', ↓h112', h173]
        refine ⟨by first | exact .inl trivial | exact .inr trivial | simp, ?_⟩
        exact finish_is (ds := [bv r171]) (x := .v (.bool r171)) (y := .v (.bool r171)) (l := []) rfl rfl rfl rfl (by first | rfl | (simp only [wk, wks, wkL]; first | done | rfl))
      ·rw [if_neg h111] at h
       have h111' : decide ((x0.length : Int) = x3) = false := decide_eq_false h111
       obtain ⟨r174, h175, h⟩ := bsm h
       have h176 : ∀ H, callD (callW Tryd.prog A0) A0 H 13 [] = some (.p (.v (.bool r174)), none) := fun H => law33_awake_call h175
       obtain rfl := Option.some.inj h
       simp (maxSteps := 10000000) (implicitDefEqProofs := false) (disch := first | assumption | omega | exact rfl | exact im_ _) only [bs, rs6, ls6, Nat.reduceAdd, ↓reduceIte, binD_eql_str, binD_neq_str, lenD_lst u22, loadD_iptr a9, h3, ↓h4', ↓h95', h98, h101, h102, h105, ↓h106', h109, h110, ↓h111', h176]
       refine ⟨by first | exact .inl trivial | exact .inr trivial | simp, ?_⟩
       exact finish_is (ds := [bv r174]) (x := .v (.bool r174)) (y := .v (.bool r174)) (l := []) rfl rfl rfl rfl (by first | rfl | (simp only [wk, wks, wkL]; first | done | rfl))
     ·rw [if_neg h110] at h
      replace h110 := Bool.eq_false_iff.2 h110
      obtain rfl := Option.some.inj h
      simp (maxSteps := 10000000) (implicitDefEqProofs := false) (disch := first | assumption | omega | exact rfl | exact im_ _) only [bs, rs6, ls6, Nat.reduceAdd, ↓reduceIte, binD_eql_str, binD_neq_str, lenD_lst u22, loadD_iptr a9, h3, ↓h4', ↓h95', h98, h101, h102, h105, ↓h106', h109, h110]
      refine ⟨by first | exact .inl trivial | exact .inr trivial | simp, ?_⟩
      exact finish_is (ds := [bv false]) (x := .v (.bool false)) (y := .v (.bool false)) (l := []) rfl rfl rfl rfl (by first | rfl | (simp only [wk, wks, wkL]; first | done | rfl))
    ·rw [if_neg h106] at h
     have h106' : decide ((x1.length : Int) = x3) = false := decide_eq_false h106
     by_cases h177 : (r103.length : Int) = (0 : Int)
     ·rw [if_pos h177] at h
      have h177' : decide ((r103.length : Int) = (0 : Int)) = true := decide_eq_true h177
      by_cases h178 : (x0.length : Int) = x3
      ·rw [if_pos h178] at h
       have h178' : decide ((x0.length : Int) = x3) = true := decide_eq_true h178
       obtain ⟨r179, h180, h⟩ := bsm h
       have h181 : ∀ H, callD (callW Tryd.prog A0) A0 H 13 [] = some (.p (.v (.bool r179)), none) := fun H => law33_awake_call h180
       obtain rfl := Option.some.inj h
       simp (maxSteps := 10000000) (implicitDefEqProofs := false) (disch := first | assumption | omega | exact rfl | exact im_ _) only [bs, rs6, ls6, Nat.reduceAdd, ↓reduceIte, binD_eql_str, binD_neq_str, lenD_lst u22, loadD_iptr a9, h3, ↓h4', ↓h95', h98, h101, h102, h105, ↓h106', ↓h177', ↓h178', h181]
       refine ⟨by first | exact .inl trivial | exact .inr trivial | simp, ?_⟩
       exact finish_is (ds := [bv r179]) (x := .v (.bool r179)) (y := .v (.bool r179)) (l := []) rfl rfl rfl rfl (by first | rfl | (simp only [wk, wks, wkL]; first | done | rfl))
      ·rw [if_neg h178] at h
       have h178' : decide ((x0.length : Int) = x3) = false := decide_eq_false h178
       obtain ⟨r182, h183, h⟩ := bsm h
       have h184 : ∀ H, callD (callW Tryd.prog A0) A0 H 13 [] = some (.p (.v (.bool r182)), none) := fun H => law33_awake_call h183
       obtain rfl := Option.some.inj h
       simp (maxSteps := 10000000) (implicitDefEqProofs := false) (disch := first | assumption | omega | exact rfl | exact im_ _) only [bs, rs6, ls6, Nat.reduceAdd, ↓reduceIte, binD_eql_str, binD_neq_str, lenD_lst u22, loadD_iptr a9, h3, ↓h4', ↓h95', h98, h101, h102, h105, ↓h106', ↓h177', ↓h178', h184]
       refine ⟨by first | exact .inl trivial | exact .inr trivial | simp, ?_⟩
       exact finish_is (ds := [bv r182]) (x := .v (.bool r182)) (y := .v (.bool r182)) (l := []) rfl rfl rfl rfl (by first | rfl | (simp only [wk, wks, wkL]; first | done | rfl))
     ·rw [if_neg h177] at h
      have h177' : decide ((r103.length : Int) = (0 : Int)) = false := decide_eq_false h177
      obtain rfl := Option.some.inj h
      simp (maxSteps := 10000000) (implicitDefEqProofs := false) (disch := first | assumption | omega | exact rfl | exact im_ _) only [bs, rs6, ls6, Nat.reduceAdd, ↓reduceIte, binD_eql_str, binD_neq_str, lenD_lst u22, loadD_iptr a9, h3, ↓h4', ↓h95', h98, h101, h102, h105, ↓h106', ↓h177']
      refine ⟨by first | exact .inl trivial | exact .inr trivial | simp, ?_⟩
      exact finish_is (ds := [bv false]) (x := .v (.bool false)) (y := .v (.bool false)) (l := []) rfl rfl rfl rfl (by first | rfl | (simp only [wk, wks, wkL]; first | done | rfl))
   ·rw [if_neg h102] at h
    replace h102 := Bool.eq_false_iff.2 h102
    obtain rfl := Option.some.inj h
    simp (maxSteps := 10000000) (implicitDefEqProofs := false) (disch := first | assumption | omega | exact rfl | exact im_ _) only [bs, rs6, ls6, Nat.reduceAdd, ↓reduceIte, binD_eql_str, binD_neq_str, lenD_lst u22, loadD_iptr a9, h3, ↓h4', ↓h95', h98, h101, h102]
    refine ⟨by first | exact .inl trivial | exact .inr trivial | simp, ?_⟩
    exact finish_is (ds := [bv false]) (x := .v (.bool false)) (y := .v (.bool false)) (l := []) rfl rfl rfl rfl (by first | rfl | (simp only [wk, wks, wkL]; first | done | rfl))
  ·rw [if_neg h95] at h
   have h95' : decide ((r1.length : Int) = x3) = false := decide_eq_false h95
   obtain rfl := Option.some.inj h
   simp (maxSteps := 10000000) (implicitDefEqProofs := false) (disch := first | assumption | omega | exact rfl | exact im_ _) only [bs, rs6, ls6, Nat.reduceAdd, ↓reduceIte, binD_eql_str, binD_neq_str, lenD_lst u22, loadD_iptr a9, h3, ↓h4', ↓h95']
   refine ⟨by first | exact .inl trivial | exact .inr trivial | simp, ?_⟩
   exact finish_is (ds := [bv false]) (x := .v (.bool false)) (y := .v (.bool false)) (l := []) rfl rfl rfl rfl (by first | rfl | (simp only [wk, wks, wkL]; first | done | rfl))
end Xl

