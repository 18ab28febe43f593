/- A part of the proof: P0. No conditions of its own. -/
import Derived.Test.YtdknlgpdjmjlnaaDoorL
namespace Xl
open Go Go.Ev Go.Proofs
set_option linter.unusedSimpArgs false
set_option linter.unusedVariables false
set_option linter.defProp false
set_option maxRecDepth 8000
set_option maxHeartbeats 40000000
def ls27 := @idxL_22
noncomputable def L27_0 : Code := (loopsOf (bodyOf Tryd.f27)).getD 0 .skip
def g27_0 : List Ghost := [.weak [0, 1], .keep [0, 1, 12, 13]]
def F27_0 (s0 : (List ByteArray)) (s1 : (List ByteArray)) (s12 : Int) : Int → St := fun s13 => ⟨[.p (.lst false s0.length (encL en_str s0)), .p (.lst false s1.length (encL en_str s1)), .junk, .junk, .junk, .junk, .junk, .junk, .junk, .junk, .junk, .junk, iv s12, iv s13, .junk, .junk, .junk, .junk, .junk, .junk, .junk, .junk, .junk, .junk, .junk, .junk], [], 0⟩
theorem L27_0_ok (s0 : (List ByteArray)) (s1 : (List ByteArray)) (s12 : Int) : ∀ s st o, ghostsD g27_0 st = some (F27_0 s0 s1 s12 s) → iter (slices_Equal_string_string_L0 s0 s1 s12) s = some o →
    Wp (evW Tryd.prog A0 27 (.loop L27_0) st) (OutQ (F27_0 s0 s1 s12) g27_0 (fun n s st => n = 0 ∧ ghostsD [.keep [0, 1, 12, 13]] st = some (F27_0 s0 s1 s12 s)) (fun r st => finishD Tryd.prog A0 27 Tryd.f27 st = some (.p (.v (.bool r)), [])) o) := by
 refine Wp.iter ?_
 intro s st o hg h
 generalize s = s13 at hg h
 unfold slices_Equal_string_string_L0 at h
 unfold g27_0 F27_0 at hg ⊢
 (try simp only [] at h hg)
 unfold L27_0 bodyOf Tryd.f27; simp only [Option.getD_some, loopsOf, List.append_nil, List.nil_append, List.cons_append, List.getD_cons_zero, List.getD_cons_succ]
 by_cases h2 : s13 < s12
 ·rw [if_pos h2] at h
  have h2' : decide (s13 < s12) = true := decide_eq_true h2
  obtain ⟨v3, h4, h⟩ := bsm h
  obtain ⟨h4a, h4b, _⟩ := rd_some h4
  have h5 := ce_9_x h4
  obtain ⟨v6, h7, h⟩ := bsm h
  obtain ⟨h7a, h7b, _⟩ := rd_some h7
  have h8 := ce_9_x h7
  by_cases h9 : v3 = v6
  ·rw [if_pos h9] at h
   have h9' : decide (v3 = v6) = true := decide_eq_true h9
   obtain rfl := Option.some.inj h
   simp (maxSteps := 10000000) (implicitDefEqProofs := false) (disch := first | assumption | omega | exact rfl | exact im_ _) only [bs, rs27, ls27, Nat.reduceAdd, ↓reduceIte, binD_neq_str, lenD_lst u22, loadD_iptr a9, hg, ↓h2', h5, h8, ↓h9']
   exact ⟨rfl, by kernel_rfl⟩
  ·rw [if_neg h9] at h
   have h9' : decide (v3 = v6) = false := decide_eq_false h9
   obtain rfl := Option.some.inj h
   simp (maxSteps := 10000000) (implicitDefEqProofs := false) (disch := first | assumption | omega | exact rfl | exact im_ _) only [bs, rs27, ls27, Nat.reduceAdd, ↓reduceIte, binD_neq_str, lenD_lst u22, loadD_iptr a9, hg, ↓h2', h5, h8, ↓h9']
   refine ⟨rfl, ?_⟩
   exact finish_is (ds := [bv false]) (x := .v (.bool false)) (y := .v (.bool false)) (l := []) rfl rfl rfl rfl (by first | rfl | (simp only [wk, wks, wkL]; first | done | rfl))
 ·rw [if_neg h2] at h
  have h2' : decide (s13 < s12) = false := decide_eq_false h2
  obtain rfl := Option.some.inj h
  simp (maxSteps := 10000000) (implicitDefEqProofs := false) (disch := first | assumption | omega | exact rfl | exact im_ _) only [bs, rs27, ls27, Nat.reduceAdd, ↓reduceIte, binD_neq_str, lenD_lst u22, loadD_iptr a9, hg, ↓h2']
  exact ⟨rfl, rfl, by kernel_rfl⟩
theorem f27_ok  (x0 : (List ByteArray)) (x1 : (List ByteArray)) (r : Bool) (h : slices_Equal_string_string x0 x1 = some r) : callW Tryd.prog A0 27 [.p (.lst false x0.length (encL en_str x0)), .p (.lst false x1.length (encL en_str x1))] [] = some (.p (.v (.bool r)), []) := by
 refine call_ofH (fn := Tryd.f27) (c := bodyOf Tryd.f27) rfl rfl (by kernel_rfl) (by kernel_rfl) ?_
 rw [show initS Tryd.f27 [.p (.lst false x0.length (encL en_str x0)), .p (.lst false x1.length (encL en_str x1))] [] = ⟨.p (.lst false x0.length (encL en_str x0)) :: .p (.lst false x1.length (encL en_str x1)) :: List.replicate 24 undefD, [], 0⟩ from by kernel_rfl]
 unfold slices_Equal_string_string at h
 unfold bodyOf Tryd.f27; simp only [Option.getD_some, loopsOf, List.append_nil, List.nil_append, List.cons_append, List.getD_cons_zero, List.getD_cons_succ]
 simp only [List.replicate]
 by_cases h1 : (x0.length : Int) = (x1.length : Int)
 ·rw [if_pos h1] at h
  have h1' : decide ((x0.length : Int) = (x1.length : Int)) = true := decide_eq_true h1
  obtain ⟨o, h10, h⟩ := bsm h
  simp (maxSteps := 10000000) (implicitDefEqProofs := false) (disch := first | assumption | omega | exact rfl | exact im_ _) only [bs, rs27, ls27, Nat.reduceAdd, ↓reduceIte, binD_neq_str, lenD_lst u22, loadD_iptr a9, ↓h1']
  refine Wp.ctx (fun x => seqW _ _ _ _ (blockW _ (x))) (L27_0_ok x0 x1 (x0.length : Int) (0 : Int) _ o (by kernel_rfl) h10) ?_
  intro e st hq
  cases o with
  | next _ => (first | cases h | (simp at h))
  | jmp n_ s_ =>
   obtain ⟨rfl, rfl, hq⟩ := hq
   generalize s_ = s13_11 at h hq
   unfold F27_0 at hq
   (try simp only [] at h hq)
   obtain rfl := Option.some.inj h
   simp (maxSteps := 10000000) (implicitDefEqProofs := false) (disch := first | assumption | omega | exact rfl | exact im_ _) only [bs, rs27, ls27, Nat.reduceAdd, ↓reduceIte, binD_neq_str, lenD_lst u22, loadD_iptr a9, ↓h1', hq]
   refine ⟨by first | exact .inl trivial | exact .inr trivial | simp, ?_⟩
   exact finish_is (ds := [bv true]) (x := .v (.bool true)) (y := .v (.bool true)) (l := []) rfl rfl rfl rfl (by first | rfl | (simp only [wk, wks, wkL]; first | done | rfl))
  | ret r12 =>
   obtain ⟨rfl, hq⟩ := hq
   obtain rfl := Option.some.inj h
   simp (maxSteps := 10000000) (implicitDefEqProofs := false) (disch := first | assumption | omega | exact rfl | exact im_ _) only [bs, rs27, ls27, Nat.reduceAdd, ↓reduceIte, binD_neq_str, lenD_lst u22, loadD_iptr a9]
   exact ⟨by first | exact .inl trivial | exact .inr trivial | simp, hq⟩
 ·rw [if_neg h1] at h
  have h1' : decide ((x0.length : Int) = (x1.length : Int)) = false := decide_eq_false h1
  obtain rfl := Option.some.inj h
  simp (maxSteps := 10000000) (implicitDefEqProofs := false) (disch := first | assumption | omega | exact rfl | exact im_ _) only [bs, rs27, ls27, Nat.reduceAdd, ↓reduceIte, binD_neq_str, lenD_lst u22, loadD_iptr a9, ↓h1']
  refine ⟨by first | exact .inl trivial | exact .inr trivial | simp, ?_⟩
  exact finish_is (ds := [bv false]) (x := .v (.bool false)) (y := .v (.bool false)) (l := []) rfl rfl rfl rfl (by first | rfl | (simp only [wk, wks, wkL]; first | done | rfl))
theorem slices_Equal_string_string_call {b1 b2 : Bool} {H : List Ob} {x0 : (List ByteArray)} {x1 : (List ByteArray)} {r : Bool} (h : slices_Equal_string_string x0 x1 = some r) : callD (callW Tryd.prog A0) A0 H 27 [.p (.lst b1 x0.length (encL en_str x0)), .p (.lst b2 x1.length (encL en_str x1))] = some (.p (.v (.bool r)), none) :=
  callD_fun (args := [.lst b1 x0.length (encL en_str x0), .lst b2 x1.length (encL en_str x1)]) rfl rfl rfl (by simp only [List.map_cons, List.map_nil, wk, wks, wkL]; exact f27_ok x0 x1 _ h)
theorem f11_ok  (x0 : (List ByteArray)) (x1 : (List ByteArray)) (r : Bool) (h : layout_Equal x0 x1 = some r) : callW Tryd.prog A0 11 [.p (.lst false x0.length (encL en_str x0)), .p (.lst false x1.length (encL en_str x1))] [] = some (.p (.v (.bool r)), []) := by
 refine call_ofH (fn := Tryd.f11) (c := bodyOf Tryd.f11) rfl rfl (by kernel_rfl) (by kernel_rfl) ?_
 rw [show initS Tryd.f11 [.p (.lst false x0.length (encL en_str x0)), .p (.lst false x1.length (encL en_str x1))] [] = ⟨.p (.lst false x0.length (encL en_str x0)) :: .p (.lst false x1.length (encL en_str x1)) :: List.replicate 6 undefD, [], 0⟩ from by kernel_rfl]
 unfold layout_Equal at h
 unfold bodyOf Tryd.f11; simp only [Option.getD_some, loopsOf, List.append_nil, List.nil_append, List.cons_append, List.getD_cons_zero, List.getD_cons_succ]
 simp only [List.replicate]
 obtain ⟨r1, h2, h⟩ := bsm h
 have h3 : ∀ H, callD (callW Tryd.prog A0) A0 H 27 [.p (.lst false x0.length (encL en_str x0)), .p (.lst false x1.length (encL en_str x1))] = some (.p (.v (.bool r1)), none) := fun H => slices_Equal_string_string_call h2
 obtain rfl := Option.some.inj h
 simp (maxSteps := 10000000) (implicitDefEqProofs := false) (disch := first | assumption | omega | exact rfl | exact im_ _) only [bs, rs11, Nat.reduceAdd, ↓reduceIte, h3]
 refine ⟨by first | exact .inl trivial | exact .inr trivial | simp, ?_⟩
 exact finish_is (ds := [bv r1]) (x := .v (.bool r1)) (y := .v (.bool r1)) (l := []) rfl rfl rfl rfl (by first | rfl | (simp only [wk, wks, wkL]; first | done | rfl))
theorem layout_Equal_call {b1 b2 : Bool} {H : List Ob} {x0 : (List ByteArray)} {x1 : (List ByteArray)} {r : Bool} (h : layout_Equal x0 x1 = some r) : callD (callW Tryd.prog A0) A0 H 11 [.p (.lst b1 x0.length (encL en_str x0)), .p (.lst b2 x1.length (encL en_str x1))] = some (.p (.v (.bool r)), none) :=
  callD_fun (args := [.lst b1 x0.length (encL en_str x0), .lst b2 x1.length (encL en_str x1)]) rfl rfl rfl (by simp only [List.map_cons, List.map_nil, wk, wks, wkL]; exact f11_ok x0 x1 _ h)
def ls23 := And.intro @apn_22_22 (@bs_22_0)
theorem f23_ok  (x0 : (List ByteArray)) (r : (List ByteArray)) (h : slices_Clone_string_string x0 = some r) : callW Tryd.prog A0 23 [.p (.lst false x0.length (encL en_str x0))] [] = some (.p (.lst false r.length (encL en_str r)), []) := by
 by_cases hx0 : x0 = []
 case pos => subst hx0; simp [slices_Clone_string_string] at h; subst h; exact clone_nil0 rfl rfl rfl
 refine call_ofH (fn := Tryd.f23) (c := bodyOf Tryd.f23) (by cases x0 with | nil => exact absurd rfl hx0 | cons _ _ => rfl) rfl (by kernel_rfl) (by kernel_rfl) ?_
 rw [show initS Tryd.f23 [.p (.lst false x0.length (encL en_str x0))] [] = ⟨.p (.lst false x0.length (encL en_str x0)) :: List.replicate 7 undefD, [], 0⟩ from by kernel_rfl]
 unfold slices_Clone_string_string at h
 unfold bodyOf Tryd.f23; simp only [Option.getD_some, loopsOf, List.append_nil, List.nil_append, List.cons_append, List.getD_cons_zero, List.getD_cons_succ]
 simp only [List.replicate]
 have h1 : ∀ b n, nilD Tryd.prog .eql 22 (.p (.lst b n (encL en_str x0))) = some (bv false) := fun b n => nilD_ne u22 (encL_ne en_str_len (by decide) hx0)
 by_cases hw_ : x0.length * 16 ≤ 140737488355328
 case neg => rw [if_neg hw_] at h; cases h
 rw [if_pos hw_] at h
 have h3 := hw_
 have h2 : ∀ (H : List Ob), apN H x0.length 1 16 (encL en_str x0) = some (.ref H.length 0 x0.length 1, H ++ [.arr (encL en_str x0)]) := fun H => apn_enc (y := x0) en_str_len rfl rfl (by assumption)
 obtain rfl := Option.some.inj h
 simp (maxSteps := 10000000) (implicitDefEqProofs := false) (disch := first | assumption | omega | exact rfl | exact im_ _) only [bs, rs23, ls23, Nat.reduceAdd, ↓reduceIte, binN_nil, h1, h2]
 refine ⟨by first | exact .inl trivial | exact .inr trivial | simp, ?_⟩
 exact finish_is (ds := [.ref 0 0 x0.length 1]) (x := .lst false x0.length (encL en_str x0)) (y := .lst false x0.length (encL en_str x0)) (l := [0]) rfl rfl rfl (purify1_enc en_str_len rfl (by first | rfl | omega)) (by first | rfl | (simp only [wk, wks, wkL]; first | done | rfl))
theorem slices_Clone_string_string_call {b1 : Bool} {H : List Ob} {x0 : (List ByteArray)} {r : (List ByteArray)} (h : slices_Clone_string_string x0 = some r) : callD (callW Tryd.prog A0) A0 H 23 [.p (.lst b1 x0.length (encL en_str x0))] = some (.p (.lst false r.length (encL en_str r)), none) :=
  callD_fun (args := [.lst b1 x0.length (encL en_str x0)]) rfl rfl rfl (by simp only [List.map_cons, List.map_nil, wk, wks, wkL]; exact f23_ok x0 _ h)
theorem f25_ok  (x0 : ByteArray) (x1 : ByteArray) (r : ByteArray) (h : layout_greater x0 x1 = some r) : callW Tryd.prog A0 25 [.p (.v (.string x0)), .p (.v (.string x1))] [] = some (.p (.v (.string r)), []) := by
 refine call_ofH (fn := Tryd.f25) (c := bodyOf Tryd.f25) rfl rfl (by kernel_rfl) (by kernel_rfl) ?_
 rw [show initS Tryd.f25 [.p (.v (.string x0)), .p (.v (.string x1))] [] = ⟨.p (.v (.string x0)) :: .p (.v (.string x1)) :: List.replicate 22 undefD, [], 0⟩ from by kernel_rfl]
 unfold layout_greater at h
 unfold bodyOf Tryd.f25; simp only [Option.getD_some, loopsOf, List.append_nil, List.nil_append, List.cons_append, List.getD_cons_zero, List.getD_cons_succ]
 simp only [List.replicate]
 by_cases h1 : (x1.size : Int) < (x0.size : Int)
 ·rw [if_pos h1] at h
  have h1' : decide ((x1.size : Int) < (x0.size : Int)) = true := decide_eq_true h1
  obtain rfl := Option.some.inj h
  simp (maxSteps := 10000000) (implicitDefEqProofs := false) (disch := first | assumption | omega | exact rfl | exact im_ _) only [bs, rs25, Nat.reduceAdd, ↓reduceIte, binD_gtr_str, lenD_str u9, ↓h1']
  refine ⟨by first | exact .inl trivial | exact .inr trivial | simp, ?_⟩
  exact finish_is (ds := [.p (.v (.string x0))]) (x := .v (.string x0)) (y := .v (.string x0)) (l := []) rfl rfl rfl rfl (by first | rfl | (simp only [wk, wks, wkL]; first | done | rfl))
 ·rw [if_neg h1] at h
  have h1' : decide ((x1.size : Int) < (x0.size : Int)) = false := decide_eq_false h1
  by_cases h2 : (x0.size : Int) = (x1.size : Int)
  ·rw [if_pos h2] at h
   have h2' : decide ((x0.size : Int) = (x1.size : Int)) = true := decide_eq_true h2
   by_cases h3 : (strLt x0 x1 || decide (x0 = x1)) = true
   ·rw [if_pos h3] at h
    obtain rfl := Option.some.inj h
    simp (maxSteps := 10000000) (implicitDefEqProofs := false) (disch := first | assumption | omega | exact rfl | exact im_ _) only [bs, rs25, Nat.reduceAdd, ↓reduceIte, binD_gtr_str, lenD_str u9, ↓h1', ↓h2', h3]
    refine ⟨by first | exact .inl trivial | exact .inr trivial | simp, ?_⟩
    exact finish_is (ds := [.p (.v (.string x1))]) (x := .v (.string x1)) (y := .v (.string x1)) (l := []) rfl rfl rfl rfl (by first | rfl | (simp only [wk, wks, wkL]; first | done | rfl))
   ·rw [if_neg h3] at h
    replace h3 := Bool.eq_false_iff.2 h3
    obtain rfl := Option.some.inj h
    simp (maxSteps := 10000000) (implicitDefEqProofs := false) (disch := first | assumption | omega | exact rfl | exact im_ _) only [bs, rs25, Nat.reduceAdd, ↓reduceIte, binD_gtr_str, lenD_str u9, ↓h1', ↓h2', h3]
    refine ⟨by first | exact .inl trivial | exact .inr trivial | simp, ?_⟩
    exact finish_is (ds := [.p (.v (.string x0))]) (x := .v (.string x0)) (y := .v (.string x0)) (l := []) rfl rfl rfl rfl (by first | rfl | (simp only [wk, wks, wkL]; first | done | rfl))
  ·rw [if_neg h2] at h
   have h2' : decide ((x0.size : Int) = (x1.size : Int)) = false := decide_eq_false h2
   obtain rfl := Option.some.inj h
   simp (maxSteps := 10000000) (implicitDefEqProofs := false) (disch := first | assumption | omega | exact rfl | exact im_ _) only [bs, rs25, Nat.reduceAdd, ↓reduceIte, binD_gtr_str, lenD_str u9, ↓h1', ↓h2']
   refine ⟨by first | exact .inl trivial | exact .inr trivial | simp, ?_⟩
   exact finish_is (ds := [.p (.v (.string x1))]) (x := .v (.string x1)) (y := .v (.string x1)) (l := []) rfl rfl rfl rfl (by first | rfl | (simp only [wk, wks, wkL]; first | done | rfl))
theorem layout_greater_call {H : List Ob} {x0 : ByteArray} {x1 : ByteArray} {r : ByteArray} (h : layout_greater x0 x1 = some r) : callD (callW Tryd.prog A0) A0 H 25 [.p (.v (.string x0)), .p (.v (.string x1))] = some (.p (.v (.string r)), none) :=
  callD_fun (args := [.v (.string x0), .v (.string x1)]) rfl rfl rfl (by simp only [List.map_cons, List.map_nil, wk, wks, wkL]; exact f25_ok x0 x1 _ h)
theorem f24_ok  (x0 : ByteArray) (x1 : ByteArray) (x2 : ByteArray) (r : ByteArray) (h : layout_merged x0 x1 x2 = some r) : callW Tryd.prog A0 24 [.p (.v (.string x0)), .p (.v (.string x1)), .p (.v (.string x2))] [] = some (.p (.v (.string r)), []) := by
 refine call_ofH (fn := Tryd.f24) (c := bodyOf Tryd.f24) rfl rfl (by kernel_rfl) (by kernel_rfl) ?_
 rw [show initS Tryd.f24 [.p (.v (.string x0)), .p (.v (.string x1)), .p (.v (.string x2))] [] = ⟨.p (.v (.string x0)) :: .p (.v (.string x1)) :: .p (.v (.string x2)) :: List.replicate 20 undefD, [], 0⟩ from by kernel_rfl]
 unfold layout_merged at h
 unfold bodyOf Tryd.f24; simp only [Option.getD_some, loopsOf, List.append_nil, List.nil_append, List.cons_append, List.getD_cons_zero, List.getD_cons_succ]
 simp only [List.replicate]
 by_cases h1 : x1 = x2
 ·rw [if_pos h1] at h
  have h1' : decide (x1 = x2) = true := decide_eq_true h1
  obtain rfl := Option.some.inj h
  simp (maxSteps := 10000000) (implicitDefEqProofs := false) (disch := first | assumption | omega | exact rfl | exact im_ _) only [bs, rs24, Nat.reduceAdd, ↓reduceIte, binD_eql_str, ↓h1']
  refine ⟨by first | exact .inl trivial | exact .inr trivial | simp, ?_⟩
  exact finish_is (ds := [.p (.v (.string x1))]) (x := .v (.string x1)) (y := .v (.string x1)) (l := []) rfl rfl rfl rfl (by first | rfl | (simp only [wk, wks, wkL]; first | done | rfl))
 ·rw [if_neg h1] at h
  have h1' : decide (x1 = x2) = false := decide_eq_false h1
  by_cases h2 : x2 = x0
  ·rw [if_pos h2] at h
   have h2' : decide (x2 = x0) = true := decide_eq_true h2
   obtain rfl := Option.some.inj h
   simp (maxSteps := 10000000) (implicitDefEqProofs := false) (disch := first | assumption | omega | exact rfl | exact im_ _) only [bs, rs24, Nat.reduceAdd, ↓reduceIte, binD_eql_str, ↓h1', ↓h2']
   refine ⟨by first | exact .inl trivial | exact .inr trivial | simp, ?_⟩
   exact finish_is (ds := [.p (.v (.string x1))]) (x := .v (.string x1)) (y := .v (.string x1)) (l := []) rfl rfl rfl rfl (by first | rfl | (simp only [wk, wks, wkL]; first | done | rfl))
  ·rw [if_neg h2] at h
   have h2' : decide (x2 = x0) = false := decide_eq_false h2
   by_cases h3 : x1 = x0
   ·rw [if_pos h3] at h
    have h3' : decide (x1 = x0) = true := decide_eq_true h3
    obtain rfl := Option.some.inj h
    simp (maxSteps := 10000000) (implicitDefEqProofs := false) (disch := first | assumption | omega | exact rfl | exact im_ _) only [bs, rs24, Nat.reduceAdd, ↓reduceIte, binD_eql_str, ↓h1', ↓h2', ↓h3']
    refine ⟨by first | exact .inl trivial | exact .inr trivial | simp, ?_⟩
    exact finish_is (ds := [.p (.v (.string x2))]) (x := .v (.string x2)) (y := .v (.string x2)) (l := []) rfl rfl rfl rfl (by first | rfl | (simp only [wk, wks, wkL]; first | done | rfl))
   ·rw [if_neg h3] at h
    have h3' : decide (x1 = x0) = false := decide_eq_false h3
    obtain ⟨r4, h5, h⟩ := bsm h
    have h6 : ∀ H, callD (callW Tryd.prog A0) A0 H 25 [.p (.v (.string x1)), .p (.v (.string x2))] = some (.p (.v (.string r4)), none) := fun H => layout_greater_call h5
    obtain rfl := Option.some.inj h
    simp (maxSteps := 10000000) (implicitDefEqProofs := false) (disch := first | assumption | omega | exact rfl | exact im_ _) only [bs, rs24, Nat.reduceAdd, ↓reduceIte, binD_eql_str, ↓h1', ↓h2', ↓h3', h6]
    refine ⟨by first | exact .inl trivial | exact .inr trivial | simp, ?_⟩
    exact finish_is (ds := [.p (.v (.string r4))]) (x := .v (.string r4)) (y := .v (.string r4)) (l := []) rfl rfl rfl rfl (by first | rfl | (simp only [wk, wks, wkL]; first | done | rfl))
theorem layout_merged_call {H : List Ob} {x0 : ByteArray} {x1 : ByteArray} {x2 : ByteArray} {r : ByteArray} (h : layout_merged x0 x1 x2 = some r) : callD (callW Tryd.prog A0) A0 H 24 [.p (.v (.string x0)), .p (.v (.string x1)), .p (.v (.string x2))] = some (.p (.v (.string r)), none) :=
  callD_fun (args := [.v (.string x0), .v (.string x1), .v (.string x2)]) rfl rfl rfl (by simp only [List.map_cons, List.map_nil, wk, wks, wkL]; exact f24_ok x0 x1 x2 _ h)
def ls9 := And.intro @ap_22_22 (And.intro @bs_22_1 (@idxL_22))
noncomputable def L9_0 : Code := (loopsOf (bodyOf Tryd.f9)).getD 0 .skip
def g9_0 : List Ghost := [.own 9 1, .weak [0, 1, 2], .keep [0, 1, 2, 3, 9, 34, 35]]
def F9_0 (s0 : (List ByteArray)) (s1 : (List ByteArray)) (s2 : (List ByteArray)) (s3 : Int) (s34 : Int) : (Int × (List ByteArray)) → St := fun (s35, y0) => ⟨[.p (.lst false s0.length (encL en_str s0)), .p (.lst false s1.length (encL en_str s1)), .p (.lst false s2.length (encL en_str s2)), iv s3, .junk, .junk, .junk, .junk, .junk, .ref 0 0 y0.length 1, .junk, .junk, .junk, .junk, .junk, .junk, .junk, .junk, .junk, .junk, .junk, .junk, .junk, .junk, .junk, .junk, .junk, .junk, .junk, .junk, .junk, .junk, .junk, .junk, iv s34, iv s35, .junk, .junk, .junk, .junk, .junk, .junk, .junk, .junk, .junk, .junk, .junk, .junk, .junk, .junk, .junk, .junk, .junk, .junk, .junk, .junk, .junk, .junk, .junk, .junk, .junk, .junk, .junk, .junk, .junk, .junk, .junk, .junk, .junk, .junk, .junk, .junk, .junk, .junk, .junk, .junk, .junk, .junk, .junk, .junk, .junk, .junk, .junk, .junk, .junk, .junk, .junk, .junk, .junk, .junk, .junk, .junk, .junk, .junk, .junk, .junk, .junk, .junk, .junk, .junk, .junk, .junk], [.arr (encL en_str y0)], 0⟩
theorem L9_0_ok (s0 : (List ByteArray)) (s1 : (List ByteArray)) (s2 : (List ByteArray)) (s3 : Int) (s34 : Int) : ∀ s st o, ghostsD g9_0 st = some (F9_0 s0 s1 s2 s3 s34 s) → iter (layout_Gaps_L0 s0 s1 s2 s3 s34) s = some o →
    Wp (evW Tryd.prog A0 9 (.loop L9_0) st) (OutQ (F9_0 s0 s1 s2 s3 s34) g9_0 (fun n s st => n = 1 ∧ ghostsD [.keep [0, 1, 2, 3, 9, 34, 35]] st = some (F9_0 s0 s1 s2 s3 s34 s)) (fun r st => finishD Tryd.prog A0 9 Tryd.f9 st = some (.p (.lst false r.length (encL en_str r)), [])) o) := by
 refine Wp.iter ?_
 intro s st o hg h
 obtain ⟨s35, y0⟩ := s
 unfold layout_Gaps_L0 at h
 unfold g9_0 F9_0 at hg ⊢
 (try simp only [] at h hg)
 unfold L9_0 bodyOf Tryd.f9; simp only [Option.getD_some, loopsOf, List.append_nil, List.nil_append, List.cons_append, List.getD_cons_zero, List.getD_cons_succ]
 by_cases h26 : s35 < s34
 ·rw [if_pos h26] at h
  have h26' : decide (s35 < s34) = true := decide_eq_true h26
  obtain ⟨v27, h28, h⟩ := bsm h
  obtain ⟨h28a, h28b, _⟩ := rd_some h28
  have h29 := ce_9_x h28
  by_cases h30 : (s0.length : Int) = (s1.length : Int)
  ·rw [if_pos h30] at h
   have h30' : decide ((s0.length : Int) = (s1.length : Int)) = true := decide_eq_true h30
   obtain ⟨v31, h32, h⟩ := bsm h
   obtain ⟨h32a, h32b, _⟩ := rd_some h32
   have h33 := ce_9_x h32
   have h34 := ce_9_x h28
   obtain ⟨v35, h36, h⟩ := bsm h
   obtain ⟨h36a, h36b, _⟩ := rd_some h36
   have h37 := ce_9_x h36
   obtain ⟨r38, h39, h⟩ := bsm h
   have h40 : ∀ H, callD (callW Tryd.prog A0) A0 H 24 [.p (.v (.string v31)), .p (.v (.string v27)), .p (.v (.string v35))] = some (.p (.v (.string r38)), none) := fun H => layout_merged_call h39
   by_cases hw_ : (y0.length + 1) * 16 ≤ 140737488355328
   case neg => rw [if_neg hw_] at h; cases h
   rw [if_pos hw_] at h
   have h42 := hw_
   have h41 : ∀ (H : List Ob) (id : Nat), apOb H id 0 y0.length 1 1 1 16 [.v (.string r38)] (some (.arr (encL en_str y0))) = some (.ref H.length 0 (y0 ++ [r38]).length 1, H.set id .dead ++ [.arr (encL en_str (y0 ++ [r38]))]) := fun H id => ap_enc (y := [r38]) en_str_len (by first | rfl | omega) rfl (by first | (simp only [encL_cons, encL_nil, en_str_eq, List.cons_append, List.nil_append]; done) | (simp only [encL_cons, encL_nil, en_str_eq, List.cons_append, List.nil_append]; rfl) | rfl) (by assumption)
   obtain rfl := Option.some.inj h
   simp (maxSteps := 10000000) (implicitDefEqProofs := false) (disch := first | assumption | omega | exact rfl | exact im_ _) only [bs, rs9, ls9, Nat.reduceAdd, ↓reduceIte, binD_eql_str, lenD_lst u22, lenD_ref u22, loadD_iptr a9, wks_nil_, hg, ↓h26', h29, ↓h30', h33, h34, h37, h40, h41]
   exact ⟨rfl, by kernel_rfl⟩
  ·rw [if_neg h30] at h
   have h30' : decide ((s0.length : Int) = (s1.length : Int)) = false := decide_eq_false h30
   obtain ⟨v43, h44, h⟩ := bsm h
   obtain ⟨h44a, h44b, _⟩ := rd_some h44
   have h45 := ce_9_x h44
   by_cases h46 : v27 = v43
   ·rw [if_pos h46] at h
    have h46' : decide (v27 = v43) = true := decide_eq_true h46
    by_cases hw_ : (y0.length + 1) * 16 ≤ 140737488355328
    case neg => rw [if_neg hw_] at h; cases h
    rw [if_pos hw_] at h
    have h48 := hw_
    have h47 : ∀ (H : List Ob) (id : Nat), apOb H id 0 y0.length 1 1 1 16 [.v (.string v27)] (some (.arr (encL en_str y0))) = some (.ref H.length 0 (y0 ++ [v27]).length 1, H.set id .dead ++ [.arr (encL en_str (y0 ++ [v27]))]) := fun H id => ap_enc (y := [v27]) en_str_len (by first | rfl | omega) rfl (by first | (simp only [encL_cons, encL_nil, en_str_eq, List.cons_append, List.nil_append]; done) | (simp only [encL_cons, encL_nil, en_str_eq, List.cons_append, List.nil_append]; rfl) | rfl) (by assumption)
    obtain rfl := Option.some.inj h
    simp (maxSteps := 10000000) (implicitDefEqProofs := false) (disch := first | assumption | omega | exact rfl | exact im_ _) only [bs, rs9, ls9, Nat.reduceAdd, ↓reduceIte, binD_eql_str, lenD_lst u22, lenD_ref u22, loadD_iptr a9, wks_nil_, hg, ↓h26', h29, ↓h30', h45, ↓h46', h47]
    exact ⟨rfl, by kernel_rfl⟩
   ·rw [if_neg h46] at h
    have h46' : decide (v27 = v43) = false := decide_eq_false h46
    have h49 := ce_9_x h44
    obtain ⟨r50, h51, h⟩ := bsm h
    have h52 : ∀ H, callD (callW Tryd.prog A0) A0 H 25 [.p (.v (.string v27)), .p (.v (.string v43))] = some (.p (.v (.string r50)), none) := fun H => layout_greater_call h51
    by_cases hw_ : (y0.length + 1) * 16 ≤ 140737488355328
    case neg => rw [if_neg hw_] at h; cases h
    rw [if_pos hw_] at h
    have h54 := hw_
    have h53 : ∀ (H : List Ob) (id : Nat), apOb H id 0 y0.length 1 1 1 16 [.v (.string r50)] (some (.arr (encL en_str y0))) = some (.ref H.length 0 (y0 ++ [r50]).length 1, H.set id .dead ++ [.arr (encL en_str (y0 ++ [r50]))]) := fun H id => ap_enc (y := [r50]) en_str_len (by first | rfl | omega) rfl (by first | (simp only [encL_cons, encL_nil, en_str_eq, List.cons_append, List.nil_append]; done) | (simp only [encL_cons, encL_nil, en_str_eq, List.cons_append, List.nil_append]; rfl) | rfl) (by assumption)
    obtain rfl := Option.some.inj h
    simp (maxSteps := 10000000) (implicitDefEqProofs := false) (disch := first | assumption | omega | exact rfl | exact im_ _) only [bs, rs9, ls9, Nat.reduceAdd, ↓reduceIte, binD_eql_str, lenD_lst u22, lenD_ref u22, loadD_iptr a9, wks_nil_, hg, ↓h26', h29, ↓h30', h45, ↓h46', h49, h52, h53]
    exact ⟨rfl, by kernel_rfl⟩
 ·rw [if_neg h26] at h
  have h26' : decide (s35 < s34) = false := decide_eq_false h26
  obtain rfl := Option.some.inj h
  simp (maxSteps := 10000000) (implicitDefEqProofs := false) (disch := first | assumption | omega | exact rfl | exact im_ _) only [bs, rs9, ls9, Nat.reduceAdd, ↓reduceIte, binD_eql_str, lenD_lst u22, lenD_ref u22, loadD_iptr a9, wks_nil_, hg, ↓h26']
  exact ⟨rfl, rfl, by kernel_rfl⟩
theorem f9_ok  (x0 : (List ByteArray)) (x1 : (List ByteArray)) (x2 : (List ByteArray)) (x3 : Int) (r : (List ByteArray)) (h : layout_Gaps x0 x1 x2 x3 = some r) : callW Tryd.prog A0 9 [.p (.lst false x0.length (encL en_str x0)), .p (.lst false x1.length (encL en_str x1)), .p (.lst false x2.length (encL en_str x2)), iv x3] [] = some (.p (.lst false r.length (encL en_str r)), []) := by
 refine call_ofH (fn := Tryd.f9) (c := bodyOf Tryd.f9) rfl rfl (by kernel_rfl) (by kernel_rfl) ?_
 rw [show initS Tryd.f9 [.p (.lst false x0.length (encL en_str x0)), .p (.lst false x1.length (encL en_str x1)), .p (.lst false x2.length (encL en_str x2)), iv x3] [] = ⟨.p (.lst false x0.length (encL en_str x0)) :: .p (.lst false x1.length (encL en_str x1)) :: .p (.lst false x2.length (encL en_str x2)) :: iv x3 :: List.replicate 98 undefD, [], 0⟩ from by kernel_rfl]
 unfold layout_Gaps at h
 unfold bodyOf Tryd.f9; simp only [Option.getD_some, loopsOf, List.append_nil, List.nil_append, List.cons_append, List.getD_cons_zero, List.getD_cons_succ]
 simp only [List.replicate]
 obtain ⟨r1, h2, h⟩ := bsm h
 have h3 : ∀ H, callD (callW Tryd.prog A0) A0 H 11 [.p (.lst false x1.length (encL en_str x1)), .p (.lst false x2.length (encL en_str x2))] = some (.p (.v (.bool r1)), none) := fun H => layout_Equal_call h2
 by_cases h4 : r1 = true
 ·rw [if_pos h4] at h
  obtain ⟨r5, h6, h⟩ := bsm h
  have h7 : ∀ H, callD (callW Tryd.prog A0) A0 H 23 [.p (.lst false x1.length (encL en_str x1))] = some (.p (.lst false r5.length (encL en_str r5)), none) := fun H => slices_Clone_string_string_call h6
  simp (maxSteps := 10000000) (implicitDefEqProofs := false) (disch := first | assumption | omega | exact rfl | exact im_ _) only [bs, rs9, ls9, Nat.reduceAdd, ↓reduceIte, binD_eql_str, lenD_lst u22, lenD_ref u22, loadD_iptr a9, wks_nil_, h3, h4, h7]
  refine Wp.gh (fun x => seqW _ _ _ _ (seqW _ _ _ _ (regW _ _ _ _ _ x))) ⟨[.p (.lst false x0.length (encL en_str x0)), .p (.lst false x1.length (encL en_str x1)), .p (.lst false x2.length (encL en_str x2)), iv x3, .junk, .junk, .junk, .junk, .junk, .p (.lst false r5.length (encL en_str r5)), .junk, .junk, .junk, .junk, .junk, .junk, .junk, .junk, .junk, .junk, .junk, .junk, .junk, .junk, .junk, .junk, .junk, .junk, .junk, .junk, .junk, .junk, .junk, .junk, undefD, undefD, .junk, .junk, .junk, .junk, .junk, .junk, .junk, .junk, .junk, .junk, .junk, .junk, .junk, .junk, .junk, .junk, .junk, .junk, .junk, .junk, .junk, .junk, .junk, .junk, .junk, .junk, .junk, .junk, .junk, .junk, .junk, .junk, .junk, .junk, .junk, .junk, .junk, .junk, .junk, .junk, .junk, .junk, .junk, .junk, .junk, .junk, .junk, .junk, .junk, .junk, .junk, .junk, .junk, .junk, .junk, .junk, .junk, .junk, .junk, .junk, .junk, .junk, .junk, .junk, .junk, .junk], [], 0⟩ (by kernel_rfl) ?_
  by_cases h8 : (r5.length : Int) = x3
  ·rw [if_pos h8] at h
   have h8' : decide ((r5.length : Int) = x3) = true := decide_eq_true h8
   obtain rfl := Option.some.inj h
   simp (maxSteps := 10000000) (implicitDefEqProofs := false) (disch := first | assumption | omega | exact rfl | exact im_ _) only [bs, rs9, ls9, Nat.reduceAdd, ↓reduceIte, binD_eql_str, lenD_lst u22, lenD_ref u22, loadD_iptr a9, wks_nil_, h3, h4, h7, ↓h8']
   refine ⟨by first | exact .inl trivial | exact .inr trivial | simp, ?_⟩
   exact finish_is (ds := [.p (.lst false r5.length (encL en_str r5))]) (x := .lst false r5.length (encL en_str r5)) (y := .lst false r5.length (encL en_str r5)) (l := []) rfl rfl rfl rfl (by first | rfl | (simp only [wk, wks, wkL]; first | done | rfl))
  ·rw [if_neg h8] at h
   have h8' : decide ((r5.length : Int) = x3) = false := decide_eq_false h8
   obtain rfl := Option.some.inj h
   simp (maxSteps := 10000000) (implicitDefEqProofs := false) (disch := first | assumption | omega | exact rfl | exact im_ _) only [bs, rs9, ls9, Nat.reduceAdd, ↓reduceIte, binD_eql_str, lenD_lst u22, lenD_ref u22, loadD_iptr a9, wks_nil_, h3, h4, h7, ↓h8']
   refine ⟨by first | exact .inl trivial | exact .inr trivial | simp, ?_⟩
   exact finish_is (ds := [.p (.lst true 0 [])]) (x := .lst true 0 []) (y := .lst false ([] : List ByteArray).length (encL en_str ([] : List ByteArray))) (l := []) rfl rfl rfl rfl (by first | rfl | (simp only [wk, wks, wkL]; first | done | rfl))
 ·rw [if_neg h4] at h
  replace h4 := Bool.eq_false_iff.2 h4
  obtain ⟨r9, h10, h⟩ := bsm h
  have h11 : ∀ H, callD (callW Tryd.prog A0) A0 H 11 [.p (.lst false x2.length (encL en_str x2)), .p (.lst false x0.length (encL en_str x0))] = some (.p (.v (.bool r9)), none) := fun H => layout_Equal_call h10
  by_cases h12 : r9 = true
  ·rw [if_pos h12] at h
   obtain ⟨r13, h14, h⟩ := bsm h
   have h15 : ∀ H, callD (callW Tryd.prog A0) A0 H 23 [.p (.lst false x1.length (encL en_str x1))] = some (.p (.lst false r13.length (encL en_str r13)), none) := fun H => slices_Clone_string_string_call h14
   simp (maxSteps := 10000000) (implicitDefEqProofs := false) (disch := first | assumption | omega | exact rfl | exact im_ _) only [bs, rs9, ls9, Nat.reduceAdd, ↓reduceIte, binD_eql_str, lenD_lst u22, lenD_ref u22, loadD_iptr a9, wks_nil_, h3, h4, h11, h12, h15]
   refine Wp.gh (fun x => seqW _ _ _ _ (seqW _ _ _ _ (regW _ _ _ _ _ x))) ⟨[.p (.lst false x0.length (encL en_str x0)), .p (.lst false x1.length (encL en_str x1)), .p (.lst false x2.length (encL en_str x2)), iv x3, .junk, .junk, .junk, .junk, .junk, .p (.lst false r13.length (encL en_str r13)), .junk, .junk, .junk, .junk, .junk, .junk, .junk, .junk, .junk, .junk, .junk, .junk, .junk, .junk, .junk, .junk, .junk, .junk, .junk, .junk, .junk, .junk, .junk, .junk, undefD, undefD, .junk, .junk, .junk, .junk, .junk, .junk, .junk, .junk, .junk, .junk, .junk, .junk, .junk, .junk, .junk, .junk, .junk, .junk, .junk, .junk, .junk, .junk, .junk, .junk, .junk, .junk, .junk, .junk, .junk, .junk, .junk, .junk, .junk, .junk, .junk, .junk, .junk, .junk, .junk, .junk, .junk, .junk, .junk, .junk, .junk, .junk, .junk, .junk, .junk, .junk, .junk, .junk, .junk, .junk, .junk, .junk, .junk, .junk, .junk, .junk, .junk, .junk, .junk, .junk, .junk, .junk], [], 0⟩ (by kernel_rfl) ?_
   by_cases h16 : (r13.length : Int) = x3
   ·rw [if_pos h16] at h
    have h16' : decide ((r13.length : Int) = x3) = true := decide_eq_true h16
    obtain rfl := Option.some.inj h
    simp (maxSteps := 10000000) (implicitDefEqProofs := false) (disch := first | assumption | omega | exact rfl | exact im_ _) only [bs, rs9, ls9, Nat.reduceAdd, ↓reduceIte, binD_eql_str, lenD_lst u22, lenD_ref u22, loadD_iptr a9, wks_nil_, h3, h4, h11, h12, h15, ↓h16']
    refine ⟨by first | exact .inl trivial | exact .inr trivial | simp, ?_⟩
    exact finish_is (ds := [.p (.lst false r13.length (encL en_str r13))]) (x := .lst false r13.length (encL en_str r13)) (y := .lst false r13.length (encL en_str r13)) (l := []) rfl rfl rfl rfl (by first | rfl | (simp only [wk, wks, wkL]; first | done | rfl))
   ·rw [if_neg h16] at h
    have h16' : decide ((r13.length : Int) = x3) = false := decide_eq_false h16
    obtain rfl := Option.some.inj h
    simp (maxSteps := 10000000) (implicitDefEqProofs := false) (disch := first | assumption | omega | exact rfl | exact im_ _) only [bs, rs9, ls9, Nat.reduceAdd, ↓reduceIte, binD_eql_str, lenD_lst u22, lenD_ref u22, loadD_iptr a9, wks_nil_, h3, h4, h11, h12, h15, ↓h16']
    refine ⟨by first | exact .inl trivial | exact .inr trivial | simp, ?_⟩
    exact finish_is (ds := [.p (.lst true 0 [])]) (x := .lst true 0 []) (y := .lst false ([] : List ByteArray).length (encL en_str ([] : List ByteArray))) (l := []) rfl rfl rfl rfl (by first | rfl | (simp only [wk, wks, wkL]; first | done | rfl))
  ·rw [if_neg h12] at h
   replace h12 := Bool.eq_false_iff.2 h12
   obtain ⟨r17, h18, h⟩ := bsm h
   have h19 : ∀ H, callD (callW Tryd.prog A0) A0 H 11 [.p (.lst false x1.length (encL en_str x1)), .p (.lst false x0.length (encL en_str x0))] = some (.p (.v (.bool r17)), none) := fun H => layout_Equal_call h18
   by_cases h20 : r17 = true
   ·rw [if_pos h20] at h
    obtain ⟨r21, h22, h⟩ := bsm h
    have h23 : ∀ H, callD (callW Tryd.prog A0) A0 H 23 [.p (.lst false x2.length (encL en_str x2))] = some (.p (.lst false r21.length (encL en_str r21)), none) := fun H => slices_Clone_string_string_call h22
    simp (maxSteps := 10000000) (implicitDefEqProofs := false) (disch := first | assumption | omega | exact rfl | exact im_ _) only [bs, rs9, ls9, Nat.reduceAdd, ↓reduceIte, binD_eql_str, lenD_lst u22, lenD_ref u22, loadD_iptr a9, wks_nil_, h3, h4, h11, h12, h19, h20, h23]
    refine Wp.gh (fun x => seqW _ _ _ _ (seqW _ _ _ _ (regW _ _ _ _ _ x))) ⟨[.p (.lst false x0.length (encL en_str x0)), .p (.lst false x1.length (encL en_str x1)), .p (.lst false x2.length (encL en_str x2)), iv x3, .junk, .junk, .junk, .junk, .junk, .p (.lst false r21.length (encL en_str r21)), .junk, .junk, .junk, .junk, .junk, .junk, .junk, .junk, .junk, .junk, .junk, .junk, .junk, .junk, .junk, .junk, .junk, .junk, .junk, .junk, .junk, .junk, .junk, .junk, undefD, undefD, .junk, .junk, .junk, .junk, .junk, .junk, .junk, .junk, .junk, .junk, .junk, .junk, .junk, .junk, .junk, .junk, .junk, .junk, .junk, .junk, .junk, .junk, .junk, .junk, .junk, .junk, .junk, .junk, .junk, .junk, .junk, .junk, .junk, .junk, .junk, .junk, .junk, .junk, .junk, .junk, .junk, .junk, .junk, .junk, .junk, .junk, .junk, .junk, .junk, .junk, .junk, .junk, .junk, .junk, .junk, .junk, .junk, .junk, .junk, .junk, .junk, .junk, .junk, .junk, .junk, .junk], [], 0⟩ (by kernel_rfl) ?_
    by_cases h24 : (r21.length : Int) = x3
    ·rw [if_pos h24] at h
     have h24' : decide ((r21.length : Int) = x3) = true := decide_eq_true h24
     obtain rfl := Option.some.inj h
     simp (maxSteps := 10000000) (implicitDefEqProofs := false) (disch := first | assumption | omega | exact rfl | exact im_ _) only [bs, rs9, ls9, Nat.reduceAdd, ↓reduceIte, binD_eql_str, lenD_lst u22, lenD_ref u22, loadD_iptr a9, wks_nil_, h3, h4, h11, h12, h19, h20, h23, ↓h24']
     refine ⟨by first | exact .inl trivial | exact .inr trivial | simp, ?_⟩
     exact finish_is (ds := [.p (.lst false r21.length (encL en_str r21))]) (x := .lst false r21.length (encL en_str r21)) (y := .lst false r21.length (encL en_str r21)) (l := []) rfl rfl rfl rfl (by first | rfl | (simp only [wk, wks, wkL]; first | done | rfl))
    ·rw [if_neg h24] at h
     have h24' : decide ((r21.length : Int) = x3) = false := decide_eq_false h24
     obtain rfl := Option.some.inj h
     simp (maxSteps := 10000000) (implicitDefEqProofs := false) (disch := first | assumption | omega | exact rfl | exact im_ _) only [bs, rs9, ls9, Nat.reduceAdd, ↓reduceIte, binD_eql_str, lenD_lst u22, lenD_ref u22, loadD_iptr a9, wks_nil_, h3, h4, h11, h12, h19, h20, h23, ↓h24']
     refine ⟨by first | exact .inl trivial | exact .inr trivial | simp, ?_⟩
     exact finish_is (ds := [.p (.lst true 0 [])]) (x := .lst true 0 []) (y := .lst false ([] : List ByteArray).length (encL en_str ([] : List ByteArray))) (l := []) rfl rfl rfl rfl (by first | rfl | (simp only [wk, wks, wkL]; first | done | rfl))
   ·rw [if_neg h20] at h
    replace h20 := Bool.eq_false_iff.2 h20
    by_cases h25 : (x1.length : Int) = (x2.length : Int)
    ·rw [if_pos h25] at h
     have h25' : decide ((x1.length : Int) = (x2.length : Int)) = true := decide_eq_true h25
     obtain ⟨o, h55, h⟩ := bsm h
     simp (maxSteps := 10000000) (implicitDefEqProofs := false) (disch := first | assumption | omega | exact rfl | exact im_ _) only [bs, rs9, ls9, Nat.reduceAdd, ↓reduceIte, binD_eql_str, lenD_lst u22, lenD_ref u22, loadD_iptr a9, wks_nil_, h3, h4, h11, h12, h19, h20, ↓h25']
     refine Wp.ctx (fun x => seqW _ _ _ _ (blockW _ (blockW _ (x)))) (L9_0_ok x0 x1 x2 x3 (x1.length : Int) ((0 : Int), ([] : List ByteArray)) _ o (by kernel_rfl) h55) ?_
     intro e st hq
     cases o with
     | next _ => (first | cases h | (simp at h))
     | jmp n_ s_ =>
      obtain ⟨rfl, rfl, hq⟩ := hq
      obtain ⟨s35_56, y0_56⟩ := s_
      unfold F9_0 at hq
      (try simp only [] at h hq)
      by_cases h57 : (y0_56.length : Int) = x3
      ·rw [if_pos h57] at h
       have h57' : decide ((y0_56.length : Int) = x3) = true := decide_eq_true h57
       obtain rfl := Option.some.inj h
       simp (maxSteps := 10000000) (implicitDefEqProofs := false) (disch := first | assumption | omega | exact rfl | exact im_ _) only [bs, rs9, ls9, Nat.reduceAdd, ↓reduceIte, binD_eql_str, lenD_lst u22, lenD_ref u22, loadD_iptr a9, wks_nil_, h3, h4, h11, h12, h19, h20, ↓h25', hq, ↓h57']
       refine ⟨by first | exact .inl trivial | exact .inr trivial | simp, ?_⟩
       exact finish_is (ds := [.ref 0 0 y0_56.length 1]) (x := .lst false y0_56.length (encL en_str y0_56)) (y := .lst false y0_56.length (encL en_str y0_56)) (l := [0]) rfl rfl rfl (purify1_enc en_str_len rfl (by first | rfl | omega)) (by first | rfl | (simp only [wk, wks, wkL]; first | done | rfl))
      ·rw [if_neg h57] at h
       have h57' : decide ((y0_56.length : Int) = x3) = false := decide_eq_false h57
       obtain rfl := Option.some.inj h
       simp (maxSteps := 10000000) (implicitDefEqProofs := false) (disch := first | assumption | omega | exact rfl | exact im_ _) only [bs, rs9, ls9, Nat.reduceAdd, ↓reduceIte, binD_eql_str, lenD_lst u22, lenD_ref u22, loadD_iptr a9, wks_nil_, h3, h4, h11, h12, h19, h20, ↓h25', hq, ↓h57']
       refine ⟨by first | exact .inl trivial | exact .inr trivial | simp, ?_⟩
       exact finish_is (ds := [.p (.lst true 0 [])]) (x := .lst true 0 []) (y := .lst false ([] : List ByteArray).length (encL en_str ([] : List ByteArray))) (l := []) rfl rfl rfl rfl (by first | rfl | (simp only [wk, wks, wkL]; first | done | rfl))
     | ret _ => (first | cases h | (simp at h))
    ·rw [if_neg h25] at h
     have h25' : decide ((x1.length : Int) = (x2.length : Int)) = false := decide_eq_false h25
     by_cases h58 : (x1.length : Int) = x3
     ·rw [if_pos h58] at h
      have h58' : decide ((x1.length : Int) = x3) = true := decide_eq_true h58
      obtain ⟨r59, h60, h⟩ := bsm h
      have h61 : ∀ H, callD (callW Tryd.prog A0) A0 H 23 [.p (.lst false x1.length (encL en_str x1))] = some (.p (.lst false r59.length (encL en_str r59)), none) := fun H => slices_Clone_string_string_call h60
      simp (maxSteps := 10000000) (implicitDefEqProofs := false) (disch := first | assumption | omega | exact rfl | exact im_ _) only [bs, rs9, ls9, Nat.reduceAdd, ↓reduceIte, binD_eql_str, lenD_lst u22, lenD_ref u22, loadD_iptr a9, wks_nil_, h3, h4, h11, h12, h19, h20, ↓h25', ↓h58', h61]
      refine Wp.gh (fun x => seqW _ _ _ _ (seqW _ _ _ _ (regW _ _ _ _ _ x))) ⟨[.p (.lst false x0.length (encL en_str x0)), .p (.lst false x1.length (encL en_str x1)), .p (.lst false x2.length (encL en_str x2)), iv x3, .junk, .junk, .junk, .junk, .junk, .p (.lst false r59.length (encL en_str r59)), .junk, .junk, .junk, .junk, .junk, .junk, .junk, .junk, .junk, .junk, .junk, .junk, .junk, .junk, .junk, .junk, .junk, .junk, .junk, .junk, .junk, .junk, .junk, .junk, undefD, undefD, .junk, .junk, .junk, .junk, .junk, .junk, .junk, .junk, .junk, .junk, .junk, .junk, .junk, .junk, .junk, .junk, .junk, .junk, .junk, .junk, .junk, .junk, .junk, .junk, .junk, .junk, .junk, .junk, .junk, .junk, .junk, .junk, .junk, .junk, .junk, .junk, .junk, .junk, .junk, .junk, .junk, .junk, .junk, .junk, .junk, .junk, .junk, .junk, .junk, .junk, .junk, .junk, .junk, .junk, .junk, .junk, .junk, .junk, .junk, .junk, .junk, .junk, .junk, .junk, .junk, .junk], [], 0⟩ (by kernel_rfl) ?_
      by_cases h62 : (r59.length : Int) = x3
      ·rw [if_pos h62] at h
       have h62' : decide ((r59.length : Int) = x3) = true := decide_eq_true h62
       obtain rfl := Option.some.inj h
       simp (maxSteps := 10000000) (implicitDefEqProofs := false) (disch := first | assumption | omega | exact rfl | exact im_ _) only [bs, rs9, ls9, Nat.reduceAdd, ↓reduceIte, binD_eql_str, lenD_lst u22, lenD_ref u22, loadD_iptr a9, wks_nil_, h3, h4, h11, h12, h19, h20, ↓h25', ↓h58', h61, ↓h62']
       refine ⟨by first | exact .inl trivial | exact .inr trivial | simp, ?_⟩
       exact finish_is (ds := [.p (.lst false r59.length (encL en_str r59))]) (x := .lst false r59.length (encL en_str r59)) (y := .lst false r59.length (encL en_str r59)) (l := []) rfl rfl rfl rfl (by first | rfl | (simp only [wk, wks, wkL]; first | done | rfl))
      ·rw [if_neg h62] at h
       have h62' : decide ((r59.length : Int) = x3) = false := decide_eq_false h62
       obtain rfl := Option.some.inj h
       simp (maxSteps := 10000000) (implicitDefEqProofs := false) (disch := first | assumption | omega | exact rfl | exact im_ _) only [bs, rs9, ls9, Nat.reduceAdd, ↓reduceIte, binD_eql_str, lenD_lst u22, lenD_ref u22, loadD_iptr a9, wks_nil_, h3, h4, h11, h12, h19, h20, ↓h25', ↓h58', h61, ↓h62']
       refine ⟨by first | exact .inl trivial | exact .inr trivial | simp, ?_⟩
       exact finish_is (ds := [.p (.lst true 0 [])]) (x := .lst true 0 []) (y := .lst false ([] : List ByteArray).length (encL en_str ([] : List ByteArray))) (l := []) rfl rfl rfl rfl (by first | rfl | (simp only [wk, wks, wkL]; first | done | rfl))
     ·rw [if_neg h58] at h
      have h58' : decide ((x1.length : Int) = x3) = false := decide_eq_false h58
      by_cases h63 : (x2.length : Int) = x3
      ·rw [if_pos h63] at h
       have h63' : decide ((x2.length : Int) = x3) = true := decide_eq_true h63
       obtain ⟨r64, h65, h⟩ := bsm h
       have h66 : ∀ H, callD (callW Tryd.prog A0) A0 H 23 [.p (.lst false x2.length (encL en_str x2))] = some (.p (.lst false r64.length (encL en_str r64)), none) := fun H => slices_Clone_string_string_call h65
       simp (maxSteps := 10000000) (implicitDefEqProofs := false) (disch := first | assumption | omega | exact rfl | exact im_ _) only [bs, rs9, ls9, Nat.reduceAdd, ↓reduceIte, binD_eql_str, lenD_lst u22, lenD_ref u22, loadD_iptr a9, wks_nil_, h3, h4, h11, h12, h19, h20, ↓h25', ↓h58', ↓h63', h66]
       refine Wp.gh (fun x => seqW _ _ _ _ (seqW _ _ _ _ (regW _ _ _ _ _ x))) ⟨[.p (.lst false x0.length (encL en_str x0)), .p (.lst false x1.length (encL en_str x1)), .p (.lst false x2.length (encL en_str x2)), iv x3, .junk, .junk, .junk, .junk, .junk, .p (.lst false r64.length (encL en_str r64)), .junk, .junk, .junk, .junk, .junk, .junk, .junk, .junk, .junk, .junk, .junk, .junk, .junk, .junk, .junk, .junk, .junk, .junk, .junk, .junk, .junk, .junk, .junk, .junk, undefD, undefD, .junk, .junk, .junk, .junk, .junk, .junk, .junk, .junk, .junk, .junk, .junk, .junk, .junk, .junk, .junk, .junk, .junk, .junk, .junk, .junk, .junk, .junk, .junk, .junk, .junk, .junk, .junk, .junk, .junk, .junk, .junk, .junk, .junk, .junk, .junk, .junk, .junk, .junk, .junk, .junk, .junk, .junk, .junk, .junk, .junk, .junk, .junk, .junk, .junk, .junk, .junk, .junk, .junk, .junk, .junk, .junk, .junk, .junk, .junk, .junk, .junk, .junk, .junk, .junk, .junk, .junk], [], 0⟩ (by kernel_rfl) ?_
       by_cases h67 : (r64.length : Int) = x3
       ·rw [if_pos h67] at h
        have h67' : decide ((r64.length : Int) = x3) = true := decide_eq_true h67
        obtain rfl := Option.some.inj h
        simp (maxSteps := 10000000) (implicitDefEqProofs := false) (disch := first | assumption | omega | exact rfl | exact im_ _) only [bs, rs9, ls9, Nat.reduceAdd, ↓reduceIte, binD_eql_str, lenD_lst u22, lenD_ref u22, loadD_iptr a9, wks_nil_, h3, h4, h11, h12, h19, h20, ↓h25', ↓h58', ↓h63', h66, ↓h67']
        refine ⟨by first | exact .inl trivial | exact .inr trivial | simp, ?_⟩
        exact finish_is (ds := [.p (.lst false r64.length (encL en_str r64))]) (x := .lst false r64.length (encL en_str r64)) (y := .lst false r64.length (encL en_str r64)) (l := []) rfl rfl rfl rfl (by first | rfl | (simp only [wk, wks, wkL]; first | done | rfl))
       ·rw [if_neg h67] at h
        have h67' : decide ((r64.length : Int) = x3) = false := decide_eq_false h67
        obtain rfl := Option.some.inj h
        simp (maxSteps := 10000000) (implicitDefEqProofs := false) (disch := first | assumption | omega | exact rfl | exact im_ _) only [bs, rs9, ls9, Nat.reduceAdd, ↓reduceIte, binD_eql_str, lenD_lst u22, lenD_ref u22, loadD_iptr a9, wks_nil_, h3, h4, h11, h12, h19, h20, ↓h25', ↓h58', ↓h63', h66, ↓h67']
        refine ⟨by first | exact .inl trivial | exact .inr trivial | simp, ?_⟩
        exact finish_is (ds := [.p (.lst true 0 [])]) (x := .lst true 0 []) (y := .lst false ([] : List ByteArray).length (encL en_str ([] : List ByteArray))) (l := []) rfl rfl rfl rfl (by first | rfl | (simp only [wk, wks, wkL]; first | done | rfl))
      ·rw [if_neg h63] at h
       have h63' : decide ((x2.length : Int) = x3) = false := decide_eq_false h63
       simp (maxSteps := 10000000) (implicitDefEqProofs := false) (disch := first | assumption | omega | exact rfl | exact im_ _) only [bs, rs9, ls9, Nat.reduceAdd, ↓reduceIte, binD_eql_str, lenD_lst u22, lenD_ref u22, loadD_iptr a9, wks_nil_, h3, h4, h11, h12, h19, h20, ↓h25', ↓h58', ↓h63']
       refine Wp.gh (fun x => seqW _ _ _ _ (seqW _ _ _ _ (regW _ _ _ _ _ x))) ⟨[.p (.lst false x0.length (encL en_str x0)), .p (.lst false x1.length (encL en_str x1)), .p (.lst false x2.length (encL en_str x2)), iv x3, .junk, .junk, .junk, .junk, .junk, .p (.lst true 0 []), .junk, .junk, .junk, .junk, .junk, .junk, .junk, .junk, .junk, .junk, .junk, .junk, .junk, .junk, .junk, .junk, .junk, .junk, .junk, .junk, .junk, .junk, .junk, .junk, undefD, undefD, .junk, .junk, .junk, .junk, .junk, .junk, .junk, .junk, .junk, .junk, .junk, .junk, .junk, .junk, .junk, .junk, .junk, .junk, .junk, .junk, .junk, .junk, .junk, .junk, .junk, .junk, .junk, .junk, .junk, .junk, .junk, .junk, .junk, .junk, .junk, .junk, .junk, .junk, .junk, .junk, .junk, .junk, .junk, .junk, .junk, .junk, .junk, .junk, .junk, .junk, .junk, .junk, .junk, .junk, .junk, .junk, .junk, .junk, .junk, .junk, .junk, .junk, .junk, .junk, .junk, .junk], [], 0⟩ (by kernel_rfl) ?_
       by_cases h68 : ((0 : Nat) : Int) = x3
       ·rw [if_pos h68] at h
        have h68' : decide (((0 : Nat) : Int) = x3) = true := decide_eq_true h68
        obtain rfl := Option.some.inj h
        simp (maxSteps := 10000000) (implicitDefEqProofs := false) (disch := first | assumption | omega | exact rfl | exact im_ _) only [bs, rs9, ls9, Nat.reduceAdd, ↓reduceIte, binD_eql_str, lenD_lst u22, lenD_ref u22, loadD_iptr a9, wks_nil_, h3, h4, h11, h12, h19, h20, ↓h25', ↓h58', ↓h63', ↓h68']
        refine ⟨by first | exact .inl trivial | exact .inr trivial | simp, ?_⟩
        exact finish_is (ds := [.p (.lst true 0 [])]) (x := .lst true 0 []) (y := .lst false ([] : List ByteArray).length (encL en_str ([] : List ByteArray))) (l := []) rfl rfl rfl rfl (by first | rfl | (simp only [wk, wks, wkL]; first | done | rfl))
       ·rw [if_neg h68] at h
        have h68' : decide (((0 : Nat) : Int) = x3) = false := decide_eq_false h68
        obtain rfl := Option.some.inj h
        simp (maxSteps := 10000000) (implicitDefEqProofs := false) (disch := first | assumption | omega | exact rfl | exact im_ _) only [bs, rs9, ls9, Nat.reduceAdd, ↓reduceIte, binD_eql_str, lenD_lst u22, lenD_ref u22, loadD_iptr a9, wks_nil_, h3, h4, h11, h12, h19, h20, ↓h25', ↓h58', ↓h63', ↓h68']
        refine ⟨by first | exact .inl trivial | exact .inr trivial | simp, ?_⟩
        exact finish_is (ds := [.p (.lst true 0 [])]) (x := .lst true 0 []) (y := .lst false ([] : List ByteArray).length (encL en_str ([] : List ByteArray))) (l := []) rfl rfl rfl rfl (by first | rfl | (simp only [wk, wks, wkL]; first | done | rfl))
theorem layout_Gaps_call {b1 b2 b3 : Bool} {H : List Ob} {x0 : (List ByteArray)} {x1 : (List ByteArray)} {x2 : (List ByteArray)} {x3 : Int} {r : (List ByteArray)} (h : layout_Gaps x0 x1 x2 x3 = some r) : callD (callW Tryd.prog A0) A0 H 9 [.p (.lst b1 x0.length (encL en_str x0)), .p (.lst b2 x1.length (encL en_str x1)), .p (.lst b3 x2.length (encL en_str x2)), iv x3] = some (.p (.lst false r.length (encL en_str r)), none) :=
  callD_fun (args := [.lst b1 x0.length (encL en_str x0), .lst b2 x1.length (encL en_str x1), .lst b3 x2.length (encL en_str x2), .v (.int .i64 x3)]) rfl rfl rfl (by simp only [List.map_cons, List.map_nil, wk, wks, wkL]; exact f9_ok x0 x1 x2 x3 _ h)
def ls8 := @idxL_22
noncomputable def L8_0 : Code := (loopsOf (bodyOf Tryd.f8)).getD 0 .skip
def g8_0 : List Ghost := [.weak [0, 1], .keep [0, 1, 5]]
def F8_0 (s0 : (List ByteArray)) (s1 : (List ByteArray)) : Int → St := fun s5 => ⟨[.p (.lst false s0.length (encL en_str s0)), .p (.lst false s1.length (encL en_str s1)), .junk, .junk, .junk, iv s5, .junk, .junk, .junk, .junk, .junk, .junk, .junk, .junk, .junk, .junk, .junk, .junk, .junk, .junk, .junk, .junk, .junk, .junk, .junk, .junk], [], 0⟩
theorem L8_0_ok (s0 : (List ByteArray)) (s1 : (List ByteArray)) : ∀ s st o, ghostsD g8_0 st = some (F8_0 s0 s1 s) → iter (R03_Strings_L0 s0 s1) s = some o →
    Wp (evW Tryd.prog A0 8 (.loop L8_0) st) (OutQ (F8_0 s0 s1) g8_0 (fun n s st => n = 0 ∧ ghostsD [.keep [0, 1, 5]] st = some (F8_0 s0 s1 s)) (fun r st => finishD Tryd.prog A0 8 Tryd.f8 st = some (.p (.v (.bool r)), [])) o) := by
 refine Wp.iter ?_
 intro s st o hg h
 generalize s = s5 at hg h
 unfold R03_Strings_L0 at h
 unfold g8_0 F8_0 at hg ⊢
 (try simp only [] at h hg)
 unfold L8_0 bodyOf Tryd.f8; simp only [Option.getD_some, loopsOf, List.append_nil, List.nil_append, List.cons_append, List.getD_cons_zero, List.getD_cons_succ]
 by_cases h2 : s5 < (s0.length : Int)
 ·rw [if_pos h2] at h
  have h2' : decide (s5 < (s0.length : Int)) = true := decide_eq_true h2
  obtain ⟨v3, h4, h⟩ := bsm h
  obtain ⟨h4a, h4b, _⟩ := rd_some h4
  have h5 := ce_9_x h4
  obtain ⟨v6, h7, h⟩ := bsm h
  obtain ⟨h7a, h7b, _⟩ := rd_some h7
  have h8 := ce_9_x h7
  by_cases h9 : v3 = v6
  ·rw [if_pos h9] at h
   have h9' : decide (v3 = v6) = true := decide_eq_true h9
   obtain rfl := Option.some.inj h
   simp (maxSteps := 10000000) (implicitDefEqProofs := false) (disch := first | assumption | omega | exact rfl | exact im_ _) only [bs, rs8, ls8, Nat.reduceAdd, ↓reduceIte, binD_neq_str, lenD_lst u22, loadD_iptr a9, hg, ↓h2', h5, h8, ↓h9']
   exact ⟨rfl, by kernel_rfl⟩
  ·rw [if_neg h9] at h
   have h9' : decide (v3 = v6) = false := decide_eq_false h9
   obtain rfl := Option.some.inj h
   simp (maxSteps := 10000000) (implicitDefEqProofs := false) (disch := first | assumption | omega | exact rfl | exact im_ _) only [bs, rs8, ls8, Nat.reduceAdd, ↓reduceIte, binD_neq_str, lenD_lst u22, loadD_iptr a9, hg, ↓h2', h5, h8, ↓h9']
   refine ⟨rfl, ?_⟩
   exact finish_is (ds := [bv false]) (x := .v (.bool false)) (y := .v (.bool false)) (l := []) rfl rfl rfl rfl (by first | rfl | (simp only [wk, wks, wkL]; first | done | rfl))
 ·rw [if_neg h2] at h
  have h2' : decide (s5 < (s0.length : Int)) = false := decide_eq_false h2
  obtain rfl := Option.some.inj h
  simp (maxSteps := 10000000) (implicitDefEqProofs := false) (disch := first | assumption | omega | exact rfl | exact im_ _) only [bs, rs8, ls8, Nat.reduceAdd, ↓reduceIte, binD_neq_str, lenD_lst u22, loadD_iptr a9, hg, ↓h2']
  exact ⟨rfl, rfl, by kernel_rfl⟩
theorem f8_ok  (x0 : (List ByteArray)) (x1 : (List ByteArray)) (r : Bool) (h : R03_Strings x0 x1 = some r) : callW Tryd.prog A0 8 [.p (.lst false x0.length (encL en_str x0)), .p (.lst false x1.length (encL en_str x1))] [] = some (.p (.v (.bool r)), []) := by
 refine call_ofH (fn := Tryd.f8) (c := bodyOf Tryd.f8) rfl rfl (by kernel_rfl) (by kernel_rfl) ?_
 rw [show initS Tryd.f8 [.p (.lst false x0.length (encL en_str x0)), .p (.lst false x1.length (encL en_str x1))] [] = ⟨.p (.lst false x0.length (encL en_str x0)) :: .p (.lst false x1.length (encL en_str x1)) :: List.replicate 24 undefD, [], 0⟩ from by kernel_rfl]
 unfold R03_Strings at h
 unfold bodyOf Tryd.f8; simp only [Option.getD_some, loopsOf, List.append_nil, List.nil_append, List.cons_append, List.getD_cons_zero, List.getD_cons_succ]
 simp only [List.replicate]
 by_cases h1 : (x0.length : Int) = (x1.length : Int)
 ·rw [if_pos h1] at h
  have h1' : decide ((x0.length : Int) = (x1.length : Int)) = true := decide_eq_true h1
  obtain ⟨o, h10, h⟩ := bsm h
  simp (maxSteps := 10000000) (implicitDefEqProofs := false) (disch := first | assumption | omega | exact rfl | exact im_ _) only [bs, rs8, ls8, Nat.reduceAdd, ↓reduceIte, binD_neq_str, lenD_lst u22, loadD_iptr a9, ↓h1']
  refine Wp.ctx (fun x => seqW _ _ _ _ (blockW _ (x))) (L8_0_ok x0 x1 (0 : Int) _ o (by kernel_rfl) h10) ?_
  intro e st hq
  cases o with
  | next _ => (first | cases h | (simp at h))
  | jmp n_ s_ =>
   obtain ⟨rfl, rfl, hq⟩ := hq
   generalize s_ = s5_11 at h hq
   unfold F8_0 at hq
   (try simp only [] at h hq)
   obtain rfl := Option.some.inj h
   simp (maxSteps := 10000000) (implicitDefEqProofs := false) (disch := first | assumption | omega | exact rfl | exact im_ _) only [bs, rs8, ls8, Nat.reduceAdd, ↓reduceIte, binD_neq_str, lenD_lst u22, loadD_iptr a9, ↓h1', hq]
   refine ⟨by first | exact .inl trivial | exact .inr trivial | simp, ?_⟩
   exact finish_is (ds := [bv true]) (x := .v (.bool true)) (y := .v (.bool true)) (l := []) rfl rfl rfl rfl (by first | rfl | (simp only [wk, wks, wkL]; first | done | rfl))
  | ret r12 =>
   obtain ⟨rfl, hq⟩ := hq
   obtain rfl := Option.some.inj h
   simp (maxSteps := 10000000) (implicitDefEqProofs := false) (disch := first | assumption | omega | exact rfl | exact im_ _) only [bs, rs8, ls8, Nat.reduceAdd, ↓reduceIte, binD_neq_str, lenD_lst u22, loadD_iptr a9]
   exact ⟨by first | exact .inl trivial | exact .inr trivial | simp, hq⟩
 ·rw [if_neg h1] at h
  have h1' : decide ((x0.length : Int) = (x1.length : Int)) = false := decide_eq_false h1
  obtain rfl := Option.some.inj h
  simp (maxSteps := 10000000) (implicitDefEqProofs := false) (disch := first | assumption | omega | exact rfl | exact im_ _) only [bs, rs8, ls8, Nat.reduceAdd, ↓reduceIte, binD_neq_str, lenD_lst u22, loadD_iptr a9, ↓h1']
  refine ⟨by first | exact .inl trivial | exact .inr trivial | simp, ?_⟩
  exact finish_is (ds := [bv false]) (x := .v (.bool false)) (y := .v (.bool false)) (l := []) rfl rfl rfl rfl (by first | rfl | (simp only [wk, wks, wkL]; first | done | rfl))
theorem R03_Strings_call {b1 b2 : Bool} {H : List Ob} {x0 : (List ByteArray)} {x1 : (List ByteArray)} {r : Bool} (h : R03_Strings x0 x1 = some r) : callD (callW Tryd.prog A0) A0 H 8 [.p (.lst b1 x0.length (encL en_str x0)), .p (.lst b2 x1.length (encL en_str x1))] = some (.p (.v (.bool r)), none) :=
  callD_fun (args := [.lst b1 x0.length (encL en_str x0), .lst b2 x1.length (encL en_str x1)]) rfl rfl rfl (by simp only [List.map_cons, List.map_nil, wk, wks, wkL]; exact f8_ok x0 x1 _ h)
theorem f12_ok  (x0 : (List ByteArray)) (x1 : (List ByteArray)) (r : Bool) (h : R33_Equal x0 x1 = some r) : callW Tryd.prog A0 12 [.p (.lst false x0.length (encL en_str x0)), .p (.lst false x1.length (encL en_str x1))] [] = some (.p (.v (.bool r)), []) := by
 refine call_ofH (fn := Tryd.f12) (c := bodyOf Tryd.f12) rfl rfl (by kernel_rfl) (by kernel_rfl) ?_
 rw [show initS Tryd.f12 [.p (.lst false x0.length (encL en_str x0)), .p (.lst false x1.length (encL en_str x1))] [] = ⟨.p (.lst false x0.length (encL en_str x0)) :: .p (.lst false x1.length (encL en_str x1)) :: List.replicate 6 undefD, [], 0⟩ from by kernel_rfl]
 unfold R33_Equal at h
 unfold bodyOf Tryd.f12; simp only [Option.getD_some, loopsOf, List.append_nil, List.nil_append, List.cons_append, List.getD_cons_zero, List.getD_cons_succ]
 simp only [List.replicate]
 obtain ⟨r1, h2, h⟩ := bsm h
 have h3 : ∀ H, callD (callW Tryd.prog A0) A0 H 8 [.p (.lst false x0.length (encL en_str x0)), .p (.lst false x1.length (encL en_str x1))] = some (.p (.v (.bool r1)), none) := fun H => R03_Strings_call h2
 obtain rfl := Option.some.inj h
 simp (maxSteps := 10000000) (implicitDefEqProofs := false) (disch := first | assumption | omega | exact rfl | exact im_ _) only [bs, rs12, Nat.reduceAdd, ↓reduceIte, h3]
 refine ⟨by first | exact .inl trivial | exact .inr trivial | simp, ?_⟩
 exact finish_is (ds := [bv r1]) (x := .v (.bool r1)) (y := .v (.bool r1)) (l := []) rfl rfl rfl rfl (by first | rfl | (simp only [wk, wks, wkL]; first | done | rfl))
theorem R33_Equal_call {b1 b2 : Bool} {H : List Ob} {x0 : (List ByteArray)} {x1 : (List ByteArray)} {r : Bool} (h : R33_Equal x0 x1 = some r) : callD (callW Tryd.prog A0) A0 H 12 [.p (.lst b1 x0.length (encL en_str x0)), .p (.lst b2 x1.length (encL en_str x1))] = some (.p (.v (.bool r)), none) :=
  callD_fun (args := [.lst b1 x0.length (encL en_str x0), .lst b2 x1.length (encL en_str x1)]) rfl rfl rfl (by simp only [List.map_cons, List.map_nil, wk, wks, wkL]; exact f12_ok x0 x1 _ h)
theorem f47_ok  (x0 : ByteArray) (x1 : ByteArray) (r : ByteArray) (h : R33_greater x0 x1 = some r) : callW Tryd.prog A0 47 [.p (.v (.string x0)), .p (.v (.string x1))] [] = some (.p (.v (.string r)), []) := by
 refine call_ofH (fn := Tryd.f47) (c := bodyOf Tryd.f47) rfl rfl (by kernel_rfl) (by kernel_rfl) ?_
 rw [show initS Tryd.f47 [.p (.v (.string x0)), .p (.v (.string x1))] [] = ⟨.p (.v (.string x0)) :: .p (.v (.string x1)) :: List.replicate 22 undefD, [], 0⟩ from by kernel_rfl]
 unfold R33_greater at h
 unfold bodyOf Tryd.f47; simp only [Option.getD_some, loopsOf, List.append_nil, List.nil_append, List.cons_append, List.getD_cons_zero, List.getD_cons_succ]
 simp only [List.replicate]
 by_cases h1 : (x1.size : Int) < (x0.size : Int)
 ·rw [if_pos h1] at h
  have h1' : decide ((x1.size : Int) < (x0.size : Int)) = true := decide_eq_true h1
  obtain rfl := Option.some.inj h
  simp (maxSteps := 10000000) (implicitDefEqProofs := false) (disch := first | assumption | omega | exact rfl | exact im_ _) only [bs, rs47, Nat.reduceAdd, ↓reduceIte, binD_gtr_str, lenD_str u9, ↓h1']
  refine ⟨by first | exact .inl trivial | exact .inr trivial | simp, ?_⟩
  exact finish_is (ds := [.p (.v (.string x0))]) (x := .v (.string x0)) (y := .v (.string x0)) (l := []) rfl rfl rfl rfl (by first | rfl | (simp only [wk, wks, wkL]; first | done | rfl))
 ·rw [if_neg h1] at h
  have h1' : decide ((x1.size : Int) < (x0.size : Int)) = false := decide_eq_false h1
  by_cases h2 : (x0.size : Int) = (x1.size : Int)
  ·rw [if_pos h2] at h
   have h2' : decide ((x0.size : Int) = (x1.size : Int)) = true := decide_eq_true h2
   by_cases h3 : (strLt x0 x1 || decide (x0 = x1)) = true
   ·rw [if_pos h3] at h
    obtain rfl := Option.some.inj h
    simp (maxSteps := 10000000) (implicitDefEqProofs := false) (disch := first | assumption | omega | exact rfl | exact im_ _) only [bs, rs47, Nat.reduceAdd, ↓reduceIte, binD_gtr_str, lenD_str u9, ↓h1', ↓h2', h3]
    refine ⟨by first | exact .inl trivial | exact .inr trivial | simp, ?_⟩
    exact finish_is (ds := [.p (.v (.string x1))]) (x := .v (.string x1)) (y := .v (.string x1)) (l := []) rfl rfl rfl rfl (by first | rfl | (simp only [wk, wks, wkL]; first | done | rfl))
   ·rw [if_neg h3] at h
    replace h3 := Bool.eq_false_iff.2 h3
    obtain rfl := Option.some.inj h
    simp (maxSteps := 10000000) (implicitDefEqProofs := false) (disch := first | assumption | omega | exact rfl | exact im_ _) only [bs, rs47, Nat.reduceAdd, ↓reduceIte, binD_gtr_str, lenD_str u9, ↓h1', ↓h2', h3]
    refine ⟨by first | exact .inl trivial | exact .inr trivial | simp, ?_⟩
    exact finish_is (ds := [.p (.v (.string x0))]) (x := .v (.string x0)) (y := .v (.string x0)) (l := []) rfl rfl rfl rfl (by first | rfl | (simp only [wk, wks, wkL]; first | done | rfl))
  ·rw [if_neg h2] at h
   have h2' : decide ((x0.size : Int) = (x1.size : Int)) = false := decide_eq_false h2
   obtain rfl := Option.some.inj h
   simp (maxSteps := 10000000) (implicitDefEqProofs := false) (disch := first | assumption | omega | exact rfl | exact im_ _) only [bs, rs47, Nat.reduceAdd, ↓reduceIte, binD_gtr_str, lenD_str u9, ↓h1', ↓h2']
   refine ⟨by first | exact .inl trivial | exact .inr trivial | simp, ?_⟩
   exact finish_is (ds := [.p (.v (.string x1))]) (x := .v (.string x1)) (y := .v (.string x1)) (l := []) rfl rfl rfl rfl (by first | rfl | (simp only [wk, wks, wkL]; first | done | rfl))
theorem R33_greater_call {H : List Ob} {x0 : ByteArray} {x1 : ByteArray} {r : ByteArray} (h : R33_greater x0 x1 = some r) : callD (callW Tryd.prog A0) A0 H 47 [.p (.v (.string x0)), .p (.v (.string x1))] = some (.p (.v (.string r)), none) :=
  callD_fun (args := [.v (.string x0), .v (.string x1)]) rfl rfl rfl (by simp only [List.map_cons, List.map_nil, wk, wks, wkL]; exact f47_ok x0 x1 _ h)
theorem f46_ok  (x0 : ByteArray) (x1 : ByteArray) (x2 : ByteArray) (r : ByteArray) (h : R33_element x0 x1 x2 = some r) : callW Tryd.prog A0 46 [.p (.v (.string x0)), .p (.v (.string x1)), .p (.v (.string x2))] [] = some (.p (.v (.string r)), []) := by
 refine call_ofH (fn := Tryd.f46) (c := bodyOf Tryd.f46) rfl rfl (by kernel_rfl) (by kernel_rfl) ?_
 rw [show initS Tryd.f46 [.p (.v (.string x0)), .p (.v (.string x1)), .p (.v (.string x2))] [] = ⟨.p (.v (.string x0)) :: .p (.v (.string x1)) :: .p (.v (.string x2)) :: List.replicate 20 undefD, [], 0⟩ from by kernel_rfl]
 unfold R33_element at h
 unfold bodyOf Tryd.f46; simp only [Option.getD_some, loopsOf, List.append_nil, List.nil_append, List.cons_append, List.getD_cons_zero, List.getD_cons_succ]
 simp only [List.replicate]
 by_cases h1 : x1 = x2
 ·rw [if_pos h1] at h
  have h1' : decide (x1 = x2) = true := decide_eq_true h1
  obtain rfl := Option.some.inj h
  simp (maxSteps := 10000000) (implicitDefEqProofs := false) (disch := first | assumption | omega | exact rfl | exact im_ _) only [bs, rs46, Nat.reduceAdd, ↓reduceIte, binD_eql_str, ↓h1']
  refine ⟨by first | exact .inl trivial | exact .inr trivial | simp, ?_⟩
  exact finish_is (ds := [.p (.v (.string x1))]) (x := .v (.string x1)) (y := .v (.string x1)) (l := []) rfl rfl rfl rfl (by first | rfl | (simp only [wk, wks, wkL]; first | done | rfl))
 ·rw [if_neg h1] at h
  have h1' : decide (x1 = x2) = false := decide_eq_false h1
  by_cases h2 : x2 = x0
  ·rw [if_pos h2] at h
   have h2' : decide (x2 = x0) = true := decide_eq_true h2
   obtain rfl := Option.some.inj h
   simp (maxSteps := 10000000) (implicitDefEqProofs := false) (disch := first | assumption | omega | exact rfl | exact im_ _) only [bs, rs46, Nat.reduceAdd, ↓reduceIte, binD_eql_str, ↓h1', ↓h2']
   refine ⟨by first | exact .inl trivial | exact .inr trivial | simp, ?_⟩
   exact finish_is (ds := [.p (.v (.string x1))]) (x := .v (.string x1)) (y := .v (.string x1)) (l := []) rfl rfl rfl rfl (by first | rfl | (simp only [wk, wks, wkL]; first | done | rfl))
  ·rw [if_neg h2] at h
   have h2' : decide (x2 = x0) = false := decide_eq_false h2
   by_cases h3 : x1 = x0
   ·rw [if_pos h3] at h
    have h3' : decide (x1 = x0) = true := decide_eq_true h3
    obtain rfl := Option.some.inj h
    simp (maxSteps := 10000000) (implicitDefEqProofs := false) (disch := first | assumption | omega | exact rfl | exact im_ _) only [bs, rs46, Nat.reduceAdd, ↓reduceIte, binD_eql_str, ↓h1', ↓h2', ↓h3']
    refine ⟨by first | exact .inl trivial | exact .inr trivial | simp, ?_⟩
    exact finish_is (ds := [.p (.v (.string x2))]) (x := .v (.string x2)) (y := .v (.string x2)) (l := []) rfl rfl rfl rfl (by first | rfl | (simp only [wk, wks, wkL]; first | done | rfl))
   ·rw [if_neg h3] at h
    have h3' : decide (x1 = x0) = false := decide_eq_false h3
    obtain ⟨r4, h5, h⟩ := bsm h
    have h6 : ∀ H, callD (callW Tryd.prog A0) A0 H 47 [.p (.v (.string x1)), .p (.v (.string x2))] = some (.p (.v (.string r4)), none) := fun H => R33_greater_call h5
    obtain rfl := Option.some.inj h
    simp (maxSteps := 10000000) (implicitDefEqProofs := false) (disch := first | assumption | omega | exact rfl | exact im_ _) only [bs, rs46, Nat.reduceAdd, ↓reduceIte, binD_eql_str, ↓h1', ↓h2', ↓h3', h6]
    refine ⟨by first | exact .inl trivial | exact .inr trivial | simp, ?_⟩
    exact finish_is (ds := [.p (.v (.string r4))]) (x := .v (.string r4)) (y := .v (.string r4)) (l := []) rfl rfl rfl rfl (by first | rfl | (simp only [wk, wks, wkL]; first | done | rfl))
theorem R33_element_call {H : List Ob} {x0 : ByteArray} {x1 : ByteArray} {x2 : ByteArray} {r : ByteArray} (h : R33_element x0 x1 x2 = some r) : callD (callW Tryd.prog A0) A0 H 46 [.p (.v (.string x0)), .p (.v (.string x1)), .p (.v (.string x2))] = some (.p (.v (.string r)), none) :=
  callD_fun (args := [.v (.string x0), .v (.string x1), .v (.string x2)]) rfl rfl rfl (by simp only [List.map_cons, List.map_nil, wk, wks, wkL]; exact f46_ok x0 x1 x2 _ h)
def ls26 := And.intro @ap_22_22 (And.intro @bs_22_1 (@idxL_22))
noncomputable def L26_0 : Code := (loopsOf (bodyOf Tryd.f26)).getD 0 .skip
def g26_0 : List Ghost := [.own 9 1, .weak [0, 1, 2], .keep [0, 1, 2, 9, 10]]
def F26_0 (s0 : (List ByteArray)) (s1 : (List ByteArray)) (s2 : (List ByteArray)) : (Int × (List ByteArray)) → St := fun (s10, y0) => ⟨[.p (.lst false s0.length (encL en_str s0)), .p (.lst false s1.length (encL en_str s1)), .p (.lst false s2.length (encL en_str s2)), .junk, .junk, .junk, .junk, .junk, .junk, .ref 0 0 y0.length 1, iv s10, .junk, .junk, .junk, .junk, .junk, .junk, .junk, .junk, .junk, .junk, .junk, .junk, .junk, .junk, .junk, .junk, .junk, .junk, .junk, .junk, .junk, .junk, .junk, .junk, .junk, .junk, .junk, .junk, .junk, .junk, .junk, .junk, .junk, .junk, .junk, .junk, .junk, .junk, .junk, .junk, .junk, .junk, .junk, .junk, .junk, .junk, .junk, .junk, .junk, .junk, .junk, .junk, .junk, .junk, .junk, .junk, .junk, .junk, .junk, .junk, .junk, .junk, .junk, .junk], [.arr (encL en_str y0)], 0⟩
theorem L26_0_ok (s0 : (List ByteArray)) (s1 : (List ByteArray)) (s2 : (List ByteArray)) : ∀ s st o, ghostsD g26_0 st = some (F26_0 s0 s1 s2 s) → iter (R33_merged_L0 s0 s1 s2) s = some o →
    Wp (evW Tryd.prog A0 26 (.loop L26_0) st) (OutQ (F26_0 s0 s1 s2) g26_0 (fun n s st => n = 0 ∧ ghostsD [.keep [0, 1, 2, 9, 10]] st = some (F26_0 s0 s1 s2 s)) (fun r st => finishD Tryd.prog A0 26 Tryd.f26 st = some (.p (.lst false r.length (encL en_str r)), [])) o) := by
 refine Wp.iter ?_
 intro s st o hg h
 obtain ⟨s10, y0⟩ := s
 unfold R33_merged_L0 at h
 unfold g26_0 F26_0 at hg ⊢
 (try simp only [] at h hg)
 unfold L26_0 bodyOf Tryd.f26; simp only [Option.getD_some, loopsOf, List.append_nil, List.nil_append, List.cons_append, List.getD_cons_zero, List.getD_cons_succ]
 by_cases h14 : s10 < (s1.length : Int)
 ·rw [if_pos h14] at h
  have h14' : decide (s10 < (s1.length : Int)) = true := decide_eq_true h14
  by_cases h15 : (s0.length : Int) = (s1.length : Int)
  ·rw [if_pos h15] at h
   have h15' : decide ((s0.length : Int) = (s1.length : Int)) = true := decide_eq_true h15
   obtain ⟨v16, h17, h⟩ := bsm h
   obtain ⟨h17a, h17b, _⟩ := rd_some h17
   have h18 := ce_9_x h17
   obtain ⟨v19, h20, h⟩ := bsm h
   obtain ⟨h20a, h20b, _⟩ := rd_some h20
   have h21 := ce_9_x h20
   obtain ⟨v22, h23, h⟩ := bsm h
   obtain ⟨h23a, h23b, _⟩ := rd_some h23
   have h24 := ce_9_x h23
   obtain ⟨r25, h26, h⟩ := bsm h
   have h27 : ∀ H, callD (callW Tryd.prog A0) A0 H 46 [.p (.v (.string v16)), .p (.v (.string v19)), .p (.v (.string v22))] = some (.p (.v (.string r25)), none) := fun H => R33_element_call h26
   by_cases hw_ : (y0.length + 1) * 16 ≤ 140737488355328
   case neg => rw [if_neg hw_] at h; cases h
   rw [if_pos hw_] at h
   have h29 := hw_
   have h28 : ∀ (H : List Ob) (id : Nat), apOb H id 0 y0.length 1 1 1 16 [.v (.string r25)] (some (.arr (encL en_str y0))) = some (.ref H.length 0 (y0 ++ [r25]).length 1, H.set id .dead ++ [.arr (encL en_str (y0 ++ [r25]))]) := fun H id => ap_enc (y := [r25]) en_str_len (by first | rfl | omega) rfl (by first | (simp only [encL_cons, encL_nil, en_str_eq, List.cons_append, List.nil_append]; done) | (simp only [encL_cons, encL_nil, en_str_eq, List.cons_append, List.nil_append]; rfl) | rfl) (by assumption)
   obtain rfl := Option.some.inj h
   simp (maxSteps := 10000000) (implicitDefEqProofs := false) (disch := first | assumption | omega | exact rfl | exact im_ _) only [bs, rs26, ls26, Nat.reduceAdd, ↓reduceIte, lenD_lst u22, loadD_iptr a9, wks_nil_, hg, ↓h14', ↓h15', h18, h21, h24, h27, h28]
   exact ⟨rfl, by kernel_rfl⟩
  ·rw [if_neg h15] at h
   have h15' : decide ((s0.length : Int) = (s1.length : Int)) = false := decide_eq_false h15
   obtain ⟨v30, h31, h⟩ := bsm h
   obtain ⟨h31a, h31b, _⟩ := rd_some h31
   have h32 := ce_9_x h31
   obtain ⟨v33, h34, h⟩ := bsm h
   obtain ⟨h34a, h34b, _⟩ := rd_some h34
   have h35 := ce_9_x h34
   obtain ⟨r36, h37, h⟩ := bsm h
   have h38 : ∀ H, callD (callW Tryd.prog A0) A0 H 47 [.p (.v (.string v30)), .p (.v (.string v33))] = some (.p (.v (.string r36)), none) := fun H => R33_greater_call h37
   by_cases hw_ : (y0.length + 1) * 16 ≤ 140737488355328
   case neg => rw [if_neg hw_] at h; cases h
   rw [if_pos hw_] at h
   have h40 := hw_
   have h39 : ∀ (H : List Ob) (id : Nat), apOb H id 0 y0.length 1 1 1 16 [.v (.string r36)] (some (.arr (encL en_str y0))) = some (.ref H.length 0 (y0 ++ [r36]).length 1, H.set id .dead ++ [.arr (encL en_str (y0 ++ [r36]))]) := fun H id => ap_enc (y := [r36]) en_str_len (by first | rfl | omega) rfl (by first | (simp only [encL_cons, encL_nil, en_str_eq, List.cons_append, List.nil_append]; done) | (simp only [encL_cons, encL_nil, en_str_eq, List.cons_append, List.nil_append]; rfl) | rfl) (by assumption)
   obtain rfl := Option.some.inj h
   simp (maxSteps := 10000000) (implicitDefEqProofs := false) (disch := first | assumption | omega | exact rfl | exact im_ _) only [bs, rs26, ls26, Nat.reduceAdd, ↓reduceIte, lenD_lst u22, loadD_iptr a9, wks_nil_, hg, ↓h14', ↓h15', h32, h35, h38, h39]
   exact ⟨rfl, by kernel_rfl⟩
 ·rw [if_neg h14] at h
  have h14' : decide (s10 < (s1.length : Int)) = false := decide_eq_false h14
  obtain rfl := Option.some.inj h
  simp (maxSteps := 10000000) (implicitDefEqProofs := false) (disch := first | assumption | omega | exact rfl | exact im_ _) only [bs, rs26, ls26, Nat.reduceAdd, ↓reduceIte, lenD_lst u22, loadD_iptr a9, wks_nil_, hg, ↓h14']
  exact ⟨rfl, rfl, by kernel_rfl⟩
theorem f26_ok  (x0 : (List ByteArray)) (x1 : (List ByteArray)) (x2 : (List ByteArray)) (x3 : Int) (r : (List ByteArray)) (h : R33_merged x0 x1 x2 x3 = some r) : callW Tryd.prog A0 26 [.p (.lst false x0.length (encL en_str x0)), .p (.lst false x1.length (encL en_str x1)), .p (.lst false x2.length (encL en_str x2)), iv x3] [] = some (.p (.lst false r.length (encL en_str r)), []) := by
 refine call_ofH (fn := Tryd.f26) (c := bodyOf Tryd.f26) rfl rfl (by kernel_rfl) (by kernel_rfl) ?_
 rw [show initS Tryd.f26 [.p (.lst false x0.length (encL en_str x0)), .p (.lst false x1.length (encL en_str x1)), .p (.lst false x2.length (encL en_str x2)), iv x3] [] = ⟨.p (.lst false x0.length (encL en_str x0)) :: .p (.lst false x1.length (encL en_str x1)) :: .p (.lst false x2.length (encL en_str x2)) :: iv x3 :: List.replicate 71 undefD, [], 0⟩ from by kernel_rfl]
 unfold R33_merged at h
 unfold bodyOf Tryd.f26; simp only [Option.getD_some, loopsOf, List.append_nil, List.nil_append, List.cons_append, List.getD_cons_zero, List.getD_cons_succ]
 simp only [List.replicate]
 obtain ⟨r1, h2, h⟩ := bsm h
 have h3 : ∀ H, callD (callW Tryd.prog A0) A0 H 12 [.p (.lst false x1.length (encL en_str x1)), .p (.lst false x2.length (encL en_str x2))] = some (.p (.v (.bool r1)), none) := fun H => R33_Equal_call h2
 by_cases h4 : r1 = true
 ·rw [if_pos h4] at h
  obtain rfl := Option.some.inj h
  simp (maxSteps := 10000000) (implicitDefEqProofs := false) (disch := first | assumption | omega | exact rfl | exact im_ _) only [bs, rs26, ls26, Nat.reduceAdd, ↓reduceIte, lenD_lst u22, loadD_iptr a9, wks_nil_, h3, h4]
  refine ⟨by first | exact .inl trivial | exact .inr trivial | simp, ?_⟩
  exact finish_is (ds := [.p (.lst false x1.length (encL en_str x1))]) (x := .lst false x1.length (encL en_str x1)) (y := .lst false x1.length (encL en_str x1)) (l := []) rfl rfl rfl rfl (by first | rfl | (simp only [wk, wks, wkL]; first | done | rfl))
 ·rw [if_neg h4] at h
  replace h4 := Bool.eq_false_iff.2 h4
  obtain ⟨r5, h6, h⟩ := bsm h
  have h7 : ∀ H, callD (callW Tryd.prog A0) A0 H 12 [.p (.lst false x2.length (encL en_str x2)), .p (.lst false x0.length (encL en_str x0))] = some (.p (.v (.bool r5)), none) := fun H => R33_Equal_call h6
  by_cases h8 : r5 = true
  ·rw [if_pos h8] at h
   obtain rfl := Option.some.inj h
   simp (maxSteps := 10000000) (implicitDefEqProofs := false) (disch := first | assumption | omega | exact rfl | exact im_ _) only [bs, rs26, ls26, Nat.reduceAdd, ↓reduceIte, lenD_lst u22, loadD_iptr a9, wks_nil_, h3, h4, h7, h8]
   refine ⟨by first | exact .inl trivial | exact .inr trivial | simp, ?_⟩
   exact finish_is (ds := [.p (.lst false x1.length (encL en_str x1))]) (x := .lst false x1.length (encL en_str x1)) (y := .lst false x1.length (encL en_str x1)) (l := []) rfl rfl rfl rfl (by first | rfl | (simp only [wk, wks, wkL]; first | done | rfl))
  ·rw [if_neg h8] at h
   replace h8 := Bool.eq_false_iff.2 h8
   obtain ⟨r9, h10, h⟩ := bsm h
   have h11 : ∀ H, callD (callW Tryd.prog A0) A0 H 12 [.p (.lst false x1.length (encL en_str x1)), .p (.lst false x0.length (encL en_str x0))] = some (.p (.v (.bool r9)), none) := fun H => R33_Equal_call h10
   by_cases h12 : r9 = true
   ·rw [if_pos h12] at h
    obtain rfl := Option.some.inj h
    simp (maxSteps := 10000000) (implicitDefEqProofs := false) (disch := first | assumption | omega | exact rfl | exact im_ _) only [bs, rs26, ls26, Nat.reduceAdd, ↓reduceIte, lenD_lst u22, loadD_iptr a9, wks_nil_, h3, h4, h7, h8, h11, h12]
    refine ⟨by first | exact .inl trivial | exact .inr trivial | simp, ?_⟩
    exact finish_is (ds := [.p (.lst false x2.length (encL en_str x2))]) (x := .lst false x2.length (encL en_str x2)) (y := .lst false x2.length (encL en_str x2)) (l := []) rfl rfl rfl rfl (by first | rfl | (simp only [wk, wks, wkL]; first | done | rfl))
   ·rw [if_neg h12] at h
    replace h12 := Bool.eq_false_iff.2 h12
    by_cases h13 : (x1.length : Int) = (x2.length : Int)
    ·rw [if_pos h13] at h
     have h13' : decide ((x1.length : Int) = (x2.length : Int)) = true := decide_eq_true h13
     obtain ⟨o, h41, h⟩ := bsm h
     simp (maxSteps := 10000000) (implicitDefEqProofs := false) (disch := first | assumption | omega | exact rfl | exact im_ _) only [bs, rs26, ls26, Nat.reduceAdd, ↓reduceIte, lenD_lst u22, loadD_iptr a9, wks_nil_, h3, h4, h7, h8, h11, h12, ↓h13']
     refine Wp.ctx (fun x => seqW _ _ _ _ (blockW _ (x))) (L26_0_ok x0 x1 x2 ((0 : Int), ([] : List ByteArray)) _ o (by kernel_rfl) h41) ?_
     intro e st hq
     cases o with
     | next _ => (first | cases h | (simp at h))
     | jmp n_ s_ =>
      obtain ⟨rfl, rfl, hq⟩ := hq
      obtain ⟨s10_42, y0_42⟩ := s_
      unfold F26_0 at hq
      (try simp only [] at h hq)
      obtain rfl := Option.some.inj h
      simp (maxSteps := 10000000) (implicitDefEqProofs := false) (disch := first | assumption | omega | exact rfl | exact im_ _) only [bs, rs26, ls26, Nat.reduceAdd, ↓reduceIte, lenD_lst u22, loadD_iptr a9, wks_nil_, h3, h4, h7, h8, h11, h12, ↓h13', hq]
      refine ⟨by first | exact .inl trivial | exact .inr trivial | simp, ?_⟩
      exact finish_is (ds := [.ref 0 0 y0_42.length 1]) (x := .lst false y0_42.length (encL en_str y0_42)) (y := .lst false y0_42.length (encL en_str y0_42)) (l := [0]) rfl rfl rfl (purify1_enc en_str_len rfl (by first | rfl | omega)) (by first | rfl | (simp only [wk, wks, wkL]; first | done | rfl))
     | ret _ => (first | cases h | (simp at h))
    ·rw [if_neg h13] at h
     have h13' : decide ((x1.length : Int) = (x2.length : Int)) = false := decide_eq_false h13
     by_cases h43 : (x1.length : Int) = x3
     ·rw [if_pos h43] at h
      have h43' : decide ((x1.length : Int) = x3) = true := decide_eq_true h43
      obtain rfl := Option.some.inj h
      simp (maxSteps := 10000000) (implicitDefEqProofs := false) (disch := first | assumption | omega | exact rfl | exact im_ _) only [bs, rs26, ls26, Nat.reduceAdd, ↓reduceIte, lenD_lst u22, loadD_iptr a9, wks_nil_, h3, h4, h7, h8, h11, h12, ↓h13', ↓h43']
      refine ⟨by first | exact .inl trivial | exact .inr trivial | simp, ?_⟩
      exact finish_is (ds := [.p (.lst false x1.length (encL en_str x1))]) (x := .lst false x1.length (encL en_str x1)) (y := .lst false x1.length (encL en_str x1)) (l := []) rfl rfl rfl rfl (by first | rfl | (simp only [wk, wks, wkL]; first | done | rfl))
     ·rw [if_neg h43] at h
      have h43' : decide ((x1.length : Int) = x3) = false := decide_eq_false h43
      obtain rfl := Option.some.inj h
      simp (maxSteps := 10000000) (implicitDefEqProofs := false) (disch := first | assumption | omega | exact rfl | exact im_ _) only [bs, rs26, ls26, Nat.reduceAdd, ↓reduceIte, lenD_lst u22, loadD_iptr a9, wks_nil_, h3, h4, h7, h8, h11, h12, ↓h13', ↓h43']
      refine ⟨by first | exact .inl trivial | exact .inr trivial | simp, ?_⟩
      exact finish_is (ds := [.p (.lst false x2.length (encL en_str x2))]) (x := .lst false x2.length (encL en_str x2)) (y := .lst false x2.length (encL en_str x2)) (l := []) rfl rfl rfl rfl (by first | rfl | (simp only [wk, wks, wkL]; first | done | rfl))
theorem R33_merged_call {b1 b2 b3 : Bool} {H : List Ob} {x0 : (List ByteArray)} {x1 : (List ByteArray)} {x2 : (List ByteArray)} {x3 : Int} {r : (List ByteArray)} (h : R33_merged x0 x1 x2 x3 = some r) : callD (callW Tryd.prog A0) A0 H 26 [.p (.lst b1 x0.length (encL en_str x0)), .p (.lst b2 x1.length (encL en_str x1)), .p (.lst b3 x2.length (encL en_str x2)), iv x3] = some (.p (.lst false r.length (encL en_str r)), none) :=
  callD_fun (args := [.lst b1 x0.length (encL en_str x0), .lst b2 x1.length (encL en_str x1), .lst b3 x2.length (encL en_str x2), .v (.int .i64 x3)]) rfl rfl rfl (by simp only [List.map_cons, List.map_nil, wk, wks, wkL]; exact f26_ok x0 x1 x2 x3 _ h)
theorem f10_ok  (x0 : (List ByteArray)) (x1 : (List ByteArray)) (x2 : (List ByteArray)) (x3 : Int) (r : (List ByteArray)) (h : R33_Gaps x0 x1 x2 x3 = some r) : callW Tryd.prog A0 10 [.p (.lst false x0.length (encL en_str x0)), .p (.lst false x1.length (encL en_str x1)), .p (.lst false x2.length (encL en_str x2)), iv x3] [] = some (.p (.lst false r.length (encL en_str r)), []) := by
 refine call_ofH (fn := Tryd.f10) (c := bodyOf Tryd.f10) rfl rfl (by kernel_rfl) (by kernel_rfl) ?_
 rw [show initS Tryd.f10 [.p (.lst false x0.length (encL en_str x0)), .p (.lst false x1.length (encL en_str x1)), .p (.lst false x2.length (encL en_str x2)), iv x3] [] = ⟨.p (.lst false x0.length (encL en_str x0)) :: .p (.lst false x1.length (encL en_str x1)) :: .p (.lst false x2.length (encL en_str x2)) :: iv x3 :: List.replicate 16 undefD, [], 0⟩ from by kernel_rfl]
 unfold R33_Gaps at h
 unfold bodyOf Tryd.f10; simp only [Option.getD_some, loopsOf, List.append_nil, List.nil_append, List.cons_append, List.getD_cons_zero, List.getD_cons_succ]
 simp only [List.replicate]
 obtain ⟨r1, h2, h⟩ := bsm h
 have h3 : ∀ H, callD (callW Tryd.prog A0) A0 H 26 [.p (.lst false x0.length (encL en_str x0)), .p (.lst false x1.length (encL en_str x1)), .p (.lst false x2.length (encL en_str x2)), iv x3] = some (.p (.lst false r1.length (encL en_str r1)), none) := fun H => R33_merged_call h2
 by_cases h4 : (r1.length : Int) = x3
 ·rw [if_pos h4] at h
  have h4' : decide ((r1.length : Int) = x3) = true := decide_eq_true h4
  obtain rfl := Option.some.inj h
  simp (maxSteps := 10000000) (implicitDefEqProofs := false) (disch := first | assumption | omega | exact rfl | exact im_ _) only [bs, rs10, Nat.reduceAdd, ↓reduceIte, lenD_lst u22, h3, ↓h4']
  refine ⟨by first | exact .inl trivial | exact .inr trivial | simp, ?_⟩
  exact finish_is (ds := [.p (.lst false r1.length (encL en_str r1))]) (x := .lst false r1.length (encL en_str r1)) (y := .lst false r1.length (encL en_str r1)) (l := []) rfl rfl rfl rfl (by first | rfl | (simp only [wk, wks, wkL]; first | done | rfl))
 ·rw [if_neg h4] at h
  have h4' : decide ((r1.length : Int) = x3) = false := decide_eq_false h4
  obtain rfl := Option.some.inj h
  simp (maxSteps := 10000000) (implicitDefEqProofs := false) (disch := first | assumption | omega | exact rfl | exact im_ _) only [bs, rs10, Nat.reduceAdd, ↓reduceIte, lenD_lst u22, h3, ↓h4']
  refine ⟨by first | exact .inl trivial | exact .inr trivial | simp, ?_⟩
  exact finish_is (ds := [.p (.lst true 0 [])]) (x := .lst true 0 []) (y := .lst false ([] : List ByteArray).length (encL en_str ([] : List ByteArray))) (l := []) rfl rfl rfl rfl (by first | rfl | (simp only [wk, wks, wkL]; first | done | rfl))
theorem R33_Gaps_call {b1 b2 b3 : Bool} {H : List Ob} {x0 : (List ByteArray)} {x1 : (List ByteArray)} {x2 : (List ByteArray)} {x3 : Int} {r : (List ByteArray)} (h : R33_Gaps x0 x1 x2 x3 = some r) : callD (callW Tryd.prog A0) A0 H 10 [.p (.lst b1 x0.length (encL en_str x0)), .p (.lst b2 x1.length (encL en_str x1)), .p (.lst b3 x2.length (encL en_str x2)), iv x3] = some (.p (.lst false r.length (encL en_str r)), none) :=
  callD_fun (args := [.lst b1 x0.length (encL en_str x0), .lst b2 x1.length (encL en_str x1), .lst b3 x2.length (encL en_str x2), .v (.int .i64 x3)]) rfl rfl rfl (by simp only [List.map_cons, List.map_nil, wk, wks, wkL]; exact f10_ok x0 x1 x2 x3 _ h)
theorem f13_run : callN Tryd.prog A0 200 13 [] [] = some (.p (.v (.bool true)), []) := by kernel_rfl
theorem f13_ok (r : Bool) (h : law33_awake = some r) : callW Tryd.prog A0 13 [] [] = some (.p (.v (.bool r)), []) := by
  cases h; exact callW_some.2 ⟨200, f13_run⟩
theorem law33_awake_call {H : List Ob} {r : Bool} (h : law33_awake  = some r) : callD (callW Tryd.prog A0) A0 H 13 [] = some (.p (.v (.bool r)), none) :=
  callD_fun (args := []) rfl rfl rfl (by simp only [List.map_cons, List.map_nil, wk, wks, wkL]; exact f13_ok  _ h)
theorem f3_ok  (x0 : (List ByteArray)) (x1 : (List ByteArray)) (x2 : (List ByteArray)) (x3 : Int) (r : Bool) (h : law33_LayoutMerges x0 x1 x2 x3 = some r) : callW Tryd.prog A0 3 [.p (.lst false x0.length (encL en_str x0)), .p (.lst false x1.length (encL en_str x1)), .p (.lst false x2.length (encL en_str x2)), iv x3] [] = some (.p (.v (.bool r)), []) := by
 refine call_ofH (fn := Tryd.f3) (c := bodyOf Tryd.f3) rfl rfl (by kernel_rfl) (by kernel_rfl) ?_
 rw [show initS Tryd.f3 [.p (.lst false x0.length (encL en_str x0)), .p (.lst false x1.length (encL en_str x1)), .p (.lst false x2.length (encL en_str x2)), iv x3] [] = ⟨.p (.lst false x0.length (encL en_str x0)) :: .p (.lst false x1.length (encL en_str x1)) :: .p (.lst false x2.length (encL en_str x2)) :: iv x3 :: List.replicate 28 undefD, [], 0⟩ from by kernel_rfl]
 unfold law33_LayoutMerges at h
 unfold bodyOf Tryd.f3; simp only [Option.getD_some, loopsOf, List.append_nil, List.nil_append, List.cons_append, List.getD_cons_zero, List.getD_cons_succ]
 simp only [List.replicate]
 obtain ⟨r1, h2, h⟩ := bsm h
 have h3 : ∀ H, callD (callW Tryd.prog A0) A0 H 9 [.p (.lst false x0.length (encL en_str x0)), .p (.lst false x1.length (encL en_str x1)), .p (.lst false x2.length (encL en_str x2)), iv x3] = some (.p (.lst false r1.length (encL en_str r1)), none) := fun H => layout_Gaps_call h2
 obtain ⟨r4, h5, h⟩ := bsm h
 have h6 : ∀ H, callD (callW Tryd.prog A0) A0 H 10 [.p (.lst false x0.length (encL en_str x0)), .p (.lst false x1.length (encL en_str x1)), .p (.lst false x2.length (encL en_str x2)), iv x3] = some (.p (.lst false r4.length (encL en_str r4)), none) := fun H => R33_Gaps_call h5
 obtain ⟨r7, h8, h⟩ := bsm h
 have h9 : ∀ H, callD (callW Tryd.prog A0) A0 H 8 [.p (.lst false r1.length (encL en_str r1)), .p (.lst false r4.length (encL en_str r4))] = some (.p (.v (.bool r7)), none) := fun H => R03_Strings_call h8
 by_cases h10 : r7 = true
 ·rw [if_pos h10] at h
  obtain ⟨r11, h12, h⟩ := bsm h
  have h13 : ∀ H, callD (callW Tryd.prog A0) A0 H 11 [.p (.lst false x1.length (encL en_str x1)), .p (.lst false x2.length (encL en_str x2))] = some (.p (.v (.bool r11)), none) := fun H => layout_Equal_call h12
  obtain ⟨r14, h15, h⟩ := bsm h
  have h16 : ∀ H, callD (callW Tryd.prog A0) A0 H 12 [.p (.lst false x1.length (encL en_str x1)), .p (.lst false x2.length (encL en_str x2))] = some (.p (.v (.bool r14)), none) := fun H => R33_Equal_call h15
  by_cases h17 : r11 = r14
  ·rw [if_pos h17] at h
   have h17' : decide (r11 = r14) = true := decide_eq_true h17
   obtain ⟨r18, h19, h⟩ := bsm h
   have h20 : ∀ H, callD (callW Tryd.prog A0) A0 H 13 [] = some (.p (.v (.bool r18)), none) := fun H => law33_awake_call h19
   obtain rfl := Option.some.inj h
   simp (maxSteps := 10000000) (implicitDefEqProofs := false) (disch := first | assumption | omega | exact rfl | exact im_ _) only [bs, rs3, Nat.reduceAdd, ↓reduceIte, binD_eql_bool Tryd.underlying4, h3, h6, h9, h10, h13, h16, ↓h17', h20]
   refine ⟨by first | exact .inl trivial | exact .inr trivial | simp, ?_⟩
   exact finish_is (ds := [bv r18]) (x := .v (.bool r18)) (y := .v (.bool r18)) (l := []) rfl rfl rfl rfl (by first | rfl | (simp only [wk, wks, wkL]; first | done | rfl))
  ·rw [if_neg h17] at h
   have h17' : decide (r11 = r14) = false := decide_eq_false h17
   obtain rfl := Option.some.inj h
   simp (maxSteps := 10000000) (implicitDefEqProofs := false) (disch := first | assumption | omega | exact rfl | exact im_ _) only [bs, rs3, Nat.reduceAdd, ↓reduceIte, binD_eql_bool Tryd.underlying4, h3, h6, h9, h10, h13, h16, ↓h17']
   refine ⟨by first | exact .inl trivial | exact .inr trivial | simp, ?_⟩
   exact finish_is (ds := [bv false]) (x := .v (.bool false)) (y := .v (.bool false)) (l := []) rfl rfl rfl rfl (by first | rfl | (simp only [wk, wks, wkL]; first | done | rfl))
 ·rw [if_neg h10] at h
  replace h10 := Bool.eq_false_iff.2 h10
  obtain rfl := Option.some.inj h
  simp (maxSteps := 10000000) (implicitDefEqProofs := false) (disch := first | assumption | omega | exact rfl | exact im_ _) only [bs, rs3, Nat.reduceAdd, ↓reduceIte, binD_eql_bool Tryd.underlying4, h3, h6, h9, h10]
  refine ⟨by first | exact .inl trivial | exact .inr trivial | simp, ?_⟩
  exact finish_is (ds := [bv false]) (x := .v (.bool false)) (y := .v (.bool false)) (l := []) rfl rfl rfl rfl (by first | rfl | (simp only [wk, wks, wkL]; first | done | rfl))
end Xl

