/- A part of the proof: P1. No conditions of its own. -/
import Derived.Test.YtdknlgpdjmjlnaaGreatDoorP0
namespace Xr
open Go Go.Ev Go.Proofs
set_option linter.unusedSimpArgs false
set_option linter.unusedVariables false
set_option linter.defProp false
set_option maxRecDepth 8000
set_option maxHeartbeats 40000000
def ls7 := And.intro @al_41 (And.intro @ce_41__0 (And.intro @ce_51__1 (And.intro @faI_41_0 (And.intro @faI_51_1 (And.intro @faP_25_0 (And.intro @faP_41_0 (And.intro @faP_41_1 (And.intro @idxL_26 (And.intro @idxL_43 (And.intro @lk_frz_41 (And.intro @sa_2_0_2 (And.intro @shi_26 (And.intro @varld_2_0_0 (And.intro @varld_2_0_1 (And.intro @varld_4_0_0 (@varlv_4_0_4))))))))))))))))
theorem c25_0 {H : List Ob} {a1 : Bool} {a2 : List Pair} {a3 : Int} {r : Bool} (h : R24_hasNew a2 a3 = some r) : callD (callW Tryz.prog A0) A0 H 25 [.p (.lst a1 a2.length (encL en_Pair a2)), iv a3] = some (.p (.v (.bool r)), none) :=
 callD_fun (args := [.lst a1 a2.length (encL en_Pair a2), .v (.int .i64 a3)]) rfl rfl rfl (by simp only [List.map_cons, List.map_nil, wk, wks, wkL]; exact f25_ok a2 a3 _ h)
noncomputable def L7_0 : Code := (loopsOf (bodyOf Tryz.f7)).getD 0 .skip
def g7_0 : List Ghost := [.weak [2, 7, 8], .keep [2, 3, 4, 7, 8, 9]]
noncomputable def F7_0 (s2 : (List Pair)) (s7 : (List Row)) (s8 : (List Row)) (w0_0 : Int) (w0_1 : ByteArray) (w0_2 : (List ByteArray)) (w0_3 : (List Node)) (w1_0 : Int) (w1_1 : ByteArray) (w1_2 : (List ByteArray)) (w1_3 : (List Node)) : Int → St := fun s9 => ⟨[J, J, .p (.lst false s2.length (encL en_Pair s2)), .ptr 0 0, .ptr 1 0, J, J, .p (.lst false s7.length (encL en_Row s7)), .p (.lst false s8.length (encL en_Row s8)), iv s9, J, J, J, J, J, J, J, J, J, J, J, J, J, J, J, J, J, J, J, J, J, J, J, J, J, J, J, J, J, J, J, J, J, J, J, J, J, J, J, J, J, J, J, J, J, J, J, J, J, J, J, J, J, J, J, J, J, J, J, J, J, J, J, J, J, J, J, J, J, J, J, J, J, J, J, J, J, J, J, J, J, J, J, J, J, J, J, J, J, J, J, J, J, J, J, J, J, J, J], [.var [iv w0_0, .p (.v (.string w0_1)), .p (.lst false w0_2.length (encL en_str w0_2)), .p (.lst false w0_3.length (encL en_Node w0_3))], .var [iv w1_0, .p (.v (.string w1_1)), .p (.lst false w1_2.length (encL en_str w1_2)), .p (.lst false w1_3.length (encL en_Node w1_3))]], 0⟩
theorem L7_0_ok (s2 : (List Pair)) (s7 : (List Row)) (s8 : (List Row)) (w0_0 : Int) (w0_1 : ByteArray) (w0_2 : (List ByteArray)) (w0_3 : (List Node)) (w1_0 : Int) (w1_1 : ByteArray) (w1_2 : (List ByteArray)) (w1_3 : (List Node)) : ∀ s st o, ghostsD g7_0 st = some (F7_0 s2 s7 s8 w0_0 w0_1 w0_2 w0_3 w1_0 w1_1 w1_2 w1_3 s) → iter (R24_Check_L0 s2 s7 s8 w0_0 w0_1 w0_2 w0_3 w1_0 w1_1 w1_2 w1_3) s = some o →
    Wp (evW Tryz.prog A0 7 (.loop L7_0) st) (OutQ (F7_0 s2 s7 s8 w0_0 w0_1 w0_2 w0_3 w1_0 w1_1 w1_2 w1_3) g7_0 (fun n s st => n = 0 ∧ ghostsD [.keep [2, 3, 4, 7, 8, 9]] st = some (F7_0 s2 s7 s8 w0_0 w0_1 w0_2 w0_3 w1_0 w1_1 w1_2 w1_3 s)) (fun r st => finishD Tryz.prog A0 7 Tryz.f7 st = some (.p (.v (.int .i64 r)), [])) o) := by
 refine Wp.iter ?_
 intro s st o hg h
 generalize s = s9 at hg h
 unfold R24_Check_L0 at h; unfold g7_0 F7_0 at hg ⊢
 (try simp only [] at h hg)
 unfold L7_0 bodyOf Tryz.f7; simp only [loopsOf, ens]
 revert h
 repeat' first | (with_reducible refine gR fun _ _ _ _ => ?_) | (with_reducible refine gB fun _ _ => ?_) | (with_reducible refine gW fun _ => ?_) | (with_reducible refine gT (fun _ _ => ?_) (fun _ _ => ?_)) | (with_reducible refine gI (fun _ _ => ?_) (fun _ _ => ?_))
 all_goals
  intro h; obtain rfl := Option.some.inj h
  first | (simp (maxSteps := 10000000) (implicitDefEqProofs := false) (disch := first | with_reducible assumption | exact rfl | exact im_ _ | (fail_if_success show Kn _ _); omega) only [bs, rs7, ls7, Nat.reduceAdd, ↓reduceIte, binD_neq_bool Tryz.underlying4, c24_0, c25_0, lenD_lst u26, lenD_lst u43, loadD_iagg a41 z41, loadD_iptr a3, loadD_pagg a25 z25, loadD_ptr a3, storeD_agg z41, hg]; first | (refine ⟨(rfl : Ex.ret = Ex.ret), ?_⟩; exact fin_sc rfl rfl rfl rfl) | (exact ⟨(rfl : Ex.normal = Ex.normal), by kernel_rfl⟩) | (exact ⟨(rfl : Ex.exit 0 = Ex.exit 0), rfl, by kernel_rfl⟩)) | (exfalso; omega)
theorem f7_ok  (x0 : Node) (x1 : Node) (x2 : (List Pair)) (r : Int) (h : R24_Check x0 x1 x2 = some r) : callW Tryz.prog A0 7 [.p (.agg (pv_Node x0)), .p (.agg (pv_Node x1)), .p (.lst false x2.length (encL en_Pair x2))] [] = some (.p (.v (.int .i64 r)), []) := by
 refine call_ofI (fn := Tryz.f7) (c := bodyOf Tryz.f7) 106 rfl rfl (by kernel_rfl) (by kernel_rfl) (by kernel_rfl) ?_
 unfold R24_Check at h; unfold bodyOf Tryz.f7; simp only [ens]
 revert h
 refine gB fun r1 h2 => ?_
 refine gB fun r4 h5 => ?_
 refine gB fun o h46 => ?_
 intro h
 simp (maxSteps := 10000000) (implicitDefEqProofs := false) (disch := first | with_reducible assumption | exact rfl | exact im_ _ | (fail_if_success show Kn _ _); omega) only [bs, rs7, ls7, Nat.reduceAdd, ↓reduceIte, binD_neq_bool Tryz.underlying4, c24_0, c25_0, lenD_lst u26, lenD_lst u43, loadD_iagg a41 z41, loadD_iptr a3, loadD_pagg a25 z25, loadD_ptr a3, storeD_agg z41]
 refine Wp.ctx (fun x => seqW _ _ _ _ (blockW _ (x))) (L7_0_ok x2 r1 r4 x0.Kind x0.Text x0.Gaps x0.Kids x1.Kind x1.Text x1.Gaps x1.Kids (0 : Int) _ o (by kernel_rfl) h46) ?_
 intro e st hq
 cases o with
 | next _ => (first | cases h | (simp at h))
 | jmp n_ s_ =>
  obtain ⟨rfl, rfl, hq⟩ := hq
  generalize s_ = s9_47 at h hq
  unfold F7_0 at hq
  (try simp only [] at h hq)
  revert h
  repeat' first | (with_reducible refine gR fun _ _ _ _ => ?_) | (with_reducible refine gI (fun _ _ => ?_) (fun _ _ => ?_))
  all_goals
   intro h; obtain rfl := Option.some.inj h
   first | (simp (maxSteps := 10000000) (implicitDefEqProofs := false) (disch := first | with_reducible assumption | exact rfl | exact im_ _ | (fail_if_success show Kn _ _); omega) only [bs, rs7, ls7, Nat.reduceAdd, ↓reduceIte, binD_neq_bool Tryz.underlying4, c24_0, c25_0, lenD_lst u26, lenD_lst u43, loadD_iagg a41 z41, loadD_iptr a3, loadD_pagg a25 z25, loadD_ptr a3, storeD_agg z41, hq]; refine ⟨by simp, ?_⟩; exact fin_sc rfl rfl rfl rfl) | (exfalso; omega)
 | ret r54 =>
  obtain ⟨rfl, hq⟩ := hq
  obtain rfl := Option.some.inj h
  simp (maxSteps := 10000000) (implicitDefEqProofs := false) (disch := first | with_reducible assumption | exact rfl | exact im_ _ | (fail_if_success show Kn _ _); omega) only [bs, rs7, ls7, Nat.reduceAdd, ↓reduceIte, binD_neq_bool Tryz.underlying4, c24_0, c25_0, lenD_lst u26, lenD_lst u43, loadD_iagg a41 z41, loadD_iptr a3, loadD_pagg a25 z25, loadD_ptr a3, storeD_agg z41]
  exact ⟨by simp, hq⟩
def ls8 := And.intro @faP_25_0 (And.intro @faP_25_1 (And.intro @faP_25_3 (And.intro @idxL_23 (And.intro @lk_frz_25 (And.intro @varld_4_0_0 (And.intro @varld_4_0_1 (@varld_4_0_3)))))))
theorem c7_0 {H : List Ob} {a1 a2 : Node} {a3 : Bool} {a4 : List Pair} {r : Int} (h : R24_Check a1 a2 a4 = some r) : callD (callW Tryz.prog A0) A0 H 7 [.p (.agg (pv_Node a1)), .p (.agg (pv_Node a2)), .p (.lst a3 a4.length (encL en_Pair a4))] = some (.p (.v (.int .i64 r)), none) :=
 callD_fun (args := [.agg (pv_Node a1), .agg (pv_Node a2), .lst a3 a4.length (encL en_Pair a4)]) rfl rfl rfl (by simp only [List.map_cons, List.map_nil, wk, wks, wkL]; exact f7_ok a1 a2 a4 _ h)
theorem c8r_0 {rec : Node → Node → Option Bool} (hrec : ∀ x0 x1 r, rec x0 x1 = some r → callW Tryz.prog A0 8 [.p (.agg (pv_Node x0)), .p (.agg (pv_Node x1))] [] = some (.p (.v (.bool r)), [])) {H : List Ob} {a1 a2 : Node} {r : Bool} (h : rec a1 a2 = some r) : callD (callW Tryz.prog A0) A0 H 8 [.p (.agg (pv_Node a1)), .p (.agg (pv_Node a2))] = some (.p (.v (.bool r)), none) :=
 callD_fun (args := [.agg (pv_Node a1), .agg (pv_Node a2)]) rfl rfl rfl (by simp only [List.map_cons, List.map_nil, wk, wks, wkL]; exact hrec a1 a2 _ h)
noncomputable def L8_0 : Code := (loopsOf (bodyOf Tryz.f8)).getD 0 .skip
def g8_0 : List Ghost := [.keep [2, 3, 5]]
noncomputable def F8_0 (w0_0 : Int) (w0_1 : ByteArray) (w0_2 : (List ByteArray)) (w0_3 : (List Node)) (w1_0 : Int) (w1_1 : ByteArray) (w1_2 : (List ByteArray)) (w1_3 : (List Node)) : Int → St := fun s5 => ⟨[J, J, .ptr 0 0, .ptr 1 0, J, iv s5, J, J, J, J, J, J, J, J, J, J, J, J, J, J, J, J, J, J, J, J, J, J, J, J, J, J, J, J, J, J, J, J, J, J, J, J, J, J, J, J], [.var [iv w0_0, .p (.v (.string w0_1)), .p (.lst false w0_2.length (encL en_str w0_2)), .p (.lst false w0_3.length (encL en_Node w0_3))], .var [iv w1_0, .p (.v (.string w1_1)), .p (.lst false w1_2.length (encL en_str w1_2)), .p (.lst false w1_3.length (encL en_Node w1_3))]], 0⟩
theorem L8_0_ok {rec : Node → Node → Option Bool} (hrec : ∀ x0 x1 r, rec x0 x1 = some r → callW Tryz.prog A0 8 [.p (.agg (pv_Node x0)), .p (.agg (pv_Node x1))] [] = some (.p (.v (.bool r)), [])) (w0_0 : Int) (w0_1 : ByteArray) (w0_2 : (List ByteArray)) (w0_3 : (List Node)) (w1_0 : Int) (w1_1 : ByteArray) (w1_2 : (List ByteArray)) (w1_3 : (List Node)) : ∀ s st o, ghostsD g8_0 st = some (F8_0 w0_0 w0_1 w0_2 w0_3 w1_0 w1_1 w1_2 w1_3 s) → iter (R06_Same_L0 rec w0_0 w0_1 w0_2 w0_3 w1_0 w1_1 w1_2 w1_3) s = some o →
    Wp (evW Tryz.prog A0 8 (.loop L8_0) st) (OutQ (F8_0 w0_0 w0_1 w0_2 w0_3 w1_0 w1_1 w1_2 w1_3) g8_0 (fun n s st => n = 0 ∧ ghostsD [.keep [2, 3, 5]] st = some (F8_0 w0_0 w0_1 w0_2 w0_3 w1_0 w1_1 w1_2 w1_3 s)) (fun r st => finishD Tryz.prog A0 8 Tryz.f8 st = some (.p (.v (.bool r)), [])) o) := by
 refine Wp.iter ?_
 intro s st o hg h
 generalize s = s5 at hg h
 unfold R06_Same_L0 at h; unfold g8_0 F8_0 at hg ⊢
 (try simp only [] at h hg)
 unfold L8_0 bodyOf Tryz.f8; simp only [loopsOf, ens]
 revert h
 repeat' first | (with_reducible refine gR fun _ _ _ _ => ?_) | (with_reducible refine gB fun _ _ => ?_) | (with_reducible refine gT (fun _ _ => ?_) (fun _ _ => ?_)) | (with_reducible refine gI (fun _ _ => ?_) (fun _ _ => ?_))
 all_goals
  intro h; obtain rfl := Option.some.inj h
  first | (simp (maxSteps := 10000000) (implicitDefEqProofs := false) (disch := first | with_reducible assumption | exact rfl | exact im_ _ | (fail_if_success show Kn _ _); omega) only [bs, rs8, ls8, Nat.reduceAdd, ↓reduceIte, binD_neq_str, c8r_0 hrec, lenD_lst u23, loadD_iagg a25 z25, loadD_ptr a23, loadD_ptr a3, loadD_ptr a9, hg]; first | (exact ⟨(rfl : Ex.normal = Ex.normal), by kernel_rfl⟩) | (refine ⟨(rfl : Ex.ret = Ex.ret), ?_⟩; exact fin_sc rfl rfl rfl rfl) | (exact ⟨(rfl : Ex.exit 0 = Ex.exit 0), rfl, by kernel_rfl⟩)) | (exfalso; omega)
theorem f8_ok {rec : Node → Node → Option Bool} (hrec : ∀ x0 x1 r, rec x0 x1 = some r → callW Tryz.prog A0 8 [.p (.agg (pv_Node x0)), .p (.agg (pv_Node x1))] [] = some (.p (.v (.bool r)), []))  (x0 : Node) (x1 : Node) (r : Bool) (h : R06_Same.body rec x0 x1 = some r) : callW Tryz.prog A0 8 [.p (.agg (pv_Node x0)), .p (.agg (pv_Node x1))] [] = some (.p (.v (.bool r)), []) := by
 refine call_ofI (fn := Tryz.f8) (c := bodyOf Tryz.f8) 44 rfl rfl (by kernel_rfl) (by kernel_rfl) (by kernel_rfl) ?_
 unfold R06_Same.body at h; unfold bodyOf Tryz.f8; simp only [ens]
 revert h
 refine gI (fun h1 _ => ?_) (fun h1 _ => ?_)
 ·refine gI (fun h2 _ => ?_) (fun h2 _ => ?_)
  ·refine gI (fun h3 _ => ?_) (fun h3 _ => ?_)
   ·refine gB fun o h15 => ?_
    intro h
    simp (maxSteps := 10000000) (implicitDefEqProofs := false) (disch := first | with_reducible assumption | exact rfl | exact im_ _ | (fail_if_success show Kn _ _); omega) only [bs, rs8, ls8, Nat.reduceAdd, ↓reduceIte, binD_neq_str, c8r_0 hrec, lenD_lst u23, loadD_iagg a25 z25, loadD_ptr a23, loadD_ptr a3, loadD_ptr a9]
    refine Wp.ctx (fun x => seqW _ _ _ _ (blockW _ (x))) (L8_0_ok hrec x0.Kind x0.Text x0.Gaps x0.Kids x1.Kind x1.Text x1.Gaps x1.Kids (0 : Int) _ o (by kernel_rfl) h15) ?_
    intro e st hq
    cases o with
    | next _ => (first | cases h | (simp at h))
    | jmp n_ s_ =>
     obtain ⟨rfl, rfl, hq⟩ := hq
     generalize s_ = s5_16 at h hq
     unfold F8_0 at hq
     (try simp only [] at h hq)
     revert h
     intro h; obtain rfl := Option.some.inj h
     simp (maxSteps := 10000000) (implicitDefEqProofs := false) (disch := first | with_reducible assumption | exact rfl | exact im_ _ | (fail_if_success show Kn _ _); omega) only [bs, rs8, ls8, Nat.reduceAdd, ↓reduceIte, binD_neq_str, c8r_0 hrec, lenD_lst u23, loadD_iagg a25 z25, loadD_ptr a23, loadD_ptr a3, loadD_ptr a9, hq]
     refine ⟨by simp, ?_⟩; exact fin_sc rfl rfl rfl rfl
    | ret r17 =>
     obtain ⟨rfl, hq⟩ := hq
     obtain rfl := Option.some.inj h
     simp (maxSteps := 10000000) (implicitDefEqProofs := false) (disch := first | with_reducible assumption | exact rfl | exact im_ _ | (fail_if_success show Kn _ _); omega) only [bs, rs8, ls8, Nat.reduceAdd, ↓reduceIte, binD_neq_str, c8r_0 hrec, lenD_lst u23, loadD_iagg a25 z25, loadD_ptr a23, loadD_ptr a3, loadD_ptr a9]
     exact ⟨by simp, hq⟩
   ·intro h; obtain rfl := Option.some.inj h
    simp (maxSteps := 10000000) (implicitDefEqProofs := false) (disch := first | with_reducible assumption | exact rfl | exact im_ _ | (fail_if_success show Kn _ _); omega) only [bs, rs8, ls8, Nat.reduceAdd, ↓reduceIte, binD_neq_str, c8r_0 hrec, lenD_lst u23, loadD_iagg a25 z25, loadD_ptr a23, loadD_ptr a3, loadD_ptr a9]
    refine ⟨by simp, ?_⟩; exact fin_sc rfl rfl rfl rfl
  ·intro h; obtain rfl := Option.some.inj h
   simp (maxSteps := 10000000) (implicitDefEqProofs := false) (disch := first | with_reducible assumption | exact rfl | exact im_ _ | (fail_if_success show Kn _ _); omega) only [bs, rs8, ls8, Nat.reduceAdd, ↓reduceIte, binD_neq_str, c8r_0 hrec, lenD_lst u23, loadD_iagg a25 z25, loadD_ptr a23, loadD_ptr a3, loadD_ptr a9]
   refine ⟨by simp, ?_⟩; exact fin_sc rfl rfl rfl rfl
 ·intro h; obtain rfl := Option.some.inj h
  simp (maxSteps := 10000000) (implicitDefEqProofs := false) (disch := first | with_reducible assumption | exact rfl | exact im_ _ | (fail_if_success show Kn _ _); omega) only [bs, rs8, ls8, Nat.reduceAdd, ↓reduceIte, binD_neq_str, c8r_0 hrec, lenD_lst u23, loadD_iagg a25 z25, loadD_ptr a23, loadD_ptr a3, loadD_ptr a9]
  refine ⟨by simp, ?_⟩; exact fin_sc rfl rfl rfl rfl
theorem f8_spec : ∀ (x0 : Node) (x1 : Node) r, R06_SameS x0 x1 = some r → callW Tryz.prog A0 8 [.p (.agg (pv_Node x0)), .p (.agg (pv_Node x1))] [] = some (.p (.v (.bool r)), []) := by
 have key : ∀ n (x0 : Node) (x1 : Node) r, R06_SameS_mu x0 x1 < n → R06_SameS x0 x1 = some r → callW Tryz.prog A0 8 [.p (.agg (pv_Node x0)), .p (.agg (pv_Node x1))] [] = some (.p (.v (.bool r)), []) := by
  intro n
  induction n with
  | zero => intro x0 x1 r h; omega
  | succ n ih =>
   intro x0 x1 r hn h
   refine f8_ok (rec := fun x0' x1' => if R06_SameS_mu x0' x1' < R06_SameS_mu x0 x1 then R06_SameS x0' x1' else none) ?_ x0 x1 r (R06_SameS_body x0 x1 r h)
   intro x0' x1' r' h'
   by_cases hm : R06_SameS_mu x0' x1' < R06_SameS_mu x0 x1
   ·rw [if_pos hm] at h'; exact ih x0' x1' r' (by omega) h'
   ·rw [if_neg hm] at h'; cases h'
 intro x0 x1 r h
 exact key _ x0 x1 r (Nat.lt_succ_self _) h
theorem c8_1 {H : List Ob} {a1 a2 : Node} {r : Bool} (h : R06_SameS a1 a2 = some r) : callD (callW Tryz.prog A0) A0 H 8 [.p (.agg (pv_Node a1)), .p (.agg (pv_Node a2))] = some (.p (.v (.bool r)), none) :=
 callD_fun (args := [.agg (pv_Node a1), .agg (pv_Node a2)]) rfl rfl rfl (by simp only [List.map_cons, List.map_nil, wk, wks, wkL]; exact f8_spec a1 a2 _ h)
theorem f42_ok  (x0 : Int) (r : Int) (h : R07_most x0 = some r) : callW Tryz.prog A0 42 [iv x0] [] = some (.p (.v (.int .i64 r)), []) := by
 refine call_ofI (fn := Tryz.f42) (c := bodyOf Tryz.f42) 8 rfl rfl (by kernel_rfl) (by kernel_rfl) (by kernel_rfl) ?_
 unfold R07_most at h; unfold bodyOf Tryz.f42; simp only [ens]
 revert h
 repeat' (with_reducible refine gI (fun _ _ => ?_) (fun _ _ => ?_))
 all_goals
  intro h; obtain rfl := Option.some.inj h
  first | (simp (maxSteps := 10000000) (implicitDefEqProofs := false) (disch := first | with_reducible assumption | exact rfl | exact im_ _ | (fail_if_success show Kn _ _); omega) only [bs, rs42, Nat.reduceAdd, ↓reduceIte]; refine ⟨by simp, ?_⟩; exact fin_sc rfl rfl rfl rfl) | (exfalso; omega)
def ls26 := And.intro @faP_25_0 (And.intro @faP_25_3 (And.intro @idxL_23 (And.intro @lk_frz_25 (And.intro @varld_4_0_0 (@varld_4_0_3)))))
theorem c42_0 {H : List Ob} {a1 : Int} {r : Int} (h : R07_most a1 = some r) : callD (callW Tryz.prog A0) A0 H 42 [iv a1] = some (.p (.v (.int .i64 r)), none) :=
 callD_fun (args := [.v (.int .i64 a1)]) rfl rfl rfl (by simp only [List.map_cons, List.map_nil, wk, wks, wkL]; exact f42_ok a1 _ h)
theorem c26r_0 {rec : Node → Int → Option Int} (hrec : ∀ x0 x1 r, rec x0 x1 = some r → callW Tryz.prog A0 26 [.p (.agg (pv_Node x0)), iv x1] [] = some (.p (.v (.int .i64 r)), [])) {H : List Ob} {a1 : Node} {a2 : Int} {r : Int} (h : rec a1 a2 = some r) : callD (callW Tryz.prog A0) A0 H 26 [.p (.agg (pv_Node a1)), iv a2] = some (.p (.v (.int .i64 r)), none) :=
 callD_fun (args := [.agg (pv_Node a1), .v (.int .i64 a2)]) rfl rfl rfl (by simp only [List.map_cons, List.map_nil, wk, wks, wkL]; exact hrec a1 a2 _ h)
noncomputable def L26_0 : Code := (loopsOf (bodyOf Tryz.f26)).getD 0 .skip
def g26_0 : List Ghost := [.keep [1, 2, 5, 6]]
noncomputable def F26_0 (s1 : Int) (w0_0 : Int) (w0_1 : ByteArray) (w0_2 : (List ByteArray)) (w0_3 : (List Node)) : (Int × Int) → St := fun (s5, s6) => ⟨[J, iv s1, .ptr 0 0, J, J, iv s5, iv s6, J, J, J, J, J, J, J, J, J, J, J, J, J, J, J, J, J, J, J, J, J, J, J, J, J, J, J, J, J, J, J, J, J, J], [.var [iv w0_0, .p (.v (.string w0_1)), .p (.lst false w0_2.length (encL en_str w0_2)), .p (.lst false w0_3.length (encL en_Node w0_3))]], 0⟩
theorem L26_0_ok {rec : Node → Int → Option Int} (hrec : ∀ x0 x1 r, rec x0 x1 = some r → callW Tryz.prog A0 26 [.p (.agg (pv_Node x0)), iv x1] [] = some (.p (.v (.int .i64 r)), [])) (s1 : Int) (w0_0 : Int) (w0_1 : ByteArray) (w0_2 : (List ByteArray)) (w0_3 : (List Node)) : ∀ s st o, ghostsD g26_0 st = some (F26_0 s1 w0_0 w0_1 w0_2 w0_3 s) → iter (R07_size_L0 rec s1 w0_0 w0_1 w0_2 w0_3) s = some o →
    Wp (evW Tryz.prog A0 26 (.loop L26_0) st) (OutQ (F26_0 s1 w0_0 w0_1 w0_2 w0_3) g26_0 (fun n s st => n = 0 ∧ ghostsD [.keep [1, 2, 5, 6]] st = some (F26_0 s1 w0_0 w0_1 w0_2 w0_3 s)) (fun r st => finishD Tryz.prog A0 26 Tryz.f26 st = some (.p (.v (.int .i64 r)), [])) o) := by
 refine Wp.iter ?_
 intro s st o hg h
 obtain ⟨s5, s6⟩ := s
 unfold R07_size_L0 at h; unfold g26_0 F26_0 at hg ⊢
 (try simp only [] at h hg)
 unfold L26_0 bodyOf Tryz.f26; simp only [loopsOf, ens]
 revert h
 repeat' first | (with_reducible refine gR fun _ _ _ _ => ?_) | (with_reducible refine gB fun _ _ => ?_) | (with_reducible refine gI (fun _ _ => ?_) (fun _ _ => ?_))
 all_goals
  intro h; obtain rfl := Option.some.inj h
  first | (simp (maxSteps := 10000000) (implicitDefEqProofs := false) (disch := first | with_reducible assumption | exact rfl | exact im_ _ | (fail_if_success show Kn _ _); omega) only [bs, rs26, ls26, Nat.reduceAdd, ↓reduceIte, c26r_0 hrec, c42_0, lenD_lst u23, loadD_iagg a25 z25, loadD_ptr a23, loadD_ptr a3, minD_int, hg]; first | (exact ⟨(rfl : Ex.normal = Ex.normal), by kernel_rfl⟩) | (exact ⟨(rfl : Ex.exit 0 = Ex.exit 0), rfl, by kernel_rfl⟩)) | (exfalso; omega)
theorem f26_ok {rec : Node → Int → Option Int} (hrec : ∀ x0 x1 r, rec x0 x1 = some r → callW Tryz.prog A0 26 [.p (.agg (pv_Node x0)), iv x1] [] = some (.p (.v (.int .i64 r)), []))  (x0 : Node) (x1 : Int) (r : Int) (h : R07_size.body rec x0 x1 = some r) : callW Tryz.prog A0 26 [.p (.agg (pv_Node x0)), iv x1] [] = some (.p (.v (.int .i64 r)), []) := by
 refine call_ofI (fn := Tryz.f26) (c := bodyOf Tryz.f26) 39 rfl rfl (by kernel_rfl) (by kernel_rfl) (by kernel_rfl) ?_
 unfold R07_size.body at h; unfold bodyOf Tryz.f26; simp only [ens]
 revert h
 refine gI (fun h1 _ => ?_) (fun h1 _ => ?_)
 ·intro h; obtain rfl := Option.some.inj h
  simp (maxSteps := 10000000) (implicitDefEqProofs := false) (disch := first | with_reducible assumption | exact rfl | exact im_ _ | (fail_if_success show Kn _ _); omega) only [bs, rs26, ls26, Nat.reduceAdd, ↓reduceIte, c26r_0 hrec, c42_0, lenD_lst u23, loadD_iagg a25 z25, loadD_ptr a23, loadD_ptr a3, minD_int]
  refine ⟨by simp, ?_⟩; exact fin_sc rfl rfl rfl rfl
 ·refine gB fun r2 h3 => ?_
  refine gI (fun h5 _ => ?_) (fun h5 _ => ?_)
  ·intro h; obtain rfl := Option.some.inj h
   simp (maxSteps := 10000000) (implicitDefEqProofs := false) (disch := first | with_reducible assumption | exact rfl | exact im_ _ | (fail_if_success show Kn _ _); omega) only [bs, rs26, ls26, Nat.reduceAdd, ↓reduceIte, c26r_0 hrec, c42_0, lenD_lst u23, loadD_iagg a25 z25, loadD_ptr a23, loadD_ptr a3, minD_int]
   refine ⟨by simp, ?_⟩; exact fin_sc rfl rfl rfl rfl
  ·refine gB fun o h14 => ?_
   intro h
   simp (maxSteps := 10000000) (implicitDefEqProofs := false) (disch := first | with_reducible assumption | exact rfl | exact im_ _ | (fail_if_success show Kn _ _); omega) only [bs, rs26, ls26, Nat.reduceAdd, ↓reduceIte, c26r_0 hrec, c42_0, lenD_lst u23, loadD_iagg a25 z25, loadD_ptr a23, loadD_ptr a3, minD_int]
   refine Wp.ctx (fun x => seqW _ _ _ _ (blockW _ (x))) (L26_0_ok hrec x1 x0.Kind x0.Text x0.Gaps x0.Kids ((1 : Int), (0 : Int)) _ o (by kernel_rfl) h14) ?_
   intro e st hq
   cases o with
   | next _ => (first | cases h | (simp at h))
   | jmp n_ s_ =>
    obtain ⟨rfl, rfl, hq⟩ := hq
    obtain ⟨s5_15, s6_15⟩ := s_
    unfold F26_0 at hq
    (try simp only [] at h hq)
    revert h
    intro h; obtain rfl := Option.some.inj h
    simp (maxSteps := 10000000) (implicitDefEqProofs := false) (disch := first | with_reducible assumption | exact rfl | exact im_ _ | (fail_if_success show Kn _ _); omega) only [bs, rs26, ls26, Nat.reduceAdd, ↓reduceIte, c26r_0 hrec, c42_0, lenD_lst u23, loadD_iagg a25 z25, loadD_ptr a23, loadD_ptr a3, minD_int, hq]
    refine ⟨by simp, ?_⟩; exact fin_sc rfl rfl rfl rfl
   | ret _ => (first | cases h | (simp at h))
theorem f26_spec : ∀ (x0 : Node) (x1 : Int) r, R07_sizeS x0 x1 = some r → callW Tryz.prog A0 26 [.p (.agg (pv_Node x0)), iv x1] [] = some (.p (.v (.int .i64 r)), []) := by
 have key : ∀ n (x0 : Node) (x1 : Int) r, R07_sizeS_mu x0 x1 < n → R07_sizeS x0 x1 = some r → callW Tryz.prog A0 26 [.p (.agg (pv_Node x0)), iv x1] [] = some (.p (.v (.int .i64 r)), []) := by
  intro n
  induction n with
  | zero => intro x0 x1 r h; omega
  | succ n ih =>
   intro x0 x1 r hn h
   refine f26_ok (rec := fun x0' x1' => if R07_sizeS_mu x0' x1' < R07_sizeS_mu x0 x1 then R07_sizeS x0' x1' else none) ?_ x0 x1 r (R07_sizeS_body x0 x1 r h)
   intro x0' x1' r' h'
   by_cases hm : R07_sizeS_mu x0' x1' < R07_sizeS_mu x0 x1
   ·rw [if_pos hm] at h'; exact ih x0' x1' r' (by omega) h'
   ·rw [if_neg hm] at h'; cases h'
 intro x0 x1 r h
 exact key _ x0 x1 r (Nat.lt_succ_self _) h
theorem c26_1 {H : List Ob} {a1 : Node} {a2 : Int} {r : Int} (h : R07_sizeS a1 a2 = some r) : callD (callW Tryz.prog A0) A0 H 26 [.p (.agg (pv_Node a1)), iv a2] = some (.p (.v (.int .i64 r)), none) :=
 callD_fun (args := [.agg (pv_Node a1), .v (.int .i64 a2)]) rfl rfl rfl (by simp only [List.map_cons, List.map_nil, wk, wks, wkL]; exact f26_spec a1 a2 _ h)
theorem f61_ok  (x0 : Int) (r : Int) (h : R07_least x0 = some r) : callW Tryz.prog A0 61 [iv x0] [] = some (.p (.v (.int .i64 r)), []) := by
 refine call_ofI (fn := Tryz.f61) (c := bodyOf Tryz.f61) 20 rfl rfl (by kernel_rfl) (by kernel_rfl) (by kernel_rfl) ?_
 unfold R07_least at h; unfold bodyOf Tryz.f61; simp only [ens]
 revert h
 repeat' (with_reducible refine gI (fun _ _ => ?_) (fun _ _ => ?_))
 all_goals
  intro h; obtain rfl := Option.some.inj h
  first | (simp (maxSteps := 10000000) (implicitDefEqProofs := false) (disch := first | with_reducible assumption | exact rfl | exact im_ _ | (fail_if_success show Kn _ _); omega) only [bs, rs61, Nat.reduceAdd, ↓reduceIte]; refine ⟨by simp, ?_⟩; exact fin_sc rfl rfl rfl rfl) | (exfalso; omega)
theorem c61_0 {H : List Ob} {a1 : Int} {r : Int} (h : R07_least a1 = some r) : callD (callW Tryz.prog A0) A0 H 61 [iv a1] = some (.p (.v (.int .i64 r)), none) :=
 callD_fun (args := [.v (.int .i64 a1)]) rfl rfl rfl (by simp only [List.map_cons, List.map_nil, wk, wks, wkL]; exact f61_ok a1 _ h)
theorem f90_ok  (x0 : Int) (r : Int) (h : R07_Group x0 = some r) : callW Tryz.prog A0 90 [iv x0] [] = some (.p (.v (.int .i64 r)), []) := by
 refine call_ofI (fn := Tryz.f90) (c := bodyOf Tryz.f90) 32 rfl rfl (by kernel_rfl) (by kernel_rfl) (by kernel_rfl) ?_
 unfold R07_Group at h; unfold bodyOf Tryz.f90; simp only [ens]
 revert h
 repeat' (with_reducible refine gI (fun _ _ => ?_) (fun _ _ => ?_))
 all_goals
  intro h; obtain rfl := Option.some.inj h
  first | (simp (maxSteps := 10000000) (implicitDefEqProofs := false) (disch := first | with_reducible assumption | exact rfl | exact im_ _ | (fail_if_success show Kn _ _); omega) only [bs, rs90, Nat.reduceAdd, ↓reduceIte]; refine ⟨by simp, ?_⟩; exact fin_sc rfl rfl rfl rfl) | (exfalso; omega)
theorem c90_0 {H : List Ob} {a1 : Int} {r : Int} (h : R07_Group a1 = some r) : callD (callW Tryz.prog A0) A0 H 90 [iv a1] = some (.p (.v (.int .i64 r)), none) :=
 callD_fun (args := [.v (.int .i64 a1)]) rfl rfl rfl (by simp only [List.map_cons, List.map_nil, wk, wks, wkL]; exact f90_ok a1 _ h)
theorem f62_ok  (x0 : Int) (x1 : Int) (x2 : Int) (r : Bool) (h : R07_Fits x0 x1 x2 = some r) : callW Tryz.prog A0 62 [iv x0, iv x1, iv x2] [] = some (.p (.v (.bool r)), []) := by
 refine call_ofI (fn := Tryz.f62) (c := bodyOf Tryz.f62) 149 rfl rfl (by kernel_rfl) (by kernel_rfl) (by kernel_rfl) ?_
 unfold R07_Fits at h; unfold bodyOf Tryz.f62; simp only [ens]
 revert h
 repeat' first | (with_reducible refine gB fun _ _ => ?_) | (with_reducible refine gI (fun _ _ => ?_) (fun _ _ => ?_))
 all_goals
  intro h; obtain rfl := Option.some.inj h
  first | (simp (maxSteps := 10000000) (implicitDefEqProofs := false) (disch := first | with_reducible assumption | exact rfl | exact im_ _ | (fail_if_success show Kn _ _); omega) only [bs, rs62, Nat.reduceAdd, ↓reduceIte, c90_0]; refine ⟨by simp, ?_⟩; exact fin_sc rfl rfl rfl rfl) | (exfalso; omega)
def ls50 := And.intro @faP_25_0 (And.intro @faP_25_1 (And.intro @varld_4_0_0 (@varld_4_0_1)))
theorem c62_0 {H : List Ob} {a1 a2 a3 : Int} {r : Bool} (h : R07_Fits a1 a2 a3 = some r) : callD (callW Tryz.prog A0) A0 H 62 [iv a1, iv a2, iv a3] = some (.p (.v (.bool r)), none) :=
 callD_fun (args := [.v (.int .i64 a1), .v (.int .i64 a2), .v (.int .i64 a3)]) rfl rfl rfl (by simp only [List.map_cons, List.map_nil, wk, wks, wkL]; exact f62_ok a1 a2 a3 _ h)
theorem f50_ok  (x0 : Node) (r : Bool) (h : R07_named x0 = some r) : callW Tryz.prog A0 50 [.p (.agg (pv_Node x0))] [] = some (.p (.v (.bool r)), []) := by
 refine call_ofI (fn := Tryz.f50) (c := bodyOf Tryz.f50) 22 rfl rfl (by kernel_rfl) (by kernel_rfl) (by kernel_rfl) ?_
 unfold R07_named at h; unfold bodyOf Tryz.f50; simp only [ens]
 revert h
 repeat' (with_reducible refine gI (fun _ _ => ?_) (fun _ _ => ?_))
 all_goals
  intro h; obtain rfl := Option.some.inj h
  first | (simp (maxSteps := 10000000) (implicitDefEqProofs := false) (disch := first | with_reducible assumption | exact rfl | exact im_ _ | (fail_if_success show Kn _ _); omega) only [bs, rs50, ls50, Nat.reduceAdd, ↓reduceIte, binD_neq_str, loadD_ptr a3, loadD_ptr a9]; refine ⟨by simp, ?_⟩; exact fin_sc rfl rfl rfl rfl) | (exfalso; omega)
def ls91 := And.intro @faP_25_0 (And.intro @faP_25_1 (And.intro @varld_4_0_0 (@varld_4_0_1)))
theorem c50_0 {H : List Ob} {a1 : Node} {r : Bool} (h : R07_named a1 = some r) : callD (callW Tryz.prog A0) A0 H 50 [.p (.agg (pv_Node a1))] = some (.p (.v (.bool r)), none) :=
 callD_fun (args := [.agg (pv_Node a1)]) rfl rfl rfl (by simp only [List.map_cons, List.map_nil, wk, wks, wkL]; exact f50_ok a1 _ h)
theorem f91_ok  (x0 : Node) (r : Int) (h : R07_Level x0 = some r) : callW Tryz.prog A0 91 [.p (.agg (pv_Node x0))] [] = some (.p (.v (.int .i64 r)), []) := by
 refine call_ofI (fn := Tryz.f91) (c := bodyOf Tryz.f91) 27 rfl rfl (by kernel_rfl) (by kernel_rfl) (by kernel_rfl) ?_
 unfold R07_Level at h; unfold bodyOf Tryz.f91; simp only [ens]
 revert h
 repeat' first | (with_reducible refine gB fun _ _ => ?_) | (with_reducible refine gI (fun _ _ => ?_) (fun _ _ => ?_))
 all_goals
  intro h; obtain rfl := Option.some.inj h
  first | (simp (maxSteps := 10000000) (implicitDefEqProofs := false) (disch := first | with_reducible assumption | exact rfl | exact im_ _ | (fail_if_success show Kn _ _); omega) only [bs, rs91, ls91, Nat.reduceAdd, ↓reduceIte, binD_eql_str, c90_0, loadD_ptr a3, loadD_ptr a9]; refine ⟨by simp, ?_⟩; exact fin_sc rfl rfl rfl rfl) | (exfalso; omega)
def ls64 := And.intro @faP_25_0 (And.intro @faP_25_3 (And.intro @idxL_23 (And.intro @lk_frz_25 (And.intro @varld_4_0_0 (And.intro @varld_4_0_3 (@varlv_4_0_4))))))
theorem c91_0 {H : List Ob} {a1 : Node} {r : Int} (h : R07_Level a1 = some r) : callD (callW Tryz.prog A0) A0 H 91 [.p (.agg (pv_Node a1))] = some (.p (.v (.int .i64 r)), none) :=
 callD_fun (args := [.agg (pv_Node a1)]) rfl rfl rfl (by simp only [List.map_cons, List.map_nil, wk, wks, wkL]; exact f91_ok a1 _ h)
theorem f64_ok  (x0 : Node) (r : Bool) (h : R07_levels x0 = some r) : callW Tryz.prog A0 64 [.p (.agg (pv_Node x0))] [] = some (.p (.v (.bool r)), []) := by
 refine call_ofI (fn := Tryz.f64) (c := bodyOf Tryz.f64) 51 rfl rfl (by kernel_rfl) (by kernel_rfl) (by kernel_rfl) ?_
 unfold R07_levels at h; unfold bodyOf Tryz.f64; simp only [ens]
 revert h
 repeat' first | (with_reducible refine gR fun _ _ _ _ => ?_) | (with_reducible refine gB fun _ _ => ?_) | (with_reducible refine gI (fun _ _ => ?_) (fun _ _ => ?_))
 all_goals
  intro h; obtain rfl := Option.some.inj h
  first | (simp (maxSteps := 10000000) (implicitDefEqProofs := false) (disch := first | with_reducible assumption | exact rfl | exact im_ _ | (fail_if_success show Kn _ _); omega) only [bs, rs64, ls64, Nat.reduceAdd, ↓reduceIte, c91_0, loadD_iagg a25 z25, loadD_pagg a25 z25, loadD_ptr a23, loadD_ptr a3]; refine ⟨by simp, ?_⟩; exact fin_sc rfl rfl rfl rfl) | (exfalso; omega)
def ls63 := And.intro @faP_25_0 (And.intro @faP_25_1 (And.intro @varld_4_0_0 (And.intro @varld_4_0_1 (@varlv_4_0_4))))
theorem c64_0 {H : List Ob} {a1 : Node} {r : Bool} (h : R07_levels a1 = some r) : callD (callW Tryz.prog A0) A0 H 64 [.p (.agg (pv_Node a1))] = some (.p (.v (.bool r)), none) :=
 callD_fun (args := [.agg (pv_Node a1)]) rfl rfl rfl (by simp only [List.map_cons, List.map_nil, wk, wks, wkL]; exact f64_ok a1 _ h)
theorem f63_ok  (x0 : Node) (r : Bool) (h : R07_word x0 = some r) : callW Tryz.prog A0 63 [.p (.agg (pv_Node x0))] [] = some (.p (.v (.bool r)), []) := by
 refine call_ofI (fn := Tryz.f63) (c := bodyOf Tryz.f63) 37 rfl rfl (by kernel_rfl) (by kernel_rfl) (by kernel_rfl) ?_
 unfold R07_word at h; unfold bodyOf Tryz.f63; simp only [ens]
 revert h
 repeat' first | (with_reducible refine gB fun _ _ => ?_) | (with_reducible refine gI (fun _ _ => ?_) (fun _ _ => ?_))
 all_goals
  intro h; obtain rfl := Option.some.inj h
  first | (simp (maxSteps := 10000000) (implicitDefEqProofs := false) (disch := first | with_reducible assumption | exact rfl | exact im_ _ | (fail_if_success show Kn _ _); omega) only [bs, rs63, ls63, Nat.reduceAdd, ↓reduceIte, binD_eql_str, c91_0, loadD_pagg a25 z25, loadD_ptr a3, loadD_ptr a9]; refine ⟨by simp, ?_⟩; exact fin_sc rfl rfl rfl rfl) | (exfalso; omega)
def ls48 := And.intro @ce_25__0 (And.intro @faI_25_0 (And.intro @faP_25_0 (And.intro @faP_25_3 (And.intro @idxL_23 (And.intro @varld_4_0_0 (And.intro @varld_4_0_3 (@varlv_4_0_4)))))))
theorem c63_0 {H : List Ob} {a1 : Node} {r : Bool} (h : R07_word a1 = some r) : callD (callW Tryz.prog A0) A0 H 63 [.p (.agg (pv_Node a1))] = some (.p (.v (.bool r)), none) :=
 callD_fun (args := [.agg (pv_Node a1)]) rfl rfl rfl (by simp only [List.map_cons, List.map_nil, wk, wks, wkL]; exact f63_ok a1 _ h)
noncomputable def L48_0 : Code := (loopsOf (bodyOf Tryz.f48)).getD 0 .skip
def g48_0 : List Ghost := [.keep [1, 3]]
noncomputable def F48_0 (w0_0 : Int) (w0_1 : ByteArray) (w0_2 : (List ByteArray)) (w0_3 : (List Node)) : Int → St := fun s3 => ⟨[J, .ptr 0 0, J, iv s3, J, J, J, J, J, J, J, J, J, J, J, J, J, J, J, J, J, J, J, J, J, J, J, J, J, J, J, J, J, J, J, J, J, J, J, J, J, J, J, J, J, J, J, J, J], [.var [iv w0_0, .p (.v (.string w0_1)), .p (.lst false w0_2.length (encL en_str w0_2)), .p (.lst false w0_3.length (encL en_Node w0_3))]], 0⟩
theorem L48_0_ok (w0_0 : Int) (w0_1 : ByteArray) (w0_2 : (List ByteArray)) (w0_3 : (List Node)) : ∀ s st o, ghostsD g48_0 st = some (F48_0 w0_0 w0_1 w0_2 w0_3 s) → iter (R07_shape_L0 w0_0 w0_1 w0_2 w0_3) s = some o →
    Wp (evW Tryz.prog A0 48 (.loop L48_0) st) (OutQ (F48_0 w0_0 w0_1 w0_2 w0_3) g48_0 (fun n s st => n = 0 ∧ ghostsD [.keep [1, 3]] st = some (F48_0 w0_0 w0_1 w0_2 w0_3 s)) (fun r st => finishD Tryz.prog A0 48 Tryz.f48 st = some (.p (.v (.bool r)), [])) o) := by
 refine Wp.iter ?_
 intro s st o hg h
 generalize s = s3 at hg h
 unfold R07_shape_L0 at h; unfold g48_0 F48_0 at hg ⊢
 (try simp only [] at h hg)
 unfold L48_0 bodyOf Tryz.f48; simp only [loopsOf, ens]
 revert h
 repeat' first | (with_reducible refine gR fun _ _ _ _ => ?_) | (with_reducible refine gB fun _ _ => ?_) | (with_reducible refine gT (fun _ _ => ?_) (fun _ _ => ?_)) | (with_reducible refine gI (fun _ _ => ?_) (fun _ _ => ?_))
 all_goals
  intro h; obtain rfl := Option.some.inj h
  first | (simp (maxSteps := 10000000) (implicitDefEqProofs := false) (disch := first | with_reducible assumption | exact rfl | exact im_ _ | (fail_if_success show Kn _ _); omega) only [bs, rs48, ls48, Nat.reduceAdd, ↓reduceIte, c50_0, c61_0, c62_0, c63_0, c64_0, lenD_lst u23, loadD_iptr a3, loadD_pagg a25 z25, loadD_ptr a23, loadD_ptr a3, hg]; first | (exact ⟨(rfl : Ex.normal = Ex.normal), by kernel_rfl⟩) | (refine ⟨(rfl : Ex.ret = Ex.ret), ?_⟩; exact fin_sc rfl rfl rfl rfl) | (exact ⟨(rfl : Ex.exit 0 = Ex.exit 0), rfl, by kernel_rfl⟩)) | (exfalso; omega)
theorem f48_ok  (x0 : Node) (r : Bool) (h : R07_shape x0 = some r) : callW Tryz.prog A0 48 [.p (.agg (pv_Node x0))] [] = some (.p (.v (.bool r)), []) := by
 refine call_ofI (fn := Tryz.f48) (c := bodyOf Tryz.f48) 48 rfl rfl (by kernel_rfl) (by kernel_rfl) (by kernel_rfl) ?_
 unfold R07_shape at h; unfold bodyOf Tryz.f48; simp only [ens]
 revert h
 refine gI (fun h1 _ => ?_) (fun h1 _ => ?_)
 ·intro h; obtain rfl := Option.some.inj h
  simp (maxSteps := 10000000) (implicitDefEqProofs := false) (disch := first | with_reducible assumption | exact rfl | exact im_ _ | (fail_if_success show Kn _ _); omega) only [bs, rs48, ls48, Nat.reduceAdd, ↓reduceIte, c50_0, c61_0, c62_0, c63_0, c64_0, lenD_lst u23, loadD_iptr a3, loadD_pagg a25 z25, loadD_ptr a23, loadD_ptr a3]
  refine ⟨by simp, ?_⟩; exact fin_sc rfl rfl rfl rfl
 ·refine gI (fun h2 _ => ?_) (fun h2 _ => ?_)
  ·intro h; obtain rfl := Option.some.inj h
   simp (maxSteps := 10000000) (implicitDefEqProofs := false) (disch := first | with_reducible assumption | exact rfl | exact im_ _ | (fail_if_success show Kn _ _); omega) only [bs, rs48, ls48, Nat.reduceAdd, ↓reduceIte, c50_0, c61_0, c62_0, c63_0, c64_0, lenD_lst u23, loadD_iptr a3, loadD_pagg a25 z25, loadD_ptr a23, loadD_ptr a3]
   refine ⟨by simp, ?_⟩; exact fin_sc rfl rfl rfl rfl
  ·refine gB fun r3 h4 => ?_
   refine gI (fun h6 _ => ?_) (fun h6 _ => ?_)
   ·intro h; obtain rfl := Option.some.inj h
    simp (maxSteps := 10000000) (implicitDefEqProofs := false) (disch := first | with_reducible assumption | exact rfl | exact im_ _ | (fail_if_success show Kn _ _); omega) only [bs, rs48, ls48, Nat.reduceAdd, ↓reduceIte, c50_0, c61_0, c62_0, c63_0, c64_0, lenD_lst u23, loadD_iptr a3, loadD_pagg a25 z25, loadD_ptr a23, loadD_ptr a3]
    refine ⟨by simp, ?_⟩; exact fin_sc rfl rfl rfl rfl
   ·refine gB fun o h15 => ?_
    intro h
    simp (maxSteps := 10000000) (implicitDefEqProofs := false) (disch := first | with_reducible assumption | exact rfl | exact im_ _ | (fail_if_success show Kn _ _); omega) only [bs, rs48, ls48, Nat.reduceAdd, ↓reduceIte, c50_0, c61_0, c62_0, c63_0, c64_0, lenD_lst u23, loadD_iptr a3, loadD_pagg a25 z25, loadD_ptr a23, loadD_ptr a3]
    refine Wp.ctx (fun x => seqW _ _ _ _ (blockW _ (x))) (L48_0_ok x0.Kind x0.Text x0.Gaps x0.Kids (0 : Int) _ o (by kernel_rfl) h15) ?_
    intro e st hq
    cases o with
    | next _ => (first | cases h | (simp at h))
    | jmp n_ s_ =>
     obtain ⟨rfl, rfl, hq⟩ := hq
     generalize s_ = s3_16 at h hq
     unfold F48_0 at hq
     (try simp only [] at h hq)
     revert h
     repeat' first | (with_reducible refine gB fun _ _ => ?_) | (with_reducible refine gT (fun _ _ => ?_) (fun _ _ => ?_))
     all_goals
      intro h; obtain rfl := Option.some.inj h
      first | (simp (maxSteps := 10000000) (implicitDefEqProofs := false) (disch := first | with_reducible assumption | exact rfl | exact im_ _ | (fail_if_success show Kn _ _); omega) only [bs, rs48, ls48, Nat.reduceAdd, ↓reduceIte, c50_0, c61_0, c62_0, c63_0, c64_0, lenD_lst u23, loadD_iptr a3, loadD_pagg a25 z25, loadD_ptr a23, loadD_ptr a3, hq]; refine ⟨by simp, ?_⟩; exact fin_sc rfl rfl rfl rfl) | (exfalso; omega)
    | ret r31 =>
     obtain ⟨rfl, hq⟩ := hq
     obtain rfl := Option.some.inj h
     simp (maxSteps := 10000000) (implicitDefEqProofs := false) (disch := first | with_reducible assumption | exact rfl | exact im_ _ | (fail_if_success show Kn _ _); omega) only [bs, rs48, ls48, Nat.reduceAdd, ↓reduceIte, c50_0, c61_0, c62_0, c63_0, c64_0, lenD_lst u23, loadD_iptr a3, loadD_pagg a25 z25, loadD_ptr a23, loadD_ptr a3]
     exact ⟨by simp, hq⟩
def ls49 := @cv_5_3
theorem c48_0 {H : List Ob} {a1 : Node} {r : Bool} (h : R07_shape a1 = some r) : callD (callW Tryz.prog A0) A0 H 48 [.p (.agg (pv_Node a1))] = some (.p (.v (.bool r)), none) :=
 callD_fun (args := [.agg (pv_Node a1)]) rfl rfl rfl (by simp only [List.map_cons, List.map_nil, wk, wks, wkL]; exact f48_ok a1 _ h)
noncomputable def L49_0 : Code := (loopsOf (bodyOf Tryz.f49)).getD 0 .skip
def g49_0 : List Ghost := [.keep [0, 3, 4]]
noncomputable def F49_0 (s0 : ByteArray) : (Int × Int) → St := fun (s3, s4) => ⟨[.p (.v (.string s0)), J, J, iv s3, iv s4, J, J, J, J, J, J, J, J, J, J, J, J, J, J, J, J, J, J, J, J, J, J, J, J, J, J, J, J, J, J, J, J, J, J, J, J, J, J, J, J, J, J, J, J], [], 0⟩
theorem L49_0_ok (s0 : ByteArray) : ∀ s st o, ghostsD g49_0 st = some (F49_0 s0 s) → iter (R07_Integer_L0 s0) s = some o →
    Wp (evW Tryz.prog A0 49 (.loop L49_0) st) (OutQ (F49_0 s0) g49_0 (fun n s st => n = 0 ∧ ghostsD [.keep [0, 3, 4]] st = some (F49_0 s0 s)) (fun r st => finishD Tryz.prog A0 49 Tryz.f49 st = some (.p (.v (.bool r)), [])) o) := by
 refine Wp.iter ?_
 intro s st o hg h
 obtain ⟨s3, s4⟩ := s
 unfold R07_Integer_L0 at h; unfold g49_0 F49_0 at hg ⊢
 (try simp only [] at h hg)
 unfold L49_0 bodyOf Tryz.f49; simp only [loopsOf, ens]
 revert h
 repeat' first | (with_reducible refine gB fun _ _ => ?_) | (with_reducible refine gI (fun _ _ => ?_) (fun _ _ => ?_))
 all_goals
  intro h; obtain rfl := Option.some.inj h
  first | (simp (maxSteps := 10000000) (implicitDefEqProofs := false) (disch := first | with_reducible assumption | exact rfl | exact im_ _ | (fail_if_success show Kn _ _); omega) only [bs, rs49, ls49, Nat.reduceAdd, ↓reduceIte, binD_eql_k, binD_gtr_k, binD_lss_k, binD_sub_k (k := .u8), indexD_str Tryz.underlying9, lenD_str u9, hg]; first | (refine ⟨(rfl : Ex.ret = Ex.ret), ?_⟩; exact fin_sc rfl rfl rfl rfl) | (exact ⟨(rfl : Ex.normal = Ex.normal), by kernel_rfl⟩) | (exact ⟨(rfl : Ex.exit 0 = Ex.exit 0), rfl, by kernel_rfl⟩)) | (exfalso; omega)
theorem f49_ok  (x0 : ByteArray) (r : Bool) (h : R07_Integer x0 = some r) : callW Tryz.prog A0 49 [.p (.v (.string x0))] [] = some (.p (.v (.bool r)), []) := by
 refine call_ofI (fn := Tryz.f49) (c := bodyOf Tryz.f49) 48 rfl rfl (by kernel_rfl) (by kernel_rfl) (by kernel_rfl) ?_
 unfold R07_Integer at h; unfold bodyOf Tryz.f49; simp only [ens]
 revert h
 refine gI (fun h1 _ => ?_) (fun h1 _ => ?_)
 ·intro h; obtain rfl := Option.some.inj h
  simp (maxSteps := 10000000) (implicitDefEqProofs := false) (disch := first | with_reducible assumption | exact rfl | exact im_ _ | (fail_if_success show Kn _ _); omega) only [bs, rs49, ls49, Nat.reduceAdd, ↓reduceIte, binD_eql_k, binD_gtr_k, binD_lss_k, binD_sub_k (k := .u8), indexD_str Tryz.underlying9, lenD_str u9]
  refine ⟨by simp, ?_⟩; exact fin_sc rfl rfl rfl rfl
 ·refine gI (fun h2 _ => ?_) (fun h2 _ => ?_)
  ·intro h; obtain rfl := Option.some.inj h
   simp (maxSteps := 10000000) (implicitDefEqProofs := false) (disch := first | with_reducible assumption | exact rfl | exact im_ _ | (fail_if_success show Kn _ _); omega) only [bs, rs49, ls49, Nat.reduceAdd, ↓reduceIte, binD_eql_k, binD_gtr_k, binD_lss_k, binD_sub_k (k := .u8), indexD_str Tryz.underlying9, lenD_str u9]
   refine ⟨by simp, ?_⟩; exact fin_sc rfl rfl rfl rfl
  ·refine gI (fun h3 _ => ?_) (fun h3 _ => ?_)
   ·refine gB fun q4 h5 => ?_
    refine gI (fun h7 _ => ?_) (fun h7 _ => ?_)
    ·intro h; obtain rfl := Option.some.inj h
     simp (maxSteps := 10000000) (implicitDefEqProofs := false) (disch := first | with_reducible assumption | exact rfl | exact im_ _ | (fail_if_success show Kn _ _); omega) only [bs, rs49, ls49, Nat.reduceAdd, ↓reduceIte, binD_eql_k, binD_gtr_k, binD_lss_k, binD_sub_k (k := .u8), indexD_str Tryz.underlying9, lenD_str u9]
     refine ⟨by simp, ?_⟩; exact fin_sc rfl rfl rfl rfl
    ·refine gB fun o h14 => ?_
     intro h
     simp (maxSteps := 10000000) (implicitDefEqProofs := false) (disch := first | with_reducible assumption | exact rfl | exact im_ _ | (fail_if_success show Kn _ _); omega) only [bs, rs49, ls49, Nat.reduceAdd, ↓reduceIte, binD_eql_k, binD_gtr_k, binD_lss_k, binD_sub_k (k := .u8), indexD_str Tryz.underlying9, lenD_str u9]
     refine Wp.ctx (fun x => seqW _ _ _ _ (blockW _ (x))) (L49_0_ok x0 ((0 : Int), (0 : Int)) _ o (by kernel_rfl) h14) ?_
     intro e st hq
     cases o with
     | next _ => (first | cases h | (simp at h))
     | jmp n_ s_ =>
      obtain ⟨rfl, rfl, hq⟩ := hq
      obtain ⟨s3_15, s4_15⟩ := s_
      unfold F49_0 at hq
      (try simp only [] at h hq)
      revert h
      intro h; obtain rfl := Option.some.inj h
      simp (maxSteps := 10000000) (implicitDefEqProofs := false) (disch := first | with_reducible assumption | exact rfl | exact im_ _ | (fail_if_success show Kn _ _); omega) only [bs, rs49, ls49, Nat.reduceAdd, ↓reduceIte, binD_eql_k, binD_gtr_k, binD_lss_k, binD_sub_k (k := .u8), indexD_str Tryz.underlying9, lenD_str u9, hq]
      refine ⟨by simp, ?_⟩; exact fin_sc rfl rfl rfl rfl
     | ret r16 =>
      obtain ⟨rfl, hq⟩ := hq
      obtain rfl := Option.some.inj h
      simp (maxSteps := 10000000) (implicitDefEqProofs := false) (disch := first | with_reducible assumption | exact rfl | exact im_ _ | (fail_if_success show Kn _ _); omega) only [bs, rs49, ls49, Nat.reduceAdd, ↓reduceIte, binD_eql_k, binD_gtr_k, binD_lss_k, binD_sub_k (k := .u8), indexD_str Tryz.underlying9, lenD_str u9]
      exact ⟨by simp, hq⟩
   ·refine gB fun o h23 => ?_
    intro h
    simp (maxSteps := 10000000) (implicitDefEqProofs := false) (disch := first | with_reducible assumption | exact rfl | exact im_ _ | (fail_if_success show Kn _ _); omega) only [bs, rs49, ls49, Nat.reduceAdd, ↓reduceIte, binD_eql_k, binD_gtr_k, binD_lss_k, binD_sub_k (k := .u8), indexD_str Tryz.underlying9, lenD_str u9]
    refine Wp.ctx (fun x => seqW _ _ _ _ (blockW _ (x))) (L49_0_ok x0 ((0 : Int), (0 : Int)) _ o (by kernel_rfl) h23) ?_
    intro e st hq
    cases o with
    | next _ => (first | cases h | (simp at h))
    | jmp n_ s_ =>
     obtain ⟨rfl, rfl, hq⟩ := hq
     obtain ⟨s3_24, s4_24⟩ := s_
     unfold F49_0 at hq
     (try simp only [] at h hq)
     revert h
     intro h; obtain rfl := Option.some.inj h
     simp (maxSteps := 10000000) (implicitDefEqProofs := false) (disch := first | with_reducible assumption | exact rfl | exact im_ _ | (fail_if_success show Kn _ _); omega) only [bs, rs49, ls49, Nat.reduceAdd, ↓reduceIte, binD_eql_k, binD_gtr_k, binD_lss_k, binD_sub_k (k := .u8), indexD_str Tryz.underlying9, lenD_str u9, hq]
     refine ⟨by simp, ?_⟩; exact fin_sc rfl rfl rfl rfl
    | ret r25 =>
     obtain ⟨rfl, hq⟩ := hq
     obtain rfl := Option.some.inj h
     simp (maxSteps := 10000000) (implicitDefEqProofs := false) (disch := first | with_reducible assumption | exact rfl | exact im_ _ | (fail_if_success show Kn _ _); omega) only [bs, rs49, ls49, Nat.reduceAdd, ↓reduceIte, binD_eql_k, binD_gtr_k, binD_lss_k, binD_sub_k (k := .u8), indexD_str Tryz.underlying9, lenD_str u9]
     exact ⟨by simp, hq⟩
def ls52 := And.intro @faP_25_0 (And.intro @faP_25_1 (And.intro @faP_25_3 (And.intro @varld_4_0_0 (And.intro @varld_4_0_1 (@varld_4_0_3)))))
theorem c49_0 {H : List Ob} {a1 : ByteArray} {r : Bool} (h : R07_Integer a1 = some r) : callD (callW Tryz.prog A0) A0 H 49 [.p (.v (.string a1))] = some (.p (.v (.bool r)), none) :=
 callD_fun (args := [.v (.string a1)]) rfl rfl rfl (by simp only [List.map_cons, List.map_nil, wk, wks, wkL]; exact f49_ok a1 _ h)
theorem f52_ok  (x0 : Node) (r : Int) (h : R07_Own x0 = some r) : callW Tryz.prog A0 52 [.p (.agg (pv_Node x0))] [] = some (.p (.v (.int .i64 r)), []) := by
 refine call_ofI (fn := Tryz.f52) (c := bodyOf Tryz.f52) 55 rfl rfl (by kernel_rfl) (by kernel_rfl) (by kernel_rfl) ?_
 unfold R07_Own at h; unfold bodyOf Tryz.f52; simp only [ens]
 revert h
 repeat' (with_reducible refine gI (fun _ _ => ?_) (fun _ _ => ?_))
 all_goals
  intro h; obtain rfl := Option.some.inj h
  first | (simp (maxSteps := 10000000) (implicitDefEqProofs := false) (disch := first | with_reducible assumption | exact rfl | exact im_ _ | (fail_if_success show Kn _ _); omega) only [bs, rs52, ls52, Nat.reduceAdd, ↓reduceIte, binD_eql_str, lenD_lst u23, loadD_ptr a23, loadD_ptr a3, loadD_ptr a9, maxD_int, minD_int]; refine ⟨by simp, ?_⟩; exact fin_sc rfl rfl rfl rfl) | (exfalso; omega)
theorem c52_0 {H : List Ob} {a1 : Node} {r : Int} (h : R07_Own a1 = some r) : callD (callW Tryz.prog A0) A0 H 52 [.p (.agg (pv_Node a1))] = some (.p (.v (.int .i64 r)), none) :=
 callD_fun (args := [.agg (pv_Node a1)]) rfl rfl rfl (by simp only [List.map_cons, List.map_nil, wk, wks, wkL]; exact f52_ok a1 _ h)
noncomputable def L92_0 : Code := (loopsOf (bodyOf Tryz.f92)).getD 0 .skip
def g92_0 : List Ghost := [.keep [0, 1, 5]]
noncomputable def F92_0 (s0 : ByteArray) (s1 : Int) : Int → St := fun s5 => ⟨[.p (.v (.string s0)), iv s1, J, J, J, iv s5, J, J, J, J, J, J, J, J, J, J, J, J, J, J, J, J, J, J, J, J, J, J, J, J, J, J, J, J, J, J, J, J, J, J, J, J, J, J, J, J, J, J, J, J, J, J, J, J, J, J, J, J, J, J, J, J], [], 0⟩
theorem L92_0_ok (s0 : ByteArray) (s1 : Int) : ∀ s st o, ghostsD g92_0 st = some (F92_0 s0 s1 s) → iter (R04_step_L0 s0 s1) s = some o →
    Wp (evW Tryz.prog A0 92 (.loop L92_0) st) (OutQ (F92_0 s0 s1) g92_0 (fun n s st => n = 0 ∧ ghostsD [.keep [0, 1, 5]] st = some (F92_0 s0 s1 s)) (fun r st => finishD Tryz.prog A0 92 Tryz.f92 st = some (.p (.v (.int .i64 r)), [])) o) := by
 refine Wp.iter ?_
 intro s st o hg h
 generalize s = s5 at hg h
 unfold R04_step_L0 at h; unfold g92_0 F92_0 at hg ⊢
 (try simp only [] at h hg)
 unfold L92_0 bodyOf Tryz.f92; simp only [loopsOf, ens]
 revert h
 repeat' first | (with_reducible refine gB fun _ _ => ?_) | (with_reducible refine gI (fun _ _ => ?_) (fun _ _ => ?_))
 all_goals
  intro h; obtain rfl := Option.some.inj h
  first | (simp (maxSteps := 10000000) (implicitDefEqProofs := false) (disch := first | with_reducible assumption | exact rfl | exact im_ _ | (fail_if_success show Kn _ _); omega) only [bs, rs92, Nat.reduceAdd, ↓reduceIte, binD_eql_k, binD_neq_k, indexD_str Tryz.underlying9, lenD_str u9, hg]; first | (refine ⟨(rfl : Ex.ret = Ex.ret), ?_⟩; exact fin_sc rfl rfl rfl rfl) | (exact ⟨(rfl : Ex.normal = Ex.normal), by kernel_rfl⟩) | (exact ⟨(rfl : Ex.exit 0 = Ex.exit 0), rfl, by kernel_rfl⟩)) | (exfalso; omega)
theorem f92_ok  (x0 : ByteArray) (x1 : Int) (r : Int) (h : R04_step x0 x1 = some r) : callW Tryz.prog A0 92 [.p (.v (.string x0)), iv x1] [] = some (.p (.v (.int .i64 r)), []) := by
 refine call_ofI (fn := Tryz.f92) (c := bodyOf Tryz.f92) 60 rfl rfl (by kernel_rfl) (by kernel_rfl) (by kernel_rfl) ?_
 unfold R04_step at h; unfold bodyOf Tryz.f92; simp only [ens]
 revert h
 refine gI (fun h1 _ => ?_) (fun h1 _ => ?_)
 ·intro h; obtain rfl := Option.some.inj h
  simp (maxSteps := 10000000) (implicitDefEqProofs := false) (disch := first | with_reducible assumption | exact rfl | exact im_ _ | (fail_if_success show Kn _ _); omega) only [bs, rs92, Nat.reduceAdd, ↓reduceIte, binD_eql_k, binD_neq_k, indexD_str Tryz.underlying9, lenD_str u9]
  refine ⟨by simp, ?_⟩; exact fin_sc rfl rfl rfl rfl
 ·refine gB fun q2 h3 => ?_
  refine gI (fun h5 _ => ?_) (fun h5 _ => ?_)
  ·intro h; obtain rfl := Option.some.inj h
   simp (maxSteps := 10000000) (implicitDefEqProofs := false) (disch := first | with_reducible assumption | exact rfl | exact im_ _ | (fail_if_success show Kn _ _); omega) only [bs, rs92, Nat.reduceAdd, ↓reduceIte, binD_eql_k, binD_neq_k, indexD_str Tryz.underlying9, lenD_str u9]
   refine ⟨by simp, ?_⟩; exact fin_sc rfl rfl rfl rfl
  ·refine gI (fun h6 _ => ?_) (fun h6 _ => ?_)
   ·intro h; obtain rfl := Option.some.inj h
    simp (maxSteps := 10000000) (implicitDefEqProofs := false) (disch := first | with_reducible assumption | exact rfl | exact im_ _ | (fail_if_success show Kn _ _); omega) only [bs, rs92, Nat.reduceAdd, ↓reduceIte, binD_eql_k, binD_neq_k, indexD_str Tryz.underlying9, lenD_str u9]
    refine ⟨by simp, ?_⟩; exact fin_sc rfl rfl rfl rfl
   ·refine gI (fun h7 _ => ?_) (fun h7 _ => ?_)
    ·intro h; obtain rfl := Option.some.inj h
     simp (maxSteps := 10000000) (implicitDefEqProofs := false) (disch := first | with_reducible assumption | exact rfl | exact im_ _ | (fail_if_success show Kn _ _); omega) only [bs, rs92, Nat.reduceAdd, ↓reduceIte, binD_eql_k, binD_neq_k, indexD_str Tryz.underlying9, lenD_str u9]
     refine ⟨by simp, ?_⟩; exact fin_sc rfl rfl rfl rfl
    ·refine gI (fun h8 _ => ?_) (fun h8 _ => ?_)
     ·refine gI (fun h9 _ => ?_) (fun h9 _ => ?_)
      ·intro h; obtain rfl := Option.some.inj h
       simp (maxSteps := 10000000) (implicitDefEqProofs := false) (disch := first | with_reducible assumption | exact rfl | exact im_ _ | (fail_if_success show Kn _ _); omega) only [bs, rs92, Nat.reduceAdd, ↓reduceIte, binD_eql_k, binD_neq_k, indexD_str Tryz.underlying9, lenD_str u9]
       refine ⟨by simp, ?_⟩; exact fin_sc rfl rfl rfl rfl
      ·refine gB fun q10 h11 => ?_
       refine gI (fun h13 _ => ?_) (fun h13 _ => ?_)
       ·refine gB fun o h19 => ?_
        intro h
        simp (maxSteps := 10000000) (implicitDefEqProofs := false) (disch := first | with_reducible assumption | exact rfl | exact im_ _ | (fail_if_success show Kn _ _); omega) only [bs, rs92, Nat.reduceAdd, ↓reduceIte, binD_eql_k, binD_neq_k, indexD_str Tryz.underlying9, lenD_str u9]
        refine Wp.ctx (fun x => seqW _ _ _ _ (blockW _ (x))) (L92_0_ok x0 x1 x1 _ o (by kernel_rfl) h19) ?_
        intro e st hq
        cases o with
        | next _ => (first | cases h | (simp at h))
        | jmp n_ s_ =>
         obtain ⟨rfl, rfl, hq⟩ := hq
         generalize s_ = s5_20 at h hq
         unfold F92_0 at hq
         (try simp only [] at h hq)
         revert h
         intro h; obtain rfl := Option.some.inj h
         simp (maxSteps := 10000000) (implicitDefEqProofs := false) (disch := first | with_reducible assumption | exact rfl | exact im_ _ | (fail_if_success show Kn _ _); omega) only [bs, rs92, Nat.reduceAdd, ↓reduceIte, binD_eql_k, binD_neq_k, indexD_str Tryz.underlying9, lenD_str u9, hq]
         refine ⟨by simp, ?_⟩; exact fin_sc rfl rfl rfl rfl
        | ret r21 =>
         obtain ⟨rfl, hq⟩ := hq
         obtain rfl := Option.some.inj h
         simp (maxSteps := 10000000) (implicitDefEqProofs := false) (disch := first | with_reducible assumption | exact rfl | exact im_ _ | (fail_if_success show Kn _ _); omega) only [bs, rs92, Nat.reduceAdd, ↓reduceIte, binD_eql_k, binD_neq_k, indexD_str Tryz.underlying9, lenD_str u9]
         exact ⟨by simp, hq⟩
       ·intro h; obtain rfl := Option.some.inj h
        simp (maxSteps := 10000000) (implicitDefEqProofs := false) (disch := first | with_reducible assumption | exact rfl | exact im_ _ | (fail_if_success show Kn _ _); omega) only [bs, rs92, Nat.reduceAdd, ↓reduceIte, binD_eql_k, binD_neq_k, indexD_str Tryz.underlying9, lenD_str u9]
        refine ⟨by simp, ?_⟩; exact fin_sc rfl rfl rfl rfl
     ·intro h; obtain rfl := Option.some.inj h
      simp (maxSteps := 10000000) (implicitDefEqProofs := false) (disch := first | with_reducible assumption | exact rfl | exact im_ _ | (fail_if_success show Kn _ _); omega) only [bs, rs92, Nat.reduceAdd, ↓reduceIte, binD_eql_k, binD_neq_k, indexD_str Tryz.underlying9, lenD_str u9]
      refine ⟨by simp, ?_⟩; exact fin_sc rfl rfl rfl rfl
theorem c92_0 {H : List Ob} {a1 : ByteArray} {a2 : Int} {r : Int} (h : R04_step a1 a2 = some r) : callD (callW Tryz.prog A0) A0 H 92 [.p (.v (.string a1)), iv a2] = some (.p (.v (.int .i64 r)), none) :=
 callD_fun (args := [.v (.string a1), .v (.int .i64 a2)]) rfl rfl rfl (by simp only [List.map_cons, List.map_nil, wk, wks, wkL]; exact f92_ok a1 a2 _ h)
noncomputable def L68_0 : Code := (loopsOf (bodyOf Tryz.f68)).getD 0 .skip
def g68_0 : List Ghost := [.keep [0, 1]]
noncomputable def F68_0 (s0 : ByteArray) : Int → St := fun s1 => ⟨[.p (.v (.string s0)), iv s1, J, J, J, J, J, J, J, J, J, J, J, J, J, J, J, J, J, J, J, J, J], [], 0⟩
theorem L68_0_ok (s0 : ByteArray) : ∀ s st o, ghostsD g68_0 st = some (F68_0 s0 s) → iter (R04_End_L0 s0) s = some o →
    Wp (evW Tryz.prog A0 68 (.loop L68_0) st) (OutQ (F68_0 s0) g68_0 (fun n s st => n = 0 ∧ ghostsD [.keep [0, 1]] st = some (F68_0 s0 s)) (fun r st => finishD Tryz.prog A0 68 Tryz.f68 st = some (.p (.v (.int .i64 r)), [])) o) := by
 refine Wp.iter ?_
 intro s st o hg h
 generalize s = s1 at hg h
 unfold R04_End_L0 at h; unfold g68_0 F68_0 at hg ⊢
 (try simp only [] at h hg)
 unfold L68_0 bodyOf Tryz.f68; simp only [loopsOf, ens]
 revert h
 repeat' first | (with_reducible refine gB fun _ _ => ?_) | (with_reducible refine gI (fun _ _ => ?_) (fun _ _ => ?_))
 all_goals
  intro h; obtain rfl := Option.some.inj h
  first | (simp (maxSteps := 10000000) (implicitDefEqProofs := false) (disch := first | with_reducible assumption | exact rfl | exact im_ _ | (fail_if_success show Kn _ _); omega) only [bs, rs68, Nat.reduceAdd, ↓reduceIte, c92_0, lenD_str u9, hg]; first | (exact ⟨(rfl : Ex.normal = Ex.normal), by kernel_rfl⟩) | (exact ⟨(rfl : Ex.exit 0 = Ex.exit 0), rfl, by kernel_rfl⟩)) | (exfalso; omega)
theorem f68_ok  (x0 : ByteArray) (x1 : Int) (r : Int) (h : R04_End x0 x1 = some r) : callW Tryz.prog A0 68 [.p (.v (.string x0)), iv x1] [] = some (.p (.v (.int .i64 r)), []) := by
 refine call_ofI (fn := Tryz.f68) (c := bodyOf Tryz.f68) 21 rfl rfl (by kernel_rfl) (by kernel_rfl) (by kernel_rfl) ?_
 unfold R04_End at h; unfold bodyOf Tryz.f68; simp only [ens]
 revert h
 refine gI (fun h1 _ => ?_) (fun h1 _ => ?_)
 ·intro h; obtain rfl := Option.some.inj h
  simp (maxSteps := 10000000) (implicitDefEqProofs := false) (disch := first | with_reducible assumption | exact rfl | exact im_ _ | (fail_if_success show Kn _ _); omega) only [bs, rs68, Nat.reduceAdd, ↓reduceIte, c92_0, lenD_str u9]
  refine ⟨by simp, ?_⟩; exact fin_sc rfl rfl rfl rfl
 ·refine gI (fun h2 _ => ?_) (fun h2 _ => ?_)
  ·intro h; obtain rfl := Option.some.inj h
   simp (maxSteps := 10000000) (implicitDefEqProofs := false) (disch := first | with_reducible assumption | exact rfl | exact im_ _ | (fail_if_success show Kn _ _); omega) only [bs, rs68, Nat.reduceAdd, ↓reduceIte, c92_0, lenD_str u9]
   refine ⟨by simp, ?_⟩; exact fin_sc rfl rfl rfl rfl
  ·refine gB fun o h10 => ?_
   intro h
   simp (maxSteps := 10000000) (implicitDefEqProofs := false) (disch := first | with_reducible assumption | exact rfl | exact im_ _ | (fail_if_success show Kn _ _); omega) only [bs, rs68, Nat.reduceAdd, ↓reduceIte, c92_0, lenD_str u9]
   refine Wp.ctx (fun x => seqW _ _ _ _ (blockW _ (x))) (L68_0_ok x0 x1 _ o (by kernel_rfl) h10) ?_
   intro e st hq
   cases o with
   | next _ => (first | cases h | (simp at h))
   | jmp n_ s_ =>
    obtain ⟨rfl, rfl, hq⟩ := hq
    generalize s_ = s1_11 at h hq
    unfold F68_0 at hq
    (try simp only [] at h hq)
    revert h
    intro h; obtain rfl := Option.some.inj h
    simp (maxSteps := 10000000) (implicitDefEqProofs := false) (disch := first | with_reducible assumption | exact rfl | exact im_ _ | (fail_if_success show Kn _ _); omega) only [bs, rs68, Nat.reduceAdd, ↓reduceIte, c92_0, lenD_str u9, hq]
    refine ⟨by simp, ?_⟩; exact fin_sc rfl rfl rfl rfl
   | ret _ => (first | cases h | (simp at h))
theorem c68_0 {H : List Ob} {a1 : ByteArray} {a2 : Int} {r : Int} (h : R04_End a1 a2 = some r) : callD (callW Tryz.prog A0) A0 H 68 [.p (.v (.string a1)), iv a2] = some (.p (.v (.int .i64 r)), none) :=
 callD_fun (args := [.v (.string a1), .v (.int .i64 a2)]) rfl rfl rfl (by simp only [List.map_cons, List.map_nil, wk, wks, wkL]; exact f68_ok a1 a2 _ h)
theorem f53_ok  (x0 : ByteArray) (r : Bool) (h : R04_Valid x0 = some r) : callW Tryz.prog A0 53 [.p (.v (.string x0))] [] = some (.p (.v (.bool r)), []) := by
 refine call_ofI (fn := Tryz.f53) (c := bodyOf Tryz.f53) 7 rfl rfl (by kernel_rfl) (by kernel_rfl) (by kernel_rfl) ?_
 unfold R04_Valid at h; unfold bodyOf Tryz.f53; simp only [ens]
 revert h
 repeat' (with_reducible refine gB fun _ _ => ?_)
 intro h; obtain rfl := Option.some.inj h
 simp (maxSteps := 10000000) (implicitDefEqProofs := false) (disch := first | with_reducible assumption | exact rfl | exact im_ _ | (fail_if_success show Kn _ _); omega) only [bs, rs53, Nat.reduceAdd, ↓reduceIte, c68_0, lenD_str u9]
 refine ⟨by simp, ?_⟩; exact fin_sc rfl rfl rfl rfl
theorem c53_0 {H : List Ob} {a1 : ByteArray} {r : Bool} (h : R04_Valid a1 = some r) : callD (callW Tryz.prog A0) A0 H 53 [.p (.v (.string a1))] = some (.p (.v (.bool r)), none) :=
 callD_fun (args := [.v (.string a1)]) rfl rfl rfl (by simp only [List.map_cons, List.map_nil, wk, wks, wkL]; exact f53_ok a1 _ h)
theorem f65_ok  (x0 : Int) (r : Bool) (h : R03_digit x0 = some r) : callW Tryz.prog A0 65 [.p (.v (.int .u8 x0))] [] = some (.p (.v (.bool r)), []) := by
 refine call_ofI (fn := Tryz.f65) (c := bodyOf Tryz.f65) 8 rfl rfl (by kernel_rfl) (by kernel_rfl) (by kernel_rfl) ?_
 unfold R03_digit at h; unfold bodyOf Tryz.f65; simp only [ens]
 revert h
 repeat' (with_reducible refine gI (fun _ _ => ?_) (fun _ _ => ?_))
 all_goals
  intro h; obtain rfl := Option.some.inj h
  first | (simp (maxSteps := 10000000) (implicitDefEqProofs := false) (disch := first | with_reducible assumption | exact rfl | exact im_ _ | (fail_if_success show Kn _ _); omega) only [bs, rs65, Nat.reduceAdd, ↓reduceIte, binD_geq_k, binD_leq_k]; refine ⟨by simp, ?_⟩; exact fin_sc rfl rfl rfl rfl) | (exfalso; omega)
theorem c65_0 {H : List Ob} {a1 : Int} {r : Bool} (h : R03_digit a1 = some r) : callD (callW Tryz.prog A0) A0 H 65 [.p (.v (.int .u8 a1))] = some (.p (.v (.bool r)), none) :=
 callD_fun (args := [.v (.int .u8 a1)]) rfl rfl rfl (by simp only [List.map_cons, List.map_nil, wk, wks, wkL]; exact f65_ok a1 _ h)
theorem f66_ok  (x0 : ByteArray) (r : Bool) (h : R03_Keyword x0 = some r) : callW Tryz.prog A0 66 [.p (.v (.string x0))] [] = some (.p (.v (.bool r)), []) := by
 refine call_ofI (fn := Tryz.f66) (c := bodyOf Tryz.f66) 48 rfl rfl (by kernel_rfl) (by kernel_rfl) (by kernel_rfl) ?_
 unfold R03_Keyword at h; unfold bodyOf Tryz.f66; simp only [ens]
 revert h
 repeat' (with_reducible refine gI (fun _ _ => ?_) (fun _ _ => ?_))
 all_goals
  intro h; obtain rfl := Option.some.inj h
  first | (simp (maxSteps := 10000000) (implicitDefEqProofs := false) (disch := first | with_reducible assumption | exact rfl | exact im_ _ | (fail_if_success show Kn _ _); omega) only [bs, rs66, Nat.reduceAdd, ↓reduceIte, binD_eql_str]; refine ⟨by simp, ?_⟩; exact fin_sc rfl rfl rfl rfl) | (exfalso; omega)
theorem c66_0 {H : List Ob} {a1 : ByteArray} {r : Bool} (h : R03_Keyword a1 = some r) : callD (callW Tryz.prog A0) A0 H 66 [.p (.v (.string a1))] = some (.p (.v (.bool r)), none) :=
 callD_fun (args := [.v (.string a1)]) rfl rfl rfl (by simp only [List.map_cons, List.map_nil, wk, wks, wkL]; exact f66_ok a1 _ h)
theorem f67_ok  (x0 : Int) (r : Bool) (h : R03_letter x0 = some r) : callW Tryz.prog A0 67 [.p (.v (.int .u8 x0))] [] = some (.p (.v (.bool r)), []) := by
 refine call_ofI (fn := Tryz.f67) (c := bodyOf Tryz.f67) 20 rfl rfl (by kernel_rfl) (by kernel_rfl) (by kernel_rfl) ?_
 unfold R03_letter at h; unfold bodyOf Tryz.f67; simp only [ens]
 revert h
 repeat' (with_reducible refine gI (fun _ _ => ?_) (fun _ _ => ?_))
 all_goals
  intro h; obtain rfl := Option.some.inj h
  first | (simp (maxSteps := 10000000) (implicitDefEqProofs := false) (disch := first | with_reducible assumption | exact rfl | exact im_ _ | (fail_if_success show Kn _ _); omega) only [bs, rs67, Nat.reduceAdd, ↓reduceIte, binD_eql_k, binD_geq_k, binD_leq_k]; refine ⟨by simp, ?_⟩; exact fin_sc rfl rfl rfl rfl) | (exfalso; omega)
theorem c67_0 {H : List Ob} {a1 : Int} {r : Bool} (h : R03_letter a1 = some r) : callD (callW Tryz.prog A0) A0 H 67 [.p (.v (.int .u8 a1))] = some (.p (.v (.bool r)), none) :=
 callD_fun (args := [.v (.int .u8 a1)]) rfl rfl rfl (by simp only [List.map_cons, List.map_nil, wk, wks, wkL]; exact f67_ok a1 _ h)
noncomputable def L51_0 : Code := (loopsOf (bodyOf Tryz.f51)).getD 0 .skip
def g51_0 : List Ghost := [.keep [0, 3]]
noncomputable def F51_0 (s0 : ByteArray) : Int → St := fun s3 => ⟨[.p (.v (.string s0)), J, J, iv s3, J, J, J, J, J, J, J, J, J, J, J, J, J, J, J, J, J, J, J, J, J, J, J, J, J, J, J, J, J, J, J, J, J, J, J], [], 0⟩
theorem L51_0_ok (s0 : ByteArray) : ∀ s st o, ghostsD g51_0 st = some (F51_0 s0 s) → iter (R03_Valid_L0 s0) s = some o →
    Wp (evW Tryz.prog A0 51 (.loop L51_0) st) (OutQ (F51_0 s0) g51_0 (fun n s st => n = 0 ∧ ghostsD [.keep [0, 3]] st = some (F51_0 s0 s)) (fun r st => finishD Tryz.prog A0 51 Tryz.f51 st = some (.p (.v (.bool r)), [])) o) := by
 refine Wp.iter ?_
 intro s st o hg h
 generalize s = s3 at hg h
 unfold R03_Valid_L0 at h; unfold g51_0 F51_0 at hg ⊢
 (try simp only [] at h hg)
 unfold L51_0 bodyOf Tryz.f51; simp only [loopsOf, ens]
 revert h
 repeat' first | (with_reducible refine gB fun _ _ => ?_) | (with_reducible refine gT (fun _ _ => ?_) (fun _ _ => ?_)) | (with_reducible refine gI (fun _ _ => ?_) (fun _ _ => ?_))
 all_goals
  intro h; obtain rfl := Option.some.inj h
  first | (simp (maxSteps := 10000000) (implicitDefEqProofs := false) (disch := first | with_reducible assumption | exact rfl | exact im_ _ | (fail_if_success show Kn _ _); omega) only [bs, rs51, Nat.reduceAdd, ↓reduceIte, c65_0, c66_0, c67_0, indexD_str Tryz.underlying9, lenD_str u9, hg]; first | (exact ⟨(rfl : Ex.normal = Ex.normal), by kernel_rfl⟩) | (refine ⟨(rfl : Ex.ret = Ex.ret), ?_⟩; exact fin_sc rfl rfl rfl rfl) | (exact ⟨(rfl : Ex.exit 0 = Ex.exit 0), rfl, by kernel_rfl⟩)) | (exfalso; omega)
theorem f51_ok  (x0 : ByteArray) (r : Bool) (h : R03_Valid x0 = some r) : callW Tryz.prog A0 51 [.p (.v (.string x0))] [] = some (.p (.v (.bool r)), []) := by
 refine call_ofI (fn := Tryz.f51) (c := bodyOf Tryz.f51) 38 rfl rfl (by kernel_rfl) (by kernel_rfl) (by kernel_rfl) ?_
 unfold R03_Valid at h; unfold bodyOf Tryz.f51; simp only [ens]
 revert h
 refine gI (fun h1 _ => ?_) (fun h1 _ => ?_)
 ·intro h; obtain rfl := Option.some.inj h
  simp (maxSteps := 10000000) (implicitDefEqProofs := false) (disch := first | with_reducible assumption | exact rfl | exact im_ _ | (fail_if_success show Kn _ _); omega) only [bs, rs51, Nat.reduceAdd, ↓reduceIte, c65_0, c66_0, c67_0, indexD_str Tryz.underlying9, lenD_str u9]
  refine ⟨by simp, ?_⟩; exact fin_sc rfl rfl rfl rfl
 ·refine gI (fun h2 _ => ?_) (fun h2 _ => ?_)
  ·intro h; obtain rfl := Option.some.inj h
   simp (maxSteps := 10000000) (implicitDefEqProofs := false) (disch := first | with_reducible assumption | exact rfl | exact im_ _ | (fail_if_success show Kn _ _); omega) only [bs, rs51, Nat.reduceAdd, ↓reduceIte, c65_0, c66_0, c67_0, indexD_str Tryz.underlying9, lenD_str u9]
   refine ⟨by simp, ?_⟩; exact fin_sc rfl rfl rfl rfl
  ·refine gB fun q3 h4 => ?_
   refine gB fun r6 h7 => ?_
   refine gT (fun h9 _ => ?_) (fun h9 _ => ?_)
   ·intro h; obtain rfl := Option.some.inj h
    simp (maxSteps := 10000000) (implicitDefEqProofs := false) (disch := first | with_reducible assumption | exact rfl | exact im_ _ | (fail_if_success show Kn _ _); omega) only [bs, rs51, Nat.reduceAdd, ↓reduceIte, c65_0, c66_0, c67_0, indexD_str Tryz.underlying9, lenD_str u9]
    refine ⟨by simp, ?_⟩; exact fin_sc rfl rfl rfl rfl
   ·refine gB fun r10 h11 => ?_
    refine gT (fun h13 _ => ?_) (fun h13 _ => ?_)
    ·intro h; obtain rfl := Option.some.inj h
     simp (maxSteps := 10000000) (implicitDefEqProofs := false) (disch := first | with_reducible assumption | exact rfl | exact im_ _ | (fail_if_success show Kn _ _); omega) only [bs, rs51, Nat.reduceAdd, ↓reduceIte, c65_0, c66_0, c67_0, indexD_str Tryz.underlying9, lenD_str u9]
     refine ⟨by simp, ?_⟩; exact fin_sc rfl rfl rfl rfl
    ·refine gB fun o h26 => ?_
     intro h
     simp (maxSteps := 10000000) (implicitDefEqProofs := false) (disch := first | with_reducible assumption | exact rfl | exact im_ _ | (fail_if_success show Kn _ _); omega) only [bs, rs51, Nat.reduceAdd, ↓reduceIte, c65_0, c66_0, c67_0, indexD_str Tryz.underlying9, lenD_str u9]
     refine Wp.ctx (fun x => seqW _ _ _ _ (blockW _ (x))) (L51_0_ok x0 (0 : Int) _ o (by kernel_rfl) h26) ?_
     intro e st hq
     cases o with
     | next _ => (first | cases h | (simp at h))
     | jmp n_ s_ =>
      obtain ⟨rfl, rfl, hq⟩ := hq
      generalize s_ = s3_27 at h hq
      unfold F51_0 at hq
      (try simp only [] at h hq)
      revert h
      intro h; obtain rfl := Option.some.inj h
      simp (maxSteps := 10000000) (implicitDefEqProofs := false) (disch := first | with_reducible assumption | exact rfl | exact im_ _ | (fail_if_success show Kn _ _); omega) only [bs, rs51, Nat.reduceAdd, ↓reduceIte, c65_0, c66_0, c67_0, indexD_str Tryz.underlying9, lenD_str u9, hq]
      refine ⟨by simp, ?_⟩; exact fin_sc rfl rfl rfl rfl
     | ret r28 =>
      obtain ⟨rfl, hq⟩ := hq
      obtain rfl := Option.some.inj h
      simp (maxSteps := 10000000) (implicitDefEqProofs := false) (disch := first | with_reducible assumption | exact rfl | exact im_ _ | (fail_if_success show Kn _ _); omega) only [bs, rs51, Nat.reduceAdd, ↓reduceIte, c65_0, c66_0, c67_0, indexD_str Tryz.underlying9, lenD_str u9]
      exact ⟨by simp, hq⟩
def ls43 := And.intro @ce_9_x (And.intro @faP_25_0 (And.intro @faP_25_1 (And.intro @faP_25_2 (And.intro @idxL_22 (And.intro @varld_4_0_0 (And.intro @varld_4_0_1 (And.intro @varld_4_0_2 (@varlv_4_0_4))))))))
theorem c51_0 {H : List Ob} {a1 : ByteArray} {r : Bool} (h : R03_Valid a1 = some r) : callD (callW Tryz.prog A0) A0 H 51 [.p (.v (.string a1))] = some (.p (.v (.bool r)), none) :=
 callD_fun (args := [.v (.string a1)]) rfl rfl rfl (by simp only [List.map_cons, List.map_nil, wk, wks, wkL]; exact f51_ok a1 _ h)
noncomputable def L43_0 : Code := (loopsOf (bodyOf Tryz.f43)).getD 0 .skip
def g43_0 : List Ghost := [.keep [1, 3]]
noncomputable def F43_0 (w0_0 : Int) (w0_1 : ByteArray) (w0_2 : (List ByteArray)) (w0_3 : (List Node)) : Int → St := fun s3 => ⟨[J, .ptr 0 0, J, iv s3, J, J, J, J, J, J, J, J, J, J, J, J, J, J, J, J, J, J, J, J, J, J, J, J, J, J, J, J, J, J, J, J, J, J, J, J, J, J, J, J, J, J, J, J, J, J, J, J, J, J, J, J, J], [.var [iv w0_0, .p (.v (.string w0_1)), .p (.lst false w0_2.length (encL en_str w0_2)), .p (.lst false w0_3.length (encL en_Node w0_3))]], 0⟩
theorem L43_0_ok (w0_0 : Int) (w0_1 : ByteArray) (w0_2 : (List ByteArray)) (w0_3 : (List Node)) : ∀ s st o, ghostsD g43_0 st = some (F43_0 w0_0 w0_1 w0_2 w0_3 s) → iter (R07_node_L0 w0_0 w0_1 w0_2 w0_3) s = some o →
    Wp (evW Tryz.prog A0 43 (.loop L43_0) st) (OutQ (F43_0 w0_0 w0_1 w0_2 w0_3) g43_0 (fun n s st => n = 0 ∧ ghostsD [.keep [1, 3]] st = some (F43_0 w0_0 w0_1 w0_2 w0_3 s)) (fun r st => finishD Tryz.prog A0 43 Tryz.f43 st = some (.p (.v (.int .i64 r)), [])) o) := by
 refine Wp.iter ?_
 intro s st o hg h
 generalize s = s3 at hg h
 unfold R07_node_L0 at h; unfold g43_0 F43_0 at hg ⊢
 (try simp only [] at h hg)
 unfold L43_0 bodyOf Tryz.f43; simp only [loopsOf, ens]
 revert h
 repeat' first | (with_reducible refine gR fun _ _ _ _ => ?_) | (with_reducible refine gB fun _ _ => ?_) | (with_reducible refine gT (fun _ _ => ?_) (fun _ _ => ?_)) | (with_reducible refine gI (fun _ _ => ?_) (fun _ _ => ?_))
 all_goals
  intro h; obtain rfl := Option.some.inj h
  first | (simp (maxSteps := 10000000) (implicitDefEqProofs := false) (disch := first | with_reducible assumption | exact rfl | exact im_ _ | (fail_if_success show Kn _ _); omega) only [bs, rs43, ls43, Nat.reduceAdd, ↓reduceIte, c48_0, c49_0, c50_0, c51_0, c52_0, c53_0, lenD_lst u22, loadD_iptr a9, loadD_pagg a25 z25, loadD_ptr a22, loadD_ptr a3, loadD_ptr a9, hg]; first | (exact ⟨(rfl : Ex.normal = Ex.normal), by kernel_rfl⟩) | (refine ⟨(rfl : Ex.ret = Ex.ret), ?_⟩; exact fin_sc rfl rfl rfl rfl) | (exact ⟨(rfl : Ex.exit 0 = Ex.exit 0), rfl, by kernel_rfl⟩)) | (exfalso; omega)
theorem f43_ok  (x0 : Node) (r : Int) (h : R07_node x0 = some r) : callW Tryz.prog A0 43 [.p (.agg (pv_Node x0))] [] = some (.p (.v (.int .i64 r)), []) := by
 refine call_ofI (fn := Tryz.f43) (c := bodyOf Tryz.f43) 56 rfl rfl (by kernel_rfl) (by kernel_rfl) (by kernel_rfl) ?_
 unfold R07_node at h; unfold bodyOf Tryz.f43; simp only [ens]
 revert h
 refine gB fun r1 h2 => ?_
 refine gT (fun h4 _ => ?_) (fun h4 _ => ?_)
 ·refine gI (fun h5 _ => ?_) (fun h5 _ => ?_)
  ·refine gB fun r6 h7 => ?_
   refine gT (fun h9 _ => ?_) (fun h9 _ => ?_)
   ·refine gI (fun h10 _ => ?_) (fun h10 _ => ?_)
    ·refine gB fun r11 h12 => ?_
     refine gI (fun h14 _ => ?_) (fun h14 _ => ?_)
     ·refine gB fun o h23 => ?_
      intro h
      simp (maxSteps := 10000000) (implicitDefEqProofs := false) (disch := first | with_reducible assumption | exact rfl | exact im_ _ | (fail_if_success show Kn _ _); omega) only [bs, rs43, ls43, Nat.reduceAdd, ↓reduceIte, c48_0, c49_0, c50_0, c51_0, c52_0, c53_0, lenD_lst u22, loadD_iptr a9, loadD_pagg a25 z25, loadD_ptr a22, loadD_ptr a3, loadD_ptr a9]
      refine Wp.ctx (fun x => seqW _ _ _ _ (blockW _ (x))) (L43_0_ok x0.Kind x0.Text x0.Gaps x0.Kids (0 : Int) _ o (by kernel_rfl) h23) ?_
      intro e st hq
      cases o with
      | next _ => (first | cases h | (simp at h))
      | jmp n_ s_ =>
       obtain ⟨rfl, rfl, hq⟩ := hq
       generalize s_ = s3_24 at h hq
       unfold F43_0 at hq
       (try simp only [] at h hq)
       revert h
       intro h; obtain rfl := Option.some.inj h
       simp (maxSteps := 10000000) (implicitDefEqProofs := false) (disch := first | with_reducible assumption | exact rfl | exact im_ _ | (fail_if_success show Kn _ _); omega) only [bs, rs43, ls43, Nat.reduceAdd, ↓reduceIte, c48_0, c49_0, c50_0, c51_0, c52_0, c53_0, lenD_lst u22, loadD_iptr a9, loadD_pagg a25 z25, loadD_ptr a22, loadD_ptr a3, loadD_ptr a9, hq]
       refine ⟨by simp, ?_⟩; exact fin_sc rfl rfl rfl rfl
      | ret r25 =>
       obtain ⟨rfl, hq⟩ := hq
       obtain rfl := Option.some.inj h
       simp (maxSteps := 10000000) (implicitDefEqProofs := false) (disch := first | with_reducible assumption | exact rfl | exact im_ _ | (fail_if_success show Kn _ _); omega) only [bs, rs43, ls43, Nat.reduceAdd, ↓reduceIte, c48_0, c49_0, c50_0, c51_0, c52_0, c53_0, lenD_lst u22, loadD_iptr a9, loadD_pagg a25 z25, loadD_ptr a22, loadD_ptr a3, loadD_ptr a9]
       exact ⟨by simp, hq⟩
     ·intro h; obtain rfl := Option.some.inj h
      simp (maxSteps := 10000000) (implicitDefEqProofs := false) (disch := first | with_reducible assumption | exact rfl | exact im_ _ | (fail_if_success show Kn _ _); omega) only [bs, rs43, ls43, Nat.reduceAdd, ↓reduceIte, c48_0, c49_0, c50_0, c51_0, c52_0, c53_0, lenD_lst u22, loadD_iptr a9, loadD_pagg a25 z25, loadD_ptr a22, loadD_ptr a3, loadD_ptr a9]
      refine ⟨by simp, ?_⟩; exact fin_sc rfl rfl rfl rfl
    ·refine gB fun o h34 => ?_
     intro h
     simp (maxSteps := 10000000) (implicitDefEqProofs := false) (disch := first | with_reducible assumption | exact rfl | exact im_ _ | (fail_if_success show Kn _ _); omega) only [bs, rs43, ls43, Nat.reduceAdd, ↓reduceIte, c48_0, c49_0, c50_0, c51_0, c52_0, c53_0, lenD_lst u22, loadD_iptr a9, loadD_pagg a25 z25, loadD_ptr a22, loadD_ptr a3, loadD_ptr a9]
     refine Wp.ctx (fun x => seqW _ _ _ _ (blockW _ (x))) (L43_0_ok x0.Kind x0.Text x0.Gaps x0.Kids (0 : Int) _ o (by kernel_rfl) h34) ?_
     intro e st hq
     cases o with
     | next _ => (first | cases h | (simp at h))
     | jmp n_ s_ =>
      obtain ⟨rfl, rfl, hq⟩ := hq
      generalize s_ = s3_35 at h hq
      unfold F43_0 at hq
      (try simp only [] at h hq)
      revert h
      intro h; obtain rfl := Option.some.inj h
      simp (maxSteps := 10000000) (implicitDefEqProofs := false) (disch := first | with_reducible assumption | exact rfl | exact im_ _ | (fail_if_success show Kn _ _); omega) only [bs, rs43, ls43, Nat.reduceAdd, ↓reduceIte, c48_0, c49_0, c50_0, c51_0, c52_0, c53_0, lenD_lst u22, loadD_iptr a9, loadD_pagg a25 z25, loadD_ptr a22, loadD_ptr a3, loadD_ptr a9, hq]
      refine ⟨by simp, ?_⟩; exact fin_sc rfl rfl rfl rfl
     | ret r36 =>
      obtain ⟨rfl, hq⟩ := hq
      obtain rfl := Option.some.inj h
      simp (maxSteps := 10000000) (implicitDefEqProofs := false) (disch := first | with_reducible assumption | exact rfl | exact im_ _ | (fail_if_success show Kn _ _); omega) only [bs, rs43, ls43, Nat.reduceAdd, ↓reduceIte, c48_0, c49_0, c50_0, c51_0, c52_0, c53_0, lenD_lst u22, loadD_iptr a9, loadD_pagg a25 z25, loadD_ptr a22, loadD_ptr a3, loadD_ptr a9]
      exact ⟨by simp, hq⟩
   ·intro h; obtain rfl := Option.some.inj h
    simp (maxSteps := 10000000) (implicitDefEqProofs := false) (disch := first | with_reducible assumption | exact rfl | exact im_ _ | (fail_if_success show Kn _ _); omega) only [bs, rs43, ls43, Nat.reduceAdd, ↓reduceIte, c48_0, c49_0, c50_0, c51_0, c52_0, c53_0, lenD_lst u22, loadD_iptr a9, loadD_pagg a25 z25, loadD_ptr a22, loadD_ptr a3, loadD_ptr a9]
    refine ⟨by simp, ?_⟩; exact fin_sc rfl rfl rfl rfl
  ·refine gB fun r37 h38 => ?_
   refine gT (fun h40 _ => ?_) (fun h40 _ => ?_)
   ·refine gB fun r41 h42 => ?_
    refine gT (fun h44 _ => ?_) (fun h44 _ => ?_)
    ·refine gI (fun h45 _ => ?_) (fun h45 _ => ?_)
     ·refine gB fun r46 h47 => ?_
      refine gI (fun h49 _ => ?_) (fun h49 _ => ?_)
      ·refine gB fun o h58 => ?_
       intro h
       simp (maxSteps := 10000000) (implicitDefEqProofs := false) (disch := first | with_reducible assumption | exact rfl | exact im_ _ | (fail_if_success show Kn _ _); omega) only [bs, rs43, ls43, Nat.reduceAdd, ↓reduceIte, c48_0, c49_0, c50_0, c51_0, c52_0, c53_0, lenD_lst u22, loadD_iptr a9, loadD_pagg a25 z25, loadD_ptr a22, loadD_ptr a3, loadD_ptr a9]
       refine Wp.ctx (fun x => seqW _ _ _ _ (blockW _ (x))) (L43_0_ok x0.Kind x0.Text x0.Gaps x0.Kids (0 : Int) _ o (by kernel_rfl) h58) ?_
       intro e st hq
       cases o with
       | next _ => (first | cases h | (simp at h))
       | jmp n_ s_ =>
        obtain ⟨rfl, rfl, hq⟩ := hq
        generalize s_ = s3_59 at h hq
        unfold F43_0 at hq
        (try simp only [] at h hq)
        revert h
        intro h; obtain rfl := Option.some.inj h
        simp (maxSteps := 10000000) (implicitDefEqProofs := false) (disch := first | with_reducible assumption | exact rfl | exact im_ _ | (fail_if_success show Kn _ _); omega) only [bs, rs43, ls43, Nat.reduceAdd, ↓reduceIte, c48_0, c49_0, c50_0, c51_0, c52_0, c53_0, lenD_lst u22, loadD_iptr a9, loadD_pagg a25 z25, loadD_ptr a22, loadD_ptr a3, loadD_ptr a9, hq]
        refine ⟨by simp, ?_⟩; exact fin_sc rfl rfl rfl rfl
       | ret r60 =>
        obtain ⟨rfl, hq⟩ := hq
        obtain rfl := Option.some.inj h
        simp (maxSteps := 10000000) (implicitDefEqProofs := false) (disch := first | with_reducible assumption | exact rfl | exact im_ _ | (fail_if_success show Kn _ _); omega) only [bs, rs43, ls43, Nat.reduceAdd, ↓reduceIte, c48_0, c49_0, c50_0, c51_0, c52_0, c53_0, lenD_lst u22, loadD_iptr a9, loadD_pagg a25 z25, loadD_ptr a22, loadD_ptr a3, loadD_ptr a9]
        exact ⟨by simp, hq⟩
      ·intro h; obtain rfl := Option.some.inj h
       simp (maxSteps := 10000000) (implicitDefEqProofs := false) (disch := first | with_reducible assumption | exact rfl | exact im_ _ | (fail_if_success show Kn _ _); omega) only [bs, rs43, ls43, Nat.reduceAdd, ↓reduceIte, c48_0, c49_0, c50_0, c51_0, c52_0, c53_0, lenD_lst u22, loadD_iptr a9, loadD_pagg a25 z25, loadD_ptr a22, loadD_ptr a3, loadD_ptr a9]
       refine ⟨by simp, ?_⟩; exact fin_sc rfl rfl rfl rfl
     ·refine gB fun o h69 => ?_
      intro h
      simp (maxSteps := 10000000) (implicitDefEqProofs := false) (disch := first | with_reducible assumption | exact rfl | exact im_ _ | (fail_if_success show Kn _ _); omega) only [bs, rs43, ls43, Nat.reduceAdd, ↓reduceIte, c48_0, c49_0, c50_0, c51_0, c52_0, c53_0, lenD_lst u22, loadD_iptr a9, loadD_pagg a25 z25, loadD_ptr a22, loadD_ptr a3, loadD_ptr a9]
      refine Wp.ctx (fun x => seqW _ _ _ _ (blockW _ (x))) (L43_0_ok x0.Kind x0.Text x0.Gaps x0.Kids (0 : Int) _ o (by kernel_rfl) h69) ?_
      intro e st hq
      cases o with
      | next _ => (first | cases h | (simp at h))
      | jmp n_ s_ =>
       obtain ⟨rfl, rfl, hq⟩ := hq
       generalize s_ = s3_70 at h hq
       unfold F43_0 at hq
       (try simp only [] at h hq)
       revert h
       intro h; obtain rfl := Option.some.inj h
       simp (maxSteps := 10000000) (implicitDefEqProofs := false) (disch := first | with_reducible assumption | exact rfl | exact im_ _ | (fail_if_success show Kn _ _); omega) only [bs, rs43, ls43, Nat.reduceAdd, ↓reduceIte, c48_0, c49_0, c50_0, c51_0, c52_0, c53_0, lenD_lst u22, loadD_iptr a9, loadD_pagg a25 z25, loadD_ptr a22, loadD_ptr a3, loadD_ptr a9, hq]
       refine ⟨by simp, ?_⟩; exact fin_sc rfl rfl rfl rfl
      | ret r71 =>
       obtain ⟨rfl, hq⟩ := hq
       obtain rfl := Option.some.inj h
       simp (maxSteps := 10000000) (implicitDefEqProofs := false) (disch := first | with_reducible assumption | exact rfl | exact im_ _ | (fail_if_success show Kn _ _); omega) only [bs, rs43, ls43, Nat.reduceAdd, ↓reduceIte, c48_0, c49_0, c50_0, c51_0, c52_0, c53_0, lenD_lst u22, loadD_iptr a9, loadD_pagg a25 z25, loadD_ptr a22, loadD_ptr a3, loadD_ptr a9]
       exact ⟨by simp, hq⟩
    ·intro h; obtain rfl := Option.some.inj h
     simp (maxSteps := 10000000) (implicitDefEqProofs := false) (disch := first | with_reducible assumption | exact rfl | exact im_ _ | (fail_if_success show Kn _ _); omega) only [bs, rs43, ls43, Nat.reduceAdd, ↓reduceIte, c48_0, c49_0, c50_0, c51_0, c52_0, c53_0, lenD_lst u22, loadD_iptr a9, loadD_pagg a25 z25, loadD_ptr a22, loadD_ptr a3, loadD_ptr a9]
     refine ⟨by simp, ?_⟩; exact fin_sc rfl rfl rfl rfl
   ·refine gI (fun h72 _ => ?_) (fun h72 _ => ?_)
    ·refine gB fun r73 h74 => ?_
     refine gI (fun h76 _ => ?_) (fun h76 _ => ?_)
     ·refine gB fun o h85 => ?_
      intro h
      simp (maxSteps := 10000000) (implicitDefEqProofs := false) (disch := first | with_reducible assumption | exact rfl | exact im_ _ | (fail_if_success show Kn _ _); omega) only [bs, rs43, ls43, Nat.reduceAdd, ↓reduceIte, c48_0, c49_0, c50_0, c51_0, c52_0, c53_0, lenD_lst u22, loadD_iptr a9, loadD_pagg a25 z25, loadD_ptr a22, loadD_ptr a3, loadD_ptr a9]
      refine Wp.ctx (fun x => seqW _ _ _ _ (blockW _ (x))) (L43_0_ok x0.Kind x0.Text x0.Gaps x0.Kids (0 : Int) _ o (by kernel_rfl) h85) ?_
      intro e st hq
      cases o with
      | next _ => (first | cases h | (simp at h))
      | jmp n_ s_ =>
       obtain ⟨rfl, rfl, hq⟩ := hq
       generalize s_ = s3_86 at h hq
       unfold F43_0 at hq
       (try simp only [] at h hq)
       revert h
       intro h; obtain rfl := Option.some.inj h
       simp (maxSteps := 10000000) (implicitDefEqProofs := false) (disch := first | with_reducible assumption | exact rfl | exact im_ _ | (fail_if_success show Kn _ _); omega) only [bs, rs43, ls43, Nat.reduceAdd, ↓reduceIte, c48_0, c49_0, c50_0, c51_0, c52_0, c53_0, lenD_lst u22, loadD_iptr a9, loadD_pagg a25 z25, loadD_ptr a22, loadD_ptr a3, loadD_ptr a9, hq]
       refine ⟨by simp, ?_⟩; exact fin_sc rfl rfl rfl rfl
      | ret r87 =>
       obtain ⟨rfl, hq⟩ := hq
       obtain rfl := Option.some.inj h
       simp (maxSteps := 10000000) (implicitDefEqProofs := false) (disch := first | with_reducible assumption | exact rfl | exact im_ _ | (fail_if_success show Kn _ _); omega) only [bs, rs43, ls43, Nat.reduceAdd, ↓reduceIte, c48_0, c49_0, c50_0, c51_0, c52_0, c53_0, lenD_lst u22, loadD_iptr a9, loadD_pagg a25 z25, loadD_ptr a22, loadD_ptr a3, loadD_ptr a9]
       exact ⟨by simp, hq⟩
     ·intro h; obtain rfl := Option.some.inj h
      simp (maxSteps := 10000000) (implicitDefEqProofs := false) (disch := first | with_reducible assumption | exact rfl | exact im_ _ | (fail_if_success show Kn _ _); omega) only [bs, rs43, ls43, Nat.reduceAdd, ↓reduceIte, c48_0, c49_0, c50_0, c51_0, c52_0, c53_0, lenD_lst u22, loadD_iptr a9, loadD_pagg a25 z25, loadD_ptr a22, loadD_ptr a3, loadD_ptr a9]
      refine ⟨by simp, ?_⟩; exact fin_sc rfl rfl rfl rfl
    ·refine gB fun o h96 => ?_
     intro h
     simp (maxSteps := 10000000) (implicitDefEqProofs := false) (disch := first | with_reducible assumption | exact rfl | exact im_ _ | (fail_if_success show Kn _ _); omega) only [bs, rs43, ls43, Nat.reduceAdd, ↓reduceIte, c48_0, c49_0, c50_0, c51_0, c52_0, c53_0, lenD_lst u22, loadD_iptr a9, loadD_pagg a25 z25, loadD_ptr a22, loadD_ptr a3, loadD_ptr a9]
     refine Wp.ctx (fun x => seqW _ _ _ _ (blockW _ (x))) (L43_0_ok x0.Kind x0.Text x0.Gaps x0.Kids (0 : Int) _ o (by kernel_rfl) h96) ?_
     intro e st hq
     cases o with
     | next _ => (first | cases h | (simp at h))
     | jmp n_ s_ =>
      obtain ⟨rfl, rfl, hq⟩ := hq
      generalize s_ = s3_97 at h hq
      unfold F43_0 at hq
      (try simp only [] at h hq)
      revert h
      intro h; obtain rfl := Option.some.inj h
      simp (maxSteps := 10000000) (implicitDefEqProofs := false) (disch := first | with_reducible assumption | exact rfl | exact im_ _ | (fail_if_success show Kn _ _); omega) only [bs, rs43, ls43, Nat.reduceAdd, ↓reduceIte, c48_0, c49_0, c50_0, c51_0, c52_0, c53_0, lenD_lst u22, loadD_iptr a9, loadD_pagg a25 z25, loadD_ptr a22, loadD_ptr a3, loadD_ptr a9, hq]
      refine ⟨by simp, ?_⟩; exact fin_sc rfl rfl rfl rfl
     | ret r98 =>
      obtain ⟨rfl, hq⟩ := hq
      obtain rfl := Option.some.inj h
      simp (maxSteps := 10000000) (implicitDefEqProofs := false) (disch := first | with_reducible assumption | exact rfl | exact im_ _ | (fail_if_success show Kn _ _); omega) only [bs, rs43, ls43, Nat.reduceAdd, ↓reduceIte, c48_0, c49_0, c50_0, c51_0, c52_0, c53_0, lenD_lst u22, loadD_iptr a9, loadD_pagg a25 z25, loadD_ptr a22, loadD_ptr a3, loadD_ptr a9]
      exact ⟨by simp, hq⟩
 ·intro h; obtain rfl := Option.some.inj h
  simp (maxSteps := 10000000) (implicitDefEqProofs := false) (disch := first | with_reducible assumption | exact rfl | exact im_ _ | (fail_if_success show Kn _ _); omega) only [bs, rs43, ls43, Nat.reduceAdd, ↓reduceIte, c48_0, c49_0, c50_0, c51_0, c52_0, c53_0, lenD_lst u22, loadD_iptr a9, loadD_pagg a25 z25, loadD_ptr a22, loadD_ptr a3, loadD_ptr a9]
  refine ⟨by simp, ?_⟩; exact fin_sc rfl rfl rfl rfl
def ls27 := And.intro @faP_25_3 (And.intro @idxL_23 (And.intro @lk_frz_25 (And.intro @varld_4_0_3 (@varlv_4_0_4))))
theorem c43_0 {H : List Ob} {a1 : Node} {r : Int} (h : R07_node a1 = some r) : callD (callW Tryz.prog A0) A0 H 43 [.p (.agg (pv_Node a1))] = some (.p (.v (.int .i64 r)), none) :=
 callD_fun (args := [.agg (pv_Node a1)]) rfl rfl rfl (by simp only [List.map_cons, List.map_nil, wk, wks, wkL]; exact f43_ok a1 _ h)
theorem c27r_0 {rec : Node → Option Int} (hrec : ∀ x0 r, rec x0 = some r → callW Tryz.prog A0 27 [.p (.agg (pv_Node x0))] [] = some (.p (.v (.int .i64 r)), [])) {H : List Ob} {a1 : Node} {r : Int} (h : rec a1 = some r) : callD (callW Tryz.prog A0) A0 H 27 [.p (.agg (pv_Node a1))] = some (.p (.v (.int .i64 r)), none) :=
 callD_fun (args := [.agg (pv_Node a1)]) rfl rfl rfl (by simp only [List.map_cons, List.map_nil, wk, wks, wkL]; exact hrec a1 _ h)
noncomputable def L27_0 : Code := (loopsOf (bodyOf Tryz.f27)).getD 0 .skip
def g27_0 : List Ghost := [.keep [1, 3, 4]]
noncomputable def F27_0 (w0_0 : Int) (w0_1 : ByteArray) (w0_2 : (List ByteArray)) (w0_3 : (List Node)) : (Int × Int) → St := fun (s3, s4) => ⟨[J, .ptr 0 0, J, iv s3, iv s4, J, J, J, J, J, J, J, J, J, J, J, J, J, J, J, J, J, J, J, J], [.var [iv w0_0, .p (.v (.string w0_1)), .p (.lst false w0_2.length (encL en_str w0_2)), .p (.lst false w0_3.length (encL en_Node w0_3))]], 0⟩
theorem L27_0_ok {rec : Node → Option Int} (hrec : ∀ x0 r, rec x0 = some r → callW Tryz.prog A0 27 [.p (.agg (pv_Node x0))] [] = some (.p (.v (.int .i64 r)), [])) (w0_0 : Int) (w0_1 : ByteArray) (w0_2 : (List ByteArray)) (w0_3 : (List Node)) : ∀ s st o, ghostsD g27_0 st = some (F27_0 w0_0 w0_1 w0_2 w0_3 s) → iter (R07_first_L0 rec w0_0 w0_1 w0_2 w0_3) s = some o →
    Wp (evW Tryz.prog A0 27 (.loop L27_0) st) (OutQ (F27_0 w0_0 w0_1 w0_2 w0_3) g27_0 (fun n s st => n = 0 ∧ ghostsD [.keep [1, 3, 4]] st = some (F27_0 w0_0 w0_1 w0_2 w0_3 s)) (fun r st => finishD Tryz.prog A0 27 Tryz.f27 st = some (.p (.v (.int .i64 r)), [])) o) := by
 refine Wp.iter ?_
 intro s st o hg h
 obtain ⟨s3, s4⟩ := s
 unfold R07_first_L0 at h; unfold g27_0 F27_0 at hg ⊢
 (try simp only [] at h hg)
 unfold L27_0 bodyOf Tryz.f27; simp only [loopsOf, ens]
 revert h
 repeat' first | (with_reducible refine gR fun _ _ _ _ => ?_) | (with_reducible refine gB fun _ _ => ?_) | (with_reducible refine gI (fun _ _ => ?_) (fun _ _ => ?_))
 all_goals
  intro h; obtain rfl := Option.some.inj h
  first | (simp (maxSteps := 10000000) (implicitDefEqProofs := false) (disch := first | with_reducible assumption | exact rfl | exact im_ _ | (fail_if_success show Kn _ _); omega) only [bs, rs27, ls27, Nat.reduceAdd, ↓reduceIte, c27r_0 hrec, c43_0, lenD_lst u23, loadD_iagg a25 z25, loadD_pagg a25 z25, loadD_ptr a23, hg]; first | (exact ⟨(rfl : Ex.normal = Ex.normal), by kernel_rfl⟩) | (exact ⟨(rfl : Ex.exit 0 = Ex.exit 0), rfl, by kernel_rfl⟩)) | (exfalso; omega)
theorem f27_ok {rec : Node → Option Int} (hrec : ∀ x0 r, rec x0 = some r → callW Tryz.prog A0 27 [.p (.agg (pv_Node x0))] [] = some (.p (.v (.int .i64 r)), []))  (x0 : Node) (r : Int) (h : R07_first.body rec x0 = some r) : callW Tryz.prog A0 27 [.p (.agg (pv_Node x0))] [] = some (.p (.v (.int .i64 r)), []) := by
 refine call_ofI (fn := Tryz.f27) (c := bodyOf Tryz.f27) 24 rfl rfl (by kernel_rfl) (by kernel_rfl) (by kernel_rfl) ?_
 unfold R07_first.body at h; unfold bodyOf Tryz.f27; simp only [ens]
 revert h
 refine gB fun r1 h2 => ?_
 refine gB fun o h12 => ?_
 intro h
 simp (maxSteps := 10000000) (implicitDefEqProofs := false) (disch := first | with_reducible assumption | exact rfl | exact im_ _ | (fail_if_success show Kn _ _); omega) only [bs, rs27, ls27, Nat.reduceAdd, ↓reduceIte, c27r_0 hrec, c43_0, lenD_lst u23, loadD_iagg a25 z25, loadD_pagg a25 z25, loadD_ptr a23]
 refine Wp.ctx (fun x => seqW _ _ _ _ (blockW _ (x))) (L27_0_ok hrec x0.Kind x0.Text x0.Gaps x0.Kids (r1, (0 : Int)) _ o (by kernel_rfl) h12) ?_
 intro e st hq
 cases o with
 | next _ => (first | cases h | (simp at h))
 | jmp n_ s_ =>
  obtain ⟨rfl, rfl, hq⟩ := hq
  obtain ⟨s3_13, s4_13⟩ := s_
  unfold F27_0 at hq
  (try simp only [] at h hq)
  revert h
  intro h; obtain rfl := Option.some.inj h
  simp (maxSteps := 10000000) (implicitDefEqProofs := false) (disch := first | with_reducible assumption | exact rfl | exact im_ _ | (fail_if_success show Kn _ _); omega) only [bs, rs27, ls27, Nat.reduceAdd, ↓reduceIte, c27r_0 hrec, c43_0, lenD_lst u23, loadD_iagg a25 z25, loadD_pagg a25 z25, loadD_ptr a23, hq]
  refine ⟨by simp, ?_⟩; exact fin_sc rfl rfl rfl rfl
 | ret _ => (first | cases h | (simp at h))
theorem f27_spec : ∀ (x0 : Node) r, R07_firstS x0 = some r → callW Tryz.prog A0 27 [.p (.agg (pv_Node x0))] [] = some (.p (.v (.int .i64 r)), []) := by
 have key : ∀ n (x0 : Node) r, R07_firstS_mu x0 < n → R07_firstS x0 = some r → callW Tryz.prog A0 27 [.p (.agg (pv_Node x0))] [] = some (.p (.v (.int .i64 r)), []) := by
  intro n
  induction n with
  | zero => intro x0 r h; omega
  | succ n ih =>
   intro x0 r hn h
   refine f27_ok (rec := fun x0' => if R07_firstS_mu x0' < R07_firstS_mu x0 then R07_firstS x0' else none) ?_ x0 r (R07_firstS_body x0 r h)
   intro x0' r' h'
   by_cases hm : R07_firstS_mu x0' < R07_firstS_mu x0
   ·rw [if_pos hm] at h'; exact ih x0' r' (by omega) h'
   ·rw [if_neg hm] at h'; cases h'
 intro x0 r h
 exact key _ x0 r (Nat.lt_succ_self _) h
def ls9 := @varlv_4_0_4
theorem c27_1 {H : List Ob} {a1 : Node} {r : Int} (h : R07_firstS a1 = some r) : callD (callW Tryz.prog A0) A0 H 27 [.p (.agg (pv_Node a1))] = some (.p (.v (.int .i64 r)), none) :=
 callD_fun (args := [.agg (pv_Node a1)]) rfl rfl rfl (by simp only [List.map_cons, List.map_nil, wk, wks, wkL]; exact f27_spec a1 _ h)
theorem f9_ok  (x0 : Node) (r : Int) (h : R07_Check x0 = some r) : callW Tryz.prog A0 9 [.p (.agg (pv_Node x0))] [] = some (.p (.v (.int .i64 r)), []) := by
 refine call_ofI (fn := Tryz.f9) (c := bodyOf Tryz.f9) 7 rfl rfl (by kernel_rfl) (by kernel_rfl) (by kernel_rfl) ?_
 unfold R07_Check at h; unfold bodyOf Tryz.f9; simp only [ens]
 revert h
 repeat' first | (with_reducible refine gB fun _ _ => ?_) | (with_reducible refine gI (fun _ _ => ?_) (fun _ _ => ?_))
 all_goals
  intro h; obtain rfl := Option.some.inj h
  first | (simp (maxSteps := 10000000) (implicitDefEqProofs := false) (disch := first | with_reducible assumption | exact rfl | exact im_ _ | (fail_if_success show Kn _ _); omega) only [bs, rs9, ls9, Nat.reduceAdd, ↓reduceIte, c26_1, c27_1, loadD_pagg a25 z25]; refine ⟨by simp, ?_⟩; exact fin_sc rfl rfl rfl rfl) | (exfalso; omega)
def ls10 := And.intro @al_25 (And.intro @ap_23_23 (And.intro @bs_23_1 (And.intro @bu_25_0_1 (And.intro @faP_25_0 (And.intro @faP_25_1 (And.intro @faP_25_3 (And.intro @idxL_23 (And.intro @lk_frz_25 (And.intro @sa_4_0_4 (And.intro @sg_4_0_3_r (And.intro @sg_4_0_pppr (And.intro @varld_4_0_0 (And.intro @varld_4_0_1 (And.intro @varld_4_0_3 (@varlg_pppr)))))))))))))))
theorem c9_0 {H : List Ob} {a1 : Node} {r : Int} (h : R07_Check a1 = some r) : callD (callW Tryz.prog A0) A0 H 9 [.p (.agg (pv_Node a1))] = some (.p (.v (.int .i64 r)), none) :=
 callD_fun (args := [.agg (pv_Node a1)]) rfl rfl rfl (by simp only [List.map_cons, List.map_nil, wk, wks, wkL]; exact f9_ok a1 _ h)
theorem c10r_0 {rec : Node → Option Node} (hrec : ∀ x0 r, rec x0 = some r → callW Tryz.prog A0 10 [.p (.agg (pv_Node x0))] [] = some (.p (.agg (pv_Node r)), [])) {H : List Ob} {a1 : Node} {r : Node} (h : rec a1 = some r) : callD (callW Tryz.prog A0) A0 H 10 [.p (.agg (pv_Node a1))] = some (.p (.agg (pv_Node r)), none) :=
 callD_fun (args := [.agg (pv_Node a1)]) rfl rfl rfl (by simp only [List.map_cons, List.map_nil, wk, wks, wkL]; exact hrec a1 _ h)
noncomputable def L10_0 : Code := (loopsOf (bodyOf Tryz.f10)).getD 0 .skip
def g10_0 : List Ghost := [.ownC 3 3 4, .keep [1, 2, 3, 4]]
noncomputable def F10_0 (w0_0 : Int) (w0_1 : ByteArray) (w0_2 : (List ByteArray)) (w0_3 : (List Node)) (w1_0 : Int) (w1_1 : ByteArray) (w2_0 : Int) (w2_1 : ByteArray) : (Int × (List Node)) → St := fun (s4, y3) => ⟨[J, .ptr 0 0, .ptr 1 0, .ptr 2 0, iv s4, J, J, J, J, J, J, J, J, J, J, J, J, J, J, J, J, J, J, J, J, J, J, J, J], [.var [iv w0_0, .p (.v (.string w0_1)), .p (.lst false w0_2.length (encL en_str w0_2)), .p (.lst false w0_3.length (encL en_Node w0_3))], .var [iv w1_0, .p (.v (.string w1_1)), .p (.lst true 0 []), .p (.lst true 0 [])], .var [iv w2_0, .p (.v (.string w2_1)), .p (.lst true 0 []), .ref 3 0 y3.length 4], .arr (encL en_Node y3)], 0⟩
theorem L10_0_ok {rec : Node → Option Node} (hrec : ∀ x0 r, rec x0 = some r → callW Tryz.prog A0 10 [.p (.agg (pv_Node x0))] [] = some (.p (.agg (pv_Node r)), [])) (w0_0 : Int) (w0_1 : ByteArray) (w0_2 : (List ByteArray)) (w0_3 : (List Node)) (w1_0 : Int) (w1_1 : ByteArray) (w2_0 : Int) (w2_1 : ByteArray) : ∀ s st o, ghostsD g10_0 st = some (F10_0 w0_0 w0_1 w0_2 w0_3 w1_0 w1_1 w2_0 w2_1 s) → iter (R06_Bare_L0 rec w0_0 w0_1 w0_2 w0_3 w1_0 w1_1 w2_0 w2_1) s = some o →
    Wp (evW Tryz.prog A0 10 (.loop L10_0) st) (OutQ (F10_0 w0_0 w0_1 w0_2 w0_3 w1_0 w1_1 w2_0 w2_1) g10_0 (fun n s st => n = 0 ∧ ghostsD [.keep [1, 2, 3, 4]] st = some (F10_0 w0_0 w0_1 w0_2 w0_3 w1_0 w1_1 w2_0 w2_1 s)) (fun r st => finishD Tryz.prog A0 10 Tryz.f10 st = some (.p (.agg (pv_Node r)), [])) o) := by
 refine Wp.iter ?_
 intro s st o hg h
 obtain ⟨s4, y3⟩ := s
 unfold R06_Bare_L0 at h; unfold g10_0 F10_0 at hg ⊢
 (try simp only [] at h hg)
 unfold L10_0 bodyOf Tryz.f10; simp only [loopsOf, ens]
 revert h
 refine gI (fun h1 _ => ?_) (fun h1 _ => ?_)
 ·refine gR fun v2 h3 h3a h3b => ?_
  refine gB fun r5 h6 => ?_
  refine gW fun h9 => ?_
  have h8 : ∀ (H : List Ob) (id : Nat), apOb H id 0 y3.length 1 4 4 72 [.v (.int .i64 r5.Kind), .v (.string r5.Text), .lst false r5.Gaps.length (encL en_str r5.Gaps), .lst false r5.Kids.length (encL en_Node r5.Kids)] (some (.arr (encL en_Node y3))) = some (.ref H.length 0 (y3 ++ [r5]).length 4, H.set id .dead ++ [.arr (encL en_Node (y3 ++ [r5]))]) := fun H id => ap_enc (y := [r5]) en_Node_len (by first | rfl | omega) rfl (by first | (simp only [encL_cons, encL_nil, en_Node_eq, List.cons_append, List.nil_append]; done) | (simp only [encL_cons, encL_nil, en_Node_eq, List.cons_append, List.nil_append]; rfl) | rfl) (by assumption)
  intro h; obtain rfl := Option.some.inj h
  simp (maxSteps := 10000000) (implicitDefEqProofs := false) (disch := first | with_reducible assumption | exact rfl | exact im_ _ | (fail_if_success show Kn _ _); omega) only [bs, rs10, ls10, Nat.reduceAdd, ↓reduceIte, c10r_0 hrec, lenD_lst u23, loadD_iagg a25 z25, loadD_pagg a25 z25, loadD_ptr a23, loadD_ptr a3, loadD_ptr a9, storeD_agg z25, storeD_gagg z25, storeD_gref z23, wksL_en_Node, wksL_en_str, wks_nil_, hg, h8]
  exact ⟨(rfl : Ex.normal = Ex.normal), by kernel_rfl⟩
 ·intro h; obtain rfl := Option.some.inj h
  simp (maxSteps := 10000000) (implicitDefEqProofs := false) (disch := first | with_reducible assumption | exact rfl | exact im_ _ | (fail_if_success show Kn _ _); omega) only [bs, rs10, ls10, Nat.reduceAdd, ↓reduceIte, c10r_0 hrec, lenD_lst u23, loadD_iagg a25 z25, loadD_pagg a25 z25, loadD_ptr a23, loadD_ptr a3, loadD_ptr a9, storeD_agg z25, storeD_gagg z25, storeD_gref z23, wksL_en_Node, wksL_en_str, wks_nil_, hg]
  exact ⟨(rfl : Ex.exit 0 = Ex.exit 0), rfl, by kernel_rfl⟩
theorem f10_ok {rec : Node → Option Node} (hrec : ∀ x0 r, rec x0 = some r → callW Tryz.prog A0 10 [.p (.agg (pv_Node x0))] [] = some (.p (.agg (pv_Node r)), []))  (x0 : Node) (r : Node) (h : R06_Bare.body rec x0 = some r) : callW Tryz.prog A0 10 [.p (.agg (pv_Node x0))] [] = some (.p (.agg (pv_Node r)), []) := by
 refine call_ofI (fn := Tryz.f10) (c := bodyOf Tryz.f10) 28 rfl rfl (by kernel_rfl) (by kernel_rfl) (by kernel_rfl) ?_
 unfold R06_Bare.body at h; unfold bodyOf Tryz.f10; simp only [ens]
 revert h
 refine gB fun o h10 => ?_
 intro h
 simp (maxSteps := 10000000) (implicitDefEqProofs := false) (disch := first | with_reducible assumption | exact rfl | exact im_ _ | (fail_if_success show Kn _ _); omega) only [bs, rs10, ls10, Nat.reduceAdd, ↓reduceIte, c10r_0 hrec, lenD_lst u23, loadD_iagg a25 z25, loadD_pagg a25 z25, loadD_ptr a23, loadD_ptr a3, loadD_ptr a9, storeD_agg z25, storeD_gagg z25, storeD_gref z23, wksL_en_Node, wksL_en_str, wks_nil_]
 refine Wp.ctx (fun x => seqW _ _ _ _ (blockW _ (x))) (L10_0_ok hrec x0.Kind x0.Text x0.Gaps x0.Kids (0 : Int) ByteArray.empty x0.Kind x0.Text ((0 : Int), ([] : List Node)) _ o (by kernel_rfl) h10) ?_
 intro e st hq
 cases o with
 | next _ => (first | cases h | (simp at h))
 | jmp n_ s_ =>
  obtain ⟨rfl, rfl, hq⟩ := hq
  obtain ⟨s4_11, y3_11⟩ := s_
  unfold F10_0 at hq
  (try simp only [] at h hq)
  revert h
  intro h; obtain rfl := Option.some.inj h
  simp (maxSteps := 10000000) (implicitDefEqProofs := false) (disch := first | with_reducible assumption | exact rfl | exact im_ _ | (fail_if_success show Kn _ _); omega) only [bs, rs10, ls10, Nat.reduceAdd, ↓reduceIte, c10r_0 hrec, lenD_lst u23, loadD_iagg a25 z25, loadD_pagg a25 z25, loadD_ptr a23, loadD_ptr a3, loadD_ptr a9, storeD_agg z25, storeD_gagg z25, storeD_gref z23, wksL_en_Node, wksL_en_str, wks_nil_, hq]
  refine ⟨by simp, ?_⟩; exact finish_is (ds := [.agg [iv x0.Kind, .p (.v (.string x0.Text)), .p (.lst true 0 []), .ref 3 0 y3_11.length 4]]) (x := .agg [.v (.int .i64 x0.Kind), .v (.string x0.Text), .lst true 0 [], .lst false y3_11.length (encL en_Node y3_11)]) (y := .agg [.v (.int .i64 x0.Kind), .v (.string x0.Text), .lst false ([] : List ByteArray).length (encL en_str ([] : List ByteArray)), .lst false y3_11.length (encL en_Node y3_11)]) (l := [3]) rfl rfl (by kernel_rfl) (purify1_agg (purifys_pc (purifys_pc (purifys_pc (purifys_rc en_Node_len rfl (by first | rfl | omega | simp) purifys_nil))))) (by first | rfl | (simp only [wk, wks, wkL]; first | done | rfl))
 | ret _ => (first | cases h | (simp at h))
theorem f10_spec : ∀ (x0 : Node) r, R06_BareS x0 = some r → callW Tryz.prog A0 10 [.p (.agg (pv_Node x0))] [] = some (.p (.agg (pv_Node r)), []) := by
 have key : ∀ n (x0 : Node) r, R06_BareS_mu x0 < n → R06_BareS x0 = some r → callW Tryz.prog A0 10 [.p (.agg (pv_Node x0))] [] = some (.p (.agg (pv_Node r)), []) := by
  intro n
  induction n with
  | zero => intro x0 r h; omega
  | succ n ih =>
   intro x0 r hn h
   refine f10_ok (rec := fun x0' => if R06_BareS_mu x0' < R06_BareS_mu x0 then R06_BareS x0' else none) ?_ x0 r (R06_BareS_body x0 r h)
   intro x0' r' h'
   by_cases hm : R06_BareS_mu x0' < R06_BareS_mu x0
   ·rw [if_pos hm] at h'; exact ih x0' r' (by omega) h'
   ·rw [if_neg hm] at h'; cases h'
 intro x0 r h
 exact key _ x0 r (Nat.lt_succ_self _) h
def ls28 := And.intro @faP_25_3 (And.intro @idxL_23 (And.intro @lk_frz_25 (@varld_4_0_3)))
theorem c10_1 {H : List Ob} {a1 : Node} {r : Node} (h : R06_BareS a1 = some r) : callD (callW Tryz.prog A0) A0 H 10 [.p (.agg (pv_Node a1))] = some (.p (.agg (pv_Node r)), none) :=
 callD_fun (args := [.agg (pv_Node a1)]) rfl rfl rfl (by simp only [List.map_cons, List.map_nil, wk, wks, wkL]; exact f10_spec a1 _ h)
theorem c28r_0 {rec : Node → Option Int} (hrec : ∀ x0 r, rec x0 = some r → callW Tryz.prog A0 28 [.p (.agg (pv_Node x0))] [] = some (.p (.v (.int .i64 r)), [])) {H : List Ob} {a1 : Node} {r : Int} (h : rec a1 = some r) : callD (callW Tryz.prog A0) A0 H 28 [.p (.agg (pv_Node a1))] = some (.p (.v (.int .i64 r)), none) :=
 callD_fun (args := [.agg (pv_Node a1)]) rfl rfl rfl (by simp only [List.map_cons, List.map_nil, wk, wks, wkL]; exact hrec a1 _ h)
noncomputable def L28_0 : Code := (loopsOf (bodyOf Tryz.f28)).getD 0 .skip
def g28_0 : List Ghost := [.keep [1, 3, 4]]
noncomputable def F28_0 (w0_0 : Int) (w0_1 : ByteArray) (w0_2 : (List ByteArray)) (w0_3 : (List Node)) : (Int × Int) → St := fun (s3, s4) => ⟨[J, .ptr 0 0, J, iv s3, iv s4, J, J, J, J, J, J, J, J, J, J, J, J, J, J, J, J], [.var [iv w0_0, .p (.v (.string w0_1)), .p (.lst false w0_2.length (encL en_str w0_2)), .p (.lst false w0_3.length (encL en_Node w0_3))]], 0⟩
theorem L28_0_ok {rec : Node → Option Int} (hrec : ∀ x0 r, rec x0 = some r → callW Tryz.prog A0 28 [.p (.agg (pv_Node x0))] [] = some (.p (.v (.int .i64 r)), [])) (w0_0 : Int) (w0_1 : ByteArray) (w0_2 : (List ByteArray)) (w0_3 : (List Node)) : ∀ s st o, ghostsD g28_0 st = some (F28_0 w0_0 w0_1 w0_2 w0_3 s) → iter (R06_Size_L0 rec w0_0 w0_1 w0_2 w0_3) s = some o →
    Wp (evW Tryz.prog A0 28 (.loop L28_0) st) (OutQ (F28_0 w0_0 w0_1 w0_2 w0_3) g28_0 (fun n s st => n = 0 ∧ ghostsD [.keep [1, 3, 4]] st = some (F28_0 w0_0 w0_1 w0_2 w0_3 s)) (fun r st => finishD Tryz.prog A0 28 Tryz.f28 st = some (.p (.v (.int .i64 r)), [])) o) := by
 refine Wp.iter ?_
 intro s st o hg h
 obtain ⟨s3, s4⟩ := s
 unfold R06_Size_L0 at h; unfold g28_0 F28_0 at hg ⊢
 (try simp only [] at h hg)
 unfold L28_0 bodyOf Tryz.f28; simp only [loopsOf, ens]
 revert h
 repeat' first | (with_reducible refine gR fun _ _ _ _ => ?_) | (with_reducible refine gB fun _ _ => ?_) | (with_reducible refine gI (fun _ _ => ?_) (fun _ _ => ?_))
 all_goals
  intro h; obtain rfl := Option.some.inj h
  first | (simp (maxSteps := 10000000) (implicitDefEqProofs := false) (disch := first | with_reducible assumption | exact rfl | exact im_ _ | (fail_if_success show Kn _ _); omega) only [bs, rs28, ls28, Nat.reduceAdd, ↓reduceIte, c28r_0 hrec, lenD_lst u23, loadD_iagg a25 z25, loadD_ptr a23, hg]; first | (exact ⟨(rfl : Ex.normal = Ex.normal), by kernel_rfl⟩) | (exact ⟨(rfl : Ex.exit 0 = Ex.exit 0), rfl, by kernel_rfl⟩)) | (exfalso; omega)
theorem f28_ok {rec : Node → Option Int} (hrec : ∀ x0 r, rec x0 = some r → callW Tryz.prog A0 28 [.p (.agg (pv_Node x0))] [] = some (.p (.v (.int .i64 r)), []))  (x0 : Node) (r : Int) (h : R06_Size.body rec x0 = some r) : callW Tryz.prog A0 28 [.p (.agg (pv_Node x0))] [] = some (.p (.v (.int .i64 r)), []) := by
 refine call_ofI (fn := Tryz.f28) (c := bodyOf Tryz.f28) 20 rfl rfl (by kernel_rfl) (by kernel_rfl) (by kernel_rfl) ?_
 unfold R06_Size.body at h; unfold bodyOf Tryz.f28; simp only [ens]
 revert h
 refine gB fun o h8 => ?_
 intro h
 simp (maxSteps := 10000000) (implicitDefEqProofs := false) (disch := first | with_reducible assumption | exact rfl | exact im_ _ | (fail_if_success show Kn _ _); omega) only [bs, rs28, ls28, Nat.reduceAdd, ↓reduceIte, c28r_0 hrec, lenD_lst u23, loadD_iagg a25 z25, loadD_ptr a23]
 refine Wp.ctx (fun x => seqW _ _ _ _ (blockW _ (x))) (L28_0_ok hrec x0.Kind x0.Text x0.Gaps x0.Kids ((1 : Int), (0 : Int)) _ o (by kernel_rfl) h8) ?_
 intro e st hq
 cases o with
 | next _ => (first | cases h | (simp at h))
 | jmp n_ s_ =>
  obtain ⟨rfl, rfl, hq⟩ := hq
  obtain ⟨s3_9, s4_9⟩ := s_
  unfold F28_0 at hq
  (try simp only [] at h hq)
  revert h
  intro h; obtain rfl := Option.some.inj h
  simp (maxSteps := 10000000) (implicitDefEqProofs := false) (disch := first | with_reducible assumption | exact rfl | exact im_ _ | (fail_if_success show Kn _ _); omega) only [bs, rs28, ls28, Nat.reduceAdd, ↓reduceIte, c28r_0 hrec, lenD_lst u23, loadD_iagg a25 z25, loadD_ptr a23, hq]
  refine ⟨by simp, ?_⟩; exact fin_sc rfl rfl rfl rfl
 | ret _ => (first | cases h | (simp at h))
theorem f28_spec : ∀ (x0 : Node) r, R06_SizeS x0 = some r → callW Tryz.prog A0 28 [.p (.agg (pv_Node x0))] [] = some (.p (.v (.int .i64 r)), []) := by
 have key : ∀ n (x0 : Node) r, R06_SizeS_mu x0 < n → R06_SizeS x0 = some r → callW Tryz.prog A0 28 [.p (.agg (pv_Node x0))] [] = some (.p (.v (.int .i64 r)), []) := by
  intro n
  induction n with
  | zero => intro x0 r h; omega
  | succ n ih =>
   intro x0 r hn h
   refine f28_ok (rec := fun x0' => if R06_SizeS_mu x0' < R06_SizeS_mu x0 then R06_SizeS x0' else none) ?_ x0 r (R06_SizeS_body x0 r h)
   intro x0' r' h'
   by_cases hm : R06_SizeS_mu x0' < R06_SizeS_mu x0
   ·rw [if_pos hm] at h'; exact ih x0' r' (by omega) h'
   ·rw [if_neg hm] at h'; cases h'
 intro x0 r h
 exact key _ x0 r (Nat.lt_succ_self _) h
def ls11 := And.intro @ap_26_26 (And.intro @bs_26_0 (And.intro @bs_26_1 (And.intro @bu_41_0_1 (@varlv_4_0_4))))
theorem c28_1 {H : List Ob} {a1 : Int} {a2 : ByteArray} {a3 a5 : Bool} {a4 : List ByteArray} {a6 : List Node} {r : Int} (h : R06_SizeS (Node.mk a1 a2 a4 a6) = some r) : callD (callW Tryz.prog A0) A0 H 28 [.p (.agg [.v (.int .i64 a1), .v (.string a2), .lst a3 a4.length (encL en_str a4), .lst a5 a6.length (encL en_Node a6)])] = some (.p (.v (.int .i64 r)), none) :=
 callD_fun (args := [.agg [.v (.int .i64 a1), .v (.string a2), .lst a3 a4.length (encL en_str a4), .lst a5 a6.length (encL en_Node a6)]]) rfl rfl rfl (by simp only [List.map_cons, List.map_nil, wk, wks, wkL]; exact f28_spec (Node.mk a1 a2 a4 a6) _ h)
noncomputable def L11_0 : Code := (loopsOf (bodyOf Tryz.f11)).getD 0 .skip
def g11_0 : List Ghost := [.own 3 2, .keep [1, 3, 4]]
noncomputable def F11_0 (w0_0 : Int) (w0_1 : ByteArray) (w0_2 : (List ByteArray)) (w0_3 : (List Node)) : (Int × (List Pair)) → St := fun (s4, y1) => ⟨[J, .ptr 0 0, J, .ref 1 0 y1.length 2, iv s4, J, J, J, J, J, J, J, J, J, J, J, J, J, J], [.var [iv w0_0, .p (.v (.string w0_1)), .p (.lst false w0_2.length (encL en_str w0_2)), .p (.lst false w0_3.length (encL en_Node w0_3))], .arr (encL en_Pair y1)], 0⟩
theorem L11_0_ok (w0_0 : Int) (w0_1 : ByteArray) (w0_2 : (List ByteArray)) (w0_3 : (List Node)) : ∀ s st o, ghostsD g11_0 st = some (F11_0 w0_0 w0_1 w0_2 w0_3 s) → iter (R24_Identity_L0 w0_0 w0_1 w0_2 w0_3) s = some o →
    Wp (evW Tryz.prog A0 11 (.loop L11_0) st) (OutQ (F11_0 w0_0 w0_1 w0_2 w0_3) g11_0 (fun n s st => n = 0 ∧ ghostsD [.keep [1, 3, 4]] st = some (F11_0 w0_0 w0_1 w0_2 w0_3 s)) (fun r st => finishD Tryz.prog A0 11 Tryz.f11 st = some (.p (.lst false r.length (encL en_Pair r)), [])) o) := by
 refine Wp.iter ?_
 intro s st o hg h
 obtain ⟨s4, y1⟩ := s
 unfold R24_Identity_L0 at h; unfold g11_0 F11_0 at hg ⊢
 (try simp only [] at h hg)
 unfold L11_0 bodyOf Tryz.f11; simp only [loopsOf, ens]
 revert h
 refine gB fun r1 h2 => ?_
 refine gI (fun h4 _ => ?_) (fun h4 _ => ?_)
 ·refine gW fun h6 => ?_
  have h5 : ∀ (H : List Ob) (id : Nat), apOb H id 0 y1.length 1 2 2 16 [.v (.int .i64 s4), .v (.int .i64 s4)] (some (.arr (encL en_Pair y1))) = some (.ref H.length 0 (y1 ++ [(Pair.mk s4 s4)]).length 2, H.set id .dead ++ [.arr (encL en_Pair (y1 ++ [(Pair.mk s4 s4)]))]) := fun H id => ap_enc (y := [(Pair.mk s4 s4)]) en_Pair_len (by first | rfl | omega) rfl (by first | (simp only [encL_cons, encL_nil, en_Pair_eq, List.cons_append, List.nil_append]; done) | (simp only [encL_cons, encL_nil, en_Pair_eq, List.cons_append, List.nil_append]; rfl) | rfl) (by assumption)
  intro h; obtain rfl := Option.some.inj h
  simp (maxSteps := 10000000) (implicitDefEqProofs := false) (disch := first | with_reducible assumption | exact rfl | exact im_ _ | (fail_if_success show Kn _ _); omega) only [bs, rs11, ls11, Nat.reduceAdd, ↓reduceIte, c28_1, loadD_pagg a25 z25, wks_nil_, hg, h5]
  exact ⟨(rfl : Ex.normal = Ex.normal), by kernel_rfl⟩
 ·intro h; obtain rfl := Option.some.inj h
  simp (maxSteps := 10000000) (implicitDefEqProofs := false) (disch := first | with_reducible assumption | exact rfl | exact im_ _ | (fail_if_success show Kn _ _); omega) only [bs, rs11, ls11, Nat.reduceAdd, ↓reduceIte, c28_1, loadD_pagg a25 z25, wks_nil_, hg]
  exact ⟨(rfl : Ex.exit 0 = Ex.exit 0), rfl, by kernel_rfl⟩
theorem f11_ok  (x0 : Node) (r : (List Pair)) (h : R24_Identity x0 = some r) : callW Tryz.prog A0 11 [.p (.agg (pv_Node x0))] [] = some (.p (.lst false r.length (encL en_Pair r)), []) := by
 refine call_ofI (fn := Tryz.f11) (c := bodyOf Tryz.f11) 18 rfl rfl (by kernel_rfl) (by kernel_rfl) (by kernel_rfl) ?_
 unfold R24_Identity at h; unfold bodyOf Tryz.f11; simp only [ens]
 revert h
 refine gB fun o h7 => ?_
 intro h
 simp (maxSteps := 10000000) (implicitDefEqProofs := false) (disch := first | with_reducible assumption | exact rfl | exact im_ _ | (fail_if_success show Kn _ _); omega) only [bs, rs11, ls11, Nat.reduceAdd, ↓reduceIte, c28_1, loadD_pagg a25 z25, wks_nil_]
 refine Wp.ctx (fun x => seqW _ _ _ _ (blockW _ (x))) (L11_0_ok x0.Kind x0.Text x0.Gaps x0.Kids ((0 : Int), ([] : List Pair)) _ o (by kernel_rfl) h7) ?_
 intro e st hq
 cases o with
 | next _ => (first | cases h | (simp at h))
 | jmp n_ s_ =>
  obtain ⟨rfl, rfl, hq⟩ := hq
  obtain ⟨s4_8, y1_8⟩ := s_
  unfold F11_0 at hq
  (try simp only [] at h hq)
  revert h
  intro h; obtain rfl := Option.some.inj h
  simp (maxSteps := 10000000) (implicitDefEqProofs := false) (disch := first | with_reducible assumption | exact rfl | exact im_ _ | (fail_if_success show Kn _ _); omega) only [bs, rs11, ls11, Nat.reduceAdd, ↓reduceIte, c28_1, loadD_pagg a25 z25, wks_nil_, hq]
  refine ⟨by simp, ?_⟩; exact finish_is (l := [1]) rfl rfl rfl (purify1_enc en_Pair_len rfl (by first | rfl | omega | simp)) (by first | rfl | (simp only [wk, wks, wkL]; first | done | rfl))
 | ret _ => (first | cases h | (simp at h))
def ls29 := And.intro @ce_9_x (@idxL_22)
theorem c11_0 {H : List Ob} {a1 : Node} {r : (List Pair)} (h : R24_Identity a1 = some r) : callD (callW Tryz.prog A0) A0 H 11 [.p (.agg (pv_Node a1))] = some (.p (.lst false r.length (encL en_Pair r)), none) :=
 callD_fun (args := [.agg (pv_Node a1)]) rfl rfl rfl (by simp only [List.map_cons, List.map_nil, wk, wks, wkL]; exact f11_ok a1 _ h)
noncomputable def L29_0 : Code := (loopsOf (bodyOf Tryz.f29)).getD 0 .skip
def g29_0 : List Ghost := [.weak [0, 1], .keep [0, 1, 5]]
noncomputable def F29_0 (s0 : (List ByteArray)) (s1 : (List ByteArray)) : Int → St := fun s5 => ⟨[.p (.lst false s0.length (encL en_str s0)), .p (.lst false s1.length (encL en_str s1)), J, J, J, iv s5, J, J, J, J, J, J, J, J, J, J, J, J, J, J, J, J, J, J, J, J], [], 0⟩
theorem L29_0_ok (s0 : (List ByteArray)) (s1 : (List ByteArray)) : ∀ s st o, ghostsD g29_0 st = some (F29_0 s0 s1 s) → iter (R03_Strings_L0 s0 s1) s = some o →
    Wp (evW Tryz.prog A0 29 (.loop L29_0) st) (OutQ (F29_0 s0 s1) g29_0 (fun n s st => n = 0 ∧ ghostsD [.keep [0, 1, 5]] st = some (F29_0 s0 s1 s)) (fun r st => finishD Tryz.prog A0 29 Tryz.f29 st = some (.p (.v (.bool r)), [])) o) := by
 refine Wp.iter ?_
 intro s st o hg h
 generalize s = s5 at hg h
 unfold R03_Strings_L0 at h; unfold g29_0 F29_0 at hg ⊢
 (try simp only [] at h hg)
 unfold L29_0 bodyOf Tryz.f29; simp only [loopsOf, ens]
 revert h
 repeat' first | (with_reducible refine gR fun _ _ _ _ => ?_) | (with_reducible refine gI (fun _ _ => ?_) (fun _ _ => ?_))
 all_goals
  intro h; obtain rfl := Option.some.inj h
  first | (simp (maxSteps := 10000000) (implicitDefEqProofs := false) (disch := first | with_reducible assumption | exact rfl | exact im_ _ | (fail_if_success show Kn _ _); omega) only [bs, rs29, ls29, Nat.reduceAdd, ↓reduceIte, binD_neq_str, lenD_lst u22, loadD_iptr a9, hg]; first | (exact ⟨(rfl : Ex.normal = Ex.normal), by kernel_rfl⟩) | (refine ⟨(rfl : Ex.ret = Ex.ret), ?_⟩; exact fin_sc rfl rfl rfl rfl) | (exact ⟨(rfl : Ex.exit 0 = Ex.exit 0), rfl, by kernel_rfl⟩)) | (exfalso; omega)
theorem f29_ok  (x0 : (List ByteArray)) (x1 : (List ByteArray)) (r : Bool) (h : R03_Strings x0 x1 = some r) : callW Tryz.prog A0 29 [.p (.lst false x0.length (encL en_str x0)), .p (.lst false x1.length (encL en_str x1))] [] = some (.p (.v (.bool r)), []) := by
 refine call_ofI (fn := Tryz.f29) (c := bodyOf Tryz.f29) 24 rfl rfl (by kernel_rfl) (by kernel_rfl) (by kernel_rfl) ?_
 unfold R03_Strings at h; unfold bodyOf Tryz.f29; simp only [ens]
 revert h
 refine gI (fun h1 _ => ?_) (fun h1 _ => ?_)
 ·refine gB fun o h10 => ?_
  intro h
  simp (maxSteps := 10000000) (implicitDefEqProofs := false) (disch := first | with_reducible assumption | exact rfl | exact im_ _ | (fail_if_success show Kn _ _); omega) only [bs, rs29, ls29, Nat.reduceAdd, ↓reduceIte, binD_neq_str, lenD_lst u22, loadD_iptr a9]
  refine Wp.ctx (fun x => seqW _ _ _ _ (blockW _ (x))) (L29_0_ok x0 x1 (0 : Int) _ o (by kernel_rfl) h10) ?_
  intro e st hq
  cases o with
  | next _ => (first | cases h | (simp at h))
  | jmp n_ s_ =>
   obtain ⟨rfl, rfl, hq⟩ := hq
   generalize s_ = s5_11 at h hq
   unfold F29_0 at hq
   (try simp only [] at h hq)
   revert h
   intro h; obtain rfl := Option.some.inj h
   simp (maxSteps := 10000000) (implicitDefEqProofs := false) (disch := first | with_reducible assumption | exact rfl | exact im_ _ | (fail_if_success show Kn _ _); omega) only [bs, rs29, ls29, Nat.reduceAdd, ↓reduceIte, binD_neq_str, lenD_lst u22, loadD_iptr a9, hq]
   refine ⟨by simp, ?_⟩; exact fin_sc rfl rfl rfl rfl
  | ret r12 =>
   obtain ⟨rfl, hq⟩ := hq
   obtain rfl := Option.some.inj h
   simp (maxSteps := 10000000) (implicitDefEqProofs := false) (disch := first | with_reducible assumption | exact rfl | exact im_ _ | (fail_if_success show Kn _ _); omega) only [bs, rs29, ls29, Nat.reduceAdd, ↓reduceIte, binD_neq_str, lenD_lst u22, loadD_iptr a9]
   exact ⟨by simp, hq⟩
 ·intro h; obtain rfl := Option.some.inj h
  simp (maxSteps := 10000000) (implicitDefEqProofs := false) (disch := first | with_reducible assumption | exact rfl | exact im_ _ | (fail_if_success show Kn _ _); omega) only [bs, rs29, ls29, Nat.reduceAdd, ↓reduceIte, binD_neq_str, lenD_lst u22, loadD_iptr a9]
  refine ⟨by simp, ?_⟩; exact fin_sc rfl rfl rfl rfl
def ls12 := And.intro @faP_25_0 (And.intro @faP_25_1 (And.intro @faP_25_2 (And.intro @faP_25_3 (And.intro @idxL_23 (And.intro @lk_frz_25 (And.intro @varld_4_0_0 (And.intro @varld_4_0_1 (And.intro @varld_4_0_2 (@varld_4_0_3)))))))))
theorem c29_0 {H : List Ob} {a1 a3 : Bool} {a2 a4 : List ByteArray} {r : Bool} (h : R03_Strings a2 a4 = some r) : callD (callW Tryz.prog A0) A0 H 29 [.p (.lst a1 a2.length (encL en_str a2)), .p (.lst a3 a4.length (encL en_str a4))] = some (.p (.v (.bool r)), none) :=
 callD_fun (args := [.lst a1 a2.length (encL en_str a2), .lst a3 a4.length (encL en_str a4)]) rfl rfl rfl (by simp only [List.map_cons, List.map_nil, wk, wks, wkL]; exact f29_ok a2 a4 _ h)
theorem c12r_0 {rec : Node → Node → Option Bool} (hrec : ∀ x0 x1 r, rec x0 x1 = some r → callW Tryz.prog A0 12 [.p (.agg (pv_Node x0)), .p (.agg (pv_Node x1))] [] = some (.p (.v (.bool r)), [])) {H : List Ob} {a1 a2 : Node} {r : Bool} (h : rec a1 a2 = some r) : callD (callW Tryz.prog A0) A0 H 12 [.p (.agg (pv_Node a1)), .p (.agg (pv_Node a2))] = some (.p (.v (.bool r)), none) :=
 callD_fun (args := [.agg (pv_Node a1), .agg (pv_Node a2)]) rfl rfl rfl (by simp only [List.map_cons, List.map_nil, wk, wks, wkL]; exact hrec a1 a2 _ h)
noncomputable def L12_0 : Code := (loopsOf (bodyOf Tryz.f12)).getD 0 .skip
def g12_0 : List Ghost := [.keep [2, 3, 5]]
noncomputable def F12_0 (w0_0 : Int) (w0_1 : ByteArray) (w0_2 : (List ByteArray)) (w0_3 : (List Node)) (w1_0 : Int) (w1_1 : ByteArray) (w1_2 : (List ByteArray)) (w1_3 : (List Node)) : Int → St := fun s5 => ⟨[J, J, .ptr 0 0, .ptr 1 0, J, iv s5, J, J, J, J, J, J, J, J, J, J, J, J, J, J, J, J, J, J, J, J, J, J, J, J, J, J, J, J, J, J, J, J, J, J, J, J, J, J, J, J, J, J, J, J, J, J, J, J], [.var [iv w0_0, .p (.v (.string w0_1)), .p (.lst false w0_2.length (encL en_str w0_2)), .p (.lst false w0_3.length (encL en_Node w0_3))], .var [iv w1_0, .p (.v (.string w1_1)), .p (.lst false w1_2.length (encL en_str w1_2)), .p (.lst false w1_3.length (encL en_Node w1_3))]], 0⟩
theorem L12_0_ok {rec : Node → Node → Option Bool} (hrec : ∀ x0 x1 r, rec x0 x1 = some r → callW Tryz.prog A0 12 [.p (.agg (pv_Node x0)), .p (.agg (pv_Node x1))] [] = some (.p (.v (.bool r)), [])) (w0_0 : Int) (w0_1 : ByteArray) (w0_2 : (List ByteArray)) (w0_3 : (List Node)) (w1_0 : Int) (w1_1 : ByteArray) (w1_2 : (List ByteArray)) (w1_3 : (List Node)) : ∀ s st o, ghostsD g12_0 st = some (F12_0 w0_0 w0_1 w0_2 w0_3 w1_0 w1_1 w1_2 w1_3 s) → iter (R06_Equal_L0 rec w0_0 w0_1 w0_2 w0_3 w1_0 w1_1 w1_2 w1_3) s = some o →
    Wp (evW Tryz.prog A0 12 (.loop L12_0) st) (OutQ (F12_0 w0_0 w0_1 w0_2 w0_3 w1_0 w1_1 w1_2 w1_3) g12_0 (fun n s st => n = 0 ∧ ghostsD [.keep [2, 3, 5]] st = some (F12_0 w0_0 w0_1 w0_2 w0_3 w1_0 w1_1 w1_2 w1_3 s)) (fun r st => finishD Tryz.prog A0 12 Tryz.f12 st = some (.p (.v (.bool r)), [])) o) := by
 refine Wp.iter ?_
 intro s st o hg h
 generalize s = s5 at hg h
 unfold R06_Equal_L0 at h; unfold g12_0 F12_0 at hg ⊢
 (try simp only [] at h hg)
 unfold L12_0 bodyOf Tryz.f12; simp only [loopsOf, ens]
 revert h
 repeat' first | (with_reducible refine gR fun _ _ _ _ => ?_) | (with_reducible refine gB fun _ _ => ?_) | (with_reducible refine gT (fun _ _ => ?_) (fun _ _ => ?_)) | (with_reducible refine gI (fun _ _ => ?_) (fun _ _ => ?_))
 all_goals
  intro h; obtain rfl := Option.some.inj h
  first | (simp (maxSteps := 10000000) (implicitDefEqProofs := false) (disch := first | with_reducible assumption | exact rfl | exact im_ _ | (fail_if_success show Kn _ _); omega) only [bs, rs12, ls12, Nat.reduceAdd, ↓reduceIte, binD_neq_str, c12r_0 hrec, c29_0, lenD_lst u23, loadD_iagg a25 z25, loadD_ptr a22, loadD_ptr a23, loadD_ptr a3, loadD_ptr a9, hg]; first | (exact ⟨(rfl : Ex.normal = Ex.normal), by kernel_rfl⟩) | (refine ⟨(rfl : Ex.ret = Ex.ret), ?_⟩; exact fin_sc rfl rfl rfl rfl) | (exact ⟨(rfl : Ex.exit 0 = Ex.exit 0), rfl, by kernel_rfl⟩)) | (exfalso; omega)
theorem f12_ok {rec : Node → Node → Option Bool} (hrec : ∀ x0 x1 r, rec x0 x1 = some r → callW Tryz.prog A0 12 [.p (.agg (pv_Node x0)), .p (.agg (pv_Node x1))] [] = some (.p (.v (.bool r)), []))  (x0 : Node) (x1 : Node) (r : Bool) (h : R06_Equal.body rec x0 x1 = some r) : callW Tryz.prog A0 12 [.p (.agg (pv_Node x0)), .p (.agg (pv_Node x1))] [] = some (.p (.v (.bool r)), []) := by
 refine call_ofI (fn := Tryz.f12) (c := bodyOf Tryz.f12) 52 rfl rfl (by kernel_rfl) (by kernel_rfl) (by kernel_rfl) ?_
 unfold R06_Equal.body at h; unfold bodyOf Tryz.f12; simp only [ens]
 revert h
 refine gI (fun h1 _ => ?_) (fun h1 _ => ?_)
 ·refine gI (fun h2 _ => ?_) (fun h2 _ => ?_)
  ·refine gB fun r3 h4 => ?_
   refine gT (fun h6 _ => ?_) (fun h6 _ => ?_)
   ·refine gI (fun h7 _ => ?_) (fun h7 _ => ?_)
    ·refine gB fun o h19 => ?_
     intro h
     simp (maxSteps := 10000000) (implicitDefEqProofs := false) (disch := first | with_reducible assumption | exact rfl | exact im_ _ | (fail_if_success show Kn _ _); omega) only [bs, rs12, ls12, Nat.reduceAdd, ↓reduceIte, binD_neq_str, c12r_0 hrec, c29_0, lenD_lst u23, loadD_iagg a25 z25, loadD_ptr a22, loadD_ptr a23, loadD_ptr a3, loadD_ptr a9]
     refine Wp.ctx (fun x => seqW _ _ _ _ (blockW _ (x))) (L12_0_ok hrec x0.Kind x0.Text x0.Gaps x0.Kids x1.Kind x1.Text x1.Gaps x1.Kids (0 : Int) _ o (by kernel_rfl) h19) ?_
     intro e st hq
     cases o with
     | next _ => (first | cases h | (simp at h))
     | jmp n_ s_ =>
      obtain ⟨rfl, rfl, hq⟩ := hq
      generalize s_ = s5_20 at h hq
      unfold F12_0 at hq
      (try simp only [] at h hq)
      revert h
      intro h; obtain rfl := Option.some.inj h
      simp (maxSteps := 10000000) (implicitDefEqProofs := false) (disch := first | with_reducible assumption | exact rfl | exact im_ _ | (fail_if_success show Kn _ _); omega) only [bs, rs12, ls12, Nat.reduceAdd, ↓reduceIte, binD_neq_str, c12r_0 hrec, c29_0, lenD_lst u23, loadD_iagg a25 z25, loadD_ptr a22, loadD_ptr a23, loadD_ptr a3, loadD_ptr a9, hq]
      refine ⟨by simp, ?_⟩; exact fin_sc rfl rfl rfl rfl
     | ret r21 =>
      obtain ⟨rfl, hq⟩ := hq
      obtain rfl := Option.some.inj h
      simp (maxSteps := 10000000) (implicitDefEqProofs := false) (disch := first | with_reducible assumption | exact rfl | exact im_ _ | (fail_if_success show Kn _ _); omega) only [bs, rs12, ls12, Nat.reduceAdd, ↓reduceIte, binD_neq_str, c12r_0 hrec, c29_0, lenD_lst u23, loadD_iagg a25 z25, loadD_ptr a22, loadD_ptr a23, loadD_ptr a3, loadD_ptr a9]
      exact ⟨by simp, hq⟩
    ·intro h; obtain rfl := Option.some.inj h
     simp (maxSteps := 10000000) (implicitDefEqProofs := false) (disch := first | with_reducible assumption | exact rfl | exact im_ _ | (fail_if_success show Kn _ _); omega) only [bs, rs12, ls12, Nat.reduceAdd, ↓reduceIte, binD_neq_str, c12r_0 hrec, c29_0, lenD_lst u23, loadD_iagg a25 z25, loadD_ptr a22, loadD_ptr a23, loadD_ptr a3, loadD_ptr a9]
     refine ⟨by simp, ?_⟩; exact fin_sc rfl rfl rfl rfl
   ·intro h; obtain rfl := Option.some.inj h
    simp (maxSteps := 10000000) (implicitDefEqProofs := false) (disch := first | with_reducible assumption | exact rfl | exact im_ _ | (fail_if_success show Kn _ _); omega) only [bs, rs12, ls12, Nat.reduceAdd, ↓reduceIte, binD_neq_str, c12r_0 hrec, c29_0, lenD_lst u23, loadD_iagg a25 z25, loadD_ptr a22, loadD_ptr a23, loadD_ptr a3, loadD_ptr a9]
    refine ⟨by simp, ?_⟩; exact fin_sc rfl rfl rfl rfl
  ·intro h; obtain rfl := Option.some.inj h
   simp (maxSteps := 10000000) (implicitDefEqProofs := false) (disch := first | with_reducible assumption | exact rfl | exact im_ _ | (fail_if_success show Kn _ _); omega) only [bs, rs12, ls12, Nat.reduceAdd, ↓reduceIte, binD_neq_str, c12r_0 hrec, c29_0, lenD_lst u23, loadD_iagg a25 z25, loadD_ptr a22, loadD_ptr a23, loadD_ptr a3, loadD_ptr a9]
   refine ⟨by simp, ?_⟩; exact fin_sc rfl rfl rfl rfl
 ·intro h; obtain rfl := Option.some.inj h
  simp (maxSteps := 10000000) (implicitDefEqProofs := false) (disch := first | with_reducible assumption | exact rfl | exact im_ _ | (fail_if_success show Kn _ _); omega) only [bs, rs12, ls12, Nat.reduceAdd, ↓reduceIte, binD_neq_str, c12r_0 hrec, c29_0, lenD_lst u23, loadD_iagg a25 z25, loadD_ptr a22, loadD_ptr a23, loadD_ptr a3, loadD_ptr a9]
  refine ⟨by simp, ?_⟩; exact fin_sc rfl rfl rfl rfl
theorem f12_spec : ∀ (x0 : Node) (x1 : Node) r, R06_EqualS x0 x1 = some r → callW Tryz.prog A0 12 [.p (.agg (pv_Node x0)), .p (.agg (pv_Node x1))] [] = some (.p (.v (.bool r)), []) := by
 have key : ∀ n (x0 : Node) (x1 : Node) r, R06_EqualS_mu x0 x1 < n → R06_EqualS x0 x1 = some r → callW Tryz.prog A0 12 [.p (.agg (pv_Node x0)), .p (.agg (pv_Node x1))] [] = some (.p (.v (.bool r)), []) := by
  intro n
  induction n with
  | zero => intro x0 x1 r h; omega
  | succ n ih =>
   intro x0 x1 r hn h
   refine f12_ok (rec := fun x0' x1' => if R06_EqualS_mu x0' x1' < R06_EqualS_mu x0 x1 then R06_EqualS x0' x1' else none) ?_ x0 x1 r (R06_EqualS_body x0 x1 r h)
   intro x0' x1' r' h'
   by_cases hm : R06_EqualS_mu x0' x1' < R06_EqualS_mu x0 x1
   ·rw [if_pos hm] at h'; exact ih x0' x1' r' (by omega) h'
   ·rw [if_neg hm] at h'; cases h'
 intro x0 x1 r h
 exact key _ x0 x1 r (Nat.lt_succ_self _) h
def ls3 := And.intro @al_25 (And.intro @ex_2_0 (And.intro @ex_2_1 (And.intro @sa_4_0_4 (@varlv_4_0_4))))
theorem c12_1 {H : List Ob} {a1 a2 : Node} {r : Bool} (h : R06_EqualS a1 a2 = some r) : callD (callW Tryz.prog A0) A0 H 12 [.p (.agg (pv_Node a1)), .p (.agg (pv_Node a2))] = some (.p (.v (.bool r)), none) :=
 callD_fun (args := [.agg (pv_Node a1), .agg (pv_Node a2)]) rfl rfl rfl (by simp only [List.map_cons, List.map_nil, wk, wks, wkL]; exact f12_spec a1 a2 _ h)
theorem f3_ok  (x0 : Node) (x1 : Node) (x2 : (List Pair)) (r : Bool) (h : law33_LayoutAdoption x0 x1 x2 = some r) : callW Tryz.prog A0 3 [.p (.agg (pv_Node x0)), .p (.agg (pv_Node x1)), .p (.lst false x2.length (encL en_Pair x2))] [] = some (.p (.v (.bool r)), []) := by
 refine call_ofI (fn := Tryz.f3) (c := bodyOf Tryz.f3) 68 rfl rfl (by kernel_rfl) (by kernel_rfl) (by kernel_rfl) ?_
 unfold law33_LayoutAdoption at h; unfold bodyOf Tryz.f3; simp only [ens]
 revert h
 repeat' first | (with_reducible refine gB fun _ _ => ?_) | (with_reducible refine gT (fun _ _ => ?_) (fun _ _ => ?_)) | (with_reducible refine gI (fun _ _ => ?_) (fun _ _ => ?_))
 all_goals
  intro h; obtain rfl := Option.some.inj h
  first | (simp (maxSteps := 10000000) (implicitDefEqProofs := false) (disch := first | with_reducible assumption | exact rfl | exact im_ _ | (refine dynT ?_; kernel_rfl) | (fail_if_success show Kn _ _); omega) only [bs, rs3, ls3, Nat.reduceAdd, ↓reduceIte, c10_1, c11_0, c12_1, c4_0, c5_0, c6_0, c7_0, c8_1, c9_0, lenD_lst u26, loadD_pagg a25 z25, storeD_agg z25]; refine ⟨by simp, ?_⟩; exact fin_sc rfl rfl rfl rfl) | (exfalso; omega)
end Xr

