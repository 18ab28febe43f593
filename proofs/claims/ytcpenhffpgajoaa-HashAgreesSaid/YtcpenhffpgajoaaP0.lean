/- A part of the proof: P0. No conditions of its own. -/
import Derived.Test.YtcpenhffpgajoaaL
namespace Xr
open Go Go.Ev Go.Proofs
set_option linter.unusedSimpArgs false
set_option linter.unusedVariables false
set_option linter.defProp false
set_option maxRecDepth 8000
set_option maxHeartbeats 40000000
def ls48 := And.intro @faP_25_3 (And.intro @idxL_23 (And.intro @lk_frz_25 (@varld_4_0_3)))
theorem c48r_0 {rec : Node → Int → Int → Option Int} (hrec : ∀ x0 x1 x2 r, rec x0 x1 x2 = some r → callW Try.prog A0 48 [.p (.agg (pv_Node x0)), iv x1, iv x2] [] = some (.p (.v (.int .i64 r)), [])) {H : List Ob} {a1 : Node} {a2 a3 : Int} {r : Int} (h : rec a1 a2 a3 = some r) : callD (callW Try.prog A0) A0 H 48 [.p (.agg (pv_Node a1)), iv a2, iv a3] = some (.p (.v (.int .i64 r)), none) :=
 callD_fun (args := [.agg (pv_Node a1), .v (.int .i64 a2), .v (.int .i64 a3)]) rfl rfl rfl (by simp only [List.map_cons, List.map_nil, wk, wks, wkL]; exact hrec a1 a2 a3 _ h)
noncomputable def L48_0 : Code := (loopsOf (bodyOf Try.f48)).getD 0 .skip
def g48_0 : List Ghost := [.keep [2, 3, 7, 8]]
noncomputable def F48_0 (s2 : Int) (w0_0 : Int) (w0_1 : ByteArray) (w0_2 : (List ByteArray)) (w0_3 : (List Node)) : (Int × Int) → St := fun (s7, s8) => ⟨[J, J, iv s2, .ptr 0 0, J, J, J, iv s7, iv s8, J, J, J, J, J, J, J, J, J, J, J, J, J, J, J, J, J, J, J, J, J, J, J, J, J, J, J, J, J, J, J, J, J, J], [.var [iv w0_0, .p (.v (.string w0_1)), .p (.lst false w0_2.length (encL en_str w0_2)), .p (.lst false w0_3.length (encL en_Node w0_3))]], 0⟩
theorem L48_0_ok {rec : Node → Int → Int → Option Int} (hrec : ∀ x0 x1 x2 r, rec x0 x1 x2 = some r → callW Try.prog A0 48 [.p (.agg (pv_Node x0)), iv x1, iv x2] [] = some (.p (.v (.int .i64 r)), [])) (s2 : Int) (w0_0 : Int) (w0_1 : ByteArray) (w0_2 : (List ByteArray)) (w0_3 : (List Node)) : ∀ s st o, ghostsD g48_0 st = some (F48_0 s2 w0_0 w0_1 w0_2 w0_3 s) → iter (R06_left_L0 rec s2 w0_0 w0_1 w0_2 w0_3) s = some o →
    Wp (evW Try.prog A0 48 (.loop L48_0) st) (OutQ (F48_0 s2 w0_0 w0_1 w0_2 w0_3) g48_0 (fun n s st => n = 0 ∧ ghostsD [.keep [2, 3, 7, 8]] st = some (F48_0 s2 w0_0 w0_1 w0_2 w0_3 s)) (fun r st => finishD Try.prog A0 48 Try.f48 st = some (.p (.v (.int .i64 r)), [])) o) := by
 refine Wp.iter ?_
 intro s st o hg h
 obtain ⟨s7, s8⟩ := s
 unfold R06_left_L0 at h; unfold g48_0 F48_0 at hg ⊢
 (try simp only [] at h hg)
 unfold L48_0 bodyOf Try.f48; simp only [loopsOf, ens]
 revert h
 repeat' first | (with_reducible refine gR fun _ _ _ _ => ?_) | (with_reducible refine gB fun _ _ => ?_) | (with_reducible refine gI (fun _ _ => ?_) (fun _ _ => ?_))
 all_goals
  intro h; obtain rfl := Option.some.inj h
  first | (simp (maxSteps := 10000000) (implicitDefEqProofs := false) (disch := first | with_reducible assumption | exact rfl | exact im_ _ | (fail_if_success show Kn _ _); omega) only [bs, rs48, ls48, Nat.reduceAdd, ↓reduceIte, c48r_0 hrec, lenD_lst u23, loadD_iagg a25 z25, loadD_ptr a23, hg]; first | (refine ⟨(rfl : Ex.ret = Ex.ret), ?_⟩; exact fin_sc rfl rfl rfl rfl) | (exact ⟨(rfl : Ex.normal = Ex.normal), by kernel_rfl⟩) | (exact ⟨(rfl : Ex.exit 0 = Ex.exit 0), rfl, by kernel_rfl⟩)) | (exfalso; omega)
theorem f48_ok {rec : Node → Int → Int → Option Int} (hrec : ∀ x0 x1 x2 r, rec x0 x1 x2 = some r → callW Try.prog A0 48 [.p (.agg (pv_Node x0)), iv x1, iv x2] [] = some (.p (.v (.int .i64 r)), []))  (x0 : Node) (x1 : Int) (x2 : Int) (r : Int) (h : R06_left.body rec x0 x1 x2 = some r) : callW Try.prog A0 48 [.p (.agg (pv_Node x0)), iv x1, iv x2] [] = some (.p (.v (.int .i64 r)), []) := by
 refine call_ofI (fn := Try.f48) (c := bodyOf Try.f48) 40 rfl rfl (by kernel_rfl) (by kernel_rfl) (by kernel_rfl) ?_
 unfold R06_left.body at h; unfold bodyOf Try.f48; simp only [ens]
 revert h
 refine gI (fun h1 _ => ?_) (fun h1 _ => ?_)
 ·intro h; obtain rfl := Option.some.inj h
  simp (maxSteps := 10000000) (implicitDefEqProofs := false) (disch := first | with_reducible assumption | exact rfl | exact im_ _ | (fail_if_success show Kn _ _); omega) only [bs, rs48, ls48, Nat.reduceAdd, ↓reduceIte, c48r_0 hrec, lenD_lst u23, loadD_iagg a25 z25, loadD_ptr a23]
  refine ⟨by simp, ?_⟩; exact fin_sc rfl rfl rfl rfl
 ·refine gI (fun h2 _ => ?_) (fun h2 _ => ?_)
  ·intro h; obtain rfl := Option.some.inj h
   simp (maxSteps := 10000000) (implicitDefEqProofs := false) (disch := first | with_reducible assumption | exact rfl | exact im_ _ | (fail_if_success show Kn _ _); omega) only [bs, rs48, ls48, Nat.reduceAdd, ↓reduceIte, c48r_0 hrec, lenD_lst u23, loadD_iagg a25 z25, loadD_ptr a23]
   refine ⟨by simp, ?_⟩; exact fin_sc rfl rfl rfl rfl
  ·refine gI (fun h3 _ => ?_) (fun h3 _ => ?_)
   ·intro h; obtain rfl := Option.some.inj h
    simp (maxSteps := 10000000) (implicitDefEqProofs := false) (disch := first | with_reducible assumption | exact rfl | exact im_ _ | (fail_if_success show Kn _ _); omega) only [bs, rs48, ls48, Nat.reduceAdd, ↓reduceIte, c48r_0 hrec, lenD_lst u23, loadD_iagg a25 z25, loadD_ptr a23]
    refine ⟨by simp, ?_⟩; exact fin_sc rfl rfl rfl rfl
   ·refine gB fun o h12 => ?_
    intro h
    simp (maxSteps := 10000000) (implicitDefEqProofs := false) (disch := first | with_reducible assumption | exact rfl | exact im_ _ | (fail_if_success show Kn _ _); omega) only [bs, rs48, ls48, Nat.reduceAdd, ↓reduceIte, c48r_0 hrec, lenD_lst u23, loadD_iagg a25 z25, loadD_ptr a23]
    refine Wp.ctx (fun x => seqW _ _ _ _ (blockW _ (x))) (L48_0_ok hrec x2 x0.Kind x0.Text x0.Gaps x0.Kids (w64 (x1 - (1 : Int)), (0 : Int)) _ o (by kernel_rfl) h12) ?_
    intro e st hq
    cases o with
    | next _ => (first | cases h | (simp at h))
    | jmp n_ s_ =>
     obtain ⟨rfl, rfl, hq⟩ := hq
     obtain ⟨s7_13, s8_13⟩ := s_
     unfold F48_0 at hq
     (try simp only [] at h hq)
     revert h
     intro h; obtain rfl := Option.some.inj h
     simp (maxSteps := 10000000) (implicitDefEqProofs := false) (disch := first | with_reducible assumption | exact rfl | exact im_ _ | (fail_if_success show Kn _ _); omega) only [bs, rs48, ls48, Nat.reduceAdd, ↓reduceIte, c48r_0 hrec, lenD_lst u23, loadD_iagg a25 z25, loadD_ptr a23, hq]
     refine ⟨by simp, ?_⟩; exact fin_sc rfl rfl rfl rfl
    | ret r14 =>
     obtain ⟨rfl, hq⟩ := hq
     obtain rfl := Option.some.inj h
     simp (maxSteps := 10000000) (implicitDefEqProofs := false) (disch := first | with_reducible assumption | exact rfl | exact im_ _ | (fail_if_success show Kn _ _); omega) only [bs, rs48, ls48, Nat.reduceAdd, ↓reduceIte, c48r_0 hrec, lenD_lst u23, loadD_iagg a25 z25, loadD_ptr a23]
     exact ⟨by simp, hq⟩
theorem f48_spec : ∀ (x0 : Node) (x1 : Int) (x2 : Int) r, R06_leftS x0 x1 x2 = some r → callW Try.prog A0 48 [.p (.agg (pv_Node x0)), iv x1, iv x2] [] = some (.p (.v (.int .i64 r)), []) := by
 have key : ∀ n (x0 : Node) (x1 : Int) (x2 : Int) r, R06_leftS_mu x0 x1 x2 < n → R06_leftS x0 x1 x2 = some r → callW Try.prog A0 48 [.p (.agg (pv_Node x0)), iv x1, iv x2] [] = some (.p (.v (.int .i64 r)), []) := by
  intro n
  induction n with
  | zero => intro x0 x1 x2 r h; omega
  | succ n ih =>
   intro x0 x1 x2 r hn h
   refine f48_ok (rec := fun x0' x1' x2' => if R06_leftS_mu x0' x1' x2' < R06_leftS_mu x0 x1 x2 then R06_leftS x0' x1' x2' else none) ?_ x0 x1 x2 r (R06_leftS_body x0 x1 x2 r h)
   intro x0' x1' x2' r' h'
   by_cases hm : R06_leftS_mu x0' x1' x2' < R06_leftS_mu x0 x1 x2
   ·rw [if_pos hm] at h'; exact ih x0' x1' x2' r' (by omega) h'
   ·rw [if_neg hm] at h'; cases h'
 intro x0 x1 x2 r h
 exact key _ x0 x1 x2 r (Nat.lt_succ_self _) h
def ls30 := @varlv_4_0_4
theorem c48_1 {H : List Ob} {a1 : Node} {a2 a3 : Int} {r : Int} (h : R06_leftS a1 a2 a3 = some r) : callD (callW Try.prog A0) A0 H 48 [.p (.agg (pv_Node a1)), iv a2, iv a3] = some (.p (.v (.int .i64 r)), none) :=
 callD_fun (args := [.agg (pv_Node a1), .v (.int .i64 a2), .v (.int .i64 a3)]) rfl rfl rfl (by simp only [List.map_cons, List.map_nil, wk, wks, wkL]; exact f48_spec a1 a2 a3 _ h)
theorem f30_ok  (x0 : Node) (x1 : Int) (x2 : Int) (r : Bool) (h : R06_Fits x0 x1 x2 = some r) : callW Try.prog A0 30 [.p (.agg (pv_Node x0)), iv x1, iv x2] [] = some (.p (.v (.bool r)), []) := by
 refine call_ofI (fn := Try.f30) (c := bodyOf Try.f30) 9 rfl rfl (by kernel_rfl) (by kernel_rfl) (by kernel_rfl) ?_
 unfold R06_Fits at h; unfold bodyOf Try.f30; simp only [ens]
 revert h
 repeat' (with_reducible refine gB fun _ _ => ?_)
 intro h; obtain rfl := Option.some.inj h
 simp (maxSteps := 10000000) (implicitDefEqProofs := false) (disch := first | with_reducible assumption | exact rfl | exact im_ _ | (fail_if_success show Kn _ _); omega) only [bs, rs30, ls30, Nat.reduceAdd, ↓reduceIte, c48_1, loadD_pagg a25 z25]
 refine ⟨by simp, ?_⟩; exact fin_sc rfl rfl rfl rfl
def ls31 := And.intro @ce_9_x (And.intro @faP_25_1 (And.intro @faP_25_2 (And.intro @faP_25_3 (And.intro @idxL_22 (And.intro @idxL_23 (And.intro @lk_frz_25 (And.intro @varld_4_0_1 (And.intro @varld_4_0_2 (@varld_4_0_3)))))))))
theorem c30_0 {H : List Ob} {a1 : Node} {a2 a3 : Int} {r : Bool} (h : R06_Fits a1 a2 a3 = some r) : callD (callW Try.prog A0) A0 H 30 [.p (.agg (pv_Node a1)), iv a2, iv a3] = some (.p (.v (.bool r)), none) :=
 callD_fun (args := [.agg (pv_Node a1), .v (.int .i64 a2), .v (.int .i64 a3)]) rfl rfl rfl (by simp only [List.map_cons, List.map_nil, wk, wks, wkL]; exact f30_ok a1 a2 a3 _ h)
theorem c31r_0 {rec : Node → Int → Option Int} (hrec : ∀ x0 x1 r, rec x0 x1 = some r → callW Try.prog A0 31 [.p (.agg (pv_Node x0)), iv x1] [] = some (.p (.v (.int .i64 r)), [])) {H : List Ob} {a1 : Node} {a2 : Int} {r : Int} (h : rec a1 a2 = some r) : callD (callW Try.prog A0) A0 H 31 [.p (.agg (pv_Node a1)), iv a2] = some (.p (.v (.int .i64 r)), none) :=
 callD_fun (args := [.agg (pv_Node a1), .v (.int .i64 a2)]) rfl rfl rfl (by simp only [List.map_cons, List.map_nil, wk, wks, wkL]; exact hrec a1 a2 _ h)
noncomputable def L31_1 : Code := (loopsOf (bodyOf Try.f31)).getD 1 .skip
def g31_1 : List Ghost := [.keep [2, 5, 7]]
noncomputable def F31_1 (w0_0 : Int) (w0_1 : ByteArray) (w0_2 : (List ByteArray)) (w0_3 : (List Node)) : (Int × Int) → St := fun (s5, s7) => ⟨[J, J, .ptr 0 0, J, J, iv s5, J, iv s7, J, J, J, J, J, J, J, J, J, J, J, J, J, J, J, J, J, J, J, J, J, J, J, J, J, J, J, J, J, J, J, J, J, J, J, J, J, J, J, J, J, J, J, J, J, J, J, J, J, J, J, J, J, J, J, J, J, J], [.var [iv w0_0, .p (.v (.string w0_1)), .p (.lst false w0_2.length (encL en_str w0_2)), .p (.lst false w0_3.length (encL en_Node w0_3))]], 0⟩
theorem L31_1_ok {rec : Node → Int → Option Int} (hrec : ∀ x0 x1 r, rec x0 x1 = some r → callW Try.prog A0 31 [.p (.agg (pv_Node x0)), iv x1] [] = some (.p (.v (.int .i64 r)), [])) (w0_0 : Int) (w0_1 : ByteArray) (w0_2 : (List ByteArray)) (w0_3 : (List Node)) : ∀ s st o, ghostsD g31_1 st = some (F31_1 w0_0 w0_1 w0_2 w0_3 s) → iter (R06_weigh_L1 rec w0_0 w0_1 w0_2 w0_3) s = some o →
    Wp (evW Try.prog A0 31 (.loop L31_1) st) (OutQ (F31_1 w0_0 w0_1 w0_2 w0_3) g31_1 (fun n s st => n = 2 ∧ ghostsD [.keep [2, 5, 7]] st = some (F31_1 w0_0 w0_1 w0_2 w0_3 s)) (fun r st => finishD Try.prog A0 31 Try.f31 st = some (.p (.v (.int .i64 r)), [])) o) := by
 refine Wp.iter ?_
 intro s st o hg h
 obtain ⟨s5, s7⟩ := s
 unfold R06_weigh_L1 at h; unfold g31_1 F31_1 at hg ⊢
 (try simp only [] at h hg)
 unfold L31_1 bodyOf Try.f31; simp only [loopsOf, ens]
 revert h
 repeat' first | (with_reducible refine gR fun _ _ _ _ => ?_) | (with_reducible refine gB fun _ _ => ?_) | (with_reducible refine gI (fun _ _ => ?_) (fun _ _ => ?_))
 all_goals
  intro h; obtain rfl := Option.some.inj h
  first | (simp (maxSteps := 10000000) (implicitDefEqProofs := false) (disch := first | with_reducible assumption | exact rfl | exact im_ _ | (fail_if_success show Kn _ _); omega) only [bs, rs31, ls31, Nat.reduceAdd, ↓reduceIte, c31r_0 hrec, lenD_lst u22, lenD_lst u23, lenD_str u9, loadD_iagg a25 z25, loadD_iptr a9, loadD_ptr a22, loadD_ptr a23, loadD_ptr a9, hg]; first | (refine ⟨(rfl : Ex.ret = Ex.ret), ?_⟩; exact fin_sc rfl rfl rfl rfl) | (exact ⟨(rfl : Ex.normal = Ex.normal), by kernel_rfl⟩) | (exact ⟨(rfl : Ex.exit 2 = Ex.exit 2), rfl, by kernel_rfl⟩)) | (exfalso; omega)
noncomputable def L31_0 : Code := (loopsOf (bodyOf Try.f31)).getD 0 .skip
def g31_0 : List Ghost := [.keep [2, 5, 6]]
noncomputable def F31_0 (w0_0 : Int) (w0_1 : ByteArray) (w0_2 : (List ByteArray)) (w0_3 : (List Node)) : (Int × Int) → St := fun (s5, s6) => ⟨[J, J, .ptr 0 0, J, J, iv s5, iv s6, J, J, J, J, J, J, J, J, J, J, J, J, J, J, J, J, J, J, J, J, J, J, J, J, J, J, J, J, J, J, J, J, J, J, J, J, J, J, J, J, J, J, J, J, J, J, J, J, J, J, J, J, J, J, J, J, J, J, J], [.var [iv w0_0, .p (.v (.string w0_1)), .p (.lst false w0_2.length (encL en_str w0_2)), .p (.lst false w0_3.length (encL en_Node w0_3))]], 0⟩
theorem L31_0_ok {rec : Node → Int → Option Int} (hrec : ∀ x0 x1 r, rec x0 x1 = some r → callW Try.prog A0 31 [.p (.agg (pv_Node x0)), iv x1] [] = some (.p (.v (.int .i64 r)), [])) (w0_0 : Int) (w0_1 : ByteArray) (w0_2 : (List ByteArray)) (w0_3 : (List Node)) : ∀ s st o, ghostsD g31_0 st = some (F31_0 w0_0 w0_1 w0_2 w0_3 s) → iter (R06_weigh_L0 rec w0_0 w0_1 w0_2 w0_3) s = some o →
    Wp (evW Try.prog A0 31 (.loop L31_0) st) (OutQ (F31_0 w0_0 w0_1 w0_2 w0_3) g31_0 (fun n s st => n = 0 ∧ ghostsD [.keep [2, 5, 6]] st = some (F31_0 w0_0 w0_1 w0_2 w0_3 s)) (fun r st => finishD Try.prog A0 31 Try.f31 st = some (.p (.v (.int .i64 r)), [])) o) := by
 refine Wp.iter ?_
 intro s st o hg h
 obtain ⟨s5, s6⟩ := s
 unfold R06_weigh_L0 at h; unfold g31_0 F31_0 at hg ⊢
 (try simp only [] at h hg)
 unfold L31_0 bodyOf Try.f31; simp only [loopsOf, ens]
 revert h
 repeat' first | (with_reducible refine gR fun _ _ _ _ => ?_) | (with_reducible refine gI (fun _ _ => ?_) (fun _ _ => ?_))
 all_goals
  intro h; obtain rfl := Option.some.inj h
  first | (simp (maxSteps := 10000000) (implicitDefEqProofs := false) (disch := first | with_reducible assumption | exact rfl | exact im_ _ | (fail_if_success show Kn _ _); omega) only [bs, rs31, ls31, Nat.reduceAdd, ↓reduceIte, c31r_0 hrec, lenD_lst u22, lenD_lst u23, lenD_str u9, loadD_iagg a25 z25, loadD_iptr a9, loadD_ptr a22, loadD_ptr a23, loadD_ptr a9, hg]; first | (refine ⟨(rfl : Ex.ret = Ex.ret), ?_⟩; exact fin_sc rfl rfl rfl rfl) | (exact ⟨(rfl : Ex.normal = Ex.normal), by kernel_rfl⟩) | (exact ⟨(rfl : Ex.exit 0 = Ex.exit 0), rfl, by kernel_rfl⟩)) | (exfalso; omega)
theorem f31_ok {rec : Node → Int → Option Int} (hrec : ∀ x0 x1 r, rec x0 x1 = some r → callW Try.prog A0 31 [.p (.agg (pv_Node x0)), iv x1] [] = some (.p (.v (.int .i64 r)), []))  (x0 : Node) (x1 : Int) (r : Int) (h : R06_weigh.body rec x0 x1 = some r) : callW Try.prog A0 31 [.p (.agg (pv_Node x0)), iv x1] [] = some (.p (.v (.int .i64 r)), []) := by
 refine call_ofI (fn := Try.f31) (c := bodyOf Try.f31) 64 rfl rfl (by kernel_rfl) (by kernel_rfl) (by kernel_rfl) ?_
 unfold R06_weigh.body at h; unfold bodyOf Try.f31; simp only [ens]
 revert h
 refine gI (fun h1 _ => ?_) (fun h1 _ => ?_)
 ·intro h; obtain rfl := Option.some.inj h
  simp (maxSteps := 10000000) (implicitDefEqProofs := false) (disch := first | with_reducible assumption | exact rfl | exact im_ _ | (fail_if_success show Kn _ _); omega) only [bs, rs31, ls31, Nat.reduceAdd, ↓reduceIte, c31r_0 hrec, lenD_lst u22, lenD_lst u23, lenD_str u9, loadD_iagg a25 z25, loadD_iptr a9, loadD_ptr a22, loadD_ptr a23, loadD_ptr a9]
  refine ⟨by simp, ?_⟩; exact fin_sc rfl rfl rfl rfl
 ·refine gI (fun h2 _ => ?_) (fun h2 _ => ?_)
  ·intro h; obtain rfl := Option.some.inj h
   simp (maxSteps := 10000000) (implicitDefEqProofs := false) (disch := first | with_reducible assumption | exact rfl | exact im_ _ | (fail_if_success show Kn _ _); omega) only [bs, rs31, ls31, Nat.reduceAdd, ↓reduceIte, c31r_0 hrec, lenD_lst u22, lenD_lst u23, lenD_str u9, loadD_iagg a25 z25, loadD_iptr a9, loadD_ptr a22, loadD_ptr a23, loadD_ptr a9]
   refine ⟨by simp, ?_⟩; exact fin_sc rfl rfl rfl rfl
  ·refine gB fun o h9 => ?_
   intro h
   simp (maxSteps := 10000000) (implicitDefEqProofs := false) (disch := first | with_reducible assumption | exact rfl | exact im_ _ | (fail_if_success show Kn _ _); omega) only [bs, rs31, ls31, Nat.reduceAdd, ↓reduceIte, c31r_0 hrec, lenD_lst u22, lenD_lst u23, lenD_str u9, loadD_iagg a25 z25, loadD_iptr a9, loadD_ptr a22, loadD_ptr a23, loadD_ptr a9]
   refine Wp.ctx (fun x => seqW _ _ _ _ (blockW _ (x))) (L31_0_ok hrec x0.Kind x0.Text x0.Gaps x0.Kids (w64 (x1 - (x0.Text.size : Int)), (0 : Int)) _ o (by kernel_rfl) h9) ?_
   intro e st hq
   cases o with
   | next _ => (first | cases h | (simp at h))
   | jmp n_ s_ =>
    obtain ⟨rfl, rfl, hq⟩ := hq
    obtain ⟨s5_10, s6_10⟩ := s_
    unfold F31_0 at hq
    (try simp only [] at h hq)
    revert h
    refine gB fun o h19 => ?_
    intro h
    simp (maxSteps := 10000000) (implicitDefEqProofs := false) (disch := first | with_reducible assumption | exact rfl | exact im_ _ | (fail_if_success show Kn _ _); omega) only [bs, rs31, ls31, Nat.reduceAdd, ↓reduceIte, c31r_0 hrec, lenD_lst u22, lenD_lst u23, lenD_str u9, loadD_iagg a25 z25, loadD_iptr a9, loadD_ptr a22, loadD_ptr a23, loadD_ptr a9, hq]
    refine Wp.ctx (fun x => seqW _ _ _ _ (blockW _ (x))) (L31_1_ok hrec x0.Kind x0.Text x0.Gaps x0.Kids (s5_10, (0 : Int)) _ o (by kernel_rfl) h19) ?_
    intro e st hq
    cases o with
    | next _ => (first | cases h | (simp at h))
    | jmp n_ s_ =>
     obtain ⟨rfl, rfl, hq⟩ := hq
     obtain ⟨s5_20, s7_20⟩ := s_
     unfold F31_1 at hq
     (try simp only [] at h hq)
     revert h
     intro h; obtain rfl := Option.some.inj h
     simp (maxSteps := 10000000) (implicitDefEqProofs := false) (disch := first | with_reducible assumption | exact rfl | exact im_ _ | (fail_if_success show Kn _ _); omega) only [bs, rs31, ls31, Nat.reduceAdd, ↓reduceIte, c31r_0 hrec, lenD_lst u22, lenD_lst u23, lenD_str u9, loadD_iagg a25 z25, loadD_iptr a9, loadD_ptr a22, loadD_ptr a23, loadD_ptr a9, hq, hq]
     refine ⟨by simp, ?_⟩; exact fin_sc rfl rfl rfl rfl
    | ret r21 =>
     obtain ⟨rfl, hq⟩ := hq
     obtain rfl := Option.some.inj h
     simp (maxSteps := 10000000) (implicitDefEqProofs := false) (disch := first | with_reducible assumption | exact rfl | exact im_ _ | (fail_if_success show Kn _ _); omega) only [bs, rs31, ls31, Nat.reduceAdd, ↓reduceIte, c31r_0 hrec, lenD_lst u22, lenD_lst u23, lenD_str u9, loadD_iagg a25 z25, loadD_iptr a9, loadD_ptr a22, loadD_ptr a23, loadD_ptr a9]
     exact ⟨by simp, hq⟩
   | ret r22 =>
    obtain ⟨rfl, hq⟩ := hq
    obtain rfl := Option.some.inj h
    simp (maxSteps := 10000000) (implicitDefEqProofs := false) (disch := first | with_reducible assumption | exact rfl | exact im_ _ | (fail_if_success show Kn _ _); omega) only [bs, rs31, ls31, Nat.reduceAdd, ↓reduceIte, c31r_0 hrec, lenD_lst u22, lenD_lst u23, lenD_str u9, loadD_iagg a25 z25, loadD_iptr a9, loadD_ptr a22, loadD_ptr a23, loadD_ptr a9]
    exact ⟨by simp, hq⟩
theorem f31_spec : ∀ (x0 : Node) (x1 : Int) r, R06_weighS x0 x1 = some r → callW Try.prog A0 31 [.p (.agg (pv_Node x0)), iv x1] [] = some (.p (.v (.int .i64 r)), []) := by
 have key : ∀ n (x0 : Node) (x1 : Int) r, R06_weighS_mu x0 x1 < n → R06_weighS x0 x1 = some r → callW Try.prog A0 31 [.p (.agg (pv_Node x0)), iv x1] [] = some (.p (.v (.int .i64 r)), []) := by
  intro n
  induction n with
  | zero => intro x0 x1 r h; omega
  | succ n ih =>
   intro x0 x1 r hn h
   refine f31_ok (rec := fun x0' x1' => if R06_weighS_mu x0' x1' < R06_weighS_mu x0 x1 then R06_weighS x0' x1' else none) ?_ x0 x1 r (R06_weighS_body x0 x1 r h)
   intro x0' x1' r' h'
   by_cases hm : R06_weighS_mu x0' x1' < R06_weighS_mu x0 x1
   ·rw [if_pos hm] at h'; exact ih x0' x1' r' (by omega) h'
   ·rw [if_neg hm] at h'; cases h'
 intro x0 x1 r h
 exact key _ x0 x1 r (Nat.lt_succ_self _) h
def ls9 := @varlv_4_0_4
theorem c31_1 {H : List Ob} {a1 : Node} {a2 : Int} {r : Int} (h : R06_weighS a1 a2 = some r) : callD (callW Try.prog A0) A0 H 31 [.p (.agg (pv_Node a1)), iv a2] = some (.p (.v (.int .i64 r)), none) :=
 callD_fun (args := [.agg (pv_Node a1), .v (.int .i64 a2)]) rfl rfl rfl (by simp only [List.map_cons, List.map_nil, wk, wks, wkL]; exact f31_spec a1 a2 _ h)
theorem f9_ok  (x0 : Node) (x1 : Int) (x2 : Int) (x3 : Int) (r : Bool) (h : R06_Light x0 x1 x2 x3 = some r) : callW Try.prog A0 9 [.p (.agg (pv_Node x0)), iv x1, iv x2, iv x3] [] = some (.p (.v (.bool r)), []) := by
 refine call_ofI (fn := Try.f9) (c := bodyOf Try.f9) 15 rfl rfl (by kernel_rfl) (by kernel_rfl) (by kernel_rfl) ?_
 unfold R06_Light at h; unfold bodyOf Try.f9; simp only [ens]
 revert h
 repeat' first | (with_reducible refine gB fun _ _ => ?_) | (with_reducible refine gT (fun _ _ => ?_) (fun _ _ => ?_))
 all_goals
  intro h; obtain rfl := Option.some.inj h
  first | (simp (maxSteps := 10000000) (implicitDefEqProofs := false) (disch := first | with_reducible assumption | exact rfl | exact im_ _ | (fail_if_success show Kn _ _); omega) only [bs, rs9, ls9, Nat.reduceAdd, ↓reduceIte, c30_0, c31_1, loadD_pagg a25 z25]; refine ⟨by simp, ?_⟩; exact fin_sc rfl rfl rfl rfl) | (exfalso; omega)
def ls61 := @cv_5_50
theorem c9_0 {H : List Ob} {a1 : Node} {a2 a3 a4 : Int} {r : Bool} (h : R06_Light a1 a2 a3 a4 = some r) : callD (callW Try.prog A0) A0 H 9 [.p (.agg (pv_Node a1)), iv a2, iv a3, iv a4] = some (.p (.v (.bool r)), none) :=
 callD_fun (args := [.agg (pv_Node a1), .v (.int .i64 a2), .v (.int .i64 a3), .v (.int .i64 a4)]) rfl rfl rfl (by simp only [List.map_cons, List.map_nil, wk, wks, wkL]; exact f9_ok a1 a2 a3 a4 _ h)
theorem f61_ok  (x0 : Int) (x1 : Int) (r : Int) (h : digest_add x0 x1 = some r) : callW Try.prog A0 61 [.p (.v (.int .u64 x0)), .p (.v (.int .u8 x1))] [] = some (.p (.v (.int .u64 r)), []) := by
 refine call_ofI (fn := Try.f61) (c := bodyOf Try.f61) 8 rfl rfl (by kernel_rfl) (by kernel_rfl) (by kernel_rfl) ?_
 unfold digest_add at h; unfold bodyOf Try.f61; simp only [ens]
 revert h
 intro h; obtain rfl := Option.some.inj h
 simp (maxSteps := 10000000) (implicitDefEqProofs := false) (disch := first | with_reducible assumption | exact rfl | exact im_ _ | (fail_if_success show Kn _ _); omega) only [bs, rs61, ls61, Nat.reduceAdd, ↓reduceIte, binD_mul_k (k := .u64), binD_xor_k]
 refine ⟨by simp, ?_⟩; exact fin_sc rfl rfl rfl rfl
def ls49 := And.intro @bu_89_0_1 (And.intro @cv_3_87 (@cv_50_5))
theorem c61_0 {H : List Ob} {a1 a2 : Int} {r : Int} (h : digest_add a1 a2 = some r) : callD (callW Try.prog A0) A0 H 61 [.p (.v (.int .u64 a1)), .p (.v (.int .u8 a2))] = some (.p (.v (.int .u64 r)), none) :=
 callD_fun (args := [.v (.int .u64 a1), .v (.int .u8 a2)]) rfl rfl rfl (by simp only [List.map_cons, List.map_nil, wk, wks, wkL]; exact f61_ok a1 a2 _ h)
noncomputable def L49_1 : Code := (loopsOf (bodyOf Try.f49)).getD 1 .skip
def g49_1 : List Ghost := [.keep [5, 7, 8, 11, 12]]
noncomputable def F49_1 (s7 : Int) (a11_0 : Int) (a11_1 : Int) (s12 : Int) : (Int × Int) → St := fun (s5, s8) => ⟨[J, J, J, J, J, .p (.v (.int .u64 s5)), J, .p (.v (.int .u64 s7)), iv s8, J, J, .p (.agg [.v (.int .u64 a11_0), .v (.int .u64 a11_1)]), iv s12, J, J, J, J, J, J, J, J, J, J, J, J, J, J, J], [], 0⟩
theorem L49_1_ok (s7 : Int) (a11_0 : Int) (a11_1 : Int) (s12 : Int) : ∀ s st o, ghostsD g49_1 st = some (F49_1 s7 a11_0 a11_1 s12 s) → iter (digest_Mix_L1 s7 a11_0 a11_1 s12) s = some o →
    Wp (evW Try.prog A0 49 (.loop L49_1) st) (OutQ (F49_1 s7 a11_0 a11_1 s12) g49_1 (fun n s st => n = 2 ∧ ghostsD [.keep [5, 7, 8, 11, 12]] st = some (F49_1 s7 a11_0 a11_1 s12 s)) (fun r st => finishD Try.prog A0 49 Try.f49 st = some (.p (.v (.int .u64 r)), [])) o) := by
 refine Wp.iter ?_
 intro s st o hg h
 obtain ⟨s5, s8⟩ := s
 unfold digest_Mix_L1 at h; unfold g49_1 F49_1 at hg ⊢
 (try simp only [] at h hg)
 unfold L49_1 bodyOf Try.f49; simp only [loopsOf, ens]
 revert h
 repeat' first | (with_reducible refine gB fun _ _ => ?_) | (with_reducible refine gI (fun _ _ => ?_) (fun _ _ => ?_))
 all_goals
  intro h; obtain rfl := Option.some.inj h
  first | (simp (maxSteps := 10000000) (implicitDefEqProofs := false) (disch := first | with_reducible assumption | exact rfl | exact im_ _ | (fail_if_success show Kn _ _); omega) only [bs, rs49, ls49, Nat.reduceAdd, ↓reduceIte, binD_shr_k, c61_0, ixa_89, hg]; first | (exact ⟨(rfl : Ex.normal = Ex.normal), by kernel_rfl⟩) | (exact ⟨(rfl : Ex.exit 2 = Ex.exit 2), rfl, by kernel_rfl⟩)) | (exfalso; omega)
noncomputable def L49_0 : Code := (loopsOf (bodyOf Try.f49)).getD 0 .skip
def g49_0 : List Ghost := [.keep [5, 11, 12]]
noncomputable def F49_0 (a11_0 : Int) (a11_1 : Int) : (Int × Int) → St := fun (s5, s12) => ⟨[J, J, J, J, J, .p (.v (.int .u64 s5)), J, J, J, J, J, .p (.agg [.v (.int .u64 a11_0), .v (.int .u64 a11_1)]), iv s12, J, J, J, J, J, J, J, J, J, J, J, J, J, J, J], [], 0⟩
theorem L49_0_ok (a11_0 : Int) (a11_1 : Int) : ∀ s st o, ghostsD g49_0 st = some (F49_0 a11_0 a11_1 s) → iter (digest_Mix_L0 a11_0 a11_1) s = some o →
    Wp (evW Try.prog A0 49 (.loop L49_0) st) (OutQ (F49_0 a11_0 a11_1) g49_0 (fun n s st => n = 0 ∧ ghostsD [.keep [5, 11, 12]] st = some (F49_0 a11_0 a11_1 s)) (fun r st => finishD Try.prog A0 49 Try.f49 st = some (.p (.v (.int .u64 r)), [])) o) := by
 refine Wp.iter ?_
 intro s st o hg h
 obtain ⟨s5, s12⟩ := s
 unfold digest_Mix_L0 at h; unfold g49_0 F49_0 at hg ⊢
 (try simp only [] at h hg)
 unfold L49_0 bodyOf Try.f49; simp only [loopsOf, ens]
 revert h
 refine gI (fun h1 _ => ?_) (fun h1 _ => ?_)
 ·refine gB fun q2 h3 => ?_
  refine gB fun o h12 => ?_
  intro h
  simp (maxSteps := 10000000) (implicitDefEqProofs := false) (disch := first | with_reducible assumption | exact rfl | exact im_ _ | (fail_if_success show Kn _ _); omega) only [bs, rs49, ls49, Nat.reduceAdd, ↓reduceIte, binD_shr_k, c61_0, ixa_89, hg]
  refine Wp.ctx (fun x => seqW _ _ _ _ (blockW _ (blockW _ (x)))) (L49_1_ok q2 a11_0 a11_1 s12 (s5, (56 : Int)) _ o (by kernel_rfl) h12) ?_
  intro e st hq
  cases o with
  | next _ => (first | cases h | (simp at h))
  | jmp n_ s_ =>
   obtain ⟨rfl, rfl, hq⟩ := hq
   obtain ⟨s5_13, s8_13⟩ := s_
   unfold F49_1 at hq
   (try simp only [] at h hq)
   revert h
   intro h; obtain rfl := Option.some.inj h
   simp (maxSteps := 10000000) (implicitDefEqProofs := false) (disch := first | with_reducible assumption | exact rfl | exact im_ _ | (fail_if_success show Kn _ _); omega) only [bs, rs49, ls49, Nat.reduceAdd, ↓reduceIte, binD_shr_k, c61_0, ixa_89, hg, hq]
   exact ⟨(rfl : Ex.normal = Ex.normal), by kernel_rfl⟩
  | ret _ => (first | cases h | (simp at h))
 ·intro h; obtain rfl := Option.some.inj h
  simp (maxSteps := 10000000) (implicitDefEqProofs := false) (disch := first | with_reducible assumption | exact rfl | exact im_ _ | (fail_if_success show Kn _ _); omega) only [bs, rs49, ls49, Nat.reduceAdd, ↓reduceIte, binD_shr_k, c61_0, ixa_89, hg]
  exact ⟨(rfl : Ex.exit 0 = Ex.exit 0), rfl, by kernel_rfl⟩
theorem f49_ok  (x0 : Int) (x1 : Int) (r : Int) (h : digest_Mix x0 x1 = some r) : callW Try.prog A0 49 [.p (.v (.int .u64 x0)), .p (.v (.int .u64 x1))] [] = some (.p (.v (.int .u64 r)), []) := by
 refine call_ofI (fn := Try.f49) (c := bodyOf Try.f49) 26 rfl rfl (by kernel_rfl) (by kernel_rfl) (by kernel_rfl) ?_
 unfold digest_Mix at h; unfold bodyOf Try.f49; simp only [ens]
 revert h
 refine gB fun o h14 => ?_
 intro h
 simp (maxSteps := 10000000) (implicitDefEqProofs := false) (disch := first | with_reducible assumption | exact rfl | exact im_ _ | (fail_if_success show Kn _ _); omega) only [bs, rs49, ls49, Nat.reduceAdd, ↓reduceIte, binD_shr_k, c61_0, ixa_89]
 refine Wp.ctx (fun x => seqW _ _ _ _ (blockW _ (x))) (L49_0_ok x0 x1 ((14695981039346656037 : Int), (0 : Int)) _ o (by kernel_rfl) h14) ?_
 intro e st hq
 cases o with
 | next _ => (first | cases h | (simp at h))
 | jmp n_ s_ =>
  obtain ⟨rfl, rfl, hq⟩ := hq
  obtain ⟨s5_15, s12_15⟩ := s_
  unfold F49_0 at hq
  (try simp only [] at h hq)
  revert h
  intro h; obtain rfl := Option.some.inj h
  simp (maxSteps := 10000000) (implicitDefEqProofs := false) (disch := first | with_reducible assumption | exact rfl | exact im_ _ | (fail_if_success show Kn _ _); omega) only [bs, rs49, ls49, Nat.reduceAdd, ↓reduceIte, binD_shr_k, c61_0, ixa_89, hq]
  refine ⟨by simp, ?_⟩; exact fin_sc rfl rfl rfl rfl
 | ret _ => (first | cases h | (simp at h))
noncomputable def L50_0 : Code := (loopsOf (bodyOf Try.f50)).getD 0 .skip
def g50_0 : List Ghost := [.keep [0, 3, 6, 7]]
noncomputable def F50_0 (s0 : ByteArray) (s6 : Int) : (Int × Int) → St := fun (s3, s7) => ⟨[.p (.v (.string s0)), J, J, .p (.v (.int .u64 s3)), J, J, iv s6, iv s7, J, J, J, J, J, J, J, J, J], [], 0⟩
theorem L50_0_ok (s0 : ByteArray) (s6 : Int) : ∀ s st o, ghostsD g50_0 st = some (F50_0 s0 s6 s) → iter (digest_Sum_L0 s0 s6) s = some o →
    Wp (evW Try.prog A0 50 (.loop L50_0) st) (OutQ (F50_0 s0 s6) g50_0 (fun n s st => n = 0 ∧ ghostsD [.keep [0, 3, 6, 7]] st = some (F50_0 s0 s6 s)) (fun r st => finishD Try.prog A0 50 Try.f50 st = some (.p (.v (.int .u64 r)), [])) o) := by
 refine Wp.iter ?_
 intro s st o hg h
 obtain ⟨s3, s7⟩ := s
 unfold digest_Sum_L0 at h; unfold g50_0 F50_0 at hg ⊢
 (try simp only [] at h hg)
 unfold L50_0 bodyOf Try.f50; simp only [loopsOf, ens]
 revert h
 repeat' first | (with_reducible refine gB fun _ _ => ?_) | (with_reducible refine gI (fun _ _ => ?_) (fun _ _ => ?_))
 all_goals
  intro h; obtain rfl := Option.some.inj h
  first | (simp (maxSteps := 10000000) (implicitDefEqProofs := false) (disch := first | with_reducible assumption | exact rfl | exact im_ _ | (fail_if_success show Kn _ _); omega) only [bs, rs50, Nat.reduceAdd, ↓reduceIte, c61_0, indexD_str Try.underlying9, lenD_str u9, hg]; first | (exact ⟨(rfl : Ex.normal = Ex.normal), by kernel_rfl⟩) | (exact ⟨(rfl : Ex.exit 0 = Ex.exit 0), rfl, by kernel_rfl⟩)) | (exfalso; omega)
theorem f50_ok  (x0 : ByteArray) (r : Int) (h : digest_Sum x0 = some r) : callW Try.prog A0 50 [.p (.v (.string x0))] [] = some (.p (.v (.int .u64 r)), []) := by
 refine call_ofI (fn := Try.f50) (c := bodyOf Try.f50) 16 rfl rfl (by kernel_rfl) (by kernel_rfl) (by kernel_rfl) ?_
 unfold digest_Sum at h; unfold bodyOf Try.f50; simp only [ens]
 revert h
 refine gB fun o h8 => ?_
 intro h
 simp (maxSteps := 10000000) (implicitDefEqProofs := false) (disch := first | with_reducible assumption | exact rfl | exact im_ _ | (fail_if_success show Kn _ _); omega) only [bs, rs50, Nat.reduceAdd, ↓reduceIte, c61_0, indexD_str Try.underlying9, lenD_str u9]
 refine Wp.ctx (fun x => seqW _ _ _ _ (blockW _ (x))) (L50_0_ok x0 (x0.size : Int) ((14695981039346656037 : Int), (0 : Int)) _ o (by kernel_rfl) h8) ?_
 intro e st hq
 cases o with
 | next _ => (first | cases h | (simp at h))
 | jmp n_ s_ =>
  obtain ⟨rfl, rfl, hq⟩ := hq
  obtain ⟨s3_9, s7_9⟩ := s_
  unfold F50_0 at hq
  (try simp only [] at h hq)
  revert h
  intro h; obtain rfl := Option.some.inj h
  simp (maxSteps := 10000000) (implicitDefEqProofs := false) (disch := first | with_reducible assumption | exact rfl | exact im_ _ | (fail_if_success show Kn _ _); omega) only [bs, rs50, Nat.reduceAdd, ↓reduceIte, c61_0, indexD_str Try.underlying9, lenD_str u9, hq]
  refine ⟨by simp, ?_⟩; exact fin_sc rfl rfl rfl rfl
 | ret _ => (first | cases h | (simp at h))
def ls63 := @cv_5_50
theorem f63_ok  (x0 : Int) (x1 : Int) (r : Int) (h : R02_Step x0 x1 = some r) : callW Try.prog A0 63 [.p (.v (.int .u64 x0)), .p (.v (.int .u8 x1))] [] = some (.p (.v (.int .u64 r)), []) := by
 refine call_ofI (fn := Try.f63) (c := bodyOf Try.f63) 8 rfl rfl (by kernel_rfl) (by kernel_rfl) (by kernel_rfl) ?_
 unfold R02_Step at h; unfold bodyOf Try.f63; simp only [ens]
 revert h
 intro h; obtain rfl := Option.some.inj h
 simp (maxSteps := 10000000) (implicitDefEqProofs := false) (disch := first | with_reducible assumption | exact rfl | exact im_ _ | (fail_if_success show Kn _ _); omega) only [bs, rs63, ls63, Nat.reduceAdd, ↓reduceIte, binD_mul_k (k := .u64), binD_xor_k]
 refine ⟨by simp, ?_⟩; exact fin_sc rfl rfl rfl rfl
theorem c63_0 {H : List Ob} {a1 a2 : Int} {r : Int} (h : R02_Step a1 a2 = some r) : callD (callW Try.prog A0) A0 H 63 [.p (.v (.int .u64 a1)), .p (.v (.int .u8 a2))] = some (.p (.v (.int .u64 r)), none) :=
 callD_fun (args := [.v (.int .u64 a1), .v (.int .u8 a2)]) rfl rfl rfl (by simp only [List.map_cons, List.map_nil, wk, wks, wkL]; exact f63_ok a1 a2 _ h)
noncomputable def L52_0 : Code := (loopsOf (bodyOf Try.f52)).getD 0 .skip
def g52_0 : List Ghost := [.keep [0, 3, 4]]
noncomputable def F52_0 (s0 : ByteArray) : (Int × Int) → St := fun (s3, s4) => ⟨[.p (.v (.string s0)), J, J, .p (.v (.int .u64 s3)), iv s4, J, J, J, J, J, J, J, J, J, J, J, J], [], 0⟩
theorem L52_0_ok (s0 : ByteArray) : ∀ s st o, ghostsD g52_0 st = some (F52_0 s0 s) → iter (R02_Sum_L0 s0) s = some o →
    Wp (evW Try.prog A0 52 (.loop L52_0) st) (OutQ (F52_0 s0) g52_0 (fun n s st => n = 0 ∧ ghostsD [.keep [0, 3, 4]] st = some (F52_0 s0 s)) (fun r st => finishD Try.prog A0 52 Try.f52 st = some (.p (.v (.int .u64 r)), [])) o) := by
 refine Wp.iter ?_
 intro s st o hg h
 obtain ⟨s3, s4⟩ := s
 unfold R02_Sum_L0 at h; unfold g52_0 F52_0 at hg ⊢
 (try simp only [] at h hg)
 unfold L52_0 bodyOf Try.f52; simp only [loopsOf, ens]
 revert h
 repeat' first | (with_reducible refine gB fun _ _ => ?_) | (with_reducible refine gI (fun _ _ => ?_) (fun _ _ => ?_))
 all_goals
  intro h; obtain rfl := Option.some.inj h
  first | (simp (maxSteps := 10000000) (implicitDefEqProofs := false) (disch := first | with_reducible assumption | exact rfl | exact im_ _ | (fail_if_success show Kn _ _); omega) only [bs, rs52, Nat.reduceAdd, ↓reduceIte, c63_0, indexD_str Try.underlying9, lenD_str u9, hg]; first | (exact ⟨(rfl : Ex.normal = Ex.normal), by kernel_rfl⟩) | (exact ⟨(rfl : Ex.exit 0 = Ex.exit 0), rfl, by kernel_rfl⟩)) | (exfalso; omega)
theorem f52_ok  (x0 : ByteArray) (r : Int) (h : R02_Sum x0 = some r) : callW Try.prog A0 52 [.p (.v (.string x0))] [] = some (.p (.v (.int .u64 r)), []) := by
 refine call_ofI (fn := Try.f52) (c := bodyOf Try.f52) 16 rfl rfl (by kernel_rfl) (by kernel_rfl) (by kernel_rfl) ?_
 unfold R02_Sum at h; unfold bodyOf Try.f52; simp only [ens]
 revert h
 refine gB fun o h8 => ?_
 intro h
 simp (maxSteps := 10000000) (implicitDefEqProofs := false) (disch := first | with_reducible assumption | exact rfl | exact im_ _ | (fail_if_success show Kn _ _); omega) only [bs, rs52, Nat.reduceAdd, ↓reduceIte, c63_0, indexD_str Try.underlying9, lenD_str u9]
 refine Wp.ctx (fun x => seqW _ _ _ _ (blockW _ (x))) (L52_0_ok x0 ((14695981039346656037 : Int), (0 : Int)) _ o (by kernel_rfl) h8) ?_
 intro e st hq
 cases o with
 | next _ => (first | cases h | (simp at h))
 | jmp n_ s_ =>
  obtain ⟨rfl, rfl, hq⟩ := hq
  obtain ⟨s3_9, s4_9⟩ := s_
  unfold F52_0 at hq
  (try simp only [] at h hq)
  revert h
  intro h; obtain rfl := Option.some.inj h
  simp (maxSteps := 10000000) (implicitDefEqProofs := false) (disch := first | with_reducible assumption | exact rfl | exact im_ _ | (fail_if_success show Kn _ _); omega) only [bs, rs52, Nat.reduceAdd, ↓reduceIte, c63_0, indexD_str Try.underlying9, lenD_str u9, hq]
  refine ⟨by simp, ?_⟩; exact fin_sc rfl rfl rfl rfl
 | ret _ => (first | cases h | (simp at h))
def ls62 := @cv_50_5
theorem c52_0 {H : List Ob} {a1 : ByteArray} {r : Int} (h : R02_Sum a1 = some r) : callD (callW Try.prog A0) A0 H 52 [.p (.v (.string a1))] = some (.p (.v (.int .u64 r)), none) :=
 callD_fun (args := [.v (.string a1)]) rfl rfl rfl (by simp only [List.map_cons, List.map_nil, wk, wks, wkL]; exact f52_ok a1 _ h)
noncomputable def L62_0 : Code := (loopsOf (bodyOf Try.f62)).getD 0 .skip
def g62_0 : List Ghost := [.keep [1, 5, 6]]
noncomputable def F62_0 (s1 : Int) : (Int × Int) → St := fun (s5, s6) => ⟨[J, .p (.v (.int .u64 s1)), J, J, J, .p (.v (.int .u64 s5)), iv s6, J, J, J, J, J, J, J, J, J, J, J, J], [], 0⟩
theorem L62_0_ok (s1 : Int) : ∀ s st o, ghostsD g62_0 st = some (F62_0 s1 s) → iter (R02_number_L0 s1) s = some o →
    Wp (evW Try.prog A0 62 (.loop L62_0) st) (OutQ (F62_0 s1) g62_0 (fun n s st => n = 0 ∧ ghostsD [.keep [1, 5, 6]] st = some (F62_0 s1 s)) (fun r st => finishD Try.prog A0 62 Try.f62 st = some (.p (.v (.int .u64 r)), [])) o) := by
 refine Wp.iter ?_
 intro s st o hg h
 obtain ⟨s5, s6⟩ := s
 unfold R02_number_L0 at h; unfold g62_0 F62_0 at hg ⊢
 (try simp only [] at h hg)
 unfold L62_0 bodyOf Try.f62; simp only [loopsOf, ens]
 revert h
 repeat' first | (with_reducible refine gB fun _ _ => ?_) | (with_reducible refine gI (fun _ _ => ?_) (fun _ _ => ?_))
 all_goals
  intro h; obtain rfl := Option.some.inj h
  first | (simp (maxSteps := 10000000) (implicitDefEqProofs := false) (disch := first | with_reducible assumption | exact rfl | exact im_ _ | (fail_if_success show Kn _ _); omega) only [bs, rs62, ls62, Nat.reduceAdd, ↓reduceIte, binD_shr_k, c63_0, hg]; first | (exact ⟨(rfl : Ex.normal = Ex.normal), by kernel_rfl⟩) | (exact ⟨(rfl : Ex.exit 0 = Ex.exit 0), rfl, by kernel_rfl⟩)) | (exfalso; omega)
theorem f62_ok  (x0 : Int) (x1 : Int) (r : Int) (h : R02_number x0 x1 = some r) : callW Try.prog A0 62 [.p (.v (.int .u64 x0)), .p (.v (.int .u64 x1))] [] = some (.p (.v (.int .u64 r)), []) := by
 refine call_ofI (fn := Try.f62) (c := bodyOf Try.f62) 17 rfl rfl (by kernel_rfl) (by kernel_rfl) (by kernel_rfl) ?_
 unfold R02_number at h; unfold bodyOf Try.f62; simp only [ens]
 revert h
 refine gB fun o h8 => ?_
 intro h
 simp (maxSteps := 10000000) (implicitDefEqProofs := false) (disch := first | with_reducible assumption | exact rfl | exact im_ _ | (fail_if_success show Kn _ _); omega) only [bs, rs62, ls62, Nat.reduceAdd, ↓reduceIte, binD_shr_k, c63_0]
 refine Wp.ctx (fun x => seqW _ _ _ _ (blockW _ (x))) (L62_0_ok x1 (x0, (56 : Int)) _ o (by kernel_rfl) h8) ?_
 intro e st hq
 cases o with
 | next _ => (first | cases h | (simp at h))
 | jmp n_ s_ =>
  obtain ⟨rfl, rfl, hq⟩ := hq
  obtain ⟨s5_9, s6_9⟩ := s_
  unfold F62_0 at hq
  (try simp only [] at h hq)
  revert h
  intro h; obtain rfl := Option.some.inj h
  simp (maxSteps := 10000000) (implicitDefEqProofs := false) (disch := first | with_reducible assumption | exact rfl | exact im_ _ | (fail_if_success show Kn _ _); omega) only [bs, rs62, ls62, Nat.reduceAdd, ↓reduceIte, binD_shr_k, c63_0, hq]
  refine ⟨by simp, ?_⟩; exact fin_sc rfl rfl rfl rfl
 | ret _ => (first | cases h | (simp at h))
theorem c62_0 {H : List Ob} {a1 a2 : Int} {r : Int} (h : R02_number a1 a2 = some r) : callD (callW Try.prog A0) A0 H 62 [.p (.v (.int .u64 a1)), .p (.v (.int .u64 a2))] = some (.p (.v (.int .u64 r)), none) :=
 callD_fun (args := [.v (.int .u64 a1), .v (.int .u64 a2)]) rfl rfl rfl (by simp only [List.map_cons, List.map_nil, wk, wks, wkL]; exact f62_ok a1 a2 _ h)
theorem f51_ok  (x0 : Int) (x1 : Int) (r : Int) (h : R02_Mix x0 x1 = some r) : callW Try.prog A0 51 [.p (.v (.int .u64 x0)), .p (.v (.int .u64 x1))] [] = some (.p (.v (.int .u64 r)), []) := by
 refine call_ofI (fn := Try.f51) (c := bodyOf Try.f51) 8 rfl rfl (by kernel_rfl) (by kernel_rfl) (by kernel_rfl) ?_
 unfold R02_Mix at h; unfold bodyOf Try.f51; simp only [ens]
 revert h
 repeat' (with_reducible refine gB fun _ _ => ?_)
 intro h; obtain rfl := Option.some.inj h
 simp (maxSteps := 10000000) (implicitDefEqProofs := false) (disch := first | with_reducible assumption | exact rfl | exact im_ _ | (fail_if_success show Kn _ _); omega) only [bs, rs51, Nat.reduceAdd, ↓reduceIte, c52_0, c62_0]
 refine ⟨by simp, ?_⟩; exact fin_sc rfl rfl rfl rfl
def sums_ (f : Nat) (args : List Dv) (H : List Ob) : Option (Dv × List Ob) :=
 match H with
 | [] => bif Nat.beq f 49 then mixS args else bif Nat.beq f 51 then mixS args else bif Nat.beq f 50 then sumS args else bif Nat.beq f 52 then sumS args else none
 | _ => none
theorem sums_ok : CallLe sums_ (callW Try.prog A0) := by
 intro f args H r h
 cases H with
 | cons o H => cases h
 | nil =>
 unfold sums_ at h
 cases h1 : Nat.beq f 49 with
 | true =>
  obtain rfl := Nat.eq_of_beq_eq_true h1
  obtain ⟨a, b, rfl, rfl⟩ := mixS_ok h
  exact f49_ok a b _ (digest_Mix_eq a b)
 | false =>
 cases h2 : Nat.beq f 51 with
 | true =>
  obtain rfl := Nat.eq_of_beq_eq_true h2
  obtain ⟨a, b, rfl, rfl⟩ := mixS_ok h
  exact f51_ok a b _ (R02_Mix_eq a b)
 | false =>
 cases h3 : Nat.beq f 50 with
 | true =>
  obtain rfl := Nat.eq_of_beq_eq_true h3
  obtain ⟨s, rfl, hs, rfl⟩ := sumS_ok h
  exact f50_ok s _ (digest_Sum_eq hs)
 | false =>
 cases h4 : Nat.beq f 52 with
 | true =>
  obtain rfl := Nat.eq_of_beq_eq_true h4
  obtain ⟨s, rfl, hs, rfl⟩ := sumS_ok h
  exact f52_ok s _ (R02_Sum_eq hs)
 | false => simp only [h1, h2, h3, h4, cond_false] at h; cases h
theorem f10_ok (r : Bool) (h : law18_awake = some r) : callW Try.prog A0 10 [] [] = some (.p (.v (.bool r)), []) := by
 cases h; exact callS_le sums_ok 200 _ _ _ _ (by kernel_rfl)
def ls34 := And.intro @faP_25_1 (@varld_4_0_1)
theorem c10_0 {H : List Ob}  {r : Bool} (h : law18_awake  = some r) : callD (callW Try.prog A0) A0 H 10 [] = some (.p (.v (.bool r)), none) :=
 callD_fun (args := []) rfl rfl rfl (by simp only [List.map_cons, List.map_nil, wk, wks, wkL]; exact f10_ok  _ h)
theorem f34_ok  (x0 : Node) (r : ByteArray) (h : hash_Exact_c1 x0 = some r) : callW Try.prog A0 34 [.p (.agg (pv_Node x0))] [] = some (.p (.v (.string r)), []) := by
 refine call_ofI (fn := Try.f34) (c := bodyOf Try.f34) 4 rfl rfl (by kernel_rfl) (by kernel_rfl) (by kernel_rfl) ?_
 unfold hash_Exact_c1 at h; unfold bodyOf Try.f34; simp only [ens]
 revert h
 intro h; obtain rfl := Option.some.inj h
 simp (maxSteps := 10000000) (implicitDefEqProofs := false) (disch := first | with_reducible assumption | exact rfl | exact im_ _ | (fail_if_success show Kn _ _); omega) only [bs, rs34, ls34, Nat.reduceAdd, ↓reduceIte, loadD_ptr a9]
 refine ⟨by simp, ?_⟩; exact fin_sc rfl rfl rfl rfl
def ls33_34 := And.intro @al_25 (And.intro @ap_29_29 (And.intro @bs_29_1 (And.intro @cv_3_50 (And.intro @faP_25_0 (And.intro @faP_25_3 (And.intro @idxL_23 (And.intro @idxR_29 (And.intro @lk_frz_25 (And.intro @sa_4_0_4 (And.intro @stf_50_x (And.intro @varld_4_0_0 (And.intro @varld_4_0_3 (@varlv_4_0_4)))))))))))))
theorem hash_fill_34_rcall {rec : (List Int) → Node → Option ((List Int) × Int)} (hrec : ∀ x0 x1 r, rec x0 x1 = some r → callW Try.prog A0 33 [.ref 0 0 x0.length 1, .p (.agg (pv_Node x1)), .p (.fn (.func 34) [])] [.arr (encL en_u64 x0)] = some (.tup [.ref 1 0 r.1.length 1, .p (.v (.int .u64 r.2))], [.dead, .arr (encL en_u64 r.1)])) {H : List Ob} {id n : Nat} {b1 b2 : Bool} {x0 : (List Int)} {x1 : Node} {r : ((List Int) × Int)} : H[id]? = some (.arr (encL en_u64 x0)) → n = x0.length → ∀ (h : rec x0 x1 = some r), callD (callW Try.prog A0) A0 H 33 [.ref id 0 n 1, .p (.agg [.v (.int .i64 x1.Kind), .v (.string x1.Text), .lst b1 x1.Gaps.length (encL en_str x1.Gaps), .lst b2 x1.Kids.length (encL en_Node x1.Kids)]), .p (.fn (.func 34) [])] = some (.tup [.ref H.length 0 r.1.length 1, .p (.v (.int .u64 r.2))], some (H.set id .dead ++ [.arr (encL en_u64 r.1)])) := by
 intro hid hn h; subst hn; exact callD_mutT1 (args := [.agg (pv_Node x1), .fn (.func 34) []]) (ps := [.v (.int .u64 r.2)]) (by simp only [List.map_cons, List.map_nil, wkDv, wk, wks, wkL]) rfl hid (hrec x0 x1 _ h)
theorem c34_0 {H : List Ob} {a1 : Node} {r : ByteArray} (h : hash_Exact_c1 a1 = some r) : callD (callW Try.prog A0) A0 H 34 [.p (.agg (pv_Node a1))] = some (.p (.v (.string r)), none) :=
 callD_fun (args := [.agg (pv_Node a1)]) rfl rfl rfl (by simp only [List.map_cons, List.map_nil, wk, wks, wkL]; exact f34_ok a1 _ h)
theorem c50_0 {H : List Ob} {a1 : ByteArray} {r : Int} (h : digest_Sum a1 = some r) : callD (callW Try.prog A0) A0 H 50 [.p (.v (.string a1))] = some (.p (.v (.int .u64 r)), none) :=
 callD_fun (args := [.v (.string a1)]) rfl rfl rfl (by simp only [List.map_cons, List.map_nil, wk, wks, wkL]; exact f50_ok a1 _ h)
theorem c49_0 {H : List Ob} {a1 a2 : Int} {r : Int} (h : digest_Mix a1 a2 = some r) : callD (callW Try.prog A0) A0 H 49 [.p (.v (.int .u64 a1)), .p (.v (.int .u64 a2))] = some (.p (.v (.int .u64 r)), none) :=
 callD_fun (args := [.v (.int .u64 a1), .v (.int .u64 a2)]) rfl rfl rfl (by simp only [List.map_cons, List.map_nil, wk, wks, wkL]; exact f49_ok a1 a2 _ h)
theorem q33_0 {rec : (List Int) → Node → Option ((List Int) × Int)} (hrec : ∀ x0 x1 r, rec x0 x1 = some r → callW Try.prog A0 33 [.ref 0 0 x0.length 1, .p (.agg (pv_Node x1)), .p (.fn (.func 34) [])] [.arr (encL en_u64 x0)] = some (.tup [.ref 1 0 r.1.length 1, .p (.v (.int .u64 r.2))], [.dead, .arr (encL en_u64 r.1)])) {a1 : List Int} {a2 : Node} {r9001 : ((List Int) × Int)} {X2 X3 : Ob} (h9002 : rec a1 a2 = some r9001) : callD (callW Try.prog A0) A0 [.dead, .arr (encL en_u64 a1), X2, X3] 33 [.ref 1 0 a1.length 1, .p (.agg (pv_Node a2)), .p (.fn (.func 34) [])] = some (.tup [.ref 4 0 r9001.1.length 1, .p (.v (.int .u64 r9001.2))], some [.dead, .dead, X2, X3, .arr (encL en_u64 r9001.1)]) := hash_fill_34_rcall hrec (H := [.dead, .arr (encL en_u64 a1), X2, X3]) (id := 1) rfl (by first | rfl | omega) h9002
theorem q33_1 {rec : (List Int) → Node → Option ((List Int) × Int)} (hrec : ∀ x0 x1 r, rec x0 x1 = some r → callW Try.prog A0 33 [.ref 0 0 x0.length 1, .p (.agg (pv_Node x1)), .p (.fn (.func 34) [])] [.arr (encL en_u64 x0)] = some (.tup [.ref 1 0 r.1.length 1, .p (.v (.int .u64 r.2))], [.dead, .arr (encL en_u64 r.1)])) {a1 : List Int} {a2 : Node} {r9001 : ((List Int) × Int)} {X1 X2 : Ob} (h9002 : rec a1 a2 = some r9001) : callD (callW Try.prog A0) A0 [.arr (encL en_u64 a1), X1, X2] 33 [.ref 0 0 a1.length 1, .p (.agg (pv_Node a2)), .p (.fn (.func 34) [])] = some (.tup [.ref 3 0 r9001.1.length 1, .p (.v (.int .u64 r9001.2))], some [.dead, X1, X2, .arr (encL en_u64 r9001.1)]) := hash_fill_34_rcall hrec (H := [.arr (encL en_u64 a1), X1, X2]) (id := 0) rfl (by first | rfl | omega) h9002
noncomputable def L33_0 : Code := (loopsOf (bodyOf Try.f33)).getD 0 .skip
def g33_0 : List Ghost := [.weak [27], .keep [0, 2, 4, 8, 9, 27, 28, 29]]
noncomputable def F33_34_0 (s8 : Int) (s27 : (List Node)) (s28 : Int) (w2_0 : Int) (w2_1 : ByteArray) (w2_2 : (List ByteArray)) (w2_3 : (List Node)) : (Int × Int × (List Int)) → St := fun (s9, s29, y1) => ⟨[.ref 1 0 y1.length 1, J, .p (.fn (.func 34) []), J, .ptr 2 0, J, J, J, iv s8, .p (.v (.int .u64 s9)), J, J, J, J, J, J, J, J, J, J, J, J, J, J, J, J, J, .p (.lst false s27.length (encL en_Node s27)), iv s28, iv s29, J, J, J, J, J, J, J, J, J, J, J, J, J, J, J, J, J, J, J, J, J, J, J, J, J, J], [.dead, .arr (encL en_u64 y1), .var [iv w2_0, .p (.v (.string w2_1)), .p (.lst false w2_2.length (encL en_str w2_2)), .p (.lst false w2_3.length (encL en_Node w2_3))]], 1⟩
theorem L33_34_0_ok {rec : (List Int) → Node → Option ((List Int) × Int)} (hrec : ∀ x0 x1 r, rec x0 x1 = some r → callW Try.prog A0 33 [.ref 0 0 x0.length 1, .p (.agg (pv_Node x1)), .p (.fn (.func 34) [])] [.arr (encL en_u64 x0)] = some (.tup [.ref 1 0 r.1.length 1, .p (.v (.int .u64 r.2))], [.dead, .arr (encL en_u64 r.1)])) (s8 : Int) (s27 : (List Node)) (s28 : Int) (w2_0 : Int) (w2_1 : ByteArray) (w2_2 : (List ByteArray)) (w2_3 : (List Node)) : ∀ s st o, ghostsD g33_0 st = some (F33_34_0 s8 s27 s28 w2_0 w2_1 w2_2 w2_3 s) → iter (hash_fill_L0 rec hash_Exact_c1 s8 s27 s28 w2_0 w2_1 w2_2 w2_3) s = some o →
    Wp (evW Try.prog A0 33 (.loop L33_0) st) (OutQ (F33_34_0 s8 s27 s28 w2_0 w2_1 w2_2 w2_3) g33_0 (fun n s st => n = 0 ∧ ghostsD [.keep [0, 2, 4, 8, 9, 27, 28, 29]] st = some (F33_34_0 s8 s27 s28 w2_0 w2_1 w2_2 w2_3 s)) (fun r st => finishD Try.prog A0 33 Try.f33 st = some (.tup [.ref 1 0 r.1.length 1, .p (.v (.int .u64 r.2))], [.dead, .arr (encL en_u64 r.1)])) o) := by
 refine Wp.iter ?_
 intro s st o hg h
 obtain ⟨s9, s29, y1⟩ := s
 unfold hash_fill_L0 at h; unfold g33_0 F33_34_0 at hg ⊢
 (try simp only [] at h hg)
 unfold L33_0 bodyOf Try.f33; simp only [loopsOf, ens]
 revert h
 repeat' first | (with_reducible refine gR fun _ _ _ _ => ?_) | (with_reducible refine gB fun _ _ => ?_) | (with_reducible refine gI (fun _ _ => ?_) (fun _ _ => ?_))
 all_goals
  intro h; obtain rfl := Option.some.inj h
  first | (simp (maxSteps := 10000000) (implicitDefEqProofs := false) (disch := first | with_reducible assumption | exact rfl | exact im_ _ | (fail_if_success show Kn _ _); omega | (show (_ : Int) < _; simp only [List.length_set, cpL_len] at *; omega)) only [bs, rs33, ls33_34, Nat.reduceAdd, ↓reduceIte, c34_0, c49_0, c50_0, exr_2_0, exr_2_1, lenD_lst u23, lenD_ref u29, loadD_iagg a25 z25, loadD_pagg a25 z25, loadD_ptr a23, loadD_ptr a3, own_ref, q33_0 hrec, storeD_agg z25, storeD_int z50, wks_nil_, hg]; first | (exact ⟨(rfl : Ex.normal = Ex.normal), by kernel_rfl⟩) | (exact ⟨(rfl : Ex.exit 0 = Ex.exit 0), rfl, by kernel_rfl⟩)) | (exfalso; omega)
theorem f33_34_ok {rec : (List Int) → Node → Option ((List Int) × Int)} (hrec : ∀ x0 x1 r, rec x0 x1 = some r → callW Try.prog A0 33 [.ref 0 0 x0.length 1, .p (.agg (pv_Node x1)), .p (.fn (.func 34) [])] [.arr (encL en_u64 x0)] = some (.tup [.ref 1 0 r.1.length 1, .p (.v (.int .u64 r.2))], [.dead, .arr (encL en_u64 r.1)]))  (x0 : (List Int)) (x1 : Node) (r : ((List Int) × Int)) (h : hash_fill.body rec hash_Exact_c1 x0 x1 = some r) : callW Try.prog A0 33 [.ref 0 0 x0.length 1, .p (.agg (pv_Node x1)), .p (.fn (.func 34) [])] [.arr (encL en_u64 x0)] = some (.tup [.ref 1 0 r.1.length 1, .p (.v (.int .u64 r.2))], [.dead, .arr (encL en_u64 r.1)]) := by
 refine call_ofI (fn := Try.f33) (c := bodyOf Try.f33) 53 rfl rfl (by kernel_rfl) (by kernel_rfl) (by kernel_rfl) ?_
 unfold hash_fill.body at h; unfold bodyOf Try.f33; simp only [ens]
 revert h
 refine gW fun h2 => ?_
 have h1 : ∀ (H : List Ob) (id : Nat), apOb H id 0 x0.length 1 1 1 8 [.v (.int .u64 (0 : Int))] (some (.arr (encL en_u64 x0))) = some (.ref H.length 0 (x0 ++ [(0 : Int)]).length 1, H.set id .dead ++ [.arr (encL en_u64 (x0 ++ [(0 : Int)]))]) := fun H id => ap_enc (y := [(0 : Int)]) en_u64_len (by first | rfl | omega) rfl (by first | (simp only [encL_cons, encL_nil, en_u64_eq, List.cons_append, List.nil_append]; done) | (simp only [encL_cons, encL_nil, en_u64_eq, List.cons_append, List.nil_append]; rfl) | rfl) (by assumption)
 refine gB fun r3 h4 => ?_
 refine gB fun r6 h7 => ?_
 refine gB fun r9 h10 => ?_
 refine gB fun o h22 => ?_
 intro h
 simp (maxSteps := 10000000) (implicitDefEqProofs := false) (disch := first | with_reducible assumption | exact rfl | exact im_ _ | (fail_if_success show Kn _ _); omega | (show (_ : Int) < _; simp only [List.length_set, cpL_len] at *; omega)) only [bs, rs33, ls33_34, Nat.reduceAdd, ↓reduceIte, c34_0, c49_0, c50_0, exr_2_0, exr_2_1, lenD_lst u23, lenD_ref u29, loadD_iagg a25 z25, loadD_pagg a25 z25, loadD_ptr a23, loadD_ptr a3, own_ref, q33_0 hrec, storeD_agg z25, storeD_int z50, wks_nil_, h1]
 refine Wp.ctx (fun x => seqW _ _ _ _ (blockW _ (x))) (L33_34_0_ok hrec (x0.length : Int) x1.Kids (x1.Kids.length : Int) x1.Kind x1.Text x1.Gaps x1.Kids (r9, (0 : Int), (x0 ++ [(0 : Int)])) _ o (by kernel_rfl) h22) ?_
 intro e st hq
 cases o with
 | next _ => (first | cases h | (simp at h))
 | jmp n_ s_ =>
  obtain ⟨rfl, rfl, hq⟩ := hq
  obtain ⟨s9_23, s29_23, y1_23⟩ := s_
  unfold F33_34_0 at hq
  (try simp only [] at h hq)
  revert h
  repeat' first | (with_reducible refine gR fun _ _ _ _ => ?_) | (with_reducible refine gB fun _ _ => ?_)
  intro h; obtain rfl := Option.some.inj h
  simp (maxSteps := 10000000) (implicitDefEqProofs := false) (disch := first | with_reducible assumption | exact rfl | exact im_ _ | (fail_if_success show Kn _ _); omega | (show (_ : Int) < _; simp only [List.length_set, cpL_len] at *; omega)) only [bs, rs33, ls33_34, Nat.reduceAdd, ↓reduceIte, c34_0, c49_0, c50_0, exr_2_0, exr_2_1, lenD_lst u23, lenD_ref u29, loadD_iagg a25 z25, loadD_pagg a25 z25, loadD_ptr a23, loadD_ptr a3, own_ref, q33_0 hrec, storeD_agg z25, storeD_int z50, wks_nil_, h1, hq]
  refine ⟨by simp, ?_⟩; show _ = _; simp only [List.length_set, cpL_len]; kernel_rfl
 | ret _ => (first | cases h | (simp at h))
def ls33n_34 := And.intro @al_25 (And.intro @ap_29_29 (And.intro @bs_29_1 (And.intro @cv_3_50 (And.intro @faP_25_0 (And.intro @faP_25_3 (And.intro @idxL_23 (And.intro @idxR_29 (And.intro @lk_frz_25 (And.intro @sa_4_0_4 (And.intro @stf_50_x (And.intro @varld_4_0_0 (And.intro @varld_4_0_3 (@varlv_4_0_4)))))))))))))
noncomputable def F33n_34_0 (s8 : Int) (s27 : (List Node)) (s28 : Int) (w1_0 : Int) (w1_1 : ByteArray) (w1_2 : (List ByteArray)) (w1_3 : (List Node)) : (Int × Int × (List Int)) → St := fun (s9, s29, y0) => ⟨[.ref 0 0 y0.length 1, J, .p (.fn (.func 34) []), J, .ptr 1 0, J, J, J, iv s8, .p (.v (.int .u64 s9)), J, J, J, J, J, J, J, J, J, J, J, J, J, J, J, J, J, .p (.lst false s27.length (encL en_Node s27)), iv s28, iv s29, J, J, J, J, J, J, J, J, J, J, J, J, J, J, J, J, J, J, J, J, J, J, J, J, J, J], [.arr (encL en_u64 y0), .var [iv w1_0, .p (.v (.string w1_1)), .p (.lst false w1_2.length (encL en_str w1_2)), .p (.lst false w1_3.length (encL en_Node w1_3))]], 0⟩
theorem L33n_34_0_ok {rec : (List Int) → Node → Option ((List Int) × Int)} (hrec : ∀ x0 x1 r, rec x0 x1 = some r → callW Try.prog A0 33 [.ref 0 0 x0.length 1, .p (.agg (pv_Node x1)), .p (.fn (.func 34) [])] [.arr (encL en_u64 x0)] = some (.tup [.ref 1 0 r.1.length 1, .p (.v (.int .u64 r.2))], [.dead, .arr (encL en_u64 r.1)])) (s8 : Int) (s27 : (List Node)) (s28 : Int) (w1_0 : Int) (w1_1 : ByteArray) (w1_2 : (List ByteArray)) (w1_3 : (List Node)) : ∀ s st o, ghostsD g33_0 st = some (F33n_34_0 s8 s27 s28 w1_0 w1_1 w1_2 w1_3 s) → iter (hash_fill_L0 rec hash_Exact_c1 s8 s27 s28 w1_0 w1_1 w1_2 w1_3) s = some o →
    Wp (evW Try.prog A0 33 (.loop L33_0) st) (OutQ (F33n_34_0 s8 s27 s28 w1_0 w1_1 w1_2 w1_3) g33_0 (fun n s st => n = 0 ∧ ghostsD [.keep [0, 2, 4, 8, 9, 27, 28, 29]] st = some (F33n_34_0 s8 s27 s28 w1_0 w1_1 w1_2 w1_3 s)) (fun r st => finishD Try.prog A0 33 Try.f33 st = some (.tup [.ref 0 0 r.1.length 1, .p (.v (.int .u64 r.2))], [.arr (encL en_u64 r.1)])) o) := by
 refine Wp.iter ?_
 intro s st o hg h
 obtain ⟨s9, s29, y0⟩ := s
 unfold hash_fill_L0 at h; unfold g33_0 F33n_34_0 at hg ⊢
 (try simp only [] at h hg)
 unfold L33_0 bodyOf Try.f33; simp only [loopsOf, ens]
 revert h
 repeat' first | (with_reducible refine gR fun _ _ _ _ => ?_) | (with_reducible refine gB fun _ _ => ?_) | (with_reducible refine gI (fun _ _ => ?_) (fun _ _ => ?_))
 all_goals
  intro h; obtain rfl := Option.some.inj h
  first | (simp (maxSteps := 10000000) (implicitDefEqProofs := false) (disch := first | with_reducible assumption | exact rfl | exact im_ _ | (fail_if_success show Kn _ _); omega | (show (_ : Int) < _; simp only [List.length_set, cpL_len] at *; omega)) only [bs, rs33, ls33n_34, Nat.reduceAdd, ↓reduceIte, c34_0, c49_0, c50_0, exr_2_0, exr_2_1, lenD_lst u23, lenD_ref u29, loadD_iagg a25 z25, loadD_pagg a25 z25, loadD_ptr a23, loadD_ptr a3, own_ref, q33_1 hrec, storeD_agg z25, storeD_int z50, wks_nil_, hg]; first | (exact ⟨(rfl : Ex.normal = Ex.normal), by kernel_rfl⟩) | (exact ⟨(rfl : Ex.exit 0 = Ex.exit 0), rfl, by kernel_rfl⟩)) | (exfalso; omega)
theorem f33n_34_ok {rec : (List Int) → Node → Option ((List Int) × Int)} (hrec : ∀ x0 x1 r, rec x0 x1 = some r → callW Try.prog A0 33 [.ref 0 0 x0.length 1, .p (.agg (pv_Node x1)), .p (.fn (.func 34) [])] [.arr (encL en_u64 x0)] = some (.tup [.ref 1 0 r.1.length 1, .p (.v (.int .u64 r.2))], [.dead, .arr (encL en_u64 r.1)]))  (x0 : (List Int)) (x1 : Node) (hx0 : x0 = []) (r : ((List Int) × Int)) (h : hash_fill.body rec hash_Exact_c1 x0 x1 = some r) : callW Try.prog A0 33 [.p (.lst true 0 []), .p (.agg (pv_Node x1)), .p (.fn (.func 34) [])] [] = some (.tup [.ref 0 0 r.1.length 1, .p (.v (.int .u64 r.2))], [.arr (encL en_u64 r.1)]) := by
 refine call_ofI (fn := Try.f33) (c := bodyOf Try.f33) 53 rfl rfl (by kernel_rfl) (by kernel_rfl) (by kernel_rfl) ?_
 unfold hash_fill.body at h; unfold bodyOf Try.f33; simp only [ens]
 have hown := own_nil' (en := en_u64) hx0 1
 revert h
 refine gW fun h2 => ?_
 have h1 : ∀ (H : List Ob) (id : Nat), apOb H id 0 x0.length 1 1 1 8 [.v (.int .u64 (0 : Int))] (some (.arr (encL en_u64 x0))) = some (.ref H.length 0 (x0 ++ [(0 : Int)]).length 1, H.set id .dead ++ [.arr (encL en_u64 (x0 ++ [(0 : Int)]))]) := fun H id => ap_enc (y := [(0 : Int)]) en_u64_len (by first | rfl | omega) rfl (by first | (simp only [encL_cons, encL_nil, en_u64_eq, List.cons_append, List.nil_append]; done) | (simp only [encL_cons, encL_nil, en_u64_eq, List.cons_append, List.nil_append]; rfl) | rfl) (by assumption)
 refine gB fun r3 h4 => ?_
 refine gB fun r6 h7 => ?_
 refine gB fun r9 h10 => ?_
 refine gB fun o h22 => ?_
 intro h
 simp (maxSteps := 10000000) (implicitDefEqProofs := false) (disch := first | with_reducible assumption | exact rfl | exact im_ _ | (fail_if_success show Kn _ _); omega | (show (_ : Int) < _; simp only [List.length_set, cpL_len] at *; omega)) only [bs, rs33, ls33n_34, Nat.reduceAdd, ↓reduceIte, c34_0, c49_0, c50_0, exr_2_0, exr_2_1, lenD_lst u23, lenD_ref u29, loadD_iagg a25 z25, loadD_pagg a25 z25, loadD_ptr a23, loadD_ptr a3, own_ref, q33_1 hrec, storeD_agg z25, storeD_int z50, wks_nil_, hown, h1]
 refine Wp.ctx (fun x => seqW _ _ _ _ (blockW _ (x))) (L33n_34_0_ok hrec (x0.length : Int) x1.Kids (x1.Kids.length : Int) x1.Kind x1.Text x1.Gaps x1.Kids (r9, (0 : Int), (x0 ++ [(0 : Int)])) _ o (by kernel_rfl) h22) ?_
 intro e st hq
 cases o with
 | next _ => (first | cases h | (simp at h))
 | jmp n_ s_ =>
  obtain ⟨rfl, rfl, hq⟩ := hq
  obtain ⟨s9_23, s29_23, y0_23⟩ := s_
  unfold F33n_34_0 at hq
  (try simp only [] at h hq)
  revert h
  repeat' first | (with_reducible refine gR fun _ _ _ _ => ?_) | (with_reducible refine gB fun _ _ => ?_)
  intro h; obtain rfl := Option.some.inj h
  simp (maxSteps := 10000000) (implicitDefEqProofs := false) (disch := first | with_reducible assumption | exact rfl | exact im_ _ | (fail_if_success show Kn _ _); omega | (show (_ : Int) < _; simp only [List.length_set, cpL_len] at *; omega)) only [bs, rs33, ls33n_34, Nat.reduceAdd, ↓reduceIte, c34_0, c49_0, c50_0, exr_2_0, exr_2_1, lenD_lst u23, lenD_ref u29, loadD_iagg a25 z25, loadD_pagg a25 z25, loadD_ptr a23, loadD_ptr a3, own_ref, q33_1 hrec, storeD_agg z25, storeD_int z50, wks_nil_, hown, h1, hq]
  refine ⟨by simp, ?_⟩; show _ = _; simp only [List.length_set, cpL_len]; kernel_rfl
 | ret _ => (first | cases h | (simp at h))
theorem f33_34_spec : ∀ (x0 : (List Int)) (x1 : Node) r, hash_fillS hash_Exact_c1 x0 x1 = some r → callW Try.prog A0 33 [.ref 0 0 x0.length 1, .p (.agg (pv_Node x1)), .p (.fn (.func 34) [])] [.arr (encL en_u64 x0)] = some (.tup [.ref 1 0 r.1.length 1, .p (.v (.int .u64 r.2))], [.dead, .arr (encL en_u64 r.1)]) := by
 have key : ∀ n (x0 : (List Int)) (x1 : Node) r, hash_fillS_mu x0 x1 < n → hash_fillS hash_Exact_c1 x0 x1 = some r → callW Try.prog A0 33 [.ref 0 0 x0.length 1, .p (.agg (pv_Node x1)), .p (.fn (.func 34) [])] [.arr (encL en_u64 x0)] = some (.tup [.ref 1 0 r.1.length 1, .p (.v (.int .u64 r.2))], [.dead, .arr (encL en_u64 r.1)]) := by
  intro n
  induction n with
  | zero => intro x0 x1 r h; omega
  | succ n ih =>
   intro x0 x1 r hn h
   refine f33_34_ok (rec := fun x0' x1' => if hash_fillS_mu x0' x1' < hash_fillS_mu x0 x1 then hash_fillS hash_Exact_c1 x0' x1' else none) ?_ x0 x1 r (hash_fillS_body hash_Exact_c1 x0 x1 r h)
   intro x0' x1' r' h'
   by_cases hm : hash_fillS_mu x0' x1' < hash_fillS_mu x0 x1
   ·rw [if_pos hm] at h'; exact ih x0' x1' r' (by omega) h'
   ·rw [if_neg hm] at h'; cases h'
 intro x0 x1 r h
 exact key _ x0 x1 r (Nat.lt_succ_self _) h
theorem f33n_34_spec (x1 : Node) r (h : hash_fillS hash_Exact_c1 ([] : List Int) x1 = some r) : callW Try.prog A0 33 [.p (.lst true 0 []), .p (.agg (pv_Node x1)), .p (.fn (.func 34) [])] [] = some (.tup [.ref 0 0 r.1.length 1, .p (.v (.int .u64 r.2))], [.arr (encL en_u64 r.1)]) := by
 refine f33n_34_ok (rec := fun x0' x1' => if hash_fillS_mu x0' x1' < hash_fillS_mu ([] : List Int) x1 then hash_fillS hash_Exact_c1 x0' x1' else none) ?_ ([] : List Int) x1 rfl r (hash_fillS_body hash_Exact_c1 ([] : List Int) x1 r h)
 intro x0' x1' r' h'
 by_cases hm : hash_fillS_mu x0' x1' < hash_fillS_mu ([] : List Int) x1
 ·rw [if_pos hm] at h'; exact f33_34_spec x0' x1' r' h'
 ·rw [if_neg hm] at h'; cases h'
theorem hash_fill_34_calln {b1 b2 : Bool} {H : List Ob} {x1 : Node} {r : ((List Int) × Int)} (h : hash_fillS hash_Exact_c1 ([] : List Int) x1 = some r) : callD (callW Try.prog A0) A0 H 33 [.p (.lst true 0 []), .p (.agg [.v (.int .i64 x1.Kind), .v (.string x1.Text), .lst b1 x1.Gaps.length (encL en_str x1.Gaps), .lst b2 x1.Kids.length (encL en_Node x1.Kids)]), .p (.fn (.func 34) [])] = some (.tup [.ref H.length 0 r.1.length 1, .p (.v (.int .u64 r.2))], some (H ++ [.arr (encL en_u64 r.1)])) :=
 callD_mutT0 (args := [.lst true 0 [], .agg (pv_Node x1), .fn (.func 34) []]) (ps := [.v (.int .u64 r.2)]) (by simp only [List.map_cons, List.map_nil, wkDv, wk, wks, wkL]) rfl (f33n_34_spec x1 _ h)
def ls12 := @varlv_4_0_4
theorem q33_2 {a1 : Node} {H : List Ob} {r9001 : ((List Int) × Int)} (h9002 : hash_fillS hash_Exact_c1 ([] : List Int) a1 = some r9001) : callD (callW Try.prog A0) A0 H 33 [.p (.lst true 0 []), .p (.agg (pv_Node a1)), .p (.fn (.func 34) [])] = some (.tup [.ref H.length 0 r9001.1.length 1, .p (.v (.int .u64 r9001.2))], some (H ++ [.arr (encL en_u64 r9001.1)])) := hash_fill_34_calln (H := H) h9002
theorem f12_ok  (x0 : Node) (r : (List Int)) (h : hash_Exact x0 = some r) : callW Try.prog A0 12 [.p (.agg (pv_Node x0))] [] = some (.p (.lst false r.length (encL en_u64 r)), []) := by
 refine call_ofI (fn := Try.f12) (c := bodyOf Try.f12) 10 rfl rfl (by kernel_rfl) (by kernel_rfl) (by kernel_rfl) ?_
 unfold hash_Exact at h; unfold bodyOf Try.f12; simp only [ens]
 revert h
 repeat' (with_reducible refine gB fun _ _ => ?_)
 intro h; obtain rfl := Option.some.inj h
 simp (maxSteps := 10000000) (implicitDefEqProofs := false) (disch := first | with_reducible assumption | exact rfl | exact im_ _ | (fail_if_success show Kn _ _); omega) only [bs, rs12, ls12, Nat.reduceAdd, ↓reduceIte, exr_2_0, exr_2_1, loadD_pagg a25 z25, q33_2]
 refine ⟨by simp, ?_⟩; exact finish_is (l := [1]) rfl rfl rfl (purify1_enc en_u64_len rfl (by first | rfl | omega | simp)) (by first | rfl | (simp only [wk, wks, wkL]; first | done | rfl))
theorem c12_0 {H : List Ob} {a1 : Node} {r : (List Int)} (h : hash_Exact a1 = some r) : callD (callW Try.prog A0) A0 H 12 [.p (.agg (pv_Node a1))] = some (.p (.lst false r.length (encL en_u64 r)), none) :=
 callD_fun (args := [.agg (pv_Node a1)]) rfl rfl rfl (by simp only [List.map_cons, List.map_nil, wk, wks, wkL]; exact f12_ok a1 _ h)
theorem f37_ok  (x0 : Node) (r : ByteArray) (h : hash_Shape_c1 x0 = some r) : callW Try.prog A0 37 [.p (.agg (pv_Node x0))] [] = some (.p (.v (.string r)), []) := by
 refine call_ofI (fn := Try.f37) (c := bodyOf Try.f37) 2 rfl rfl (by kernel_rfl) (by kernel_rfl) (by kernel_rfl) ?_
 unfold hash_Shape_c1 at h; unfold bodyOf Try.f37; simp only [ens]
 revert h
 intro h; obtain rfl := Option.some.inj h
 simp (maxSteps := 10000000) (implicitDefEqProofs := false) (disch := first | with_reducible assumption | exact rfl | exact im_ _ | (fail_if_success show Kn _ _); omega) only [bs, rs37, Nat.reduceAdd, ↓reduceIte]
 refine ⟨by simp, ?_⟩; exact fin_sc rfl rfl rfl rfl
def ls33_37 := And.intro @al_25 (And.intro @ap_29_29 (And.intro @bs_29_1 (And.intro @cv_3_50 (And.intro @faP_25_0 (And.intro @faP_25_3 (And.intro @idxL_23 (And.intro @idxR_29 (And.intro @lk_frz_25 (And.intro @sa_4_0_4 (And.intro @stf_50_x (And.intro @varld_4_0_0 (And.intro @varld_4_0_3 (@varlv_4_0_4)))))))))))))
theorem hash_fill_37_rcall {rec : (List Int) → Node → Option ((List Int) × Int)} (hrec : ∀ x0 x1 r, rec x0 x1 = some r → callW Try.prog A0 33 [.ref 0 0 x0.length 1, .p (.agg (pv_Node x1)), .p (.fn (.func 37) [])] [.arr (encL en_u64 x0)] = some (.tup [.ref 1 0 r.1.length 1, .p (.v (.int .u64 r.2))], [.dead, .arr (encL en_u64 r.1)])) {H : List Ob} {id n : Nat} {b1 b2 : Bool} {x0 : (List Int)} {x1 : Node} {r : ((List Int) × Int)} : H[id]? = some (.arr (encL en_u64 x0)) → n = x0.length → ∀ (h : rec x0 x1 = some r), callD (callW Try.prog A0) A0 H 33 [.ref id 0 n 1, .p (.agg [.v (.int .i64 x1.Kind), .v (.string x1.Text), .lst b1 x1.Gaps.length (encL en_str x1.Gaps), .lst b2 x1.Kids.length (encL en_Node x1.Kids)]), .p (.fn (.func 37) [])] = some (.tup [.ref H.length 0 r.1.length 1, .p (.v (.int .u64 r.2))], some (H.set id .dead ++ [.arr (encL en_u64 r.1)])) := by
 intro hid hn h; subst hn; exact callD_mutT1 (args := [.agg (pv_Node x1), .fn (.func 37) []]) (ps := [.v (.int .u64 r.2)]) (by simp only [List.map_cons, List.map_nil, wkDv, wk, wks, wkL]) rfl hid (hrec x0 x1 _ h)
theorem c37_0 {H : List Ob} {a1 : Node} {r : ByteArray} (h : hash_Shape_c1 a1 = some r) : callD (callW Try.prog A0) A0 H 37 [.p (.agg (pv_Node a1))] = some (.p (.v (.string r)), none) :=
 callD_fun (args := [.agg (pv_Node a1)]) rfl rfl rfl (by simp only [List.map_cons, List.map_nil, wk, wks, wkL]; exact f37_ok a1 _ h)
theorem q33_3 {rec : (List Int) → Node → Option ((List Int) × Int)} (hrec : ∀ x0 x1 r, rec x0 x1 = some r → callW Try.prog A0 33 [.ref 0 0 x0.length 1, .p (.agg (pv_Node x1)), .p (.fn (.func 37) [])] [.arr (encL en_u64 x0)] = some (.tup [.ref 1 0 r.1.length 1, .p (.v (.int .u64 r.2))], [.dead, .arr (encL en_u64 r.1)])) {a1 : List Int} {a2 : Node} {r9001 : ((List Int) × Int)} {X2 X3 : Ob} (h9002 : rec a1 a2 = some r9001) : callD (callW Try.prog A0) A0 [.dead, .arr (encL en_u64 a1), X2, X3] 33 [.ref 1 0 a1.length 1, .p (.agg (pv_Node a2)), .p (.fn (.func 37) [])] = some (.tup [.ref 4 0 r9001.1.length 1, .p (.v (.int .u64 r9001.2))], some [.dead, .dead, X2, X3, .arr (encL en_u64 r9001.1)]) := hash_fill_37_rcall hrec (H := [.dead, .arr (encL en_u64 a1), X2, X3]) (id := 1) rfl (by first | rfl | omega) h9002
theorem q33_4 {rec : (List Int) → Node → Option ((List Int) × Int)} (hrec : ∀ x0 x1 r, rec x0 x1 = some r → callW Try.prog A0 33 [.ref 0 0 x0.length 1, .p (.agg (pv_Node x1)), .p (.fn (.func 37) [])] [.arr (encL en_u64 x0)] = some (.tup [.ref 1 0 r.1.length 1, .p (.v (.int .u64 r.2))], [.dead, .arr (encL en_u64 r.1)])) {a1 : List Int} {a2 : Node} {r9001 : ((List Int) × Int)} {X1 X2 : Ob} (h9002 : rec a1 a2 = some r9001) : callD (callW Try.prog A0) A0 [.arr (encL en_u64 a1), X1, X2] 33 [.ref 0 0 a1.length 1, .p (.agg (pv_Node a2)), .p (.fn (.func 37) [])] = some (.tup [.ref 3 0 r9001.1.length 1, .p (.v (.int .u64 r9001.2))], some [.dead, X1, X2, .arr (encL en_u64 r9001.1)]) := hash_fill_37_rcall hrec (H := [.arr (encL en_u64 a1), X1, X2]) (id := 0) rfl (by first | rfl | omega) h9002
noncomputable def F33_37_0 (s8 : Int) (s27 : (List Node)) (s28 : Int) (w2_0 : Int) (w2_1 : ByteArray) (w2_2 : (List ByteArray)) (w2_3 : (List Node)) : (Int × Int × (List Int)) → St := fun (s9, s29, y1) => ⟨[.ref 1 0 y1.length 1, J, .p (.fn (.func 37) []), J, .ptr 2 0, J, J, J, iv s8, .p (.v (.int .u64 s9)), J, J, J, J, J, J, J, J, J, J, J, J, J, J, J, J, J, .p (.lst false s27.length (encL en_Node s27)), iv s28, iv s29, J, J, J, J, J, J, J, J, J, J, J, J, J, J, J, J, J, J, J, J, J, J, J, J, J, J], [.dead, .arr (encL en_u64 y1), .var [iv w2_0, .p (.v (.string w2_1)), .p (.lst false w2_2.length (encL en_str w2_2)), .p (.lst false w2_3.length (encL en_Node w2_3))]], 1⟩
theorem L33_37_0_ok {rec : (List Int) → Node → Option ((List Int) × Int)} (hrec : ∀ x0 x1 r, rec x0 x1 = some r → callW Try.prog A0 33 [.ref 0 0 x0.length 1, .p (.agg (pv_Node x1)), .p (.fn (.func 37) [])] [.arr (encL en_u64 x0)] = some (.tup [.ref 1 0 r.1.length 1, .p (.v (.int .u64 r.2))], [.dead, .arr (encL en_u64 r.1)])) (s8 : Int) (s27 : (List Node)) (s28 : Int) (w2_0 : Int) (w2_1 : ByteArray) (w2_2 : (List ByteArray)) (w2_3 : (List Node)) : ∀ s st o, ghostsD g33_0 st = some (F33_37_0 s8 s27 s28 w2_0 w2_1 w2_2 w2_3 s) → iter (hash_fill_L0 rec hash_Shape_c1 s8 s27 s28 w2_0 w2_1 w2_2 w2_3) s = some o →
    Wp (evW Try.prog A0 33 (.loop L33_0) st) (OutQ (F33_37_0 s8 s27 s28 w2_0 w2_1 w2_2 w2_3) g33_0 (fun n s st => n = 0 ∧ ghostsD [.keep [0, 2, 4, 8, 9, 27, 28, 29]] st = some (F33_37_0 s8 s27 s28 w2_0 w2_1 w2_2 w2_3 s)) (fun r st => finishD Try.prog A0 33 Try.f33 st = some (.tup [.ref 1 0 r.1.length 1, .p (.v (.int .u64 r.2))], [.dead, .arr (encL en_u64 r.1)])) o) := by
 refine Wp.iter ?_
 intro s st o hg h
 obtain ⟨s9, s29, y1⟩ := s
 unfold hash_fill_L0 at h; unfold g33_0 F33_37_0 at hg ⊢
 (try simp only [] at h hg)
 unfold L33_0 bodyOf Try.f33; simp only [loopsOf, ens]
 revert h
 repeat' first | (with_reducible refine gR fun _ _ _ _ => ?_) | (with_reducible refine gB fun _ _ => ?_) | (with_reducible refine gI (fun _ _ => ?_) (fun _ _ => ?_))
 all_goals
  intro h; obtain rfl := Option.some.inj h
  first | (simp (maxSteps := 10000000) (implicitDefEqProofs := false) (disch := first | with_reducible assumption | exact rfl | exact im_ _ | (fail_if_success show Kn _ _); omega | (show (_ : Int) < _; simp only [List.length_set, cpL_len] at *; omega)) only [bs, rs33, ls33_37, Nat.reduceAdd, ↓reduceIte, c37_0, c49_0, c50_0, exr_2_0, exr_2_1, lenD_lst u23, lenD_ref u29, loadD_iagg a25 z25, loadD_pagg a25 z25, loadD_ptr a23, loadD_ptr a3, own_ref, q33_3 hrec, storeD_agg z25, storeD_int z50, wks_nil_, hg]; first | (exact ⟨(rfl : Ex.normal = Ex.normal), by kernel_rfl⟩) | (exact ⟨(rfl : Ex.exit 0 = Ex.exit 0), rfl, by kernel_rfl⟩)) | (exfalso; omega)
theorem f33_37_ok {rec : (List Int) → Node → Option ((List Int) × Int)} (hrec : ∀ x0 x1 r, rec x0 x1 = some r → callW Try.prog A0 33 [.ref 0 0 x0.length 1, .p (.agg (pv_Node x1)), .p (.fn (.func 37) [])] [.arr (encL en_u64 x0)] = some (.tup [.ref 1 0 r.1.length 1, .p (.v (.int .u64 r.2))], [.dead, .arr (encL en_u64 r.1)]))  (x0 : (List Int)) (x1 : Node) (r : ((List Int) × Int)) (h : hash_fill.body rec hash_Shape_c1 x0 x1 = some r) : callW Try.prog A0 33 [.ref 0 0 x0.length 1, .p (.agg (pv_Node x1)), .p (.fn (.func 37) [])] [.arr (encL en_u64 x0)] = some (.tup [.ref 1 0 r.1.length 1, .p (.v (.int .u64 r.2))], [.dead, .arr (encL en_u64 r.1)]) := by
 refine call_ofI (fn := Try.f33) (c := bodyOf Try.f33) 53 rfl rfl (by kernel_rfl) (by kernel_rfl) (by kernel_rfl) ?_
 unfold hash_fill.body at h; unfold bodyOf Try.f33; simp only [ens]
 revert h
 refine gW fun h2 => ?_
 have h1 : ∀ (H : List Ob) (id : Nat), apOb H id 0 x0.length 1 1 1 8 [.v (.int .u64 (0 : Int))] (some (.arr (encL en_u64 x0))) = some (.ref H.length 0 (x0 ++ [(0 : Int)]).length 1, H.set id .dead ++ [.arr (encL en_u64 (x0 ++ [(0 : Int)]))]) := fun H id => ap_enc (y := [(0 : Int)]) en_u64_len (by first | rfl | omega) rfl (by first | (simp only [encL_cons, encL_nil, en_u64_eq, List.cons_append, List.nil_append]; done) | (simp only [encL_cons, encL_nil, en_u64_eq, List.cons_append, List.nil_append]; rfl) | rfl) (by assumption)
 refine gB fun r3 h4 => ?_
 refine gB fun r6 h7 => ?_
 refine gB fun r9 h10 => ?_
 refine gB fun o h22 => ?_
 intro h
 simp (maxSteps := 10000000) (implicitDefEqProofs := false) (disch := first | with_reducible assumption | exact rfl | exact im_ _ | (fail_if_success show Kn _ _); omega | (show (_ : Int) < _; simp only [List.length_set, cpL_len] at *; omega)) only [bs, rs33, ls33_37, Nat.reduceAdd, ↓reduceIte, c37_0, c49_0, c50_0, exr_2_0, exr_2_1, lenD_lst u23, lenD_ref u29, loadD_iagg a25 z25, loadD_pagg a25 z25, loadD_ptr a23, loadD_ptr a3, own_ref, q33_3 hrec, storeD_agg z25, storeD_int z50, wks_nil_, h1]
 refine Wp.ctx (fun x => seqW _ _ _ _ (blockW _ (x))) (L33_37_0_ok hrec (x0.length : Int) x1.Kids (x1.Kids.length : Int) x1.Kind x1.Text x1.Gaps x1.Kids (r9, (0 : Int), (x0 ++ [(0 : Int)])) _ o (by kernel_rfl) h22) ?_
 intro e st hq
 cases o with
 | next _ => (first | cases h | (simp at h))
 | jmp n_ s_ =>
  obtain ⟨rfl, rfl, hq⟩ := hq
  obtain ⟨s9_23, s29_23, y1_23⟩ := s_
  unfold F33_37_0 at hq
  (try simp only [] at h hq)
  revert h
  repeat' first | (with_reducible refine gR fun _ _ _ _ => ?_) | (with_reducible refine gB fun _ _ => ?_)
  intro h; obtain rfl := Option.some.inj h
  simp (maxSteps := 10000000) (implicitDefEqProofs := false) (disch := first | with_reducible assumption | exact rfl | exact im_ _ | (fail_if_success show Kn _ _); omega | (show (_ : Int) < _; simp only [List.length_set, cpL_len] at *; omega)) only [bs, rs33, ls33_37, Nat.reduceAdd, ↓reduceIte, c37_0, c49_0, c50_0, exr_2_0, exr_2_1, lenD_lst u23, lenD_ref u29, loadD_iagg a25 z25, loadD_pagg a25 z25, loadD_ptr a23, loadD_ptr a3, own_ref, q33_3 hrec, storeD_agg z25, storeD_int z50, wks_nil_, h1, hq]
  refine ⟨by simp, ?_⟩; show _ = _; simp only [List.length_set, cpL_len]; kernel_rfl
 | ret _ => (first | cases h | (simp at h))
def ls33n_37 := And.intro @al_25 (And.intro @ap_29_29 (And.intro @bs_29_1 (And.intro @cv_3_50 (And.intro @faP_25_0 (And.intro @faP_25_3 (And.intro @idxL_23 (And.intro @idxR_29 (And.intro @lk_frz_25 (And.intro @sa_4_0_4 (And.intro @stf_50_x (And.intro @varld_4_0_0 (And.intro @varld_4_0_3 (@varlv_4_0_4)))))))))))))
noncomputable def F33n_37_0 (s8 : Int) (s27 : (List Node)) (s28 : Int) (w1_0 : Int) (w1_1 : ByteArray) (w1_2 : (List ByteArray)) (w1_3 : (List Node)) : (Int × Int × (List Int)) → St := fun (s9, s29, y0) => ⟨[.ref 0 0 y0.length 1, J, .p (.fn (.func 37) []), J, .ptr 1 0, J, J, J, iv s8, .p (.v (.int .u64 s9)), J, J, J, J, J, J, J, J, J, J, J, J, J, J, J, J, J, .p (.lst false s27.length (encL en_Node s27)), iv s28, iv s29, J, J, J, J, J, J, J, J, J, J, J, J, J, J, J, J, J, J, J, J, J, J, J, J, J, J], [.arr (encL en_u64 y0), .var [iv w1_0, .p (.v (.string w1_1)), .p (.lst false w1_2.length (encL en_str w1_2)), .p (.lst false w1_3.length (encL en_Node w1_3))]], 0⟩
theorem L33n_37_0_ok {rec : (List Int) → Node → Option ((List Int) × Int)} (hrec : ∀ x0 x1 r, rec x0 x1 = some r → callW Try.prog A0 33 [.ref 0 0 x0.length 1, .p (.agg (pv_Node x1)), .p (.fn (.func 37) [])] [.arr (encL en_u64 x0)] = some (.tup [.ref 1 0 r.1.length 1, .p (.v (.int .u64 r.2))], [.dead, .arr (encL en_u64 r.1)])) (s8 : Int) (s27 : (List Node)) (s28 : Int) (w1_0 : Int) (w1_1 : ByteArray) (w1_2 : (List ByteArray)) (w1_3 : (List Node)) : ∀ s st o, ghostsD g33_0 st = some (F33n_37_0 s8 s27 s28 w1_0 w1_1 w1_2 w1_3 s) → iter (hash_fill_L0 rec hash_Shape_c1 s8 s27 s28 w1_0 w1_1 w1_2 w1_3) s = some o →
    Wp (evW Try.prog A0 33 (.loop L33_0) st) (OutQ (F33n_37_0 s8 s27 s28 w1_0 w1_1 w1_2 w1_3) g33_0 (fun n s st => n = 0 ∧ ghostsD [.keep [0, 2, 4, 8, 9, 27, 28, 29]] st = some (F33n_37_0 s8 s27 s28 w1_0 w1_1 w1_2 w1_3 s)) (fun r st => finishD Try.prog A0 33 Try.f33 st = some (.tup [.ref 0 0 r.1.length 1, .p (.v (.int .u64 r.2))], [.arr (encL en_u64 r.1)])) o) := by
 refine Wp.iter ?_
 intro s st o hg h
 obtain ⟨s9, s29, y0⟩ := s
 unfold hash_fill_L0 at h; unfold g33_0 F33n_37_0 at hg ⊢
 (try simp only [] at h hg)
 unfold L33_0 bodyOf Try.f33; simp only [loopsOf, ens]
 revert h
 repeat' first | (with_reducible refine gR fun _ _ _ _ => ?_) | (with_reducible refine gB fun _ _ => ?_) | (with_reducible refine gI (fun _ _ => ?_) (fun _ _ => ?_))
 all_goals
  intro h; obtain rfl := Option.some.inj h
  first | (simp (maxSteps := 10000000) (implicitDefEqProofs := false) (disch := first | with_reducible assumption | exact rfl | exact im_ _ | (fail_if_success show Kn _ _); omega | (show (_ : Int) < _; simp only [List.length_set, cpL_len] at *; omega)) only [bs, rs33, ls33n_37, Nat.reduceAdd, ↓reduceIte, c37_0, c49_0, c50_0, exr_2_0, exr_2_1, lenD_lst u23, lenD_ref u29, loadD_iagg a25 z25, loadD_pagg a25 z25, loadD_ptr a23, loadD_ptr a3, own_ref, q33_4 hrec, storeD_agg z25, storeD_int z50, wks_nil_, hg]; first | (exact ⟨(rfl : Ex.normal = Ex.normal), by kernel_rfl⟩) | (exact ⟨(rfl : Ex.exit 0 = Ex.exit 0), rfl, by kernel_rfl⟩)) | (exfalso; omega)
theorem f33n_37_ok {rec : (List Int) → Node → Option ((List Int) × Int)} (hrec : ∀ x0 x1 r, rec x0 x1 = some r → callW Try.prog A0 33 [.ref 0 0 x0.length 1, .p (.agg (pv_Node x1)), .p (.fn (.func 37) [])] [.arr (encL en_u64 x0)] = some (.tup [.ref 1 0 r.1.length 1, .p (.v (.int .u64 r.2))], [.dead, .arr (encL en_u64 r.1)]))  (x0 : (List Int)) (x1 : Node) (hx0 : x0 = []) (r : ((List Int) × Int)) (h : hash_fill.body rec hash_Shape_c1 x0 x1 = some r) : callW Try.prog A0 33 [.p (.lst true 0 []), .p (.agg (pv_Node x1)), .p (.fn (.func 37) [])] [] = some (.tup [.ref 0 0 r.1.length 1, .p (.v (.int .u64 r.2))], [.arr (encL en_u64 r.1)]) := by
 refine call_ofI (fn := Try.f33) (c := bodyOf Try.f33) 53 rfl rfl (by kernel_rfl) (by kernel_rfl) (by kernel_rfl) ?_
 unfold hash_fill.body at h; unfold bodyOf Try.f33; simp only [ens]
 have hown := own_nil' (en := en_u64) hx0 1
 revert h
 refine gW fun h2 => ?_
 have h1 : ∀ (H : List Ob) (id : Nat), apOb H id 0 x0.length 1 1 1 8 [.v (.int .u64 (0 : Int))] (some (.arr (encL en_u64 x0))) = some (.ref H.length 0 (x0 ++ [(0 : Int)]).length 1, H.set id .dead ++ [.arr (encL en_u64 (x0 ++ [(0 : Int)]))]) := fun H id => ap_enc (y := [(0 : Int)]) en_u64_len (by first | rfl | omega) rfl (by first | (simp only [encL_cons, encL_nil, en_u64_eq, List.cons_append, List.nil_append]; done) | (simp only [encL_cons, encL_nil, en_u64_eq, List.cons_append, List.nil_append]; rfl) | rfl) (by assumption)
 refine gB fun r3 h4 => ?_
 refine gB fun r6 h7 => ?_
 refine gB fun r9 h10 => ?_
 refine gB fun o h22 => ?_
 intro h
 simp (maxSteps := 10000000) (implicitDefEqProofs := false) (disch := first | with_reducible assumption | exact rfl | exact im_ _ | (fail_if_success show Kn _ _); omega | (show (_ : Int) < _; simp only [List.length_set, cpL_len] at *; omega)) only [bs, rs33, ls33n_37, Nat.reduceAdd, ↓reduceIte, c37_0, c49_0, c50_0, exr_2_0, exr_2_1, lenD_lst u23, lenD_ref u29, loadD_iagg a25 z25, loadD_pagg a25 z25, loadD_ptr a23, loadD_ptr a3, own_ref, q33_4 hrec, storeD_agg z25, storeD_int z50, wks_nil_, hown, h1]
 refine Wp.ctx (fun x => seqW _ _ _ _ (blockW _ (x))) (L33n_37_0_ok hrec (x0.length : Int) x1.Kids (x1.Kids.length : Int) x1.Kind x1.Text x1.Gaps x1.Kids (r9, (0 : Int), (x0 ++ [(0 : Int)])) _ o (by kernel_rfl) h22) ?_
 intro e st hq
 cases o with
 | next _ => (first | cases h | (simp at h))
 | jmp n_ s_ =>
  obtain ⟨rfl, rfl, hq⟩ := hq
  obtain ⟨s9_23, s29_23, y0_23⟩ := s_
  unfold F33n_37_0 at hq
  (try simp only [] at h hq)
  revert h
  repeat' first | (with_reducible refine gR fun _ _ _ _ => ?_) | (with_reducible refine gB fun _ _ => ?_)
  intro h; obtain rfl := Option.some.inj h
  simp (maxSteps := 10000000) (implicitDefEqProofs := false) (disch := first | with_reducible assumption | exact rfl | exact im_ _ | (fail_if_success show Kn _ _); omega | (show (_ : Int) < _; simp only [List.length_set, cpL_len] at *; omega)) only [bs, rs33, ls33n_37, Nat.reduceAdd, ↓reduceIte, c37_0, c49_0, c50_0, exr_2_0, exr_2_1, lenD_lst u23, lenD_ref u29, loadD_iagg a25 z25, loadD_pagg a25 z25, loadD_ptr a23, loadD_ptr a3, own_ref, q33_4 hrec, storeD_agg z25, storeD_int z50, wks_nil_, hown, h1, hq]
  refine ⟨by simp, ?_⟩; show _ = _; simp only [List.length_set, cpL_len]; kernel_rfl
 | ret _ => (first | cases h | (simp at h))
theorem f33_37_spec : ∀ (x0 : (List Int)) (x1 : Node) r, hash_fillS hash_Shape_c1 x0 x1 = some r → callW Try.prog A0 33 [.ref 0 0 x0.length 1, .p (.agg (pv_Node x1)), .p (.fn (.func 37) [])] [.arr (encL en_u64 x0)] = some (.tup [.ref 1 0 r.1.length 1, .p (.v (.int .u64 r.2))], [.dead, .arr (encL en_u64 r.1)]) := by
 have key : ∀ n (x0 : (List Int)) (x1 : Node) r, hash_fillS_mu x0 x1 < n → hash_fillS hash_Shape_c1 x0 x1 = some r → callW Try.prog A0 33 [.ref 0 0 x0.length 1, .p (.agg (pv_Node x1)), .p (.fn (.func 37) [])] [.arr (encL en_u64 x0)] = some (.tup [.ref 1 0 r.1.length 1, .p (.v (.int .u64 r.2))], [.dead, .arr (encL en_u64 r.1)]) := by
  intro n
  induction n with
  | zero => intro x0 x1 r h; omega
  | succ n ih =>
   intro x0 x1 r hn h
   refine f33_37_ok (rec := fun x0' x1' => if hash_fillS_mu x0' x1' < hash_fillS_mu x0 x1 then hash_fillS hash_Shape_c1 x0' x1' else none) ?_ x0 x1 r (hash_fillS_body hash_Shape_c1 x0 x1 r h)
   intro x0' x1' r' h'
   by_cases hm : hash_fillS_mu x0' x1' < hash_fillS_mu x0 x1
   ·rw [if_pos hm] at h'; exact ih x0' x1' r' (by omega) h'
   ·rw [if_neg hm] at h'; cases h'
 intro x0 x1 r h
 exact key _ x0 x1 r (Nat.lt_succ_self _) h
theorem f33n_37_spec (x1 : Node) r (h : hash_fillS hash_Shape_c1 ([] : List Int) x1 = some r) : callW Try.prog A0 33 [.p (.lst true 0 []), .p (.agg (pv_Node x1)), .p (.fn (.func 37) [])] [] = some (.tup [.ref 0 0 r.1.length 1, .p (.v (.int .u64 r.2))], [.arr (encL en_u64 r.1)]) := by
 refine f33n_37_ok (rec := fun x0' x1' => if hash_fillS_mu x0' x1' < hash_fillS_mu ([] : List Int) x1 then hash_fillS hash_Shape_c1 x0' x1' else none) ?_ ([] : List Int) x1 rfl r (hash_fillS_body hash_Shape_c1 ([] : List Int) x1 r h)
 intro x0' x1' r' h'
 by_cases hm : hash_fillS_mu x0' x1' < hash_fillS_mu ([] : List Int) x1
 ·rw [if_pos hm] at h'; exact f33_37_spec x0' x1' r' h'
 ·rw [if_neg hm] at h'; cases h'
theorem hash_fill_37_calln {b1 b2 : Bool} {H : List Ob} {x1 : Node} {r : ((List Int) × Int)} (h : hash_fillS hash_Shape_c1 ([] : List Int) x1 = some r) : callD (callW Try.prog A0) A0 H 33 [.p (.lst true 0 []), .p (.agg [.v (.int .i64 x1.Kind), .v (.string x1.Text), .lst b1 x1.Gaps.length (encL en_str x1.Gaps), .lst b2 x1.Kids.length (encL en_Node x1.Kids)]), .p (.fn (.func 37) [])] = some (.tup [.ref H.length 0 r.1.length 1, .p (.v (.int .u64 r.2))], some (H ++ [.arr (encL en_u64 r.1)])) :=
 callD_mutT0 (args := [.lst true 0 [], .agg (pv_Node x1), .fn (.func 37) []]) (ps := [.v (.int .u64 r.2)]) (by simp only [List.map_cons, List.map_nil, wkDv, wk, wks, wkL]) rfl (f33n_37_spec x1 _ h)
def ls14 := @varlv_4_0_4
theorem q33_5 {a1 : Node} {H : List Ob} {r9001 : ((List Int) × Int)} (h9002 : hash_fillS hash_Shape_c1 ([] : List Int) a1 = some r9001) : callD (callW Try.prog A0) A0 H 33 [.p (.lst true 0 []), .p (.agg (pv_Node a1)), .p (.fn (.func 37) [])] = some (.tup [.ref H.length 0 r9001.1.length 1, .p (.v (.int .u64 r9001.2))], some (H ++ [.arr (encL en_u64 r9001.1)])) := hash_fill_37_calln (H := H) h9002
theorem f14_ok  (x0 : Node) (r : (List Int)) (h : hash_Shape x0 = some r) : callW Try.prog A0 14 [.p (.agg (pv_Node x0))] [] = some (.p (.lst false r.length (encL en_u64 r)), []) := by
 refine call_ofI (fn := Try.f14) (c := bodyOf Try.f14) 10 rfl rfl (by kernel_rfl) (by kernel_rfl) (by kernel_rfl) ?_
 unfold hash_Shape at h; unfold bodyOf Try.f14; simp only [ens]
 revert h
 repeat' (with_reducible refine gB fun _ _ => ?_)
 intro h; obtain rfl := Option.some.inj h
 simp (maxSteps := 10000000) (implicitDefEqProofs := false) (disch := first | with_reducible assumption | exact rfl | exact im_ _ | (fail_if_success show Kn _ _); omega) only [bs, rs14, ls14, Nat.reduceAdd, ↓reduceIte, exr_2_0, exr_2_1, loadD_pagg a25 z25, q33_5]
 refine ⟨by simp, ?_⟩; exact finish_is (l := [1]) rfl rfl rfl (purify1_enc en_u64_len rfl (by first | rfl | omega | simp)) (by first | rfl | (simp only [wk, wks, wkL]; first | done | rfl))
def ls27 := And.intro @faP_25_3 (And.intro @idxL_23 (And.intro @lk_frz_25 (@varld_4_0_3)))
theorem c14_0 {H : List Ob} {a1 : Node} {r : (List Int)} (h : hash_Shape a1 = some r) : callD (callW Try.prog A0) A0 H 14 [.p (.agg (pv_Node a1))] = some (.p (.lst false r.length (encL en_u64 r)), none) :=
 callD_fun (args := [.agg (pv_Node a1)]) rfl rfl rfl (by simp only [List.map_cons, List.map_nil, wk, wks, wkL]; exact f14_ok a1 _ h)
theorem c27r_0 {rec : Node → Option Int} (hrec : ∀ x0 r, rec x0 = some r → callW Try.prog A0 27 [.p (.agg (pv_Node x0))] [] = some (.p (.v (.int .i64 r)), [])) {H : List Ob} {a1 : Node} {r : Int} (h : rec a1 = some r) : callD (callW Try.prog A0) A0 H 27 [.p (.agg (pv_Node a1))] = some (.p (.v (.int .i64 r)), none) :=
 callD_fun (args := [.agg (pv_Node a1)]) rfl rfl rfl (by simp only [List.map_cons, List.map_nil, wk, wks, wkL]; exact hrec a1 _ h)
noncomputable def L27_0 : Code := (loopsOf (bodyOf Try.f27)).getD 0 .skip
def g27_0 : List Ghost := [.keep [1, 3, 4]]
noncomputable def F27_0 (w0_0 : Int) (w0_1 : ByteArray) (w0_2 : (List ByteArray)) (w0_3 : (List Node)) : (Int × Int) → St := fun (s3, s4) => ⟨[J, .ptr 0 0, J, iv s3, iv s4, J, J, J, J, J, J, J, J, J, J, J, J, J, J, J, J], [.var [iv w0_0, .p (.v (.string w0_1)), .p (.lst false w0_2.length (encL en_str w0_2)), .p (.lst false w0_3.length (encL en_Node w0_3))]], 0⟩
theorem L27_0_ok {rec : Node → Option Int} (hrec : ∀ x0 r, rec x0 = some r → callW Try.prog A0 27 [.p (.agg (pv_Node x0))] [] = some (.p (.v (.int .i64 r)), [])) (w0_0 : Int) (w0_1 : ByteArray) (w0_2 : (List ByteArray)) (w0_3 : (List Node)) : ∀ s st o, ghostsD g27_0 st = some (F27_0 w0_0 w0_1 w0_2 w0_3 s) → iter (R06_Size_L0 rec w0_0 w0_1 w0_2 w0_3) s = some o →
    Wp (evW Try.prog A0 27 (.loop L27_0) st) (OutQ (F27_0 w0_0 w0_1 w0_2 w0_3) g27_0 (fun n s st => n = 0 ∧ ghostsD [.keep [1, 3, 4]] st = some (F27_0 w0_0 w0_1 w0_2 w0_3 s)) (fun r st => finishD Try.prog A0 27 Try.f27 st = some (.p (.v (.int .i64 r)), [])) o) := by
 refine Wp.iter ?_
 intro s st o hg h
 obtain ⟨s3, s4⟩ := s
 unfold R06_Size_L0 at h; unfold g27_0 F27_0 at hg ⊢
 (try simp only [] at h hg)
 unfold L27_0 bodyOf Try.f27; simp only [loopsOf, ens]
 revert h
 repeat' first | (with_reducible refine gR fun _ _ _ _ => ?_) | (with_reducible refine gB fun _ _ => ?_) | (with_reducible refine gI (fun _ _ => ?_) (fun _ _ => ?_))
 all_goals
  intro h; obtain rfl := Option.some.inj h
  first | (simp (maxSteps := 10000000) (implicitDefEqProofs := false) (disch := first | with_reducible assumption | exact rfl | exact im_ _ | (fail_if_success show Kn _ _); omega) only [bs, rs27, ls27, Nat.reduceAdd, ↓reduceIte, c27r_0 hrec, lenD_lst u23, loadD_iagg a25 z25, loadD_ptr a23, hg]; first | (exact ⟨(rfl : Ex.normal = Ex.normal), by kernel_rfl⟩) | (exact ⟨(rfl : Ex.exit 0 = Ex.exit 0), rfl, by kernel_rfl⟩)) | (exfalso; omega)
theorem f27_ok {rec : Node → Option Int} (hrec : ∀ x0 r, rec x0 = some r → callW Try.prog A0 27 [.p (.agg (pv_Node x0))] [] = some (.p (.v (.int .i64 r)), []))  (x0 : Node) (r : Int) (h : R06_Size.body rec x0 = some r) : callW Try.prog A0 27 [.p (.agg (pv_Node x0))] [] = some (.p (.v (.int .i64 r)), []) := by
 refine call_ofI (fn := Try.f27) (c := bodyOf Try.f27) 20 rfl rfl (by kernel_rfl) (by kernel_rfl) (by kernel_rfl) ?_
 unfold R06_Size.body at h; unfold bodyOf Try.f27; simp only [ens]
 revert h
 refine gB fun o h8 => ?_
 intro h
 simp (maxSteps := 10000000) (implicitDefEqProofs := false) (disch := first | with_reducible assumption | exact rfl | exact im_ _ | (fail_if_success show Kn _ _); omega) only [bs, rs27, ls27, Nat.reduceAdd, ↓reduceIte, c27r_0 hrec, lenD_lst u23, loadD_iagg a25 z25, loadD_ptr a23]
 refine Wp.ctx (fun x => seqW _ _ _ _ (blockW _ (x))) (L27_0_ok hrec x0.Kind x0.Text x0.Gaps x0.Kids ((1 : Int), (0 : Int)) _ o (by kernel_rfl) h8) ?_
 intro e st hq
 cases o with
 | next _ => (first | cases h | (simp at h))
 | jmp n_ s_ =>
  obtain ⟨rfl, rfl, hq⟩ := hq
  obtain ⟨s3_9, s4_9⟩ := s_
  unfold F27_0 at hq
  (try simp only [] at h hq)
  revert h
  intro h; obtain rfl := Option.some.inj h
  simp (maxSteps := 10000000) (implicitDefEqProofs := false) (disch := first | with_reducible assumption | exact rfl | exact im_ _ | (fail_if_success show Kn _ _); omega) only [bs, rs27, ls27, Nat.reduceAdd, ↓reduceIte, c27r_0 hrec, lenD_lst u23, loadD_iagg a25 z25, loadD_ptr a23, hq]
  refine ⟨by simp, ?_⟩; exact fin_sc rfl rfl rfl rfl
 | ret _ => (first | cases h | (simp at h))
theorem f27_spec : ∀ (x0 : Node) r, R06_SizeS x0 = some r → callW Try.prog A0 27 [.p (.agg (pv_Node x0))] [] = some (.p (.v (.int .i64 r)), []) := by
 have key : ∀ n (x0 : Node) r, R06_SizeS_mu x0 < n → R06_SizeS x0 = some r → callW Try.prog A0 27 [.p (.agg (pv_Node x0))] [] = some (.p (.v (.int .i64 r)), []) := by
  intro n
  induction n with
  | zero => intro x0 r h; omega
  | succ n ih =>
   intro x0 r hn h
   refine f27_ok (rec := fun x0' => if R06_SizeS_mu x0' < R06_SizeS_mu x0 then R06_SizeS x0' else none) ?_ x0 r (R06_SizeS_body x0 r h)
   intro x0' r' h'
   by_cases hm : R06_SizeS_mu x0' < R06_SizeS_mu x0
   ·rw [if_pos hm] at h'; exact ih x0' r' (by omega) h'
   ·rw [if_neg hm] at h'; cases h'
 intro x0 r h
 exact key _ x0 r (Nat.lt_succ_self _) h
def ls24 := And.intro @faP_25_0 (And.intro @faP_25_1 (And.intro @faP_25_3 (And.intro @idxL_23 (And.intro @lk_frz_25 (And.intro @varld_4_0_0 (And.intro @varld_4_0_1 (@varld_4_0_3)))))))
theorem c27_1 {H : List Ob} {a1 : Node} {r : Int} (h : R06_SizeS a1 = some r) : callD (callW Try.prog A0) A0 H 27 [.p (.agg (pv_Node a1))] = some (.p (.v (.int .i64 r)), none) :=
 callD_fun (args := [.agg (pv_Node a1)]) rfl rfl rfl (by simp only [List.map_cons, List.map_nil, wk, wks, wkL]; exact f27_spec a1 _ h)
theorem c24r_0 {rec : Node → Node → Option Bool} (hrec : ∀ x0 x1 r, rec x0 x1 = some r → callW Try.prog A0 24 [.p (.agg (pv_Node x0)), .p (.agg (pv_Node x1))] [] = some (.p (.v (.bool r)), [])) {H : List Ob} {a1 a2 : Node} {r : Bool} (h : rec a1 a2 = some r) : callD (callW Try.prog A0) A0 H 24 [.p (.agg (pv_Node a1)), .p (.agg (pv_Node a2))] = some (.p (.v (.bool r)), none) :=
 callD_fun (args := [.agg (pv_Node a1), .agg (pv_Node a2)]) rfl rfl rfl (by simp only [List.map_cons, List.map_nil, wk, wks, wkL]; exact hrec a1 a2 _ h)
noncomputable def L24_0 : Code := (loopsOf (bodyOf Try.f24)).getD 0 .skip
def g24_0 : List Ghost := [.keep [2, 3, 5]]
noncomputable def F24_0 (w0_0 : Int) (w0_1 : ByteArray) (w0_2 : (List ByteArray)) (w0_3 : (List Node)) (w1_0 : Int) (w1_1 : ByteArray) (w1_2 : (List ByteArray)) (w1_3 : (List Node)) : Int → St := fun s5 => ⟨[J, J, .ptr 0 0, .ptr 1 0, J, iv s5, J, J, J, J, J, J, J, J, J, J, J, J, J, J, J, J, J, J, J, J, J, J, J, J, J, J, J, J, J, J, J, J, J, J, J, J, J, J, J, J], [.var [iv w0_0, .p (.v (.string w0_1)), .p (.lst false w0_2.length (encL en_str w0_2)), .p (.lst false w0_3.length (encL en_Node w0_3))], .var [iv w1_0, .p (.v (.string w1_1)), .p (.lst false w1_2.length (encL en_str w1_2)), .p (.lst false w1_3.length (encL en_Node w1_3))]], 0⟩
theorem L24_0_ok {rec : Node → Node → Option Bool} (hrec : ∀ x0 x1 r, rec x0 x1 = some r → callW Try.prog A0 24 [.p (.agg (pv_Node x0)), .p (.agg (pv_Node x1))] [] = some (.p (.v (.bool r)), [])) (w0_0 : Int) (w0_1 : ByteArray) (w0_2 : (List ByteArray)) (w0_3 : (List Node)) (w1_0 : Int) (w1_1 : ByteArray) (w1_2 : (List ByteArray)) (w1_3 : (List Node)) : ∀ s st o, ghostsD g24_0 st = some (F24_0 w0_0 w0_1 w0_2 w0_3 w1_0 w1_1 w1_2 w1_3 s) → iter (R06_Same_L0 rec w0_0 w0_1 w0_2 w0_3 w1_0 w1_1 w1_2 w1_3) s = some o →
    Wp (evW Try.prog A0 24 (.loop L24_0) st) (OutQ (F24_0 w0_0 w0_1 w0_2 w0_3 w1_0 w1_1 w1_2 w1_3) g24_0 (fun n s st => n = 0 ∧ ghostsD [.keep [2, 3, 5]] st = some (F24_0 w0_0 w0_1 w0_2 w0_3 w1_0 w1_1 w1_2 w1_3 s)) (fun r st => finishD Try.prog A0 24 Try.f24 st = some (.p (.v (.bool r)), [])) o) := by
 refine Wp.iter ?_
 intro s st o hg h
 generalize s = s5 at hg h
 unfold R06_Same_L0 at h; unfold g24_0 F24_0 at hg ⊢
 (try simp only [] at h hg)
 unfold L24_0 bodyOf Try.f24; simp only [loopsOf, ens]
 revert h
 repeat' first | (with_reducible refine gR fun _ _ _ _ => ?_) | (with_reducible refine gB fun _ _ => ?_) | (with_reducible refine gT (fun _ _ => ?_) (fun _ _ => ?_)) | (with_reducible refine gI (fun _ _ => ?_) (fun _ _ => ?_))
 all_goals
  intro h; obtain rfl := Option.some.inj h
  first | (simp (maxSteps := 10000000) (implicitDefEqProofs := false) (disch := first | with_reducible assumption | exact rfl | exact im_ _ | (fail_if_success show Kn _ _); omega) only [bs, rs24, ls24, Nat.reduceAdd, ↓reduceIte, binD_neq_str, c24r_0 hrec, lenD_lst u23, loadD_iagg a25 z25, loadD_ptr a23, loadD_ptr a3, loadD_ptr a9, hg]; first | (exact ⟨(rfl : Ex.normal = Ex.normal), by kernel_rfl⟩) | (refine ⟨(rfl : Ex.ret = Ex.ret), ?_⟩; exact fin_sc rfl rfl rfl rfl) | (exact ⟨(rfl : Ex.exit 0 = Ex.exit 0), rfl, by kernel_rfl⟩)) | (exfalso; omega)
theorem f24_ok {rec : Node → Node → Option Bool} (hrec : ∀ x0 x1 r, rec x0 x1 = some r → callW Try.prog A0 24 [.p (.agg (pv_Node x0)), .p (.agg (pv_Node x1))] [] = some (.p (.v (.bool r)), []))  (x0 : Node) (x1 : Node) (r : Bool) (h : R06_Same.body rec x0 x1 = some r) : callW Try.prog A0 24 [.p (.agg (pv_Node x0)), .p (.agg (pv_Node x1))] [] = some (.p (.v (.bool r)), []) := by
 refine call_ofI (fn := Try.f24) (c := bodyOf Try.f24) 44 rfl rfl (by kernel_rfl) (by kernel_rfl) (by kernel_rfl) ?_
 unfold R06_Same.body at h; unfold bodyOf Try.f24; simp only [ens]
 revert h
 refine gI (fun h1 _ => ?_) (fun h1 _ => ?_)
 ·refine gI (fun h2 _ => ?_) (fun h2 _ => ?_)
  ·refine gI (fun h3 _ => ?_) (fun h3 _ => ?_)
   ·refine gB fun o h15 => ?_
    intro h
    simp (maxSteps := 10000000) (implicitDefEqProofs := false) (disch := first | with_reducible assumption | exact rfl | exact im_ _ | (fail_if_success show Kn _ _); omega) only [bs, rs24, ls24, Nat.reduceAdd, ↓reduceIte, binD_neq_str, c24r_0 hrec, lenD_lst u23, loadD_iagg a25 z25, loadD_ptr a23, loadD_ptr a3, loadD_ptr a9]
    refine Wp.ctx (fun x => seqW _ _ _ _ (blockW _ (x))) (L24_0_ok hrec x0.Kind x0.Text x0.Gaps x0.Kids x1.Kind x1.Text x1.Gaps x1.Kids (0 : Int) _ o (by kernel_rfl) h15) ?_
    intro e st hq
    cases o with
    | next _ => (first | cases h | (simp at h))
    | jmp n_ s_ =>
     obtain ⟨rfl, rfl, hq⟩ := hq
     generalize s_ = s5_16 at h hq
     unfold F24_0 at hq
     (try simp only [] at h hq)
     revert h
     intro h; obtain rfl := Option.some.inj h
     simp (maxSteps := 10000000) (implicitDefEqProofs := false) (disch := first | with_reducible assumption | exact rfl | exact im_ _ | (fail_if_success show Kn _ _); omega) only [bs, rs24, ls24, Nat.reduceAdd, ↓reduceIte, binD_neq_str, c24r_0 hrec, lenD_lst u23, loadD_iagg a25 z25, loadD_ptr a23, loadD_ptr a3, loadD_ptr a9, hq]
     refine ⟨by simp, ?_⟩; exact fin_sc rfl rfl rfl rfl
    | ret r17 =>
     obtain ⟨rfl, hq⟩ := hq
     obtain rfl := Option.some.inj h
     simp (maxSteps := 10000000) (implicitDefEqProofs := false) (disch := first | with_reducible assumption | exact rfl | exact im_ _ | (fail_if_success show Kn _ _); omega) only [bs, rs24, ls24, Nat.reduceAdd, ↓reduceIte, binD_neq_str, c24r_0 hrec, lenD_lst u23, loadD_iagg a25 z25, loadD_ptr a23, loadD_ptr a3, loadD_ptr a9]
     exact ⟨by simp, hq⟩
   ·intro h; obtain rfl := Option.some.inj h
    simp (maxSteps := 10000000) (implicitDefEqProofs := false) (disch := first | with_reducible assumption | exact rfl | exact im_ _ | (fail_if_success show Kn _ _); omega) only [bs, rs24, ls24, Nat.reduceAdd, ↓reduceIte, binD_neq_str, c24r_0 hrec, lenD_lst u23, loadD_iagg a25 z25, loadD_ptr a23, loadD_ptr a3, loadD_ptr a9]
    refine ⟨by simp, ?_⟩; exact fin_sc rfl rfl rfl rfl
  ·intro h; obtain rfl := Option.some.inj h
   simp (maxSteps := 10000000) (implicitDefEqProofs := false) (disch := first | with_reducible assumption | exact rfl | exact im_ _ | (fail_if_success show Kn _ _); omega) only [bs, rs24, ls24, Nat.reduceAdd, ↓reduceIte, binD_neq_str, c24r_0 hrec, lenD_lst u23, loadD_iagg a25 z25, loadD_ptr a23, loadD_ptr a3, loadD_ptr a9]
   refine ⟨by simp, ?_⟩; exact fin_sc rfl rfl rfl rfl
 ·intro h; obtain rfl := Option.some.inj h
  simp (maxSteps := 10000000) (implicitDefEqProofs := false) (disch := first | with_reducible assumption | exact rfl | exact im_ _ | (fail_if_success show Kn _ _); omega) only [bs, rs24, ls24, Nat.reduceAdd, ↓reduceIte, binD_neq_str, c24r_0 hrec, lenD_lst u23, loadD_iagg a25 z25, loadD_ptr a23, loadD_ptr a3, loadD_ptr a9]
  refine ⟨by simp, ?_⟩; exact fin_sc rfl rfl rfl rfl
theorem f24_spec : ∀ (x0 : Node) (x1 : Node) r, R06_SameS x0 x1 = some r → callW Try.prog A0 24 [.p (.agg (pv_Node x0)), .p (.agg (pv_Node x1))] [] = some (.p (.v (.bool r)), []) := by
 have key : ∀ n (x0 : Node) (x1 : Node) r, R06_SameS_mu x0 x1 < n → R06_SameS x0 x1 = some r → callW Try.prog A0 24 [.p (.agg (pv_Node x0)), .p (.agg (pv_Node x1))] [] = some (.p (.v (.bool r)), []) := by
  intro n
  induction n with
  | zero => intro x0 x1 r h; omega
  | succ n ih =>
   intro x0 x1 r hn h
   refine f24_ok (rec := fun x0' x1' => if R06_SameS_mu x0' x1' < R06_SameS_mu x0 x1 then R06_SameS x0' x1' else none) ?_ x0 x1 r (R06_SameS_body x0 x1 r h)
   intro x0' x1' r' h'
   by_cases hm : R06_SameS_mu x0' x1' < R06_SameS_mu x0 x1
   ·rw [if_pos hm] at h'; exact ih x0' x1' r' (by omega) h'
   ·rw [if_neg hm] at h'; cases h'
 intro x0 x1 r h
 exact key _ x0 x1 r (Nat.lt_succ_self _) h
def ls11 := And.intro @ce_50_x (@idxL_29)
theorem c24_1 {H : List Ob} {a1 a2 : Node} {r : Bool} (h : R06_SameS a1 a2 = some r) : callD (callW Try.prog A0) A0 H 24 [.p (.agg (pv_Node a1)), .p (.agg (pv_Node a2))] = some (.p (.v (.bool r)), none) :=
 callD_fun (args := [.agg (pv_Node a1), .agg (pv_Node a2)]) rfl rfl rfl (by simp only [List.map_cons, List.map_nil, wk, wks, wkL]; exact f24_spec a1 a2 _ h)
noncomputable def L11_0 : Code := (loopsOf (bodyOf Try.f11)).getD 0 .skip
def g11_0 : List Ghost := [.weak [0, 1], .keep [0, 1, 5]]
noncomputable def F11_0 (s0 : (List Int)) (s1 : (List Int)) : Int → St := fun s5 => ⟨[.p (.lst false s0.length (encL en_u64 s0)), .p (.lst false s1.length (encL en_u64 s1)), J, J, J, iv s5, J, J, J, J, J, J, J, J, J, J, J, J, J, J, J, J, J, J, J, J], [], 0⟩
theorem L11_0_ok (s0 : (List Int)) (s1 : (List Int)) : ∀ s st o, ghostsD g11_0 st = some (F11_0 s0 s1 s) → iter (R18_Same_L0 s0 s1) s = some o →
    Wp (evW Try.prog A0 11 (.loop L11_0) st) (OutQ (F11_0 s0 s1) g11_0 (fun n s st => n = 0 ∧ ghostsD [.keep [0, 1, 5]] st = some (F11_0 s0 s1 s)) (fun r st => finishD Try.prog A0 11 Try.f11 st = some (.p (.v (.bool r)), [])) o) := by
 refine Wp.iter ?_
 intro s st o hg h
 generalize s = s5 at hg h
 unfold R18_Same_L0 at h; unfold g11_0 F11_0 at hg ⊢
 (try simp only [] at h hg)
 unfold L11_0 bodyOf Try.f11; simp only [loopsOf, ens]
 revert h
 repeat' first | (with_reducible refine gR fun _ _ _ _ => ?_) | (with_reducible refine gI (fun _ _ => ?_) (fun _ _ => ?_))
 all_goals
  intro h; obtain rfl := Option.some.inj h
  first | (simp (maxSteps := 10000000) (implicitDefEqProofs := false) (disch := first | with_reducible assumption | exact rfl | exact im_ _ | (fail_if_success show Kn _ _); omega) only [bs, rs11, ls11, Nat.reduceAdd, ↓reduceIte, binD_neq_k, lenD_lst u29, loadD_iptr a50, hg]; first | (exact ⟨(rfl : Ex.normal = Ex.normal), by kernel_rfl⟩) | (refine ⟨(rfl : Ex.ret = Ex.ret), ?_⟩; exact fin_sc rfl rfl rfl rfl) | (exact ⟨(rfl : Ex.exit 0 = Ex.exit 0), rfl, by kernel_rfl⟩)) | (exfalso; omega)
theorem f11_ok  (x0 : (List Int)) (x1 : (List Int)) (r : Bool) (h : R18_Same x0 x1 = some r) : callW Try.prog A0 11 [.p (.lst false x0.length (encL en_u64 x0)), .p (.lst false x1.length (encL en_u64 x1))] [] = some (.p (.v (.bool r)), []) := by
 refine call_ofI (fn := Try.f11) (c := bodyOf Try.f11) 24 rfl rfl (by kernel_rfl) (by kernel_rfl) (by kernel_rfl) ?_
 unfold R18_Same at h; unfold bodyOf Try.f11; simp only [ens]
 revert h
 refine gI (fun h1 _ => ?_) (fun h1 _ => ?_)
 ·refine gB fun o h10 => ?_
  intro h
  simp (maxSteps := 10000000) (implicitDefEqProofs := false) (disch := first | with_reducible assumption | exact rfl | exact im_ _ | (fail_if_success show Kn _ _); omega) only [bs, rs11, ls11, Nat.reduceAdd, ↓reduceIte, binD_neq_k, lenD_lst u29, loadD_iptr a50]
  refine Wp.ctx (fun x => seqW _ _ _ _ (blockW _ (x))) (L11_0_ok x0 x1 (0 : Int) _ o (by kernel_rfl) h10) ?_
  intro e st hq
  cases o with
  | next _ => (first | cases h | (simp at h))
  | jmp n_ s_ =>
   obtain ⟨rfl, rfl, hq⟩ := hq
   generalize s_ = s5_11 at h hq
   unfold F11_0 at hq
   (try simp only [] at h hq)
   revert h
   intro h; obtain rfl := Option.some.inj h
   simp (maxSteps := 10000000) (implicitDefEqProofs := false) (disch := first | with_reducible assumption | exact rfl | exact im_ _ | (fail_if_success show Kn _ _); omega) only [bs, rs11, ls11, Nat.reduceAdd, ↓reduceIte, binD_neq_k, lenD_lst u29, loadD_iptr a50, hq]
   refine ⟨by simp, ?_⟩; exact fin_sc rfl rfl rfl rfl
  | ret r12 =>
   obtain ⟨rfl, hq⟩ := hq
   obtain rfl := Option.some.inj h
   simp (maxSteps := 10000000) (implicitDefEqProofs := false) (disch := first | with_reducible assumption | exact rfl | exact im_ _ | (fail_if_success show Kn _ _); omega) only [bs, rs11, ls11, Nat.reduceAdd, ↓reduceIte, binD_neq_k, lenD_lst u29, loadD_iptr a50]
   exact ⟨by simp, hq⟩
 ·intro h; obtain rfl := Option.some.inj h
  simp (maxSteps := 10000000) (implicitDefEqProofs := false) (disch := first | with_reducible assumption | exact rfl | exact im_ _ | (fail_if_success show Kn _ _); omega) only [bs, rs11, ls11, Nat.reduceAdd, ↓reduceIte, binD_neq_k, lenD_lst u29, loadD_iptr a50]
  refine ⟨by simp, ?_⟩; exact fin_sc rfl rfl rfl rfl
def ls28 := And.intro @al_25 (And.intro @ap_23_23 (And.intro @bs_23_1 (And.intro @bu_25_0_1 (And.intro @faP_25_0 (And.intro @faP_25_1 (And.intro @faP_25_3 (And.intro @idxL_23 (And.intro @lk_frz_25 (And.intro @sa_4_0_4 (And.intro @sg_4_0_3_r (And.intro @sg_4_0_pppr (And.intro @varld_4_0_0 (And.intro @varld_4_0_1 (And.intro @varld_4_0_3 (@varlg_pppr)))))))))))))))
theorem c11_0 {H : List Ob} {a1 a3 : Bool} {a2 a4 : List Int} {r : Bool} (h : R18_Same a2 a4 = some r) : callD (callW Try.prog A0) A0 H 11 [.p (.lst a1 a2.length (encL en_u64 a2)), .p (.lst a3 a4.length (encL en_u64 a4))] = some (.p (.v (.bool r)), none) :=
 callD_fun (args := [.lst a1 a2.length (encL en_u64 a2), .lst a3 a4.length (encL en_u64 a4)]) rfl rfl rfl (by simp only [List.map_cons, List.map_nil, wk, wks, wkL]; exact f11_ok a2 a4 _ h)
theorem c28r_0 {rec : Node → Option Node} (hrec : ∀ x0 r, rec x0 = some r → callW Try.prog A0 28 [.p (.agg (pv_Node x0))] [] = some (.p (.agg (pv_Node r)), [])) {H : List Ob} {a1 : Node} {r : Node} (h : rec a1 = some r) : callD (callW Try.prog A0) A0 H 28 [.p (.agg (pv_Node a1))] = some (.p (.agg (pv_Node r)), none) :=
 callD_fun (args := [.agg (pv_Node a1)]) rfl rfl rfl (by simp only [List.map_cons, List.map_nil, wk, wks, wkL]; exact hrec a1 _ h)
noncomputable def L28_0 : Code := (loopsOf (bodyOf Try.f28)).getD 0 .skip
def g28_0 : List Ghost := [.ownC 3 3 4, .keep [1, 2, 3, 4]]
noncomputable def F28_0 (w0_0 : Int) (w0_1 : ByteArray) (w0_2 : (List ByteArray)) (w0_3 : (List Node)) (w1_0 : Int) (w1_1 : ByteArray) (w2_0 : Int) (w2_1 : ByteArray) : (Int × (List Node)) → St := fun (s4, y3) => ⟨[J, .ptr 0 0, .ptr 1 0, .ptr 2 0, iv s4, J, J, J, J, J, J, J, J, J, J, J, J, J, J, J, J, J, J, J, J, J, J, J, J], [.var [iv w0_0, .p (.v (.string w0_1)), .p (.lst false w0_2.length (encL en_str w0_2)), .p (.lst false w0_3.length (encL en_Node w0_3))], .var [iv w1_0, .p (.v (.string w1_1)), .p (.lst true 0 []), .p (.lst true 0 [])], .var [iv w2_0, .p (.v (.string w2_1)), .p (.lst true 0 []), .ref 3 0 y3.length 4], .arr (encL en_Node y3)], 0⟩
theorem L28_0_ok {rec : Node → Option Node} (hrec : ∀ x0 r, rec x0 = some r → callW Try.prog A0 28 [.p (.agg (pv_Node x0))] [] = some (.p (.agg (pv_Node r)), [])) (w0_0 : Int) (w0_1 : ByteArray) (w0_2 : (List ByteArray)) (w0_3 : (List Node)) (w1_0 : Int) (w1_1 : ByteArray) (w2_0 : Int) (w2_1 : ByteArray) : ∀ s st o, ghostsD g28_0 st = some (F28_0 w0_0 w0_1 w0_2 w0_3 w1_0 w1_1 w2_0 w2_1 s) → iter (R06_Bare_L0 rec w0_0 w0_1 w0_2 w0_3 w1_0 w1_1 w2_0 w2_1) s = some o →
    Wp (evW Try.prog A0 28 (.loop L28_0) st) (OutQ (F28_0 w0_0 w0_1 w0_2 w0_3 w1_0 w1_1 w2_0 w2_1) g28_0 (fun n s st => n = 0 ∧ ghostsD [.keep [1, 2, 3, 4]] st = some (F28_0 w0_0 w0_1 w0_2 w0_3 w1_0 w1_1 w2_0 w2_1 s)) (fun r st => finishD Try.prog A0 28 Try.f28 st = some (.p (.agg (pv_Node r)), [])) o) := by
 refine Wp.iter ?_
 intro s st o hg h
 obtain ⟨s4, y3⟩ := s
 unfold R06_Bare_L0 at h; unfold g28_0 F28_0 at hg ⊢
 (try simp only [] at h hg)
 unfold L28_0 bodyOf Try.f28; simp only [loopsOf, ens]
 revert h
 refine gI (fun h1 _ => ?_) (fun h1 _ => ?_)
 ·refine gR fun v2 h3 h3a h3b => ?_
  refine gB fun r5 h6 => ?_
  refine gW fun h9 => ?_
  have h8 : ∀ (H : List Ob) (id : Nat), apOb H id 0 y3.length 1 4 4 72 [.v (.int .i64 r5.Kind), .v (.string r5.Text), .lst false r5.Gaps.length (encL en_str r5.Gaps), .lst false r5.Kids.length (encL en_Node r5.Kids)] (some (.arr (encL en_Node y3))) = some (.ref H.length 0 (y3 ++ [r5]).length 4, H.set id .dead ++ [.arr (encL en_Node (y3 ++ [r5]))]) := fun H id => ap_enc (y := [r5]) en_Node_len (by first | rfl | omega) rfl (by first | (simp only [encL_cons, encL_nil, en_Node_eq, List.cons_append, List.nil_append]; done) | (simp only [encL_cons, encL_nil, en_Node_eq, List.cons_append, List.nil_append]; rfl) | rfl) (by assumption)
  intro h; obtain rfl := Option.some.inj h
  simp (maxSteps := 10000000) (implicitDefEqProofs := false) (disch := first | with_reducible assumption | exact rfl | exact im_ _ | (fail_if_success show Kn _ _); omega) only [bs, rs28, ls28, Nat.reduceAdd, ↓reduceIte, c28r_0 hrec, lenD_lst u23, loadD_iagg a25 z25, loadD_pagg a25 z25, loadD_ptr a23, loadD_ptr a3, loadD_ptr a9, storeD_agg z25, storeD_gagg z25, storeD_gref z23, wksL_en_Node, wksL_en_str, wks_nil_, hg, h8]
  exact ⟨(rfl : Ex.normal = Ex.normal), by kernel_rfl⟩
 ·intro h; obtain rfl := Option.some.inj h
  simp (maxSteps := 10000000) (implicitDefEqProofs := false) (disch := first | with_reducible assumption | exact rfl | exact im_ _ | (fail_if_success show Kn _ _); omega) only [bs, rs28, ls28, Nat.reduceAdd, ↓reduceIte, c28r_0 hrec, lenD_lst u23, loadD_iagg a25 z25, loadD_pagg a25 z25, loadD_ptr a23, loadD_ptr a3, loadD_ptr a9, storeD_agg z25, storeD_gagg z25, storeD_gref z23, wksL_en_Node, wksL_en_str, wks_nil_, hg]
  exact ⟨(rfl : Ex.exit 0 = Ex.exit 0), rfl, by kernel_rfl⟩
theorem f28_ok {rec : Node → Option Node} (hrec : ∀ x0 r, rec x0 = some r → callW Try.prog A0 28 [.p (.agg (pv_Node x0))] [] = some (.p (.agg (pv_Node r)), []))  (x0 : Node) (r : Node) (h : R06_Bare.body rec x0 = some r) : callW Try.prog A0 28 [.p (.agg (pv_Node x0))] [] = some (.p (.agg (pv_Node r)), []) := by
 refine call_ofI (fn := Try.f28) (c := bodyOf Try.f28) 28 rfl rfl (by kernel_rfl) (by kernel_rfl) (by kernel_rfl) ?_
 unfold R06_Bare.body at h; unfold bodyOf Try.f28; simp only [ens]
 revert h
 refine gB fun o h10 => ?_
 intro h
 simp (maxSteps := 10000000) (implicitDefEqProofs := false) (disch := first | with_reducible assumption | exact rfl | exact im_ _ | (fail_if_success show Kn _ _); omega) only [bs, rs28, ls28, Nat.reduceAdd, ↓reduceIte, c28r_0 hrec, lenD_lst u23, loadD_iagg a25 z25, loadD_pagg a25 z25, loadD_ptr a23, loadD_ptr a3, loadD_ptr a9, storeD_agg z25, storeD_gagg z25, storeD_gref z23, wksL_en_Node, wksL_en_str, wks_nil_]
 refine Wp.ctx (fun x => seqW _ _ _ _ (blockW _ (x))) (L28_0_ok hrec x0.Kind x0.Text x0.Gaps x0.Kids (0 : Int) ByteArray.empty x0.Kind x0.Text ((0 : Int), ([] : List Node)) _ o (by kernel_rfl) h10) ?_
 intro e st hq
 cases o with
 | next _ => (first | cases h | (simp at h))
 | jmp n_ s_ =>
  obtain ⟨rfl, rfl, hq⟩ := hq
  obtain ⟨s4_11, y3_11⟩ := s_
  unfold F28_0 at hq
  (try simp only [] at h hq)
  revert h
  intro h; obtain rfl := Option.some.inj h
  simp (maxSteps := 10000000) (implicitDefEqProofs := false) (disch := first | with_reducible assumption | exact rfl | exact im_ _ | (fail_if_success show Kn _ _); omega) only [bs, rs28, ls28, Nat.reduceAdd, ↓reduceIte, c28r_0 hrec, lenD_lst u23, loadD_iagg a25 z25, loadD_pagg a25 z25, loadD_ptr a23, loadD_ptr a3, loadD_ptr a9, storeD_agg z25, storeD_gagg z25, storeD_gref z23, wksL_en_Node, wksL_en_str, wks_nil_, hq]
  refine ⟨by simp, ?_⟩; exact finish_is (ds := [.agg [iv x0.Kind, .p (.v (.string x0.Text)), .p (.lst true 0 []), .ref 3 0 y3_11.length 4]]) (x := .agg [.v (.int .i64 x0.Kind), .v (.string x0.Text), .lst true 0 [], .lst false y3_11.length (encL en_Node y3_11)]) (y := .agg [.v (.int .i64 x0.Kind), .v (.string x0.Text), .lst false ([] : List ByteArray).length (encL en_str ([] : List ByteArray)), .lst false y3_11.length (encL en_Node y3_11)]) (l := [3]) rfl rfl (by kernel_rfl) (purify1_agg (purifys_pc (purifys_pc (purifys_pc (purifys_rc en_Node_len rfl (by first | rfl | omega | simp) purifys_nil))))) (by first | rfl | (simp only [wk, wks, wkL]; first | done | rfl))
 | ret _ => (first | cases h | (simp at h))
theorem f28_spec : ∀ (x0 : Node) r, R06_BareS x0 = some r → callW Try.prog A0 28 [.p (.agg (pv_Node x0))] [] = some (.p (.agg (pv_Node r)), []) := by
 have key : ∀ n (x0 : Node) r, R06_BareS_mu x0 < n → R06_BareS x0 = some r → callW Try.prog A0 28 [.p (.agg (pv_Node x0))] [] = some (.p (.agg (pv_Node r)), []) := by
  intro n
  induction n with
  | zero => intro x0 r h; omega
  | succ n ih =>
   intro x0 r hn h
   refine f28_ok (rec := fun x0' => if R06_BareS_mu x0' < R06_BareS_mu x0 then R06_BareS x0' else none) ?_ x0 r (R06_BareS_body x0 r h)
   intro x0' r' h'
   by_cases hm : R06_BareS_mu x0' < R06_BareS_mu x0
   ·rw [if_pos hm] at h'; exact ih x0' r' (by omega) h'
   ·rw [if_neg hm] at h'; cases h'
 intro x0 r h
 exact key _ x0 r (Nat.lt_succ_self _) h
def ls47 := And.intro @al_25 (And.intro @bu_25_ (And.intro @ex_3_0 (And.intro @ex_3_1 (And.intro @ex_3_2 (And.intro @faP_25_3 (And.intro @idxL_23 (And.intro @lk_frz_25 (And.intro @sa_4_0_4 (And.intro @varld_4_0_3 (@varlv_4_0_4))))))))))
theorem c28_1 {H : List Ob} {a1 : Node} {r : Node} (h : R06_BareS a1 = some r) : callD (callW Try.prog A0) A0 H 28 [.p (.agg (pv_Node a1))] = some (.p (.agg (pv_Node r)), none) :=
 callD_fun (args := [.agg (pv_Node a1)]) rfl rfl rfl (by simp only [List.map_cons, List.map_nil, wk, wks, wkL]; exact f28_spec a1 _ h)
theorem c47r_0 {rec : Node → Int → Option (Node × Int × Bool)} (hrec : ∀ x0 x1 r, rec x0 x1 = some r → callW Try.prog A0 47 [.p (.agg (pv_Node x0)), iv x1] [] = some (.p (.tup [.agg (pv_Node r.1), .v (.int .i64 r.2.1), .v (.bool r.2.2)]), [])) {H : List Ob} {a1 : Node} {a2 : Int} {r : Node × Int × Bool} (h : rec a1 a2 = some r) : callD (callW Try.prog A0) A0 H 47 [.p (.agg (pv_Node a1)), iv a2] = some (.p (.tup [.agg (pv_Node r.1), .v (.int .i64 r.2.1), .v (.bool r.2.2)]), none) :=
 callD_fun (args := [.agg (pv_Node a1), .v (.int .i64 a2)]) rfl rfl rfl (by simp only [List.map_cons, List.map_nil, wk, wks, wkL]; exact hrec a1 a2 _ h)
noncomputable def L47_0 : Code := (loopsOf (bodyOf Try.f47)).getD 0 .skip
def g47_0 : List Ghost := [.keep [2, 4, 7, 8]]
noncomputable def F47_0 (w0_0 : Int) (w0_1 : ByteArray) (w0_2 : (List ByteArray)) (w0_3 : (List Node)) (w1_0 : Int) (w1_1 : ByteArray) : (Int × Int) → St := fun (s7, s8) => ⟨[J, J, .ptr 0 0, J, .ptr 1 0, J, J, iv s7, iv s8, J, J, J, J, J, J, J, J, J, J, J, J, J, J, J, J, J, J, J, J, J, J, J, J, J, J, J, J, J, J, J], [.var [iv w0_0, .p (.v (.string w0_1)), .p (.lst false w0_2.length (encL en_str w0_2)), .p (.lst false w0_3.length (encL en_Node w0_3))], .var [iv w1_0, .p (.v (.string w1_1)), .p (.lst true 0 []), .p (.lst true 0 [])]], 0⟩
theorem L47_0_ok {rec : Node → Int → Option (Node × Int × Bool)} (hrec : ∀ x0 x1 r, rec x0 x1 = some r → callW Try.prog A0 47 [.p (.agg (pv_Node x0)), iv x1] [] = some (.p (.tup [.agg (pv_Node r.1), .v (.int .i64 r.2.1), .v (.bool r.2.2)]), [])) (w0_0 : Int) (w0_1 : ByteArray) (w0_2 : (List ByteArray)) (w0_3 : (List Node)) (w1_0 : Int) (w1_1 : ByteArray) : ∀ s st o, ghostsD g47_0 st = some (F47_0 w0_0 w0_1 w0_2 w0_3 w1_0 w1_1 s) → iter (R06_find_L0 rec w0_0 w0_1 w0_2 w0_3 w1_0 w1_1) s = some o →
    Wp (evW Try.prog A0 47 (.loop L47_0) st) (OutQ (F47_0 w0_0 w0_1 w0_2 w0_3 w1_0 w1_1) g47_0 (fun n s st => n = 0 ∧ ghostsD [.keep [2, 4, 7, 8]] st = some (F47_0 w0_0 w0_1 w0_2 w0_3 w1_0 w1_1 s)) (fun r st => finishD Try.prog A0 47 Try.f47 st = some (.p (.tup [.agg (pv_Node r.1), .v (.int .i64 r.2.1), .v (.bool r.2.2)]), [])) o) := by
 refine Wp.iter ?_
 intro s st o hg h
 obtain ⟨s7, s8⟩ := s
 unfold R06_find_L0 at h; unfold g47_0 F47_0 at hg ⊢
 (try simp only [] at h hg)
 unfold L47_0 bodyOf Try.f47; simp only [loopsOf, ens]
 revert h
 refine gI (fun h2 _ => ?_) (fun h2 _ => ?_)
 ·refine gR fun v3 h4 h4a h4b => ?_
  refine gB fun r6 h7 => ?_
  refine gT (fun h9 _ => ?_) (fun h9 _ => ?_)
  ·intro h; obtain rfl := Option.some.inj h
   simp (maxSteps := 10000000) (implicitDefEqProofs := false) (disch := first | with_reducible assumption | exact rfl | exact im_ _ | (fail_if_success show Kn _ _); omega) only [bs, rs47, ls47, Nat.reduceAdd, ↓reduceIte, c47r_0 hrec, lenD_lst u23, loadD_iagg a25 z25, loadD_pagg a25 z25, loadD_ptr a23, storeD_agg z25, hg]
   refine ⟨(rfl : Ex.ret = Ex.ret), ?_⟩; exact finish_is (ds := [.p (.agg (pv_Node r6.1)), iv (0 : Int), bv true]) (x := .tup [.agg (pv_Node r6.1), .v (.int .i64 (0 : Int)), .v (.bool true)]) (y := .tup [.agg [.v (.int .i64 r6.1.Kind), .v (.string r6.1.Text), .lst false r6.1.Gaps.length (encL en_str r6.1.Gaps), .lst false r6.1.Kids.length (encL en_Node r6.1.Kids)], .v (.int .i64 (0 : Int)), .v (.bool true)]) (l := []) rfl rfl (by kernel_rfl) rfl (by first | rfl | (simp only [wk, wks, wkL]; first | done | rfl))
  ·intro h; obtain rfl := Option.some.inj h
   simp (maxSteps := 10000000) (implicitDefEqProofs := false) (disch := first | with_reducible assumption | exact rfl | exact im_ _ | (fail_if_success show Kn _ _); omega) only [bs, rs47, ls47, Nat.reduceAdd, ↓reduceIte, c47r_0 hrec, lenD_lst u23, loadD_iagg a25 z25, loadD_pagg a25 z25, loadD_ptr a23, storeD_agg z25, hg]
   exact ⟨(rfl : Ex.normal = Ex.normal), by kernel_rfl⟩
 ·intro h; obtain rfl := Option.some.inj h
  simp (maxSteps := 10000000) (implicitDefEqProofs := false) (disch := first | with_reducible assumption | exact rfl | exact im_ _ | (fail_if_success show Kn _ _); omega) only [bs, rs47, ls47, Nat.reduceAdd, ↓reduceIte, c47r_0 hrec, lenD_lst u23, loadD_iagg a25 z25, loadD_pagg a25 z25, loadD_ptr a23, storeD_agg z25, hg]
  exact ⟨(rfl : Ex.exit 0 = Ex.exit 0), rfl, by kernel_rfl⟩
theorem f47_ok {rec : Node → Int → Option (Node × Int × Bool)} (hrec : ∀ x0 x1 r, rec x0 x1 = some r → callW Try.prog A0 47 [.p (.agg (pv_Node x0)), iv x1] [] = some (.p (.tup [.agg (pv_Node r.1), .v (.int .i64 r.2.1), .v (.bool r.2.2)]), []))  (x0 : Node) (x1 : Int) (r : (Node × Int × Bool)) (h : R06_find.body rec x0 x1 = some r) : callW Try.prog A0 47 [.p (.agg (pv_Node x0)), iv x1] [] = some (.p (.tup [.agg (pv_Node r.1), .v (.int .i64 r.2.1), .v (.bool r.2.2)]), []) := by
 refine call_ofI (fn := Try.f47) (c := bodyOf Try.f47) 38 rfl rfl (by kernel_rfl) (by kernel_rfl) (by kernel_rfl) ?_
 unfold R06_find.body at h; unfold bodyOf Try.f47; simp only [ens]
 revert h
 refine gI (fun h1 _ => ?_) (fun h1 _ => ?_)
 ·intro h; obtain rfl := Option.some.inj h
  simp (maxSteps := 10000000) (implicitDefEqProofs := false) (disch := first | with_reducible assumption | exact rfl | exact im_ _ | (fail_if_success show Kn _ _); omega) only [bs, rs47, ls47, Nat.reduceAdd, ↓reduceIte, c47r_0 hrec, lenD_lst u23, loadD_iagg a25 z25, loadD_pagg a25 z25, loadD_ptr a23, storeD_agg z25]
  refine ⟨by simp, ?_⟩; exact finish_is (ds := [.p (.agg (pv_Node x0)), iv (0 : Int), bv true]) (x := .tup [.agg (pv_Node x0), .v (.int .i64 (0 : Int)), .v (.bool true)]) (y := .tup [.agg [.v (.int .i64 x0.Kind), .v (.string x0.Text), .lst false x0.Gaps.length (encL en_str x0.Gaps), .lst false x0.Kids.length (encL en_Node x0.Kids)], .v (.int .i64 (0 : Int)), .v (.bool true)]) (l := []) rfl rfl (by kernel_rfl) rfl (by first | rfl | (simp only [wk, wks, wkL]; first | done | rfl))
 ·refine gB fun o h10 => ?_
  intro h
  simp (maxSteps := 10000000) (implicitDefEqProofs := false) (disch := first | with_reducible assumption | exact rfl | exact im_ _ | (fail_if_success show Kn _ _); omega) only [bs, rs47, ls47, Nat.reduceAdd, ↓reduceIte, c47r_0 hrec, lenD_lst u23, loadD_iagg a25 z25, loadD_pagg a25 z25, loadD_ptr a23, storeD_agg z25]
  refine Wp.ctx (fun x => seqW _ _ _ _ (blockW _ (x))) (L47_0_ok hrec x0.Kind x0.Text x0.Gaps x0.Kids (0 : Int) ByteArray.empty (w64 (x1 - (1 : Int)), (0 : Int)) _ o (by kernel_rfl) h10) ?_
  intro e st hq
  cases o with
  | next _ => (first | cases h | (simp at h))
  | jmp n_ s_ =>
   obtain ⟨rfl, rfl, hq⟩ := hq
   obtain ⟨s7_11, s8_11⟩ := s_
   unfold F47_0 at hq
   (try simp only [] at h hq)
   revert h
   intro h; obtain rfl := Option.some.inj h
   simp (maxSteps := 10000000) (implicitDefEqProofs := false) (disch := first | with_reducible assumption | exact rfl | exact im_ _ | (fail_if_success show Kn _ _); omega) only [bs, rs47, ls47, Nat.reduceAdd, ↓reduceIte, c47r_0 hrec, lenD_lst u23, loadD_iagg a25 z25, loadD_pagg a25 z25, loadD_ptr a23, storeD_agg z25, hq]
   refine ⟨by simp, ?_⟩; exact finish_is (ds := [.p (.agg [.v (.int .i64 (0 : Int)), .v (.string ByteArray.empty), .lst true 0 [], .lst true 0 []]), iv s7_11, bv false]) (x := .tup [.agg [.v (.int .i64 (0 : Int)), .v (.string ByteArray.empty), .lst true 0 [], .lst true 0 []], .v (.int .i64 s7_11), .v (.bool false)]) (y := .tup [.agg [.v (.int .i64 (0 : Int)), .v (.string ByteArray.empty), .lst false ([] : List ByteArray).length (encL en_str ([] : List ByteArray)), .lst false ([] : List Node).length (encL en_Node ([] : List Node))], .v (.int .i64 s7_11), .v (.bool false)]) (l := []) rfl rfl (by kernel_rfl) rfl (by first | rfl | (simp only [wk, wks, wkL]; first | done | rfl))
  | ret r12 =>
   obtain ⟨rfl, hq⟩ := hq
   obtain rfl := Option.some.inj h
   simp (maxSteps := 10000000) (implicitDefEqProofs := false) (disch := first | with_reducible assumption | exact rfl | exact im_ _ | (fail_if_success show Kn _ _); omega) only [bs, rs47, ls47, Nat.reduceAdd, ↓reduceIte, c47r_0 hrec, lenD_lst u23, loadD_iagg a25 z25, loadD_pagg a25 z25, loadD_ptr a23, storeD_agg z25]
   exact ⟨by simp, hq⟩
theorem f47_spec : ∀ (x0 : Node) (x1 : Int) r, R06_findS x0 x1 = some r → callW Try.prog A0 47 [.p (.agg (pv_Node x0)), iv x1] [] = some (.p (.tup [.agg (pv_Node r.1), .v (.int .i64 r.2.1), .v (.bool r.2.2)]), []) := by
 have key : ∀ n (x0 : Node) (x1 : Int) r, R06_findS_mu x0 x1 < n → R06_findS x0 x1 = some r → callW Try.prog A0 47 [.p (.agg (pv_Node x0)), iv x1] [] = some (.p (.tup [.agg (pv_Node r.1), .v (.int .i64 r.2.1), .v (.bool r.2.2)]), []) := by
  intro n
  induction n with
  | zero => intro x0 x1 r h; omega
  | succ n ih =>
   intro x0 x1 r hn h
   refine f47_ok (rec := fun x0' x1' => if R06_findS_mu x0' x1' < R06_findS_mu x0 x1 then R06_findS x0' x1' else none) ?_ x0 x1 r (R06_findS_body x0 x1 r h)
   intro x0' x1' r' h'
   by_cases hm : R06_findS_mu x0' x1' < R06_findS_mu x0 x1
   ·rw [if_pos hm] at h'; exact ih x0' x1' r' (by omega) h'
   ·rw [if_neg hm] at h'; cases h'
 intro x0 x1 r h
 exact key _ x0 x1 r (Nat.lt_succ_self _) h
def ls29 := And.intro @al_25 (And.intro @bu_25_ (And.intro @ex_3_0 (And.intro @ex_3_1 (And.intro @ex_3_2 (And.intro @sa_4_0_4 (@varlv_4_0_4))))))
theorem c47_1 {H : List Ob} {a1 : Node} {a2 : Int} {r : Node × Int × Bool} (h : R06_findS a1 a2 = some r) : callD (callW Try.prog A0) A0 H 47 [.p (.agg (pv_Node a1)), iv a2] = some (.p (.tup [.agg (pv_Node r.1), .v (.int .i64 r.2.1), .v (.bool r.2.2)]), none) :=
 callD_fun (args := [.agg (pv_Node a1), .v (.int .i64 a2)]) rfl rfl rfl (by simp only [List.map_cons, List.map_nil, wk, wks, wkL]; exact f47_spec a1 a2 _ h)
theorem f29_ok  (x0 : Node) (x1 : Int) (r : (Node × Bool)) (h : R06_At x0 x1 = some r) : callW Try.prog A0 29 [.p (.agg (pv_Node x0)), iv x1] [] = some (.p (.tup [.agg (pv_Node r.1), .v (.bool r.2)]), []) := by
 refine call_ofI (fn := Try.f29) (c := bodyOf Try.f29) 19 rfl rfl (by kernel_rfl) (by kernel_rfl) (by kernel_rfl) ?_
 unfold R06_At at h; unfold bodyOf Try.f29; simp only [ens]
 revert h
 refine gI (fun h1 _ => ?_) (fun h1 _ => ?_)
 ·intro h; obtain rfl := Option.some.inj h
  simp (maxSteps := 10000000) (implicitDefEqProofs := false) (disch := first | with_reducible assumption | exact rfl | exact im_ _ | (fail_if_success show Kn _ _); omega) only [bs, rs29, ls29, Nat.reduceAdd, ↓reduceIte, c47_1, loadD_pagg a25 z25, storeD_agg z25]
  refine ⟨by simp, ?_⟩; exact finish_is (ds := [.p (.agg [.v (.int .i64 (0 : Int)), .v (.string ByteArray.empty), .lst true 0 [], .lst true 0 []]), bv false]) (x := .tup [.agg [.v (.int .i64 (0 : Int)), .v (.string ByteArray.empty), .lst true 0 [], .lst true 0 []], .v (.bool false)]) (y := .tup [.agg [.v (.int .i64 (0 : Int)), .v (.string ByteArray.empty), .lst false ([] : List ByteArray).length (encL en_str ([] : List ByteArray)), .lst false ([] : List Node).length (encL en_Node ([] : List Node))], .v (.bool false)]) (l := []) rfl rfl (by kernel_rfl) rfl (by first | rfl | (simp only [wk, wks, wkL]; first | done | rfl))
 ·refine gB fun r2 h3 => ?_
  intro h; obtain rfl := Option.some.inj h
  simp (maxSteps := 10000000) (implicitDefEqProofs := false) (disch := first | with_reducible assumption | exact rfl | exact im_ _ | (fail_if_success show Kn _ _); omega) only [bs, rs29, ls29, Nat.reduceAdd, ↓reduceIte, c47_1, loadD_pagg a25 z25, storeD_agg z25]
  refine ⟨by simp, ?_⟩; exact finish_is (ds := [.p (.agg (pv_Node r2.1)), bv r2.2.2]) (x := .tup [.agg (pv_Node r2.1), .v (.bool r2.2.2)]) (y := .tup [.agg [.v (.int .i64 r2.1.Kind), .v (.string r2.1.Text), .lst false r2.1.Gaps.length (encL en_str r2.1.Gaps), .lst false r2.1.Kids.length (encL en_Node r2.1.Kids)], .v (.bool r2.2.2)]) (l := []) rfl rfl (by kernel_rfl) rfl (by first | rfl | (simp only [wk, wks, wkL]; first | done | rfl))
def ls7 := And.intro @al_25 (And.intro @bu_25_0_1_3 (And.intro @ce_50_x (And.intro @ex_2_0 (And.intro @ex_2_1 (And.intro @faP_25_0 (And.intro @faP_25_3 (And.intro @idxL_29 (And.intro @sa_4_0_4 (And.intro @varld_4_0_0 (And.intro @varld_4_0_3 (@varlv_4_0_4)))))))))))
theorem c29_0 {H : List Ob} {a1 : Node} {a2 : Int} {r : Node × Bool} (h : R06_At a1 a2 = some r) : callD (callW Try.prog A0) A0 H 29 [.p (.agg (pv_Node a1)), iv a2] = some (.p (.tup [.agg (pv_Node r.1), .v (.bool r.2)]), none) :=
 callD_fun (args := [.agg (pv_Node a1), .v (.int .i64 a2)]) rfl rfl rfl (by simp only [List.map_cons, List.map_nil, wk, wks, wkL]; exact f29_ok a1 a2 _ h)
theorem c14_1 {H : List Ob} {a1 : Int} {a2 : ByteArray} {a3 : Bool} {a4 : List Node} {r : (List Int)} (h : hash_Shape (Node.mk a1 a2 ([] : List ByteArray) a4) = some r) : callD (callW Try.prog A0) A0 H 14 [.p (.agg [.v (.int .i64 a1), .v (.string a2), .lst true 0 [], .lst a3 a4.length (encL en_Node a4)])] = some (.p (.lst false r.length (encL en_u64 r)), none) :=
 callD_fun (args := [.agg [.v (.int .i64 a1), .v (.string a2), .lst true 0 [], .lst a3 a4.length (encL en_Node a4)]]) rfl rfl rfl (by simp only [List.map_cons, List.map_nil, wk, wks, wkL]; exact f14_ok (Node.mk a1 a2 ([] : List ByteArray) a4) _ h)
theorem f7_ok  (x0 : Node) (x1 : Node) (x2 : Int) (x3 : ByteArray) (r : Bool) (h : law18_HashAgrees x0 x1 x2 x3 = some r) : callW Try.prog A0 7 [.p (.agg (pv_Node x0)), .p (.agg (pv_Node x1)), iv x2, .p (.v (.string x3))] [] = some (.p (.v (.bool r)), []) := by
 refine call_ofI (fn := Try.f7) (c := bodyOf Try.f7) 122 rfl rfl (by kernel_rfl) (by kernel_rfl) (by kernel_rfl) ?_
 unfold law18_HashAgrees at h; unfold bodyOf Try.f7; simp only [ens]
 revert h
 repeat' first | (with_reducible refine gR fun _ _ _ _ => ?_) | (with_reducible refine gB fun _ _ => ?_) | (with_reducible refine gT (fun _ _ => ?_) (fun _ _ => ?_)) | (with_reducible refine gI (fun _ _ => ?_) (fun _ _ => ?_))
 all_goals
  intro h; obtain rfl := Option.some.inj h
  first | (simp (maxSteps := 10000000) (implicitDefEqProofs := false) (disch := first | with_reducible assumption | exact rfl | exact im_ _ | (fail_if_success show Kn _ _); omega) only [bs, rs7, ls7, Nat.reduceAdd, ↓reduceIte, binD_neq_k, c10_0, c11_0, c12_0, c14_0, c14_1, c24_1, c27_1, c28_1, c29_0, c9_0, lenD_lst u29, lenD_str u9, loadD_iptr a50, loadD_pagg a25 z25, loadD_ptr a23, loadD_ptr a3, storeD_agg z25]; refine ⟨by simp, ?_⟩; exact fin_sc rfl rfl rfl rfl) | (exfalso; omega)
end Xr

