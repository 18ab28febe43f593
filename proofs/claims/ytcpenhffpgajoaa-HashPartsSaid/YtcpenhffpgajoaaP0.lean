/- A part of the proof: P0. No conditions of its own. -/
import Derived.Test.YtcpenhffpgajoaaL
namespace Xr
open Go Go.Ev Go.Proofs
set_option linter.unusedSimpArgs false
set_option linter.unusedVariables false
set_option linter.defProp false
set_option maxRecDepth 8000
set_option maxHeartbeats 40000000
def ls48 := And.intro @faP_25_3 (And.intro @idxL_23 (And.intro @lk_frz_25 (@varld_4_0_3)))
theorem c48r_0 {rec : Node → Int → Int → Option Int} (hrec : ∀ x0 x1 x2 r, rec x0 x1 x2 = some r → callW Try.prog A0 48 [.p (.agg (pv_Node x0)), iv x1, iv x2] [] = some (.p (.v (.int .i64 r)), [])) {H : List Ob} {a1 : Node} {a2 a3 : Int} {r : Int} (h : rec a1 a2 a3 = some r) : callD (callW Try.prog A0) A0 H 48 [.p (.agg (pv_Node a1)), iv a2, iv a3] = some (.p (.v (.int .i64 r)), none) :=
 callD_fun (args := [.agg (pv_Node a1), .v (.int .i64 a2), .v (.int .i64 a3)]) rfl rfl rfl (by simp only [List.map_cons, List.map_nil, wk, wks, wkL]; exact hrec a1 a2 a3 _ h)
noncomputable def L48_0 : Code := (loopsOf (bodyOf Try.f48)).getD 0 .skip
def g48_0 : List Ghost := [.keep [2, 3, 7, 8]]
noncomputable def F48_0 (s2 : Int) (w0_0 : Int) (w0_1 : ByteArray) (w0_2 : (List ByteArray)) (w0_3 : (List Node)) : (Int × Int) → St := fun (s7, s8) => ⟨[J, J, iv s2, .ptr 0 0, J, J, J, iv s7, iv s8, J, J, J, J, J, J, J, J, J, J, J, J, J, J, J, J, J, J, J, J, J, J, J, J, J, J, J, J, J, J, J, J, J, J], [.var [iv w0_0, .p (.v (.string w0_1)), .p (.lst false w0_2.length (encL en_str w0_2)), .p (.lst false w0_3.length (encL en_Node w0_3))]], 0⟩
theorem L48_0_ok {rec : Node → Int → Int → Option Int} (hrec : ∀ x0 x1 x2 r, rec x0 x1 x2 = some r → callW Try.prog A0 48 [.p (.agg (pv_Node x0)), iv x1, iv x2] [] = some (.p (.v (.int .i64 r)), [])) (s2 : Int) (w0_0 : Int) (w0_1 : ByteArray) (w0_2 : (List ByteArray)) (w0_3 : (List Node)) : ∀ s st o, ghostsD g48_0 st = some (F48_0 s2 w0_0 w0_1 w0_2 w0_3 s) → iter (R06_left_L0 rec s2 w0_0 w0_1 w0_2 w0_3) s = some o →
    Wp (evW Try.prog A0 48 (.loop L48_0) st) (OutQ (F48_0 s2 w0_0 w0_1 w0_2 w0_3) g48_0 (fun n s st => n = 0 ∧ ghostsD [.keep [2, 3, 7, 8]] st = some (F48_0 s2 w0_0 w0_1 w0_2 w0_3 s)) (fun r st => finishD Try.prog A0 48 Try.f48 st = some (.p (.v (.int .i64 r)), [])) o) := by
 refine Wp.iter ?_
 intro s st o hg h
 obtain ⟨s7, s8⟩ := s
 unfold R06_left_L0 at h; unfold g48_0 F48_0 at hg ⊢
 (try simp only [] at h hg)
 unfold L48_0 bodyOf Try.f48; simp only [loopsOf, ens]
 revert h
 repeat' first | (with_reducible refine gR fun _ _ _ _ => ?_) | (with_reducible refine gB fun _ _ => ?_) | (with_reducible refine gI (fun _ _ => ?_) (fun _ _ => ?_))
 all_goals
  intro h; obtain rfl := Option.some.inj h
  first | (simp (maxSteps := 10000000) (implicitDefEqProofs := false) (disch := first | with_reducible assumption | exact rfl | exact im_ _ | (fail_if_success show Kn _ _); omega) only [bs, rs48, ls48, Nat.reduceAdd, ↓reduceIte, c48r_0 hrec, lenD_lst u23, loadD_iagg a25 z25, loadD_ptr a23, hg]; first | (refine ⟨(rfl : Ex.ret = Ex.ret), ?_⟩; exact fin_sc rfl rfl rfl rfl) | (exact ⟨(rfl : Ex.normal = Ex.normal), by kernel_rfl⟩) | (exact ⟨(rfl : Ex.exit 0 = Ex.exit 0), rfl, by kernel_rfl⟩)) | (exfalso; omega)
theorem f48_ok {rec : Node → Int → Int → Option Int} (hrec : ∀ x0 x1 x2 r, rec x0 x1 x2 = some r → callW Try.prog A0 48 [.p (.agg (pv_Node x0)), iv x1, iv x2] [] = some (.p (.v (.int .i64 r)), []))  (x0 : Node) (x1 : Int) (x2 : Int) (r : Int) (h : R06_left.body rec x0 x1 x2 = some r) : callW Try.prog A0 48 [.p (.agg (pv_Node x0)), iv x1, iv x2] [] = some (.p (.v (.int .i64 r)), []) := by
 refine call_ofI (fn := Try.f48) (c := bodyOf Try.f48) 40 rfl rfl (by kernel_rfl) (by kernel_rfl) (by kernel_rfl) ?_
 unfold R06_left.body at h; unfold bodyOf Try.f48; simp only [ens]
 revert h
 refine gI (fun h1 _ => ?_) (fun h1 _ => ?_)
 ·intro h; obtain rfl := Option.some.inj h
  simp (maxSteps := 10000000) (implicitDefEqProofs := false) (disch := first | with_reducible assumption | exact rfl | exact im_ _ | (fail_if_success show Kn _ _); omega) only [bs, rs48, ls48, Nat.reduceAdd, ↓reduceIte, c48r_0 hrec, lenD_lst u23, loadD_iagg a25 z25, loadD_ptr a23]
  refine ⟨by simp, ?_⟩; exact fin_sc rfl rfl rfl rfl
 ·refine gI (fun h2 _ => ?_) (fun h2 _ => ?_)
  ·intro h; obtain rfl := Option.some.inj h
   simp (maxSteps := 10000000) (implicitDefEqProofs := false) (disch := first | with_reducible assumption | exact rfl | exact im_ _ | (fail_if_success show Kn _ _); omega) only [bs, rs48, ls48, Nat.reduceAdd, ↓reduceIte, c48r_0 hrec, lenD_lst u23, loadD_iagg a25 z25, loadD_ptr a23]
   refine ⟨by simp, ?_⟩; exact fin_sc rfl rfl rfl rfl
  ·refine gI (fun h3 _ => ?_) (fun h3 _ => ?_)
   ·intro h; obtain rfl := Option.some.inj h
    simp (maxSteps := 10000000) (implicitDefEqProofs := false) (disch := first | with_reducible assumption | exact rfl | exact im_ _ | (fail_if_success show Kn _ _); omega) only [bs, rs48, ls48, Nat.reduceAdd, ↓reduceIte, c48r_0 hrec, lenD_lst u23, loadD_iagg a25 z25, loadD_ptr a23]
    refine ⟨by simp, ?_⟩; exact fin_sc rfl rfl rfl rfl
   ·refine gB fun o h12 => ?_
    intro h
    simp (maxSteps := 10000000) (implicitDefEqProofs := false) (disch := first | with_reducible assumption | exact rfl | exact im_ _ | (fail_if_success show Kn _ _); omega) only [bs, rs48, ls48, Nat.reduceAdd, ↓reduceIte, c48r_0 hrec, lenD_lst u23, loadD_iagg a25 z25, loadD_ptr a23]
    refine Wp.ctx (fun x => seqW _ _ _ _ (blockW _ (x))) (L48_0_ok hrec x2 x0.Kind x0.Text x0.Gaps x0.Kids (w64 (x1 - (1 : Int)), (0 : Int)) _ o (by kernel_rfl) h12) ?_
    intro e st hq
    cases o with
    | next _ => (first | cases h | (simp at h))
    | jmp n_ s_ =>
     obtain ⟨rfl, rfl, hq⟩ := hq
     obtain ⟨s7_13, s8_13⟩ := s_
     unfold F48_0 at hq
     (try simp only [] at h hq)
     revert h
     intro h; obtain rfl := Option.some.inj h
     simp (maxSteps := 10000000) (implicitDefEqProofs := false) (disch := first | with_reducible assumption | exact rfl | exact im_ _ | (fail_if_success show Kn _ _); omega) only [bs, rs48, ls48, Nat.reduceAdd, ↓reduceIte, c48r_0 hrec, lenD_lst u23, loadD_iagg a25 z25, loadD_ptr a23, hq]
     refine ⟨by simp, ?_⟩; exact fin_sc rfl rfl rfl rfl
    | ret r14 =>
     obtain ⟨rfl, hq⟩ := hq
     obtain rfl := Option.some.inj h
     simp (maxSteps := 10000000) (implicitDefEqProofs := false) (disch := first | with_reducible assumption | exact rfl | exact im_ _ | (fail_if_success show Kn _ _); omega) only [bs, rs48, ls48, Nat.reduceAdd, ↓reduceIte, c48r_0 hrec, lenD_lst u23, loadD_iagg a25 z25, loadD_ptr a23]
     exact ⟨by simp, hq⟩
theorem f48_spec : ∀ (x0 : Node) (x1 : Int) (x2 : Int) r, R06_leftS x0 x1 x2 = some r → callW Try.prog A0 48 [.p (.agg (pv_Node x0)), iv x1, iv x2] [] = some (.p (.v (.int .i64 r)), []) := by
 have key : ∀ n (x0 : Node) (x1 : Int) (x2 : Int) r, R06_leftS_mu x0 x1 x2 < n → R06_leftS x0 x1 x2 = some r → callW Try.prog A0 48 [.p (.agg (pv_Node x0)), iv x1, iv x2] [] = some (.p (.v (.int .i64 r)), []) := by
  intro n
  induction n with
  | zero => intro x0 x1 x2 r h; omega
  | succ n ih =>
   intro x0 x1 x2 r hn h
   refine f48_ok (rec := fun x0' x1' x2' => if R06_leftS_mu x0' x1' x2' < R06_leftS_mu x0 x1 x2 then R06_leftS x0' x1' x2' else none) ?_ x0 x1 x2 r (R06_leftS_body x0 x1 x2 r h)
   intro x0' x1' x2' r' h'
   by_cases hm : R06_leftS_mu x0' x1' x2' < R06_leftS_mu x0 x1 x2
   ·rw [if_pos hm] at h'; exact ih x0' x1' x2' r' (by omega) h'
   ·rw [if_neg hm] at h'; cases h'
 intro x0 x1 x2 r h
 exact key _ x0 x1 x2 r (Nat.lt_succ_self _) h
def ls30 := @varlv_4_0_4
theorem c48_1 {H : List Ob} {a1 : Node} {a2 a3 : Int} {r : Int} (h : R06_leftS a1 a2 a3 = some r) : callD (callW Try.prog A0) A0 H 48 [.p (.agg (pv_Node a1)), iv a2, iv a3] = some (.p (.v (.int .i64 r)), none) :=
 callD_fun (args := [.agg (pv_Node a1), .v (.int .i64 a2), .v (.int .i64 a3)]) rfl rfl rfl (by simp only [List.map_cons, List.map_nil, wk, wks, wkL]; exact f48_spec a1 a2 a3 _ h)
theorem f30_ok  (x0 : Node) (x1 : Int) (x2 : Int) (r : Bool) (h : R06_Fits x0 x1 x2 = some r) : callW Try.prog A0 30 [.p (.agg (pv_Node x0)), iv x1, iv x2] [] = some (.p (.v (.bool r)), []) := by
 refine call_ofI (fn := Try.f30) (c := bodyOf Try.f30) 9 rfl rfl (by kernel_rfl) (by kernel_rfl) (by kernel_rfl) ?_
 unfold R06_Fits at h; unfold bodyOf Try.f30; simp only [ens]
 revert h
 repeat' (with_reducible refine gB fun _ _ => ?_)
 intro h; obtain rfl := Option.some.inj h
 simp (maxSteps := 10000000) (implicitDefEqProofs := false) (disch := first | with_reducible assumption | exact rfl | exact im_ _ | (fail_if_success show Kn _ _); omega) only [bs, rs30, ls30, Nat.reduceAdd, ↓reduceIte, c48_1, loadD_pagg a25 z25]
 refine ⟨by simp, ?_⟩; exact fin_sc rfl rfl rfl rfl
def ls31 := And.intro @ce_9_x (And.intro @faP_25_1 (And.intro @faP_25_2 (And.intro @faP_25_3 (And.intro @idxL_22 (And.intro @idxL_23 (And.intro @lk_frz_25 (And.intro @varld_4_0_1 (And.intro @varld_4_0_2 (@varld_4_0_3)))))))))
theorem c30_0 {H : List Ob} {a1 : Node} {a2 a3 : Int} {r : Bool} (h : R06_Fits a1 a2 a3 = some r) : callD (callW Try.prog A0) A0 H 30 [.p (.agg (pv_Node a1)), iv a2, iv a3] = some (.p (.v (.bool r)), none) :=
 callD_fun (args := [.agg (pv_Node a1), .v (.int .i64 a2), .v (.int .i64 a3)]) rfl rfl rfl (by simp only [List.map_cons, List.map_nil, wk, wks, wkL]; exact f30_ok a1 a2 a3 _ h)
theorem c31r_0 {rec : Node → Int → Option Int} (hrec : ∀ x0 x1 r, rec x0 x1 = some r → callW Try.prog A0 31 [.p (.agg (pv_Node x0)), iv x1] [] = some (.p (.v (.int .i64 r)), [])) {H : List Ob} {a1 : Node} {a2 : Int} {r : Int} (h : rec a1 a2 = some r) : callD (callW Try.prog A0) A0 H 31 [.p (.agg (pv_Node a1)), iv a2] = some (.p (.v (.int .i64 r)), none) :=
 callD_fun (args := [.agg (pv_Node a1), .v (.int .i64 a2)]) rfl rfl rfl (by simp only [List.map_cons, List.map_nil, wk, wks, wkL]; exact hrec a1 a2 _ h)
noncomputable def L31_1 : Code := (loopsOf (bodyOf Try.f31)).getD 1 .skip
def g31_1 : List Ghost := [.keep [2, 5, 7]]
noncomputable def F31_1 (w0_0 : Int) (w0_1 : ByteArray) (w0_2 : (List ByteArray)) (w0_3 : (List Node)) : (Int × Int) → St := fun (s5, s7) => ⟨[J, J, .ptr 0 0, J, J, iv s5, J, iv s7, J, J, J, J, J, J, J, J, J, J, J, J, J, J, J, J, J, J, J, J, J, J, J, J, J, J, J, J, J, J, J, J, J, J, J, J, J, J, J, J, J, J, J, J, J, J, J, J, J, J, J, J, J, J, J, J, J, J], [.var [iv w0_0, .p (.v (.string w0_1)), .p (.lst false w0_2.length (encL en_str w0_2)), .p (.lst false w0_3.length (encL en_Node w0_3))]], 0⟩
theorem L31_1_ok {rec : Node → Int → Option Int} (hrec : ∀ x0 x1 r, rec x0 x1 = some r → callW Try.prog A0 31 [.p (.agg (pv_Node x0)), iv x1] [] = some (.p (.v (.int .i64 r)), [])) (w0_0 : Int) (w0_1 : ByteArray) (w0_2 : (List ByteArray)) (w0_3 : (List Node)) : ∀ s st o, ghostsD g31_1 st = some (F31_1 w0_0 w0_1 w0_2 w0_3 s) → iter (R06_weigh_L1 rec w0_0 w0_1 w0_2 w0_3) s = some o →
    Wp (evW Try.prog A0 31 (.loop L31_1) st) (OutQ (F31_1 w0_0 w0_1 w0_2 w0_3) g31_1 (fun n s st => n = 2 ∧ ghostsD [.keep [2, 5, 7]] st = some (F31_1 w0_0 w0_1 w0_2 w0_3 s)) (fun r st => finishD Try.prog A0 31 Try.f31 st = some (.p (.v (.int .i64 r)), [])) o) := by
 refine Wp.iter ?_
 intro s st o hg h
 obtain ⟨s5, s7⟩ := s
 unfold R06_weigh_L1 at h; unfold g31_1 F31_1 at hg ⊢
 (try simp only [] at h hg)
 unfold L31_1 bodyOf Try.f31; simp only [loopsOf, ens]
 revert h
 repeat' first | (with_reducible refine gR fun _ _ _ _ => ?_) | (with_reducible refine gB fun _ _ => ?_) | (with_reducible refine gI (fun _ _ => ?_) (fun _ _ => ?_))
 all_goals
  intro h; obtain rfl := Option.some.inj h
  first | (simp (maxSteps := 10000000) (implicitDefEqProofs := false) (disch := first | with_reducible assumption | exact rfl | exact im_ _ | (fail_if_success show Kn _ _); omega) only [bs, rs31, ls31, Nat.reduceAdd, ↓reduceIte, c31r_0 hrec, lenD_lst u22, lenD_lst u23, lenD_str u9, loadD_iagg a25 z25, loadD_iptr a9, loadD_ptr a22, loadD_ptr a23, loadD_ptr a9, hg]; first | (refine ⟨(rfl : Ex.ret = Ex.ret), ?_⟩; exact fin_sc rfl rfl rfl rfl) | (exact ⟨(rfl : Ex.normal = Ex.normal), by kernel_rfl⟩) | (exact ⟨(rfl : Ex.exit 2 = Ex.exit 2), rfl, by kernel_rfl⟩)) | (exfalso; omega)
noncomputable def L31_0 : Code := (loopsOf (bodyOf Try.f31)).getD 0 .skip
def g31_0 : List Ghost := [.keep [2, 5, 6]]
noncomputable def F31_0 (w0_0 : Int) (w0_1 : ByteArray) (w0_2 : (List ByteArray)) (w0_3 : (List Node)) : (Int × Int) → St := fun (s5, s6) => ⟨[J, J, .ptr 0 0, J, J, iv s5, iv s6, J, J, J, J, J, J, J, J, J, J, J, J, J, J, J, J, J, J, J, J, J, J, J, J, J, J, J, J, J, J, J, J, J, J, J, J, J, J, J, J, J, J, J, J, J, J, J, J, J, J, J, J, J, J, J, J, J, J, J], [.var [iv w0_0, .p (.v (.string w0_1)), .p (.lst false w0_2.length (encL en_str w0_2)), .p (.lst false w0_3.length (encL en_Node w0_3))]], 0⟩
theorem L31_0_ok {rec : Node → Int → Option Int} (hrec : ∀ x0 x1 r, rec x0 x1 = some r → callW Try.prog A0 31 [.p (.agg (pv_Node x0)), iv x1] [] = some (.p (.v (.int .i64 r)), [])) (w0_0 : Int) (w0_1 : ByteArray) (w0_2 : (List ByteArray)) (w0_3 : (List Node)) : ∀ s st o, ghostsD g31_0 st = some (F31_0 w0_0 w0_1 w0_2 w0_3 s) → iter (R06_weigh_L0 rec w0_0 w0_1 w0_2 w0_3) s = some o →
    Wp (evW Try.prog A0 31 (.loop L31_0) st) (OutQ (F31_0 w0_0 w0_1 w0_2 w0_3) g31_0 (fun n s st => n = 0 ∧ ghostsD [.keep [2, 5, 6]] st = some (F31_0 w0_0 w0_1 w0_2 w0_3 s)) (fun r st => finishD Try.prog A0 31 Try.f31 st = some (.p (.v (.int .i64 r)), [])) o) := by
 refine Wp.iter ?_
 intro s st o hg h
 obtain ⟨s5, s6⟩ := s
 unfold R06_weigh_L0 at h; unfold g31_0 F31_0 at hg ⊢
 (try simp only [] at h hg)
 unfold L31_0 bodyOf Try.f31; simp only [loopsOf, ens]
 revert h
 repeat' first | (with_reducible refine gR fun _ _ _ _ => ?_) | (with_reducible refine gI (fun _ _ => ?_) (fun _ _ => ?_))
 all_goals
  intro h; obtain rfl := Option.some.inj h
  first | (simp (maxSteps := 10000000) (implicitDefEqProofs := false) (disch := first | with_reducible assumption | exact rfl | exact im_ _ | (fail_if_success show Kn _ _); omega) only [bs, rs31, ls31, Nat.reduceAdd, ↓reduceIte, c31r_0 hrec, lenD_lst u22, lenD_lst u23, lenD_str u9, loadD_iagg a25 z25, loadD_iptr a9, loadD_ptr a22, loadD_ptr a23, loadD_ptr a9, hg]; first | (refine ⟨(rfl : Ex.ret = Ex.ret), ?_⟩; exact fin_sc rfl rfl rfl rfl) | (exact ⟨(rfl : Ex.normal = Ex.normal), by kernel_rfl⟩) | (exact ⟨(rfl : Ex.exit 0 = Ex.exit 0), rfl, by kernel_rfl⟩)) | (exfalso; omega)
theorem f31_ok {rec : Node → Int → Option Int} (hrec : ∀ x0 x1 r, rec x0 x1 = some r → callW Try.prog A0 31 [.p (.agg (pv_Node x0)), iv x1] [] = some (.p (.v (.int .i64 r)), []))  (x0 : Node) (x1 : Int) (r : Int) (h : R06_weigh.body rec x0 x1 = some r) : callW Try.prog A0 31 [.p (.agg (pv_Node x0)), iv x1] [] = some (.p (.v (.int .i64 r)), []) := by
 refine call_ofI (fn := Try.f31) (c := bodyOf Try.f31) 64 rfl rfl (by kernel_rfl) (by kernel_rfl) (by kernel_rfl) ?_
 unfold R06_weigh.body at h; unfold bodyOf Try.f31; simp only [ens]
 revert h
 refine gI (fun h1 _ => ?_) (fun h1 _ => ?_)
 ·intro h; obtain rfl := Option.some.inj h
  simp (maxSteps := 10000000) (implicitDefEqProofs := false) (disch := first | with_reducible assumption | exact rfl | exact im_ _ | (fail_if_success show Kn _ _); omega) only [bs, rs31, ls31, Nat.reduceAdd, ↓reduceIte, c31r_0 hrec, lenD_lst u22, lenD_lst u23, lenD_str u9, loadD_iagg a25 z25, loadD_iptr a9, loadD_ptr a22, loadD_ptr a23, loadD_ptr a9]
  refine ⟨by simp, ?_⟩; exact fin_sc rfl rfl rfl rfl
 ·refine gI (fun h2 _ => ?_) (fun h2 _ => ?_)
  ·intro h; obtain rfl := Option.some.inj h
   simp (maxSteps := 10000000) (implicitDefEqProofs := false) (disch := first | with_reducible assumption | exact rfl | exact im_ _ | (fail_if_success show Kn _ _); omega) only [bs, rs31, ls31, Nat.reduceAdd, ↓reduceIte, c31r_0 hrec, lenD_lst u22, lenD_lst u23, lenD_str u9, loadD_iagg a25 z25, loadD_iptr a9, loadD_ptr a22, loadD_ptr a23, loadD_ptr a9]
   refine ⟨by simp, ?_⟩; exact fin_sc rfl rfl rfl rfl
  ·refine gB fun o h9 => ?_
   intro h
   simp (maxSteps := 10000000) (implicitDefEqProofs := false) (disch := first | with_reducible assumption | exact rfl | exact im_ _ | (fail_if_success show Kn _ _); omega) only [bs, rs31, ls31, Nat.reduceAdd, ↓reduceIte, c31r_0 hrec, lenD_lst u22, lenD_lst u23, lenD_str u9, loadD_iagg a25 z25, loadD_iptr a9, loadD_ptr a22, loadD_ptr a23, loadD_ptr a9]
   refine Wp.ctx (fun x => seqW _ _ _ _ (blockW _ (x))) (L31_0_ok hrec x0.Kind x0.Text x0.Gaps x0.Kids (w64 (x1 - (x0.Text.size : Int)), (0 : Int)) _ o (by kernel_rfl) h9) ?_
   intro e st hq
   cases o with
   | next _ => (first | cases h | (simp at h))
   | jmp n_ s_ =>
    obtain ⟨rfl, rfl, hq⟩ := hq
    obtain ⟨s5_10, s6_10⟩ := s_
    unfold F31_0 at hq
    (try simp only [] at h hq)
    revert h
    refine gB fun o h19 => ?_
    intro h
    simp (maxSteps := 10000000) (implicitDefEqProofs := false) (disch := first | with_reducible assumption | exact rfl | exact im_ _ | (fail_if_success show Kn _ _); omega) only [bs, rs31, ls31, Nat.reduceAdd, ↓reduceIte, c31r_0 hrec, lenD_lst u22, lenD_lst u23, lenD_str u9, loadD_iagg a25 z25, loadD_iptr a9, loadD_ptr a22, loadD_ptr a23, loadD_ptr a9, hq]
    refine Wp.ctx (fun x => seqW _ _ _ _ (blockW _ (x))) (L31_1_ok hrec x0.Kind x0.Text x0.Gaps x0.Kids (s5_10, (0 : Int)) _ o (by kernel_rfl) h19) ?_
    intro e st hq
    cases o with
    | next _ => (first | cases h | (simp at h))
    | jmp n_ s_ =>
     obtain ⟨rfl, rfl, hq⟩ := hq
     obtain ⟨s5_20, s7_20⟩ := s_
     unfold F31_1 at hq
     (try simp only [] at h hq)
     revert h
     intro h; obtain rfl := Option.some.inj h
     simp (maxSteps := 10000000) (implicitDefEqProofs := false) (disch := first | with_reducible assumption | exact rfl | exact im_ _ | (fail_if_success show Kn _ _); omega) only [bs, rs31, ls31, Nat.reduceAdd, ↓reduceIte, c31r_0 hrec, lenD_lst u22, lenD_lst u23, lenD_str u9, loadD_iagg a25 z25, loadD_iptr a9, loadD_ptr a22, loadD_ptr a23, loadD_ptr a9, hq, hq]
     refine ⟨by simp, ?_⟩; exact fin_sc rfl rfl rfl rfl
    | ret r21 =>
     obtain ⟨rfl, hq⟩ := hq
     obtain rfl := Option.some.inj h
     simp (maxSteps := 10000000) (implicitDefEqProofs := false) (disch := first | with_reducible assumption | exact rfl | exact im_ _ | (fail_if_success show Kn _ _); omega) only [bs, rs31, ls31, Nat.reduceAdd, ↓reduceIte, c31r_0 hrec, lenD_lst u22, lenD_lst u23, lenD_str u9, loadD_iagg a25 z25, loadD_iptr a9, loadD_ptr a22, loadD_ptr a23, loadD_ptr a9]
     exact ⟨by simp, hq⟩
   | ret r22 =>
    obtain ⟨rfl, hq⟩ := hq
    obtain rfl := Option.some.inj h
    simp (maxSteps := 10000000) (implicitDefEqProofs := false) (disch := first | with_reducible assumption | exact rfl | exact im_ _ | (fail_if_success show Kn _ _); omega) only [bs, rs31, ls31, Nat.reduceAdd, ↓reduceIte, c31r_0 hrec, lenD_lst u22, lenD_lst u23, lenD_str u9, loadD_iagg a25 z25, loadD_iptr a9, loadD_ptr a22, loadD_ptr a23, loadD_ptr a9]
    exact ⟨by simp, hq⟩
theorem f31_spec : ∀ (x0 : Node) (x1 : Int) r, R06_weighS x0 x1 = some r → callW Try.prog A0 31 [.p (.agg (pv_Node x0)), iv x1] [] = some (.p (.v (.int .i64 r)), []) := by
 have key : ∀ n (x0 : Node) (x1 : Int) r, R06_weighS_mu x0 x1 < n → R06_weighS x0 x1 = some r → callW Try.prog A0 31 [.p (.agg (pv_Node x0)), iv x1] [] = some (.p (.v (.int .i64 r)), []) := by
  intro n
  induction n with
  | zero => intro x0 x1 r h; omega
  | succ n ih =>
   intro x0 x1 r hn h
   refine f31_ok (rec := fun x0' x1' => if R06_weighS_mu x0' x1' < R06_weighS_mu x0 x1 then R06_weighS x0' x1' else none) ?_ x0 x1 r (R06_weighS_body x0 x1 r h)
   intro x0' x1' r' h'
   by_cases hm : R06_weighS_mu x0' x1' < R06_weighS_mu x0 x1
   ·rw [if_pos hm] at h'; exact ih x0' x1' r' (by omega) h'
   ·rw [if_neg hm] at h'; cases h'
 intro x0 x1 r h
 exact key _ x0 x1 r (Nat.lt_succ_self _) h
def ls9 := @varlv_4_0_4
theorem c31_1 {H : List Ob} {a1 : Node} {a2 : Int} {r : Int} (h : R06_weighS a1 a2 = some r) : callD (callW Try.prog A0) A0 H 31 [.p (.agg (pv_Node a1)), iv a2] = some (.p (.v (.int .i64 r)), none) :=
 callD_fun (args := [.agg (pv_Node a1), .v (.int .i64 a2)]) rfl rfl rfl (by simp only [List.map_cons, List.map_nil, wk, wks, wkL]; exact f31_spec a1 a2 _ h)
theorem f9_ok  (x0 : Node) (x1 : Int) (x2 : Int) (x3 : Int) (r : Bool) (h : R06_Light x0 x1 x2 x3 = some r) : callW Try.prog A0 9 [.p (.agg (pv_Node x0)), iv x1, iv x2, iv x3] [] = some (.p (.v (.bool r)), []) := by
 refine call_ofI (fn := Try.f9) (c := bodyOf Try.f9) 15 rfl rfl (by kernel_rfl) (by kernel_rfl) (by kernel_rfl) ?_
 unfold R06_Light at h; unfold bodyOf Try.f9; simp only [ens]
 revert h
 repeat' first | (with_reducible refine gB fun _ _ => ?_) | (with_reducible refine gT (fun _ _ => ?_) (fun _ _ => ?_))
 all_goals
  intro h; obtain rfl := Option.some.inj h
  first | (simp (maxSteps := 10000000) (implicitDefEqProofs := false) (disch := first | with_reducible assumption | exact rfl | exact im_ _ | (fail_if_success show Kn _ _); omega) only [bs, rs9, ls9, Nat.reduceAdd, ↓reduceIte, c30_0, c31_1, loadD_pagg a25 z25]; refine ⟨by simp, ?_⟩; exact fin_sc rfl rfl rfl rfl) | (exfalso; omega)
def ls46 := And.intro @ap_23_23 (And.intro @bs_23_1 (And.intro @faP_25_3 (And.intro @idxL_23 (And.intro @lk_frz_25 (And.intro @varld_4_0_3 (@varlv_4_0_4))))))
theorem R06_list_rcall {rec : (List Node) → Node → Option (List Node)} (hrec : ∀ x0 x1 r, rec x0 x1 = some r → callW Try.prog A0 46 [.ref 0 0 x0.length 4, .p (.agg (pv_Node x1))] [.arr (encL en_Node x0)] = some (.ref 1 0 r.length 4, [.dead, .arr (encL en_Node r)])) {H : List Ob} {id n : Nat} {b1 b2 : Bool} {x0 : (List Node)} {x1 : Node} {r : (List Node)} : H[id]? = some (.arr (encL en_Node x0)) → n = x0.length → ∀ (h : rec x0 x1 = some r), callD (callW Try.prog A0) A0 H 46 [.ref id 0 n 4, .p (.agg [.v (.int .i64 x1.Kind), .v (.string x1.Text), .lst b1 x1.Gaps.length (encL en_str x1.Gaps), .lst b2 x1.Kids.length (encL en_Node x1.Kids)])] = some (.ref H.length 0 r.length 4, some (H.set id .dead ++ [.arr (encL en_Node r)])) := by
 intro hid hn h; subst hn; exact callD_mut1 (args := [.agg (pv_Node x1)]) (by simp only [List.map_cons, List.map_nil, wkDv, wk, wks, wkL]) rfl hid (hrec x0 x1 _ h)
theorem c9_0 {H : List Ob} {a1 : Node} {a2 a3 a4 : Int} {r : Bool} (h : R06_Light a1 a2 a3 a4 = some r) : callD (callW Try.prog A0) A0 H 9 [.p (.agg (pv_Node a1)), iv a2, iv a3, iv a4] = some (.p (.v (.bool r)), none) :=
 callD_fun (args := [.agg (pv_Node a1), .v (.int .i64 a2), .v (.int .i64 a3), .v (.int .i64 a4)]) rfl rfl rfl (by simp only [List.map_cons, List.map_nil, wk, wks, wkL]; exact f9_ok a1 a2 a3 a4 _ h)
theorem q46_0 {rec : (List Node) → Node → Option (List Node)} (hrec : ∀ x0 x1 r, rec x0 x1 = some r → callW Try.prog A0 46 [.ref 0 0 x0.length 4, .p (.agg (pv_Node x1))] [.arr (encL en_Node x0)] = some (.ref 1 0 r.length 4, [.dead, .arr (encL en_Node r)])) {a1 : List Node} {a2 : Node} {r9001 : (List Node)} {X2 : Ob} (h9002 : rec a1 a2 = some r9001) : callD (callW Try.prog A0) A0 [.dead, .arr (encL en_Node a1), X2] 46 [.ref 1 0 a1.length 4, .p (.agg (pv_Node a2))] = some (.ref 3 0 r9001.length 4, some [.dead, .dead, X2, .arr (encL en_Node r9001)]) := R06_list_rcall hrec (H := [.dead, .arr (encL en_Node a1), X2]) (id := 1) rfl (by first | rfl | omega) h9002
theorem q46_1 {rec : (List Node) → Node → Option (List Node)} (hrec : ∀ x0 x1 r, rec x0 x1 = some r → callW Try.prog A0 46 [.ref 0 0 x0.length 4, .p (.agg (pv_Node x1))] [.arr (encL en_Node x0)] = some (.ref 1 0 r.length 4, [.dead, .arr (encL en_Node r)])) {a1 : List Node} {a2 : Node} {r9001 : (List Node)} {X1 : Ob} (h9002 : rec a1 a2 = some r9001) : callD (callW Try.prog A0) A0 [.arr (encL en_Node a1), X1] 46 [.ref 0 0 a1.length 4, .p (.agg (pv_Node a2))] = some (.ref 2 0 r9001.length 4, some [.dead, X1, .arr (encL en_Node r9001)]) := R06_list_rcall hrec (H := [.arr (encL en_Node a1), X1]) (id := 0) rfl (by first | rfl | omega) h9002
noncomputable def L46_0 : Code := (loopsOf (bodyOf Try.f46)).getD 0 .skip
def g46_0 : List Ghost := [.keep [0, 3, 5]]
noncomputable def F46_0 (w2_0 : Int) (w2_1 : ByteArray) (w2_2 : (List ByteArray)) (w2_3 : (List Node)) : (Int × (List Node)) → St := fun (s5, y1) => ⟨[.ref 1 0 y1.length 4, J, J, .ptr 2 0, J, iv s5, J, J, J, J, J, J, J, J, J, J, J, J, J, J, J, J, J, J, J], [.dead, .arr (encL en_Node y1), .var [iv w2_0, .p (.v (.string w2_1)), .p (.lst false w2_2.length (encL en_str w2_2)), .p (.lst false w2_3.length (encL en_Node w2_3))]], 1⟩
theorem L46_0_ok {rec : (List Node) → Node → Option (List Node)} (hrec : ∀ x0 x1 r, rec x0 x1 = some r → callW Try.prog A0 46 [.ref 0 0 x0.length 4, .p (.agg (pv_Node x1))] [.arr (encL en_Node x0)] = some (.ref 1 0 r.length 4, [.dead, .arr (encL en_Node r)])) (w2_0 : Int) (w2_1 : ByteArray) (w2_2 : (List ByteArray)) (w2_3 : (List Node)) : ∀ s st o, ghostsD g46_0 st = some (F46_0 w2_0 w2_1 w2_2 w2_3 s) → iter (R06_list_L0 rec w2_0 w2_1 w2_2 w2_3) s = some o →
    Wp (evW Try.prog A0 46 (.loop L46_0) st) (OutQ (F46_0 w2_0 w2_1 w2_2 w2_3) g46_0 (fun n s st => n = 0 ∧ ghostsD [.keep [0, 3, 5]] st = some (F46_0 w2_0 w2_1 w2_2 w2_3 s)) (fun r st => finishD Try.prog A0 46 Try.f46 st = some (.ref 1 0 r.length 4, [.dead, .arr (encL en_Node r)])) o) := by
 refine Wp.iter ?_
 intro s st o hg h
 obtain ⟨s5, y1⟩ := s
 unfold R06_list_L0 at h; unfold g46_0 F46_0 at hg ⊢
 (try simp only [] at h hg)
 unfold L46_0 bodyOf Try.f46; simp only [loopsOf, ens]
 revert h
 repeat' first | (with_reducible refine gR fun _ _ _ _ => ?_) | (with_reducible refine gB fun _ _ => ?_) | (with_reducible refine gI (fun _ _ => ?_) (fun _ _ => ?_))
 all_goals
  intro h; obtain rfl := Option.some.inj h
  first | (simp (maxSteps := 10000000) (implicitDefEqProofs := false) (disch := first | with_reducible assumption | exact rfl | exact im_ _ | (fail_if_success show Kn _ _); omega) only [bs, rs46, ls46, Nat.reduceAdd, ↓reduceIte, lenD_lst u23, loadD_iagg a25 z25, loadD_pagg a25 z25, loadD_ptr a23, own_ref, q46_0 hrec, wksL_en_Node, wksL_en_str, wks_nil_, hg]; first | (exact ⟨(rfl : Ex.normal = Ex.normal), by kernel_rfl⟩) | (exact ⟨(rfl : Ex.exit 0 = Ex.exit 0), rfl, by kernel_rfl⟩)) | (exfalso; omega)
theorem f46_ok {rec : (List Node) → Node → Option (List Node)} (hrec : ∀ x0 x1 r, rec x0 x1 = some r → callW Try.prog A0 46 [.ref 0 0 x0.length 4, .p (.agg (pv_Node x1))] [.arr (encL en_Node x0)] = some (.ref 1 0 r.length 4, [.dead, .arr (encL en_Node r)]))  (x0 : (List Node)) (x1 : Node) (r : (List Node)) (h : R06_list.body rec x0 x1 = some r) : callW Try.prog A0 46 [.ref 0 0 x0.length 4, .p (.agg (pv_Node x1))] [.arr (encL en_Node x0)] = some (.ref 1 0 r.length 4, [.dead, .arr (encL en_Node r)]) := by
 refine call_ofI (fn := Try.f46) (c := bodyOf Try.f46) 23 rfl rfl (by kernel_rfl) (by kernel_rfl) (by kernel_rfl) ?_
 unfold R06_list.body at h; unfold bodyOf Try.f46; simp only [ens]
 revert h
 refine gW fun h2 => ?_
 have h1 : ∀ (H : List Ob) (id : Nat), apOb H id 0 x0.length 1 4 4 72 [.v (.int .i64 x1.Kind), .v (.string x1.Text), .lst false x1.Gaps.length (encL en_str x1.Gaps), .lst false x1.Kids.length (encL en_Node x1.Kids)] (some (.arr (encL en_Node x0))) = some (.ref H.length 0 (x0 ++ [x1]).length 4, H.set id .dead ++ [.arr (encL en_Node (x0 ++ [x1]))]) := fun H id => ap_enc (y := [x1]) en_Node_len (by first | rfl | omega) rfl (by first | (simp only [encL_cons, encL_nil, en_Node_eq, List.cons_append, List.nil_append]; done) | (simp only [encL_cons, encL_nil, en_Node_eq, List.cons_append, List.nil_append]; rfl) | rfl) (by assumption)
 refine gB fun o h10 => ?_
 intro h
 simp (maxSteps := 10000000) (implicitDefEqProofs := false) (disch := first | with_reducible assumption | exact rfl | exact im_ _ | (fail_if_success show Kn _ _); omega) only [bs, rs46, ls46, Nat.reduceAdd, ↓reduceIte, lenD_lst u23, loadD_iagg a25 z25, loadD_pagg a25 z25, loadD_ptr a23, own_ref, q46_0 hrec, wksL_en_Node, wksL_en_str, wks_nil_, h1]
 refine Wp.ctx (fun x => seqW _ _ _ _ (blockW _ (x))) (L46_0_ok hrec x1.Kind x1.Text x1.Gaps x1.Kids ((0 : Int), (x0 ++ [x1])) _ o (by kernel_rfl) h10) ?_
 intro e st hq
 cases o with
 | next _ => (first | cases h | (simp at h))
 | jmp n_ s_ =>
  obtain ⟨rfl, rfl, hq⟩ := hq
  obtain ⟨s5_11, y1_11⟩ := s_
  unfold F46_0 at hq
  (try simp only [] at h hq)
  revert h
  intro h; obtain rfl := Option.some.inj h
  simp (maxSteps := 10000000) (implicitDefEqProofs := false) (disch := first | with_reducible assumption | exact rfl | exact im_ _ | (fail_if_success show Kn _ _); omega) only [bs, rs46, ls46, Nat.reduceAdd, ↓reduceIte, lenD_lst u23, loadD_iagg a25 z25, loadD_pagg a25 z25, loadD_ptr a23, own_ref, q46_0 hrec, wksL_en_Node, wksL_en_str, wks_nil_, h1, hq]
  refine ⟨by simp, ?_⟩; show _ = _; kernel_rfl
 | ret _ => (first | cases h | (simp at h))
def ls46n := And.intro @ap_23_23 (And.intro @bs_23_1 (And.intro @faP_25_3 (And.intro @idxL_23 (And.intro @lk_frz_25 (And.intro @varld_4_0_3 (@varlv_4_0_4))))))
noncomputable def F46n_0 (w1_0 : Int) (w1_1 : ByteArray) (w1_2 : (List ByteArray)) (w1_3 : (List Node)) : (Int × (List Node)) → St := fun (s5, y0) => ⟨[.ref 0 0 y0.length 4, J, J, .ptr 1 0, J, iv s5, J, J, J, J, J, J, J, J, J, J, J, J, J, J, J, J, J, J, J], [.arr (encL en_Node y0), .var [iv w1_0, .p (.v (.string w1_1)), .p (.lst false w1_2.length (encL en_str w1_2)), .p (.lst false w1_3.length (encL en_Node w1_3))]], 0⟩
theorem L46n_0_ok {rec : (List Node) → Node → Option (List Node)} (hrec : ∀ x0 x1 r, rec x0 x1 = some r → callW Try.prog A0 46 [.ref 0 0 x0.length 4, .p (.agg (pv_Node x1))] [.arr (encL en_Node x0)] = some (.ref 1 0 r.length 4, [.dead, .arr (encL en_Node r)])) (w1_0 : Int) (w1_1 : ByteArray) (w1_2 : (List ByteArray)) (w1_3 : (List Node)) : ∀ s st o, ghostsD g46_0 st = some (F46n_0 w1_0 w1_1 w1_2 w1_3 s) → iter (R06_list_L0 rec w1_0 w1_1 w1_2 w1_3) s = some o →
    Wp (evW Try.prog A0 46 (.loop L46_0) st) (OutQ (F46n_0 w1_0 w1_1 w1_2 w1_3) g46_0 (fun n s st => n = 0 ∧ ghostsD [.keep [0, 3, 5]] st = some (F46n_0 w1_0 w1_1 w1_2 w1_3 s)) (fun r st => finishD Try.prog A0 46 Try.f46 st = some (.ref 0 0 r.length 4, [.arr (encL en_Node r)])) o) := by
 refine Wp.iter ?_
 intro s st o hg h
 obtain ⟨s5, y0⟩ := s
 unfold R06_list_L0 at h; unfold g46_0 F46n_0 at hg ⊢
 (try simp only [] at h hg)
 unfold L46_0 bodyOf Try.f46; simp only [loopsOf, ens]
 revert h
 repeat' first | (with_reducible refine gR fun _ _ _ _ => ?_) | (with_reducible refine gB fun _ _ => ?_) | (with_reducible refine gI (fun _ _ => ?_) (fun _ _ => ?_))
 all_goals
  intro h; obtain rfl := Option.some.inj h
  first | (simp (maxSteps := 10000000) (implicitDefEqProofs := false) (disch := first | with_reducible assumption | exact rfl | exact im_ _ | (fail_if_success show Kn _ _); omega) only [bs, rs46, ls46n, Nat.reduceAdd, ↓reduceIte, lenD_lst u23, loadD_iagg a25 z25, loadD_pagg a25 z25, loadD_ptr a23, own_ref, q46_1 hrec, wksL_en_Node, wksL_en_str, wks_nil_, hg]; first | (exact ⟨(rfl : Ex.normal = Ex.normal), by kernel_rfl⟩) | (exact ⟨(rfl : Ex.exit 0 = Ex.exit 0), rfl, by kernel_rfl⟩)) | (exfalso; omega)
theorem f46n_ok {rec : (List Node) → Node → Option (List Node)} (hrec : ∀ x0 x1 r, rec x0 x1 = some r → callW Try.prog A0 46 [.ref 0 0 x0.length 4, .p (.agg (pv_Node x1))] [.arr (encL en_Node x0)] = some (.ref 1 0 r.length 4, [.dead, .arr (encL en_Node r)]))  (x0 : (List Node)) (x1 : Node) (hx0 : x0 = []) (r : (List Node)) (h : R06_list.body rec x0 x1 = some r) : callW Try.prog A0 46 [.p (.lst true 0 []), .p (.agg (pv_Node x1))] [] = some (.ref 0 0 r.length 4, [.arr (encL en_Node r)]) := by
 refine call_ofI (fn := Try.f46) (c := bodyOf Try.f46) 23 rfl rfl (by kernel_rfl) (by kernel_rfl) (by kernel_rfl) ?_
 unfold R06_list.body at h; unfold bodyOf Try.f46; simp only [ens]
 have hown := own_nil' (en := en_Node) hx0 4
 revert h
 refine gW fun h2 => ?_
 have h1 : ∀ (H : List Ob) (id : Nat), apOb H id 0 x0.length 1 4 4 72 [.v (.int .i64 x1.Kind), .v (.string x1.Text), .lst false x1.Gaps.length (encL en_str x1.Gaps), .lst false x1.Kids.length (encL en_Node x1.Kids)] (some (.arr (encL en_Node x0))) = some (.ref H.length 0 (x0 ++ [x1]).length 4, H.set id .dead ++ [.arr (encL en_Node (x0 ++ [x1]))]) := fun H id => ap_enc (y := [x1]) en_Node_len (by first | rfl | omega) rfl (by first | (simp only [encL_cons, encL_nil, en_Node_eq, List.cons_append, List.nil_append]; done) | (simp only [encL_cons, encL_nil, en_Node_eq, List.cons_append, List.nil_append]; rfl) | rfl) (by assumption)
 refine gB fun o h10 => ?_
 intro h
 simp (maxSteps := 10000000) (implicitDefEqProofs := false) (disch := first | with_reducible assumption | exact rfl | exact im_ _ | (fail_if_success show Kn _ _); omega) only [bs, rs46, ls46n, Nat.reduceAdd, ↓reduceIte, lenD_lst u23, loadD_iagg a25 z25, loadD_pagg a25 z25, loadD_ptr a23, own_ref, q46_1 hrec, wksL_en_Node, wksL_en_str, wks_nil_, hown, h1]
 refine Wp.ctx (fun x => seqW _ _ _ _ (blockW _ (x))) (L46n_0_ok hrec x1.Kind x1.Text x1.Gaps x1.Kids ((0 : Int), (x0 ++ [x1])) _ o (by kernel_rfl) h10) ?_
 intro e st hq
 cases o with
 | next _ => (first | cases h | (simp at h))
 | jmp n_ s_ =>
  obtain ⟨rfl, rfl, hq⟩ := hq
  obtain ⟨s5_11, y0_11⟩ := s_
  unfold F46n_0 at hq
  (try simp only [] at h hq)
  revert h
  intro h; obtain rfl := Option.some.inj h
  simp (maxSteps := 10000000) (implicitDefEqProofs := false) (disch := first | with_reducible assumption | exact rfl | exact im_ _ | (fail_if_success show Kn _ _); omega) only [bs, rs46, ls46n, Nat.reduceAdd, ↓reduceIte, lenD_lst u23, loadD_iagg a25 z25, loadD_pagg a25 z25, loadD_ptr a23, own_ref, q46_1 hrec, wksL_en_Node, wksL_en_str, wks_nil_, hown, h1, hq]
  refine ⟨by simp, ?_⟩; show _ = _; kernel_rfl
 | ret _ => (first | cases h | (simp at h))
theorem f46_spec : ∀ (x0 : (List Node)) (x1 : Node) r, R06_listS x0 x1 = some r → callW Try.prog A0 46 [.ref 0 0 x0.length 4, .p (.agg (pv_Node x1))] [.arr (encL en_Node x0)] = some (.ref 1 0 r.length 4, [.dead, .arr (encL en_Node r)]) := by
 have key : ∀ n (x0 : (List Node)) (x1 : Node) r, R06_listS_mu x0 x1 < n → R06_listS x0 x1 = some r → callW Try.prog A0 46 [.ref 0 0 x0.length 4, .p (.agg (pv_Node x1))] [.arr (encL en_Node x0)] = some (.ref 1 0 r.length 4, [.dead, .arr (encL en_Node r)]) := by
  intro n
  induction n with
  | zero => intro x0 x1 r h; omega
  | succ n ih =>
   intro x0 x1 r hn h
   refine f46_ok (rec := fun x0' x1' => if R06_listS_mu x0' x1' < R06_listS_mu x0 x1 then R06_listS x0' x1' else none) ?_ x0 x1 r (R06_listS_body x0 x1 r h)
   intro x0' x1' r' h'
   by_cases hm : R06_listS_mu x0' x1' < R06_listS_mu x0 x1
   ·rw [if_pos hm] at h'; exact ih x0' x1' r' (by omega) h'
   ·rw [if_neg hm] at h'; cases h'
 intro x0 x1 r h
 exact key _ x0 x1 r (Nat.lt_succ_self _) h
theorem f46n_spec (x1 : Node) r (h : R06_listS ([] : List Node) x1 = some r) : callW Try.prog A0 46 [.p (.lst true 0 []), .p (.agg (pv_Node x1))] [] = some (.ref 0 0 r.length 4, [.arr (encL en_Node r)]) := by
 refine f46n_ok (rec := fun x0' x1' => if R06_listS_mu x0' x1' < R06_listS_mu ([] : List Node) x1 then R06_listS x0' x1' else none) ?_ ([] : List Node) x1 rfl r (R06_listS_body ([] : List Node) x1 r h)
 intro x0' x1' r' h'
 by_cases hm : R06_listS_mu x0' x1' < R06_listS_mu ([] : List Node) x1
 ·rw [if_pos hm] at h'; exact f46_spec x0' x1' r' h'
 ·rw [if_neg hm] at h'; cases h'
theorem R06_list_calln {b1 b2 : Bool} {H : List Ob} {x1 : Node} {r : (List Node)} (h : R06_listS ([] : List Node) x1 = some r) : callD (callW Try.prog A0) A0 H 46 [.p (.lst true 0 []), .p (.agg [.v (.int .i64 x1.Kind), .v (.string x1.Text), .lst b1 x1.Gaps.length (encL en_str x1.Gaps), .lst b2 x1.Kids.length (encL en_Node x1.Kids)])] = some (.ref H.length 0 r.length 4, some (H ++ [.arr (encL en_Node r)])) :=
 callD_mut0 (args := [.lst true 0 [], .agg (pv_Node x1)]) (by simp only [List.map_cons, List.map_nil, wkDv, wk, wks, wkL]) rfl (f46n_spec x1 _ h)
def ls22 := @varlv_4_0_4
theorem q46_2 {a1 : Node} {H : List Ob} {r9001 : (List Node)} (h9002 : R06_listS ([] : List Node) a1 = some r9001) : callD (callW Try.prog A0) A0 H 46 [.p (.lst true 0 []), .p (.agg (pv_Node a1))] = some (.ref H.length 0 r9001.length 4, some (H ++ [.arr (encL en_Node r9001)])) := R06_list_calln (H := H) h9002
theorem f22_ok  (x0 : Node) (r : (List Node)) (h : R06_List x0 = some r) : callW Try.prog A0 22 [.p (.agg (pv_Node x0))] [] = some (.p (.lst false r.length (encL en_Node r)), []) := by
 refine call_ofI (fn := Try.f22) (c := bodyOf Try.f22) 6 rfl rfl (by kernel_rfl) (by kernel_rfl) (by kernel_rfl) ?_
 unfold R06_List at h; unfold bodyOf Try.f22; simp only [ens]
 revert h
 repeat' (with_reducible refine gB fun _ _ => ?_)
 intro h; obtain rfl := Option.some.inj h
 simp (maxSteps := 10000000) (implicitDefEqProofs := false) (disch := first | with_reducible assumption | exact rfl | exact im_ _ | (fail_if_success show Kn _ _); omega) only [bs, rs22, ls22, Nat.reduceAdd, ↓reduceIte, loadD_pagg a25 z25, q46_2]
 refine ⟨by simp, ?_⟩; exact finish_is (l := [1]) rfl rfl rfl (purify1_enc en_Node_len rfl (by first | rfl | omega | simp)) (by first | rfl | (simp only [wk, wks, wkL]; first | done | rfl))
def ls38 := And.intro @al_25 (And.intro @ap_23_23 (And.intro @bs_23_1 (And.intro @faP_25_3 (And.intro @idxL_23 (And.intro @lk_frz_25 (And.intro @sa_4_0_4 (And.intro @varld_4_0_3 (@varlv_4_0_4))))))))
theorem hash_parts_rcall {rec : (List Node) → Node → Option (List Node)} (hrec : ∀ x0 x1 r, rec x0 x1 = some r → callW Try.prog A0 38 [.ref 0 0 x0.length 4, .p (.agg (pv_Node x1))] [.arr (encL en_Node x0)] = some (.ref 1 0 r.length 4, [.dead, .arr (encL en_Node r)])) {H : List Ob} {id n : Nat} {b1 b2 : Bool} {x0 : (List Node)} {x1 : Node} {r : (List Node)} : H[id]? = some (.arr (encL en_Node x0)) → n = x0.length → ∀ (h : rec x0 x1 = some r), callD (callW Try.prog A0) A0 H 38 [.ref id 0 n 4, .p (.agg [.v (.int .i64 x1.Kind), .v (.string x1.Text), .lst b1 x1.Gaps.length (encL en_str x1.Gaps), .lst b2 x1.Kids.length (encL en_Node x1.Kids)])] = some (.ref H.length 0 r.length 4, some (H.set id .dead ++ [.arr (encL en_Node r)])) := by
 intro hid hn h; subst hn; exact callD_mut1 (args := [.agg (pv_Node x1)]) (by simp only [List.map_cons, List.map_nil, wkDv, wk, wks, wkL]) rfl hid (hrec x0 x1 _ h)
theorem c22_0 {H : List Ob} {a1 : Node} {r : (List Node)} (h : R06_List a1 = some r) : callD (callW Try.prog A0) A0 H 22 [.p (.agg (pv_Node a1))] = some (.p (.lst false r.length (encL en_Node r)), none) :=
 callD_fun (args := [.agg (pv_Node a1)]) rfl rfl rfl (by simp only [List.map_cons, List.map_nil, wk, wks, wkL]; exact f22_ok a1 _ h)
theorem q38_0 {rec : (List Node) → Node → Option (List Node)} (hrec : ∀ x0 x1 r, rec x0 x1 = some r → callW Try.prog A0 38 [.ref 0 0 x0.length 4, .p (.agg (pv_Node x1))] [.arr (encL en_Node x0)] = some (.ref 1 0 r.length 4, [.dead, .arr (encL en_Node r)])) {a1 : List Node} {a2 : Node} {r9001 : (List Node)} {X2 : Ob} (h9002 : rec a1 a2 = some r9001) : callD (callW Try.prog A0) A0 [.dead, .arr (encL en_Node a1), X2] 38 [.ref 1 0 a1.length 4, .p (.agg (pv_Node a2))] = some (.ref 3 0 r9001.length 4, some [.dead, .dead, X2, .arr (encL en_Node r9001)]) := hash_parts_rcall hrec (H := [.dead, .arr (encL en_Node a1), X2]) (id := 1) rfl (by first | rfl | omega) h9002
theorem q38_1 {rec : (List Node) → Node → Option (List Node)} (hrec : ∀ x0 x1 r, rec x0 x1 = some r → callW Try.prog A0 38 [.ref 0 0 x0.length 4, .p (.agg (pv_Node x1))] [.arr (encL en_Node x0)] = some (.ref 1 0 r.length 4, [.dead, .arr (encL en_Node r)])) {a1 : List Node} {a2 : Node} {r9001 : (List Node)} {X1 : Ob} (h9002 : rec a1 a2 = some r9001) : callD (callW Try.prog A0) A0 [.arr (encL en_Node a1), X1] 38 [.ref 0 0 a1.length 4, .p (.agg (pv_Node a2))] = some (.ref 2 0 r9001.length 4, some [.dead, X1, .arr (encL en_Node r9001)]) := hash_parts_rcall hrec (H := [.arr (encL en_Node a1), X1]) (id := 0) rfl (by first | rfl | omega) h9002
noncomputable def L38_0 : Code := (loopsOf (bodyOf Try.f38)).getD 0 .skip
def g38_0 : List Ghost := [.weak [12], .keep [0, 12, 13, 14]]
noncomputable def F38_0 (s12 : (List Node)) (s13 : Int) : (Int × (List Node)) → St := fun (s14, y1) => ⟨[.ref 1 0 y1.length 4, J, J, J, J, J, J, J, J, J, J, J, .p (.lst false s12.length (encL en_Node s12)), iv s13, iv s14, J, J, J, J, J, J, J, J], [.dead, .arr (encL en_Node y1)], 1⟩
theorem L38_0_ok {rec : (List Node) → Node → Option (List Node)} (hrec : ∀ x0 x1 r, rec x0 x1 = some r → callW Try.prog A0 38 [.ref 0 0 x0.length 4, .p (.agg (pv_Node x1))] [.arr (encL en_Node x0)] = some (.ref 1 0 r.length 4, [.dead, .arr (encL en_Node r)])) (s12 : (List Node)) (s13 : Int) : ∀ s st o, ghostsD g38_0 st = some (F38_0 s12 s13 s) → iter (hash_parts_L0 rec s12 s13) s = some o →
    Wp (evW Try.prog A0 38 (.loop L38_0) st) (OutQ (F38_0 s12 s13) g38_0 (fun n s st => n = 0 ∧ ghostsD [.keep [0, 12, 13, 14]] st = some (F38_0 s12 s13 s)) (fun r st => finishD Try.prog A0 38 Try.f38 st = some (.ref 1 0 r.length 4, [.dead, .arr (encL en_Node r)])) o) := by
 refine Wp.iter ?_
 intro s st o hg h
 obtain ⟨s14, y1⟩ := s
 unfold hash_parts_L0 at h; unfold g38_0 F38_0 at hg ⊢
 (try simp only [] at h hg)
 unfold L38_0 bodyOf Try.f38; simp only [loopsOf, ens]
 revert h
 repeat' first | (with_reducible refine gR fun _ _ _ _ => ?_) | (with_reducible refine gB fun _ _ => ?_) | (with_reducible refine gI (fun _ _ => ?_) (fun _ _ => ?_))
 all_goals
  intro h; obtain rfl := Option.some.inj h
  first | (simp (maxSteps := 10000000) (implicitDefEqProofs := false) (disch := first | with_reducible assumption | exact rfl | exact im_ _ | (fail_if_success show Kn _ _); omega) only [bs, rs38, ls38, Nat.reduceAdd, ↓reduceIte, lenD_lst u23, loadD_iagg a25 z25, loadD_pagg a25 z25, loadD_ptr a23, own_ref, q38_0 hrec, storeD_agg z25, wksL_en_Node, wksL_en_str, wks_nil_, hg]; first | (exact ⟨(rfl : Ex.normal = Ex.normal), by kernel_rfl⟩) | (exact ⟨(rfl : Ex.exit 0 = Ex.exit 0), rfl, by kernel_rfl⟩)) | (exfalso; omega)
theorem f38_ok {rec : (List Node) → Node → Option (List Node)} (hrec : ∀ x0 x1 r, rec x0 x1 = some r → callW Try.prog A0 38 [.ref 0 0 x0.length 4, .p (.agg (pv_Node x1))] [.arr (encL en_Node x0)] = some (.ref 1 0 r.length 4, [.dead, .arr (encL en_Node r)]))  (x0 : (List Node)) (x1 : Node) (r : (List Node)) (h : hash_parts.body rec x0 x1 = some r) : callW Try.prog A0 38 [.ref 0 0 x0.length 4, .p (.agg (pv_Node x1))] [.arr (encL en_Node x0)] = some (.ref 1 0 r.length 4, [.dead, .arr (encL en_Node r)]) := by
 refine call_ofI (fn := Try.f38) (c := bodyOf Try.f38) 21 rfl rfl (by kernel_rfl) (by kernel_rfl) (by kernel_rfl) ?_
 unfold hash_parts.body at h; unfold bodyOf Try.f38; simp only [ens]
 revert h
 refine gW fun h2 => ?_
 have h1 : ∀ (H : List Ob) (id : Nat), apOb H id 0 x0.length 1 4 4 72 [.v (.int .i64 x1.Kind), .v (.string x1.Text), .lst false x1.Gaps.length (encL en_str x1.Gaps), .lst false x1.Kids.length (encL en_Node x1.Kids)] (some (.arr (encL en_Node x0))) = some (.ref H.length 0 (x0 ++ [x1]).length 4, H.set id .dead ++ [.arr (encL en_Node (x0 ++ [x1]))]) := fun H id => ap_enc (y := [x1]) en_Node_len (by first | rfl | omega) rfl (by first | (simp only [encL_cons, encL_nil, en_Node_eq, List.cons_append, List.nil_append]; done) | (simp only [encL_cons, encL_nil, en_Node_eq, List.cons_append, List.nil_append]; rfl) | rfl) (by assumption)
 refine gB fun o h10 => ?_
 intro h
 simp (maxSteps := 10000000) (implicitDefEqProofs := false) (disch := first | with_reducible assumption | exact rfl | exact im_ _ | (fail_if_success show Kn _ _); omega) only [bs, rs38, ls38, Nat.reduceAdd, ↓reduceIte, lenD_lst u23, loadD_iagg a25 z25, loadD_pagg a25 z25, loadD_ptr a23, own_ref, q38_0 hrec, storeD_agg z25, wksL_en_Node, wksL_en_str, wks_nil_, h1]
 refine Wp.ctx (fun x => seqW _ _ _ _ (blockW _ (x))) (L38_0_ok hrec x1.Kids (x1.Kids.length : Int) ((0 : Int), (x0 ++ [x1])) _ o (by kernel_rfl) h10) ?_
 intro e st hq
 cases o with
 | next _ => (first | cases h | (simp at h))
 | jmp n_ s_ =>
  obtain ⟨rfl, rfl, hq⟩ := hq
  obtain ⟨s14_11, y1_11⟩ := s_
  unfold F38_0 at hq
  (try simp only [] at h hq)
  revert h
  intro h; obtain rfl := Option.some.inj h
  simp (maxSteps := 10000000) (implicitDefEqProofs := false) (disch := first | with_reducible assumption | exact rfl | exact im_ _ | (fail_if_success show Kn _ _); omega) only [bs, rs38, ls38, Nat.reduceAdd, ↓reduceIte, lenD_lst u23, loadD_iagg a25 z25, loadD_pagg a25 z25, loadD_ptr a23, own_ref, q38_0 hrec, storeD_agg z25, wksL_en_Node, wksL_en_str, wks_nil_, h1, hq]
  refine ⟨by simp, ?_⟩; show _ = _; kernel_rfl
 | ret _ => (first | cases h | (simp at h))
def ls38n := And.intro @al_25 (And.intro @ap_23_23 (And.intro @bs_23_1 (And.intro @faP_25_3 (And.intro @idxL_23 (And.intro @lk_frz_25 (And.intro @sa_4_0_4 (And.intro @varld_4_0_3 (@varlv_4_0_4))))))))
noncomputable def F38n_0 (s12 : (List Node)) (s13 : Int) : (Int × (List Node)) → St := fun (s14, y0) => ⟨[.ref 0 0 y0.length 4, J, J, J, J, J, J, J, J, J, J, J, .p (.lst false s12.length (encL en_Node s12)), iv s13, iv s14, J, J, J, J, J, J, J, J], [.arr (encL en_Node y0)], 0⟩
theorem L38n_0_ok {rec : (List Node) → Node → Option (List Node)} (hrec : ∀ x0 x1 r, rec x0 x1 = some r → callW Try.prog A0 38 [.ref 0 0 x0.length 4, .p (.agg (pv_Node x1))] [.arr (encL en_Node x0)] = some (.ref 1 0 r.length 4, [.dead, .arr (encL en_Node r)])) (s12 : (List Node)) (s13 : Int) : ∀ s st o, ghostsD g38_0 st = some (F38n_0 s12 s13 s) → iter (hash_parts_L0 rec s12 s13) s = some o →
    Wp (evW Try.prog A0 38 (.loop L38_0) st) (OutQ (F38n_0 s12 s13) g38_0 (fun n s st => n = 0 ∧ ghostsD [.keep [0, 12, 13, 14]] st = some (F38n_0 s12 s13 s)) (fun r st => finishD Try.prog A0 38 Try.f38 st = some (.ref 0 0 r.length 4, [.arr (encL en_Node r)])) o) := by
 refine Wp.iter ?_
 intro s st o hg h
 obtain ⟨s14, y0⟩ := s
 unfold hash_parts_L0 at h; unfold g38_0 F38n_0 at hg ⊢
 (try simp only [] at h hg)
 unfold L38_0 bodyOf Try.f38; simp only [loopsOf, ens]
 revert h
 repeat' first | (with_reducible refine gR fun _ _ _ _ => ?_) | (with_reducible refine gB fun _ _ => ?_) | (with_reducible refine gI (fun _ _ => ?_) (fun _ _ => ?_))
 all_goals
  intro h; obtain rfl := Option.some.inj h
  first | (simp (maxSteps := 10000000) (implicitDefEqProofs := false) (disch := first | with_reducible assumption | exact rfl | exact im_ _ | (fail_if_success show Kn _ _); omega) only [bs, rs38, ls38n, Nat.reduceAdd, ↓reduceIte, lenD_lst u23, loadD_iagg a25 z25, loadD_pagg a25 z25, loadD_ptr a23, own_ref, q38_1 hrec, storeD_agg z25, wksL_en_Node, wksL_en_str, wks_nil_, hg]; first | (exact ⟨(rfl : Ex.normal = Ex.normal), by kernel_rfl⟩) | (exact ⟨(rfl : Ex.exit 0 = Ex.exit 0), rfl, by kernel_rfl⟩)) | (exfalso; omega)
theorem f38n_ok {rec : (List Node) → Node → Option (List Node)} (hrec : ∀ x0 x1 r, rec x0 x1 = some r → callW Try.prog A0 38 [.ref 0 0 x0.length 4, .p (.agg (pv_Node x1))] [.arr (encL en_Node x0)] = some (.ref 1 0 r.length 4, [.dead, .arr (encL en_Node r)]))  (x0 : (List Node)) (x1 : Node) (hx0 : x0 = []) (r : (List Node)) (h : hash_parts.body rec x0 x1 = some r) : callW Try.prog A0 38 [.p (.lst true 0 []), .p (.agg (pv_Node x1))] [] = some (.ref 0 0 r.length 4, [.arr (encL en_Node r)]) := by
 refine call_ofI (fn := Try.f38) (c := bodyOf Try.f38) 21 rfl rfl (by kernel_rfl) (by kernel_rfl) (by kernel_rfl) ?_
 unfold hash_parts.body at h; unfold bodyOf Try.f38; simp only [ens]
 have hown := own_nil' (en := en_Node) hx0 4
 revert h
 refine gW fun h2 => ?_
 have h1 : ∀ (H : List Ob) (id : Nat), apOb H id 0 x0.length 1 4 4 72 [.v (.int .i64 x1.Kind), .v (.string x1.Text), .lst false x1.Gaps.length (encL en_str x1.Gaps), .lst false x1.Kids.length (encL en_Node x1.Kids)] (some (.arr (encL en_Node x0))) = some (.ref H.length 0 (x0 ++ [x1]).length 4, H.set id .dead ++ [.arr (encL en_Node (x0 ++ [x1]))]) := fun H id => ap_enc (y := [x1]) en_Node_len (by first | rfl | omega) rfl (by first | (simp only [encL_cons, encL_nil, en_Node_eq, List.cons_append, List.nil_append]; done) | (simp only [encL_cons, encL_nil, en_Node_eq, List.cons_append, List.nil_append]; rfl) | rfl) (by assumption)
 refine gB fun o h10 => ?_
 intro h
 simp (maxSteps := 10000000) (implicitDefEqProofs := false) (disch := first | with_reducible assumption | exact rfl | exact im_ _ | (fail_if_success show Kn _ _); omega) only [bs, rs38, ls38n, Nat.reduceAdd, ↓reduceIte, lenD_lst u23, loadD_iagg a25 z25, loadD_pagg a25 z25, loadD_ptr a23, own_ref, q38_1 hrec, storeD_agg z25, wksL_en_Node, wksL_en_str, wks_nil_, hown, h1]
 refine Wp.ctx (fun x => seqW _ _ _ _ (blockW _ (x))) (L38n_0_ok hrec x1.Kids (x1.Kids.length : Int) ((0 : Int), (x0 ++ [x1])) _ o (by kernel_rfl) h10) ?_
 intro e st hq
 cases o with
 | next _ => (first | cases h | (simp at h))
 | jmp n_ s_ =>
  obtain ⟨rfl, rfl, hq⟩ := hq
  obtain ⟨s14_11, y0_11⟩ := s_
  unfold F38n_0 at hq
  (try simp only [] at h hq)
  revert h
  intro h; obtain rfl := Option.some.inj h
  simp (maxSteps := 10000000) (implicitDefEqProofs := false) (disch := first | with_reducible assumption | exact rfl | exact im_ _ | (fail_if_success show Kn _ _); omega) only [bs, rs38, ls38n, Nat.reduceAdd, ↓reduceIte, lenD_lst u23, loadD_iagg a25 z25, loadD_pagg a25 z25, loadD_ptr a23, own_ref, q38_1 hrec, storeD_agg z25, wksL_en_Node, wksL_en_str, wks_nil_, hown, h1, hq]
  refine ⟨by simp, ?_⟩; show _ = _; kernel_rfl
 | ret _ => (first | cases h | (simp at h))
theorem f38_spec : ∀ (x0 : (List Node)) (x1 : Node) r, hash_partsS x0 x1 = some r → callW Try.prog A0 38 [.ref 0 0 x0.length 4, .p (.agg (pv_Node x1))] [.arr (encL en_Node x0)] = some (.ref 1 0 r.length 4, [.dead, .arr (encL en_Node r)]) := by
 have key : ∀ n (x0 : (List Node)) (x1 : Node) r, hash_partsS_mu x0 x1 < n → hash_partsS x0 x1 = some r → callW Try.prog A0 38 [.ref 0 0 x0.length 4, .p (.agg (pv_Node x1))] [.arr (encL en_Node x0)] = some (.ref 1 0 r.length 4, [.dead, .arr (encL en_Node r)]) := by
  intro n
  induction n with
  | zero => intro x0 x1 r h; omega
  | succ n ih =>
   intro x0 x1 r hn h
   refine f38_ok (rec := fun x0' x1' => if hash_partsS_mu x0' x1' < hash_partsS_mu x0 x1 then hash_partsS x0' x1' else none) ?_ x0 x1 r (hash_partsS_body x0 x1 r h)
   intro x0' x1' r' h'
   by_cases hm : hash_partsS_mu x0' x1' < hash_partsS_mu x0 x1
   ·rw [if_pos hm] at h'; exact ih x0' x1' r' (by omega) h'
   ·rw [if_neg hm] at h'; cases h'
 intro x0 x1 r h
 exact key _ x0 x1 r (Nat.lt_succ_self _) h
theorem f38n_spec (x1 : Node) r (h : hash_partsS ([] : List Node) x1 = some r) : callW Try.prog A0 38 [.p (.lst true 0 []), .p (.agg (pv_Node x1))] [] = some (.ref 0 0 r.length 4, [.arr (encL en_Node r)]) := by
 refine f38n_ok (rec := fun x0' x1' => if hash_partsS_mu x0' x1' < hash_partsS_mu ([] : List Node) x1 then hash_partsS x0' x1' else none) ?_ ([] : List Node) x1 rfl r (hash_partsS_body ([] : List Node) x1 r h)
 intro x0' x1' r' h'
 by_cases hm : hash_partsS_mu x0' x1' < hash_partsS_mu ([] : List Node) x1
 ·rw [if_pos hm] at h'; exact f38_spec x0' x1' r' h'
 ·rw [if_neg hm] at h'; cases h'
theorem hash_parts_calln {b1 b2 : Bool} {H : List Ob} {x1 : Node} {r : (List Node)} (h : hash_partsS ([] : List Node) x1 = some r) : callD (callW Try.prog A0) A0 H 38 [.p (.lst true 0 []), .p (.agg [.v (.int .i64 x1.Kind), .v (.string x1.Text), .lst b1 x1.Gaps.length (encL en_str x1.Gaps), .lst b2 x1.Kids.length (encL en_Node x1.Kids)])] = some (.ref H.length 0 r.length 4, some (H ++ [.arr (encL en_Node r)])) :=
 callD_mut0 (args := [.lst true 0 [], .agg (pv_Node x1)]) (by simp only [List.map_cons, List.map_nil, wkDv, wk, wks, wkL]) rfl (f38n_spec x1 _ h)
def ls34 := And.intro @faP_25_1 (@varld_4_0_1)
theorem f34_ok  (x0 : Node) (r : ByteArray) (h : hash_Exact_c1 x0 = some r) : callW Try.prog A0 34 [.p (.agg (pv_Node x0))] [] = some (.p (.v (.string r)), []) := by
 refine call_ofI (fn := Try.f34) (c := bodyOf Try.f34) 4 rfl rfl (by kernel_rfl) (by kernel_rfl) (by kernel_rfl) ?_
 unfold hash_Exact_c1 at h; unfold bodyOf Try.f34; simp only [ens]
 revert h
 intro h; obtain rfl := Option.some.inj h
 simp (maxSteps := 10000000) (implicitDefEqProofs := false) (disch := first | with_reducible assumption | exact rfl | exact im_ _ | (fail_if_success show Kn _ _); omega) only [bs, rs34, ls34, Nat.reduceAdd, ↓reduceIte, loadD_ptr a9]
 refine ⟨by simp, ?_⟩; exact fin_sc rfl rfl rfl rfl
def ls61 := @cv_5_50
theorem c34_0 {H : List Ob} {a1 : Node} {r : ByteArray} (h : hash_Exact_c1 a1 = some r) : callD (callW Try.prog A0) A0 H 34 [.p (.agg (pv_Node a1))] = some (.p (.v (.string r)), none) :=
 callD_fun (args := [.agg (pv_Node a1)]) rfl rfl rfl (by simp only [List.map_cons, List.map_nil, wk, wks, wkL]; exact f34_ok a1 _ h)
theorem f61_ok  (x0 : Int) (x1 : Int) (r : Int) (h : digest_add x0 x1 = some r) : callW Try.prog A0 61 [.p (.v (.int .u64 x0)), .p (.v (.int .u8 x1))] [] = some (.p (.v (.int .u64 r)), []) := by
 refine call_ofI (fn := Try.f61) (c := bodyOf Try.f61) 8 rfl rfl (by kernel_rfl) (by kernel_rfl) (by kernel_rfl) ?_
 unfold digest_add at h; unfold bodyOf Try.f61; simp only [ens]
 revert h
 intro h; obtain rfl := Option.some.inj h
 simp (maxSteps := 10000000) (implicitDefEqProofs := false) (disch := first | with_reducible assumption | exact rfl | exact im_ _ | (fail_if_success show Kn _ _); omega) only [bs, rs61, ls61, Nat.reduceAdd, ↓reduceIte, binD_mul_k (k := .u64), binD_xor_k]
 refine ⟨by simp, ?_⟩; exact fin_sc rfl rfl rfl rfl
theorem c61_0 {H : List Ob} {a1 a2 : Int} {r : Int} (h : digest_add a1 a2 = some r) : callD (callW Try.prog A0) A0 H 61 [.p (.v (.int .u64 a1)), .p (.v (.int .u8 a2))] = some (.p (.v (.int .u64 r)), none) :=
 callD_fun (args := [.v (.int .u64 a1), .v (.int .u8 a2)]) rfl rfl rfl (by simp only [List.map_cons, List.map_nil, wk, wks, wkL]; exact f61_ok a1 a2 _ h)
noncomputable def L50_0 : Code := (loopsOf (bodyOf Try.f50)).getD 0 .skip
def g50_0 : List Ghost := [.keep [0, 3, 6, 7]]
noncomputable def F50_0 (s0 : ByteArray) (s6 : Int) : (Int × Int) → St := fun (s3, s7) => ⟨[.p (.v (.string s0)), J, J, .p (.v (.int .u64 s3)), J, J, iv s6, iv s7, J, J, J, J, J, J, J, J, J], [], 0⟩
theorem L50_0_ok (s0 : ByteArray) (s6 : Int) : ∀ s st o, ghostsD g50_0 st = some (F50_0 s0 s6 s) → iter (digest_Sum_L0 s0 s6) s = some o →
    Wp (evW Try.prog A0 50 (.loop L50_0) st) (OutQ (F50_0 s0 s6) g50_0 (fun n s st => n = 0 ∧ ghostsD [.keep [0, 3, 6, 7]] st = some (F50_0 s0 s6 s)) (fun r st => finishD Try.prog A0 50 Try.f50 st = some (.p (.v (.int .u64 r)), [])) o) := by
 refine Wp.iter ?_
 intro s st o hg h
 obtain ⟨s3, s7⟩ := s
 unfold digest_Sum_L0 at h; unfold g50_0 F50_0 at hg ⊢
 (try simp only [] at h hg)
 unfold L50_0 bodyOf Try.f50; simp only [loopsOf, ens]
 revert h
 repeat' first | (with_reducible refine gB fun _ _ => ?_) | (with_reducible refine gI (fun _ _ => ?_) (fun _ _ => ?_))
 all_goals
  intro h; obtain rfl := Option.some.inj h
  first | (simp (maxSteps := 10000000) (implicitDefEqProofs := false) (disch := first | with_reducible assumption | exact rfl | exact im_ _ | (fail_if_success show Kn _ _); omega) only [bs, rs50, Nat.reduceAdd, ↓reduceIte, c61_0, indexD_str Try.underlying9, lenD_str u9, hg]; first | (exact ⟨(rfl : Ex.normal = Ex.normal), by kernel_rfl⟩) | (exact ⟨(rfl : Ex.exit 0 = Ex.exit 0), rfl, by kernel_rfl⟩)) | (exfalso; omega)
theorem f50_ok  (x0 : ByteArray) (r : Int) (h : digest_Sum x0 = some r) : callW Try.prog A0 50 [.p (.v (.string x0))] [] = some (.p (.v (.int .u64 r)), []) := by
 refine call_ofI (fn := Try.f50) (c := bodyOf Try.f50) 16 rfl rfl (by kernel_rfl) (by kernel_rfl) (by kernel_rfl) ?_
 unfold digest_Sum at h; unfold bodyOf Try.f50; simp only [ens]
 revert h
 refine gB fun o h8 => ?_
 intro h
 simp (maxSteps := 10000000) (implicitDefEqProofs := false) (disch := first | with_reducible assumption | exact rfl | exact im_ _ | (fail_if_success show Kn _ _); omega) only [bs, rs50, Nat.reduceAdd, ↓reduceIte, c61_0, indexD_str Try.underlying9, lenD_str u9]
 refine Wp.ctx (fun x => seqW _ _ _ _ (blockW _ (x))) (L50_0_ok x0 (x0.size : Int) ((14695981039346656037 : Int), (0 : Int)) _ o (by kernel_rfl) h8) ?_
 intro e st hq
 cases o with
 | next _ => (first | cases h | (simp at h))
 | jmp n_ s_ =>
  obtain ⟨rfl, rfl, hq⟩ := hq
  obtain ⟨s3_9, s7_9⟩ := s_
  unfold F50_0 at hq
  (try simp only [] at h hq)
  revert h
  intro h; obtain rfl := Option.some.inj h
  simp (maxSteps := 10000000) (implicitDefEqProofs := false) (disch := first | with_reducible assumption | exact rfl | exact im_ _ | (fail_if_success show Kn _ _); omega) only [bs, rs50, Nat.reduceAdd, ↓reduceIte, c61_0, indexD_str Try.underlying9, lenD_str u9, hq]
  refine ⟨by simp, ?_⟩; exact fin_sc rfl rfl rfl rfl
 | ret _ => (first | cases h | (simp at h))
def ls49 := And.intro @bu_89_0_1 (And.intro @cv_3_87 (@cv_50_5))
theorem c50_0 {H : List Ob} {a1 : ByteArray} {r : Int} (h : digest_Sum a1 = some r) : callD (callW Try.prog A0) A0 H 50 [.p (.v (.string a1))] = some (.p (.v (.int .u64 r)), none) :=
 callD_fun (args := [.v (.string a1)]) rfl rfl rfl (by simp only [List.map_cons, List.map_nil, wk, wks, wkL]; exact f50_ok a1 _ h)
noncomputable def L49_1 : Code := (loopsOf (bodyOf Try.f49)).getD 1 .skip
def g49_1 : List Ghost := [.keep [5, 7, 8, 11, 12]]
noncomputable def F49_1 (s7 : Int) (a11_0 : Int) (a11_1 : Int) (s12 : Int) : (Int × Int) → St := fun (s5, s8) => ⟨[J, J, J, J, J, .p (.v (.int .u64 s5)), J, .p (.v (.int .u64 s7)), iv s8, J, J, .p (.agg [.v (.int .u64 a11_0), .v (.int .u64 a11_1)]), iv s12, J, J, J, J, J, J, J, J, J, J, J, J, J, J, J], [], 0⟩
theorem L49_1_ok (s7 : Int) (a11_0 : Int) (a11_1 : Int) (s12 : Int) : ∀ s st o, ghostsD g49_1 st = some (F49_1 s7 a11_0 a11_1 s12 s) → iter (digest_Mix_L1 s7 a11_0 a11_1 s12) s = some o →
    Wp (evW Try.prog A0 49 (.loop L49_1) st) (OutQ (F49_1 s7 a11_0 a11_1 s12) g49_1 (fun n s st => n = 2 ∧ ghostsD [.keep [5, 7, 8, 11, 12]] st = some (F49_1 s7 a11_0 a11_1 s12 s)) (fun r st => finishD Try.prog A0 49 Try.f49 st = some (.p (.v (.int .u64 r)), [])) o) := by
 refine Wp.iter ?_
 intro s st o hg h
 obtain ⟨s5, s8⟩ := s
 unfold digest_Mix_L1 at h; unfold g49_1 F49_1 at hg ⊢
 (try simp only [] at h hg)
 unfold L49_1 bodyOf Try.f49; simp only [loopsOf, ens]
 revert h
 repeat' first | (with_reducible refine gB fun _ _ => ?_) | (with_reducible refine gI (fun _ _ => ?_) (fun _ _ => ?_))
 all_goals
  intro h; obtain rfl := Option.some.inj h
  first | (simp (maxSteps := 10000000) (implicitDefEqProofs := false) (disch := first | with_reducible assumption | exact rfl | exact im_ _ | (fail_if_success show Kn _ _); omega) only [bs, rs49, ls49, Nat.reduceAdd, ↓reduceIte, binD_shr_k, c61_0, ixa_89, hg]; first | (exact ⟨(rfl : Ex.normal = Ex.normal), by kernel_rfl⟩) | (exact ⟨(rfl : Ex.exit 2 = Ex.exit 2), rfl, by kernel_rfl⟩)) | (exfalso; omega)
noncomputable def L49_0 : Code := (loopsOf (bodyOf Try.f49)).getD 0 .skip
def g49_0 : List Ghost := [.keep [5, 11, 12]]
noncomputable def F49_0 (a11_0 : Int) (a11_1 : Int) : (Int × Int) → St := fun (s5, s12) => ⟨[J, J, J, J, J, .p (.v (.int .u64 s5)), J, J, J, J, J, .p (.agg [.v (.int .u64 a11_0), .v (.int .u64 a11_1)]), iv s12, J, J, J, J, J, J, J, J, J, J, J, J, J, J, J], [], 0⟩
theorem L49_0_ok (a11_0 : Int) (a11_1 : Int) : ∀ s st o, ghostsD g49_0 st = some (F49_0 a11_0 a11_1 s) → iter (digest_Mix_L0 a11_0 a11_1) s = some o →
    Wp (evW Try.prog A0 49 (.loop L49_0) st) (OutQ (F49_0 a11_0 a11_1) g49_0 (fun n s st => n = 0 ∧ ghostsD [.keep [5, 11, 12]] st = some (F49_0 a11_0 a11_1 s)) (fun r st => finishD Try.prog A0 49 Try.f49 st = some (.p (.v (.int .u64 r)), [])) o) := by
 refine Wp.iter ?_
 intro s st o hg h
 obtain ⟨s5, s12⟩ := s
 unfold digest_Mix_L0 at h; unfold g49_0 F49_0 at hg ⊢
 (try simp only [] at h hg)
 unfold L49_0 bodyOf Try.f49; simp only [loopsOf, ens]
 revert h
 refine gI (fun h1 _ => ?_) (fun h1 _ => ?_)
 ·refine gB fun q2 h3 => ?_
  refine gB fun o h12 => ?_
  intro h
  simp (maxSteps := 10000000) (implicitDefEqProofs := false) (disch := first | with_reducible assumption | exact rfl | exact im_ _ | (fail_if_success show Kn _ _); omega) only [bs, rs49, ls49, Nat.reduceAdd, ↓reduceIte, binD_shr_k, c61_0, ixa_89, hg]
  refine Wp.ctx (fun x => seqW _ _ _ _ (blockW _ (blockW _ (x)))) (L49_1_ok q2 a11_0 a11_1 s12 (s5, (56 : Int)) _ o (by kernel_rfl) h12) ?_
  intro e st hq
  cases o with
  | next _ => (first | cases h | (simp at h))
  | jmp n_ s_ =>
   obtain ⟨rfl, rfl, hq⟩ := hq
   obtain ⟨s5_13, s8_13⟩ := s_
   unfold F49_1 at hq
   (try simp only [] at h hq)
   revert h
   intro h; obtain rfl := Option.some.inj h
   simp (maxSteps := 10000000) (implicitDefEqProofs := false) (disch := first | with_reducible assumption | exact rfl | exact im_ _ | (fail_if_success show Kn _ _); omega) only [bs, rs49, ls49, Nat.reduceAdd, ↓reduceIte, binD_shr_k, c61_0, ixa_89, hg, hq]
   exact ⟨(rfl : Ex.normal = Ex.normal), by kernel_rfl⟩
  | ret _ => (first | cases h | (simp at h))
 ·intro h; obtain rfl := Option.some.inj h
  simp (maxSteps := 10000000) (implicitDefEqProofs := false) (disch := first | with_reducible assumption | exact rfl | exact im_ _ | (fail_if_success show Kn _ _); omega) only [bs, rs49, ls49, Nat.reduceAdd, ↓reduceIte, binD_shr_k, c61_0, ixa_89, hg]
  exact ⟨(rfl : Ex.exit 0 = Ex.exit 0), rfl, by kernel_rfl⟩
theorem f49_ok  (x0 : Int) (x1 : Int) (r : Int) (h : digest_Mix x0 x1 = some r) : callW Try.prog A0 49 [.p (.v (.int .u64 x0)), .p (.v (.int .u64 x1))] [] = some (.p (.v (.int .u64 r)), []) := by
 refine call_ofI (fn := Try.f49) (c := bodyOf Try.f49) 26 rfl rfl (by kernel_rfl) (by kernel_rfl) (by kernel_rfl) ?_
 unfold digest_Mix at h; unfold bodyOf Try.f49; simp only [ens]
 revert h
 refine gB fun o h14 => ?_
 intro h
 simp (maxSteps := 10000000) (implicitDefEqProofs := false) (disch := first | with_reducible assumption | exact rfl | exact im_ _ | (fail_if_success show Kn _ _); omega) only [bs, rs49, ls49, Nat.reduceAdd, ↓reduceIte, binD_shr_k, c61_0, ixa_89]
 refine Wp.ctx (fun x => seqW _ _ _ _ (blockW _ (x))) (L49_0_ok x0 x1 ((14695981039346656037 : Int), (0 : Int)) _ o (by kernel_rfl) h14) ?_
 intro e st hq
 cases o with
 | next _ => (first | cases h | (simp at h))
 | jmp n_ s_ =>
  obtain ⟨rfl, rfl, hq⟩ := hq
  obtain ⟨s5_15, s12_15⟩ := s_
  unfold F49_0 at hq
  (try simp only [] at h hq)
  revert h
  intro h; obtain rfl := Option.some.inj h
  simp (maxSteps := 10000000) (implicitDefEqProofs := false) (disch := first | with_reducible assumption | exact rfl | exact im_ _ | (fail_if_success show Kn _ _); omega) only [bs, rs49, ls49, Nat.reduceAdd, ↓reduceIte, binD_shr_k, c61_0, ixa_89, hq]
  refine ⟨by simp, ?_⟩; exact fin_sc rfl rfl rfl rfl
 | ret _ => (first | cases h | (simp at h))
def ls33_34 := And.intro @al_25 (And.intro @ap_29_29 (And.intro @bs_29_1 (And.intro @cv_3_50 (And.intro @faP_25_0 (And.intro @faP_25_3 (And.intro @idxL_23 (And.intro @idxR_29 (And.intro @lk_frz_25 (And.intro @sa_4_0_4 (And.intro @stf_50_x (And.intro @varld_4_0_0 (And.intro @varld_4_0_3 (@varlv_4_0_4)))))))))))))
theorem hash_fill_34_rcall {rec : (List Int) → Node → Option ((List Int) × Int)} (hrec : ∀ x0 x1 r, rec x0 x1 = some r → callW Try.prog A0 33 [.ref 0 0 x0.length 1, .p (.agg (pv_Node x1)), .p (.fn (.func 34) [])] [.arr (encL en_u64 x0)] = some (.tup [.ref 1 0 r.1.length 1, .p (.v (.int .u64 r.2))], [.dead, .arr (encL en_u64 r.1)])) {H : List Ob} {id n : Nat} {b1 b2 : Bool} {x0 : (List Int)} {x1 : Node} {r : ((List Int) × Int)} : H[id]? = some (.arr (encL en_u64 x0)) → n = x0.length → ∀ (h : rec x0 x1 = some r), callD (callW Try.prog A0) A0 H 33 [.ref id 0 n 1, .p (.agg [.v (.int .i64 x1.Kind), .v (.string x1.Text), .lst b1 x1.Gaps.length (encL en_str x1.Gaps), .lst b2 x1.Kids.length (encL en_Node x1.Kids)]), .p (.fn (.func 34) [])] = some (.tup [.ref H.length 0 r.1.length 1, .p (.v (.int .u64 r.2))], some (H.set id .dead ++ [.arr (encL en_u64 r.1)])) := by
 intro hid hn h; subst hn; exact callD_mutT1 (args := [.agg (pv_Node x1), .fn (.func 34) []]) (ps := [.v (.int .u64 r.2)]) (by simp only [List.map_cons, List.map_nil, wkDv, wk, wks, wkL]) rfl hid (hrec x0 x1 _ h)
theorem c49_0 {H : List Ob} {a1 a2 : Int} {r : Int} (h : digest_Mix a1 a2 = some r) : callD (callW Try.prog A0) A0 H 49 [.p (.v (.int .u64 a1)), .p (.v (.int .u64 a2))] = some (.p (.v (.int .u64 r)), none) :=
 callD_fun (args := [.v (.int .u64 a1), .v (.int .u64 a2)]) rfl rfl rfl (by simp only [List.map_cons, List.map_nil, wk, wks, wkL]; exact f49_ok a1 a2 _ h)
theorem q33_0 {rec : (List Int) → Node → Option ((List Int) × Int)} (hrec : ∀ x0 x1 r, rec x0 x1 = some r → callW Try.prog A0 33 [.ref 0 0 x0.length 1, .p (.agg (pv_Node x1)), .p (.fn (.func 34) [])] [.arr (encL en_u64 x0)] = some (.tup [.ref 1 0 r.1.length 1, .p (.v (.int .u64 r.2))], [.dead, .arr (encL en_u64 r.1)])) {a1 : List Int} {a2 : Node} {r9001 : ((List Int) × Int)} {X2 X3 : Ob} (h9002 : rec a1 a2 = some r9001) : callD (callW Try.prog A0) A0 [.dead, .arr (encL en_u64 a1), X2, X3] 33 [.ref 1 0 a1.length 1, .p (.agg (pv_Node a2)), .p (.fn (.func 34) [])] = some (.tup [.ref 4 0 r9001.1.length 1, .p (.v (.int .u64 r9001.2))], some [.dead, .dead, X2, X3, .arr (encL en_u64 r9001.1)]) := hash_fill_34_rcall hrec (H := [.dead, .arr (encL en_u64 a1), X2, X3]) (id := 1) rfl (by first | rfl | omega) h9002
theorem q33_1 {rec : (List Int) → Node → Option ((List Int) × Int)} (hrec : ∀ x0 x1 r, rec x0 x1 = some r → callW Try.prog A0 33 [.ref 0 0 x0.length 1, .p (.agg (pv_Node x1)), .p (.fn (.func 34) [])] [.arr (encL en_u64 x0)] = some (.tup [.ref 1 0 r.1.length 1, .p (.v (.int .u64 r.2))], [.dead, .arr (encL en_u64 r.1)])) {a1 : List Int} {a2 : Node} {r9001 : ((List Int) × Int)} {X1 X2 : Ob} (h9002 : rec a1 a2 = some r9001) : callD (callW Try.prog A0) A0 [.arr (encL en_u64 a1), X1, X2] 33 [.ref 0 0 a1.length 1, .p (.agg (pv_Node a2)), .p (.fn (.func 34) [])] = some (.tup [.ref 3 0 r9001.1.length 1, .p (.v (.int .u64 r9001.2))], some [.dead, X1, X2, .arr (encL en_u64 r9001.1)]) := hash_fill_34_rcall hrec (H := [.arr (encL en_u64 a1), X1, X2]) (id := 0) rfl (by first | rfl | omega) h9002
noncomputable def L33_0 : Code := (loopsOf (bodyOf Try.f33)).getD 0 .skip
def g33_0 : List Ghost := [.weak [27], .keep [0, 2, 4, 8, 9, 27, 28, 29]]
noncomputable def F33_34_0 (s8 : Int) (s27 : (List Node)) (s28 : Int) (w2_0 : Int) (w2_1 : ByteArray) (w2_2 : (List ByteArray)) (w2_3 : (List Node)) : (Int × Int × (List Int)) → St := fun (s9, s29, y1) => ⟨[.ref 1 0 y1.length 1, J, .p (.fn (.func 34) []), J, .ptr 2 0, J, J, J, iv s8, .p (.v (.int .u64 s9)), J, J, J, J, J, J, J, J, J, J, J, J, J, J, J, J, J, .p (.lst false s27.length (encL en_Node s27)), iv s28, iv s29, J, J, J, J, J, J, J, J, J, J, J, J, J, J, J, J, J, J, J, J, J, J, J, J, J, J], [.dead, .arr (encL en_u64 y1), .var [iv w2_0, .p (.v (.string w2_1)), .p (.lst false w2_2.length (encL en_str w2_2)), .p (.lst false w2_3.length (encL en_Node w2_3))]], 1⟩
theorem L33_34_0_ok {rec : (List Int) → Node → Option ((List Int) × Int)} (hrec : ∀ x0 x1 r, rec x0 x1 = some r → callW Try.prog A0 33 [.ref 0 0 x0.length 1, .p (.agg (pv_Node x1)), .p (.fn (.func 34) [])] [.arr (encL en_u64 x0)] = some (.tup [.ref 1 0 r.1.length 1, .p (.v (.int .u64 r.2))], [.dead, .arr (encL en_u64 r.1)])) (s8 : Int) (s27 : (List Node)) (s28 : Int) (w2_0 : Int) (w2_1 : ByteArray) (w2_2 : (List ByteArray)) (w2_3 : (List Node)) : ∀ s st o, ghostsD g33_0 st = some (F33_34_0 s8 s27 s28 w2_0 w2_1 w2_2 w2_3 s) → iter (hash_fill_L0 rec hash_Exact_c1 s8 s27 s28 w2_0 w2_1 w2_2 w2_3) s = some o →
    Wp (evW Try.prog A0 33 (.loop L33_0) st) (OutQ (F33_34_0 s8 s27 s28 w2_0 w2_1 w2_2 w2_3) g33_0 (fun n s st => n = 0 ∧ ghostsD [.keep [0, 2, 4, 8, 9, 27, 28, 29]] st = some (F33_34_0 s8 s27 s28 w2_0 w2_1 w2_2 w2_3 s)) (fun r st => finishD Try.prog A0 33 Try.f33 st = some (.tup [.ref 1 0 r.1.length 1, .p (.v (.int .u64 r.2))], [.dead, .arr (encL en_u64 r.1)])) o) := by
 refine Wp.iter ?_
 intro s st o hg h
 obtain ⟨s9, s29, y1⟩ := s
 unfold hash_fill_L0 at h; unfold g33_0 F33_34_0 at hg ⊢
 (try simp only [] at h hg)
 unfold L33_0 bodyOf Try.f33; simp only [loopsOf, ens]
 revert h
 repeat' first | (with_reducible refine gR fun _ _ _ _ => ?_) | (with_reducible refine gB fun _ _ => ?_) | (with_reducible refine gI (fun _ _ => ?_) (fun _ _ => ?_))
 all_goals
  intro h; obtain rfl := Option.some.inj h
  first | (simp (maxSteps := 10000000) (implicitDefEqProofs := false) (disch := first | with_reducible assumption | exact rfl | exact im_ _ | (fail_if_success show Kn _ _); omega | (show (_ : Int) < _; simp only [List.length_set, cpL_len] at *; omega)) only [bs, rs33, ls33_34, Nat.reduceAdd, ↓reduceIte, c34_0, c49_0, c50_0, exr_2_0, exr_2_1, lenD_lst u23, lenD_ref u29, loadD_iagg a25 z25, loadD_pagg a25 z25, loadD_ptr a23, loadD_ptr a3, own_ref, q33_0 hrec, storeD_agg z25, storeD_int z50, wks_nil_, hg]; first | (exact ⟨(rfl : Ex.normal = Ex.normal), by kernel_rfl⟩) | (exact ⟨(rfl : Ex.exit 0 = Ex.exit 0), rfl, by kernel_rfl⟩)) | (exfalso; omega)
theorem f33_34_ok {rec : (List Int) → Node → Option ((List Int) × Int)} (hrec : ∀ x0 x1 r, rec x0 x1 = some r → callW Try.prog A0 33 [.ref 0 0 x0.length 1, .p (.agg (pv_Node x1)), .p (.fn (.func 34) [])] [.arr (encL en_u64 x0)] = some (.tup [.ref 1 0 r.1.length 1, .p (.v (.int .u64 r.2))], [.dead, .arr (encL en_u64 r.1)]))  (x0 : (List Int)) (x1 : Node) (r : ((List Int) × Int)) (h : hash_fill.body rec hash_Exact_c1 x0 x1 = some r) : callW Try.prog A0 33 [.ref 0 0 x0.length 1, .p (.agg (pv_Node x1)), .p (.fn (.func 34) [])] [.arr (encL en_u64 x0)] = some (.tup [.ref 1 0 r.1.length 1, .p (.v (.int .u64 r.2))], [.dead, .arr (encL en_u64 r.1)]) := by
 refine call_ofI (fn := Try.f33) (c := bodyOf Try.f33) 53 rfl rfl (by kernel_rfl) (by kernel_rfl) (by kernel_rfl) ?_
 unfold hash_fill.body at h; unfold bodyOf Try.f33; simp only [ens]
 revert h
 refine gW fun h2 => ?_
 have h1 : ∀ (H : List Ob) (id : Nat), apOb H id 0 x0.length 1 1 1 8 [.v (.int .u64 (0 : Int))] (some (.arr (encL en_u64 x0))) = some (.ref H.length 0 (x0 ++ [(0 : Int)]).length 1, H.set id .dead ++ [.arr (encL en_u64 (x0 ++ [(0 : Int)]))]) := fun H id => ap_enc (y := [(0 : Int)]) en_u64_len (by first | rfl | omega) rfl (by first | (simp only [encL_cons, encL_nil, en_u64_eq, List.cons_append, List.nil_append]; done) | (simp only [encL_cons, encL_nil, en_u64_eq, List.cons_append, List.nil_append]; rfl) | rfl) (by assumption)
 refine gB fun r3 h4 => ?_
 refine gB fun r6 h7 => ?_
 refine gB fun r9 h10 => ?_
 refine gB fun o h22 => ?_
 intro h
 simp (maxSteps := 10000000) (implicitDefEqProofs := false) (disch := first | with_reducible assumption | exact rfl | exact im_ _ | (fail_if_success show Kn _ _); omega | (show (_ : Int) < _; simp only [List.length_set, cpL_len] at *; omega)) only [bs, rs33, ls33_34, Nat.reduceAdd, ↓reduceIte, c34_0, c49_0, c50_0, exr_2_0, exr_2_1, lenD_lst u23, lenD_ref u29, loadD_iagg a25 z25, loadD_pagg a25 z25, loadD_ptr a23, loadD_ptr a3, own_ref, q33_0 hrec, storeD_agg z25, storeD_int z50, wks_nil_, h1]
 refine Wp.ctx (fun x => seqW _ _ _ _ (blockW _ (x))) (L33_34_0_ok hrec (x0.length : Int) x1.Kids (x1.Kids.length : Int) x1.Kind x1.Text x1.Gaps x1.Kids (r9, (0 : Int), (x0 ++ [(0 : Int)])) _ o (by kernel_rfl) h22) ?_
 intro e st hq
 cases o with
 | next _ => (first | cases h | (simp at h))
 | jmp n_ s_ =>
  obtain ⟨rfl, rfl, hq⟩ := hq
  obtain ⟨s9_23, s29_23, y1_23⟩ := s_
  unfold F33_34_0 at hq
  (try simp only [] at h hq)
  revert h
  repeat' first | (with_reducible refine gR fun _ _ _ _ => ?_) | (with_reducible refine gB fun _ _ => ?_)
  intro h; obtain rfl := Option.some.inj h
  simp (maxSteps := 10000000) (implicitDefEqProofs := false) (disch := first | with_reducible assumption | exact rfl | exact im_ _ | (fail_if_success show Kn _ _); omega | (show (_ : Int) < _; simp only [List.length_set, cpL_len] at *; omega)) only [bs, rs33, ls33_34, Nat.reduceAdd, ↓reduceIte, c34_0, c49_0, c50_0, exr_2_0, exr_2_1, lenD_lst u23, lenD_ref u29, loadD_iagg a25 z25, loadD_pagg a25 z25, loadD_ptr a23, loadD_ptr a3, own_ref, q33_0 hrec, storeD_agg z25, storeD_int z50, wks_nil_, h1, hq]
  refine ⟨by simp, ?_⟩; show _ = _; simp only [List.length_set, cpL_len]; kernel_rfl
 | ret _ => (first | cases h | (simp at h))
def ls33n_34 := And.intro @al_25 (And.intro @ap_29_29 (And.intro @bs_29_1 (And.intro @cv_3_50 (And.intro @faP_25_0 (And.intro @faP_25_3 (And.intro @idxL_23 (And.intro @idxR_29 (And.intro @lk_frz_25 (And.intro @sa_4_0_4 (And.intro @stf_50_x (And.intro @varld_4_0_0 (And.intro @varld_4_0_3 (@varlv_4_0_4)))))))))))))
noncomputable def F33n_34_0 (s8 : Int) (s27 : (List Node)) (s28 : Int) (w1_0 : Int) (w1_1 : ByteArray) (w1_2 : (List ByteArray)) (w1_3 : (List Node)) : (Int × Int × (List Int)) → St := fun (s9, s29, y0) => ⟨[.ref 0 0 y0.length 1, J, .p (.fn (.func 34) []), J, .ptr 1 0, J, J, J, iv s8, .p (.v (.int .u64 s9)), J, J, J, J, J, J, J, J, J, J, J, J, J, J, J, J, J, .p (.lst false s27.length (encL en_Node s27)), iv s28, iv s29, J, J, J, J, J, J, J, J, J, J, J, J, J, J, J, J, J, J, J, J, J, J, J, J, J, J], [.arr (encL en_u64 y0), .var [iv w1_0, .p (.v (.string w1_1)), .p (.lst false w1_2.length (encL en_str w1_2)), .p (.lst false w1_3.length (encL en_Node w1_3))]], 0⟩
theorem L33n_34_0_ok {rec : (List Int) → Node → Option ((List Int) × Int)} (hrec : ∀ x0 x1 r, rec x0 x1 = some r → callW Try.prog A0 33 [.ref 0 0 x0.length 1, .p (.agg (pv_Node x1)), .p (.fn (.func 34) [])] [.arr (encL en_u64 x0)] = some (.tup [.ref 1 0 r.1.length 1, .p (.v (.int .u64 r.2))], [.dead, .arr (encL en_u64 r.1)])) (s8 : Int) (s27 : (List Node)) (s28 : Int) (w1_0 : Int) (w1_1 : ByteArray) (w1_2 : (List ByteArray)) (w1_3 : (List Node)) : ∀ s st o, ghostsD g33_0 st = some (F33n_34_0 s8 s27 s28 w1_0 w1_1 w1_2 w1_3 s) → iter (hash_fill_L0 rec hash_Exact_c1 s8 s27 s28 w1_0 w1_1 w1_2 w1_3) s = some o →
    Wp (evW Try.prog A0 33 (.loop L33_0) st) (OutQ (F33n_34_0 s8 s27 s28 w1_0 w1_1 w1_2 w1_3) g33_0 (fun n s st => n = 0 ∧ ghostsD [.keep [0, 2, 4, 8, 9, 27, 28, 29]] st = some (F33n_34_0 s8 s27 s28 w1_0 w1_1 w1_2 w1_3 s)) (fun r st => finishD Try.prog A0 33 Try.f33 st = some (.tup [.ref 0 0 r.1.length 1, .p (.v (.int .u64 r.2))], [.arr (encL en_u64 r.1)])) o) := by
 refine Wp.iter ?_
 intro s st o hg h
 obtain ⟨s9, s29, y0⟩ := s
 unfold hash_fill_L0 at h; unfold g33_0 F33n_34_0 at hg ⊢
 (try simp only [] at h hg)
 unfold L33_0 bodyOf Try.f33; simp only [loopsOf, ens]
 revert h
 repeat' first | (with_reducible refine gR fun _ _ _ _ => ?_) | (with_reducible refine gB fun _ _ => ?_) | (with_reducible refine gI (fun _ _ => ?_) (fun _ _ => ?_))
 all_goals
  intro h; obtain rfl := Option.some.inj h
  first | (simp (maxSteps := 10000000) (implicitDefEqProofs := false) (disch := first | with_reducible assumption | exact rfl | exact im_ _ | (fail_if_success show Kn _ _); omega | (show (_ : Int) < _; simp only [List.length_set, cpL_len] at *; omega)) only [bs, rs33, ls33n_34, Nat.reduceAdd, ↓reduceIte, c34_0, c49_0, c50_0, exr_2_0, exr_2_1, lenD_lst u23, lenD_ref u29, loadD_iagg a25 z25, loadD_pagg a25 z25, loadD_ptr a23, loadD_ptr a3, own_ref, q33_1 hrec, storeD_agg z25, storeD_int z50, wks_nil_, hg]; first | (exact ⟨(rfl : Ex.normal = Ex.normal), by kernel_rfl⟩) | (exact ⟨(rfl : Ex.exit 0 = Ex.exit 0), rfl, by kernel_rfl⟩)) | (exfalso; omega)
theorem f33n_34_ok {rec : (List Int) → Node → Option ((List Int) × Int)} (hrec : ∀ x0 x1 r, rec x0 x1 = some r → callW Try.prog A0 33 [.ref 0 0 x0.length 1, .p (.agg (pv_Node x1)), .p (.fn (.func 34) [])] [.arr (encL en_u64 x0)] = some (.tup [.ref 1 0 r.1.length 1, .p (.v (.int .u64 r.2))], [.dead, .arr (encL en_u64 r.1)]))  (x0 : (List Int)) (x1 : Node) (hx0 : x0 = []) (r : ((List Int) × Int)) (h : hash_fill.body rec hash_Exact_c1 x0 x1 = some r) : callW Try.prog A0 33 [.p (.lst true 0 []), .p (.agg (pv_Node x1)), .p (.fn (.func 34) [])] [] = some (.tup [.ref 0 0 r.1.length 1, .p (.v (.int .u64 r.2))], [.arr (encL en_u64 r.1)]) := by
 refine call_ofI (fn := Try.f33) (c := bodyOf Try.f33) 53 rfl rfl (by kernel_rfl) (by kernel_rfl) (by kernel_rfl) ?_
 unfold hash_fill.body at h; unfold bodyOf Try.f33; simp only [ens]
 have hown := own_nil' (en := en_u64) hx0 1
 revert h
 refine gW fun h2 => ?_
 have h1 : ∀ (H : List Ob) (id : Nat), apOb H id 0 x0.length 1 1 1 8 [.v (.int .u64 (0 : Int))] (some (.arr (encL en_u64 x0))) = some (.ref H.length 0 (x0 ++ [(0 : Int)]).length 1, H.set id .dead ++ [.arr (encL en_u64 (x0 ++ [(0 : Int)]))]) := fun H id => ap_enc (y := [(0 : Int)]) en_u64_len (by first | rfl | omega) rfl (by first | (simp only [encL_cons, encL_nil, en_u64_eq, List.cons_append, List.nil_append]; done) | (simp only [encL_cons, encL_nil, en_u64_eq, List.cons_append, List.nil_append]; rfl) | rfl) (by assumption)
 refine gB fun r3 h4 => ?_
 refine gB fun r6 h7 => ?_
 refine gB fun r9 h10 => ?_
 refine gB fun o h22 => ?_
 intro h
 simp (maxSteps := 10000000) (implicitDefEqProofs := false) (disch := first | with_reducible assumption | exact rfl | exact im_ _ | (fail_if_success show Kn _ _); omega | (show (_ : Int) < _; simp only [List.length_set, cpL_len] at *; omega)) only [bs, rs33, ls33n_34, Nat.reduceAdd, ↓reduceIte, c34_0, c49_0, c50_0, exr_2_0, exr_2_1, lenD_lst u23, lenD_ref u29, loadD_iagg a25 z25, loadD_pagg a25 z25, loadD_ptr a23, loadD_ptr a3, own_ref, q33_1 hrec, storeD_agg z25, storeD_int z50, wks_nil_, hown, h1]
 refine Wp.ctx (fun x => seqW _ _ _ _ (blockW _ (x))) (L33n_34_0_ok hrec (x0.length : Int) x1.Kids (x1.Kids.length : Int) x1.Kind x1.Text x1.Gaps x1.Kids (r9, (0 : Int), (x0 ++ [(0 : Int)])) _ o (by kernel_rfl) h22) ?_
 intro e st hq
 cases o with
 | next _ => (first | cases h | (simp at h))
 | jmp n_ s_ =>
  obtain ⟨rfl, rfl, hq⟩ := hq
  obtain ⟨s9_23, s29_23, y0_23⟩ := s_
  unfold F33n_34_0 at hq
  (try simp only [] at h hq)
  revert h
  repeat' first | (with_reducible refine gR fun _ _ _ _ => ?_) | (with_reducible refine gB fun _ _ => ?_)
  intro h; obtain rfl := Option.some.inj h
  simp (maxSteps := 10000000) (implicitDefEqProofs := false) (disch := first | with_reducible assumption | exact rfl | exact im_ _ | (fail_if_success show Kn _ _); omega | (show (_ : Int) < _; simp only [List.length_set, cpL_len] at *; omega)) only [bs, rs33, ls33n_34, Nat.reduceAdd, ↓reduceIte, c34_0, c49_0, c50_0, exr_2_0, exr_2_1, lenD_lst u23, lenD_ref u29, loadD_iagg a25 z25, loadD_pagg a25 z25, loadD_ptr a23, loadD_ptr a3, own_ref, q33_1 hrec, storeD_agg z25, storeD_int z50, wks_nil_, hown, h1, hq]
  refine ⟨by simp, ?_⟩; show _ = _; simp only [List.length_set, cpL_len]; kernel_rfl
 | ret _ => (first | cases h | (simp at h))
theorem f33_34_spec : ∀ (x0 : (List Int)) (x1 : Node) r, hash_fillS hash_Exact_c1 x0 x1 = some r → callW Try.prog A0 33 [.ref 0 0 x0.length 1, .p (.agg (pv_Node x1)), .p (.fn (.func 34) [])] [.arr (encL en_u64 x0)] = some (.tup [.ref 1 0 r.1.length 1, .p (.v (.int .u64 r.2))], [.dead, .arr (encL en_u64 r.1)]) := by
 have key : ∀ n (x0 : (List Int)) (x1 : Node) r, hash_fillS_mu x0 x1 < n → hash_fillS hash_Exact_c1 x0 x1 = some r → callW Try.prog A0 33 [.ref 0 0 x0.length 1, .p (.agg (pv_Node x1)), .p (.fn (.func 34) [])] [.arr (encL en_u64 x0)] = some (.tup [.ref 1 0 r.1.length 1, .p (.v (.int .u64 r.2))], [.dead, .arr (encL en_u64 r.1)]) := by
  intro n
  induction n with
  | zero => intro x0 x1 r h; omega
  | succ n ih =>
   intro x0 x1 r hn h
   refine f33_34_ok (rec := fun x0' x1' => if hash_fillS_mu x0' x1' < hash_fillS_mu x0 x1 then hash_fillS hash_Exact_c1 x0' x1' else none) ?_ x0 x1 r (hash_fillS_body hash_Exact_c1 x0 x1 r h)
   intro x0' x1' r' h'
   by_cases hm : hash_fillS_mu x0' x1' < hash_fillS_mu x0 x1
   ·rw [if_pos hm] at h'; exact ih x0' x1' r' (by omega) h'
   ·rw [if_neg hm] at h'; cases h'
 intro x0 x1 r h
 exact key _ x0 x1 r (Nat.lt_succ_self _) h
theorem f33n_34_spec (x1 : Node) r (h : hash_fillS hash_Exact_c1 ([] : List Int) x1 = some r) : callW Try.prog A0 33 [.p (.lst true 0 []), .p (.agg (pv_Node x1)), .p (.fn (.func 34) [])] [] = some (.tup [.ref 0 0 r.1.length 1, .p (.v (.int .u64 r.2))], [.arr (encL en_u64 r.1)]) := by
 refine f33n_34_ok (rec := fun x0' x1' => if hash_fillS_mu x0' x1' < hash_fillS_mu ([] : List Int) x1 then hash_fillS hash_Exact_c1 x0' x1' else none) ?_ ([] : List Int) x1 rfl r (hash_fillS_body hash_Exact_c1 ([] : List Int) x1 r h)
 intro x0' x1' r' h'
 by_cases hm : hash_fillS_mu x0' x1' < hash_fillS_mu ([] : List Int) x1
 ·rw [if_pos hm] at h'; exact f33_34_spec x0' x1' r' h'
 ·rw [if_neg hm] at h'; cases h'
theorem hash_fill_34_calln {b1 b2 : Bool} {H : List Ob} {x1 : Node} {r : ((List Int) × Int)} (h : hash_fillS hash_Exact_c1 ([] : List Int) x1 = some r) : callD (callW Try.prog A0) A0 H 33 [.p (.lst true 0 []), .p (.agg [.v (.int .i64 x1.Kind), .v (.string x1.Text), .lst b1 x1.Gaps.length (encL en_str x1.Gaps), .lst b2 x1.Kids.length (encL en_Node x1.Kids)]), .p (.fn (.func 34) [])] = some (.tup [.ref H.length 0 r.1.length 1, .p (.v (.int .u64 r.2))], some (H ++ [.arr (encL en_u64 r.1)])) :=
 callD_mutT0 (args := [.lst true 0 [], .agg (pv_Node x1), .fn (.func 34) []]) (ps := [.v (.int .u64 r.2)]) (by simp only [List.map_cons, List.map_nil, wkDv, wk, wks, wkL]) rfl (f33n_34_spec x1 _ h)
def ls12 := @varlv_4_0_4
theorem q33_2 {a1 : Node} {H : List Ob} {r9001 : ((List Int) × Int)} (h9002 : hash_fillS hash_Exact_c1 ([] : List Int) a1 = some r9001) : callD (callW Try.prog A0) A0 H 33 [.p (.lst true 0 []), .p (.agg (pv_Node a1)), .p (.fn (.func 34) [])] = some (.tup [.ref H.length 0 r9001.1.length 1, .p (.v (.int .u64 r9001.2))], some (H ++ [.arr (encL en_u64 r9001.1)])) := hash_fill_34_calln (H := H) h9002
theorem f12_ok  (x0 : Node) (r : (List Int)) (h : hash_Exact x0 = some r) : callW Try.prog A0 12 [.p (.agg (pv_Node x0))] [] = some (.p (.lst false r.length (encL en_u64 r)), []) := by
 refine call_ofI (fn := Try.f12) (c := bodyOf Try.f12) 10 rfl rfl (by kernel_rfl) (by kernel_rfl) (by kernel_rfl) ?_
 unfold hash_Exact at h; unfold bodyOf Try.f12; simp only [ens]
 revert h
 repeat' (with_reducible refine gB fun _ _ => ?_)
 intro h; obtain rfl := Option.some.inj h
 simp (maxSteps := 10000000) (implicitDefEqProofs := false) (disch := first | with_reducible assumption | exact rfl | exact im_ _ | (fail_if_success show Kn _ _); omega) only [bs, rs12, ls12, Nat.reduceAdd, ↓reduceIte, exr_2_0, exr_2_1, loadD_pagg a25 z25, q33_2]
 refine ⟨by simp, ?_⟩; exact finish_is (l := [1]) rfl rfl rfl (purify1_enc en_u64_len rfl (by first | rfl | omega | simp)) (by first | rfl | (simp only [wk, wks, wkL]; first | done | rfl))
def ls39 := And.intro @faP_25_0 (And.intro @faP_25_1 (And.intro @faP_25_3 (And.intro @idxL_23 (And.intro @lk_frz_25 (And.intro @varld_4_0_0 (And.intro @varld_4_0_1 (@varld_4_0_3)))))))
theorem c39r_0 {rec : Node → Node → Option Bool} (hrec : ∀ x0 x1 r, rec x0 x1 = some r → callW Try.prog A0 39 [.p (.agg (pv_Node x0)), .p (.agg (pv_Node x1))] [] = some (.p (.v (.bool r)), [])) {H : List Ob} {a1 a2 : Node} {r : Bool} (h : rec a1 a2 = some r) : callD (callW Try.prog A0) A0 H 39 [.p (.agg (pv_Node a1)), .p (.agg (pv_Node a2))] = some (.p (.v (.bool r)), none) :=
 callD_fun (args := [.agg (pv_Node a1), .agg (pv_Node a2)]) rfl rfl rfl (by simp only [List.map_cons, List.map_nil, wk, wks, wkL]; exact hrec a1 a2 _ h)
noncomputable def L39_0 : Code := (loopsOf (bodyOf Try.f39)).getD 0 .skip
def g39_0 : List Ghost := [.keep [2, 3, 29, 30]]
noncomputable def F39_0 (s29 : Int) (w0_0 : Int) (w0_1 : ByteArray) (w0_2 : (List ByteArray)) (w0_3 : (List Node)) (w1_0 : Int) (w1_1 : ByteArray) (w1_2 : (List ByteArray)) (w1_3 : (List Node)) : Int → St := fun s30 => ⟨[J, J, .ptr 0 0, .ptr 1 0, J, J, J, J, J, J, J, J, J, J, J, J, J, J, J, J, J, J, J, J, J, J, J, J, J, iv s29, iv s30, J, J, J, J, J, J, J, J, J, J, J, J, J, J, J], [.var [iv w0_0, .p (.v (.string w0_1)), .p (.lst false w0_2.length (encL en_str w0_2)), .p (.lst false w0_3.length (encL en_Node w0_3))], .var [iv w1_0, .p (.v (.string w1_1)), .p (.lst false w1_2.length (encL en_str w1_2)), .p (.lst false w1_3.length (encL en_Node w1_3))]], 0⟩
theorem L39_0_ok {rec : Node → Node → Option Bool} (hrec : ∀ x0 x1 r, rec x0 x1 = some r → callW Try.prog A0 39 [.p (.agg (pv_Node x0)), .p (.agg (pv_Node x1))] [] = some (.p (.v (.bool r)), [])) (s29 : Int) (w0_0 : Int) (w0_1 : ByteArray) (w0_2 : (List ByteArray)) (w0_3 : (List Node)) (w1_0 : Int) (w1_1 : ByteArray) (w1_2 : (List ByteArray)) (w1_3 : (List Node)) : ∀ s st o, ghostsD g39_0 st = some (F39_0 s29 w0_0 w0_1 w0_2 w0_3 w1_0 w1_1 w1_2 w1_3 s) → iter (tree_Same_L0 rec s29 w0_0 w0_1 w0_2 w0_3 w1_0 w1_1 w1_2 w1_3) s = some o →
    Wp (evW Try.prog A0 39 (.loop L39_0) st) (OutQ (F39_0 s29 w0_0 w0_1 w0_2 w0_3 w1_0 w1_1 w1_2 w1_3) g39_0 (fun n s st => n = 0 ∧ ghostsD [.keep [2, 3, 29, 30]] st = some (F39_0 s29 w0_0 w0_1 w0_2 w0_3 w1_0 w1_1 w1_2 w1_3 s)) (fun r st => finishD Try.prog A0 39 Try.f39 st = some (.p (.v (.bool r)), [])) o) := by
 refine Wp.iter ?_
 intro s st o hg h
 generalize s = s30 at hg h
 unfold tree_Same_L0 at h; unfold g39_0 F39_0 at hg ⊢
 (try simp only [] at h hg)
 unfold L39_0 bodyOf Try.f39; simp only [loopsOf, ens]
 revert h
 repeat' first | (with_reducible refine gR fun _ _ _ _ => ?_) | (with_reducible refine gB fun _ _ => ?_) | (with_reducible refine gT (fun _ _ => ?_) (fun _ _ => ?_)) | (with_reducible refine gI (fun _ _ => ?_) (fun _ _ => ?_))
 all_goals
  intro h; obtain rfl := Option.some.inj h
  first | (simp (maxSteps := 10000000) (implicitDefEqProofs := false) (disch := first | with_reducible assumption | exact rfl | exact im_ _ | (fail_if_success show Kn _ _); omega) only [bs, rs39, ls39, Nat.reduceAdd, ↓reduceIte, binD_neq_str, c39r_0 hrec, lenD_lst u23, loadD_iagg a25 z25, loadD_ptr a23, loadD_ptr a3, loadD_ptr a9, hg]; first | (exact ⟨(rfl : Ex.normal = Ex.normal), by kernel_rfl⟩) | (refine ⟨(rfl : Ex.ret = Ex.ret), ?_⟩; exact fin_sc rfl rfl rfl rfl) | (exact ⟨(rfl : Ex.exit 0 = Ex.exit 0), rfl, by kernel_rfl⟩)) | (exfalso; omega)
theorem f39_ok {rec : Node → Node → Option Bool} (hrec : ∀ x0 x1 r, rec x0 x1 = some r → callW Try.prog A0 39 [.p (.agg (pv_Node x0)), .p (.agg (pv_Node x1))] [] = some (.p (.v (.bool r)), []))  (x0 : Node) (x1 : Node) (r : Bool) (h : tree_Same.body rec x0 x1 = some r) : callW Try.prog A0 39 [.p (.agg (pv_Node x0)), .p (.agg (pv_Node x1))] [] = some (.p (.v (.bool r)), []) := by
 refine call_ofI (fn := Try.f39) (c := bodyOf Try.f39) 44 rfl rfl (by kernel_rfl) (by kernel_rfl) (by kernel_rfl) ?_
 unfold tree_Same.body at h; unfold bodyOf Try.f39; simp only [ens]
 revert h
 refine gI (fun h1 _ => ?_) (fun h1 _ => ?_)
 ·refine gI (fun h2 _ => ?_) (fun h2 _ => ?_)
  ·refine gI (fun h3 _ => ?_) (fun h3 _ => ?_)
   ·refine gB fun o h15 => ?_
    intro h
    simp (maxSteps := 10000000) (implicitDefEqProofs := false) (disch := first | with_reducible assumption | exact rfl | exact im_ _ | (fail_if_success show Kn _ _); omega) only [bs, rs39, ls39, Nat.reduceAdd, ↓reduceIte, binD_neq_str, c39r_0 hrec, lenD_lst u23, loadD_iagg a25 z25, loadD_ptr a23, loadD_ptr a3, loadD_ptr a9]
    refine Wp.ctx (fun x => seqW _ _ _ _ (blockW _ (x))) (L39_0_ok hrec (x0.Kids.length : Int) x0.Kind x0.Text x0.Gaps x0.Kids x1.Kind x1.Text x1.Gaps x1.Kids (0 : Int) _ o (by kernel_rfl) h15) ?_
    intro e st hq
    cases o with
    | next _ => (first | cases h | (simp at h))
    | jmp n_ s_ =>
     obtain ⟨rfl, rfl, hq⟩ := hq
     generalize s_ = s30_16 at h hq
     unfold F39_0 at hq
     (try simp only [] at h hq)
     revert h
     intro h; obtain rfl := Option.some.inj h
     simp (maxSteps := 10000000) (implicitDefEqProofs := false) (disch := first | with_reducible assumption | exact rfl | exact im_ _ | (fail_if_success show Kn _ _); omega) only [bs, rs39, ls39, Nat.reduceAdd, ↓reduceIte, binD_neq_str, c39r_0 hrec, lenD_lst u23, loadD_iagg a25 z25, loadD_ptr a23, loadD_ptr a3, loadD_ptr a9, hq]
     refine ⟨by simp, ?_⟩; exact fin_sc rfl rfl rfl rfl
    | ret r17 =>
     obtain ⟨rfl, hq⟩ := hq
     obtain rfl := Option.some.inj h
     simp (maxSteps := 10000000) (implicitDefEqProofs := false) (disch := first | with_reducible assumption | exact rfl | exact im_ _ | (fail_if_success show Kn _ _); omega) only [bs, rs39, ls39, Nat.reduceAdd, ↓reduceIte, binD_neq_str, c39r_0 hrec, lenD_lst u23, loadD_iagg a25 z25, loadD_ptr a23, loadD_ptr a3, loadD_ptr a9]
     exact ⟨by simp, hq⟩
   ·intro h; obtain rfl := Option.some.inj h
    simp (maxSteps := 10000000) (implicitDefEqProofs := false) (disch := first | with_reducible assumption | exact rfl | exact im_ _ | (fail_if_success show Kn _ _); omega) only [bs, rs39, ls39, Nat.reduceAdd, ↓reduceIte, binD_neq_str, c39r_0 hrec, lenD_lst u23, loadD_iagg a25 z25, loadD_ptr a23, loadD_ptr a3, loadD_ptr a9]
    refine ⟨by simp, ?_⟩; exact fin_sc rfl rfl rfl rfl
  ·intro h; obtain rfl := Option.some.inj h
   simp (maxSteps := 10000000) (implicitDefEqProofs := false) (disch := first | with_reducible assumption | exact rfl | exact im_ _ | (fail_if_success show Kn _ _); omega) only [bs, rs39, ls39, Nat.reduceAdd, ↓reduceIte, binD_neq_str, c39r_0 hrec, lenD_lst u23, loadD_iagg a25 z25, loadD_ptr a23, loadD_ptr a3, loadD_ptr a9]
   refine ⟨by simp, ?_⟩; exact fin_sc rfl rfl rfl rfl
 ·intro h; obtain rfl := Option.some.inj h
  simp (maxSteps := 10000000) (implicitDefEqProofs := false) (disch := first | with_reducible assumption | exact rfl | exact im_ _ | (fail_if_success show Kn _ _); omega) only [bs, rs39, ls39, Nat.reduceAdd, ↓reduceIte, binD_neq_str, c39r_0 hrec, lenD_lst u23, loadD_iagg a25 z25, loadD_ptr a23, loadD_ptr a3, loadD_ptr a9]
  refine ⟨by simp, ?_⟩; exact fin_sc rfl rfl rfl rfl
theorem f39_spec : ∀ (x0 : Node) (x1 : Node) r, tree_SameS x0 x1 = some r → callW Try.prog A0 39 [.p (.agg (pv_Node x0)), .p (.agg (pv_Node x1))] [] = some (.p (.v (.bool r)), []) := by
 have key : ∀ n (x0 : Node) (x1 : Node) r, tree_SameS_mu x0 x1 < n → tree_SameS x0 x1 = some r → callW Try.prog A0 39 [.p (.agg (pv_Node x0)), .p (.agg (pv_Node x1))] [] = some (.p (.v (.bool r)), []) := by
  intro n
  induction n with
  | zero => intro x0 x1 r h; omega
  | succ n ih =>
   intro x0 x1 r hn h
   refine f39_ok (rec := fun x0' x1' => if tree_SameS_mu x0' x1' < tree_SameS_mu x0 x1 then tree_SameS x0' x1' else none) ?_ x0 x1 r (tree_SameS_body x0 x1 r h)
   intro x0' x1' r' h'
   by_cases hm : tree_SameS_mu x0' x1' < tree_SameS_mu x0 x1
   ·rw [if_pos hm] at h'; exact ih x0' x1' r' (by omega) h'
   ·rw [if_neg hm] at h'; cases h'
 intro x0 x1 r h
 exact key _ x0 x1 r (Nat.lt_succ_self _) h
theorem list98 {l : List Dv} (h : l.length = 98) : l = [l.getD 0 .junk, l.getD 1 .junk, l.getD 2 .junk, l.getD 3 .junk, l.getD 4 .junk, l.getD 5 .junk, l.getD 6 .junk, l.getD 7 .junk, l.getD 8 .junk, l.getD 9 .junk, l.getD 10 .junk, l.getD 11 .junk, l.getD 12 .junk, l.getD 13 .junk, l.getD 14 .junk, l.getD 15 .junk, l.getD 16 .junk, l.getD 17 .junk, l.getD 18 .junk, l.getD 19 .junk, l.getD 20 .junk, l.getD 21 .junk, l.getD 22 .junk, l.getD 23 .junk, l.getD 24 .junk, l.getD 25 .junk, l.getD 26 .junk, l.getD 27 .junk, l.getD 28 .junk, l.getD 29 .junk, l.getD 30 .junk, l.getD 31 .junk, l.getD 32 .junk, l.getD 33 .junk, l.getD 34 .junk, l.getD 35 .junk, l.getD 36 .junk, l.getD 37 .junk, l.getD 38 .junk, l.getD 39 .junk, l.getD 40 .junk, l.getD 41 .junk, l.getD 42 .junk, l.getD 43 .junk, l.getD 44 .junk, l.getD 45 .junk, l.getD 46 .junk, l.getD 47 .junk, l.getD 48 .junk, l.getD 49 .junk, l.getD 50 .junk, l.getD 51 .junk, l.getD 52 .junk, l.getD 53 .junk, l.getD 54 .junk, l.getD 55 .junk, l.getD 56 .junk, l.getD 57 .junk, l.getD 58 .junk, l.getD 59 .junk, l.getD 60 .junk, l.getD 61 .junk, l.getD 62 .junk, l.getD 63 .junk, l.getD 64 .junk, l.getD 65 .junk, l.getD 66 .junk, l.getD 67 .junk, l.getD 68 .junk, l.getD 69 .junk, l.getD 70 .junk, l.getD 71 .junk, l.getD 72 .junk, l.getD 73 .junk, l.getD 74 .junk, l.getD 75 .junk, l.getD 76 .junk, l.getD 77 .junk, l.getD 78 .junk, l.getD 79 .junk, l.getD 80 .junk, l.getD 81 .junk, l.getD 82 .junk, l.getD 83 .junk, l.getD 84 .junk, l.getD 85 .junk, l.getD 86 .junk, l.getD 87 .junk, l.getD 88 .junk, l.getD 89 .junk, l.getD 90 .junk, l.getD 91 .junk, l.getD 92 .junk, l.getD 93 .junk, l.getD 94 .junk, l.getD 95 .junk, l.getD 96 .junk, l.getD 97 .junk] := by
 refine List.ext_getElem (by rw [h]; rfl) (fun k h1 h2 => ?_)
 have e : l[k] = l.getD k .junk := by simp [List.getD_eq_getElem?_getD, h1]
 rw [e]
 have hk : k < 98 := by omega
 match k, hk with
 | 0, _ => rfl
 | 1, _ => rfl
 | 2, _ => rfl
 | 3, _ => rfl
 | 4, _ => rfl
 | 5, _ => rfl
 | 6, _ => rfl
 | 7, _ => rfl
 | 8, _ => rfl
 | 9, _ => rfl
 | 10, _ => rfl
 | 11, _ => rfl
 | 12, _ => rfl
 | 13, _ => rfl
 | 14, _ => rfl
 | 15, _ => rfl
 | 16, _ => rfl
 | 17, _ => rfl
 | 18, _ => rfl
 | 19, _ => rfl
 | 20, _ => rfl
 | 21, _ => rfl
 | 22, _ => rfl
 | 23, _ => rfl
 | 24, _ => rfl
 | 25, _ => rfl
 | 26, _ => rfl
 | 27, _ => rfl
 | 28, _ => rfl
 | 29, _ => rfl
 | 30, _ => rfl
 | 31, _ => rfl
 | 32, _ => rfl
 | 33, _ => rfl
 | 34, _ => rfl
 | 35, _ => rfl
 | 36, _ => rfl
 | 37, _ => rfl
 | 38, _ => rfl
 | 39, _ => rfl
 | 40, _ => rfl
 | 41, _ => rfl
 | 42, _ => rfl
 | 43, _ => rfl
 | 44, _ => rfl
 | 45, _ => rfl
 | 46, _ => rfl
 | 47, _ => rfl
 | 48, _ => rfl
 | 49, _ => rfl
 | 50, _ => rfl
 | 51, _ => rfl
 | 52, _ => rfl
 | 53, _ => rfl
 | 54, _ => rfl
 | 55, _ => rfl
 | 56, _ => rfl
 | 57, _ => rfl
 | 58, _ => rfl
 | 59, _ => rfl
 | 60, _ => rfl
 | 61, _ => rfl
 | 62, _ => rfl
 | 63, _ => rfl
 | 64, _ => rfl
 | 65, _ => rfl
 | 66, _ => rfl
 | 67, _ => rfl
 | 68, _ => rfl
 | 69, _ => rfl
 | 70, _ => rfl
 | 71, _ => rfl
 | 72, _ => rfl
 | 73, _ => rfl
 | 74, _ => rfl
 | 75, _ => rfl
 | 76, _ => rfl
 | 77, _ => rfl
 | 78, _ => rfl
 | 79, _ => rfl
 | 80, _ => rfl
 | 81, _ => rfl
 | 82, _ => rfl
 | 83, _ => rfl
 | 84, _ => rfl
 | 85, _ => rfl
 | 86, _ => rfl
 | 87, _ => rfl
 | 88, _ => rfl
 | 89, _ => rfl
 | 90, _ => rfl
 | 91, _ => rfl
 | 92, _ => rfl
 | 93, _ => rfl
 | 94, _ => rfl
 | 95, _ => rfl
 | 96, _ => rfl
 | 97, _ => rfl
 | n + 98, h => omega
def F17_0 (N : Nat) (hs : List Int) (d5 : Dv) (i : Int) (g : Nat → Dv) : List Dv := [g 0, g 1, g 2, .ref 1 0 N 4, .p (.lst false hs.length (encL en_u64 hs)), d5, .mp 2, g 7, g 8, g 9, g 10, g 11, g 12, g 13, g 14, g 15, g 16, g 17, g 18, g 19, iv (N : Int), iv i, g 22, g 23, g 24, g 25, g 26, g 27, g 28, g 29, g 30, g 31, g 32, g 33, g 34, g 35, g 36, g 37, g 38, g 39, g 40, g 41, g 42, g 43, g 44, g 45, g 46, g 47, g 48, g 49, g 50, g 51, g 52, g 53, g 54, g 55, g 56, g 57, g 58, g 59, g 60, g 61, g 62, g 63, g 64, g 65, g 66, g 67, g 68, g 69, g 70, g 71, g 72, g 73, g 74, g 75, g 76, g 77, g 78, g 79, g 80, g 81, g 82, g 83, g 84, g 85, g 86, g 87, g 88, g 89, g 90, g 91, g 92, g 93, g 94, g 95, g 96, g 97]
structure Fr17_0 (N : Nat) (hs : List Int) (d5 : Dv) (i : Int) (tm : List Dv) : Prop where
 len : tm.length = 98
 a3 : tm.getD 3 .junk = .ref 1 0 N 4
 a4 : tm.getD 4 .junk = .p (.lst false hs.length (encL en_u64 hs))
 a5 : tm.getD 5 .junk = d5
 a6 : tm.getD 6 .junk = .mp 2
 a20 : tm.getD 20 .junk = iv (N : Int)
 a21 : tm.getD 21 .junk = iv i
theorem Fr17_0.eq {N : Nat} {hs : List Int} {d5 : Dv} {i : Int} {tm : List Dv} (h : Fr17_0 N hs d5 i tm) : tm = F17_0 N hs d5 i (fun j => tm.getD j .junk) := by
 refine (list98 h.len).trans ?_
 unfold F17_0
 rw [h.a3, h.a4, h.a5, h.a6, h.a20, h.a21]
def F17_1 (N : Nat) (hs : List Int) (d5 : Dv) (i c : Int) (d : Dv) (k : Nat) (j : Int) (g : Nat → Dv) : List Dv := [g 0, g 1, g 2, .ref 1 0 N 4, .p (.lst false hs.length (encL en_u64 hs)), d5, .mp 2, iv i, iv c, g 9, g 10, g 11, g 12, g 13, g 14, g 15, g 16, g 17, g 18, g 19, iv (N : Int), iv i, g 22, g 23, g 24, g 25, g 26, g 27, g 28, d, iv (k : Int), iv j, g 32, g 33, g 34, g 35, g 36, g 37, g 38, g 39, g 40, g 41, g 42, g 43, g 44, g 45, g 46, g 47, g 48, g 49, g 50, g 51, g 52, g 53, g 54, g 55, g 56, g 57, g 58, g 59, g 60, g 61, g 62, g 63, g 64, g 65, g 66, g 67, g 68, g 69, g 70, g 71, g 72, g 73, g 74, g 75, g 76, g 77, g 78, g 79, g 80, g 81, g 82, g 83, g 84, g 85, g 86, g 87, g 88, g 89, g 90, g 91, g 92, g 93, g 94, g 95, g 96, g 97]
structure Fr17_1 (N : Nat) (hs : List Int) (d5 : Dv) (i c : Int) (d : Dv) (k : Nat) (j : Int) (tm : List Dv) : Prop where
 len : tm.length = 98
 a3 : tm.getD 3 .junk = .ref 1 0 N 4
 a4 : tm.getD 4 .junk = .p (.lst false hs.length (encL en_u64 hs))
 a5 : tm.getD 5 .junk = d5
 a6 : tm.getD 6 .junk = .mp 2
 a7 : tm.getD 7 .junk = iv i
 a8 : tm.getD 8 .junk = iv c
 a20 : tm.getD 20 .junk = iv (N : Int)
 a21 : tm.getD 21 .junk = iv i
 a29 : tm.getD 29 .junk = d
 a30 : tm.getD 30 .junk = iv (k : Int)
 a31 : tm.getD 31 .junk = iv j
theorem Fr17_1.eq {N : Nat} {hs : List Int} {d5 : Dv} {i c : Int} {d : Dv} {k : Nat} {j : Int} {tm : List Dv} (h : Fr17_1 N hs d5 i c d k j tm) : tm = F17_1 N hs d5 i c d k j (fun j => tm.getD j .junk) := by
 refine (list98 h.len).trans ?_
 unfold F17_1
 rw [h.a3, h.a4, h.a5, h.a6, h.a7, h.a8, h.a20, h.a21, h.a29, h.a30, h.a31]
def F17_2 (d5 d11 : Dv) (k : Nat) (j : Int) (g : Nat → Dv) : List Dv := [g 0, g 1, g 2, g 3, g 4, g 5, g 6, g 7, g 8, g 9, g 10, d11, g 12, g 13, g 14, g 15, g 16, g 17, g 18, g 19, g 20, g 21, g 22, g 23, g 24, g 25, g 26, g 27, g 28, g 29, g 30, g 31, g 32, g 33, g 34, g 35, g 36, g 37, g 38, g 39, g 40, g 41, g 42, g 43, g 44, g 45, g 46, g 47, g 48, g 49, g 50, g 51, g 52, g 53, g 54, g 55, g 56, g 57, g 58, g 59, g 60, g 61, g 62, g 63, g 64, g 65, g 66, g 67, g 68, g 69, g 70, g 71, g 72, g 73, g 74, g 75, g 76, g 77, g 78, g 79, g 80, g 81, g 82, d5, iv (k : Int), iv j, g 86, g 87, g 88, g 89, g 90, g 91, g 92, g 93, g 94, g 95, g 96, g 97]
structure Fr17_2 (d5 d11 : Dv) (k : Nat) (j : Int) (tm : List Dv) : Prop where
 len : tm.length = 98
 a11 : tm.getD 11 .junk = d11
 a83 : tm.getD 83 .junk = d5
 a84 : tm.getD 84 .junk = iv (k : Int)
 a85 : tm.getD 85 .junk = iv j
theorem Fr17_2.eq {d5 d11 : Dv} {k : Nat} {j : Int} {tm : List Dv} (h : Fr17_2 d5 d11 k j tm) : tm = F17_2 d5 d11 k j (fun j => tm.getD j .junk) := by
 refine (list98 h.len).trans ?_
 unfold F17_2
 rw [h.a11, h.a83, h.a84, h.a85]
theorem r17_0 {o d s} : RG 17 0 [] o d s := w_region
theorem r17_1 {o d s} : RG 17 1 [] o d s := w_region
theorem r17_2 {o d s} : RG 17 2 [] o d s := w_region
theorem r17_3 {o d s} : RG 17 3 [] o d s := w_region
theorem r17_4 {o d s} : RG 17 4 [] o d s := w_region
theorem r17_5 {o d s} : RG 17 5 [] o d s := w_region
theorem r17_6 {o d s} : RG 17 6 [] o d s := w_region
theorem r17_7 {o d s} : RG 17 7 [] o d s := w_region
theorem r17_8 {o d s} : RG 17 8 [] o d s := w_region
theorem r17_9 {o d s} : RG 17 9 [] o d s := w_region
theorem r17_10 {o d s} : RG 17 10 [] o d s := w_region
theorem r17_11 {o d s} : RG 17 11 [] o d s := w_region
theorem r17_12 {o d s} : RG 17 12 [] o d s := w_region
theorem r17_13 {o d s} : RG 17 13 [] o d s := w_region
theorem r17_14 {o d s} : RG 17 14 [] o d s := w_region
theorem r17_15 {o d s} : RG 17 15 [] o d s := w_region
theorem r17_16 {o d s} : RG 17 16 [] o d s := w_region
theorem r17_17 {o d s} : RG 17 17 [] o d s := w_region
theorem r17_19 {o d s} : RG 17 19 [.vary 5] o d s := w_region
theorem r17_20 {o d s} : RG 17 20 [] o d s := w_region
theorem r17_21 {o d s} : RG 17 21 [] o d s := w_region
theorem r17_22 {o d s} : RG 17 22 [] o d s := w_region
theorem r17_23 {o d s} : RG 17 23 [] o d s := w_region
theorem r17_24 {o d s} : RG 17 24 [] o d s := w_region
theorem r17_25 {o d s} : RG 17 25 [] o d s := w_region
theorem r17_26 {o d s} : RG 17 26 [] o d s := w_region
theorem r17_27 {o d s} : RG 17 27 [] o d s := w_region
theorem r17_28 {o d s} : RG 17 28 [] o d s := w_region
theorem r17_18 {o s} : RZq 17 18 [] [(4, 13)] o s := w_regionZq rfl rfl
set_option linter.defProp false in
def rs17 := And.intro @r17_28 (And.intro @r17_27 (And.intro @r17_26 (And.intro @r17_25 (And.intro @r17_24 (And.intro @r17_23 (And.intro @r17_22 (And.intro @r17_21 (And.intro @r17_20 (And.intro @r17_19 (And.intro @r17_18 (And.intro @r17_17 (And.intro @r17_16 (And.intro @r17_15 (And.intro @r17_14 (And.intro @r17_13 (And.intro @r17_12 (And.intro @r17_11 (And.intro @r17_10 (And.intro @r17_9 (And.intro @r17_8 (And.intro @r17_7 (And.intro @r17_6 (And.intro @r17_5 (And.intro @r17_4 (And.intro @r17_3 (And.intro @r17_2 (And.intro @r17_1 (@r17_0))))))))))))))))))))))))))))
noncomputable def L17_0 : Code := (loopsOf (bodyOf Try.f17)).getD 0 .skip
noncomputable def L17_1 : Code := (loopsOf (bodyOf Try.f17)).getD 1 .skip
noncomputable def L17_2 : Code := (loopsOf (bodyOf Try.f17)).getD 2 .skip
theorem it17_1n {N : Nat} {hs : List Int} {d5 d : Dv} {i c : Int} {k j : Nat} {tm : List Dv} (hf : Fr17_1 N hs d5 i c d k (j : Int) tm) (hj : j < k) (hk : k < 2 ^ 62) {H : List Ob} {t g0 r n : Nat} {v f : Int} {x y : Node}
  (hix : idxD Try.prog 40 d (iv (j : Int)) = some (.ptr t (ato (j : Int) 1))) (hld : ldOb H[t]? (ato (j : Int) 1) = some (iv v))
  (hg : idxD Try.prog 33 d5 (iv v) = some (.ptr g0 (ato v 1))) (hgl : ldOb H[g0]? (ato v 1) = some (.ref r 0 n 1))
  (hr : idxD Try.prog 40 (.ref r 0 n 1) (iv 0) = some (.ptr r (ato 0 1))) (hrl : ldOb H[r]? (ato 0 1) = some (iv f))
  (hp : idxD Try.prog 23 (.ref 1 0 N 4) (iv f) = some (.ptr 1 (ato f 4))) (hpl : lkOb H[1]? (ato f 4) 4 = some (.p (.agg (pv_Node x))))
  (hq : idxD Try.prog 23 (.ref 1 0 N 4) (iv i) = some (.ptr 1 (ato i 4))) (hql : lkOb H[1]? (ato i 4) 4 = some (.p (.agg (pv_Node y)))) {b : Bool}
  (hc : callD (callW Try.prog A0) A0 H 39 [.p (.agg (pv_Node x)), .p (.agg (pv_Node y))] = some (bv b, none)) :
  (b = false → ∃ tm', Fr17_1 N hs d5 i c d k ((j + 1 : Nat) : Int) tm' ∧ evW Try.prog A0 17 (.loop L17_1) ⟨tm, H, 0⟩ = evW Try.prog A0 17 (.loop L17_1) ⟨tm', H, 0⟩) ∧
  (b = true → ∃ tm', Fr17_1 N hs d5 i v d k (j : Int) tm' ∧ evW Try.prog A0 17 (.loop L17_1) ⟨tm, H, 0⟩ = some (.exit 2, ⟨tm', H, 0⟩)) := by
 have hlt : (j : Int) < (k : Int) := by omega
 have e1 : w64 ((j : Int) + 1) = ((j + 1 : Nat) : Int) := w64_succ (by omega)
 constructor
 ·intro hb
  subst hb
  rw [hf.eq]
  generalize (fun j => tm.getD j .junk) = g
  rw [w_loop]
  unfold L17_1 bodyOf Try.f17 F17_1
  simp only [loopsOf, ens]
  simp (maxSteps := 10000000) (implicitDefEqProofs := false) (disch := first | with_reducible assumption | exact rfl | exact im_ _ | (fail_if_success show Kn _ _); omega) only [bs, rs17, Nat.reduceAdd, ↓reduceIte, loadD_ptr a3, loadD_ptr a40, loadD_pagg a25 z25, hix, hld, hg, hgl, hr, hrl, hp, hpl, hq, hql, hc, e1, hlt, loopW_normal]
  refine ⟨_, ?_, rfl⟩
  exact ⟨rfl, rfl, rfl, rfl, rfl, rfl, rfl, rfl, rfl, rfl, rfl, rfl⟩
 ·intro hb
  subst hb
  rw [hf.eq]
  generalize (fun j => tm.getD j .junk) = g
  rw [w_loop]
  unfold L17_1 bodyOf Try.f17 F17_1
  simp only [loopsOf, ens]
  simp (maxSteps := 10000000) (implicitDefEqProofs := false) (disch := first | with_reducible assumption | exact rfl | exact im_ _ | (fail_if_success show Kn _ _); omega) only [bs, rs17, Nat.reduceAdd, ↓reduceIte, loadD_ptr a3, loadD_ptr a40, loadD_pagg a25 z25, hix, hld, hg, hgl, hr, hrl, hp, hpl, hq, hql, hc, e1, hlt, loopW_exit]
  refine ⟨_, ?_, rfl⟩
  exact ⟨rfl, rfl, rfl, rfl, rfl, rfl, rfl, rfl, rfl, rfl, rfl, rfl⟩
theorem out17_1 {N : Nat} {hs : List Int} {d5 d : Dv} {i c : Int} {k : Nat} {tm : List Dv} {H : List Ob} (hf : Fr17_1 N hs d5 i c d k (k : Int) tm) :
  ∃ tm', Fr17_1 N hs d5 i c d k (k : Int) tm' ∧ evW Try.prog A0 17 (.loop L17_1) ⟨tm, H, 0⟩ = some (.exit 2, ⟨tm', H, 0⟩) := by
 have hlt : ¬ (k : Int) < (k : Int) := by omega
 rw [hf.eq]
 generalize (fun j => tm.getD j .junk) = g
 rw [w_loop]
 unfold L17_1 bodyOf Try.f17 F17_1
 simp only [loopsOf, ens]
 simp (maxSteps := 10000000) (implicitDefEqProofs := false) (disch := first | with_reducible assumption | exact rfl | exact im_ _ | (fail_if_success show Kn _ _); omega) only [bs, rs17, Nat.reduceAdd, ↓reduceIte, hlt, loopW_exit]
 refine ⟨_, ?_, rfl⟩
 exact ⟨rfl, rfl, rfl, rfl, rfl, rfl, rfl, rfl, rfl, rfl, rfl, rfl⟩
theorem vary17 {tm : List Dv} {H H' : List Ob} {x : Dv} (h : tm.getD 5 .junk = x) (hv : ∀ tm : List Dv, tm.getD 5 .junk = x → ghostsD [.vary 5] ⟨tm, H, 0⟩ = some ⟨tm, H', 0⟩) : ghostsD [.vary 5] ⟨tm, H, 0⟩ = some ⟨tm, H', 0⟩ := hv tm h
theorem bs_40_1h {x : Int} {H : List Ob} : bsD Try.prog H 40 1 [(0, iv x)] = some (.p (.lst true 1 [.v (.int .i64 x)]), none) := by kernel_rfl
theorem bs_33_0h {H : List Ob} : bsD Try.prog H 33 1 [(0, .p (.lst true 0 []))] = some (.p (.lst true 1 [.lst true 0 []]), none) := by kernel_rfl
theorem it17_0o {N : Nat} {hs : List Int} {d5 : Dv} {i : Nat} {tm : List Dv} (hf : Fr17_0 N hs d5 (i : Int) tm) (hi : i < N) (hN : N < 2 ^ 40) {H : List Ob} {h c j : Int} {d : Dv} {k g0 : Nat} {e : Dv} {cell : Dv} {H2 H3 : List Ob}
  (hh : rd hs (i : Int) = some h) (hlk : lookupD Try.prog H 62 (.mp 2) (.p (.v (.int .u64 h))) false = some d) (hlen : lenD Try.prog 40 d = some (iv (k : Int)))
  (hin0 : ∀ tm1, Fr17_1 N hs d5 (i : Int) (-1) d k 0 tm1 → ∃ G : Nat → Dv, evW Try.prog A0 17 (.loop L17_1) ⟨tm1, H, 0⟩ = some (.exit 2, ⟨F17_1 N hs d5 (i : Int) c d k j G, H, 0⟩)) (hc : ¬ c < 0)
  (hv : ∀ tm : List Dv, tm.getD 5 .junk = d5 → ghostsD [.vary 5] ⟨tm, H, 0⟩ = some ⟨tm, H, 0⟩)
  (hix : idxD Try.prog 33 d5 (iv c) = some (.ptr g0 (ato c 1))) (hld : ldOb H[g0]? (ato c 1) = some cell)
  (hap : appendD Try.prog H #[40, 40] cell (.p (.lst true 1 [.v (.int .i64 (i : Int))])) = some (e, H2)) (hst : storeD Try.prog H2 40 (.ptr g0 (ato c 1)) e = some H3) :
  ∃ tm', Fr17_0 N hs d5 ((i + 1 : Nat) : Int) tm' ∧ evW Try.prog A0 17 (.loop L17_0) ⟨tm, H, 0⟩ = evW Try.prog A0 17 (.loop L17_0) ⟨tm', H3, 0⟩ := by
 obtain ⟨G, hG⟩ := Classical.axiomOfChoice (r := fun (x : {tm // Fr17_1 N hs d5 (i : Int) (-1) d k 0 tm}) (G : Nat → Dv) => evW Try.prog A0 17 (.loop L17_1) ⟨x.1, H, 0⟩ = some (.exit 2, ⟨F17_1 N hs d5 (i : Int) c d k j G, H, 0⟩)) (fun x => hin0 x.1 x.2)
 have hin : ∀ tm1 (hf : Fr17_1 N hs d5 (i : Int) (-1) d k 0 tm1), evW Try.prog A0 17 (.loop L17_1) ⟨tm1, H, 0⟩ = some (.exit 2, ⟨F17_1 N hs d5 (i : Int) c d k j (G ⟨tm1, hf⟩), H, 0⟩) := fun tm1 hf => hG ⟨tm1, hf⟩
 clear hG hin0
 unfold L17_1 bodyOf Try.f17 F17_1 at hin
 simp only [loopsOf, ens] at hin
 have hlt : (i : Int) < (N : Int) := by omega
 obtain ⟨hh0, hh1, _⟩ := rd_some hh
 have e1 : w64 ((i : Int) + 1) = ((i + 1 : Nat) : Int) := w64_succ (by omega)
 rw [hf.eq]
 generalize (fun j => tm.getD j .junk) = g
 rw [w_loop]
 unfold L17_0 bodyOf Try.f17 F17_0
 simp only [loopsOf, ens]
 simp (maxSteps := 10000000) (implicitDefEqProofs := false) (disch := first | with_reducible assumption | exact rfl | exact im_ _ | (exact ⟨rfl, rfl, rfl, rfl, rfl, rfl, rfl, rfl, rfl, rfl, rfl, rfl⟩) | (fail_if_success show Kn _ _); omega) only [bs, rs17, Nat.reduceAdd, ↓reduceIte, idxL_29, loadD_iptr a50, ce_50_x, ops_lookup, ops_mapUpdate, hlk, hlen, hin, hc, e1, hlt, loopW_normal]
 rw [vary17 (x := d5) rfl hv]
 simp (maxSteps := 10000000) (implicitDefEqProofs := false) (disch := first | with_reducible assumption | exact rfl | exact im_ _ | (exact ⟨rfl, rfl, rfl, rfl, rfl, rfl, rfl, rfl, rfl, rfl, rfl, rfl⟩) | (fail_if_success show Kn _ _); omega) only [bs, rs17, Nat.reduceAdd, ↓reduceIte, loadD_ptr a40, bs_40_1h, hix, hld, hap, hst, e1, loopW_normal]
 refine ⟨_, ?_, rfl⟩
 exact ⟨rfl, rfl, rfl, rfl, rfl, rfl, rfl⟩
theorem it17_0n {N : Nat} {hs : List Int} {d5 d5' : Dv} {i : Nat} {tm : List Dv} (hf : Fr17_0 N hs d5 (i : Int) tm) (hi : i < N) (hN : N < 2 ^ 40) {H : List Ob} {h c j : Int} {d : Dv} {k g0 m : Nat} {e e2 : Dv} {cell : Dv} {H1 H2 H3 H4 H5 H6 : List Ob}
  (hh : rd hs (i : Int) = some h) (hlk : lookupD Try.prog H 62 (.mp 2) (.p (.v (.int .u64 h))) false = some d) (hlen : lenD Try.prog 40 d = some (iv (k : Int)))
  (hin0 : ∀ tm1, Fr17_1 N hs d5 (i : Int) (-1) d k 0 tm1 → ∃ G : Nat → Dv, evW Try.prog A0 17 (.loop L17_1) ⟨tm1, H, 0⟩ = some (.exit 2, ⟨F17_1 N hs d5 (i : Int) c d k j G, H, 0⟩)) (hc : c < 0)
  (hln : lenD Try.prog 33 d5 = some (iv (m : Int))) (hap1 : appendD Try.prog H #[33, 33] d5 (.p (.lst true 1 [.lst true 0 []])) = some (d5', H1))
  (hlk2 : lookupD Try.prog H1 62 (.mp 2) (.p (.v (.int .u64 h))) false = some d) (hap2 : appendD Try.prog H1 #[40, 40] d (.p (.lst true 1 [.v (.int .i64 (m : Int))])) = some (e2, H2))
  (hup : mapUpdateD Try.prog H2 62 (.mp 2) (.p (.v (.int .u64 h))) e2 = some H3)
  (hv : ∀ tm : List Dv, tm.getD 5 .junk = d5' → ghostsD [.vary 5] ⟨tm, H3, 0⟩ = some ⟨tm, H4, 0⟩)
  (hix : idxD Try.prog 33 d5' (iv (m : Int)) = some (.ptr g0 (ato (m : Int) 1))) (hld : ldOb H4[g0]? (ato (m : Int) 1) = some cell)
  (hap : appendD Try.prog H4 #[40, 40] cell (.p (.lst true 1 [.v (.int .i64 (i : Int))])) = some (e, H5)) (hst : storeD Try.prog H5 40 (.ptr g0 (ato (m : Int) 1)) e = some H6) :
  ∃ tm', Fr17_0 N hs d5' ((i + 1 : Nat) : Int) tm' ∧ evW Try.prog A0 17 (.loop L17_0) ⟨tm, H, 0⟩ = evW Try.prog A0 17 (.loop L17_0) ⟨tm', H6, 0⟩ := by
 obtain ⟨G, hG⟩ := Classical.axiomOfChoice (r := fun (x : {tm // Fr17_1 N hs d5 (i : Int) (-1) d k 0 tm}) (G : Nat → Dv) => evW Try.prog A0 17 (.loop L17_1) ⟨x.1, H, 0⟩ = some (.exit 2, ⟨F17_1 N hs d5 (i : Int) c d k j G, H, 0⟩)) (fun x => hin0 x.1 x.2)
 have hin : ∀ tm1 (hf : Fr17_1 N hs d5 (i : Int) (-1) d k 0 tm1), evW Try.prog A0 17 (.loop L17_1) ⟨tm1, H, 0⟩ = some (.exit 2, ⟨F17_1 N hs d5 (i : Int) c d k j (G ⟨tm1, hf⟩), H, 0⟩) := fun tm1 hf => hG ⟨tm1, hf⟩
 clear hG hin0
 unfold L17_1 bodyOf Try.f17 F17_1 at hin
 simp only [loopsOf, ens] at hin
 have hlt : (i : Int) < (N : Int) := by omega
 obtain ⟨hh0, hh1, _⟩ := rd_some hh
 have e1 : w64 ((i : Int) + 1) = ((i + 1 : Nat) : Int) := w64_succ (by omega)
 rw [hf.eq]
 generalize (fun j => tm.getD j .junk) = g
 rw [w_loop]
 unfold L17_0 bodyOf Try.f17 F17_0
 simp only [loopsOf, ens]
 simp (maxSteps := 10000000) (implicitDefEqProofs := false) (disch := first | with_reducible assumption | exact rfl | exact im_ _ | (exact ⟨rfl, rfl, rfl, rfl, rfl, rfl, rfl, rfl, rfl, rfl, rfl, rfl⟩) | (fail_if_success show Kn _ _); omega) only [bs, rs17, Nat.reduceAdd, ↓reduceIte, idxL_29, loadD_iptr a50, ce_50_x, ops_lookup, ops_mapUpdate, hlk, hlen, hin, hc, e1, hlt, hln, bs_33_0h, hap1, hlk2, bs_40_1h, hap2, hup, loopW_normal]
 rw [doneZ_some (by kernel_rfl)]
 simp (maxSteps := 10000000) (implicitDefEqProofs := false) (disch := first | with_reducible assumption | exact rfl | exact im_ _ | (exact ⟨rfl, rfl, rfl, rfl, rfl, rfl, rfl, rfl, rfl, rfl, rfl, rfl⟩) | (fail_if_success show Kn _ _); omega) only [bs, rs17, Nat.reduceAdd, ↓reduceIte]
 rw [vary17 (x := d5') rfl hv]
 simp (maxSteps := 10000000) (implicitDefEqProofs := false) (disch := first | with_reducible assumption | exact rfl | exact im_ _ | (exact ⟨rfl, rfl, rfl, rfl, rfl, rfl, rfl, rfl, rfl, rfl, rfl, rfl⟩) | (fail_if_success show Kn _ _); omega) only [bs, rs17, Nat.reduceAdd, ↓reduceIte, loadD_ptr a40, bs_40_1h, hix, hld, hap, hst, e1, loopW_normal]
 refine ⟨_, ?_, rfl⟩
 exact ⟨rfl, rfl, rfl, rfl, rfl, rfl, rfl⟩
theorem out17_0 {N : Nat} {hs : List Int} {d5 : Dv} {tm : List Dv} {H : List Ob} (hf : Fr17_0 N hs d5 (N : Int) tm) :
  ∃ tm', Fr17_0 N hs d5 (N : Int) tm' ∧ evW Try.prog A0 17 (.loop L17_0) ⟨tm, H, 0⟩ = some (.exit 0, ⟨tm', H, 0⟩) := by
 have hlt : ¬ (N : Int) < (N : Int) := by omega
 rw [hf.eq]
 generalize (fun j => tm.getD j .junk) = g
 rw [w_loop]
 unfold L17_0 bodyOf Try.f17 F17_0
 simp only [loopsOf, ens]
 simp (maxSteps := 10000000) (implicitDefEqProofs := false) (disch := first | with_reducible assumption | exact rfl | exact im_ _ | (fail_if_success show Kn _ _); omega) only [bs, rs17, Nat.reduceAdd, ↓reduceIte, hlt, loopW_exit]
 refine ⟨_, ?_, rfl⟩
 exact ⟨rfl, rfl, rfl, rfl, rfl, rfl, rfl⟩
theorem it17_2s {d5 d11 : Dv} {k j : Nat} {tm : List Dv} (hf : Fr17_2 d5 d11 k (j : Int) tm) (hj : j < k) (hk : k < 2 ^ 62) {H : List Ob} {g0 r n : Nat} (hn : ¬ (1 : Int) < (n : Int))
  (hix : idxD Try.prog 33 d5 (iv (j : Int)) = some (.ptr g0 (ato (j : Int) 1))) (hld : ldOb H[g0]? (ato (j : Int) 1) = some (.ref r 0 n 1)) :
  ∃ tm', Fr17_2 d5 d11 k ((j + 1 : Nat) : Int) tm' ∧ evW Try.prog A0 17 (.loop L17_2) ⟨tm, H, 0⟩ = evW Try.prog A0 17 (.loop L17_2) ⟨tm', H, 0⟩ := by
 have hlt : (j : Int) < (k : Int) := by omega
 have e1 : w64 ((j : Int) + 1) = ((j + 1 : Nat) : Int) := w64_succ (by omega)
 rw [hf.eq]
 generalize (fun j => tm.getD j .junk) = g
 rw [w_loop]
 unfold L17_2 bodyOf Try.f17 F17_2
 simp only [loopsOf, ens]
 simp (maxSteps := 10000000) (implicitDefEqProofs := false) (disch := first | with_reducible assumption | exact rfl | exact im_ _ | (fail_if_success show Kn _ _); omega) only [bs, rs17, Nat.reduceAdd, ↓reduceIte, loadD_ptr a40, lenD_ref u40, hix, hld, hn, e1, hlt, loopW_normal]
 refine ⟨_, ?_, rfl⟩
 exact ⟨rfl, rfl, rfl, rfl, rfl⟩
theorem it17_2l {d5 d11 d12 : Dv} {p : Pv} {k j : Nat} {tm : List Dv} (hf : Fr17_2 d5 d11 k (j : Int) tm) (hj : j < k) (hk : k < 2 ^ 62) {H H2 H3 : List Ob} {g0 r n : Nat} (hn : (1 : Int) < (n : Int))
  (hix : idxD Try.prog 33 d5 (iv (j : Int)) = some (.ptr g0 (ato (j : Int) 1))) (hld : ldOb H[g0]? (ato (j : Int) 1) = some (.ref r 0 n 1))
  (hbs : bsD Try.prog H 33 1 [(0, .ref r 0 n 1)] = some (.p p, some H2)) (hap : appendD Try.prog H2 #[33, 33] d11 (.p p) = some (d12, H3)) :
  ∃ tm', Fr17_2 d5 d12 k ((j + 1 : Nat) : Int) tm' ∧ evW Try.prog A0 17 (.loop L17_2) ⟨tm, H, 0⟩ = evW Try.prog A0 17 (.loop L17_2) ⟨tm', H3, 0⟩ := by
 have hlt : (j : Int) < (k : Int) := by omega
 have e1 : w64 ((j : Int) + 1) = ((j + 1 : Nat) : Int) := w64_succ (by omega)
 rw [hf.eq]
 generalize (fun j => tm.getD j .junk) = g
 rw [w_loop]
 unfold L17_2 bodyOf Try.f17 F17_2
 simp only [loopsOf, ens]
 simp (maxSteps := 10000000) (implicitDefEqProofs := false) (disch := first | with_reducible assumption | exact rfl | exact im_ _ | (fail_if_success show Kn _ _); omega) only [bs, rs17, Nat.reduceAdd, ↓reduceIte, loadD_ptr a40, lenD_ref u40, hix, hld, hn, hbs, hap, e1, hlt, loopW_normal]
 refine ⟨_, ?_, rfl⟩
 exact ⟨rfl, rfl, rfl, rfl, rfl⟩
theorem out17_2 {d5 d11 : Dv} {k : Nat} {tm : List Dv} {H : List Ob} (hf : Fr17_2 d5 d11 k (k : Int) tm) :
  ∃ tm', Fr17_2 d5 d11 k (k : Int) tm' ∧ evW Try.prog A0 17 (.loop L17_2) ⟨tm, H, 0⟩ = some (.exit 4, ⟨tm', H, 0⟩) := by
 have hlt : ¬ (k : Int) < (k : Int) := by omega
 rw [hf.eq]
 generalize (fun j => tm.getD j .junk) = g
 rw [w_loop]
 unfold L17_2 bodyOf Try.f17 F17_2
 simp only [loopsOf, ens]
 simp (maxSteps := 10000000) (implicitDefEqProofs := false) (disch := first | with_reducible assumption | exact rfl | exact im_ _ | (fail_if_success show Kn _ _); omega) only [bs, rs17, Nat.reduceAdd, ↓reduceIte, hlt, loopW_exit]
 refine ⟨_, ?_, rfl⟩
 exact ⟨rfl, rfl, rfl, rfl, rfl⟩
theorem M62 : MapTy Try.prog 62 50 40 .u64 := ⟨Try.underlying62, Try.underlying50, (by intro k b; cases b <;> kernel_rfl), (by kernel_rfl), u40, z3, b3, zc3⟩
def cellG (e : Nat × List Int) : Dv := .ref e.1 0 e.2.length 1
structure GI17 (Gm : List (Nat × List Int)) (d5 : Dv) (H : List Ob) : Prop where
 row : ∀ e ∈ Gm, H[e.1]? = some (.arr (encL en1 e.2))
 nd : (Gm.map (·.1)).Nodup
 top : (Gm = [] ∧ d5 = .p (.lst true 0 [])) ∨ ∃ g, d5 = .ref g 0 Gm.length 1 ∧ Gm ≠ [] ∧ H[g]? = some (.var (Gm.map cellG))
structure Inv17 (L : List Node) (T : Fam) (Gm : List (Nat × List Int)) (d5 : Dv) (H : List Ob) : Prop where
 fam : FamI .u64 2 T H
 grp : GI17 Gm d5 H
 prt : H[1]? = some (.arr (encL en_Node L))
 dis : ∀ e ∈ T, ∀ e' ∈ Gm, e.2.1 ≠ e'.1
 ge : ∀ e ∈ T, 2 < e.2.1
 geG : ∀ e ∈ Gm, 2 < e.1
theorem ato1 (q : Nat) : ato (q : Int) 1 = q := by unfold ato; omega
theorem at_arr {H : List Ob} {t : Nat} {row : List Int} {j : Nat} {v : Int} (h : H[t]? = some (.arr (encL en1 row))) (hj : row[j]? = some v) : ldOb H[t]? (ato (j : Int) 1) = some (iv v) := by
 rw [h, ldOb_arr]
 have : (encL en1 row)[ato (j : Int) 1]? = some (.v (.int .i64 v)) := (encL_cell en1_len (show rd row (j : Int) = some v by rw [rd_nat]; exact hj) (k := 0) (by decide)).trans rfl
 rw [this]; rfl
theorem at_var {H : List Ob} {g : Nat} {cs : List Dv} {q : Nat} {c : Dv} (h : H[g]? = some (.var cs)) (hq : cs[q]? = some c) : ldOb H[g]? (ato (q : Int) 1) = some c := by
 rw [h, ldOb_var, ato1, hq]
theorem at_node {H : List Ob} {L : List Node} {k : Nat} {v : Node} (h : H[1]? = some (.arr (encL en_Node L))) (hv : L[k]? = some v) : lkOb H[1]? (ato (k : Int) 4) 4 = some (.p (.agg (pv_Node v))) := by
 rw [h]
 exact (lkOb_arr en_Node_len (show rd L (k : Int) = some v by rw [rd_nat]; exact hv)).trans (by rw [en_Node_eq])
theorem idx33 {g m q : Nat} (h : q < m) : idxD Try.prog 33 (.ref g 0 m 1) (iv (q : Int)) = some (.ptr g (ato (q : Int) 1)) := idx_ref u33 z40 (by decide) (by omega) (by omega)
theorem idx40 {g m q : Nat} (h : q < m) : idxD Try.prog 40 (.ref g 0 m 1) (iv (q : Int)) = some (.ptr g (ato (q : Int) 1)) := idx_ref u40 z3 (by decide) (by omega) (by omega)
theorem idx23 {g m q : Nat} (h : q < m) : idxD Try.prog 23 (.ref g 0 m 4) (iv (q : Int)) = some (.ptr g (ato (q : Int) 4)) := idx_ref u23 z25 (by decide) (by omega) (by omega)
theorem st_cell {H : List Ob} {g q r n : Nat} {cs : List Dv} (h : H[g]? = some (.var cs)) (hq : q < cs.length) : storeD Try.prog H 40 (.ptr g (ato (q : Int) 1)) (.ref r 0 n 1) = some (H.set g (.var (cs.set q (.ref r 0 n 1)))) := by
 rw [storeD_gref z40, h, ato1]
 show (if _ then _ else _) = _
 rw [if_pos ⟨rfl, by omega⟩]
 rfl
theorem call39 {H : List Ob} {x y : Node} (h : size x < 2 ^ 40) {b : Bool} (hb : tree_SameS x y = some b) : callD (callW Try.prog A0) A0 H 39 [.p (.agg (pv_Node x)), .p (.agg (pv_Node y))] = some (bv b, none) :=
 callD_fun (args := [.agg (pv_Node x), .agg (pv_Node y)]) rfl rfl rfl (by simp only [List.map_cons, List.map_nil, wk, wks, wkL]; exact f39_spec x y _ hb)
theorem loop17_1 {L : List Node} {Gm : List (Nat × List Int)} {g : Nat} {H : List Ob} {N : Nat} {hs : List Int} {i t : Nat} {Q : List Nat} {y : Node} (hN : N = L.length) (hL : ∀ (k : Nat) v, L[k]? = some v → size v < 2 ^ 40)
  (hp : H[1]? = some (.arr (encL en_Node L))) (hG : H[g]? = some (.var (Gm.map cellG))) (hrow : ∀ e ∈ Gm, H[e.1]? = some (.arr (encL en1 e.2))) (ht : H[t]? = some (.arr (encL en1 (Q.map fun (q : Nat) => (q : Int))))) (hQl : Q.length < 2 ^ 62)
  (hy : L[i]? = some y) (hQ : ∀ q ∈ Q, ∃ r f l, Gm[q]? = some (r, (f : Int) :: l) ∧ 0 ≤ f ∧ f.toNat < N) :
  ∀ (l : List Nat) (j : Nat), Q.drop j = l → j ≤ Q.length → ∃ jj : Int, ∀ tm, Fr17_1 N hs (.ref g 0 Gm.length 1) (i : Int) (-1) (.ref t 0 Q.length 1) Q.length (j : Int) tm →
   ∃ tm', Fr17_1 N hs (.ref g 0 Gm.length 1) (i : Int) (match l.find? (fun q => decide (tree_SameS (nodeL L (((Gm.map (·.2)).getD q []).headD 0)) y = some true)) with | some q => (q : Int) | none => -1) (.ref t 0 Q.length 1) Q.length jj tm' ∧
    evW Try.prog A0 17 (.loop L17_1) ⟨tm, H, 0⟩ = some (.exit 2, ⟨tm', H, 0⟩)
 | [], j, hl, hj => by
  obtain rfl := drop_nil hl hj
  exact ⟨_, fun tm hf => out17_1 hf⟩
 | q :: l, j, hl, hj => by
  obtain ⟨hq, hl', hj'⟩ := drop_cons hl
  obtain ⟨r, f, rest, hGq, hf0, hfN⟩ := hQ q (List.mem_of_getElem? hq)
  have hqG := (List.getElem?_eq_some_iff.1 hGq).1
  obtain ⟨x, hx⟩ : ∃ x, L[f.toNat]? = some x := ⟨_, List.getElem?_eq_getElem (by omega)⟩
  have hi := (List.getElem?_eq_some_iff.1 hy).1
  obtain ⟨m, rfl⟩ : ∃ m : Nat, f = m := ⟨f.toNat, by omega⟩
  simp only [Int.toNat_natCast] at hx hfN
  have hxs := hL m x hx
  obtain ⟨b, hb⟩ : ∃ b, tree_SameS x y = some b := ⟨_, if_pos hxs⟩
  have hnode : nodeL L (((Gm.map (·.2)).getD q []).headD 0) = x := by
   rw [List.getD_eq_getElem?_getD, List.getElem?_map, hGq]
   simp only [Option.map_some, Option.getD_some, List.headD_cons, nodeL, Int.toNat_natCast]
   rw [List.getD_eq_getElem?_getD, hx]; rfl
  have hc := call39 (H := H) hxs hb
  have hld : ldOb H[t]? (ato (j : Int) 1) = some (iv (q : Int)) := at_arr ht (by rw [List.getElem?_map, hq]; rfl)
  have hgl : ldOb H[g]? (ato (q : Int) 1) = some (.ref r 0 ((m : Int) :: rest).length 1) := at_var hG (by rw [List.getElem?_map, hGq]; rfl)
  have hrl : ldOb H[r]? (ato ((0 : Nat) : Int) 1) = some (iv (m : Int)) := at_arr (hrow _ (List.mem_of_getElem? hGq)) rfl
  cases b with
  | false =>
   obtain ⟨jj, ih⟩ := loop17_1 hN hL hp hG hrow ht hQl hy hQ l (j + 1) hl' (by omega)
   refine ⟨jj, fun tm hf => ?_⟩
   obtain ⟨tm1, f1, e1⟩ := (it17_1n hf hj' hQl (idx40 hj') hld (idx33 hqG) hgl (idx40 (q := 0) (by simp)) hrl (idx23 hfN) (at_node hp hx) (idx23 (by omega)) (at_node hp hy) hc).1 rfl
   obtain ⟨tm2, f2, e2⟩ := ih tm1 f1
   refine ⟨tm2, ?_, e1.trans e2⟩
   rw [List.find?_cons, hnode, hb]
   exact f2
  | true =>
   refine ⟨(j : Int), fun tm hf => ?_⟩
   obtain ⟨tm1, f1, e1⟩ := (it17_1n hf hj' hQl (idx40 hj') hld (idx33 hqG) hgl (idx40 (q := 0) (by simp)) hrl (idx23 hfN) (at_node hp hx) (idx23 (by omega)) (at_node hp hy) hc).2 rfl
   refine ⟨tm1, ?_, e1⟩
   rw [List.find?_cons, hnode, hb]
   exact f1
def idxQ (hs : List Int) (Gs : List (List Int)) (h : Int) : List Nat := (List.range Gs.length).filter fun q => decide (hs.getD ((Gs.getD q []).headD 0).toNat 0 = h)
def RowsOk (N : Nat) (Gs : List (List Int)) : Prop := ∀ row ∈ Gs, ∃ (m : Nat) (l : List Int), row = (m : Int) :: l ∧ m < N
theorem fnd17 {L : List Node} {hs : List Int} {Gs : List (List Int)} {i : Nat} {y : Node} (hL : ∀ k, size (nodeL L k) < 2 ^ 40) (hy : L[i]? = some y) :
  (idxQ hs Gs (hs.getD i 0)).find? (fun q => decide (tree_SameS (nodeL L ((Gs.getD q []).headD 0)) y = some true)) = (List.range Gs.length).find? fun q => grpP L hs i (Gs.getD q []) := by
 unfold idxQ
 rw [List.find?_filter]
 congr 1
 funext q
 have e : nodeL L (i : Int) = y := by unfold nodeL; rw [Int.toNat_natCast, List.getD_eq_getElem?_getD, hy]; rfl
 unfold grpP tree_SameS
 rw [if_pos (hL _), e]
 congr 1
 rw [Bool.eq_iff_iff]
 simp only [decide_eq_true_eq, Option.some.injEq, Bool.and_eq_true]
theorem idxQ_set {hs : List Int} {Gs : List (List Int)} {q : Nat} {m : Int} {l : List Int} {x : Int} (hq : Gs[q]? = some (m :: l)) (h : Int) : idxQ hs (Gs.set q (m :: l ++ [x])) h = idxQ hs Gs h := by
 unfold idxQ
 rw [List.length_set]
 apply List.filter_congr
 intro k hk
 have e : ((Gs.set q (m :: l ++ [x])).getD k []).headD 0 = (Gs.getD k []).headD 0 := by
  by_cases hkq : q = k
  ·subst hkq
   have hlt := (List.getElem?_eq_some_iff.1 hq).1
   rw [List.getD_eq_getElem?_getD, List.getElem?_set_self hlt, List.getD_eq_getElem?_getD, hq]
   rfl
  ·rw [List.getD_eq_getElem?_getD, List.getElem?_set_ne hkq, List.getD_eq_getElem?_getD]
 rw [e]
theorem idxQ_new {hs : List Int} {Gs : List (List Int)} {i : Nat} (h : Int) : (idxQ hs (Gs ++ [[(i : Int)]]) h).map (fun (q : Nat) => (q : Int)) = (idxQ hs Gs h).map (fun (q : Nat) => (q : Int)) ++ if hs.getD i 0 = h then [(Gs.length : Int)] else [] := by
 unfold idxQ
 rw [List.length_append, List.length_singleton, List.range_succ, List.filter_append, List.map_append]
 congr 1
 ·congr 1
  apply List.filter_congr
  intro k hk
  rw [List.mem_range] at hk
  have e : (Gs ++ [[(i : Int)]]).getD k [] = Gs.getD k [] := by rw [List.getD_eq_getElem?_getD, List.getElem?_append_left hk, List.getD_eq_getElem?_getD]
  rw [e]
 ·have e : (Gs ++ [[(i : Int)]]).getD Gs.length [] = [(i : Int)] := by rw [List.getD_eq_getElem?_getD, List.getElem?_append_right (Nat.le_refl _), Nat.sub_self]; rfl
  simp only [List.filter_cons, e, List.headD_cons, Int.toNat_natCast, List.filter_nil]
  by_cases hh : hs.getD i 0 = h
  ·rw [decide_eq_true hh, if_pos rfl, if_pos hh]; rfl
  ·rw [decide_eq_false hh, if_neg (by simp), if_neg hh]; rfl
theorem nodup_set {T : Type} {x : T} : ∀ {l : List T} {i : Nat}, l.Nodup → x ∉ l → (l.set i x).Nodup
 | [], i, _, _ => by simp
 | a :: l, 0, h, hx => by
  rw [List.set_cons_zero, List.nodup_cons]
  exact ⟨fun e => hx (List.mem_cons_of_mem _ e), (List.nodup_cons.1 h).2⟩
 | a :: l, i + 1, h, hx => by
  rw [List.set_cons_succ, List.nodup_cons]
  obtain ⟨h1, h2⟩ := List.nodup_cons.1 h
  refine ⟨fun e => ?_, nodup_set h2 (fun e => hx (List.mem_cons_of_mem _ e))⟩
  rcases List.mem_or_eq_of_mem_set e with e | e
  ·exact h1 e
  ·exact hx (by rw [e]; exact List.mem_cons_self)
theorem inner17 {L : List Node} {T : Fam} {Gm : List (Nat × List Int)} {d5 : Dv} {H : List Ob} (hI : Inv17 L T Gm d5 H) {N : Nat} {hs : List Int} {i : Nat} {y : Node} (hN : N = L.length) (hN2 : N < 2 ^ 40) (hL : ∀ (k : Nat) v, L[k]? = some v → size v < 2 ^ 40)
  (hy : L[i]? = some y) (hR : RowsOk N (Gm.map (·.2))) (hGl : Gm.length ≤ N) {h : Int} (hT : lookR T h = (idxQ hs (Gm.map (·.2)) h).map fun (q : Nat) => (q : Int)) :
  ∃ d k jj, lookupD Try.prog H 62 (.mp 2) (.p (.v (.int .u64 h))) false = some d ∧ lenD Try.prog 40 d = some (iv ((k : Nat) : Int)) ∧ ∀ tm1, Fr17_1 N hs d5 (i : Int) (-1) d k 0 tm1 →
   ∃ G : Nat → Dv, evW Try.prog A0 17 (.loop L17_1) ⟨tm1, H, 0⟩ = some (.exit 2, ⟨F17_1 N hs d5 (i : Int) (match (idxQ hs (Gm.map (·.2)) h).find? (fun q => decide (tree_SameS (nodeL L (((Gm.map (·.2)).getD q []).headD 0)) y = some true)) with | some q => (q : Int) | none => -1) d k jj G, H, 0⟩) := by
 generalize hQ : idxQ hs (Gm.map (·.2)) h = Q at hT ⊢
 have hQm : ∀ q ∈ Q, q < Gm.length := by
  intro q hq
  rw [← hQ] at hq
  unfold idxQ at hq
  have := List.mem_range.1 (List.mem_filter.1 hq).1
  simpa using this
 have hQl : Q.length ≤ Gm.length := by
  rw [← hQ]
  unfold idxQ
  refine Nat.le_trans (List.length_filter_le _ _) ?_
  simp
 have fin : ∀ {d : Dv} {k : Nat} {jj c : Int} {tm1 : List Dv}, (∃ tm', Fr17_1 N hs d5 (i : Int) c d k jj tm' ∧ evW Try.prog A0 17 (.loop L17_1) ⟨tm1, H, 0⟩ = some (.exit 2, ⟨tm', H, 0⟩)) → ∃ G : Nat → Dv, evW Try.prog A0 17 (.loop L17_1) ⟨tm1, H, 0⟩ = some (.exit 2, ⟨F17_1 N hs d5 (i : Int) c d k jj G, H, 0⟩) := by
  intro d k jj c tm1 ⟨tm', f, e⟩
  exact ⟨fun j => tm'.getD j .junk, by rw [← f.eq]; exact e⟩
 cases ha : atK T h with
 | none =>
  have e0 : lookR T h = [] := by simp [lookR, ha]
  have eQ : Q = [] := by rw [e0] at hT; exact List.map_eq_nil_iff.1 hT.symm
  subst eQ
  exact ⟨_, 0, _, hI.fam.lookup_none M62 ha, lenD_lst u40, fun tm1 hf => fin (out17_1 (k := 0) hf)⟩
 | some k0 =>
  obtain ⟨e, he, hk⟩ := atK_some ha
  have hm : e ∈ T := List.mem_of_getElem? he
  have e0 : lookR T h = e.2.2 := by simp [lookR, ha, he]
  have er : e.2.2 = Q.map fun (q : Nat) => (q : Int) := by rw [← e0]; exact hT
  have el : e.2.2.length = Q.length := by rw [er, List.length_map]
  have hlk := hI.fam.lookup_some M62 ha he
  rw [el] at hlk
  cases hQ0 : Q with
  | nil =>
   subst hQ0
   exact ⟨_, 0, _, hlk, lenD_ref u40, fun tm1 hf => fin (out17_1 (k := 0) hf)⟩
  | cons q0 Q0 =>
   rw [← hQ0]
   rcases hI.grp.top with ⟨h1, _⟩ | ⟨g, h1, h2, h3⟩
   ·have := hQm q0 (by rw [hQ0]; exact List.mem_cons_self)
    rw [h1] at this; simp at this
   ·have hrow := hI.fam.row e hm
    rw [er] at hrow
    subst h1
    obtain ⟨jj, hl⟩ := loop17_1 (hs := hs) (i := i) hN hL hI.prt h3 hI.grp.row hrow (by omega) hy (fun q hq => by
     have hlt := hQm q hq
     obtain ⟨m, l, e1, e2⟩ := hR (Gm[q].2) (List.mem_map.2 ⟨Gm[q], List.getElem_mem hlt, rfl⟩)
     exact ⟨Gm[q].1, m, l, by rw [List.getElem?_eq_getElem hlt, ← e1], by omega, by simpa using e2⟩) Q 0 rfl (by omega)
    exact ⟨_, Q.length, jj, hlk, lenD_ref u40, fun tm1 hf => fin (hl tm1 hf)⟩
theorem Inv17.lt1 {L : List Node} {T : Fam} {Gm : List (Nat × List Int)} {d5 : Dv} {H : List Ob} (hI : Inv17 L T Gm d5 H) : 1 < H.length := (List.getElem?_eq_some_iff.1 hI.prt).1
theorem vary_var {H : List Ob} {g n : Nat} {cs : List Dv} (h : H[g]? = some (.var cs)) (tm : List Dv) (ht : tm.getD 5 .junk = .ref g 0 n 1) : ghostsD [.vary 5] ⟨tm, H, 0⟩ = some ⟨tm, H, 0⟩ := by
 simp only [ghostsD, ghostD, ht, h, Option.bind_some]
theorem vary_arr {H : List Ob} {g n : Nat} {c : Pv} {cs : List Pv} (h : H[g]? = some (.arr (c :: cs))) (tm : List Dv) (ht : tm.getD 5 .junk = .ref g 0 n 1) : ghostsD [.vary 5] ⟨tm, H, 0⟩ = some ⟨tm, H.set g (.var ((c :: cs).map .p)), 0⟩ := by
 simp only [ghostsD, ghostD, ht, h, Option.bind_some]
theorem old17 {L : List Node} {T : Fam} {Gm : List (Nat × List Int)} {d5 : Dv} {H : List Ob} (hI : Inv17 L T Gm d5 H) {q i : Nat} {e : Nat × List Int} (hq : Gm[q]? = some e) (hb : e.2.length ≤ 2 ^ 30) :
  ∃ g0 e1 H2 H3, (∀ tm : List Dv, tm.getD 5 .junk = d5 → ghostsD [.vary 5] ⟨tm, H, 0⟩ = some ⟨tm, H, 0⟩) ∧ idxD Try.prog 33 d5 (iv (q : Int)) = some (.ptr g0 (ato (q : Int) 1)) ∧ ldOb H[g0]? (ato (q : Int) 1) = some (cellG e) ∧
   appendD Try.prog H #[40, 40] (cellG e) (.p (.lst true 1 [.v (.int .i64 (i : Int))])) = some (e1, H2) ∧ storeD Try.prog H2 40 (.ptr g0 (ato (q : Int) 1)) e1 = some H3 ∧ Inv17 L T (Gm.set q (H.length, e.2 ++ [(i : Int)])) d5 H3 := by
 have hm : e ∈ Gm := List.mem_of_getElem? hq
 have hqG := (List.getElem?_eq_some_iff.1 hq).1
 obtain ⟨g, h1, h2, h3⟩ : ∃ g, d5 = .ref g 0 Gm.length 1 ∧ Gm ≠ [] ∧ H[g]? = some (.var (Gm.map cellG)) := by
  rcases hI.grp.top with ⟨h1, _⟩ | h
  ·rw [h1] at hm; cases hm
  ·exact h
 subst h1
 have hre := hI.grp.row e hm
 have hge := hI.geG e hm
 have hel := (List.getElem?_eq_some_iff.1 hre).1
 have hgl := (List.getElem?_eq_some_iff.1 h3).1
 have hrg : ∀ {x : Nat} {cs : List Pv}, H[x]? = some (.arr cs) → g ≠ x := by
  intro x cs hx e0; subst e0; rw [h3] at hx; cases hx
 have hg2 : g ≠ 2 := by intro e0; subst e0; rw [hI.fam.mp] at h3; cases h3
 have hg1 := hrg hI.prt
 have hap := row_app (P := Try.prog) (x := (i : Int)) u40 z3 b3 zc3 hre rfl hb
 have hH2 : (H.set e.1 .dead ++ [Ob.arr (encL en1 (e.2 ++ [(i : Int)]))])[g]? = some (.var (Gm.map cellG)) := get_snoc (by rw [List.getElem?_set_ne (hrg hre).symm]; exact h3)
 have hst := st_cell (r := H.length) (n := (e.2 ++ [(i : Int)]).length) hH2 (show q < (Gm.map cellG).length by rw [List.length_map]; exact hqG)
 have get3 : ∀ y, y < H.length → y ≠ e.1 → y ≠ g → ((H.set e.1 .dead ++ [Ob.arr (encL en1 (e.2 ++ [(i : Int)]))]).set g (Ob.var ((Gm.map cellG).set q (.ref H.length 0 (e.2 ++ [(i : Int)]).length 1))))[y]? = H[y]? := by
  intro y h1 h2 h3
  rw [List.getElem?_set_ne (Ne.symm h3), List.getElem?_append_left (by rw [List.length_set]; exact h1), List.getElem?_set_ne (Ne.symm h2)]
 have getN : ((H.set e.1 .dead ++ [Ob.arr (encL en1 (e.2 ++ [(i : Int)]))]).set g (Ob.var ((Gm.map cellG).set q (.ref H.length 0 (e.2 ++ [(i : Int)]).length 1))))[H.length]? = some (.arr (encL en1 (e.2 ++ [(i : Int)]))) := by
  rw [List.getElem?_set_ne (by omega)]
  have : (H.set e.1 Ob.dead).length = H.length := by simp
  rw [← this]; exact getC
 have hcell : (Gm.map cellG)[q]? = some (cellG e) := by rw [List.getElem?_map, hq]; rfl
 refine ⟨g, _, _, _, vary_var h3, idx33 hqG, at_var h3 hcell, hap, hst, ?_, ⟨?_, ?_, ?_⟩, ?_, ?_, hI.ge, ?_⟩
 ·refine hI.fam.of ?_ (fun x hx => ?_)
  ·exact get3 2 hI.fam.zlt (by omega) (Ne.symm hg2)
  ·exact get3 _ (hI.fam.lt hx) (hI.dis x hx e hm) (Ne.symm (hrg (hI.fam.row x hx)))
 ·intro x hx
  obtain ⟨k, hk⟩ := List.mem_iff_getElem?.1 hx
  by_cases hkq : q = k
  ·subst hkq
   rw [List.getElem?_set_self hqG] at hk
   obtain rfl := Option.some.inj hk
   exact getN
  ·rw [List.getElem?_set_ne hkq] at hk
   have hxG : x ∈ Gm := List.mem_of_getElem? hk
   have hne : x.1 ≠ e.1 := by
    intro e0
    exact hkq ((List.getElem?_inj (i := q) (j := k) (l := Gm.map (·.1)) (by simpa using hqG) hI.grp.nd).1 (by simp [hq, hk, e0]))
   have hrx := hI.grp.row x hxG
   rw [get3 x.1 (List.getElem?_eq_some_iff.1 hrx).1 hne (Ne.symm (hrg hrx))]
   exact hrx
 ·rw [List.map_set]
  refine nodup_set hI.grp.nd (fun hx => ?_)
  obtain ⟨x, hx, e0⟩ := List.mem_map.1 hx
  have := (List.getElem?_eq_some_iff.1 (hI.grp.row x hx)).1
  omega
 ·refine Or.inr ⟨g, by rw [List.length_set], by intro e0; exact h2 (by simpa using e0), ?_⟩
  rw [List.getElem?_set_self (by rw [List.length_append, List.length_set]; omega), List.map_set]
  rfl
 ·rw [get3 1 hI.lt1 (by omega) (Ne.symm hg1)]
  exact hI.prt
 ·intro x hx y hy
  rcases List.mem_or_eq_of_mem_set hy with hy | rfl
  ·exact hI.dis x hx y hy
  ·have := hI.fam.lt hx
   exact Nat.ne_of_lt this
 ·intro y hy
  rcases List.mem_or_eq_of_mem_set hy with hy | rfl
  ·exact hI.geG y hy
  ·have := hI.fam.zlt
   exact this
theorem appG_nil {H : List Ob} : appendD Try.prog H #[33, 33] (.p (.lst true 0 [])) (.p (.lst true 1 [.lst true 0 []])) = some (.ref H.length 0 1 1, H ++ [.arr [.lst true 0 []]]) := by
 rw [appendD_apn u33 u33 z40 b40 zc40 ⟨by decide, by decide, rfl⟩]
 rfl
theorem appG_var {H : List Ob} {g n : Nat} {cs : List Dv} {x : Pv} (h : H[g]? = some (.var cs)) (hn : n = cs.length) (h0 : n ≠ 0) (hb : n ≤ 2 ^ 30) : appendD Try.prog H #[33, 33] (.ref g 0 n 1) (.p (.lst true 1 [x])) = some (.ref H.length 0 (n + 1) 1, H.set g .dead ++ [.var (cs ++ [.p x])]) := by
 have e0 : srcT Try.prog #[33, 33] = true := by kernel_rfl
 have e1 : (#[33, 33] : Array TypeId)[0]? = some 33 := rfl
 have e2 : srcCells Try.prog H 1 (.p (.lst true 1 [x])) = some (1, [x]) := rfl
 simp only [appendD, e1, Option.bind_some, u33, z40, b40, zc40, e0, List.length_singleton]
 rw [if_neg (by decide)]
 simp only [e2, Option.bind_some, h]
 rw [if_pos (by refine ⟨?_, h0, ?_, ?_⟩ <;> first | trivial | omega)]
 rw [List.drop_zero, List.take_of_length_le (by omega)]
 rfl
theorem lookup_same {T : Fam} {H H1 : List Ob} {k : Dv} (h : FamI .u64 2 T H) (h1 : FamI .u64 2 T H1) : lookupD Try.prog H1 62 (.mp 2) k false = lookupD Try.prog H 62 (.mp 2) k false := by
 simp only [lookupD, h.ents, h1.ents]
theorem new17 {L : List Node} {T : Fam} {Gm : List (Nat × List Int)} {d5 : Dv} {H : List Ob} (hI : Inv17 L T Gm d5 H) {i : Nat} {h : Int} (hGl : Gm.length ≤ 2 ^ 30) (hTl : ∀ k, (lookR T k).length ≤ 2 ^ 30) {d : Dv} (hlk : lookupD Try.prog H 62 (.mp 2) (.p (.v (.int .u64 h))) false = some d) :
  ∃ d5' H1 e2 H2 H3 H4 g0 e H5 H6 T' r, lenD Try.prog 33 d5 = some (iv (Gm.length : Int)) ∧ appendD Try.prog H #[33, 33] d5 (.p (.lst true 1 [.lst true 0 []])) = some (d5', H1) ∧
   lookupD Try.prog H1 62 (.mp 2) (.p (.v (.int .u64 h))) false = some d ∧ appendD Try.prog H1 #[40, 40] d (.p (.lst true 1 [.v (.int .i64 (Gm.length : Int))])) = some (e2, H2) ∧ mapUpdateD Try.prog H2 62 (.mp 2) (.p (.v (.int .u64 h))) e2 = some H3 ∧
   (∀ tm : List Dv, tm.getD 5 .junk = d5' → ghostsD [.vary 5] ⟨tm, H3, 0⟩ = some ⟨tm, H4, 0⟩) ∧ idxD Try.prog 33 d5' (iv (Gm.length : Int)) = some (.ptr g0 (ato (Gm.length : Int) 1)) ∧ ldOb H4[g0]? (ato (Gm.length : Int) 1) = some (.p (.lst true 0 [])) ∧
   appendD Try.prog H4 #[40, 40] (.p (.lst true 0 [])) (.p (.lst true 1 [.v (.int .i64 (i : Int))])) = some (e, H5) ∧ storeD Try.prog H5 40 (.ptr g0 (ato (Gm.length : Int) 1)) e = some H6 ∧
   Inv17 L T' (Gm ++ [(r, [(i : Int)])]) d5' H6 ∧ ∀ k, lookR T' k = lookR T k ++ if h = k then [(Gm.length : Int)] else [] := by
 have hl1 := hI.lt1
 have hz := hI.fam.zlt
 obtain ⟨d5', H1, hln, hap1, hd5, hkeep, hlen1, hnew⟩ : ∃ d5' H1, lenD Try.prog 33 d5 = some (iv (Gm.length : Int)) ∧ appendD Try.prog H #[33, 33] d5 (.p (.lst true 1 [.lst true 0 []])) = some (d5', H1) ∧ d5' = .ref H.length 0 (Gm.length + 1) 1 ∧
   (∀ y o, H[y]? = some o → (∀ cs, o ≠ Ob.var cs) → H1[y]? = some o) ∧ H1.length = H.length + 1 ∧ ((Gm = [] ∧ H1[H.length]? = some (.arr [.lst true 0 []])) ∨ (H1[H.length]? = some (.var (Gm.map cellG ++ [.p (.lst true 0 [])])))) := by
  rcases hI.grp.top with ⟨h1, h2⟩ | ⟨g, h1, h2, h3⟩
  ·subst h1 h2
   exact ⟨_, _, lenD_lst u33, appG_nil, rfl, fun y o hy _ => get_snoc hy, by simp, Or.inl ⟨rfl, getC⟩⟩
  ·subst h1
   have hgl := (List.getElem?_eq_some_iff.1 h3).1
   have h0 : Gm.length ≠ 0 := fun e => h2 (List.length_eq_zero_iff.1 e)
   refine ⟨_, _, lenD_ref u33, appG_var h3 (by rw [List.length_map]) h0 hGl, rfl, fun y o hy ho => ?_, by simp, Or.inr ?_⟩
   ·have hne : g ≠ y := by intro e0; subst e0; rw [h3] at hy; exact ho _ (Option.some.inj hy).symm
    exact get_snoc (by rw [List.getElem?_set_ne hne]; exact hy)
   ·have : (H.set g Ob.dead).length = H.length := by simp
    rw [← this]; exact getC
 have hfam1 : FamI .u64 2 T H1 := ⟨hkeep _ _ hI.fam.mp (fun cs e => by cases e), fun x hx => hkeep _ _ (hI.fam.row x hx) (fun cs e => by cases e), hI.fam.nd⟩
 obtain ⟨d', e2, H2, H3, T', k1, k2, k3, k4, k5, k6, k7, k8⟩ := fam_add M62 hfam1 h (Gm.length : Int) hTl
 have hd' : d' = d := by rw [lookup_same hI.fam hfam1, hlk] at k1; exact (Option.some.inj k1).symm
 subst hd'
 have hT0 : ∀ x ∈ T, x.2.1 ≠ H.length := fun x hx => Nat.ne_of_lt (hI.fam.lt hx)
 have hk3 : ∀ {y : Nat} {o : Ob}, H1[y]? = some o → y ≠ 2 → (∀ x ∈ T, x.2.1 ≠ y) → H3[y]? = some o := fun {y o} => k6 y o
 obtain ⟨H4, hv, hH4, hke4, hl4⟩ : ∃ H4, (∀ tm : List Dv, tm.getD 5 .junk = d5' → ghostsD [.vary 5] ⟨tm, H3, 0⟩ = some ⟨tm, H4, 0⟩) ∧ H4[H.length]? = some (.var (Gm.map cellG ++ [.p (.lst true 0 [])])) ∧ (∀ y, y ≠ H.length → H4[y]? = H3[y]?) ∧ H4.length = H3.length := by
  subst hd5
  rcases hnew with ⟨h1, h2⟩ | h2
  ·subst h1
   have h3 := hk3 h2 (by omega) hT0
   refine ⟨_, vary_arr h3, ?_, fun y hy => List.getElem?_set_ne (Ne.symm hy), by simp⟩
   rw [List.getElem?_set_self (List.getElem?_eq_some_iff.1 h3).1]
   rfl
  ·exact ⟨H3, vary_var (hk3 h2 (by omega) hT0), hk3 h2 (by omega) hT0, fun y hy => rfl, rfl⟩
 have hap := nil_app (P := Try.prog) (H := H4) (x := (i : Int)) u40 z3 b3 zc3
 have hcell : (Gm.map cellG ++ [Dv.p (.lst true 0 [])])[Gm.length]? = some (Dv.p (.lst true 0 [])) := by
  rw [List.getElem?_append_right (by rw [List.length_map]; exact Nat.le_refl _), List.length_map, Nat.sub_self]; rfl
 have hst := st_cell (r := H4.length) (n := 1) (get_snoc (x := .arr (encL en1 [(i : Int)])) hH4) (show Gm.length < (Gm.map cellG ++ [Dv.p (.lst true 0 [])]).length by simp)
 have hset : (Gm.map cellG ++ [Dv.p (.lst true 0 [])]).set Gm.length (.ref H4.length 0 1 1) = (Gm ++ [(H4.length, [(i : Int)])]).map cellG := by
  rw [List.set_append_right _ _ (by rw [List.length_map]; exact Nat.le_refl _), List.length_map, Nat.sub_self, List.map_append]
  rfl
 have hL4 : H4.length = H.length + 2 := by omega
 have get6 : ∀ {y : Nat} {o : Ob}, H4[y]? = some o → y ≠ H.length → ((H4 ++ [Ob.arr (encL en1 [(i : Int)])]).set H.length (Ob.var ((Gm.map cellG ++ [Dv.p (.lst true 0 [])]).set Gm.length (.ref H4.length 0 1 1))))[y]? = some o := by
  intro y o hy hne
  rw [List.getElem?_set_ne (Ne.symm hne)]
  exact get_snoc hy
 have hGkeep : ∀ x ∈ Gm, H4[x.1]? = some (.arr (encL en1 x.2)) ∧ x.1 < H.length := by
  intro x hx
  have h1 := hI.grp.row x hx
  have h2 := (List.getElem?_eq_some_iff.1 h1).1
  have h3 := hI.geG x hx
  refine ⟨?_, h2⟩
  rw [hke4 _ (by omega)]
  exact hk3 (hkeep _ _ h1 (fun cs e => by cases e)) (by omega) (fun y hy => hI.dis y hy x hx)
 have hTm : ∀ x ∈ T', 2 < x.2.1 ∧ x.2.1 ≠ H.length ∧ x.2.1 < H4.length ∧ ∀ y ∈ Gm, x.2.1 ≠ y.1 := by
  intro x hx
  rcases k7 x hx with ⟨x', hx', e0⟩ | e0
  ·have h1 := hI.ge x' hx'
   have h2 := hI.fam.lt hx'
   rw [← e0]
   exact ⟨h1, by omega, by omega, hI.dis x' hx'⟩
  ·rw [e0, hlen1]
   exact ⟨by omega, by omega, by omega, fun y hy => by have := (hGkeep y hy).2; omega⟩
 refine ⟨d5', H1, e2, H2, H3, H4, H.length, _, _, _, T', H4.length, hln, hap1, by rw [lookup_same hI.fam hfam1, hlk], k2, k3, hv, by rw [hd5]; exact idx33 (by omega), at_var hH4 hcell, hap, hst, ⟨?_, ⟨?_, ?_, ?_⟩, ?_, ?_, ?_, ?_⟩, k5⟩
 ·refine ⟨?_, fun x hx => ?_, k4.nd⟩
  ·exact get6 (by rw [hke4 2 (by omega)]; exact k4.mp) (by omega)
  ·have hx' := hTm x hx
   exact get6 (by rw [hke4 _ hx'.2.1]; exact k4.row x hx) hx'.2.1
 ·intro x hx
  rcases List.mem_append.1 hx with hx | hx
  ·obtain ⟨h1, h2⟩ := hGkeep x hx
   exact get6 h1 (by omega)
  ·obtain rfl : x = (H4.length, [(i : Int)]) := by simpa using hx
   show (List.set _ _ _)[H4.length]? = _
   rw [List.getElem?_set_ne (by omega)]
   exact getC
 ·rw [List.map_append, List.nodup_append]
  refine ⟨hI.grp.nd, by simp, fun a ha b hb => ?_⟩
  obtain ⟨x, hx, rfl⟩ := List.mem_map.1 ha
  obtain rfl : b = H4.length := by simpa using hb
  have := (hGkeep x hx).2
  omega
 ·refine Or.inr ⟨H.length, by rw [hd5, List.length_append]; rfl, by simp, ?_⟩
  rw [List.getElem?_set_self (by rw [List.length_append, List.length_singleton]; omega), hset]
 ·have h1 := hkeep _ _ hI.prt (fun cs e => by cases e)
  exact get6 (by rw [hke4 1 (by omega)]; exact hk3 h1 (by omega) (fun x hx => by have := hI.ge x hx; omega)) (by omega)
 ·intro x hx y hy
  rcases List.mem_append.1 hy with hy | hy
  ·exact (hTm x hx).2.2.2 y hy
  ·obtain rfl : y = (H4.length, [(i : Int)]) := by simpa using hy
   exact Nat.ne_of_lt (hTm x hx).2.2.1
 ·intro x hx
  exact (hTm x hx).1
 ·intro y hy
  rcases List.mem_append.1 hy with hy | hy
  ·exact hI.geG y hy
  ·obtain rfl : y = (H4.length, [(i : Int)]) := by simpa using hy
   show 2 < H4.length
   omega
theorem grps_ok (L : List Node) (hs : List Int) : ∀ i, (∀ row ∈ grps L hs i, (∃ (m : Nat) (l : List Int), row = (m : Int) :: l ∧ m < i) ∧ row.length ≤ i) ∧ (grps L hs i).length ≤ i
 | 0 => by
  simp only [grps]
  exact ⟨(fun row h => by cases h), Nat.le_refl _⟩
 | i + 1 => by
  obtain ⟨h1, h2⟩ := grps_ok L hs i
  have up : ∀ row ∈ grps L hs i, (∃ (m : Nat) (l : List Int), row = (m : Int) :: l ∧ m < i + 1) ∧ row.length ≤ i + 1 := by
   intro row hr
   obtain ⟨⟨m, l, e, hm⟩, hl⟩ := h1 row hr
   exact ⟨⟨m, l, e, by omega⟩, by omega⟩
  simp only [grps, grpStep]
  split
  ·rename_i q hq
   have hlt : q < (grps L hs i).length := List.mem_range.1 (List.mem_of_find?_eq_some hq)
   refine ⟨fun row hr => ?_, by rw [List.length_set]; omega⟩
   rcases List.mem_or_eq_of_mem_set hr with hr | rfl
   ·exact up row hr
   ·have hm : (grps L hs i).getD q [] ∈ grps L hs i := by
     rw [List.getD_eq_getElem?_getD, List.getElem?_eq_getElem hlt]
     exact List.getElem_mem hlt
    obtain ⟨⟨m, l, e, hm2⟩, hl⟩ := h1 _ hm
    refine ⟨⟨m, l ++ [(i : Int)], by rw [e]; rfl, by omega⟩, ?_⟩
    rw [List.length_append, List.length_singleton]; omega
  ·refine ⟨fun row hr => ?_, by rw [List.length_append, List.length_singleton]; omega⟩
   rcases List.mem_append.1 hr with hr | hr
   ·exact up row hr
   ·obtain rfl : row = [(i : Int)] := by simpa using hr
    exact ⟨⟨i, [], rfl, by omega⟩, by simp⟩
theorem loop17_0 {L : List Node} {hs : List Int} {N : Nat} (hN : N = L.length) (hN2 : N ≤ 2 ^ 20) (hh : hs.length = N) (hL : ∀ (k : Nat) v, L[k]? = some v → size v < 2 ^ 40) : ∀ (c i : Nat), i + c = N → ∀ T Gm d5 H, Inv17 L T Gm d5 H → Gm.map (·.2) = grps L hs i → (∀ k, lookR T k = (idxQ hs (grps L hs i) k).map fun (q : Nat) => (q : Int)) →
  ∃ T' Gm' d5' H', Inv17 L T' Gm' d5' H' ∧ Gm'.map (·.2) = grps L hs N ∧ ∀ tm, Fr17_0 N hs d5 (i : Int) tm → ∃ tm', Fr17_0 N hs d5' (N : Int) tm' ∧ evW Try.prog A0 17 (.loop L17_0) ⟨tm, H, 0⟩ = some (.exit 0, ⟨tm', H', 0⟩) := by
 intro c
 induction c with
 | zero =>
  intro i hi T Gm d5 H hI hG hT
  obtain rfl : i = N := by omega
  exact ⟨T, Gm, d5, H, hI, hG, fun tm hf => out17_0 hf⟩
 | succ c ih =>
  intro i hi T Gm d5 H hI hG hT
  have hiN : i < N := by omega
  obtain ⟨y, hy⟩ : ∃ y, L[i]? = some y := ⟨_, List.getElem?_eq_getElem (by omega)⟩
  obtain ⟨h, hh0⟩ : ∃ h, hs[i]? = some h := ⟨_, List.getElem?_eq_getElem (by omega)⟩
  have hrd : rd hs (i : Int) = some h := by rw [rd_nat]; exact hh0
  have hgd : hs.getD i 0 = h := by rw [List.getD_eq_getElem?_getD, hh0]; rfl
  obtain ⟨ok1, ok2⟩ := grps_ok L hs i
  have hGl : Gm.length ≤ i := by rw [← hG] at ok2; simpa using ok2
  have hL' : ∀ k, size (nodeL L k) < 2 ^ 40 := by
   intro k
   unfold nodeL
   rw [List.getD_eq_getElem?_getD]
   cases hk : L[k.toNat]? with
   | none => simp only [Option.getD_none]; simp [size, sizes]
   | some v => exact hL _ v hk
  have hR : RowsOk N (Gm.map (·.2)) := by
   intro row hr
   rw [hG] at hr
   obtain ⟨⟨m, l, e, hm⟩, _⟩ := ok1 row hr
   exact ⟨m, l, e, by omega⟩
  have hTb : ∀ k, (lookR T k).length ≤ 2 ^ 30 := by
   intro k
   rw [hT k, List.length_map]
   unfold idxQ
   refine Nat.le_trans (List.length_filter_le _ _) ?_
   rw [List.length_range]; omega
  obtain ⟨d, k, jj, k1, k2, k3⟩ := inner17 hI hN (by omega) hL hy hR (by omega) (h := h) (by rw [hG]; exact hT h)
  have hfn := fnd17 (L := L) (hs := hs) (Gs := Gm.map (·.2)) (i := i) hL' hy
  rw [hgd] at hfn
  rw [hfn] at k3
  have hlen : (Gm.map (·.2)).length = Gm.length := by simp
  cases hq : (List.range (Gm.map (·.2)).length).find? (fun q => grpP L hs i ((Gm.map (·.2)).getD q [])) with
  | some q =>
   rw [hq] at k3
   have hlt : q < Gm.length := by
    have := List.mem_range.1 (List.mem_of_find?_eq_some hq)
    simpa using this
   obtain ⟨e, he⟩ : ∃ e, Gm[q]? = some e := ⟨_, List.getElem?_eq_getElem hlt⟩
   have hem : e.2 ∈ grps L hs i := by rw [← hG]; exact List.mem_map.2 ⟨e, List.mem_of_getElem? he, rfl⟩
   obtain ⟨⟨m, l, e0, _⟩, hel⟩ := ok1 _ hem
   obtain ⟨g0, e1, H2, H3, o1, o2, o3, o4, o5, o6⟩ := old17 (i := i) hI he (by omega)
   have hge : (Gm.map (·.2)).getD q [] = e.2 := by rw [List.getD_eq_getElem?_getD, List.getElem?_map, he]; rfl
   have hG' : (Gm.set q (H.length, e.2 ++ [(i : Int)])).map (·.2) = grps L hs (i + 1) := by
    rw [List.map_set]
    simp only [grps, grpStep]
    rw [← hG, hq]
    simp only [hge]
   obtain ⟨T2, Gm2, d2, H', g1, g2, g3⟩ := ih (i + 1) (by omega) T _ d5 H3 o6 hG' (fun k => by
    rw [← hG', List.map_set, hT k, ← hG]
    congr 1
    rw [e0]
    exact (idxQ_set (by rw [List.getElem?_map, he, ← e0]; rfl) k).symm)
   refine ⟨T2, Gm2, d2, H', g1, g2, fun tm hf => ?_⟩
   obtain ⟨tm1, f1, e2⟩ := it17_0o hf hiN (by omega) hrd k1 k2 k3 (show ¬ ((q : Nat) : Int) < 0 by omega) o1 o2 o3 o4 o5
   obtain ⟨tm2, f2, e3⟩ := g3 tm1 f1
   exact ⟨tm2, f2, e2.trans e3⟩
  | none =>
   rw [hq] at k3
   obtain ⟨d5', H1, e2, H2, H3, H4, g0, e, H5, H6, T', r, o1, o2, o3, o4, o5, o6, o7, o8, o9, o10, o11, o12⟩ := new17 (i := i) hI (by omega) hTb k1
   have hG' : (Gm ++ [(r, [(i : Int)])]).map (·.2) = grps L hs (i + 1) := by
    rw [List.map_append]
    simp only [grps, grpStep]
    rw [← hG, hq]
    rfl
   obtain ⟨T2, Gm2, d2, H', g1, g2, g3⟩ := ih (i + 1) (by omega) T' _ d5' H6 o11 hG' (fun k => by
    rw [o12 k, hT k, ← hG', List.map_append, ← hG]
    have := idxQ_new (hs := hs) (Gs := Gm.map (·.2)) (i := i) k
    rw [hgd, hlen] at this
    exact this.symm)
   refine ⟨T2, Gm2, d2, H', g1, g2, fun tm hf => ?_⟩
   obtain ⟨tm1, f1, e3⟩ := it17_0n hf hiN (by omega) hrd k1 k2 k3 (show (-1 : Int) < 0 by omega) o1 o2 o3 o4 o5 o6 o7 o8 o9 o10
   obtain ⟨tm2, f2, e4⟩ := g3 tm1 f1
   exact ⟨tm2, f2, e3.trans e4⟩
def Out17 (out : List (List Int)) (d11 : Dv) (H : List Ob) : Prop := (out = [] ∧ d11 = .p (.lst true 0 [])) ∨ ∃ o, d11 = .ref o 0 out.length 1 ∧ H[o]? = some (.arr (encL en_Li64 out))
theorem out_app {out : List (List Int)} {d11 : Dv} {H : List Ob} (h : Out17 out d11 H) (hb : out.length ≤ 2 ^ 30) (row : List Int) : ∃ d12 H', appendD Try.prog H #[33, 33] d11 (.p (.lst true 1 [.lst false row.length (encL en_i64 row)])) = some (d12, H') ∧ Out17 (out ++ [row]) d12 H' ∧
  (∀ y o, H[y]? = some o → (∀ n, d11 ≠ .ref y 0 n 1) → H'[y]? = some o) ∧ (∃ n, d12 = .ref H.length 0 n 1) := by
 rcases h with ⟨rfl, rfl⟩ | ⟨o, rfl, ho⟩
 ·refine ⟨.ref H.length 0 1 1, H ++ [.arr (encL en_Li64 [row])], ?_, Or.inr ⟨_, rfl, getC⟩, fun y o hy _ => get_snoc hy, _, rfl⟩
  rw [appendD_apn u33 u33 z40 b40 zc40 ⟨by decide, by decide, rfl⟩]
  rfl
 ·refine ⟨.ref H.length 0 (out ++ [row]).length 1, H.set o .dead ++ [.arr (encL en_Li64 (out ++ [row]))], ?_, Or.inr ⟨_, rfl, ?_⟩, fun y x hy hne => ?_, _, rfl⟩
  ·rw [appendD_ap u33 u33 z40 b40 zc40 ⟨by decide, by decide, rfl⟩, ho]
   exact ap_enc (y := [row]) en_Li64_len rfl rfl rfl (by omega)
  ·have : (H.set o Ob.dead).length = H.length := by simp
   rw [← this]; exact getC
  ·have : o ≠ y := by intro e0; subst e0; exact hne _ rfl
   exact get_snoc (by rw [List.getElem?_set_ne this]; exact hy)
theorem loop17_2 {Gm : List (Nat × List Int)} {g : Nat} (hGl : Gm.length ≤ 2 ^ 20) : ∀ (l : List (Nat × List Int)) (j : Nat), Gm.drop j = l → j ≤ Gm.length → ∀ (out : List (List Int)) (d11 : Dv) (H : List Ob), out.length ≤ j → Out17 out d11 H → H[g]? = some (.var (Gm.map cellG)) → (∀ e ∈ l, H[e.1]? = some (.arr (encL en1 e.2)) ∧ ∀ n, d11 ≠ .ref e.1 0 n 1) → (l.map (·.1)).Nodup → (∀ n, d11 ≠ .ref g 0 n 1) →
  ∃ d12 H', Out17 (out ++ (l.map (·.2)).filter fun r => decide (1 < r.length)) d12 H' ∧ ∀ tm, Fr17_2 (.ref g 0 Gm.length 1) d11 Gm.length (j : Int) tm → ∃ tm', Fr17_2 (.ref g 0 Gm.length 1) d12 Gm.length (Gm.length : Int) tm' ∧ evW Try.prog A0 17 (.loop L17_2) ⟨tm, H, 0⟩ = some (.exit 4, ⟨tm', H', 0⟩)
 | [], j, hl, hj, out, d11, H, ho, hO, hg, hr, hnd, hdg => by
  obtain rfl := drop_nil hl hj
  exact ⟨d11, H, by simpa using hO, fun tm hf => out17_2 hf⟩
 | e :: l, j, hl, hj, out, d11, H, ho, hO, hg, hr, hnd, hdg => by
  obtain ⟨he, hl', hj'⟩ := drop_cons hl
  obtain ⟨hre, hde⟩ := hr e List.mem_cons_self
  have hld : ldOb H[g]? (ato (j : Int) 1) = some (.ref e.1 0 e.2.length 1) := at_var hg (by rw [List.getElem?_map, he]; rfl)
  obtain ⟨hn1, hn2⟩ := List.nodup_cons.1 hnd
  by_cases hb : 1 < e.2.length
  ·have hbs := bsr_33_1 (H := H) (id := e.1) (x := e.2) hre rfl
   have hgl := (List.getElem?_eq_some_iff.1 hg).1
   have hge : e.1 ≠ g := by intro e0; rw [e0, hg] at hre; cases hre
   have hO2 : Out17 out d11 (H.set e.1 (.frz (encL en_i64 e.2))) := by
    rcases hO with h | ⟨o, h1, h2⟩
    ·exact Or.inl h
    ·refine Or.inr ⟨o, h1, ?_⟩
     rw [List.getElem?_set_ne (by intro e0; rw [← e0] at h1; exact hde _ h1)]
     exact h2
   obtain ⟨d12, H', a1, a2, a3, n', a4⟩ := out_app hO2 (by omega) e.2
   rw [List.length_set] at a4
   obtain ⟨d13, H2, b1, b2⟩ := loop17_2 (g := g) hGl l (j + 1) hl' (by omega) (out ++ [e.2]) d12 H' (by rw [List.length_append, List.length_singleton]; omega) a2 (a3 g _ (by rw [List.getElem?_set_ne hge]; exact hg) hdg) (fun x hx => by
    obtain ⟨c1, c2⟩ := hr x (List.mem_cons_of_mem _ hx)
    have hne : e.1 ≠ x.1 := fun e0 => hn1 (List.mem_map.2 ⟨x, hx, e0.symm⟩)
    refine ⟨a3 _ _ (by rw [List.getElem?_set_ne hne]; exact c1) c2, fun n e0 => ?_⟩
    rw [a4] at e0
    injection e0 with e0
    have := (List.getElem?_eq_some_iff.1 c1).1
    omega) hn2 (fun n e0 => by
    rw [a4] at e0
    injection e0 with e0
    omega)
   refine ⟨d13, H2, ?_, fun tm hf => ?_⟩
   ·rw [List.map_cons, List.filter_cons, if_pos (by simpa using hb)]
    rw [List.append_assoc] at b1
    exact b1
   ·obtain ⟨tm1, f1, e2⟩ := it17_2l hf hj' (by omega) (show (1 : Int) < (e.2.length : Int) by omega) (idx33 hj') hld hbs a1
    obtain ⟨tm2, f2, e3⟩ := b2 tm1 f1
    exact ⟨tm2, f2, e2.trans e3⟩
  ·obtain ⟨d13, H2, b1, b2⟩ := loop17_2 (g := g) hGl l (j + 1) hl' (by omega) out d11 H (by omega) hO hg (fun x hx => hr x (List.mem_cons_of_mem _ hx)) hn2 hdg
   refine ⟨d13, H2, ?_, fun tm hf => ?_⟩
   ·rw [List.map_cons, List.filter_cons, if_neg (by simpa using hb)]
    exact b1
   ·obtain ⟨tm1, f1, e2⟩ := it17_2s hf hj' (by omega) (show ¬ (1 : Int) < (e.2.length : Int) by omega) (idx33 hj') hld
    obtain ⟨tm2, f2, e3⟩ := b2 tm1 f1
    exact ⟨tm2, f2, e2.trans e3⟩
theorem subs_nodes {n : Node} (hb : size n < 2 ^ 20) : ∀ (k : Nat) v, (subs n)[k]? = some v → size v < 2 ^ 40 := by
 intro k v hv
 have := subs_size n k v hv
 omega
theorem call38 {H : List Ob} {n : Node} {l : List Node} (h : hash_partsS ([] : List Node) n = some l) : callD (callW Try.prog A0) A0 H 38 [.p (.lst true 0 []), .p (.agg (pv_Node n))] = some (.ref H.length 0 l.length 4, some (H ++ [.arr (encL en_Node l)])) := hash_parts_calln h
theorem call12 {H : List Ob} {n : Node} {hs : List Int} (h : hash_Exact n = some hs) : callD (callW Try.prog A0) A0 H 12 [.p (.agg (pv_Node n))] = some (.p (.lst false hs.length (encL en_u64 hs)), none) :=
 callD_fun (args := [.agg (pv_Node n)]) rfl rfl rfl (by simp only [List.map_cons, List.map_nil, wk, wks, wkL]; exact f12_ok n hs h)
theorem f17_ok (x0 : Node) (r : List (List Int)) (h : hash_Groups x0 = some r) : callW Try.prog A0 17 [.p (.agg (pv_Node x0))] [] = some (.p (.lst false r.length (encL en_Li64 r)), []) := by
 unfold hash_Groups at h
 obtain ⟨hs, hx, h⟩ := Option.bind_eq_some_iff.1 h
 split at h
 case isFalse => cases h
 rename_i hb
 obtain ⟨hb1, hb2⟩ := hb
 obtain rfl := Option.some.inj h
 clear h
 have hLs : hash_partsS ([] : List Node) x0 = some (subs x0) := by
  unfold hash_partsS
  rw [if_pos (by simp only [List.length_nil]; omega)]
  rfl
 have hsl := subs_len x0
 have hsp := size_pos x0
 generalize hL : subs x0 = L at hLs hsl ⊢
 rw [← hsl]
 have hLn : ∀ (k : Nat) v, L[k]? = some v → size v < 2 ^ 40 := by rw [← hL]; exact subs_nodes hb1
 have hI0 : Inv17 L [] [] (.p (.lst true 0 [])) [.var [.p (.v (.int .i64 x0.Kind)), .p (.v (.string x0.Text)), .p (.lst false x0.Gaps.length (encL en_str x0.Gaps)), .p (.lst false x0.Kids.length (encL en_Node x0.Kids))], .arr (encL en_Node L), .mp []] :=
  ⟨⟨rfl, (fun e he => by cases he), List.nodup_nil⟩, ⟨(fun e he => by cases he), List.nodup_nil, Or.inl ⟨rfl, rfl⟩⟩, rfl, (fun e he => by cases he), (fun e he => by cases he), (fun e he => by cases he)⟩
 obtain ⟨T1, Gm, d5, H1, g1, g2, g3⟩ := loop17_0 (N := L.length) (hs := hs) rfl (by omega) (by omega) hLn L.length 0 (by omega) [] [] _ _ hI0 rfl (fun k => rfl)
 have hin0 : ∀ tm, Fr17_0 L.length hs (.p (.lst true 0 [])) 0 tm → ∃ G : Nat → Dv, evW Try.prog A0 17 (.loop L17_0) ⟨tm, [.var [.p (.v (.int .i64 x0.Kind)), .p (.v (.string x0.Text)), .p (.lst false x0.Gaps.length (encL en_str x0.Gaps)), .p (.lst false x0.Kids.length (encL en_Node x0.Kids))], .arr (encL en_Node L), .mp []], 0⟩ = some (.exit 0, ⟨F17_0 L.length hs d5 (L.length : Int) G, H1, 0⟩) := fun tm hf => by
  obtain ⟨tm', f1, e1⟩ := g3 tm hf
  exact ⟨fun j => tm'.getD j .junk, by rw [← f1.eq]; exact e1⟩
 obtain ⟨ok1, ok2⟩ := grps_ok L hs L.length
 have hGl : Gm.length ≤ L.length := by rw [← g2] at ok2; simpa using ok2
 have hGm0 : Gm ≠ [] := by
  intro e
  subst e
  have h1 : grps L hs L.length = [] := g2.symm
  obtain ⟨N', hN'⟩ : ∃ N', L.length = N' + 1 := ⟨L.length - 1, by omega⟩
  rw [hN'] at h1
  simp only [grps, grpStep] at h1
  split at h1
  ·rename_i q hq
   have := congrArg List.length h1
   rw [List.length_set] at this
   have h2 : q < (grps L hs N').length := List.mem_range.1 (List.mem_of_find?_eq_some hq)
   rw [this] at h2; simp at h2
  ·simp at h1
 obtain ⟨g, hd5, _, htop⟩ : ∃ g, d5 = .ref g 0 Gm.length 1 ∧ Gm ≠ [] ∧ H1[g]? = some (.var (Gm.map cellG)) := by
  rcases g1.grp.top with ⟨e, _⟩ | e
  ·exact absurd e hGm0
  ·exact e
 subst hd5
 obtain ⟨d12, H2, k1, k2⟩ := loop17_2 (Gm := Gm) (g := g) (by omega) Gm 0 rfl (by omega) [] (.p (.lst true 0 [])) H1 (Nat.le_refl _) (Or.inl ⟨rfl, rfl⟩) htop (fun e he => ⟨g1.grp.row e he, (fun n e0 => by cases e0)⟩) g1.grp.nd (fun n e0 => by cases e0)
 rw [List.nil_append, g2] at k1
 have hin1 : ∀ tm, Fr17_2 (.ref g 0 Gm.length 1) (.p (.lst true 0 [])) Gm.length 0 tm → ∃ G : Nat → Dv, evW Try.prog A0 17 (.loop L17_2) ⟨tm, H1, 0⟩ = some (.exit 4, ⟨F17_2 (.ref g 0 Gm.length 1) d12 Gm.length (Gm.length : Int) G, H2, 0⟩) := fun tm hf => by
  obtain ⟨tm', f1, e1⟩ := k2 tm hf
  exact ⟨fun j => tm'.getD j .junk, by rw [← f1.eq]; exact e1⟩
 obtain ⟨G0, hG0⟩ := Classical.axiomOfChoice (r := fun (x : {tm // Fr17_0 L.length hs (.p (.lst true 0 [])) 0 tm}) (G : Nat → Dv) => evW Try.prog A0 17 (.loop L17_0) ⟨x.1, [.var [.p (.v (.int .i64 x0.Kind)), .p (.v (.string x0.Text)), .p (.lst false x0.Gaps.length (encL en_str x0.Gaps)), .p (.lst false x0.Kids.length (encL en_Node x0.Kids))], .arr (encL en_Node L), .mp []], 0⟩ = some (.exit 0, ⟨F17_0 L.length hs (.ref g 0 Gm.length 1) (L.length : Int) G, H1, 0⟩)) (fun x => hin0 x.1 x.2)
 obtain ⟨G1, hG1⟩ := Classical.axiomOfChoice (r := fun (x : {tm // Fr17_2 (.ref g 0 Gm.length 1) (.p (.lst true 0 [])) Gm.length 0 tm}) (G : Nat → Dv) => evW Try.prog A0 17 (.loop L17_2) ⟨x.1, H1, 0⟩ = some (.exit 4, ⟨F17_2 (.ref g 0 Gm.length 1) d12 Gm.length (Gm.length : Int) G, H2, 0⟩)) (fun x => hin1 x.1 x.2)
 have hq0 : ∀ tm (hf : Fr17_0 L.length hs (.p (.lst true 0 [])) 0 tm), evW Try.prog A0 17 (.loop L17_0) ⟨tm, [.var [.p (.v (.int .i64 x0.Kind)), .p (.v (.string x0.Text)), .p (.lst false x0.Gaps.length (encL en_str x0.Gaps)), .p (.lst false x0.Kids.length (encL en_Node x0.Kids))], .arr (encL en_Node L), .mp []], 0⟩ = some (.exit 0, ⟨F17_0 L.length hs (.ref g 0 Gm.length 1) (L.length : Int) (G0 ⟨tm, hf⟩), H1, 0⟩) := fun tm hf => hG0 ⟨tm, hf⟩
 have hq1 : ∀ tm (hf : Fr17_2 (.ref g 0 Gm.length 1) (.p (.lst true 0 [])) Gm.length 0 tm), evW Try.prog A0 17 (.loop L17_2) ⟨tm, H1, 0⟩ = some (.exit 4, ⟨F17_2 (.ref g 0 Gm.length 1) d12 Gm.length (Gm.length : Int) (G1 ⟨tm, hf⟩), H2, 0⟩) := fun tm hf => hG1 ⟨tm, hf⟩
 unfold L17_0 bodyOf Try.f17 F17_0 at hq0
 simp only [loopsOf, ens] at hq0
 unfold L17_2 bodyOf Try.f17 F17_2 at hq1
 simp only [loopsOf, ens] at hq1
 refine call_ofI (fn := Try.f17) (c := bodyOf Try.f17) 97 rfl rfl (by kernel_rfl) (by kernel_rfl) (by kernel_rfl) ?_
 unfold bodyOf Try.f17
 simp only [ens]
 simp (maxSteps := 10000000) (implicitDefEqProofs := false) (disch := first | with_reducible assumption | exact rfl | exact im_ _ | (exact ⟨rfl, rfl, rfl, rfl, rfl, rfl, rfl⟩) | (exact ⟨rfl, rfl, rfl, rfl, rfl⟩) | (fail_if_success show Kn _ _); omega) only [bs, rs17, Nat.reduceAdd, ↓reduceIte, loadD_pagg a25 z25, varlv_4_0_4, call38 hLs, call12 hx, ops_makeMap, lenD_ref u23, lenD_ref u33, hq0, hq1]
 refine ⟨by simp, ?_⟩
 rcases k1 with ⟨k1, k3⟩ | ⟨o, k1, k3⟩
 ·rw [k1, k3]
  exact finish_is (l := []) rfl rfl rfl rfl (by first | rfl | (simp only [wk, wks, wkL]; first | done | rfl))
 ·subst k1
  exact finish_is (l := [o]) rfl rfl rfl (purify1_enc en_Li64_len k3 rfl) (by first | rfl | (simp only [wk, wks, wkL]; first | done | rfl))
theorem hash_Groups_call {H : List Ob} {x0 : Node} {r : List (List Int)} (h : hash_Groups x0 = some r) : callD (callW Try.prog A0) A0 H 17 [.p (.agg (pv_Node x0))] = some (.p (.lst false r.length (encL en_Li64 r)), none) :=
 callD_fun (args := [.agg (pv_Node x0)]) rfl rfl rfl (by simp only [List.map_cons, List.map_nil, wk, wks, wkL]; exact f17_ok x0 r h)
def ls24 := And.intro @faP_25_0 (And.intro @faP_25_1 (And.intro @faP_25_3 (And.intro @idxL_23 (And.intro @lk_frz_25 (And.intro @varld_4_0_0 (And.intro @varld_4_0_1 (@varld_4_0_3)))))))
theorem c24r_0 {rec : Node → Node → Option Bool} (hrec : ∀ x0 x1 r, rec x0 x1 = some r → callW Try.prog A0 24 [.p (.agg (pv_Node x0)), .p (.agg (pv_Node x1))] [] = some (.p (.v (.bool r)), [])) {H : List Ob} {a1 a2 : Node} {r : Bool} (h : rec a1 a2 = some r) : callD (callW Try.prog A0) A0 H 24 [.p (.agg (pv_Node a1)), .p (.agg (pv_Node a2))] = some (.p (.v (.bool r)), none) :=
 callD_fun (args := [.agg (pv_Node a1), .agg (pv_Node a2)]) rfl rfl rfl (by simp only [List.map_cons, List.map_nil, wk, wks, wkL]; exact hrec a1 a2 _ h)
noncomputable def L24_0 : Code := (loopsOf (bodyOf Try.f24)).getD 0 .skip
def g24_0 : List Ghost := [.keep [2, 3, 5]]
noncomputable def F24_0 (w0_0 : Int) (w0_1 : ByteArray) (w0_2 : (List ByteArray)) (w0_3 : (List Node)) (w1_0 : Int) (w1_1 : ByteArray) (w1_2 : (List ByteArray)) (w1_3 : (List Node)) : Int → St := fun s5 => ⟨[J, J, .ptr 0 0, .ptr 1 0, J, iv s5, J, J, J, J, J, J, J, J, J, J, J, J, J, J, J, J, J, J, J, J, J, J, J, J, J, J, J, J, J, J, J, J, J, J, J, J, J, J, J, J], [.var [iv w0_0, .p (.v (.string w0_1)), .p (.lst false w0_2.length (encL en_str w0_2)), .p (.lst false w0_3.length (encL en_Node w0_3))], .var [iv w1_0, .p (.v (.string w1_1)), .p (.lst false w1_2.length (encL en_str w1_2)), .p (.lst false w1_3.length (encL en_Node w1_3))]], 0⟩
theorem L24_0_ok {rec : Node → Node → Option Bool} (hrec : ∀ x0 x1 r, rec x0 x1 = some r → callW Try.prog A0 24 [.p (.agg (pv_Node x0)), .p (.agg (pv_Node x1))] [] = some (.p (.v (.bool r)), [])) (w0_0 : Int) (w0_1 : ByteArray) (w0_2 : (List ByteArray)) (w0_3 : (List Node)) (w1_0 : Int) (w1_1 : ByteArray) (w1_2 : (List ByteArray)) (w1_3 : (List Node)) : ∀ s st o, ghostsD g24_0 st = some (F24_0 w0_0 w0_1 w0_2 w0_3 w1_0 w1_1 w1_2 w1_3 s) → iter (R06_Same_L0 rec w0_0 w0_1 w0_2 w0_3 w1_0 w1_1 w1_2 w1_3) s = some o →
    Wp (evW Try.prog A0 24 (.loop L24_0) st) (OutQ (F24_0 w0_0 w0_1 w0_2 w0_3 w1_0 w1_1 w1_2 w1_3) g24_0 (fun n s st => n = 0 ∧ ghostsD [.keep [2, 3, 5]] st = some (F24_0 w0_0 w0_1 w0_2 w0_3 w1_0 w1_1 w1_2 w1_3 s)) (fun r st => finishD Try.prog A0 24 Try.f24 st = some (.p (.v (.bool r)), [])) o) := by
 refine Wp.iter ?_
 intro s st o hg h
 generalize s = s5 at hg h
 unfold R06_Same_L0 at h; unfold g24_0 F24_0 at hg ⊢
 (try simp only [] at h hg)
 unfold L24_0 bodyOf Try.f24; simp only [loopsOf, ens]
 revert h
 repeat' first | (with_reducible refine gR fun _ _ _ _ => ?_) | (with_reducible refine gB fun _ _ => ?_) | (with_reducible refine gT (fun _ _ => ?_) (fun _ _ => ?_)) | (with_reducible refine gI (fun _ _ => ?_) (fun _ _ => ?_))
 all_goals
  intro h; obtain rfl := Option.some.inj h
  first | (simp (maxSteps := 10000000) (implicitDefEqProofs := false) (disch := first | with_reducible assumption | exact rfl | exact im_ _ | (fail_if_success show Kn _ _); omega) only [bs, rs24, ls24, Nat.reduceAdd, ↓reduceIte, binD_neq_str, c24r_0 hrec, lenD_lst u23, loadD_iagg a25 z25, loadD_ptr a23, loadD_ptr a3, loadD_ptr a9, hg]; first | (exact ⟨(rfl : Ex.normal = Ex.normal), by kernel_rfl⟩) | (refine ⟨(rfl : Ex.ret = Ex.ret), ?_⟩; exact fin_sc rfl rfl rfl rfl) | (exact ⟨(rfl : Ex.exit 0 = Ex.exit 0), rfl, by kernel_rfl⟩)) | (exfalso; omega)
theorem f24_ok {rec : Node → Node → Option Bool} (hrec : ∀ x0 x1 r, rec x0 x1 = some r → callW Try.prog A0 24 [.p (.agg (pv_Node x0)), .p (.agg (pv_Node x1))] [] = some (.p (.v (.bool r)), []))  (x0 : Node) (x1 : Node) (r : Bool) (h : R06_Same.body rec x0 x1 = some r) : callW Try.prog A0 24 [.p (.agg (pv_Node x0)), .p (.agg (pv_Node x1))] [] = some (.p (.v (.bool r)), []) := by
 refine call_ofI (fn := Try.f24) (c := bodyOf Try.f24) 44 rfl rfl (by kernel_rfl) (by kernel_rfl) (by kernel_rfl) ?_
 unfold R06_Same.body at h; unfold bodyOf Try.f24; simp only [ens]
 revert h
 refine gI (fun h1 _ => ?_) (fun h1 _ => ?_)
 ·refine gI (fun h2 _ => ?_) (fun h2 _ => ?_)
  ·refine gI (fun h3 _ => ?_) (fun h3 _ => ?_)
   ·refine gB fun o h15 => ?_
    intro h
    simp (maxSteps := 10000000) (implicitDefEqProofs := false) (disch := first | with_reducible assumption | exact rfl | exact im_ _ | (fail_if_success show Kn _ _); omega) only [bs, rs24, ls24, Nat.reduceAdd, ↓reduceIte, binD_neq_str, c24r_0 hrec, lenD_lst u23, loadD_iagg a25 z25, loadD_ptr a23, loadD_ptr a3, loadD_ptr a9]
    refine Wp.ctx (fun x => seqW _ _ _ _ (blockW _ (x))) (L24_0_ok hrec x0.Kind x0.Text x0.Gaps x0.Kids x1.Kind x1.Text x1.Gaps x1.Kids (0 : Int) _ o (by kernel_rfl) h15) ?_
    intro e st hq
    cases o with
    | next _ => (first | cases h | (simp at h))
    | jmp n_ s_ =>
     obtain ⟨rfl, rfl, hq⟩ := hq
     generalize s_ = s5_16 at h hq
     unfold F24_0 at hq
     (try simp only [] at h hq)
     revert h
     intro h; obtain rfl := Option.some.inj h
     simp (maxSteps := 10000000) (implicitDefEqProofs := false) (disch := first | with_reducible assumption | exact rfl | exact im_ _ | (fail_if_success show Kn _ _); omega) only [bs, rs24, ls24, Nat.reduceAdd, ↓reduceIte, binD_neq_str, c24r_0 hrec, lenD_lst u23, loadD_iagg a25 z25, loadD_ptr a23, loadD_ptr a3, loadD_ptr a9, hq]
     refine ⟨by simp, ?_⟩; exact fin_sc rfl rfl rfl rfl
    | ret r17 =>
     obtain ⟨rfl, hq⟩ := hq
     obtain rfl := Option.some.inj h
     simp (maxSteps := 10000000) (implicitDefEqProofs := false) (disch := first | with_reducible assumption | exact rfl | exact im_ _ | (fail_if_success show Kn _ _); omega) only [bs, rs24, ls24, Nat.reduceAdd, ↓reduceIte, binD_neq_str, c24r_0 hrec, lenD_lst u23, loadD_iagg a25 z25, loadD_ptr a23, loadD_ptr a3, loadD_ptr a9]
     exact ⟨by simp, hq⟩
   ·intro h; obtain rfl := Option.some.inj h
    simp (maxSteps := 10000000) (implicitDefEqProofs := false) (disch := first | with_reducible assumption | exact rfl | exact im_ _ | (fail_if_success show Kn _ _); omega) only [bs, rs24, ls24, Nat.reduceAdd, ↓reduceIte, binD_neq_str, c24r_0 hrec, lenD_lst u23, loadD_iagg a25 z25, loadD_ptr a23, loadD_ptr a3, loadD_ptr a9]
    refine ⟨by simp, ?_⟩; exact fin_sc rfl rfl rfl rfl
  ·intro h; obtain rfl := Option.some.inj h
   simp (maxSteps := 10000000) (implicitDefEqProofs := false) (disch := first | with_reducible assumption | exact rfl | exact im_ _ | (fail_if_success show Kn _ _); omega) only [bs, rs24, ls24, Nat.reduceAdd, ↓reduceIte, binD_neq_str, c24r_0 hrec, lenD_lst u23, loadD_iagg a25 z25, loadD_ptr a23, loadD_ptr a3, loadD_ptr a9]
   refine ⟨by simp, ?_⟩; exact fin_sc rfl rfl rfl rfl
 ·intro h; obtain rfl := Option.some.inj h
  simp (maxSteps := 10000000) (implicitDefEqProofs := false) (disch := first | with_reducible assumption | exact rfl | exact im_ _ | (fail_if_success show Kn _ _); omega) only [bs, rs24, ls24, Nat.reduceAdd, ↓reduceIte, binD_neq_str, c24r_0 hrec, lenD_lst u23, loadD_iagg a25 z25, loadD_ptr a23, loadD_ptr a3, loadD_ptr a9]
  refine ⟨by simp, ?_⟩; exact fin_sc rfl rfl rfl rfl
theorem f24_spec : ∀ (x0 : Node) (x1 : Node) r, R06_SameS x0 x1 = some r → callW Try.prog A0 24 [.p (.agg (pv_Node x0)), .p (.agg (pv_Node x1))] [] = some (.p (.v (.bool r)), []) := by
 have key : ∀ n (x0 : Node) (x1 : Node) r, R06_SameS_mu x0 x1 < n → R06_SameS x0 x1 = some r → callW Try.prog A0 24 [.p (.agg (pv_Node x0)), .p (.agg (pv_Node x1))] [] = some (.p (.v (.bool r)), []) := by
  intro n
  induction n with
  | zero => intro x0 x1 r h; omega
  | succ n ih =>
   intro x0 x1 r hn h
   refine f24_ok (rec := fun x0' x1' => if R06_SameS_mu x0' x1' < R06_SameS_mu x0 x1 then R06_SameS x0' x1' else none) ?_ x0 x1 r (R06_SameS_body x0 x1 r h)
   intro x0' x1' r' h'
   by_cases hm : R06_SameS_mu x0' x1' < R06_SameS_mu x0 x1
   ·rw [if_pos hm] at h'; exact ih x0' x1' r' (by omega) h'
   ·rw [if_neg hm] at h'; cases h'
 intro x0 x1 r h
 exact key _ x0 x1 r (Nat.lt_succ_self _) h
def ls63 := @cv_5_50
theorem c24_1 {H : List Ob} {a1 a2 : Node} {r : Bool} (h : R06_SameS a1 a2 = some r) : callD (callW Try.prog A0) A0 H 24 [.p (.agg (pv_Node a1)), .p (.agg (pv_Node a2))] = some (.p (.v (.bool r)), none) :=
 callD_fun (args := [.agg (pv_Node a1), .agg (pv_Node a2)]) rfl rfl rfl (by simp only [List.map_cons, List.map_nil, wk, wks, wkL]; exact f24_spec a1 a2 _ h)
theorem f63_ok  (x0 : Int) (x1 : Int) (r : Int) (h : R02_Step x0 x1 = some r) : callW Try.prog A0 63 [.p (.v (.int .u64 x0)), .p (.v (.int .u8 x1))] [] = some (.p (.v (.int .u64 r)), []) := by
 refine call_ofI (fn := Try.f63) (c := bodyOf Try.f63) 8 rfl rfl (by kernel_rfl) (by kernel_rfl) (by kernel_rfl) ?_
 unfold R02_Step at h; unfold bodyOf Try.f63; simp only [ens]
 revert h
 intro h; obtain rfl := Option.some.inj h
 simp (maxSteps := 10000000) (implicitDefEqProofs := false) (disch := first | with_reducible assumption | exact rfl | exact im_ _ | (fail_if_success show Kn _ _); omega) only [bs, rs63, ls63, Nat.reduceAdd, ↓reduceIte, binD_mul_k (k := .u64), binD_xor_k]
 refine ⟨by simp, ?_⟩; exact fin_sc rfl rfl rfl rfl
theorem c63_0 {H : List Ob} {a1 a2 : Int} {r : Int} (h : R02_Step a1 a2 = some r) : callD (callW Try.prog A0) A0 H 63 [.p (.v (.int .u64 a1)), .p (.v (.int .u8 a2))] = some (.p (.v (.int .u64 r)), none) :=
 callD_fun (args := [.v (.int .u64 a1), .v (.int .u8 a2)]) rfl rfl rfl (by simp only [List.map_cons, List.map_nil, wk, wks, wkL]; exact f63_ok a1 a2 _ h)
noncomputable def L52_0 : Code := (loopsOf (bodyOf Try.f52)).getD 0 .skip
def g52_0 : List Ghost := [.keep [0, 3, 4]]
noncomputable def F52_0 (s0 : ByteArray) : (Int × Int) → St := fun (s3, s4) => ⟨[.p (.v (.string s0)), J, J, .p (.v (.int .u64 s3)), iv s4, J, J, J, J, J, J, J, J, J, J, J, J], [], 0⟩
theorem L52_0_ok (s0 : ByteArray) : ∀ s st o, ghostsD g52_0 st = some (F52_0 s0 s) → iter (R02_Sum_L0 s0) s = some o →
    Wp (evW Try.prog A0 52 (.loop L52_0) st) (OutQ (F52_0 s0) g52_0 (fun n s st => n = 0 ∧ ghostsD [.keep [0, 3, 4]] st = some (F52_0 s0 s)) (fun r st => finishD Try.prog A0 52 Try.f52 st = some (.p (.v (.int .u64 r)), [])) o) := by
 refine Wp.iter ?_
 intro s st o hg h
 obtain ⟨s3, s4⟩ := s
 unfold R02_Sum_L0 at h; unfold g52_0 F52_0 at hg ⊢
 (try simp only [] at h hg)
 unfold L52_0 bodyOf Try.f52; simp only [loopsOf, ens]
 revert h
 repeat' first | (with_reducible refine gB fun _ _ => ?_) | (with_reducible refine gI (fun _ _ => ?_) (fun _ _ => ?_))
 all_goals
  intro h; obtain rfl := Option.some.inj h
  first | (simp (maxSteps := 10000000) (implicitDefEqProofs := false) (disch := first | with_reducible assumption | exact rfl | exact im_ _ | (fail_if_success show Kn _ _); omega) only [bs, rs52, Nat.reduceAdd, ↓reduceIte, c63_0, indexD_str Try.underlying9, lenD_str u9, hg]; first | (exact ⟨(rfl : Ex.normal = Ex.normal), by kernel_rfl⟩) | (exact ⟨(rfl : Ex.exit 0 = Ex.exit 0), rfl, by kernel_rfl⟩)) | (exfalso; omega)
theorem f52_ok  (x0 : ByteArray) (r : Int) (h : R02_Sum x0 = some r) : callW Try.prog A0 52 [.p (.v (.string x0))] [] = some (.p (.v (.int .u64 r)), []) := by
 refine call_ofI (fn := Try.f52) (c := bodyOf Try.f52) 16 rfl rfl (by kernel_rfl) (by kernel_rfl) (by kernel_rfl) ?_
 unfold R02_Sum at h; unfold bodyOf Try.f52; simp only [ens]
 revert h
 refine gB fun o h8 => ?_
 intro h
 simp (maxSteps := 10000000) (implicitDefEqProofs := false) (disch := first | with_reducible assumption | exact rfl | exact im_ _ | (fail_if_success show Kn _ _); omega) only [bs, rs52, Nat.reduceAdd, ↓reduceIte, c63_0, indexD_str Try.underlying9, lenD_str u9]
 refine Wp.ctx (fun x => seqW _ _ _ _ (blockW _ (x))) (L52_0_ok x0 ((14695981039346656037 : Int), (0 : Int)) _ o (by kernel_rfl) h8) ?_
 intro e st hq
 cases o with
 | next _ => (first | cases h | (simp at h))
 | jmp n_ s_ =>
  obtain ⟨rfl, rfl, hq⟩ := hq
  obtain ⟨s3_9, s4_9⟩ := s_
  unfold F52_0 at hq
  (try simp only [] at h hq)
  revert h
  intro h; obtain rfl := Option.some.inj h
  simp (maxSteps := 10000000) (implicitDefEqProofs := false) (disch := first | with_reducible assumption | exact rfl | exact im_ _ | (fail_if_success show Kn _ _); omega) only [bs, rs52, Nat.reduceAdd, ↓reduceIte, c63_0, indexD_str Try.underlying9, lenD_str u9, hq]
  refine ⟨by simp, ?_⟩; exact fin_sc rfl rfl rfl rfl
 | ret _ => (first | cases h | (simp at h))
def ls62 := @cv_50_5
theorem c52_0 {H : List Ob} {a1 : ByteArray} {r : Int} (h : R02_Sum a1 = some r) : callD (callW Try.prog A0) A0 H 52 [.p (.v (.string a1))] = some (.p (.v (.int .u64 r)), none) :=
 callD_fun (args := [.v (.string a1)]) rfl rfl rfl (by simp only [List.map_cons, List.map_nil, wk, wks, wkL]; exact f52_ok a1 _ h)
noncomputable def L62_0 : Code := (loopsOf (bodyOf Try.f62)).getD 0 .skip
def g62_0 : List Ghost := [.keep [1, 5, 6]]
noncomputable def F62_0 (s1 : Int) : (Int × Int) → St := fun (s5, s6) => ⟨[J, .p (.v (.int .u64 s1)), J, J, J, .p (.v (.int .u64 s5)), iv s6, J, J, J, J, J, J, J, J, J, J, J, J], [], 0⟩
theorem L62_0_ok (s1 : Int) : ∀ s st o, ghostsD g62_0 st = some (F62_0 s1 s) → iter (R02_number_L0 s1) s = some o →
    Wp (evW Try.prog A0 62 (.loop L62_0) st) (OutQ (F62_0 s1) g62_0 (fun n s st => n = 0 ∧ ghostsD [.keep [1, 5, 6]] st = some (F62_0 s1 s)) (fun r st => finishD Try.prog A0 62 Try.f62 st = some (.p (.v (.int .u64 r)), [])) o) := by
 refine Wp.iter ?_
 intro s st o hg h
 obtain ⟨s5, s6⟩ := s
 unfold R02_number_L0 at h; unfold g62_0 F62_0 at hg ⊢
 (try simp only [] at h hg)
 unfold L62_0 bodyOf Try.f62; simp only [loopsOf, ens]
 revert h
 repeat' first | (with_reducible refine gB fun _ _ => ?_) | (with_reducible refine gI (fun _ _ => ?_) (fun _ _ => ?_))
 all_goals
  intro h; obtain rfl := Option.some.inj h
  first | (simp (maxSteps := 10000000) (implicitDefEqProofs := false) (disch := first | with_reducible assumption | exact rfl | exact im_ _ | (fail_if_success show Kn _ _); omega) only [bs, rs62, ls62, Nat.reduceAdd, ↓reduceIte, binD_shr_k, c63_0, hg]; first | (exact ⟨(rfl : Ex.normal = Ex.normal), by kernel_rfl⟩) | (exact ⟨(rfl : Ex.exit 0 = Ex.exit 0), rfl, by kernel_rfl⟩)) | (exfalso; omega)
theorem f62_ok  (x0 : Int) (x1 : Int) (r : Int) (h : R02_number x0 x1 = some r) : callW Try.prog A0 62 [.p (.v (.int .u64 x0)), .p (.v (.int .u64 x1))] [] = some (.p (.v (.int .u64 r)), []) := by
 refine call_ofI (fn := Try.f62) (c := bodyOf Try.f62) 17 rfl rfl (by kernel_rfl) (by kernel_rfl) (by kernel_rfl) ?_
 unfold R02_number at h; unfold bodyOf Try.f62; simp only [ens]
 revert h
 refine gB fun o h8 => ?_
 intro h
 simp (maxSteps := 10000000) (implicitDefEqProofs := false) (disch := first | with_reducible assumption | exact rfl | exact im_ _ | (fail_if_success show Kn _ _); omega) only [bs, rs62, ls62, Nat.reduceAdd, ↓reduceIte, binD_shr_k, c63_0]
 refine Wp.ctx (fun x => seqW _ _ _ _ (blockW _ (x))) (L62_0_ok x1 (x0, (56 : Int)) _ o (by kernel_rfl) h8) ?_
 intro e st hq
 cases o with
 | next _ => (first | cases h | (simp at h))
 | jmp n_ s_ =>
  obtain ⟨rfl, rfl, hq⟩ := hq
  obtain ⟨s5_9, s6_9⟩ := s_
  unfold F62_0 at hq
  (try simp only [] at h hq)
  revert h
  intro h; obtain rfl := Option.some.inj h
  simp (maxSteps := 10000000) (implicitDefEqProofs := false) (disch := first | with_reducible assumption | exact rfl | exact im_ _ | (fail_if_success show Kn _ _); omega) only [bs, rs62, ls62, Nat.reduceAdd, ↓reduceIte, binD_shr_k, c63_0, hq]
  refine ⟨by simp, ?_⟩; exact fin_sc rfl rfl rfl rfl
 | ret _ => (first | cases h | (simp at h))
theorem c62_0 {H : List Ob} {a1 a2 : Int} {r : Int} (h : R02_number a1 a2 = some r) : callD (callW Try.prog A0) A0 H 62 [.p (.v (.int .u64 a1)), .p (.v (.int .u64 a2))] = some (.p (.v (.int .u64 r)), none) :=
 callD_fun (args := [.v (.int .u64 a1), .v (.int .u64 a2)]) rfl rfl rfl (by simp only [List.map_cons, List.map_nil, wk, wks, wkL]; exact f62_ok a1 a2 _ h)
theorem f51_ok  (x0 : Int) (x1 : Int) (r : Int) (h : R02_Mix x0 x1 = some r) : callW Try.prog A0 51 [.p (.v (.int .u64 x0)), .p (.v (.int .u64 x1))] [] = some (.p (.v (.int .u64 r)), []) := by
 refine call_ofI (fn := Try.f51) (c := bodyOf Try.f51) 8 rfl rfl (by kernel_rfl) (by kernel_rfl) (by kernel_rfl) ?_
 unfold R02_Mix at h; unfold bodyOf Try.f51; simp only [ens]
 revert h
 repeat' (with_reducible refine gB fun _ _ => ?_)
 intro h; obtain rfl := Option.some.inj h
 simp (maxSteps := 10000000) (implicitDefEqProofs := false) (disch := first | with_reducible assumption | exact rfl | exact im_ _ | (fail_if_success show Kn _ _); omega) only [bs, rs51, Nat.reduceAdd, ↓reduceIte, c52_0, c62_0]
 refine ⟨by simp, ?_⟩; exact fin_sc rfl rfl rfl rfl
def sums_ (f : Nat) (args : List Dv) (H : List Ob) : Option (Dv × List Ob) :=
 match H with
 | [] => bif Nat.beq f 49 then mixS args else bif Nat.beq f 51 then mixS args else bif Nat.beq f 50 then sumS args else bif Nat.beq f 52 then sumS args else none
 | _ => none
theorem sums_ok : CallLe sums_ (callW Try.prog A0) := by
 intro f args H r h
 cases H with
 | cons o H => cases h
 | nil =>
 unfold sums_ at h
 cases h1 : Nat.beq f 49 with
 | true =>
  obtain rfl := Nat.eq_of_beq_eq_true h1
  obtain ⟨a, b, rfl, rfl⟩ := mixS_ok h
  exact f49_ok a b _ (digest_Mix_eq a b)
 | false =>
 cases h2 : Nat.beq f 51 with
 | true =>
  obtain rfl := Nat.eq_of_beq_eq_true h2
  obtain ⟨a, b, rfl, rfl⟩ := mixS_ok h
  exact f51_ok a b _ (R02_Mix_eq a b)
 | false =>
 cases h3 : Nat.beq f 50 with
 | true =>
  obtain rfl := Nat.eq_of_beq_eq_true h3
  obtain ⟨s, rfl, hs, rfl⟩ := sumS_ok h
  exact f50_ok s _ (digest_Sum_eq hs)
 | false =>
 cases h4 : Nat.beq f 52 with
 | true =>
  obtain rfl := Nat.eq_of_beq_eq_true h4
  obtain ⟨s, rfl, hs, rfl⟩ := sumS_ok h
  exact f52_ok s _ (R02_Sum_eq hs)
 | false => simp only [h1, h2, h3, h4, cond_false] at h; cases h
theorem f10_ok (r : Bool) (h : law18_awake = some r) : callW Try.prog A0 10 [] [] = some (.p (.v (.bool r)), []) := by
 cases h; exact callS_le sums_ok 200 _ _ _ _ (by kernel_rfl)
def ls8 := And.intro @ap_40_40 (And.intro @bs_40_1 (And.intro @ce_3_x (And.intro @ce_40_x (And.intro @idxL_23 (And.intro @idxL_33 (And.intro @idxL_40 (And.intro @idxR_40 (And.intro @lk_frz_25 (And.intro @stf_3_x (@varlv_4_0_4))))))))))
theorem c10_0 {H : List Ob}  {r : Bool} (h : law18_awake  = some r) : callD (callW Try.prog A0) A0 H 10 [] = some (.p (.v (.bool r)), none) :=
 callD_fun (args := []) rfl rfl rfl (by simp only [List.map_cons, List.map_nil, wk, wks, wkL]; exact f10_ok  _ h)
noncomputable def L8_4 : Code := (loopsOf (bodyOf Try.f8)).getD 4 .skip
def g8_4 : List Ghost := [.weak [3], .keep [3, 5, 10, 11]]
noncomputable def F8_4 (s3 : (List Node)) (s10 : Int) (y0 : (List Int)) : Int → St := fun s11 => ⟨[J, J, J, .p (.lst false s3.length (encL en_Node s3)), J, .ref 0 0 y0.length 1, J, J, J, J, iv s10, iv s11, J, J, J, J, J, J, J, J, J, J, J, J, J, J, J, J, J, J, J, J, J, J, J, J, J, J, J, J, J, J, J, J, J, J, J, J, J, J, J, J, J, J, J, J, J, J, J, J, J, J, J, J, J, J, J, J, J, J, J, J, J, J, J, J, J, J, J, J, J, J, J, J, J, J, J, J, J, J, J, J, J, J, J, J, J, J, J, J, J, J, J, J, J, J, J, J, J, J, J, J, J, J, J, J, J, J, J, J, J, J, J, J, J, J, J, J, J, J, J, J, J, J, J, J, J, J, J, J, J, J, J, J, J, J, J, J, J, J], [.arr (encL en_i64 y0)], 0⟩
theorem L8_4_ok (s3 : (List Node)) (s10 : Int) (y0 : (List Int)) : ∀ s st o, ghostsD g8_4 st = some (F8_4 s3 s10 y0 s) → iter (law18_HashParts_L4 s3 s10 y0) s = some o →
    Wp (evW Try.prog A0 8 (.loop L8_4) st) (OutQ (F8_4 s3 s10 y0) g8_4 (fun n s st => n = 8 ∧ ghostsD [.keep [3, 5, 10, 11]] st = some (F8_4 s3 s10 y0 s)) (fun r st => finishD Try.prog A0 8 Try.f8 st = some (.p (.v (.bool r)), [])) o) := by
 refine Wp.iter ?_
 intro s st o hg h
 generalize s = s11 at hg h
 unfold law18_HashParts_L4 at h; unfold g8_4 F8_4 at hg ⊢
 (try simp only [] at h hg)
 unfold L8_4 bodyOf Try.f8; simp only [loopsOf, ens]
 revert h
 repeat' first | (with_reducible refine gR fun _ _ _ _ => ?_) | (with_reducible refine gB fun _ _ => ?_) | (with_reducible refine gI (fun _ _ => ?_) (fun _ _ => ?_))
 all_goals
  intro h; obtain rfl := Option.some.inj h
  first | (simp (maxSteps := 10000000) (implicitDefEqProofs := false) (disch := first | with_reducible assumption | exact rfl | exact im_ _ | (fail_if_success show Kn _ _); omega | (show (_ : Int) < _; simp only [List.length_set, cpL_len] at *; omega)) only [bs, rs8, ls8, Nat.reduceAdd, ↓reduceIte, binD_neq_bool Try.underlying4, c10_0, c22_0, c24_1, c9_0, hash_Groups_call, lenD_lst u23, lenD_lst u33, lenD_lst u40, loadD_iagg a25 z25, loadD_iptr a3, loadD_iptr a40, loadD_pagg a25 z25, loadD_ptr a3, storeD_int z3, wks_nil_, hg]; first | (exact ⟨(rfl : Ex.normal = Ex.normal), by kernel_rfl⟩) | (refine ⟨(rfl : Ex.ret = Ex.ret), ?_⟩; exact fin_sc rfl rfl rfl rfl) | (exact ⟨(rfl : Ex.exit 8 = Ex.exit 8), rfl, by kernel_rfl⟩)) | (exfalso; omega)
noncomputable def L8_3 : Code := (loopsOf (bodyOf Try.f8)).getD 3 .skip
def g8_3 : List Ghost := [.weak [3], .keep [3, 5, 10]]
noncomputable def F8_3 (s3 : (List Node)) (y0 : (List Int)) : Int → St := fun s10 => ⟨[J, J, J, .p (.lst false s3.length (encL en_Node s3)), J, .ref 0 0 y0.length 1, J, J, J, J, iv s10, J, J, J, J, J, J, J, J, J, J, J, J, J, J, J, J, J, J, J, J, J, J, J, J, J, J, J, J, J, J, J, J, J, J, J, J, J, J, J, J, J, J, J, J, J, J, J, J, J, J, J, J, J, J, J, J, J, J, J, J, J, J, J, J, J, J, J, J, J, J, J, J, J, J, J, J, J, J, J, J, J, J, J, J, J, J, J, J, J, J, J, J, J, J, J, J, J, J, J, J, J, J, J, J, J, J, J, J, J, J, J, J, J, J, J, J, J, J, J, J, J, J, J, J, J, J, J, J, J, J, J, J, J, J, J, J, J, J, J], [.arr (encL en_i64 y0)], 0⟩
theorem L8_3_ok (s3 : (List Node)) (y0 : (List Int)) : ∀ s st o, ghostsD g8_3 st = some (F8_3 s3 y0 s) → iter (law18_HashParts_L3 s3 y0) s = some o →
    Wp (evW Try.prog A0 8 (.loop L8_3) st) (OutQ (F8_3 s3 y0) g8_3 (fun n s st => n = 6 ∧ ghostsD [.keep [3, 5, 10]] st = some (F8_3 s3 y0 s)) (fun r st => finishD Try.prog A0 8 Try.f8 st = some (.p (.v (.bool r)), [])) o) := by
 refine Wp.iter ?_
 intro s st o hg h
 generalize s = s10 at hg h
 unfold law18_HashParts_L3 at h; unfold g8_3 F8_3 at hg ⊢
 (try simp only [] at h hg)
 unfold L8_3 bodyOf Try.f8; simp only [loopsOf, ens]
 revert h
 refine gI (fun h62 _ => ?_) (fun h62 _ => ?_)
 ·refine gB fun o h92 => ?_
  intro h
  simp (maxSteps := 10000000) (implicitDefEqProofs := false) (disch := first | with_reducible assumption | exact rfl | exact im_ _ | (fail_if_success show Kn _ _); omega | (show (_ : Int) < _; simp only [List.length_set, cpL_len] at *; omega)) only [bs, rs8, ls8, Nat.reduceAdd, ↓reduceIte, binD_neq_bool Try.underlying4, c10_0, c22_0, c24_1, c9_0, hash_Groups_call, lenD_lst u23, lenD_lst u33, lenD_lst u40, loadD_iagg a25 z25, loadD_iptr a3, loadD_iptr a40, loadD_pagg a25 z25, loadD_ptr a3, storeD_int z3, wks_nil_, hg]
  refine Wp.ctx (fun x => seqW _ _ _ _ (blockW _ (blockW _ (x)))) (L8_4_ok s3 s10 y0 (0 : Int) _ o (by kernel_rfl) h92) ?_
  intro e st hq
  cases o with
  | next _ => (first | cases h | (simp at h))
  | jmp n_ s_ =>
   obtain ⟨rfl, rfl, hq⟩ := hq
   generalize s_ = s11_93 at h hq
   unfold F8_4 at hq
   (try simp only [] at h hq)
   revert h
   intro h; obtain rfl := Option.some.inj h
   simp (maxSteps := 10000000) (implicitDefEqProofs := false) (disch := first | with_reducible assumption | exact rfl | exact im_ _ | (fail_if_success show Kn _ _); omega | (show (_ : Int) < _; simp only [List.length_set, cpL_len] at *; omega)) only [bs, rs8, ls8, Nat.reduceAdd, ↓reduceIte, binD_neq_bool Try.underlying4, c10_0, c22_0, c24_1, c9_0, hash_Groups_call, lenD_lst u23, lenD_lst u33, lenD_lst u40, loadD_iagg a25 z25, loadD_iptr a3, loadD_iptr a40, loadD_pagg a25 z25, loadD_ptr a3, storeD_int z3, wks_nil_, hg, hq]
   exact ⟨(rfl : Ex.normal = Ex.normal), by kernel_rfl⟩
  | ret r94 =>
   obtain ⟨rfl, hq⟩ := hq
   obtain rfl := Option.some.inj h
   simp (maxSteps := 10000000) (implicitDefEqProofs := false) (disch := first | with_reducible assumption | exact rfl | exact im_ _ | (fail_if_success show Kn _ _); omega | (show (_ : Int) < _; simp only [List.length_set, cpL_len] at *; omega)) only [bs, rs8, ls8, Nat.reduceAdd, ↓reduceIte, binD_neq_bool Try.underlying4, c10_0, c22_0, c24_1, c9_0, hash_Groups_call, lenD_lst u23, lenD_lst u33, lenD_lst u40, loadD_iagg a25 z25, loadD_iptr a3, loadD_iptr a40, loadD_pagg a25 z25, loadD_ptr a3, storeD_int z3, wks_nil_]
   exact ⟨rfl, hq⟩
 ·intro h; obtain rfl := Option.some.inj h
  simp (maxSteps := 10000000) (implicitDefEqProofs := false) (disch := first | with_reducible assumption | exact rfl | exact im_ _ | (fail_if_success show Kn _ _); omega | (show (_ : Int) < _; simp only [List.length_set, cpL_len] at *; omega)) only [bs, rs8, ls8, Nat.reduceAdd, ↓reduceIte, binD_neq_bool Try.underlying4, c10_0, c22_0, c24_1, c9_0, hash_Groups_call, lenD_lst u23, lenD_lst u33, lenD_lst u40, loadD_iagg a25 z25, loadD_iptr a3, loadD_iptr a40, loadD_pagg a25 z25, loadD_ptr a3, storeD_int z3, wks_nil_, hg]
  exact ⟨(rfl : Ex.exit 6 = Ex.exit 6), rfl, by kernel_rfl⟩
noncomputable def L8_2 : Code := (loopsOf (bodyOf Try.f8)).getD 2 .skip
def g8_2 : List Ghost := [.weak [3, 4], .keep [3, 4, 5, 7, 8]]
noncomputable def F8_2 (s3 : (List Node)) (s4 : (List (List Int))) (s7 : Int) : (Int × (List Int)) → St := fun (s8, y0) => ⟨[J, J, J, .p (.lst false s3.length (encL en_Node s3)), .p (.lst false s4.length (encL en_Li64 s4)), .ref 0 0 y0.length 1, J, iv s7, iv s8, J, J, J, J, J, J, J, J, J, J, J, J, J, J, J, J, J, J, J, J, J, J, J, J, J, J, J, J, J, J, J, J, J, J, J, J, J, J, J, J, J, J, J, J, J, J, J, J, J, J, J, J, J, J, J, J, J, J, J, J, J, J, J, J, J, J, J, J, J, J, J, J, J, J, J, J, J, J, J, J, J, J, J, J, J, J, J, J, J, J, J, J, J, J, J, J, J, J, J, J, J, J, J, J, J, J, J, J, J, J, J, J, J, J, J, J, J, J, J, J, J, J, J, J, J, J, J, J, J, J, J, J, J, J, J, J, J, J, J, J, J], [.arr (encL en_i64 y0)], 0⟩
theorem L8_2_ok (s3 : (List Node)) (s4 : (List (List Int))) (s7 : Int) : ∀ s st o, ghostsD g8_2 st = some (F8_2 s3 s4 s7 s) → iter (law18_HashParts_L2 s3 s4 s7) s = some o →
    Wp (evW Try.prog A0 8 (.loop L8_2) st) (OutQ (F8_2 s3 s4 s7) g8_2 (fun n s st => n = 4 ∧ ghostsD [.keep [3, 4, 5, 7, 8]] st = some (F8_2 s3 s4 s7 s)) (fun r st => finishD Try.prog A0 8 Try.f8 st = some (.p (.v (.bool r)), [])) o) := by
 refine Wp.iter ?_
 intro s st o hg h
 obtain ⟨s8, y0⟩ := s
 unfold law18_HashParts_L2 at h; unfold g8_2 F8_2 at hg ⊢
 (try simp only [] at h hg)
 unfold L8_2 bodyOf Try.f8; simp only [loopsOf, ens]
 revert h
 repeat' first | (with_reducible refine gR fun _ _ _ _ => ?_) | (with_reducible refine gI (fun _ _ => ?_) (fun _ _ => ?_))
 all_goals
  intro h; obtain rfl := Option.some.inj h
  first | (simp (maxSteps := 10000000) (implicitDefEqProofs := false) (disch := first | with_reducible assumption | exact rfl | exact im_ _ | (fail_if_success show Kn _ _); omega | (show (_ : Int) < _; simp only [List.length_set, cpL_len] at *; omega)) only [bs, rs8, ls8, Nat.reduceAdd, ↓reduceIte, binD_neq_bool Try.underlying4, c10_0, c22_0, c24_1, c9_0, hash_Groups_call, lenD_lst u23, lenD_lst u33, lenD_lst u40, loadD_iagg a25 z25, loadD_iptr a3, loadD_iptr a40, loadD_pagg a25 z25, loadD_ptr a3, storeD_int z3, wks_nil_, hg]; first | (refine ⟨(rfl : Ex.ret = Ex.ret), ?_⟩; exact fin_sc rfl rfl rfl rfl) | (exact ⟨(rfl : Ex.normal = Ex.normal), by (try simp only [List.length_set, cpL_len]); kernel_rfl⟩) | (exact ⟨(rfl : Ex.exit 4 = Ex.exit 4), rfl, by kernel_rfl⟩)) | (exfalso; omega)
noncomputable def L8_1 : Code := (loopsOf (bodyOf Try.f8)).getD 1 .skip
def g8_1 : List Ghost := [.weak [3, 4], .keep [3, 4, 5, 7]]
noncomputable def F8_1 (s3 : (List Node)) (s4 : (List (List Int))) : (Int × (List Int)) → St := fun (s7, y0) => ⟨[J, J, J, .p (.lst false s3.length (encL en_Node s3)), .p (.lst false s4.length (encL en_Li64 s4)), .ref 0 0 y0.length 1, J, iv s7, J, J, J, J, J, J, J, J, J, J, J, J, J, J, J, J, J, J, J, J, J, J, J, J, J, J, J, J, J, J, J, J, J, J, J, J, J, J, J, J, J, J, J, J, J, J, J, J, J, J, J, J, J, J, J, J, J, J, J, J, J, J, J, J, J, J, J, J, J, J, J, J, J, J, J, J, J, J, J, J, J, J, J, J, J, J, J, J, J, J, J, J, J, J, J, J, J, J, J, J, J, J, J, J, J, J, J, J, J, J, J, J, J, J, J, J, J, J, J, J, J, J, J, J, J, J, J, J, J, J, J, J, J, J, J, J, J, J, J, J, J, J], [.arr (encL en_i64 y0)], 0⟩
theorem L8_1_ok (s3 : (List Node)) (s4 : (List (List Int))) : ∀ s st o, ghostsD g8_1 st = some (F8_1 s3 s4 s) → iter (law18_HashParts_L1 s3 s4) s = some o →
    Wp (evW Try.prog A0 8 (.loop L8_1) st) (OutQ (F8_1 s3 s4) g8_1 (fun n s st => n = 2 ∧ ghostsD [.keep [3, 4, 5, 7]] st = some (F8_1 s3 s4 s)) (fun r st => finishD Try.prog A0 8 Try.f8 st = some (.p (.v (.bool r)), [])) o) := by
 refine Wp.iter ?_
 intro s st o hg h
 obtain ⟨s7, y0⟩ := s
 unfold law18_HashParts_L1 at h; unfold g8_1 F8_1 at hg ⊢
 (try simp only [] at h hg)
 unfold L8_1 bodyOf Try.f8; simp only [loopsOf, ens]
 revert h
 refine gI (fun h16 _ => ?_) (fun h16 _ => ?_)
 ·refine gR fun v17 h18 h18a h18b => ?_
  refine gI (fun h20 _ => ?_) (fun h20 _ => ?_)
  ·intro h; obtain rfl := Option.some.inj h
   simp (maxSteps := 10000000) (implicitDefEqProofs := false) (disch := first | with_reducible assumption | exact rfl | exact im_ _ | (fail_if_success show Kn _ _); omega | (show (_ : Int) < _; simp only [List.length_set, cpL_len] at *; omega)) only [bs, rs8, ls8, Nat.reduceAdd, ↓reduceIte, binD_neq_bool Try.underlying4, c10_0, c22_0, c24_1, c9_0, hash_Groups_call, lenD_lst u23, lenD_lst u33, lenD_lst u40, loadD_iagg a25 z25, loadD_iptr a3, loadD_iptr a40, loadD_pagg a25 z25, loadD_ptr a3, storeD_int z3, wks_nil_, hg]
   refine ⟨(rfl : Ex.ret = Ex.ret), ?_⟩; exact fin_sc rfl rfl rfl rfl
  ·refine gB fun o h45 => ?_
   intro h
   simp (maxSteps := 10000000) (implicitDefEqProofs := false) (disch := first | with_reducible assumption | exact rfl | exact im_ _ | (fail_if_success show Kn _ _); omega | (show (_ : Int) < _; simp only [List.length_set, cpL_len] at *; omega)) only [bs, rs8, ls8, Nat.reduceAdd, ↓reduceIte, binD_neq_bool Try.underlying4, c10_0, c22_0, c24_1, c9_0, hash_Groups_call, lenD_lst u23, lenD_lst u33, lenD_lst u40, loadD_iagg a25 z25, loadD_iptr a3, loadD_iptr a40, loadD_pagg a25 z25, loadD_ptr a3, storeD_int z3, wks_nil_, hg]
   refine Wp.ctx (fun x => seqW _ _ _ _ (blockW _ (seqW _ _ _ _ (blockW _ (x))))) (L8_2_ok s3 s4 s7 ((0 : Int), y0) _ o (by kernel_rfl) h45) ?_
   intro e st hq
   cases o with
   | next _ => (first | cases h | (simp at h))
   | jmp n_ s_ =>
    obtain ⟨rfl, rfl, hq⟩ := hq
    obtain ⟨s8_46, y0_46⟩ := s_
    unfold F8_2 at hq
    (try simp only [] at h hq)
    revert h
    repeat' first | (with_reducible refine gR fun _ _ _ _ => ?_) | (with_reducible refine gI (fun _ _ => ?_) (fun _ _ => ?_))
    all_goals
     intro h; obtain rfl := Option.some.inj h
     first | (simp (maxSteps := 10000000) (implicitDefEqProofs := false) (disch := first | with_reducible assumption | exact rfl | exact im_ _ | (fail_if_success show Kn _ _); omega | (show (_ : Int) < _; simp only [List.length_set, cpL_len] at *; omega)) only [bs, rs8, ls8, Nat.reduceAdd, ↓reduceIte, binD_neq_bool Try.underlying4, c10_0, c22_0, c24_1, c9_0, hash_Groups_call, lenD_lst u23, lenD_lst u33, lenD_lst u40, loadD_iagg a25 z25, loadD_iptr a3, loadD_iptr a40, loadD_pagg a25 z25, loadD_ptr a3, storeD_int z3, wks_nil_, hg, hq]; first | (refine ⟨(rfl : Ex.ret = Ex.ret), ?_⟩; exact fin_sc rfl rfl rfl rfl) | (exact ⟨(rfl : Ex.normal = Ex.normal), by kernel_rfl⟩)) | (exfalso; omega)
   | ret r59 =>
    obtain ⟨rfl, hq⟩ := hq
    obtain rfl := Option.some.inj h
    simp (maxSteps := 10000000) (implicitDefEqProofs := false) (disch := first | with_reducible assumption | exact rfl | exact im_ _ | (fail_if_success show Kn _ _); omega | (show (_ : Int) < _; simp only [List.length_set, cpL_len] at *; omega)) only [bs, rs8, ls8, Nat.reduceAdd, ↓reduceIte, binD_neq_bool Try.underlying4, c10_0, c22_0, c24_1, c9_0, hash_Groups_call, lenD_lst u23, lenD_lst u33, lenD_lst u40, loadD_iagg a25 z25, loadD_iptr a3, loadD_iptr a40, loadD_pagg a25 z25, loadD_ptr a3, storeD_int z3, wks_nil_]
    exact ⟨rfl, hq⟩
 ·intro h; obtain rfl := Option.some.inj h
  simp (maxSteps := 10000000) (implicitDefEqProofs := false) (disch := first | with_reducible assumption | exact rfl | exact im_ _ | (fail_if_success show Kn _ _); omega | (show (_ : Int) < _; simp only [List.length_set, cpL_len] at *; omega)) only [bs, rs8, ls8, Nat.reduceAdd, ↓reduceIte, binD_neq_bool Try.underlying4, c10_0, c22_0, c24_1, c9_0, hash_Groups_call, lenD_lst u23, lenD_lst u33, lenD_lst u40, loadD_iagg a25 z25, loadD_iptr a3, loadD_iptr a40, loadD_pagg a25 z25, loadD_ptr a3, storeD_int z3, wks_nil_, hg]
  exact ⟨(rfl : Ex.exit 2 = Ex.exit 2), rfl, by kernel_rfl⟩
noncomputable def L8_0 : Code := (loopsOf (bodyOf Try.f8)).getD 0 .skip
def g8_0 : List Ghost := [.own 5 1, .weak [3, 4], .keep [3, 4, 5, 6]]
noncomputable def F8_0 (s3 : (List Node)) (s4 : (List (List Int))) : (Int × (List Int)) → St := fun (s6, y0) => ⟨[J, J, J, .p (.lst false s3.length (encL en_Node s3)), .p (.lst false s4.length (encL en_Li64 s4)), .ref 0 0 y0.length 1, iv s6, J, J, J, J, J, J, J, J, J, J, J, J, J, J, J, J, J, J, J, J, J, J, J, J, J, J, J, J, J, J, J, J, J, J, J, J, J, J, J, J, J, J, J, J, J, J, J, J, J, J, J, J, J, J, J, J, J, J, J, J, J, J, J, J, J, J, J, J, J, J, J, J, J, J, J, J, J, J, J, J, J, J, J, J, J, J, J, J, J, J, J, J, J, J, J, J, J, J, J, J, J, J, J, J, J, J, J, J, J, J, J, J, J, J, J, J, J, J, J, J, J, J, J, J, J, J, J, J, J, J, J, J, J, J, J, J, J, J, J, J, J, J, J], [.arr (encL en_i64 y0)], 0⟩
theorem L8_0_ok (s3 : (List Node)) (s4 : (List (List Int))) : ∀ s st o, ghostsD g8_0 st = some (F8_0 s3 s4 s) → iter (law18_HashParts_L0 s3 s4) s = some o →
    Wp (evW Try.prog A0 8 (.loop L8_0) st) (OutQ (F8_0 s3 s4) g8_0 (fun n s st => n = 0 ∧ ghostsD [.keep [3, 4, 5, 6]] st = some (F8_0 s3 s4 s)) (fun r st => finishD Try.prog A0 8 Try.f8 st = some (.p (.v (.bool r)), [])) o) := by
 refine Wp.iter ?_
 intro s st o hg h
 obtain ⟨s6, y0⟩ := s
 unfold law18_HashParts_L0 at h; unfold g8_0 F8_0 at hg ⊢
 (try simp only [] at h hg)
 unfold L8_0 bodyOf Try.f8; simp only [loopsOf, ens]
 revert h
 refine gI (fun h11 _ => ?_) (fun h11 _ => ?_)
 ·refine gW fun h13 => ?_
  have h12 : ∀ (H : List Ob) (id : Nat), apOb H id 0 y0.length 1 1 1 8 [.v (.int .i64 (-1 : Int))] (some (.arr (encL en_i64 y0))) = some (.ref H.length 0 (y0 ++ [(-1 : Int)]).length 1, H.set id .dead ++ [.arr (encL en_i64 (y0 ++ [(-1 : Int)]))]) := fun H id => ap_enc (y := [(-1 : Int)]) en_i64_len (by first | rfl | omega) rfl (by first | (simp only [encL_cons, encL_nil, en_i64_eq, List.cons_append, List.nil_append]; done) | (simp only [encL_cons, encL_nil, en_i64_eq, List.cons_append, List.nil_append]; rfl) | rfl) (by assumption)
  intro h; obtain rfl := Option.some.inj h
  simp (maxSteps := 10000000) (implicitDefEqProofs := false) (disch := first | with_reducible assumption | exact rfl | exact im_ _ | (fail_if_success show Kn _ _); omega | (show (_ : Int) < _; simp only [List.length_set, cpL_len] at *; omega)) only [bs, rs8, ls8, Nat.reduceAdd, ↓reduceIte, binD_neq_bool Try.underlying4, c10_0, c22_0, c24_1, c9_0, hash_Groups_call, lenD_lst u23, lenD_lst u33, lenD_lst u40, loadD_iagg a25 z25, loadD_iptr a3, loadD_iptr a40, loadD_pagg a25 z25, loadD_ptr a3, storeD_int z3, wks_nil_, hg, h12]
  exact ⟨(rfl : Ex.normal = Ex.normal), by kernel_rfl⟩
 ·intro h; obtain rfl := Option.some.inj h
  simp (maxSteps := 10000000) (implicitDefEqProofs := false) (disch := first | with_reducible assumption | exact rfl | exact im_ _ | (fail_if_success show Kn _ _); omega | (show (_ : Int) < _; simp only [List.length_set, cpL_len] at *; omega)) only [bs, rs8, ls8, Nat.reduceAdd, ↓reduceIte, binD_neq_bool Try.underlying4, c10_0, c22_0, c24_1, c9_0, hash_Groups_call, lenD_lst u23, lenD_lst u33, lenD_lst u40, loadD_iagg a25 z25, loadD_iptr a3, loadD_iptr a40, loadD_pagg a25 z25, loadD_ptr a3, storeD_int z3, wks_nil_, hg]
  exact ⟨(rfl : Ex.exit 0 = Ex.exit 0), rfl, by kernel_rfl⟩
theorem f8_ok  (x0 : Node) (r : Bool) (h : law18_HashParts x0 = some r) : callW Try.prog A0 8 [.p (.agg (pv_Node x0))] [] = some (.p (.v (.bool r)), []) := by
 refine call_ofI (fn := Try.f8) (c := bodyOf Try.f8) 149 rfl rfl (by kernel_rfl) (by kernel_rfl) (by kernel_rfl) ?_
 unfold law18_HashParts at h; unfold bodyOf Try.f8; simp only [ens]
 revert h
 refine gB fun r1 h2 => ?_
 refine gT (fun h4 _ => ?_) (fun h4 _ => ?_)
 ·refine gB fun r5 h6 => ?_
  refine gB fun r8 h9 => ?_
  refine gB fun o h14 => ?_
  intro h
  simp (maxSteps := 10000000) (implicitDefEqProofs := false) (disch := first | with_reducible assumption | exact rfl | exact im_ _ | (fail_if_success show Kn _ _); omega | (show (_ : Int) < _; simp only [List.length_set, cpL_len] at *; omega)) only [bs, rs8, ls8, Nat.reduceAdd, ↓reduceIte, binD_neq_bool Try.underlying4, c10_0, c22_0, c24_1, c9_0, hash_Groups_call, lenD_lst u23, lenD_lst u33, lenD_lst u40, loadD_iagg a25 z25, loadD_iptr a3, loadD_iptr a40, loadD_pagg a25 z25, loadD_ptr a3, storeD_int z3, wks_nil_]
  refine Wp.ctx (fun x => seqW _ _ _ _ (blockW _ (x))) (L8_0_ok r5 r8 ((0 : Int), ([] : List Int)) _ o (by kernel_rfl) h14) ?_
  intro e st hq
  cases o with
  | next _ => (first | cases h | (simp at h))
  | jmp n_ s_ =>
   obtain ⟨rfl, rfl, hq⟩ := hq
   obtain ⟨s6_15, y0_15⟩ := s_
   unfold F8_0 at hq
   (try simp only [] at h hq)
   revert h
   refine gB fun o h60 => ?_
   intro h
   simp (maxSteps := 10000000) (implicitDefEqProofs := false) (disch := first | with_reducible assumption | exact rfl | exact im_ _ | (fail_if_success show Kn _ _); omega | (show (_ : Int) < _; simp only [List.length_set, cpL_len] at *; omega)) only [bs, rs8, ls8, Nat.reduceAdd, ↓reduceIte, binD_neq_bool Try.underlying4, c10_0, c22_0, c24_1, c9_0, hash_Groups_call, lenD_lst u23, lenD_lst u33, lenD_lst u40, loadD_iagg a25 z25, loadD_iptr a3, loadD_iptr a40, loadD_pagg a25 z25, loadD_ptr a3, storeD_int z3, wks_nil_, hq]
   refine Wp.ctx (fun x => seqW _ _ _ _ (blockW _ (x))) (L8_1_ok r5 r8 ((0 : Int), y0_15) _ o (by kernel_rfl) h60) ?_
   intro e st hq
   cases o with
   | next _ => (first | cases h | (simp at h))
   | jmp n_ s_ =>
    obtain ⟨rfl, rfl, hq⟩ := hq
    obtain ⟨s7_61, y0_61⟩ := s_
    unfold F8_1 at hq
    (try simp only [] at h hq)
    revert h
    refine gB fun o h95 => ?_
    intro h
    simp (maxSteps := 10000000) (implicitDefEqProofs := false) (disch := first | with_reducible assumption | exact rfl | exact im_ _ | (fail_if_success show Kn _ _); omega | (show (_ : Int) < _; simp only [List.length_set, cpL_len] at *; omega)) only [bs, rs8, ls8, Nat.reduceAdd, ↓reduceIte, binD_neq_bool Try.underlying4, c10_0, c22_0, c24_1, c9_0, hash_Groups_call, lenD_lst u23, lenD_lst u33, lenD_lst u40, loadD_iagg a25 z25, loadD_iptr a3, loadD_iptr a40, loadD_pagg a25 z25, loadD_ptr a3, storeD_int z3, wks_nil_, hq, hq]
    refine Wp.ctx (fun x => seqW _ _ _ _ (blockW _ (x))) (L8_3_ok r5 y0_61 (0 : Int) _ o (by kernel_rfl) h95) ?_
    intro e st hq
    cases o with
    | next _ => (first | cases h | (simp at h))
    | jmp n_ s_ =>
     obtain ⟨rfl, rfl, hq⟩ := hq
     generalize s_ = s10_96 at h hq
     unfold F8_3 at hq
     (try simp only [] at h hq)
     revert h
     repeat' (with_reducible refine gB fun _ _ => ?_)
     intro h; obtain rfl := Option.some.inj h
     simp (maxSteps := 10000000) (implicitDefEqProofs := false) (disch := first | with_reducible assumption | exact rfl | exact im_ _ | (fail_if_success show Kn _ _); omega | (show (_ : Int) < _; simp only [List.length_set, cpL_len] at *; omega)) only [bs, rs8, ls8, Nat.reduceAdd, ↓reduceIte, binD_neq_bool Try.underlying4, c10_0, c22_0, c24_1, c9_0, hash_Groups_call, lenD_lst u23, lenD_lst u33, lenD_lst u40, loadD_iagg a25 z25, loadD_iptr a3, loadD_iptr a40, loadD_pagg a25 z25, loadD_ptr a3, storeD_int z3, wks_nil_, hq, hq, hq]
     refine ⟨by simp, ?_⟩; exact fin_sc rfl rfl rfl rfl
    | ret _ => (first | cases h | (simp at h))
   | ret r100 =>
    obtain ⟨rfl, hq⟩ := hq
    obtain rfl := Option.some.inj h
    simp (maxSteps := 10000000) (implicitDefEqProofs := false) (disch := first | with_reducible assumption | exact rfl | exact im_ _ | (fail_if_success show Kn _ _); omega | (show (_ : Int) < _; simp only [List.length_set, cpL_len] at *; omega)) only [bs, rs8, ls8, Nat.reduceAdd, ↓reduceIte, binD_neq_bool Try.underlying4, c10_0, c22_0, c24_1, c9_0, hash_Groups_call, lenD_lst u23, lenD_lst u33, lenD_lst u40, loadD_iagg a25 z25, loadD_iptr a3, loadD_iptr a40, loadD_pagg a25 z25, loadD_ptr a3, storeD_int z3, wks_nil_]
    exact ⟨by simp, hq⟩
  | ret _ => (first | cases h | (simp at h))
 ·repeat' (with_reducible refine gB fun _ _ => ?_)
  intro h; obtain rfl := Option.some.inj h
  simp (maxSteps := 10000000) (implicitDefEqProofs := false) (disch := first | with_reducible assumption | exact rfl | exact im_ _ | (fail_if_success show Kn _ _); omega | (show (_ : Int) < _; simp only [List.length_set, cpL_len] at *; omega)) only [bs, rs8, ls8, Nat.reduceAdd, ↓reduceIte, binD_neq_bool Try.underlying4, c10_0, c22_0, c24_1, c9_0, hash_Groups_call, lenD_lst u23, lenD_lst u33, lenD_lst u40, loadD_iagg a25 z25, loadD_iptr a3, loadD_iptr a40, loadD_pagg a25 z25, loadD_ptr a3, storeD_int z3, wks_nil_]
  refine ⟨by simp, ?_⟩; exact fin_sc rfl rfl rfl rfl
end Xr

