/- A part of the proof: P0. No conditions of its own. -/
import Derived.Test.YtdknlgpdjmjlnaaGreatDoorL
namespace Xr
open Go Go.Ev Go.Proofs
set_option linter.unusedSimpArgs false
set_option linter.unusedVariables false
set_option linter.defProp false
set_option maxRecDepth 8000
set_option maxHeartbeats 40000000
def ls30 := And.intro @faP_25_3 (And.intro @idxL_23 (And.intro @lk_frz_25 (@varld_4_0_3)))
theorem c30r_0 {rec : Node → Int → Int → Option Int} (hrec : ∀ x0 x1 x2 r, rec x0 x1 x2 = some r → callW Tryz.prog A0 30 [.p (.agg (pv_Node x0)), iv x1, iv x2] [] = some (.p (.v (.int .i64 r)), [])) {H : List Ob} {a1 : Node} {a2 a3 : Int} {r : Int} (h : rec a1 a2 a3 = some r) : callD (callW Tryz.prog A0) A0 H 30 [.p (.agg (pv_Node a1)), iv a2, iv a3] = some (.p (.v (.int .i64 r)), none) :=
 callD_fun (args := [.agg (pv_Node a1), .v (.int .i64 a2), .v (.int .i64 a3)]) rfl rfl rfl (by simp only [List.map_cons, List.map_nil, wk, wks, wkL]; exact hrec a1 a2 a3 _ h)
noncomputable def L30_0 : Code := (loopsOf (bodyOf Tryz.f30)).getD 0 .skip
def g30_0 : List Ghost := [.keep [2, 3, 7, 8]]
noncomputable def F30_0 (s2 : Int) (w0_0 : Int) (w0_1 : ByteArray) (w0_2 : (List ByteArray)) (w0_3 : (List Node)) : (Int × Int) → St := fun (s7, s8) => ⟨[J, J, iv s2, .ptr 0 0, J, J, J, iv s7, iv s8, J, J, J, J, J, J, J, J, J, J, J, J, J, J, J, J, J, J, J, J, J, J, J, J, J, J, J, J, J, J, J, J, J, J], [.var [iv w0_0, .p (.v (.string w0_1)), .p (.lst false w0_2.length (encL en_str w0_2)), .p (.lst false w0_3.length (encL en_Node w0_3))]], 0⟩
theorem L30_0_ok {rec : Node → Int → Int → Option Int} (hrec : ∀ x0 x1 x2 r, rec x0 x1 x2 = some r → callW Tryz.prog A0 30 [.p (.agg (pv_Node x0)), iv x1, iv x2] [] = some (.p (.v (.int .i64 r)), [])) (s2 : Int) (w0_0 : Int) (w0_1 : ByteArray) (w0_2 : (List ByteArray)) (w0_3 : (List Node)) : ∀ s st o, ghostsD g30_0 st = some (F30_0 s2 w0_0 w0_1 w0_2 w0_3 s) → iter (R06_left_L0 rec s2 w0_0 w0_1 w0_2 w0_3) s = some o →
    Wp (evW Tryz.prog A0 30 (.loop L30_0) st) (OutQ (F30_0 s2 w0_0 w0_1 w0_2 w0_3) g30_0 (fun n s st => n = 0 ∧ ghostsD [.keep [2, 3, 7, 8]] st = some (F30_0 s2 w0_0 w0_1 w0_2 w0_3 s)) (fun r st => finishD Tryz.prog A0 30 Tryz.f30 st = some (.p (.v (.int .i64 r)), [])) o) := by
 refine Wp.iter ?_
 intro s st o hg h
 obtain ⟨s7, s8⟩ := s
 unfold R06_left_L0 at h; unfold g30_0 F30_0 at hg ⊢
 (try simp only [] at h hg)
 unfold L30_0 bodyOf Tryz.f30; simp only [loopsOf, ens]
 revert h
 repeat' first | (with_reducible refine gR fun _ _ _ _ => ?_) | (with_reducible refine gB fun _ _ => ?_) | (with_reducible refine gI (fun _ _ => ?_) (fun _ _ => ?_))
 all_goals
  intro h; obtain rfl := Option.some.inj h
  first | (simp (maxSteps := 10000000) (implicitDefEqProofs := false) (disch := first | with_reducible assumption | exact rfl | exact im_ _ | (fail_if_success show Kn _ _); omega) only [bs, rs30, ls30, Nat.reduceAdd, ↓reduceIte, c30r_0 hrec, lenD_lst u23, loadD_iagg a25 z25, loadD_ptr a23, hg]; first | (refine ⟨(rfl : Ex.ret = Ex.ret), ?_⟩; exact fin_sc rfl rfl rfl rfl) | (exact ⟨(rfl : Ex.normal = Ex.normal), by kernel_rfl⟩) | (exact ⟨(rfl : Ex.exit 0 = Ex.exit 0), rfl, by kernel_rfl⟩)) | (exfalso; omega)
theorem f30_ok {rec : Node → Int → Int → Option Int} (hrec : ∀ x0 x1 x2 r, rec x0 x1 x2 = some r → callW Tryz.prog A0 30 [.p (.agg (pv_Node x0)), iv x1, iv x2] [] = some (.p (.v (.int .i64 r)), []))  (x0 : Node) (x1 : Int) (x2 : Int) (r : Int) (h : R06_left.body rec x0 x1 x2 = some r) : callW Tryz.prog A0 30 [.p (.agg (pv_Node x0)), iv x1, iv x2] [] = some (.p (.v (.int .i64 r)), []) := by
 refine call_ofI (fn := Tryz.f30) (c := bodyOf Tryz.f30) 40 rfl rfl (by kernel_rfl) (by kernel_rfl) (by kernel_rfl) ?_
 unfold R06_left.body at h; unfold bodyOf Tryz.f30; simp only [ens]
 revert h
 refine gI (fun h1 _ => ?_) (fun h1 _ => ?_)
 ·intro h; obtain rfl := Option.some.inj h
  simp (maxSteps := 10000000) (implicitDefEqProofs := false) (disch := first | with_reducible assumption | exact rfl | exact im_ _ | (fail_if_success show Kn _ _); omega) only [bs, rs30, ls30, Nat.reduceAdd, ↓reduceIte, c30r_0 hrec, lenD_lst u23, loadD_iagg a25 z25, loadD_ptr a23]
  refine ⟨by simp, ?_⟩; exact fin_sc rfl rfl rfl rfl
 ·refine gI (fun h2 _ => ?_) (fun h2 _ => ?_)
  ·intro h; obtain rfl := Option.some.inj h
   simp (maxSteps := 10000000) (implicitDefEqProofs := false) (disch := first | with_reducible assumption | exact rfl | exact im_ _ | (fail_if_success show Kn _ _); omega) only [bs, rs30, ls30, Nat.reduceAdd, ↓reduceIte, c30r_0 hrec, lenD_lst u23, loadD_iagg a25 z25, loadD_ptr a23]
   refine ⟨by simp, ?_⟩; exact fin_sc rfl rfl rfl rfl
  ·refine gI (fun h3 _ => ?_) (fun h3 _ => ?_)
   ·intro h; obtain rfl := Option.some.inj h
    simp (maxSteps := 10000000) (implicitDefEqProofs := false) (disch := first | with_reducible assumption | exact rfl | exact im_ _ | (fail_if_success show Kn _ _); omega) only [bs, rs30, ls30, Nat.reduceAdd, ↓reduceIte, c30r_0 hrec, lenD_lst u23, loadD_iagg a25 z25, loadD_ptr a23]
    refine ⟨by simp, ?_⟩; exact fin_sc rfl rfl rfl rfl
   ·refine gB fun o h12 => ?_
    intro h
    simp (maxSteps := 10000000) (implicitDefEqProofs := false) (disch := first | with_reducible assumption | exact rfl | exact im_ _ | (fail_if_success show Kn _ _); omega) only [bs, rs30, ls30, Nat.reduceAdd, ↓reduceIte, c30r_0 hrec, lenD_lst u23, loadD_iagg a25 z25, loadD_ptr a23]
    refine Wp.ctx (fun x => seqW _ _ _ _ (blockW _ (x))) (L30_0_ok hrec x2 x0.Kind x0.Text x0.Gaps x0.Kids (w64 (x1 - (1 : Int)), (0 : Int)) _ o (by kernel_rfl) h12) ?_
    intro e st hq
    cases o with
    | next _ => (first | cases h | (simp at h))
    | jmp n_ s_ =>
     obtain ⟨rfl, rfl, hq⟩ := hq
     obtain ⟨s7_13, s8_13⟩ := s_
     unfold F30_0 at hq
     (try simp only [] at h hq)
     revert h
     intro h; obtain rfl := Option.some.inj h
     simp (maxSteps := 10000000) (implicitDefEqProofs := false) (disch := first | with_reducible assumption | exact rfl | exact im_ _ | (fail_if_success show Kn _ _); omega) only [bs, rs30, ls30, Nat.reduceAdd, ↓reduceIte, c30r_0 hrec, lenD_lst u23, loadD_iagg a25 z25, loadD_ptr a23, hq]
     refine ⟨by simp, ?_⟩; exact fin_sc rfl rfl rfl rfl
    | ret r14 =>
     obtain ⟨rfl, hq⟩ := hq
     obtain rfl := Option.some.inj h
     simp (maxSteps := 10000000) (implicitDefEqProofs := false) (disch := first | with_reducible assumption | exact rfl | exact im_ _ | (fail_if_success show Kn _ _); omega) only [bs, rs30, ls30, Nat.reduceAdd, ↓reduceIte, c30r_0 hrec, lenD_lst u23, loadD_iagg a25 z25, loadD_ptr a23]
     exact ⟨by simp, hq⟩
theorem f30_spec : ∀ (x0 : Node) (x1 : Int) (x2 : Int) r, R06_leftS x0 x1 x2 = some r → callW Tryz.prog A0 30 [.p (.agg (pv_Node x0)), iv x1, iv x2] [] = some (.p (.v (.int .i64 r)), []) := by
 have key : ∀ n (x0 : Node) (x1 : Int) (x2 : Int) r, R06_leftS_mu x0 x1 x2 < n → R06_leftS x0 x1 x2 = some r → callW Tryz.prog A0 30 [.p (.agg (pv_Node x0)), iv x1, iv x2] [] = some (.p (.v (.int .i64 r)), []) := by
  intro n
  induction n with
  | zero => intro x0 x1 x2 r h; omega
  | succ n ih =>
   intro x0 x1 x2 r hn h
   refine f30_ok (rec := fun x0' x1' x2' => if R06_leftS_mu x0' x1' x2' < R06_leftS_mu x0 x1 x2 then R06_leftS x0' x1' x2' else none) ?_ x0 x1 x2 r (R06_leftS_body x0 x1 x2 r h)
   intro x0' x1' x2' r' h'
   by_cases hm : R06_leftS_mu x0' x1' x2' < R06_leftS_mu x0 x1 x2
   ·rw [if_pos hm] at h'; exact ih x0' x1' x2' r' (by omega) h'
   ·rw [if_neg hm] at h'; cases h'
 intro x0 x1 x2 r h
 exact key _ x0 x1 x2 r (Nat.lt_succ_self _) h
def ls13 := @varlv_4_0_4
theorem c30_1 {H : List Ob} {a1 : Node} {a2 a3 : Int} {r : Int} (h : R06_leftS a1 a2 a3 = some r) : callD (callW Tryz.prog A0) A0 H 30 [.p (.agg (pv_Node a1)), iv a2, iv a3] = some (.p (.v (.int .i64 r)), none) :=
 callD_fun (args := [.agg (pv_Node a1), .v (.int .i64 a2), .v (.int .i64 a3)]) rfl rfl rfl (by simp only [List.map_cons, List.map_nil, wk, wks, wkL]; exact f30_spec a1 a2 a3 _ h)
theorem f13_ok  (x0 : Node) (x1 : Int) (x2 : Int) (r : Bool) (h : R06_Fits x0 x1 x2 = some r) : callW Tryz.prog A0 13 [.p (.agg (pv_Node x0)), iv x1, iv x2] [] = some (.p (.v (.bool r)), []) := by
 refine call_ofI (fn := Tryz.f13) (c := bodyOf Tryz.f13) 9 rfl rfl (by kernel_rfl) (by kernel_rfl) (by kernel_rfl) ?_
 unfold R06_Fits at h; unfold bodyOf Tryz.f13; simp only [ens]
 revert h
 repeat' (with_reducible refine gB fun _ _ => ?_)
 intro h; obtain rfl := Option.some.inj h
 simp (maxSteps := 10000000) (implicitDefEqProofs := false) (disch := first | with_reducible assumption | exact rfl | exact im_ _ | (fail_if_success show Kn _ _); omega) only [bs, rs13, ls13, Nat.reduceAdd, ↓reduceIte, c30_1, loadD_pagg a25 z25]
 refine ⟨by simp, ?_⟩; exact fin_sc rfl rfl rfl rfl
def ls4 := @varlv_4_0_4
theorem c13_0 {H : List Ob} {a1 : Node} {a2 a3 : Int} {r : Bool} (h : R06_Fits a1 a2 a3 = some r) : callD (callW Tryz.prog A0) A0 H 13 [.p (.agg (pv_Node a1)), iv a2, iv a3] = some (.p (.v (.bool r)), none) :=
 callD_fun (args := [.agg (pv_Node a1), .v (.int .i64 a2), .v (.int .i64 a3)]) rfl rfl rfl (by simp only [List.map_cons, List.map_nil, wk, wks, wkL]; exact f13_ok a1 a2 a3 _ h)
theorem f4_ok  (x0 : Node) (r : Bool) (h : law33_small x0 = some r) : callW Tryz.prog A0 4 [.p (.agg (pv_Node x0))] [] = some (.p (.v (.bool r)), []) := by
 refine call_ofI (fn := Tryz.f4) (c := bodyOf Tryz.f4) 4 rfl rfl (by kernel_rfl) (by kernel_rfl) (by kernel_rfl) ?_
 unfold law33_small at h; unfold bodyOf Tryz.f4; simp only [ens]
 revert h
 repeat' (with_reducible refine gB fun _ _ => ?_)
 intro h; obtain rfl := Option.some.inj h
 simp (maxSteps := 10000000) (implicitDefEqProofs := false) (disch := first | with_reducible assumption | exact rfl | exact im_ _ | (fail_if_success show Kn _ _); omega) only [bs, rs4, ls4, Nat.reduceAdd, ↓reduceIte, c13_0, loadD_pagg a25 z25]
 refine ⟨by simp, ?_⟩; exact fin_sc rfl rfl rfl rfl
theorem f5_run : callN Tryz.prog A0 200 5 [] [] = some (.p (.v (.bool true)), []) := by kernel_rfl
theorem f5_ok (r : Bool) (h : law33_awake = some r) : callW Tryz.prog A0 5 [] [] = some (.p (.v (.bool r)), []) := by
 cases h; exact callW_some.2 ⟨200, f5_run⟩
def ls45 := @mk_22
theorem c4_0 {H : List Ob} {a1 : Node} {r : Bool} (h : law33_small a1 = some r) : callD (callW Tryz.prog A0) A0 H 4 [.p (.agg (pv_Node a1))] = some (.p (.v (.bool r)), none) :=
 callD_fun (args := [.agg (pv_Node a1)]) rfl rfl rfl (by simp only [List.map_cons, List.map_nil, wk, wks, wkL]; exact f4_ok a1 _ h)
theorem c5_0 {H : List Ob}  {r : Bool} (h : law33_awake  = some r) : callD (callW Tryz.prog A0) A0 H 5 [] = some (.p (.v (.bool r)), none) :=
 callD_fun (args := []) rfl rfl rfl (by simp only [List.map_cons, List.map_nil, wk, wks, wkL]; exact f5_ok  _ h)
theorem f45_ok  (x0 : (List ByteArray)) (r : (List ByteArray)) (h : tree_texts x0 = some r) : callW Tryz.prog A0 45 [.p (.lst false x0.length (encL en_str x0))] [] = some (.p (.lst false r.length (encL en_str r)), []) := by
 refine call_ofI (fn := Tryz.f45) (c := bodyOf Tryz.f45) 13 rfl rfl (by kernel_rfl) (by kernel_rfl) (by kernel_rfl) ?_
 unfold tree_texts at h; unfold bodyOf Tryz.f45; simp only [ens]
 revert h
 refine gI (fun h1 _ => ?_) (fun h1 _ => ?_)
 ·intro h; obtain rfl := Option.some.inj h
  simp (maxSteps := 10000000) (implicitDefEqProofs := false) (disch := first | with_reducible assumption | exact rfl | exact im_ _ | (fail_if_success show Kn _ _); omega) only [bs, rs45, ls45, Nat.reduceAdd, ↓reduceIte, lenD_lst u22, ops_copy]
  refine ⟨by simp, ?_⟩; exact finish_is (l := []) rfl rfl rfl rfl (by first | rfl | (simp only [wk, wks, wkL]; first | done | rfl))
 ·refine gW fun ⟨h2, h3⟩ => ?_
  have h4 := cp_22 (H := [.arr (encL en_str (List.replicate (x0.length : Int).toNat ByteArray.empty))]) (t2 := 22) (id := 0) (n := (List.replicate (x0.length : Int).toNat ByteArray.empty).length) (x := (List.replicate (x0.length : Int).toNat ByteArray.empty)) (y := x0) (full := false) rfl (by first | rfl | omega)
  have h5 : (cpL (List.replicate (x0.length : Int).toNat ByteArray.empty) x0).length = (List.replicate (x0.length : Int).toNat ByteArray.empty).length := cpL_len _ _
  intro h; obtain rfl := Option.some.inj h
  simp (maxSteps := 10000000) (implicitDefEqProofs := false) (disch := first | with_reducible assumption | exact rfl | exact im_ _ | (fail_if_success show Kn _ _); omega) only [bs, rs45, ls45, Nat.reduceAdd, ↓reduceIte, lenD_lst u22, ops_copy, h4]
  refine ⟨by simp, ?_⟩; exact finish_is (l := [0]) rfl rfl rfl (purify1_enc en_str_len rfl (by first | rfl | omega | simp)) (by first | rfl | (simp only [wk, wks, wkL]; first | done | rfl))
def ls37 := And.intro @al_25 (And.intro @ap_43_43 (And.intro @bs_43_1 (And.intro @bu_51_0_1_2_3 (And.intro @faP_25_0 (And.intro @faP_25_1 (And.intro @faP_25_2 (And.intro @faP_25_3 (And.intro @faP_51_4 (And.intro @idxL_23 (And.intro @idxR_43 (And.intro @idxR_49 (And.intro @lk_frz_25 (And.intro @mk_49 (And.intro @sa_4_0_4 (And.intro @stf_3_x (And.intro @varld_4_0_0 (And.intro @varld_4_0_1 (And.intro @varld_4_0_2 (And.intro @varld_4_0_3 (@varlv_4_0_4))))))))))))))))))))
theorem tree_list_rcall {rec : (List Row) → Node → Int → Option (List Row)} (hrec : ∀ x0 x1 x2 r, rec x0 x1 x2 = some r → callW Tryz.prog A0 37 [.ref 0 0 x0.length 5, .p (.agg (pv_Node x1)), iv x2] [.arr (encL en_Row x0)] = some (.ref 1 0 r.length 5, [.dead, .arr (encL en_Row r)])) {H : List Ob} {id n : Nat} {b1 b2 : Bool} {x0 : (List Row)} {x1 : Node} {x2 : Int} {r : (List Row)} : H[id]? = some (.arr (encL en_Row x0)) → n = x0.length → ∀ (h : rec x0 x1 x2 = some r), callD (callW Tryz.prog A0) A0 H 37 [.ref id 0 n 5, .p (.agg [.v (.int .i64 x1.Kind), .v (.string x1.Text), .lst b1 x1.Gaps.length (encL en_str x1.Gaps), .lst b2 x1.Kids.length (encL en_Node x1.Kids)]), iv x2] = some (.ref H.length 0 r.length 5, some (H.set id .dead ++ [.arr (encL en_Row r)])) := by
 intro hid hn h; subst hn; exact callD_mut1 (args := [.agg (pv_Node x1), .v (.int .i64 x2)]) (by simp only [List.map_cons, List.map_nil, wkDv, wk, wks, wkL]) rfl hid (hrec x0 x1 x2 _ h)
theorem c45_0 {H : List Ob} {a1 : Bool} {a2 : List ByteArray} {r : (List ByteArray)} (h : tree_texts a2 = some r) : callD (callW Tryz.prog A0) A0 H 45 [.p (.lst a1 a2.length (encL en_str a2))] = some (.p (.lst false r.length (encL en_str r)), none) :=
 callD_fun (args := [.lst a1 a2.length (encL en_str a2)]) rfl rfl rfl (by simp only [List.map_cons, List.map_nil, wk, wks, wkL]; exact f45_ok a2 _ h)
theorem q37_0 {rec : (List Row) → Node → Int → Option (List Row)} (hrec : ∀ x0 x1 x2 r, rec x0 x1 x2 = some r → callW Tryz.prog A0 37 [.ref 0 0 x0.length 5, .p (.agg (pv_Node x1)), iv x2] [.arr (encL en_Row x0)] = some (.ref 1 0 r.length 5, [.dead, .arr (encL en_Row r)])) {a1 : List Row} {a2 : Node} {a3 : Int} {r9001 : (List Row)} {X2 X3 : Ob} (h9002 : rec a1 a2 a3 = some r9001) : callD (callW Tryz.prog A0) A0 [.dead, .arr (encL en_Row a1), X2, X3] 37 [.ref 1 0 a1.length 5, .p (.agg (pv_Node a2)), iv a3] = some (.ref 4 0 r9001.length 5, some [.dead, .dead, X2, X3, .arr (encL en_Row r9001)]) := tree_list_rcall hrec (H := [.dead, .arr (encL en_Row a1), X2, X3]) (id := 1) rfl (by first | rfl | omega) h9002
theorem q37_1 {rec : (List Row) → Node → Int → Option (List Row)} (hrec : ∀ x0 x1 x2 r, rec x0 x1 x2 = some r → callW Tryz.prog A0 37 [.ref 0 0 x0.length 5, .p (.agg (pv_Node x1)), iv x2] [.arr (encL en_Row x0)] = some (.ref 1 0 r.length 5, [.dead, .arr (encL en_Row r)])) {a1 : List Row} {a2 : Node} {a3 : Int} {r9001 : (List Row)} {X1 X2 : Ob} (h9002 : rec a1 a2 a3 = some r9001) : callD (callW Tryz.prog A0) A0 [.arr (encL en_Row a1), X1, X2] 37 [.ref 0 0 a1.length 5, .p (.agg (pv_Node a2)), iv a3] = some (.ref 3 0 r9001.length 5, some [.dead, X1, X2, .arr (encL en_Row r9001)]) := tree_list_rcall hrec (H := [.arr (encL en_Row a1), X1, X2]) (id := 0) rfl (by first | rfl | omega) h9002
noncomputable def L37_0 : Code := (loopsOf (bodyOf Tryz.f37)).getD 0 .skip
def g37_0 : List Ghost := [.weak [35], .keep [0, 7, 8, 35, 36, 37]]
noncomputable def F37_0 (s7 : Int) (s35 : (List Node)) (s36 : Int) : (Int × (List Row) × (List Int)) → St := fun (s37, y1, y2) => ⟨[.ref 1 0 y1.length 5, J, J, J, J, J, J, iv s7, .ref 2 0 y2.length 1, J, J, J, J, J, J, J, J, J, J, J, J, J, J, J, J, J, J, J, J, J, J, J, J, J, J, .p (.lst false s35.length (encL en_Node s35)), iv s36, iv s37, J, J, J, J, J, J, J, J, J, J, J, J, J, J, J, J, J, J, J, J], [.dead, .arr (encL en_Row y1), .arr (encL en_i64 y2)], 1⟩
theorem L37_0_ok {rec : (List Row) → Node → Int → Option (List Row)} (hrec : ∀ x0 x1 x2 r, rec x0 x1 x2 = some r → callW Tryz.prog A0 37 [.ref 0 0 x0.length 5, .p (.agg (pv_Node x1)), iv x2] [.arr (encL en_Row x0)] = some (.ref 1 0 r.length 5, [.dead, .arr (encL en_Row r)])) (s7 : Int) (s35 : (List Node)) (s36 : Int) : ∀ s st o, ghostsD g37_0 st = some (F37_0 s7 s35 s36 s) → iter (tree_list_L0 rec s7 s35 s36) s = some o →
    Wp (evW Tryz.prog A0 37 (.loop L37_0) st) (OutQ (F37_0 s7 s35 s36) g37_0 (fun n s st => n = 0 ∧ ghostsD [.keep [0, 7, 8, 35, 36, 37]] st = some (F37_0 s7 s35 s36 s)) (fun r st => finishD Tryz.prog A0 37 Tryz.f37 st = some (.ref 1 0 r.length 5, [.dead, .arr (encL en_Row r)])) o) := by
 refine Wp.iter ?_
 intro s st o hg h
 obtain ⟨s37, y1, y2⟩ := s
 unfold tree_list_L0 at h; unfold g37_0 F37_0 at hg ⊢
 (try simp only [] at h hg)
 unfold L37_0 bodyOf Tryz.f37; simp only [loopsOf, ens]
 revert h
 repeat' first | (with_reducible refine gR fun _ _ _ _ => ?_) | (with_reducible refine gB fun _ _ => ?_) | (with_reducible refine gI (fun _ _ => ?_) (fun _ _ => ?_))
 all_goals
  intro h; obtain rfl := Option.some.inj h
  first | (simp (maxSteps := 10000000) (implicitDefEqProofs := false) (disch := first | with_reducible assumption | exact rfl | exact im_ _ | (fail_if_success show Kn _ _); omega | (show (_ : Int) < _; simp only [List.length_set, cpL_len] at *; omega)) only [bs, rs37, ls37, Nat.reduceAdd, ↓reduceIte, c45_0, lenD_lst u23, lenD_ref u43, loadD_iagg a25 z25, loadD_pagg a25 z25, loadD_ptr a22, loadD_ptr a23, loadD_ptr a3, loadD_ptr a9, own_ref, q37_0 hrec, storeD_agg z25, storeD_int z3, wksL_en_i64, wksL_en_str, wks_nil_, hg]; first | (exact ⟨(rfl : Ex.normal = Ex.normal), by (try simp only [List.length_set, cpL_len]); kernel_rfl⟩) | (exact ⟨(rfl : Ex.exit 0 = Ex.exit 0), rfl, by kernel_rfl⟩)) | (exfalso; omega)
theorem f37_ok {rec : (List Row) → Node → Int → Option (List Row)} (hrec : ∀ x0 x1 x2 r, rec x0 x1 x2 = some r → callW Tryz.prog A0 37 [.ref 0 0 x0.length 5, .p (.agg (pv_Node x1)), iv x2] [.arr (encL en_Row x0)] = some (.ref 1 0 r.length 5, [.dead, .arr (encL en_Row r)]))  (x0 : (List Row)) (x1 : Node) (x2 : Int) (r : (List Row)) (h : tree_list.body rec x0 x1 x2 = some r) : callW Tryz.prog A0 37 [.ref 0 0 x0.length 5, .p (.agg (pv_Node x1)), iv x2] [.arr (encL en_Row x0)] = some (.ref 1 0 r.length 5, [.dead, .arr (encL en_Row r)]) := by
 refine call_ofI (fn := Tryz.f37) (c := bodyOf Tryz.f37) 55 rfl rfl (by kernel_rfl) (by kernel_rfl) (by kernel_rfl) ?_
 unfold tree_list.body at h; unfold bodyOf Tryz.f37; simp only [ens]
 revert h
 refine gB fun r1 h2 => ?_
 refine gW fun h5 => ?_
 have h4 : ∀ (H : List Ob) (id : Nat), apOb H id 0 x0.length 1 5 5 80 [.v (.int .i64 x2), .v (.int .i64 x1.Kind), .v (.string x1.Text), .lst false r1.length (encL en_str r1), .lst false 0 []] (some (.arr (encL en_Row x0))) = some (.ref H.length 0 (x0 ++ [(Row.mk x2 x1.Kind x1.Text r1 ([] : List Int))]).length 5, H.set id .dead ++ [.arr (encL en_Row (x0 ++ [(Row.mk x2 x1.Kind x1.Text r1 ([] : List Int))]))]) := fun H id => ap_enc (y := [(Row.mk x2 x1.Kind x1.Text r1 ([] : List Int))]) en_Row_len (by first | rfl | omega) rfl (by first | (simp only [encL_cons, encL_nil, en_Row_eq, List.cons_append, List.nil_append]; done) | (simp only [encL_cons, encL_nil, en_Row_eq, List.cons_append, List.nil_append]; rfl) | rfl) (by assumption)
 refine gI (fun h6 _ => ?_) (fun h6 _ => ?_)
 ·intro h; obtain rfl := Option.some.inj h
  simp (maxSteps := 10000000) (implicitDefEqProofs := false) (disch := first | with_reducible assumption | exact rfl | exact im_ _ | (fail_if_success show Kn _ _); omega | (show (_ : Int) < _; simp only [List.length_set, cpL_len] at *; omega)) only [bs, rs37, ls37, Nat.reduceAdd, ↓reduceIte, c45_0, lenD_lst u23, lenD_ref u43, loadD_iagg a25 z25, loadD_pagg a25 z25, loadD_ptr a22, loadD_ptr a23, loadD_ptr a3, loadD_ptr a9, own_ref, q37_0 hrec, storeD_agg z25, storeD_int z3, wksL_en_i64, wksL_en_str, wks_nil_, h4]
  refine ⟨by simp, ?_⟩; show _ = _; kernel_rfl
 ·refine gW fun ⟨h7, h8⟩ => ?_
  refine gB fun o h20 => ?_
  intro h
  simp (maxSteps := 10000000) (implicitDefEqProofs := false) (disch := first | with_reducible assumption | exact rfl | exact im_ _ | (fail_if_success show Kn _ _); omega | (show (_ : Int) < _; simp only [List.length_set, cpL_len] at *; omega)) only [bs, rs37, ls37, Nat.reduceAdd, ↓reduceIte, c45_0, lenD_lst u23, lenD_ref u43, loadD_iagg a25 z25, loadD_pagg a25 z25, loadD_ptr a22, loadD_ptr a23, loadD_ptr a3, loadD_ptr a9, own_ref, q37_0 hrec, storeD_agg z25, storeD_int z3, wksL_en_i64, wksL_en_str, wks_nil_, h4]
  refine Wp.ctx (fun x => seqW _ _ _ _ (blockW _ (x))) (L37_0_ok hrec (x0.length : Int) x1.Kids (x1.Kids.length : Int) ((0 : Int), (x0 ++ [(Row.mk x2 x1.Kind x1.Text r1 ([] : List Int))]), (List.replicate (x1.Kids.length : Int).toNat (0 : Int))) _ o (by kernel_rfl) h20) ?_
  intro e st hq
  cases o with
  | next _ => (first | cases h | (simp at h))
  | jmp n_ s_ =>
   obtain ⟨rfl, rfl, hq⟩ := hq
   obtain ⟨s37_21, y1_21, y2_21⟩ := s_
   unfold F37_0 at hq
   (try simp only [] at h hq)
   revert h
   refine gR fun v22 h23 h23a h23b => ?_
   have h24 : storeD Tryz.prog [.dead, .arr (encL en_Row y1_21), .arr (encL en_i64 y2_21)] 49 (.ptr 1 (ato (x0.length : Int) 5 + 4)) (.ref 2 0 y2_21.length 1) = some [.dead, .arr (encL en_Row (y1_21.set (x0.length : Int).toNat (Row.mk v22.Parent v22.Kind v22.Text v22.Gaps y2_21))), .frz (encL en_i64 y2_21)] := (storeD_row (v' := (Row.mk v22.Parent v22.Kind v22.Text v22.Gaps y2_21)) (k := 4) z49 en_Row_len en_i64_len rfl rfl rfl (by first | rfl | omega) h23 (by decide) (by rw [en_Row_eq, en_Row_eq]; rfl)).trans rfl
   have h25 : (y1_21.set (x0.length : Int).toNat (Row.mk v22.Parent v22.Kind v22.Text v22.Gaps y2_21)).length = y1_21.length := List.length_set
   intro h; obtain rfl := Option.some.inj h
   simp (maxSteps := 10000000) (implicitDefEqProofs := false) (disch := first | with_reducible assumption | exact rfl | exact im_ _ | (fail_if_success show Kn _ _); omega | (show (_ : Int) < _; simp only [List.length_set, cpL_len] at *; omega)) only [bs, rs37, ls37, Nat.reduceAdd, ↓reduceIte, c45_0, lenD_lst u23, lenD_ref u43, loadD_iagg a25 z25, loadD_pagg a25 z25, loadD_ptr a22, loadD_ptr a23, loadD_ptr a3, loadD_ptr a9, own_ref, q37_0 hrec, storeD_agg z25, storeD_int z3, wksL_en_i64, wksL_en_str, wks_nil_, h4, hq, h24]
   refine ⟨by simp, ?_⟩; show _ = _; simp only [List.length_set, cpL_len]; kernel_rfl
  | ret _ => (first | cases h | (simp at h))
def ls37n := And.intro @al_25 (And.intro @ap_43_43 (And.intro @bs_43_1 (And.intro @bu_51_0_1_2_3 (And.intro @faP_25_0 (And.intro @faP_25_1 (And.intro @faP_25_2 (And.intro @faP_25_3 (And.intro @faP_51_4 (And.intro @idxL_23 (And.intro @idxR_43 (And.intro @idxR_49 (And.intro @lk_frz_25 (And.intro @mk_49 (And.intro @sa_4_0_4 (And.intro @stf_3_x (And.intro @varld_4_0_0 (And.intro @varld_4_0_1 (And.intro @varld_4_0_2 (And.intro @varld_4_0_3 (@varlv_4_0_4))))))))))))))))))))
noncomputable def F37n_0 (s7 : Int) (s35 : (List Node)) (s36 : Int) : (Int × (List Row) × (List Int)) → St := fun (s37, y0, y1) => ⟨[.ref 0 0 y0.length 5, J, J, J, J, J, J, iv s7, .ref 1 0 y1.length 1, J, J, J, J, J, J, J, J, J, J, J, J, J, J, J, J, J, J, J, J, J, J, J, J, J, J, .p (.lst false s35.length (encL en_Node s35)), iv s36, iv s37, J, J, J, J, J, J, J, J, J, J, J, J, J, J, J, J, J, J, J, J], [.arr (encL en_Row y0), .arr (encL en_i64 y1)], 0⟩
theorem L37n_0_ok {rec : (List Row) → Node → Int → Option (List Row)} (hrec : ∀ x0 x1 x2 r, rec x0 x1 x2 = some r → callW Tryz.prog A0 37 [.ref 0 0 x0.length 5, .p (.agg (pv_Node x1)), iv x2] [.arr (encL en_Row x0)] = some (.ref 1 0 r.length 5, [.dead, .arr (encL en_Row r)])) (s7 : Int) (s35 : (List Node)) (s36 : Int) : ∀ s st o, ghostsD g37_0 st = some (F37n_0 s7 s35 s36 s) → iter (tree_list_L0 rec s7 s35 s36) s = some o →
    Wp (evW Tryz.prog A0 37 (.loop L37_0) st) (OutQ (F37n_0 s7 s35 s36) g37_0 (fun n s st => n = 0 ∧ ghostsD [.keep [0, 7, 8, 35, 36, 37]] st = some (F37n_0 s7 s35 s36 s)) (fun r st => finishD Tryz.prog A0 37 Tryz.f37 st = some (.ref 0 0 r.length 5, [.arr (encL en_Row r)])) o) := by
 refine Wp.iter ?_
 intro s st o hg h
 obtain ⟨s37, y0, y1⟩ := s
 unfold tree_list_L0 at h; unfold g37_0 F37n_0 at hg ⊢
 (try simp only [] at h hg)
 unfold L37_0 bodyOf Tryz.f37; simp only [loopsOf, ens]
 revert h
 repeat' first | (with_reducible refine gR fun _ _ _ _ => ?_) | (with_reducible refine gB fun _ _ => ?_) | (with_reducible refine gI (fun _ _ => ?_) (fun _ _ => ?_))
 all_goals
  intro h; obtain rfl := Option.some.inj h
  first | (simp (maxSteps := 10000000) (implicitDefEqProofs := false) (disch := first | with_reducible assumption | exact rfl | exact im_ _ | (fail_if_success show Kn _ _); omega | (show (_ : Int) < _; simp only [List.length_set, cpL_len] at *; omega)) only [bs, rs37, ls37n, Nat.reduceAdd, ↓reduceIte, c45_0, lenD_lst u23, lenD_ref u43, loadD_iagg a25 z25, loadD_pagg a25 z25, loadD_ptr a22, loadD_ptr a23, loadD_ptr a3, loadD_ptr a9, own_ref, q37_1 hrec, storeD_agg z25, storeD_int z3, wksL_en_i64, wksL_en_str, wks_nil_, hg]; first | (exact ⟨(rfl : Ex.normal = Ex.normal), by (try simp only [List.length_set, cpL_len]); kernel_rfl⟩) | (exact ⟨(rfl : Ex.exit 0 = Ex.exit 0), rfl, by kernel_rfl⟩)) | (exfalso; omega)
theorem f37n_ok {rec : (List Row) → Node → Int → Option (List Row)} (hrec : ∀ x0 x1 x2 r, rec x0 x1 x2 = some r → callW Tryz.prog A0 37 [.ref 0 0 x0.length 5, .p (.agg (pv_Node x1)), iv x2] [.arr (encL en_Row x0)] = some (.ref 1 0 r.length 5, [.dead, .arr (encL en_Row r)]))  (x0 : (List Row)) (x1 : Node) (x2 : Int) (hx0 : x0 = []) (r : (List Row)) (h : tree_list.body rec x0 x1 x2 = some r) : callW Tryz.prog A0 37 [.p (.lst true 0 []), .p (.agg (pv_Node x1)), iv x2] [] = some (.ref 0 0 r.length 5, [.arr (encL en_Row r)]) := by
 refine call_ofI (fn := Tryz.f37) (c := bodyOf Tryz.f37) 55 rfl rfl (by kernel_rfl) (by kernel_rfl) (by kernel_rfl) ?_
 unfold tree_list.body at h; unfold bodyOf Tryz.f37; simp only [ens]
 have hown := own_nil' (en := en_Row) hx0 5
 revert h
 refine gB fun r1 h2 => ?_
 refine gW fun h5 => ?_
 have h4 : ∀ (H : List Ob) (id : Nat), apOb H id 0 x0.length 1 5 5 80 [.v (.int .i64 x2), .v (.int .i64 x1.Kind), .v (.string x1.Text), .lst false r1.length (encL en_str r1), .lst false 0 []] (some (.arr (encL en_Row x0))) = some (.ref H.length 0 (x0 ++ [(Row.mk x2 x1.Kind x1.Text r1 ([] : List Int))]).length 5, H.set id .dead ++ [.arr (encL en_Row (x0 ++ [(Row.mk x2 x1.Kind x1.Text r1 ([] : List Int))]))]) := fun H id => ap_enc (y := [(Row.mk x2 x1.Kind x1.Text r1 ([] : List Int))]) en_Row_len (by first | rfl | omega) rfl (by first | (simp only [encL_cons, encL_nil, en_Row_eq, List.cons_append, List.nil_append]; done) | (simp only [encL_cons, encL_nil, en_Row_eq, List.cons_append, List.nil_append]; rfl) | rfl) (by assumption)
 refine gI (fun h6 _ => ?_) (fun h6 _ => ?_)
 ·intro h; obtain rfl := Option.some.inj h
  simp (maxSteps := 10000000) (implicitDefEqProofs := false) (disch := first | with_reducible assumption | exact rfl | exact im_ _ | (fail_if_success show Kn _ _); omega | (show (_ : Int) < _; simp only [List.length_set, cpL_len] at *; omega)) only [bs, rs37, ls37n, Nat.reduceAdd, ↓reduceIte, c45_0, lenD_lst u23, lenD_ref u43, loadD_iagg a25 z25, loadD_pagg a25 z25, loadD_ptr a22, loadD_ptr a23, loadD_ptr a3, loadD_ptr a9, own_ref, q37_1 hrec, storeD_agg z25, storeD_int z3, wksL_en_i64, wksL_en_str, wks_nil_, hown, h4]
  refine ⟨by simp, ?_⟩; show _ = _; kernel_rfl
 ·refine gW fun ⟨h7, h8⟩ => ?_
  refine gB fun o h20 => ?_
  intro h
  simp (maxSteps := 10000000) (implicitDefEqProofs := false) (disch := first | with_reducible assumption | exact rfl | exact im_ _ | (fail_if_success show Kn _ _); omega | (show (_ : Int) < _; simp only [List.length_set, cpL_len] at *; omega)) only [bs, rs37, ls37n, Nat.reduceAdd, ↓reduceIte, c45_0, lenD_lst u23, lenD_ref u43, loadD_iagg a25 z25, loadD_pagg a25 z25, loadD_ptr a22, loadD_ptr a23, loadD_ptr a3, loadD_ptr a9, own_ref, q37_1 hrec, storeD_agg z25, storeD_int z3, wksL_en_i64, wksL_en_str, wks_nil_, hown, h4]
  refine Wp.ctx (fun x => seqW _ _ _ _ (blockW _ (x))) (L37n_0_ok hrec (x0.length : Int) x1.Kids (x1.Kids.length : Int) ((0 : Int), (x0 ++ [(Row.mk x2 x1.Kind x1.Text r1 ([] : List Int))]), (List.replicate (x1.Kids.length : Int).toNat (0 : Int))) _ o (by kernel_rfl) h20) ?_
  intro e st hq
  cases o with
  | next _ => (first | cases h | (simp at h))
  | jmp n_ s_ =>
   obtain ⟨rfl, rfl, hq⟩ := hq
   obtain ⟨s37_21, y0_21, y1_21⟩ := s_
   unfold F37n_0 at hq
   (try simp only [] at h hq)
   revert h
   refine gR fun v22 h23 h23a h23b => ?_
   have h24 : storeD Tryz.prog [.arr (encL en_Row y0_21), .arr (encL en_i64 y1_21)] 49 (.ptr 0 (ato (x0.length : Int) 5 + 4)) (.ref 1 0 y1_21.length 1) = some [.arr (encL en_Row (y0_21.set (x0.length : Int).toNat (Row.mk v22.Parent v22.Kind v22.Text v22.Gaps y1_21))), .frz (encL en_i64 y1_21)] := (storeD_row (v' := (Row.mk v22.Parent v22.Kind v22.Text v22.Gaps y1_21)) (k := 4) z49 en_Row_len en_i64_len rfl rfl rfl (by first | rfl | omega) h23 (by decide) (by rw [en_Row_eq, en_Row_eq]; rfl)).trans rfl
   have h25 : (y0_21.set (x0.length : Int).toNat (Row.mk v22.Parent v22.Kind v22.Text v22.Gaps y1_21)).length = y0_21.length := List.length_set
   intro h; obtain rfl := Option.some.inj h
   simp (maxSteps := 10000000) (implicitDefEqProofs := false) (disch := first | with_reducible assumption | exact rfl | exact im_ _ | (fail_if_success show Kn _ _); omega | (show (_ : Int) < _; simp only [List.length_set, cpL_len] at *; omega)) only [bs, rs37, ls37n, Nat.reduceAdd, ↓reduceIte, c45_0, lenD_lst u23, lenD_ref u43, loadD_iagg a25 z25, loadD_pagg a25 z25, loadD_ptr a22, loadD_ptr a23, loadD_ptr a3, loadD_ptr a9, own_ref, q37_1 hrec, storeD_agg z25, storeD_int z3, wksL_en_i64, wksL_en_str, wks_nil_, hown, h4, hq, h24]
   refine ⟨by simp, ?_⟩; show _ = _; simp only [List.length_set, cpL_len]; kernel_rfl
  | ret _ => (first | cases h | (simp at h))
theorem f37_spec : ∀ (x0 : (List Row)) (x1 : Node) (x2 : Int) r, tree_listS x0 x1 x2 = some r → callW Tryz.prog A0 37 [.ref 0 0 x0.length 5, .p (.agg (pv_Node x1)), iv x2] [.arr (encL en_Row x0)] = some (.ref 1 0 r.length 5, [.dead, .arr (encL en_Row r)]) := by
 have key : ∀ n (x0 : (List Row)) (x1 : Node) (x2 : Int) r, tree_listS_mu x0 x1 x2 < n → tree_listS x0 x1 x2 = some r → callW Tryz.prog A0 37 [.ref 0 0 x0.length 5, .p (.agg (pv_Node x1)), iv x2] [.arr (encL en_Row x0)] = some (.ref 1 0 r.length 5, [.dead, .arr (encL en_Row r)]) := by
  intro n
  induction n with
  | zero => intro x0 x1 x2 r h; omega
  | succ n ih =>
   intro x0 x1 x2 r hn h
   refine f37_ok (rec := fun x0' x1' x2' => if tree_listS_mu x0' x1' x2' < tree_listS_mu x0 x1 x2 then tree_listS x0' x1' x2' else none) ?_ x0 x1 x2 r (tree_listS_body x0 x1 x2 r h)
   intro x0' x1' x2' r' h'
   by_cases hm : tree_listS_mu x0' x1' x2' < tree_listS_mu x0 x1 x2
   ·rw [if_pos hm] at h'; exact ih x0' x1' x2' r' (by omega) h'
   ·rw [if_neg hm] at h'; cases h'
 intro x0 x1 x2 r h
 exact key _ x0 x1 x2 r (Nat.lt_succ_self _) h
theorem f37n_spec (x1 : Node) (x2 : Int) r (h : tree_listS ([] : List Row) x1 x2 = some r) : callW Tryz.prog A0 37 [.p (.lst true 0 []), .p (.agg (pv_Node x1)), iv x2] [] = some (.ref 0 0 r.length 5, [.arr (encL en_Row r)]) := by
 refine f37n_ok (rec := fun x0' x1' x2' => if tree_listS_mu x0' x1' x2' < tree_listS_mu ([] : List Row) x1 x2 then tree_listS x0' x1' x2' else none) ?_ ([] : List Row) x1 x2 rfl r (tree_listS_body ([] : List Row) x1 x2 r h)
 intro x0' x1' x2' r' h'
 by_cases hm : tree_listS_mu x0' x1' x2' < tree_listS_mu ([] : List Row) x1 x2
 ·rw [if_pos hm] at h'; exact f37_spec x0' x1' x2' r' h'
 ·rw [if_neg hm] at h'; cases h'
theorem tree_list_calln {b1 b2 : Bool} {H : List Ob} {x1 : Node} {x2 : Int} {r : (List Row)} (h : tree_listS ([] : List Row) x1 x2 = some r) : callD (callW Tryz.prog A0) A0 H 37 [.p (.lst true 0 []), .p (.agg [.v (.int .i64 x1.Kind), .v (.string x1.Text), .lst b1 x1.Gaps.length (encL en_str x1.Gaps), .lst b2 x1.Kids.length (encL en_Node x1.Kids)]), iv x2] = some (.ref H.length 0 r.length 5, some (H ++ [.arr (encL en_Row r)])) :=
 callD_mut0 (args := [.lst true 0 [], .agg (pv_Node x1), .v (.int .i64 x2)]) (by simp only [List.map_cons, List.map_nil, wkDv, wk, wks, wkL]) rfl (f37n_spec x1 x2 _ h)
def ls18 := @varlv_4_0_4
theorem q37_2 {a1 : Node} {a2 : Int} {H : List Ob} {r9001 : (List Row)} (h9002 : tree_listS ([] : List Row) a1 a2 = some r9001) : callD (callW Tryz.prog A0) A0 H 37 [.p (.lst true 0 []), .p (.agg (pv_Node a1)), iv a2] = some (.ref H.length 0 r9001.length 5, some (H ++ [.arr (encL en_Row r9001)])) := tree_list_calln (H := H) h9002
theorem f18_ok  (x0 : Node) (r : (List Row)) (h : tree_Rows x0 = some r) : callW Tryz.prog A0 18 [.p (.agg (pv_Node x0))] [] = some (.p (.lst false r.length (encL en_Row r)), []) := by
 refine call_ofI (fn := Tryz.f18) (c := bodyOf Tryz.f18) 4 rfl rfl (by kernel_rfl) (by kernel_rfl) (by kernel_rfl) ?_
 unfold tree_Rows at h; unfold bodyOf Tryz.f18; simp only [ens]
 revert h
 repeat' (with_reducible refine gB fun _ _ => ?_)
 intro h; obtain rfl := Option.some.inj h
 simp (maxSteps := 10000000) (implicitDefEqProofs := false) (disch := first | with_reducible assumption | exact rfl | exact im_ _ | (fail_if_success show Kn _ _); omega) only [bs, rs18, ls18, Nat.reduceAdd, ↓reduceIte, loadD_pagg a25 z25, q37_2]
 refine ⟨by simp, ?_⟩; exact finish_is (l := [1]) rfl rfl rfl (purify1_enc en_Row_len rfl (by first | rfl | omega | simp)) (by first | rfl | (simp only [wk, wks, wkL]; first | done | rfl))
def ls17 := And.intro @al_41 (And.intro @ce_4_x (And.intro @ce_51__1 (And.intro @faI_51_1 (And.intro @faP_25_0 (And.intro @faP_41_0 (And.intro @faP_41_1 (And.intro @idxL_26 (And.intro @idxL_43 (And.intro @idxR_61 (And.intro @lk_frz_41 (And.intro @mk_61 (And.intro @sa_2_0_2 (And.intro @stf_4_x (And.intro @varld_2_0_0 (And.intro @varld_2_0_1 (And.intro @varld_4_0_0 (@varlv_4_0_4)))))))))))))))))
theorem c18_0 {H : List Ob} {a1 : Node} {r : (List Row)} (h : tree_Rows a1 = some r) : callD (callW Tryz.prog A0) A0 H 18 [.p (.agg (pv_Node a1))] = some (.p (.lst false r.length (encL en_Row r)), none) :=
 callD_fun (args := [.agg (pv_Node a1)]) rfl rfl rfl (by simp only [List.map_cons, List.map_nil, wk, wks, wkL]; exact f18_ok a1 _ h)
noncomputable def L17_0 : Code := (loopsOf (bodyOf Tryz.f17)).getD 0 .skip
def g17_0 : List Ghost := [.weak [7, 8, 20], .keep [3, 4, 7, 8, 9, 10, 20, 21, 22]]
noncomputable def F17_0 (s7 : (List Row)) (s8 : (List Row)) (s20 : (List Pair)) (s21 : Int) (w0_0 : Int) (w0_1 : ByteArray) (w0_2 : (List ByteArray)) (w0_3 : (List Node)) (w1_0 : Int) (w1_1 : ByteArray) (w1_2 : (List ByteArray)) (w1_3 : (List Node)) : (Int × Int × (List Bool)) → St := fun (s10, s22, y2) => ⟨[J, J, J, .ptr 0 0, .ptr 1 0, J, J, .p (.lst false s7.length (encL en_Row s7)), .p (.lst false s8.length (encL en_Row s8)), .ref 2 0 y2.length 1, iv s10, J, J, J, J, J, J, J, J, J, .p (.lst false s20.length (encL en_Pair s20)), iv s21, iv s22, J, J, J, J, J, J, J, J, J, J, J, J, J, J, J, J, J, J, J, J, J, J, J, J, J, J, J, J, J, J, J, J, J, J, J, J, J, J, J, J, J, J, J, J, J, J, J, J, J, J, J, J, J, J, J, J, J, J, J, J, J, J, J, J, J, J, J, J, J, J, J, J, J], [.var [iv w0_0, .p (.v (.string w0_1)), .p (.lst false w0_2.length (encL en_str w0_2)), .p (.lst false w0_3.length (encL en_Node w0_3))], .var [iv w1_0, .p (.v (.string w1_1)), .p (.lst false w1_2.length (encL en_str w1_2)), .p (.lst false w1_3.length (encL en_Node w1_3))], .arr (encL en_bool y2)], 0⟩
theorem L17_0_ok (s7 : (List Row)) (s8 : (List Row)) (s20 : (List Pair)) (s21 : Int) (w0_0 : Int) (w0_1 : ByteArray) (w0_2 : (List ByteArray)) (w0_3 : (List Node)) (w1_0 : Int) (w1_1 : ByteArray) (w1_2 : (List ByteArray)) (w1_3 : (List Node)) : ∀ s st o, ghostsD g17_0 st = some (F17_0 s7 s8 s20 s21 w0_0 w0_1 w0_2 w0_3 w1_0 w1_1 w1_2 w1_3 s) → iter (match_Check_L0 s7 s8 s20 s21 w0_0 w0_1 w0_2 w0_3 w1_0 w1_1 w1_2 w1_3) s = some o →
    Wp (evW Tryz.prog A0 17 (.loop L17_0) st) (OutQ (F17_0 s7 s8 s20 s21 w0_0 w0_1 w0_2 w0_3 w1_0 w1_1 w1_2 w1_3) g17_0 (fun n s st => n = 0 ∧ ghostsD [.keep [3, 4, 7, 8, 9, 10, 20, 21, 22]] st = some (F17_0 s7 s8 s20 s21 w0_0 w0_1 w0_2 w0_3 w1_0 w1_1 w1_2 w1_3 s)) (fun r st => finishD Tryz.prog A0 17 Tryz.f17 st = some (.p (.v (.int .i64 r)), [])) o) := by
 refine Wp.iter ?_
 intro s st o hg h
 obtain ⟨s10, s22, y2⟩ := s
 unfold match_Check_L0 at h; unfold g17_0 F17_0 at hg ⊢
 (try simp only [] at h hg)
 unfold L17_0 bodyOf Tryz.f17; simp only [loopsOf, ens]
 revert h
 repeat' first | (with_reducible refine gR fun _ _ _ _ => ?_) | (with_reducible refine gT (fun _ _ => ?_) (fun _ _ => ?_)) | (with_reducible refine gI (fun _ _ => ?_) (fun _ _ => ?_))
 all_goals
  intro h; obtain rfl := Option.some.inj h
  first | (simp (maxSteps := 10000000) (implicitDefEqProofs := false) (disch := first | with_reducible assumption | exact rfl | exact im_ _ | (fail_if_success show Kn _ _); omega | (show (_ : Int) < _; simp only [List.length_set, cpL_len] at *; omega)) only [bs, rs17, ls17, Nat.reduceAdd, ↓reduceIte, binD_neq_bool Tryz.underlying4, c18_0, lenD_lst u26, lenD_lst u43, loadD_iagg a41 z41, loadD_iptr a3, loadD_pagg a25 z25, loadD_ptr a3, loadD_ptr a4, storeD_agg z41, storeD_bool z4, hg]; first | (refine ⟨(rfl : Ex.ret = Ex.ret), ?_⟩; exact fin_sc rfl rfl rfl rfl) | (exact ⟨(rfl : Ex.normal = Ex.normal), by (try simp only [List.length_set, cpL_len]); kernel_rfl⟩) | (exact ⟨(rfl : Ex.exit 0 = Ex.exit 0), rfl, by kernel_rfl⟩)) | (exfalso; omega)
theorem f17_ok  (x0 : Node) (x1 : Node) (x2 : (List Pair)) (r : Int) (h : match_Check x0 x1 x2 = some r) : callW Tryz.prog A0 17 [.p (.agg (pv_Node x0)), .p (.agg (pv_Node x1)), .p (.lst false x2.length (encL en_Pair x2))] [] = some (.p (.v (.int .i64 r)), []) := by
 refine call_ofI (fn := Tryz.f17) (c := bodyOf Tryz.f17) 93 rfl rfl (by kernel_rfl) (by kernel_rfl) (by kernel_rfl) ?_
 unfold match_Check at h; unfold bodyOf Tryz.f17; simp only [ens]
 revert h
 refine gB fun r1 h2 => ?_
 refine gB fun r4 h5 => ?_
 refine gW fun ⟨h7, h8⟩ => ?_
 refine gB fun o h31 => ?_
 intro h
 simp (maxSteps := 10000000) (implicitDefEqProofs := false) (disch := first | with_reducible assumption | exact rfl | exact im_ _ | (fail_if_success show Kn _ _); omega | (show (_ : Int) < _; simp only [List.length_set, cpL_len] at *; omega)) only [bs, rs17, ls17, Nat.reduceAdd, ↓reduceIte, binD_neq_bool Tryz.underlying4, c18_0, lenD_lst u26, lenD_lst u43, loadD_iagg a41 z41, loadD_iptr a3, loadD_pagg a25 z25, loadD_ptr a3, loadD_ptr a4, storeD_agg z41, storeD_bool z4]
 refine Wp.ctx (fun x => seqW _ _ _ _ (blockW _ (x))) (L17_0_ok r1 r4 x2 (x2.length : Int) x0.Kind x0.Text x0.Gaps x0.Kids x1.Kind x1.Text x1.Gaps x1.Kids ((-1 : Int), (0 : Int), (List.replicate (r4.length : Int).toNat false)) _ o (by kernel_rfl) h31) ?_
 intro e st hq
 cases o with
 | next _ => (first | cases h | (simp at h))
 | jmp n_ s_ =>
  obtain ⟨rfl, rfl, hq⟩ := hq
  obtain ⟨s10_32, s22_32, y2_32⟩ := s_
  unfold F17_0 at hq
  (try simp only [] at h hq)
  revert h
  repeat' first | (with_reducible refine gR fun _ _ _ _ => ?_) | (with_reducible refine gT (fun _ _ => ?_) (fun _ _ => ?_)) | (with_reducible refine gI (fun _ _ => ?_) (fun _ _ => ?_))
  all_goals
   intro h; obtain rfl := Option.some.inj h
   first | (simp (maxSteps := 10000000) (implicitDefEqProofs := false) (disch := first | with_reducible assumption | exact rfl | exact im_ _ | (fail_if_success show Kn _ _); omega | (show (_ : Int) < _; simp only [List.length_set, cpL_len] at *; omega)) only [bs, rs17, ls17, Nat.reduceAdd, ↓reduceIte, binD_neq_bool Tryz.underlying4, c18_0, lenD_lst u26, lenD_lst u43, loadD_iagg a41 z41, loadD_iptr a3, loadD_pagg a25 z25, loadD_ptr a3, loadD_ptr a4, storeD_agg z41, storeD_bool z4, hq]; refine ⟨by simp, ?_⟩; exact fin_sc rfl rfl rfl rfl) | (exfalso; omega)
 | ret r38 =>
  obtain ⟨rfl, hq⟩ := hq
  obtain rfl := Option.some.inj h
  simp (maxSteps := 10000000) (implicitDefEqProofs := false) (disch := first | with_reducible assumption | exact rfl | exact im_ _ | (fail_if_success show Kn _ _); omega | (show (_ : Int) < _; simp only [List.length_set, cpL_len] at *; omega)) only [bs, rs17, ls17, Nat.reduceAdd, ↓reduceIte, binD_neq_bool Tryz.underlying4, c18_0, lenD_lst u26, lenD_lst u43, loadD_iagg a41 z41, loadD_iptr a3, loadD_pagg a25 z25, loadD_ptr a3, loadD_ptr a4, storeD_agg z41, storeD_bool z4]
  exact ⟨by simp, hq⟩
def ls81 := And.intro @cv_5_3 (@cv_99_5)
theorem c17_0 {H : List Ob} {a1 a2 : Node} {a3 : Bool} {a4 : List Pair} {r : Int} (h : match_Check a1 a2 a4 = some r) : callD (callW Tryz.prog A0) A0 H 17 [.p (.agg (pv_Node a1)), .p (.agg (pv_Node a2)), .p (.lst a3 a4.length (encL en_Pair a4))] = some (.p (.v (.int .i64 r)), none) :=
 callD_fun (args := [.agg (pv_Node a1), .agg (pv_Node a2), .lst a3 a4.length (encL en_Pair a4)]) rfl rfl rfl (by simp only [List.map_cons, List.map_nil, wk, wks, wkL]; exact f17_ok a1 a2 a4 _ h)
theorem f81_ok  (x0 : Int) (r : Int) (h : math_bits_Len64 x0 = some r) : callW Tryz.prog A0 81 [.p (.v (.int .u64 x0))] [] = some (.p (.v (.int .i64 r)), []) := by
 refine call_ofI (fn := Tryz.f81) (c := bodyOf Tryz.f81) 24 rfl rfl (by kernel_rfl) (by kernel_rfl) (by kernel_rfl) ?_
 unfold math_bits_Len64 at h; unfold bodyOf Tryz.f81; simp only [ens]
 revert h
 repeat' first | (with_reducible refine gB fun _ _ => ?_) | (with_reducible refine gI (fun _ _ => ?_) (fun _ _ => ?_))
 all_goals
  intro h; obtain rfl := Option.some.inj h
  first | (simp (maxSteps := 10000000) (implicitDefEqProofs := false) (disch := first | with_reducible assumption | exact rfl | exact im_ _ | (fail_if_success show Kn _ _); omega) only [bs, rs81, ls81, Nat.reduceAdd, ↓reduceIte, binD_geq_k, binD_shr_k, indexD_str Tryz.underlying9]; refine ⟨by simp, ?_⟩; exact fin_sc rfl rfl rfl rfl) | (exfalso; omega)
theorem c81_0 {H : List Ob} {a1 : Int} {r : Int} (h : math_bits_Len64 a1 = some r) : callD (callW Tryz.prog A0) A0 H 81 [.p (.v (.int .u64 a1))] = some (.p (.v (.int .i64 r)), none) :=
 callD_fun (args := [.v (.int .u64 a1)]) rfl rfl rfl (by simp only [List.map_cons, List.map_nil, wk, wks, wkL]; exact f81_ok a1 _ h)
theorem f59_ok  (x0 : Int) (r : Int) (h : math_bits_Len x0 = some r) : callW Tryz.prog A0 59 [.p (.v (.int .u64 x0))] [] = some (.p (.v (.int .i64 r)), []) := by
 refine call_ofI (fn := Tryz.f59) (c := bodyOf Tryz.f59) 7 rfl rfl (by kernel_rfl) (by kernel_rfl) (by kernel_rfl) ?_
 unfold math_bits_Len at h; unfold bodyOf Tryz.f59; simp only [ens]
 revert h
 repeat' (with_reducible refine gB fun _ _ => ?_)
 intro h; obtain rfl := Option.some.inj h
 simp (maxSteps := 10000000) (implicitDefEqProofs := false) (disch := first | with_reducible assumption | exact rfl | exact im_ _ | (fail_if_success show Kn _ _); omega) only [bs, rs59, Nat.reduceAdd, ↓reduceIte, c81_0]
 refine ⟨by simp, ?_⟩; exact fin_sc rfl rfl rfl rfl
def ls47 := And.intro @ce_41__0 (And.intro @ce_41__1 (And.intro @faP_41_0 (And.intro @faP_41_1 (And.intro @idxR_26 (@varld_1_0)))))
theorem c59_0 {H : List Ob} {a1 : Int} {r : Int} (h : math_bits_Len a1 = some r) : callD (callW Tryz.prog A0) A0 H 59 [.p (.v (.int .u64 a1))] = some (.p (.v (.int .i64 r)), none) :=
 callD_fun (args := [.v (.int .u64 a1)]) rfl rfl rfl (by simp only [List.map_cons, List.map_nil, wk, wks, wkL]; exact f59_ok a1 _ h)
theorem f47_ok  (x0 : Int) (x1 : Int) (o1 : (List Pair)) (r : Bool) (h : match_tidy_c1 x0 x1 o1 = some r) : callW Tryz.prog A0 47 [iv x0, iv x1, .ptr 0 0] [.var [.ref 1 0 o1.length 2], .arr (encL en_Pair o1)] = some (.p (.v (.bool r)), [.var [.ref 1 0 o1.length 2], .arr (encL en_Pair o1)]) := by
 refine call_ofI (fn := Tryz.f47) (c := bodyOf Tryz.f47) 40 rfl rfl (by kernel_rfl) (by kernel_rfl) (by kernel_rfl) ?_
 unfold match_tidy_c1 at h; unfold bodyOf Tryz.f47; simp only [ens]
 revert h
 repeat' first | (with_reducible refine gR fun _ _ _ _ => ?_) | (with_reducible refine gI (fun _ _ => ?_) (fun _ _ => ?_))
 all_goals
  intro h; obtain rfl := Option.some.inj h
  first | (simp (maxSteps := 10000000) (implicitDefEqProofs := false) (disch := first | with_reducible assumption | exact rfl | exact im_ _ | (fail_if_success show Kn _ _); omega) only [bs, rs47, ls47, Nat.reduceAdd, ↓reduceIte, loadD_ptr a26, loadD_ptr a3]; refine ⟨by simp, ?_⟩; show _ = _; kernel_rfl) | (exfalso; omega)
def ls82 := And.intro @faP_88_0 (And.intro @faP_88_1 (And.intro @varld_2_0_0 (@varld_2_0_1)))
theorem q79_0 {a1 : List Pair} {a2 a3 : Int} {r9003 : _} {X0 X2 : Ob} (h9001 : swapL a2 a3 a1 = some r9003) : callD (callW Tryz.prog A0) A0 [X0, .arr (encL en_Pair a1), X2] 79 [iv a2, iv a3, .ref 1 0 a1.length 2, .p (.v (typeHandle Tryz.prog 41))] = some (.p (.tup []), some [X0, .arr (encL en_Pair r9003), X2]) := (callD_put (dsw := [iv a2, iv a3, .ref 1 0 a1.length 2, .p (.v (typeHandle Tryz.prog 41))]) (ds' := [iv a2, iv a3, .ref 0 0 a1.length 2, .p (.v (typeHandle Tryz.prog 41))]) (i := 1) (ids := []) (o := .arr (encL en_Pair a1)) (os := []) (o' := .arr (encL en_Pair r9003)) (os' := []) rfl (by kernel_rfl) (by kernel_rfl) (by kernel_rfl) (by kernel_rfl) (by kernel_rfl) (swap79_callg h9001) rfl rfl).trans (by kernel_rfl)
theorem q47_0 {a1 : List Pair} {a2 a3 : Int} {r9001 : Bool} {X2 : Ob} (h9002 : match_tidy_c1 a2 a3 a1 = some r9001) : callD (callW Tryz.prog A0) A0 [.var [.ref 1 0 a1.length 2], .arr (encL en_Pair a1), X2] 47 [iv a2, iv a3, .ptr 0 0] = some (.p (.v (.bool r9001)), some [.var [.ref 1 0 a1.length 2], .arr (encL en_Pair a1), X2]) := (callD_put (dsw := [iv a2, iv a3, .ptr 0 0]) (ds' := [iv a2, iv a3, .ptr 0 0]) (i := 0) (ids := [1]) (o := .var [.ref 1 0 a1.length 2]) (os := [.arr (encL en_Pair a1)]) (o' := .var [.ref 1 0 a1.length 2]) (os' := [.arr (encL en_Pair a1)]) rfl (by kernel_rfl) (by kernel_rfl) (by kernel_rfl) (by kernel_rfl) (by kernel_rfl) (f47_ok _ _ _ _ h9002) rfl rfl).trans (by kernel_rfl)
noncomputable def L82_1 : Code := (loopsOf (bodyOf Tryz.f82)).getD 1 .skip
def g82_1 : List Ghost := [.keep [1, 2, 3, 6, 7]]
noncomputable def F82_1 (s1 : Int) (s2 : Int) (s6 : Int) : (Int × (List Pair)) → St := fun (s7, y1) => ⟨[J, iv s1, iv s2, .ptr 2 0, J, J, iv s6, iv s7, J, J, J, J, J, J, J, J, J, J, J, J, J, J, J, J, J, J, J, J, J, J, J, J, J, J, J], [.var [.ref 1 0 y1.length 2], .arr (encL en_Pair y1), .var [.fn (.func 47) [.ptr 0 0], sw79 1 y1.length]], 2⟩
theorem L82_1_ok (s1 : Int) (s2 : Int) (s6 : Int) : ∀ s st o, ghostsD g82_1 st = some (F82_1 s1 s2 s6 s) → iter (sort_insertionSort_func_L1 s1 s2 s6) s = some o →
    Wp (evW Tryz.prog A0 82 (.loop L82_1) st) (OutQ (F82_1 s1 s2 s6) g82_1 (fun n s st => n = 2 ∧ ghostsD [.keep [1, 2, 3, 6, 7]] st = some (F82_1 s1 s2 s6 s)) (fun r st => finishD Tryz.prog A0 82 Tryz.f82 st = some (.p (.tup []), [.var [.ref 1 0 r.length 2], .arr (encL en_Pair r)])) o) := by
 refine Wp.iter ?_
 intro s st o hg h
 obtain ⟨s7, y1⟩ := s
 unfold sort_insertionSort_func_L1 at h; unfold g82_1 F82_1 at hg ⊢
 (try simp only [] at h hg)
 unfold L82_1 bodyOf Tryz.f82; simp only [loopsOf, ens]
 revert h
 repeat' first | (with_reducible refine gB fun _ _ => ?_) | (with_reducible refine gW fun _ => ?_) | (with_reducible refine gT (fun _ _ => ?_) (fun _ _ => ?_)) | (with_reducible refine gI (fun _ _ => ?_) (fun _ _ => ?_))
 all_goals
  intro h; obtain rfl := Option.some.inj h
  first | (simp (maxSteps := 10000000) (implicitDefEqProofs := false) (disch := first | with_reducible assumption | exact rfl | exact im_ _ | (fail_if_success show Kn _ _); omega) only [bs, rs82, ls82, Nat.reduceAdd, ↓reduceIte, boxD_dagg, loadD_ptr a73, loadD_ptr a81, q47_0, q79_0, hg]; first | (exact ⟨(rfl : Ex.normal = Ex.normal), by (try simp only [List.length_set, cpL_len, *]); kernel_rfl⟩) | (exact ⟨(rfl : Ex.exit 2 = Ex.exit 2), rfl, by kernel_rfl⟩)) | (exfalso; omega)
noncomputable def L82_0 : Code := (loopsOf (bodyOf Tryz.f82)).getD 0 .skip
def g82_0 : List Ghost := [.keep [1, 2, 3, 6]]
noncomputable def F82_0 (s1 : Int) (s2 : Int) : (Int × (List Pair)) → St := fun (s6, y1) => ⟨[J, iv s1, iv s2, .ptr 2 0, J, J, iv s6, J, J, J, J, J, J, J, J, J, J, J, J, J, J, J, J, J, J, J, J, J, J, J, J, J, J, J, J], [.var [.ref 1 0 y1.length 2], .arr (encL en_Pair y1), .var [.fn (.func 47) [.ptr 0 0], sw79 1 y1.length]], 2⟩
theorem L82_0_ok (s1 : Int) (s2 : Int) : ∀ s st o, ghostsD g82_0 st = some (F82_0 s1 s2 s) → iter (sort_insertionSort_func_L0 s1 s2) s = some o →
    Wp (evW Tryz.prog A0 82 (.loop L82_0) st) (OutQ (F82_0 s1 s2) g82_0 (fun n s st => n = 0 ∧ (match s with | (s6, y1) => finishD Tryz.prog A0 82 Tryz.f82 st = some (.p (.tup []), [.var [.ref 1 0 y1.length 2], .arr (encL en_Pair y1)]))) (fun r st => finishD Tryz.prog A0 82 Tryz.f82 st = some (.p (.tup []), [.var [.ref 1 0 r.length 2], .arr (encL en_Pair r)])) o) := by
 refine Wp.iter ?_
 intro s st o hg h
 obtain ⟨s6, y1⟩ := s
 unfold sort_insertionSort_func_L0 at h; unfold g82_0 F82_0 at hg ⊢
 (try simp only [] at h hg)
 unfold L82_0 bodyOf Tryz.f82; simp only [loopsOf, ens]
 revert h
 refine gI (fun h1 _ => ?_) (fun h1 _ => ?_)
 ·refine gB fun o h11 => ?_
  intro h
  simp (maxSteps := 10000000) (implicitDefEqProofs := false) (disch := first | with_reducible assumption | exact rfl | exact im_ _ | (fail_if_success show Kn _ _); omega) only [bs, rs82, ls82, Nat.reduceAdd, ↓reduceIte, boxD_dagg, loadD_ptr a73, loadD_ptr a81, q47_0, q79_0, hg]
  refine Wp.ctx (fun x => seqW _ _ _ _ (blockW _ (blockW _ (x)))) (L82_1_ok s1 s2 s6 (s6, y1) _ o (by kernel_rfl) h11) ?_
  intro e st hq
  cases o with
  | next _ => (first | cases h | (simp at h))
  | jmp n_ s_ =>
   obtain ⟨rfl, rfl, hq⟩ := hq
   obtain ⟨s7_12, y1_12⟩ := s_
   unfold F82_1 at hq
   (try simp only [] at h hq)
   revert h
   intro h; obtain rfl := Option.some.inj h
   simp (maxSteps := 10000000) (implicitDefEqProofs := false) (disch := first | with_reducible assumption | exact rfl | exact im_ _ | (fail_if_success show Kn _ _); omega) only [bs, rs82, ls82, Nat.reduceAdd, ↓reduceIte, boxD_dagg, loadD_ptr a73, loadD_ptr a81, q47_0, q79_0, hg, hq]
   exact ⟨(rfl : Ex.normal = Ex.normal), by kernel_rfl⟩
  | ret _ => (first | cases h | (simp at h))
 ·intro h; obtain rfl := Option.some.inj h
  simp (maxSteps := 10000000) (implicitDefEqProofs := false) (disch := first | with_reducible assumption | exact rfl | exact im_ _ | (fail_if_success show Kn _ _); omega) only [bs, rs82, ls82, Nat.reduceAdd, ↓reduceIte, boxD_dagg, loadD_ptr a73, loadD_ptr a81, q47_0, q79_0, hg]
  refine ⟨(rfl : Ex.exit 0 = Ex.exit 0), rfl, ?_⟩; show _ = _; kernel_rfl
theorem f82_ok  (x1 : Int) (x2 : Int) (o1 : (List Pair)) (r : (List Pair)) (h : sort_insertionSort_func x1 x2 o1 = some r) : callW Tryz.prog A0 82 [.agg [.fn (.func 47) [.ptr 0 0], sw79 1 o1.length], iv x1, iv x2] [.var [.ref 1 0 o1.length 2], .arr (encL en_Pair o1)] = some (.p (.tup []), [.var [.ref 1 0 r.length 2], .arr (encL en_Pair r)]) := by
 refine call_ofI (fn := Tryz.f82) (c := bodyOf Tryz.f82) 32 rfl rfl (by kernel_rfl) (by kernel_rfl) (by kernel_rfl) ?_
 unfold sort_insertionSort_func at h; unfold bodyOf Tryz.f82; simp only [ens]
 revert h
 refine gB fun o h13 => ?_
 intro h
 simp (maxSteps := 10000000) (implicitDefEqProofs := false) (disch := first | with_reducible assumption | exact rfl | exact im_ _ | (fail_if_success show Kn _ _); omega) only [bs, rs82, ls82, Nat.reduceAdd, ↓reduceIte, boxD_dagg, loadD_ptr a73, loadD_ptr a81, q47_0, q79_0]
 refine Wp.ctx (fun x => blockW _ (x)) (L82_0_ok x1 x2 (w64 (x1 + (1 : Int)), o1) _ o (by kernel_rfl) h13) ?_
 intro e st hq
 cases o with
 | next _ => (first | cases h | (simp at h))
 | jmp n_ s_ =>
  obtain ⟨rfl, rfl, hq⟩ := hq
  obtain ⟨s6_14, y1_14⟩ := s_
  obtain rfl := Option.some.inj h
  simp (maxSteps := 10000000) (implicitDefEqProofs := false) (disch := first | with_reducible assumption | exact rfl | exact im_ _ | (fail_if_success show Kn _ _); omega) only [bs, rs82, ls82, Nat.reduceAdd, ↓reduceIte, boxD_dagg, loadD_ptr a73, loadD_ptr a81, q47_0, q79_0]
  exact ⟨by simp, hq⟩
 | ret _ => (first | cases h | (simp at h))
def ls95 := And.intro @faP_88_0 (And.intro @faP_88_1 (And.intro @varld_2_0_0 (@varld_2_0_1)))
theorem q82_0 {a1 : List Pair} {a2 a3 : Int} {r9001 : (List Pair)} {X2 : Ob} (h9002 : sort_insertionSort_func a2 a3 a1 = some r9001) : callD (callW Tryz.prog A0) A0 [.var [.ref 1 0 a1.length 2], .arr (encL en_Pair a1), X2] 82 [.agg [.fn (.func 47) [.ptr 0 0], sw79 1 a1.length], iv a2, iv a3] = some (.p (.tup []), some [.var [.ref 1 0 r9001.length 2], .arr (encL en_Pair r9001), X2]) := (callD_put (dsw := [.agg [.fn (.func 47) [.ptr 0 0], sw79 1 a1.length], iv a2, iv a3]) (ds' := [.agg [.fn (.func 47) [.ptr 0 0], sw79 1 a1.length], iv a2, iv a3]) (i := 0) (ids := [1]) (o := .var [.ref 1 0 a1.length 2]) (os := [.arr (encL en_Pair a1)]) (o' := .var [.ref 1 0 r9001.length 2]) (os' := [.arr (encL en_Pair r9001)]) rfl (by kernel_rfl) (by kernel_rfl) (by kernel_rfl) (by kernel_rfl) (by kernel_rfl) (f82_ok _ _ _ _ h9002) rfl rfl).trans (by kernel_rfl)
noncomputable def L95_0 : Code := (loopsOf (bodyOf Tryz.f95)).getD 0 .skip
def g95_0 : List Ghost := [.keep [2, 3, 4, 8]]
noncomputable def F95_0 (s2 : Int) (s3 : Int) : (Int × (List Pair)) → St := fun (s8, y1) => ⟨[J, J, iv s2, iv s3, .ptr 2 0, J, J, J, iv s8, J, J, J, J, J, J, J, J, J, J, J, J, J, J, J, J, J, J, J, J, J, J, J, J, J, J, J, J, J, J, J, J, J, J, J, J, J, J, J, J, J, J, J, J, J, J], [.var [.ref 1 0 y1.length 2], .arr (encL en_Pair y1), .var [.fn (.func 47) [.ptr 0 0], sw79 1 y1.length]], 2⟩
theorem L95_0_ok (s2 : Int) (s3 : Int) : ∀ s st o, ghostsD g95_0 st = some (F95_0 s2 s3 s) → iter (sort_siftDown_func_L0 s2 s3) s = some o →
    Wp (evW Tryz.prog A0 95 (.loop L95_0) st) (OutQ (F95_0 s2 s3) g95_0 (fun n s st => n = 0 ∧ (match s with | (s8, y1) => finishD Tryz.prog A0 95 Tryz.f95 st = some (.p (.tup []), [.var [.ref 1 0 y1.length 2], .arr (encL en_Pair y1)]))) (fun r st => finishD Tryz.prog A0 95 Tryz.f95 st = some (.p (.tup []), [.var [.ref 1 0 r.length 2], .arr (encL en_Pair r)])) o) := by
 refine Wp.iter ?_
 intro s st o hg h
 obtain ⟨s8, y1⟩ := s
 unfold sort_siftDown_func_L0 at h; unfold g95_0 F95_0 at hg ⊢
 (try simp only [] at h hg)
 unfold L95_0 bodyOf Tryz.f95; simp only [loopsOf, ens]
 revert h
 repeat' first | (with_reducible refine gB fun _ _ => ?_) | (with_reducible refine gW fun _ => ?_) | (with_reducible refine gT (fun _ _ => ?_) (fun _ _ => ?_)) | (with_reducible refine gI (fun _ _ => ?_) (fun _ _ => ?_))
 all_goals
  intro h; obtain rfl := Option.some.inj h
  first | (simp (maxSteps := 10000000) (implicitDefEqProofs := false) (disch := first | with_reducible assumption | exact rfl | exact im_ _ | (fail_if_success show Kn _ _); omega) only [bs, rs95, ls95, Nat.reduceAdd, ↓reduceIte, boxD_dagg, loadD_ptr a73, loadD_ptr a81, q47_0, q79_0, hg]; first | (refine ⟨(rfl : Ex.exit 0 = Ex.exit 0), rfl, ?_⟩; show _ = _; kernel_rfl) | (exact ⟨(rfl : Ex.normal = Ex.normal), by (try simp only [List.length_set, cpL_len, *]); kernel_rfl⟩) | (refine ⟨(rfl : Ex.ret = Ex.ret), ?_⟩; show _ = _; kernel_rfl)) | (exfalso; omega)
theorem f95_ok  (x1 : Int) (x2 : Int) (x3 : Int) (o1 : (List Pair)) (r : (List Pair)) (h : sort_siftDown_func x1 x2 x3 o1 = some r) : callW Tryz.prog A0 95 [.agg [.fn (.func 47) [.ptr 0 0], sw79 1 o1.length], iv x1, iv x2, iv x3] [.var [.ref 1 0 o1.length 2], .arr (encL en_Pair o1)] = some (.p (.tup []), [.var [.ref 1 0 r.length 2], .arr (encL en_Pair r)]) := by
 refine call_ofI (fn := Tryz.f95) (c := bodyOf Tryz.f95) 51 rfl rfl (by kernel_rfl) (by kernel_rfl) (by kernel_rfl) ?_
 unfold sort_siftDown_func at h; unfold bodyOf Tryz.f95; simp only [ens]
 revert h
 refine gB fun o h61 => ?_
 intro h
 simp (maxSteps := 10000000) (implicitDefEqProofs := false) (disch := first | with_reducible assumption | exact rfl | exact im_ _ | (fail_if_success show Kn _ _); omega) only [bs, rs95, ls95, Nat.reduceAdd, ↓reduceIte, boxD_dagg, loadD_ptr a73, loadD_ptr a81, q47_0, q79_0]
 refine Wp.ctx (fun x => blockW _ (x)) (L95_0_ok x2 x3 (x1, o1) _ o (by kernel_rfl) h61) ?_
 intro e st hq
 cases o with
 | next _ => (first | cases h | (simp at h))
 | jmp n_ s_ =>
  obtain ⟨rfl, rfl, hq⟩ := hq
  obtain ⟨s8_62, y1_62⟩ := s_
  obtain rfl := Option.some.inj h
  simp (maxSteps := 10000000) (implicitDefEqProofs := false) (disch := first | with_reducible assumption | exact rfl | exact im_ _ | (fail_if_success show Kn _ _); omega) only [bs, rs95, ls95, Nat.reduceAdd, ↓reduceIte, boxD_dagg, loadD_ptr a73, loadD_ptr a81, q47_0, q79_0]
  exact ⟨by simp, hq⟩
 | ret r63 =>
  obtain ⟨rfl, hq⟩ := hq
  obtain rfl := Option.some.inj h
  simp (maxSteps := 10000000) (implicitDefEqProofs := false) (disch := first | with_reducible assumption | exact rfl | exact im_ _ | (fail_if_success show Kn _ _); omega) only [bs, rs95, ls95, Nat.reduceAdd, ↓reduceIte, boxD_dagg, loadD_ptr a73, loadD_ptr a81, q47_0, q79_0]
  exact ⟨by simp, hq⟩
def ls83 := And.intro @faP_88_1 (And.intro @varld_2_0_1 (@varlg_ff))
theorem q95_0 {a1 : List Pair} {a2 a3 a4 : Int} {r9001 : (List Pair)} {X2 : Ob} (h9002 : sort_siftDown_func a2 a3 a4 a1 = some r9001) : callD (callW Tryz.prog A0) A0 [.var [.ref 1 0 a1.length 2], .arr (encL en_Pair a1), X2] 95 [.agg [.fn (.func 47) [.ptr 0 0], sw79 1 a1.length], iv a2, iv a3, iv a4] = some (.p (.tup []), some [.var [.ref 1 0 r9001.length 2], .arr (encL en_Pair r9001), X2]) := (callD_put (dsw := [.agg [.fn (.func 47) [.ptr 0 0], sw79 1 a1.length], iv a2, iv a3, iv a4]) (ds' := [.agg [.fn (.func 47) [.ptr 0 0], sw79 1 a1.length], iv a2, iv a3, iv a4]) (i := 0) (ids := [1]) (o := .var [.ref 1 0 a1.length 2]) (os := [.arr (encL en_Pair a1)]) (o' := .var [.ref 1 0 r9001.length 2]) (os' := [.arr (encL en_Pair r9001)]) rfl (by kernel_rfl) (by kernel_rfl) (by kernel_rfl) (by kernel_rfl) (by kernel_rfl) (f95_ok _ _ _ _ _ h9002) rfl rfl).trans (by kernel_rfl)
theorem q95_1 {a1 : List Pair} {n2 : Nat} {a3 a4 a5 : Int} {r9001 : (List Pair)} {X2 : Ob} (k0 : n2 = a1.length) (h9002 : sort_siftDown_func a3 a4 a5 a1 = some r9001) : callD (callW Tryz.prog A0) A0 [.var [.ref 1 0 n2 2], .arr (encL en_Pair a1), X2] 95 [.agg [.fn (.func 47) [.ptr 0 0], sw79 1 n2], iv a3, iv a4, iv a5] = some (.p (.tup []), some [.var [.ref 1 0 r9001.length 2], .arr (encL en_Pair r9001), X2]) := by
  rw [show n2 = a1.length from by omega]; exact (callD_put (dsw := [.agg [.fn (.func 47) [.ptr 0 0], sw79 1 a1.length], iv a3, iv a4, iv a5]) (ds' := [.agg [.fn (.func 47) [.ptr 0 0], sw79 1 a1.length], iv a3, iv a4, iv a5]) (i := 0) (ids := [1]) (o := .var [.ref 1 0 a1.length 2]) (os := [.arr (encL en_Pair a1)]) (o' := .var [.ref 1 0 r9001.length 2]) (os' := [.arr (encL en_Pair r9001)]) rfl (by kernel_rfl) (by kernel_rfl) (by kernel_rfl) (by kernel_rfl) (by kernel_rfl) (f95_ok _ _ _ _ _ h9002) rfl rfl).trans (by kernel_rfl)
noncomputable def L83_1 : Code := (loopsOf (bodyOf Tryz.f83)).getD 1 .skip
def g83_1 : List Ghost := [.keep [3, 6, 7, 10]]
noncomputable def F83_1 (s6 : Int) (s7 : Int) : (Int × (List Pair)) → St := fun (s10, y1) => ⟨[J, J, J, .ptr 2 0, J, J, iv s6, iv s7, J, J, iv s10, J, J, J, J, J, J, J, J, J, J, J, J, J, J, J, J, J, J, J, J, J, J, J, J, J, J, J, J, J, J, J, J, J, J], [.var [.ref 1 0 y1.length 2], .arr (encL en_Pair y1), .var [.fn (.func 47) [.ptr 0 0], sw79 1 y1.length]], 2⟩
theorem L83_1_ok (s6 : Int) (s7 : Int) : ∀ s st o, ghostsD g83_1 st = some (F83_1 s6 s7 s) → iter (sort_heapSort_func_L1 s6 s7) s = some o →
    Wp (evW Tryz.prog A0 83 (.loop L83_1) st) (OutQ (F83_1 s6 s7) g83_1 (fun n s st => n = 2 ∧ (match s with | (s10, y1) => finishD Tryz.prog A0 83 Tryz.f83 st = some (.p (.tup []), [.var [.ref 1 0 y1.length 2], .arr (encL en_Pair y1)]))) (fun r st => finishD Tryz.prog A0 83 Tryz.f83 st = some (.p (.tup []), [.var [.ref 1 0 r.length 2], .arr (encL en_Pair r)])) o) := by
 refine Wp.iter ?_
 intro s st o hg h
 obtain ⟨s10, y1⟩ := s
 unfold sort_heapSort_func_L1 at h; unfold g83_1 F83_1 at hg ⊢
 (try simp only [] at h hg)
 unfold L83_1 bodyOf Tryz.f83; simp only [loopsOf, ens]
 revert h
 repeat' first | (with_reducible refine gB fun _ _ => ?_) | (with_reducible refine gW fun _ => ?_) | (with_reducible refine gI (fun _ _ => ?_) (fun _ _ => ?_))
 all_goals
  intro h; obtain rfl := Option.some.inj h
  first | (simp (maxSteps := 10000000) (implicitDefEqProofs := false) (disch := first | with_reducible assumption | exact rfl | exact im_ _ | (fail_if_success show Kn _ _); omega) only [bs, rs83, ls83, Nat.reduceAdd, ↓reduceIte, binD_quo_k, boxD_dagg, loadD_pagg a88 z88, loadD_ptr a81, q79_0, q95_0, q95_1, hg]; first | (exact ⟨(rfl : Ex.normal = Ex.normal), by (try simp only [List.length_set, cpL_len, *]); kernel_rfl⟩) | (refine ⟨(rfl : Ex.exit 2 = Ex.exit 2), rfl, ?_⟩; show _ = _; kernel_rfl)) | (exfalso; omega)
noncomputable def L83_0 : Code := (loopsOf (bodyOf Tryz.f83)).getD 0 .skip
def g83_0 : List Ghost := [.keep [3, 6, 7, 8, 9]]
noncomputable def F83_0 (s6 : Int) (s7 : Int) (s8 : Int) : (Int × (List Pair)) → St := fun (s9, y1) => ⟨[J, J, J, .ptr 2 0, J, J, iv s6, iv s7, iv s8, iv s9, J, J, J, J, J, J, J, J, J, J, J, J, J, J, J, J, J, J, J, J, J, J, J, J, J, J, J, J, J, J, J, J, J, J, J], [.var [.ref 1 0 y1.length 2], .arr (encL en_Pair y1), .var [.fn (.func 47) [.ptr 0 0], sw79 1 y1.length]], 2⟩
theorem L83_0_ok (s6 : Int) (s7 : Int) (s8 : Int) : ∀ s st o, ghostsD g83_0 st = some (F83_0 s6 s7 s8 s) → iter (sort_heapSort_func_L0 s6 s7 s8) s = some o →
    Wp (evW Tryz.prog A0 83 (.loop L83_0) st) (OutQ (F83_0 s6 s7 s8) g83_0 (fun n s st => n = 0 ∧ ghostsD [.keep [3, 6, 7, 8, 9]] st = some (F83_0 s6 s7 s8 s)) (fun r st => finishD Tryz.prog A0 83 Tryz.f83 st = some (.p (.tup []), [.var [.ref 1 0 r.length 2], .arr (encL en_Pair r)])) o) := by
 refine Wp.iter ?_
 intro s st o hg h
 obtain ⟨s9, y1⟩ := s
 unfold sort_heapSort_func_L0 at h; unfold g83_0 F83_0 at hg ⊢
 (try simp only [] at h hg)
 unfold L83_0 bodyOf Tryz.f83; simp only [loopsOf, ens]
 revert h
 repeat' first | (with_reducible refine gB fun _ _ => ?_) | (with_reducible refine gW fun _ => ?_) | (with_reducible refine gI (fun _ _ => ?_) (fun _ _ => ?_))
 all_goals
  intro h; obtain rfl := Option.some.inj h
  first | (simp (maxSteps := 10000000) (implicitDefEqProofs := false) (disch := first | with_reducible assumption | exact rfl | exact im_ _ | (fail_if_success show Kn _ _); omega) only [bs, rs83, ls83, Nat.reduceAdd, ↓reduceIte, binD_quo_k, boxD_dagg, loadD_pagg a88 z88, loadD_ptr a81, q79_0, q95_0, q95_1, hg]; first | (exact ⟨(rfl : Ex.normal = Ex.normal), by (try simp only [List.length_set, cpL_len, *]); kernel_rfl⟩) | (exact ⟨(rfl : Ex.exit 0 = Ex.exit 0), rfl, by kernel_rfl⟩)) | (exfalso; omega)
theorem f83_ok  (x1 : Int) (x2 : Int) (o1 : (List Pair)) (r : (List Pair)) (h : sort_heapSort_func x1 x2 o1 = some r) : callW Tryz.prog A0 83 [.agg [.fn (.func 47) [.ptr 0 0], sw79 1 o1.length], iv x1, iv x2] [.var [.ref 1 0 o1.length 2], .arr (encL en_Pair o1)] = some (.p (.tup []), [.var [.ref 1 0 r.length 2], .arr (encL en_Pair r)]) := by
 refine call_ofI (fn := Tryz.f83) (c := bodyOf Tryz.f83) 42 rfl rfl (by kernel_rfl) (by kernel_rfl) (by kernel_rfl) ?_
 unfold sort_heapSort_func at h; unfold bodyOf Tryz.f83; simp only [ens]
 revert h
 refine gB fun q1 h2 => ?_
 refine gB fun o h9 => ?_
 intro h
 simp (maxSteps := 10000000) (implicitDefEqProofs := false) (disch := first | with_reducible assumption | exact rfl | exact im_ _ | (fail_if_success show Kn _ _); omega) only [bs, rs83, ls83, Nat.reduceAdd, ↓reduceIte, binD_quo_k, boxD_dagg, loadD_pagg a88 z88, loadD_ptr a81, q79_0, q95_0, q95_1]
 refine Wp.ctx (fun x => seqW _ _ _ _ (blockW _ (x))) (L83_0_ok x1 (0 : Int) (w64 (x2 - x1)) (q1, o1) _ o (by kernel_rfl) h9) ?_
 intro e st hq
 cases o with
 | next _ => (first | cases h | (simp at h))
 | jmp n_ s_ =>
  obtain ⟨rfl, rfl, hq⟩ := hq
  obtain ⟨s9_10, y1_10⟩ := s_
  unfold F83_0 at hq
  (try simp only [] at h hq)
  revert h
  refine gB fun o h20 => ?_
  intro h
  simp (maxSteps := 10000000) (implicitDefEqProofs := false) (disch := first | with_reducible assumption | exact rfl | exact im_ _ | (fail_if_success show Kn _ _); omega) only [bs, rs83, ls83, Nat.reduceAdd, ↓reduceIte, binD_quo_k, boxD_dagg, loadD_pagg a88 z88, loadD_ptr a81, q79_0, q95_0, q95_1, hq]
  refine Wp.ctx (fun x => blockW _ (x)) (L83_1_ok x1 (0 : Int) (w64 ((w64 (x2 - x1)) - (1 : Int)), y1_10) _ o (by kernel_rfl) h20) ?_
  intro e st hq
  cases o with
  | next _ => (first | cases h | (simp at h))
  | jmp n_ s_ =>
   obtain ⟨rfl, rfl, hq⟩ := hq
   obtain ⟨s10_21, y1_21⟩ := s_
   obtain rfl := Option.some.inj h
   simp (maxSteps := 10000000) (implicitDefEqProofs := false) (disch := first | with_reducible assumption | exact rfl | exact im_ _ | (fail_if_success show Kn _ _); omega) only [bs, rs83, ls83, Nat.reduceAdd, ↓reduceIte, binD_quo_k, boxD_dagg, loadD_pagg a88 z88, loadD_ptr a81, q79_0, q95_0, q95_1]
   exact ⟨by simp, hq⟩
  | ret _ => (first | cases h | (simp at h))
 | ret _ => (first | cases h | (simp at h))
def ls101 := And.intro @faP_88_0 (And.intro @sv_1_0_1 (And.intro @varld_1_0 (@varld_2_0_0)))
theorem q83_0 {a1 : List Pair} {a2 a3 : Int} {r9001 : (List Pair)} {X2 : Ob} (h9002 : sort_heapSort_func a2 a3 a1 = some r9001) : callD (callW Tryz.prog A0) A0 [.var [.ref 1 0 a1.length 2], .arr (encL en_Pair a1), X2] 83 [.agg [.fn (.func 47) [.ptr 0 0], sw79 1 a1.length], iv a2, iv a3] = some (.p (.tup []), some [.var [.ref 1 0 r9001.length 2], .arr (encL en_Pair r9001), X2]) := (callD_put (dsw := [.agg [.fn (.func 47) [.ptr 0 0], sw79 1 a1.length], iv a2, iv a3]) (ds' := [.agg [.fn (.func 47) [.ptr 0 0], sw79 1 a1.length], iv a2, iv a3]) (i := 0) (ids := [1]) (o := .var [.ref 1 0 a1.length 2]) (os := [.arr (encL en_Pair a1)]) (o' := .var [.ref 1 0 r9001.length 2]) (os' := [.arr (encL en_Pair r9001)]) rfl (by kernel_rfl) (by kernel_rfl) (by kernel_rfl) (by kernel_rfl) (by kernel_rfl) (f83_ok _ _ _ _ h9002) rfl rfl).trans (by kernel_rfl)
theorem q47_1 {a1 : List Pair} {a2 a3 : Int} {r9001 : Bool} {X2 X3 : Ob} (h9002 : match_tidy_c1 a2 a3 a1 = some r9001) : callD (callW Tryz.prog A0) A0 [.var [.ref 1 0 a1.length 2], .arr (encL en_Pair a1), X2, X3] 47 [iv a2, iv a3, .ptr 0 0] = some (.p (.v (.bool r9001)), some [.var [.ref 1 0 a1.length 2], .arr (encL en_Pair a1), X2, X3]) := (callD_put (dsw := [iv a2, iv a3, .ptr 0 0]) (ds' := [iv a2, iv a3, .ptr 0 0]) (i := 0) (ids := [1]) (o := .var [.ref 1 0 a1.length 2]) (os := [.arr (encL en_Pair a1)]) (o' := .var [.ref 1 0 a1.length 2]) (os' := [.arr (encL en_Pair a1)]) rfl (by kernel_rfl) (by kernel_rfl) (by kernel_rfl) (by kernel_rfl) (by kernel_rfl) (f47_ok _ _ _ _ h9002) rfl rfl).trans (by kernel_rfl)
theorem f101_ok  (x1 : Int) (x2 : Int) (o1 : (List Pair)) (o2 : Int) (r : (Int × Int × Int)) (h : sort_order2_func x1 x2 o1 o2 = some r) : callW Tryz.prog A0 101 [.agg [.fn (.func 47) [.ptr 0 0], sw79 1 o1.length], iv x1, iv x2, .ptr 2 0] [.var [.ref 1 0 o1.length 2], .arr (encL en_Pair o1), .var [iv o2]] = some (.p (.tup [.v (.int .i64 r.1), .v (.int .i64 r.2.1)]), [.var [.ref 1 0 o1.length 2], .arr (encL en_Pair o1), .var [iv r.2.2]]) := by
 refine call_ofI (fn := Tryz.f101) (c := bodyOf Tryz.f101) 20 rfl rfl (by kernel_rfl) (by kernel_rfl) (by kernel_rfl) ?_
 unfold sort_order2_func at h; unfold bodyOf Tryz.f101; simp only [ens]
 revert h
 repeat' first | (with_reducible refine gB fun _ _ => ?_) | (with_reducible refine gT (fun _ _ => ?_) (fun _ _ => ?_))
 all_goals
  intro h; obtain rfl := Option.some.inj h
  first | (simp (maxSteps := 10000000) (implicitDefEqProofs := false) (disch := first | with_reducible assumption | exact rfl | exact im_ _ | (fail_if_success show Kn _ _); omega) only [bs, rs101, ls101, Nat.reduceAdd, ↓reduceIte, boxD_dagg, loadD_ptr a3, loadD_ptr a73, nilCheckD_ptr, ops_nilCheck, q47_1, storeD_int z3]; refine ⟨by simp, ?_⟩; show _ = _; kernel_rfl) | (exfalso; omega)
def ls99 := And.intro @ex_2_0 (And.intro @ex_2_1 (@varlg_ff))
theorem q101_0 {a1 : List Pair} {a2 a3 a4 : Int} {r9001 : (Int × Int × Int)} {X3 : Ob} (h9002 : sort_order2_func a3 a4 a1 a2 = some r9001) : callD (callW Tryz.prog A0) A0 [.var [.ref 1 0 a1.length 2], .arr (encL en_Pair a1), .var [iv a2], X3] 101 [.agg [.fn (.func 47) [.ptr 0 0], sw79 1 a1.length], iv a3, iv a4, .ptr 2 0] = some (.p (.tup [.v (.int .i64 r9001.1), .v (.int .i64 r9001.2.1)]), some [.var [.ref 1 0 a1.length 2], .arr (encL en_Pair a1), .var [iv r9001.2.2], X3]) := (callD_put (dsw := [.agg [.fn (.func 47) [.ptr 0 0], sw79 1 a1.length], iv a3, iv a4, .ptr 2 0]) (ds' := [.agg [.fn (.func 47) [.ptr 0 0], sw79 1 a1.length], iv a3, iv a4, .ptr 2 0]) (i := 0) (ids := [1, 2]) (o := .var [.ref 1 0 a1.length 2]) (os := [.arr (encL en_Pair a1), .var [iv a2]]) (o' := .var [.ref 1 0 a1.length 2]) (os' := [.arr (encL en_Pair a1), .var [iv r9001.2.2]]) rfl (by kernel_rfl) (by kernel_rfl) (by kernel_rfl) (by kernel_rfl) (by kernel_rfl) (f101_ok _ _ _ _ _ h9002) rfl rfl).trans (by kernel_rfl)
theorem f99_ok  (x1 : Int) (x2 : Int) (x3 : Int) (o1 : (List Pair)) (o2 : Int) (r : (Int × Int)) (h : sort_median_func x1 x2 x3 o1 o2 = some r) : callW Tryz.prog A0 99 [.agg [.fn (.func 47) [.ptr 0 0], sw79 1 o1.length], iv x1, iv x2, iv x3, .ptr 2 0] [.var [.ref 1 0 o1.length 2], .arr (encL en_Pair o1), .var [iv o2]] = some (.p (.v (.int .i64 r.1)), [.var [.ref 1 0 o1.length 2], .arr (encL en_Pair o1), .var [iv r.2]]) := by
 refine call_ofI (fn := Tryz.f99) (c := bodyOf Tryz.f99) 31 rfl rfl (by kernel_rfl) (by kernel_rfl) (by kernel_rfl) ?_
 unfold sort_median_func at h; unfold bodyOf Tryz.f99; simp only [ens]
 revert h
 repeat' (with_reducible refine gB fun _ _ => ?_)
 intro h; obtain rfl := Option.some.inj h
 simp (maxSteps := 10000000) (implicitDefEqProofs := false) (disch := first | with_reducible assumption | exact rfl | exact im_ _ | (fail_if_success show Kn _ _); omega) only [bs, rs99, ls99, Nat.reduceAdd, ↓reduceIte, boxD_dagg, loadD_pagg a88 z88, q101_0]
 refine ⟨by simp, ?_⟩; show _ = _; kernel_rfl
def ls98 := @varlg_ff
theorem q99_0 {a1 : List Pair} {a2 a3 a4 a5 : Int} {r9001 : (Int × Int)} {X3 : Ob} (h9002 : sort_median_func a3 a4 a5 a1 a2 = some r9001) : callD (callW Tryz.prog A0) A0 [.var [.ref 1 0 a1.length 2], .arr (encL en_Pair a1), .var [iv a2], X3] 99 [.agg [.fn (.func 47) [.ptr 0 0], sw79 1 a1.length], iv a3, iv a4, iv a5, .ptr 2 0] = some (.p (.v (.int .i64 r9001.1)), some [.var [.ref 1 0 a1.length 2], .arr (encL en_Pair a1), .var [iv r9001.2], X3]) := (callD_put (dsw := [.agg [.fn (.func 47) [.ptr 0 0], sw79 1 a1.length], iv a3, iv a4, iv a5, .ptr 2 0]) (ds' := [.agg [.fn (.func 47) [.ptr 0 0], sw79 1 a1.length], iv a3, iv a4, iv a5, .ptr 2 0]) (i := 0) (ids := [1, 2]) (o := .var [.ref 1 0 a1.length 2]) (os := [.arr (encL en_Pair a1), .var [iv a2]]) (o' := .var [.ref 1 0 a1.length 2]) (os' := [.arr (encL en_Pair a1), .var [iv r9001.2]]) rfl (by kernel_rfl) (by kernel_rfl) (by kernel_rfl) (by kernel_rfl) (by kernel_rfl) (f99_ok _ _ _ _ _ _ h9002) rfl rfl).trans (by kernel_rfl)
theorem f98_ok  (x1 : Int) (o1 : (List Pair)) (o2 : Int) (r : (Int × Int)) (h : sort_medianAdjacent_func x1 o1 o2 = some r) : callW Tryz.prog A0 98 [.agg [.fn (.func 47) [.ptr 0 0], sw79 1 o1.length], iv x1, .ptr 2 0] [.var [.ref 1 0 o1.length 2], .arr (encL en_Pair o1), .var [iv o2]] = some (.p (.v (.int .i64 r.1)), [.var [.ref 1 0 o1.length 2], .arr (encL en_Pair o1), .var [iv r.2]]) := by
 refine call_ofI (fn := Tryz.f98) (c := bodyOf Tryz.f98) 12 rfl rfl (by kernel_rfl) (by kernel_rfl) (by kernel_rfl) ?_
 unfold sort_medianAdjacent_func at h; unfold bodyOf Tryz.f98; simp only [ens]
 revert h
 repeat' (with_reducible refine gB fun _ _ => ?_)
 intro h; obtain rfl := Option.some.inj h
 simp (maxSteps := 10000000) (implicitDefEqProofs := false) (disch := first | with_reducible assumption | exact rfl | exact im_ _ | (fail_if_success show Kn _ _); omega) only [bs, rs98, ls98, Nat.reduceAdd, ↓reduceIte, boxD_dagg, loadD_pagg a88 z88, q99_0]
 refine ⟨by simp, ?_⟩; show _ = _; kernel_rfl
def ls85 := And.intro @al_3 (And.intro @varld_1_0 (@varlg_ff))
theorem q99_1 {a1 : List Pair} {a2 a3 a4 a5 : Int} {r9001 : (Int × Int)} {X2 : Ob} (h9002 : sort_median_func a3 a4 a5 a1 a2 = some r9001) : callD (callW Tryz.prog A0) A0 [.var [.ref 1 0 a1.length 2], .arr (encL en_Pair a1), X2, .var [iv a2]] 99 [.agg [.fn (.func 47) [.ptr 0 0], sw79 1 a1.length], iv a3, iv a4, iv a5, .ptr 3 0] = some (.p (.v (.int .i64 r9001.1)), some [.var [.ref 1 0 a1.length 2], .arr (encL en_Pair a1), X2, .var [iv r9001.2]]) := (callD_put (dsw := [.agg [.fn (.func 47) [.ptr 0 0], sw79 1 a1.length], iv a3, iv a4, iv a5, .ptr 3 0]) (ds' := [.agg [.fn (.func 47) [.ptr 0 0], sw79 1 a1.length], iv a3, iv a4, iv a5, .ptr 2 0]) (i := 0) (ids := [1, 3]) (o := .var [.ref 1 0 a1.length 2]) (os := [.arr (encL en_Pair a1), .var [iv a2]]) (o' := .var [.ref 1 0 a1.length 2]) (os' := [.arr (encL en_Pair a1), .var [iv r9001.2]]) rfl (by kernel_rfl) (by kernel_rfl) (by kernel_rfl) (by kernel_rfl) (by kernel_rfl) (f99_ok _ _ _ _ _ _ h9002) rfl rfl).trans (by kernel_rfl)
theorem q98_0 {a1 : List Pair} {a2 a3 : Int} {r9001 : (Int × Int)} {X2 : Ob} (h9002 : sort_medianAdjacent_func a3 a1 a2 = some r9001) : callD (callW Tryz.prog A0) A0 [.var [.ref 1 0 a1.length 2], .arr (encL en_Pair a1), X2, .var [iv a2]] 98 [.agg [.fn (.func 47) [.ptr 0 0], sw79 1 a1.length], iv a3, .ptr 3 0] = some (.p (.v (.int .i64 r9001.1)), some [.var [.ref 1 0 a1.length 2], .arr (encL en_Pair a1), X2, .var [iv r9001.2]]) := (callD_put (dsw := [.agg [.fn (.func 47) [.ptr 0 0], sw79 1 a1.length], iv a3, .ptr 3 0]) (ds' := [.agg [.fn (.func 47) [.ptr 0 0], sw79 1 a1.length], iv a3, .ptr 2 0]) (i := 0) (ids := [1, 3]) (o := .var [.ref 1 0 a1.length 2]) (os := [.arr (encL en_Pair a1), .var [iv a2]]) (o' := .var [.ref 1 0 a1.length 2]) (os' := [.arr (encL en_Pair a1), .var [iv r9001.2]]) rfl (by kernel_rfl) (by kernel_rfl) (by kernel_rfl) (by kernel_rfl) (by kernel_rfl) (f98_ok _ _ _ _ h9002) rfl rfl).trans (by kernel_rfl)
theorem f85_ok  (x1 : Int) (x2 : Int) (o1 : (List Pair)) (r : (Int × Int)) (h : sort_choosePivot_func x1 x2 o1 = some r) : callW Tryz.prog A0 85 [.agg [.fn (.func 47) [.ptr 0 0], sw79 1 o1.length], iv x1, iv x2] [.var [.ref 1 0 o1.length 2], .arr (encL en_Pair o1)] = some (.p (.tup [.v (.int .i64 r.1), .v (.int .i64 r.2)]), [.var [.ref 1 0 o1.length 2], .arr (encL en_Pair o1)]) := by
 refine call_ofI (fn := Tryz.f85) (c := bodyOf Tryz.f85) 54 rfl rfl (by kernel_rfl) (by kernel_rfl) (by kernel_rfl) ?_
 unfold sort_choosePivot_func at h; unfold bodyOf Tryz.f85; simp only [ens]
 revert h
 repeat' first | (with_reducible refine gB fun _ _ => ?_) | (with_reducible refine gI (fun _ _ => ?_) (fun _ _ => ?_))
 all_goals
  intro h; obtain rfl := Option.some.inj h
  first | (simp (maxSteps := 10000000) (implicitDefEqProofs := false) (disch := first | with_reducible assumption | exact rfl | exact im_ _ | (fail_if_success show Kn _ _); omega) only [bs, rs85, ls85, Nat.reduceAdd, ↓reduceIte, Int.reduceEq, Int.reduceLE, Int.reduceLT, binD_quo_k, boxD_dagg, loadD_pagg a88 z88, loadD_ptr a3, q98_0, q99_1]; refine ⟨by simp, ?_⟩; show _ = _; kernel_rfl) | (exfalso; omega)
def ls86 := And.intro @faP_88_1 (@varld_2_0_1)
noncomputable def L86_0 : Code := (loopsOf (bodyOf Tryz.f86)).getD 0 .skip
def g86_0 : List Ghost := [.keep [3, 6, 7]]
noncomputable def F86_0 : (Int × Int × (List Pair)) → St := fun (s6, s7, y1) => ⟨[J, J, J, .ptr 2 0, J, J, iv s6, iv s7, J, J, J, J, J, J, J, J, J, J, J, J, J, J, J], [.var [.ref 1 0 y1.length 2], .arr (encL en_Pair y1), .var [.fn (.func 47) [.ptr 0 0], sw79 1 y1.length]], 2⟩
theorem L86_0_ok : ∀ s st o, ghostsD g86_0 st = some (F86_0 s) → iter (sort_reverseRange_func_L0) s = some o →
    Wp (evW Tryz.prog A0 86 (.loop L86_0) st) (OutQ (F86_0) g86_0 (fun n s st => n = 0 ∧ (match s with | (s6, s7, y1) => finishD Tryz.prog A0 86 Tryz.f86 st = some (.p (.tup []), [.var [.ref 1 0 y1.length 2], .arr (encL en_Pair y1)]))) (fun r st => finishD Tryz.prog A0 86 Tryz.f86 st = some (.p (.tup []), [.var [.ref 1 0 r.length 2], .arr (encL en_Pair r)])) o) := by
 refine Wp.iter ?_
 intro s st o hg h
 obtain ⟨s6, s7, y1⟩ := s
 unfold sort_reverseRange_func_L0 at h; unfold g86_0 F86_0 at hg ⊢
 (try simp only [] at h hg)
 unfold L86_0 bodyOf Tryz.f86; simp only [loopsOf, ens]
 revert h
 repeat' first | (with_reducible refine gB fun _ _ => ?_) | (with_reducible refine gW fun _ => ?_) | (with_reducible refine gI (fun _ _ => ?_) (fun _ _ => ?_))
 all_goals
  intro h; obtain rfl := Option.some.inj h
  first | (simp (maxSteps := 10000000) (implicitDefEqProofs := false) (disch := first | with_reducible assumption | exact rfl | exact im_ _ | (fail_if_success show Kn _ _); omega) only [bs, rs86, ls86, Nat.reduceAdd, ↓reduceIte, boxD_dagg, loadD_ptr a81, q79_0, hg]; first | (exact ⟨(rfl : Ex.normal = Ex.normal), by (try simp only [List.length_set, cpL_len, *]); kernel_rfl⟩) | (refine ⟨(rfl : Ex.exit 0 = Ex.exit 0), rfl, ?_⟩; show _ = _; kernel_rfl)) | (exfalso; omega)
theorem f86_ok  (x1 : Int) (x2 : Int) (o1 : (List Pair)) (r : (List Pair)) (h : sort_reverseRange_func x1 x2 o1 = some r) : callW Tryz.prog A0 86 [.agg [.fn (.func 47) [.ptr 0 0], sw79 1 o1.length], iv x1, iv x2] [.var [.ref 1 0 o1.length 2], .arr (encL en_Pair o1)] = some (.p (.tup []), [.var [.ref 1 0 r.length 2], .arr (encL en_Pair r)]) := by
 refine call_ofI (fn := Tryz.f86) (c := bodyOf Tryz.f86) 20 rfl rfl (by kernel_rfl) (by kernel_rfl) (by kernel_rfl) ?_
 unfold sort_reverseRange_func at h; unfold bodyOf Tryz.f86; simp only [ens]
 revert h
 refine gB fun o h11 => ?_
 intro h
 simp (maxSteps := 10000000) (implicitDefEqProofs := false) (disch := first | with_reducible assumption | exact rfl | exact im_ _ | (fail_if_success show Kn _ _); omega) only [bs, rs86, ls86, Nat.reduceAdd, ↓reduceIte, boxD_dagg, loadD_ptr a81, q79_0]
 refine Wp.ctx (fun x => blockW _ (x)) (L86_0_ok (x1, w64 (x2 - (1 : Int)), o1) _ o (by kernel_rfl) h11) ?_
 intro e st hq
 cases o with
 | next _ => (first | cases h | (simp at h))
 | jmp n_ s_ =>
  obtain ⟨rfl, rfl, hq⟩ := hq
  obtain ⟨s6_12, s7_12, y1_12⟩ := s_
  obtain rfl := Option.some.inj h
  simp (maxSteps := 10000000) (implicitDefEqProofs := false) (disch := first | with_reducible assumption | exact rfl | exact im_ _ | (fail_if_success show Kn _ _); omega) only [bs, rs86, ls86, Nat.reduceAdd, ↓reduceIte, boxD_dagg, loadD_ptr a81, q79_0]
  exact ⟨by simp, hq⟩
 | ret _ => (first | cases h | (simp at h))
def ls87 := And.intro @faP_88_0 (And.intro @faP_88_1 (And.intro @varld_2_0_0 (@varld_2_0_1)))
noncomputable def L87_3 : Code := (loopsOf (bodyOf Tryz.f87)).getD 3 .skip
def g87_3 : List Ghost := [.keep [1, 2, 3, 7, 8, 10]]
noncomputable def F87_3 (s1 : Int) (s2 : Int) (s7 : Int) (s8 : Int) : (Int × (List Pair)) → St := fun (s10, y1) => ⟨[J, iv s1, iv s2, .ptr 2 0, J, J, J, iv s7, iv s8, J, iv s10, J, J, J, J, J, J, J, J, J, J, J, J, J, J, J, J, J, J, J, J, J, J, J, J, J, J, J, J, J, J, J, J, J, J, J, J, J, J, J, J, J, J, J, J, J, J, J, J, J, J, J, J, J, J, J, J, J, J, J, J, J, J, J, J, J, J, J, J, J, J, J, J, J, J, J, J, J, J, J, J], [.var [.ref 1 0 y1.length 2], .arr (encL en_Pair y1), .var [.fn (.func 47) [.ptr 0 0], sw79 1 y1.length]], 2⟩
theorem L87_3_ok (s1 : Int) (s2 : Int) (s7 : Int) (s8 : Int) : ∀ s st o, ghostsD g87_3 st = some (F87_3 s1 s2 s7 s8 s) → iter (sort_partialInsertionSort_func_L3 s1 s2 s7 s8) s = some o →
    Wp (evW Tryz.prog A0 87 (.loop L87_3) st) (OutQ (F87_3 s1 s2 s7 s8) g87_3 (fun n s st => n = 6 ∧ ghostsD [.keep [1, 2, 3, 7, 8, 10]] st = some (F87_3 s1 s2 s7 s8 s)) (fun r st => finishD Tryz.prog A0 87 Tryz.f87 st = some (.p (.v (.bool r.1)), [.var [.ref 1 0 r.2.length 2], .arr (encL en_Pair r.2)])) o) := by
 refine Wp.iter ?_
 intro s st o hg h
 obtain ⟨s10, y1⟩ := s
 unfold sort_partialInsertionSort_func_L3 at h; unfold g87_3 F87_3 at hg ⊢
 (try simp only [] at h hg)
 unfold L87_3 bodyOf Tryz.f87; simp only [loopsOf, ens]
 revert h
 repeat' first | (with_reducible refine gB fun _ _ => ?_) | (with_reducible refine gW fun _ => ?_) | (with_reducible refine gT (fun _ _ => ?_) (fun _ _ => ?_)) | (with_reducible refine gI (fun _ _ => ?_) (fun _ _ => ?_))
 all_goals
  intro h; obtain rfl := Option.some.inj h
  first | (simp (maxSteps := 10000000) (implicitDefEqProofs := false) (disch := first | with_reducible assumption | exact rfl | exact im_ _ | (fail_if_success show Kn _ _); omega) only [bs, rs87, ls87, Nat.reduceAdd, ↓reduceIte, boxD_dagg, loadD_ptr a73, loadD_ptr a81, q47_0, q79_0, hg]; first | (exact ⟨(rfl : Ex.normal = Ex.normal), by (try simp only [List.length_set, cpL_len, *]); kernel_rfl⟩) | (exact ⟨(rfl : Ex.exit 6 = Ex.exit 6), rfl, by kernel_rfl⟩)) | (exfalso; omega)
noncomputable def L87_2 : Code := (loopsOf (bodyOf Tryz.f87)).getD 2 .skip
def g87_2 : List Ghost := [.keep [1, 2, 3, 7, 8, 9]]
noncomputable def F87_2 (s1 : Int) (s2 : Int) (s7 : Int) (s8 : Int) : (Int × (List Pair)) → St := fun (s9, y1) => ⟨[J, iv s1, iv s2, .ptr 2 0, J, J, J, iv s7, iv s8, iv s9, J, J, J, J, J, J, J, J, J, J, J, J, J, J, J, J, J, J, J, J, J, J, J, J, J, J, J, J, J, J, J, J, J, J, J, J, J, J, J, J, J, J, J, J, J, J, J, J, J, J, J, J, J, J, J, J, J, J, J, J, J, J, J, J, J, J, J, J, J, J, J, J, J, J, J, J, J, J, J, J, J], [.var [.ref 1 0 y1.length 2], .arr (encL en_Pair y1), .var [.fn (.func 47) [.ptr 0 0], sw79 1 y1.length]], 2⟩
theorem L87_2_ok (s1 : Int) (s2 : Int) (s7 : Int) (s8 : Int) : ∀ s st o, ghostsD g87_2 st = some (F87_2 s1 s2 s7 s8 s) → iter (sort_partialInsertionSort_func_L2 s1 s2 s7 s8) s = some o →
    Wp (evW Tryz.prog A0 87 (.loop L87_2) st) (OutQ (F87_2 s1 s2 s7 s8) g87_2 (fun n s st => n = 4 ∧ ghostsD [.keep [1, 2, 3, 7, 8, 9]] st = some (F87_2 s1 s2 s7 s8 s)) (fun r st => finishD Tryz.prog A0 87 Tryz.f87 st = some (.p (.v (.bool r.1)), [.var [.ref 1 0 r.2.length 2], .arr (encL en_Pair r.2)])) o) := by
 refine Wp.iter ?_
 intro s st o hg h
 obtain ⟨s9, y1⟩ := s
 unfold sort_partialInsertionSort_func_L2 at h; unfold g87_2 F87_2 at hg ⊢
 (try simp only [] at h hg)
 unfold L87_2 bodyOf Tryz.f87; simp only [loopsOf, ens]
 revert h
 repeat' first | (with_reducible refine gB fun _ _ => ?_) | (with_reducible refine gW fun _ => ?_) | (with_reducible refine gT (fun _ _ => ?_) (fun _ _ => ?_)) | (with_reducible refine gI (fun _ _ => ?_) (fun _ _ => ?_))
 all_goals
  intro h; obtain rfl := Option.some.inj h
  first | (simp (maxSteps := 10000000) (implicitDefEqProofs := false) (disch := first | with_reducible assumption | exact rfl | exact im_ _ | (fail_if_success show Kn _ _); omega) only [bs, rs87, ls87, Nat.reduceAdd, ↓reduceIte, boxD_dagg, loadD_ptr a73, loadD_ptr a81, q47_0, q79_0, hg]; first | (exact ⟨(rfl : Ex.normal = Ex.normal), by (try simp only [List.length_set, cpL_len, *]); kernel_rfl⟩) | (exact ⟨(rfl : Ex.exit 4 = Ex.exit 4), rfl, by kernel_rfl⟩)) | (exfalso; omega)
noncomputable def L87_1 : Code := (loopsOf (bodyOf Tryz.f87)).getD 1 .skip
def g87_1 : List Ghost := [.keep [1, 2, 3, 7, 8]]
noncomputable def F87_1 (s1 : Int) (s2 : Int) (s8 : Int) (y1 : (List Pair)) : Int → St := fun s7 => ⟨[J, iv s1, iv s2, .ptr 2 0, J, J, J, iv s7, iv s8, J, J, J, J, J, J, J, J, J, J, J, J, J, J, J, J, J, J, J, J, J, J, J, J, J, J, J, J, J, J, J, J, J, J, J, J, J, J, J, J, J, J, J, J, J, J, J, J, J, J, J, J, J, J, J, J, J, J, J, J, J, J, J, J, J, J, J, J, J, J, J, J, J, J, J, J, J, J, J, J, J, J], [.var [.ref 1 0 y1.length 2], .arr (encL en_Pair y1), .var [.fn (.func 47) [.ptr 0 0], sw79 1 y1.length]], 2⟩
theorem L87_1_ok (s1 : Int) (s2 : Int) (s8 : Int) (y1 : (List Pair)) : ∀ s st o, ghostsD g87_1 st = some (F87_1 s1 s2 s8 y1 s) → iter (sort_partialInsertionSort_func_L1 s1 s2 s8 y1) s = some o →
    Wp (evW Tryz.prog A0 87 (.loop L87_1) st) (OutQ (F87_1 s1 s2 s8 y1) g87_1 (fun n s st => n = 2 ∧ ghostsD [.keep [1, 2, 3, 7, 8]] st = some (F87_1 s1 s2 s8 y1 s)) (fun r st => finishD Tryz.prog A0 87 Tryz.f87 st = some (.p (.v (.bool r.1)), [.var [.ref 1 0 r.2.length 2], .arr (encL en_Pair r.2)])) o) := by
 refine Wp.iter ?_
 intro s st o hg h
 generalize s = s7 at hg h
 unfold sort_partialInsertionSort_func_L1 at h; unfold g87_1 F87_1 at hg ⊢
 (try simp only [] at h hg)
 unfold L87_1 bodyOf Tryz.f87; simp only [loopsOf, ens]
 revert h
 repeat' first | (with_reducible refine gB fun _ _ => ?_) | (with_reducible refine gT (fun _ _ => ?_) (fun _ _ => ?_)) | (with_reducible refine gI (fun _ _ => ?_) (fun _ _ => ?_))
 all_goals
  intro h; obtain rfl := Option.some.inj h
  first | (simp (maxSteps := 10000000) (implicitDefEqProofs := false) (disch := first | with_reducible assumption | exact rfl | exact im_ _ | (fail_if_success show Kn _ _); omega) only [bs, rs87, ls87, Nat.reduceAdd, ↓reduceIte, boxD_dagg, loadD_ptr a73, loadD_ptr a81, q47_0, q79_0, hg]; first | (exact ⟨(rfl : Ex.exit 2 = Ex.exit 2), rfl, by kernel_rfl⟩) | (exact ⟨(rfl : Ex.normal = Ex.normal), by kernel_rfl⟩)) | (exfalso; omega)
noncomputable def L87_0 : Code := (loopsOf (bodyOf Tryz.f87)).getD 0 .skip
def g87_0 : List Ghost := [.keep [1, 2, 3, 7, 8]]
noncomputable def F87_0 (s1 : Int) (s2 : Int) : (Int × Int × (List Pair)) → St := fun (s7, s8, y1) => ⟨[J, iv s1, iv s2, .ptr 2 0, J, J, J, iv s7, iv s8, J, J, J, J, J, J, J, J, J, J, J, J, J, J, J, J, J, J, J, J, J, J, J, J, J, J, J, J, J, J, J, J, J, J, J, J, J, J, J, J, J, J, J, J, J, J, J, J, J, J, J, J, J, J, J, J, J, J, J, J, J, J, J, J, J, J, J, J, J, J, J, J, J, J, J, J, J, J, J, J, J, J], [.var [.ref 1 0 y1.length 2], .arr (encL en_Pair y1), .var [.fn (.func 47) [.ptr 0 0], sw79 1 y1.length]], 2⟩
theorem L87_0_ok (s1 : Int) (s2 : Int) : ∀ s st o, ghostsD g87_0 st = some (F87_0 s1 s2 s) → iter (sort_partialInsertionSort_func_L0 s1 s2) s = some o →
    Wp (evW Tryz.prog A0 87 (.loop L87_0) st) (OutQ (F87_0 s1 s2) g87_0 (fun n s st => n = 0 ∧ ghostsD [.keep [1, 2, 3, 7, 8]] st = some (F87_0 s1 s2 s)) (fun r st => finishD Tryz.prog A0 87 Tryz.f87 st = some (.p (.v (.bool r.1)), [.var [.ref 1 0 r.2.length 2], .arr (encL en_Pair r.2)])) o) := by
 refine Wp.iter ?_
 intro s st o hg h
 obtain ⟨s7, s8, y1⟩ := s
 unfold sort_partialInsertionSort_func_L0 at h; unfold g87_0 F87_0 at hg ⊢
 (try simp only [] at h hg)
 unfold L87_0 bodyOf Tryz.f87; simp only [loopsOf, ens]
 revert h
 refine gI (fun h1 _ => ?_) (fun h1 _ => ?_)
 ·refine gB fun o h7 => ?_
  intro h
  simp (maxSteps := 10000000) (implicitDefEqProofs := false) (disch := first | with_reducible assumption | exact rfl | exact im_ _ | (fail_if_success show Kn _ _); omega) only [bs, rs87, ls87, Nat.reduceAdd, ↓reduceIte, boxD_dagg, loadD_ptr a73, loadD_ptr a81, q47_0, q79_0, hg]
  refine Wp.ctx (fun x => seqW _ _ _ _ (blockW _ (seqW _ _ _ _ (blockW _ (x))))) (L87_1_ok s1 s2 s8 y1 s7 _ o (by kernel_rfl) h7) ?_
  intro e st hq
  cases o with
  | next _ => (first | cases h | (simp at h))
  | jmp n_ s_ =>
   obtain ⟨rfl, rfl, hq⟩ := hq
   generalize s_ = s7_8 at h hq
   unfold F87_1 at hq
   (try simp only [] at h hq)
   revert h
   refine gI (fun h9 _ => ?_) (fun h9 _ => ?_)
   ·intro h; obtain rfl := Option.some.inj h
    simp (maxSteps := 10000000) (implicitDefEqProofs := false) (disch := first | with_reducible assumption | exact rfl | exact im_ _ | (fail_if_success show Kn _ _); omega) only [bs, rs87, ls87, Nat.reduceAdd, ↓reduceIte, boxD_dagg, loadD_ptr a73, loadD_ptr a81, q47_0, q79_0, hg, hq]
    refine ⟨(rfl : Ex.ret = Ex.ret), ?_⟩; show _ = _; kernel_rfl
   ·refine gI (fun h10 _ => ?_) (fun h10 _ => ?_)
    ·intro h; obtain rfl := Option.some.inj h
     simp (maxSteps := 10000000) (implicitDefEqProofs := false) (disch := first | with_reducible assumption | exact rfl | exact im_ _ | (fail_if_success show Kn _ _); omega) only [bs, rs87, ls87, Nat.reduceAdd, ↓reduceIte, boxD_dagg, loadD_ptr a73, loadD_ptr a81, q47_0, q79_0, hg, hq]
     refine ⟨(rfl : Ex.ret = Ex.ret), ?_⟩; show _ = _; kernel_rfl
    ·refine gB fun r13 h11 => ?_
     refine gW fun h14 => ?_
     refine gI (fun h15 _ => ?_) (fun h15 _ => ?_)
     ·refine gB fun o h25 => ?_
      intro h
      simp (maxSteps := 10000000) (implicitDefEqProofs := false) (disch := first | with_reducible assumption | exact rfl | exact im_ _ | (fail_if_success show Kn _ _); omega) only [bs, rs87, ls87, Nat.reduceAdd, ↓reduceIte, boxD_dagg, loadD_ptr a73, loadD_ptr a81, q47_0, q79_0, hg, hq]
      refine Wp.ctx (fun x => seqW _ _ _ _ (blockW _ (seqW _ _ _ _ (blockW _ (x))))) (L87_2_ok s1 s2 s7_8 s8 (w64 (s7_8 - (1 : Int)), r13) _ o (by unfold F87_2; simp only [List.length_set, cpL_len, h14]; kernel_rfl) h25) ?_
      intro e st hq
      cases o with
      | next _ => (first | cases h | (simp at h))
      | jmp n_ s_ =>
       obtain ⟨rfl, rfl, hq⟩ := hq
       obtain ⟨s9_26, y1_26⟩ := s_
       unfold F87_2 at hq
       (try simp only [] at h hq)
       revert h
       refine gI (fun h27 _ => ?_) (fun h27 _ => ?_)
       ·refine gB fun o h37 => ?_
        intro h
        simp (maxSteps := 10000000) (implicitDefEqProofs := false) (disch := first | with_reducible assumption | exact rfl | exact im_ _ | (fail_if_success show Kn _ _); omega) only [bs, rs87, ls87, Nat.reduceAdd, ↓reduceIte, boxD_dagg, loadD_ptr a73, loadD_ptr a81, q47_0, q79_0, hg, hq, hq]
        refine Wp.ctx (fun x => seqW _ _ _ _ (blockW _ (blockW _ (x)))) (L87_3_ok s1 s2 s7_8 s8 (w64 (s7_8 + (1 : Int)), y1_26) _ o (by kernel_rfl) h37) ?_
        intro e st hq
        cases o with
        | next _ => (first | cases h | (simp at h))
        | jmp n_ s_ =>
         obtain ⟨rfl, rfl, hq⟩ := hq
         obtain ⟨s10_38, y1_38⟩ := s_
         unfold F87_3 at hq
         (try simp only [] at h hq)
         revert h
         intro h; obtain rfl := Option.some.inj h
         simp (maxSteps := 10000000) (implicitDefEqProofs := false) (disch := first | with_reducible assumption | exact rfl | exact im_ _ | (fail_if_success show Kn _ _); omega) only [bs, rs87, ls87, Nat.reduceAdd, ↓reduceIte, boxD_dagg, loadD_ptr a73, loadD_ptr a81, q47_0, q79_0, hg, hq, hq, hq]
         exact ⟨(rfl : Ex.normal = Ex.normal), by kernel_rfl⟩
        | ret _ => (first | cases h | (simp at h))
       ·intro h
        simp (maxSteps := 10000000) (implicitDefEqProofs := false) (disch := first | with_reducible assumption | exact rfl | exact im_ _ | (fail_if_success show Kn _ _); omega) only [bs, rs87, ls87, Nat.reduceAdd, ↓reduceIte, boxD_dagg, loadD_ptr a73, loadD_ptr a81, q47_0, q79_0, hg, hq, hq]
        refine Wp.gh (fun x => regW _ _ _ _ _ x) ⟨[J, iv s1, iv s2, .ptr 2 0, J, J, J, iv s7_8, iv s8, J, J, J, J, J, J, J, J, J, J, J, J, J, J, J, J, J, J, J, J, J, J, J, J, J, J, J, J, J, J, J, J, J, J, J, J, J, J, J, J, J, J, J, J, J, J, J, J, J, J, J, J, J, J, J, J, J, J, J, J, J, J, J, J, J, J, J, J, J, J, J, J, J, J, J, J, J, J, J, J, J, J], [.var [.ref 1 0 y1_26.length 2], .arr (encL en_Pair y1_26), .var [.fn (.func 47) [.ptr 0 0], sw79 1 y1_26.length]], 2⟩ (by kernel_rfl) ?_
        revert h
        intro h; obtain rfl := Option.some.inj h
        simp (maxSteps := 10000000) (implicitDefEqProofs := false) (disch := first | with_reducible assumption | exact rfl | exact im_ _ | (fail_if_success show Kn _ _); omega) only [bs, rs87, ls87, Nat.reduceAdd, ↓reduceIte, boxD_dagg, loadD_ptr a73, loadD_ptr a81, q47_0, q79_0, hg, hq, hq]
        exact ⟨(rfl : Ex.normal = Ex.normal), by kernel_rfl⟩
      | ret _ => (first | cases h | (simp at h))
     ·intro h
      simp (maxSteps := 10000000) (implicitDefEqProofs := false) (disch := first | with_reducible assumption | exact rfl | exact im_ _ | (fail_if_success show Kn _ _); omega) only [bs, rs87, ls87, Nat.reduceAdd, ↓reduceIte, boxD_dagg, loadD_ptr a73, loadD_ptr a81, q47_0, q79_0, hg, hq]
      refine Wp.gh (fun x => seqW _ _ _ _ (blockW _ (seqW _ _ _ _ (regW _ _ _ _ _ x)))) ⟨[J, iv s1, iv s2, .ptr 2 0, J, J, J, iv s7_8, iv s8, J, J, J, J, J, J, J, J, J, J, J, J, J, J, J, J, J, J, J, J, J, J, J, J, J, J, J, J, J, J, J, J, J, J, J, J, J, J, J, J, J, J, J, J, J, J, J, J, J, J, J, J, J, J, J, J, J, J, J, J, J, J, J, J, J, J, J, J, J, J, J, J, J, J, J, J, J, J, J, J, J, J], [.var [.ref 1 0 r13.length 2], .arr (encL en_Pair r13), .var [.fn (.func 47) [.ptr 0 0], sw79 1 r13.length]], 2⟩ (by simp only [List.length_set, cpL_len, h14]; kernel_rfl) ?_
      revert h
      refine gI (fun h39 _ => ?_) (fun h39 _ => ?_)
      ·refine gB fun o h49 => ?_
       intro h
       simp (maxSteps := 10000000) (implicitDefEqProofs := false) (disch := first | with_reducible assumption | exact rfl | exact im_ _ | (fail_if_success show Kn _ _); omega) only [bs, rs87, ls87, Nat.reduceAdd, ↓reduceIte, boxD_dagg, loadD_ptr a73, loadD_ptr a81, q47_0, q79_0, hg, hq]
       refine Wp.ctx (fun x => seqW _ _ _ _ (blockW _ (blockW _ (x)))) (L87_3_ok s1 s2 s7_8 s8 (w64 (s7_8 + (1 : Int)), r13) _ o (by kernel_rfl) h49) ?_
       intro e st hq
       cases o with
       | next _ => (first | cases h | (simp at h))
       | jmp n_ s_ =>
        obtain ⟨rfl, rfl, hq⟩ := hq
        obtain ⟨s10_50, y1_50⟩ := s_
        unfold F87_3 at hq
        (try simp only [] at h hq)
        revert h
        intro h; obtain rfl := Option.some.inj h
        simp (maxSteps := 10000000) (implicitDefEqProofs := false) (disch := first | with_reducible assumption | exact rfl | exact im_ _ | (fail_if_success show Kn _ _); omega) only [bs, rs87, ls87, Nat.reduceAdd, ↓reduceIte, boxD_dagg, loadD_ptr a73, loadD_ptr a81, q47_0, q79_0, hg, hq, hq]
        exact ⟨(rfl : Ex.normal = Ex.normal), by kernel_rfl⟩
       | ret _ => (first | cases h | (simp at h))
      ·intro h
       simp (maxSteps := 10000000) (implicitDefEqProofs := false) (disch := first | with_reducible assumption | exact rfl | exact im_ _ | (fail_if_success show Kn _ _); omega) only [bs, rs87, ls87, Nat.reduceAdd, ↓reduceIte, boxD_dagg, loadD_ptr a73, loadD_ptr a81, q47_0, q79_0, hg, hq]
       refine Wp.gh (fun x => regW _ _ _ _ _ x) ⟨[J, iv s1, iv s2, .ptr 2 0, J, J, J, iv s7_8, iv s8, J, J, J, J, J, J, J, J, J, J, J, J, J, J, J, J, J, J, J, J, J, J, J, J, J, J, J, J, J, J, J, J, J, J, J, J, J, J, J, J, J, J, J, J, J, J, J, J, J, J, J, J, J, J, J, J, J, J, J, J, J, J, J, J, J, J, J, J, J, J, J, J, J, J, J, J, J, J, J, J, J, J], [.var [.ref 1 0 r13.length 2], .arr (encL en_Pair r13), .var [.fn (.func 47) [.ptr 0 0], sw79 1 r13.length]], 2⟩ (by kernel_rfl) ?_
       revert h
       intro h; obtain rfl := Option.some.inj h
       simp (maxSteps := 10000000) (implicitDefEqProofs := false) (disch := first | with_reducible assumption | exact rfl | exact im_ _ | (fail_if_success show Kn _ _); omega) only [bs, rs87, ls87, Nat.reduceAdd, ↓reduceIte, boxD_dagg, loadD_ptr a73, loadD_ptr a81, q47_0, q79_0, hg, hq]
       exact ⟨(rfl : Ex.normal = Ex.normal), by kernel_rfl⟩
  | ret _ => (first | cases h | (simp at h))
 ·intro h; obtain rfl := Option.some.inj h
  simp (maxSteps := 10000000) (implicitDefEqProofs := false) (disch := first | with_reducible assumption | exact rfl | exact im_ _ | (fail_if_success show Kn _ _); omega) only [bs, rs87, ls87, Nat.reduceAdd, ↓reduceIte, boxD_dagg, loadD_ptr a73, loadD_ptr a81, q47_0, q79_0, hg]
  exact ⟨(rfl : Ex.exit 0 = Ex.exit 0), rfl, by kernel_rfl⟩
theorem f87_ok  (x1 : Int) (x2 : Int) (o1 : (List Pair)) (r : (Bool × (List Pair))) (h : sort_partialInsertionSort_func x1 x2 o1 = some r) : callW Tryz.prog A0 87 [.agg [.fn (.func 47) [.ptr 0 0], sw79 1 o1.length], iv x1, iv x2] [.var [.ref 1 0 o1.length 2], .arr (encL en_Pair o1)] = some (.p (.v (.bool r.1)), [.var [.ref 1 0 r.2.length 2], .arr (encL en_Pair r.2)]) := by
 refine call_ofI (fn := Tryz.f87) (c := bodyOf Tryz.f87) 88 rfl rfl (by kernel_rfl) (by kernel_rfl) (by kernel_rfl) ?_
 unfold sort_partialInsertionSort_func at h; unfold bodyOf Tryz.f87; simp only [ens]
 revert h
 refine gB fun o h51 => ?_
 intro h
 simp (maxSteps := 10000000) (implicitDefEqProofs := false) (disch := first | with_reducible assumption | exact rfl | exact im_ _ | (fail_if_success show Kn _ _); omega) only [bs, rs87, ls87, Nat.reduceAdd, ↓reduceIte, boxD_dagg, loadD_ptr a73, loadD_ptr a81, q47_0, q79_0]
 refine Wp.ctx (fun x => seqW _ _ _ _ (blockW _ (x))) (L87_0_ok x1 x2 (w64 (x1 + (1 : Int)), (0 : Int), o1) _ o (by kernel_rfl) h51) ?_
 intro e st hq
 cases o with
 | next _ => (first | cases h | (simp at h))
 | jmp n_ s_ =>
  obtain ⟨rfl, rfl, hq⟩ := hq
  obtain ⟨s7_52, s8_52, y1_52⟩ := s_
  unfold F87_0 at hq
  (try simp only [] at h hq)
  revert h
  intro h; obtain rfl := Option.some.inj h
  simp (maxSteps := 10000000) (implicitDefEqProofs := false) (disch := first | with_reducible assumption | exact rfl | exact im_ _ | (fail_if_success show Kn _ _); omega) only [bs, rs87, ls87, Nat.reduceAdd, ↓reduceIte, boxD_dagg, loadD_ptr a73, loadD_ptr a81, q47_0, q79_0, hq]
  refine ⟨by simp, ?_⟩; show _ = _; kernel_rfl
 | ret r53 =>
  obtain ⟨rfl, hq⟩ := hq
  obtain rfl := Option.some.inj h
  simp (maxSteps := 10000000) (implicitDefEqProofs := false) (disch := first | with_reducible assumption | exact rfl | exact im_ _ | (fail_if_success show Kn _ _); omega) only [bs, rs87, ls87, Nat.reduceAdd, ↓reduceIte, boxD_dagg, loadD_ptr a73, loadD_ptr a81, q47_0, q79_0]
  exact ⟨by simp, hq⟩
def ls89 := And.intro @faP_88_0 (And.intro @faP_88_1 (And.intro @varld_2_0_0 (@varld_2_0_1)))
noncomputable def L89_4 : Code := (loopsOf (bodyOf Tryz.f89)).getD 4 .skip
def g89_4 : List Ghost := [.keep [1, 4, 10, 11], .keep [1, 4, 10, 11]]
noncomputable def F89_4 (s1 : Int) (s10 : Int) (y1 : (List Pair)) : Int → St := fun s11 => ⟨[J, iv s1, J, J, .ptr 2 0, J, J, J, J, J, iv s10, iv s11, J, J, J, J, J, J, J, J, J, J, J, J, J, J, J, J, J, J, J, J, J, J, J, J, J, J, J, J, J, J, J, J, J, J, J, J, J, J, J, J, J, J, J, J, J, J, J, J, J, J, J, J, J, J, J, J, J, J, J, J, J, J, J, J, J, J, J, J, J, J, J, J, J, J, J, J, J, J, J, J, J, J, J, J, J, J, J, J, J, J, J, J, J, J, J], [.var [.ref 1 0 y1.length 2], .arr (encL en_Pair y1), .var [.fn (.func 47) [.ptr 0 0], sw79 1 y1.length]], 2⟩
theorem L89_4_ok (s1 : Int) (s10 : Int) (y1 : (List Pair)) : ∀ s st o, ghostsD g89_4 st = some (F89_4 s1 s10 y1 s) → iter (sort_partition_func_L4 s1 s10 y1) s = some o →
    Wp (evW Tryz.prog A0 89 (.loop L89_4) st) (OutQ (F89_4 s1 s10 y1) g89_4 (fun n s st => n = 8 ∧ ghostsD [.keep [1, 4, 10, 11]] st = some (F89_4 s1 s10 y1 s)) (fun r st => finishD Tryz.prog A0 89 Tryz.f89 st = some (.p (.tup [.v (.int .i64 r.1), .v (.bool r.2.1)]), [.var [.ref 1 0 r.2.2.length 2], .arr (encL en_Pair r.2.2)])) o) := by
 refine Wp.iter ?_
 intro s st o hg h
 generalize s = s11 at hg h
 unfold sort_partition_func_L4 at h; unfold g89_4 F89_4 at hg ⊢
 (try simp only [] at h hg)
 unfold L89_4 bodyOf Tryz.f89; simp only [loopsOf, ens]
 revert h
 repeat' first | (with_reducible refine gB fun _ _ => ?_) | (with_reducible refine gT (fun _ _ => ?_) (fun _ _ => ?_)) | (with_reducible refine gI (fun _ _ => ?_) (fun _ _ => ?_))
 all_goals
  intro h; obtain rfl := Option.some.inj h
  first | (simp (maxSteps := 10000000) (implicitDefEqProofs := false) (disch := first | with_reducible assumption | exact rfl | exact im_ _ | (fail_if_success show Kn _ _); omega) only [bs, rs89, ls89, Nat.reduceAdd, ↓reduceIte, boxD_dagg, loadD_ptr a73, loadD_ptr a81, q47_0, q79_0, hg]; first | (exact ⟨(rfl : Ex.exit 8 = Ex.exit 8), rfl, by kernel_rfl⟩) | (exact ⟨(rfl : Ex.normal = Ex.normal), by kernel_rfl⟩)) | (exfalso; omega)
noncomputable def L89_3 : Code := (loopsOf (bodyOf Tryz.f89)).getD 3 .skip
def g89_3 : List Ghost := [.keep [1, 4, 10, 11], .keep [1, 4, 10, 11]]
noncomputable def F89_3 (s1 : Int) (s11 : Int) (y1 : (List Pair)) : Int → St := fun s10 => ⟨[J, iv s1, J, J, .ptr 2 0, J, J, J, J, J, iv s10, iv s11, J, J, J, J, J, J, J, J, J, J, J, J, J, J, J, J, J, J, J, J, J, J, J, J, J, J, J, J, J, J, J, J, J, J, J, J, J, J, J, J, J, J, J, J, J, J, J, J, J, J, J, J, J, J, J, J, J, J, J, J, J, J, J, J, J, J, J, J, J, J, J, J, J, J, J, J, J, J, J, J, J, J, J, J, J, J, J, J, J, J, J, J, J, J, J], [.var [.ref 1 0 y1.length 2], .arr (encL en_Pair y1), .var [.fn (.func 47) [.ptr 0 0], sw79 1 y1.length]], 2⟩
theorem L89_3_ok (s1 : Int) (s11 : Int) (y1 : (List Pair)) : ∀ s st o, ghostsD g89_3 st = some (F89_3 s1 s11 y1 s) → iter (sort_partition_func_L3 s1 s11 y1) s = some o →
    Wp (evW Tryz.prog A0 89 (.loop L89_3) st) (OutQ (F89_3 s1 s11 y1) g89_3 (fun n s st => n = 6 ∧ ghostsD [.keep [1, 4, 10, 11]] st = some (F89_3 s1 s11 y1 s)) (fun r st => finishD Tryz.prog A0 89 Tryz.f89 st = some (.p (.tup [.v (.int .i64 r.1), .v (.bool r.2.1)]), [.var [.ref 1 0 r.2.2.length 2], .arr (encL en_Pair r.2.2)])) o) := by
 refine Wp.iter ?_
 intro s st o hg h
 generalize s = s10 at hg h
 unfold sort_partition_func_L3 at h; unfold g89_3 F89_3 at hg ⊢
 (try simp only [] at h hg)
 unfold L89_3 bodyOf Tryz.f89; simp only [loopsOf, ens]
 revert h
 repeat' first | (with_reducible refine gB fun _ _ => ?_) | (with_reducible refine gT (fun _ _ => ?_) (fun _ _ => ?_)) | (with_reducible refine gI (fun _ _ => ?_) (fun _ _ => ?_))
 all_goals
  intro h; obtain rfl := Option.some.inj h
  first | (simp (maxSteps := 10000000) (implicitDefEqProofs := false) (disch := first | with_reducible assumption | exact rfl | exact im_ _ | (fail_if_success show Kn _ _); omega) only [bs, rs89, ls89, Nat.reduceAdd, ↓reduceIte, boxD_dagg, loadD_ptr a73, loadD_ptr a81, q47_0, q79_0, hg]; first | (exact ⟨(rfl : Ex.normal = Ex.normal), by kernel_rfl⟩) | (exact ⟨(rfl : Ex.exit 6 = Ex.exit 6), rfl, by kernel_rfl⟩)) | (exfalso; omega)
noncomputable def L89_2 : Code := (loopsOf (bodyOf Tryz.f89)).getD 2 .skip
def g89_2 : List Ghost := [.keep [1, 4, 10, 11]]
noncomputable def F89_2 (s1 : Int) : (Int × Int × (List Pair)) → St := fun (s10, s11, y1) => ⟨[J, iv s1, J, J, .ptr 2 0, J, J, J, J, J, iv s10, iv s11, J, J, J, J, J, J, J, J, J, J, J, J, J, J, J, J, J, J, J, J, J, J, J, J, J, J, J, J, J, J, J, J, J, J, J, J, J, J, J, J, J, J, J, J, J, J, J, J, J, J, J, J, J, J, J, J, J, J, J, J, J, J, J, J, J, J, J, J, J, J, J, J, J, J, J, J, J, J, J, J, J, J, J, J, J, J, J, J, J, J, J, J, J, J, J], [.var [.ref 1 0 y1.length 2], .arr (encL en_Pair y1), .var [.fn (.func 47) [.ptr 0 0], sw79 1 y1.length]], 2⟩
theorem L89_2_ok (s1 : Int) : ∀ s st o, ghostsD g89_2 st = some (F89_2 s1 s) → iter (sort_partition_func_L2 s1) s = some o →
    Wp (evW Tryz.prog A0 89 (.loop L89_2) st) (OutQ (F89_2 s1) g89_2 (fun n s st => n = 4 ∧ ghostsD [.keep [1, 4, 10, 11]] st = some (F89_2 s1 s)) (fun r st => finishD Tryz.prog A0 89 Tryz.f89 st = some (.p (.tup [.v (.int .i64 r.1), .v (.bool r.2.1)]), [.var [.ref 1 0 r.2.2.length 2], .arr (encL en_Pair r.2.2)])) o) := by
 refine Wp.iter ?_
 intro s st o hg h
 obtain ⟨s10, s11, y1⟩ := s
 unfold sort_partition_func_L2 at h; unfold g89_2 F89_2 at hg ⊢
 (try simp only [] at h hg)
 unfold L89_2 bodyOf Tryz.f89; simp only [loopsOf, ens]
 revert h
 refine gB fun o h33 => ?_
 intro h
 simp (maxSteps := 10000000) (implicitDefEqProofs := false) (disch := first | with_reducible assumption | exact rfl | exact im_ _ | (fail_if_success show Kn _ _); omega) only [bs, rs89, ls89, Nat.reduceAdd, ↓reduceIte, boxD_dagg, loadD_ptr a73, loadD_ptr a81, q47_0, q79_0, hg]
 refine Wp.ctx (fun x => blockW _ (seqW _ _ _ _ (blockW _ (x)))) (L89_3_ok s1 s11 y1 s10 _ o (show ghostsD g89_3 _ = some _ from ghosts_app (a := [.keep [1, 4, 10, 11]]) (b := [.keep [1, 4, 10, 11]]) hg (by kernel_rfl)) h33) ?_
 intro e st hq
 cases o with
 | next _ => (first | cases h | (simp at h))
 | jmp n_ s_ =>
  obtain ⟨rfl, rfl, hq⟩ := hq
  generalize s_ = s10_34 at h hq
  unfold F89_3 at hq
  (try simp only [] at h hq)
  revert h
  refine gB fun o h40 => ?_
  intro h
  simp (maxSteps := 10000000) (implicitDefEqProofs := false) (disch := first | with_reducible assumption | exact rfl | exact im_ _ | (fail_if_success show Kn _ _); omega) only [bs, rs89, ls89, Nat.reduceAdd, ↓reduceIte, boxD_dagg, loadD_ptr a73, loadD_ptr a81, q47_0, q79_0, hg, hq]
  refine Wp.ctx (fun x => blockW _ (seqW _ _ _ _ (blockW _ (x)))) (L89_4_ok s1 s10_34 y1 s11 _ o (show ghostsD g89_4 _ = some _ from ghosts_app (a := [.keep [1, 4, 10, 11]]) (b := [.keep [1, 4, 10, 11]]) hq (by kernel_rfl)) h40) ?_
  intro e st hq
  cases o with
  | next _ => (first | cases h | (simp at h))
  | jmp n_ s_ =>
   obtain ⟨rfl, rfl, hq⟩ := hq
   generalize s_ = s11_41 at h hq
   unfold F89_4 at hq
   (try simp only [] at h hq)
   revert h
   repeat' first | (with_reducible refine gB fun _ _ => ?_) | (with_reducible refine gW fun _ => ?_) | (with_reducible refine gI (fun _ _ => ?_) (fun _ _ => ?_))
   all_goals
    intro h; obtain rfl := Option.some.inj h
    first | (simp (maxSteps := 10000000) (implicitDefEqProofs := false) (disch := first | with_reducible assumption | exact rfl | exact im_ _ | (fail_if_success show Kn _ _); omega) only [bs, rs89, ls89, Nat.reduceAdd, ↓reduceIte, boxD_dagg, loadD_ptr a73, loadD_ptr a81, q47_0, q79_0, hg, hq, hq]; first | (exact ⟨(rfl : Ex.exit 4 = Ex.exit 4), rfl, by kernel_rfl⟩) | (exact ⟨(rfl : Ex.normal = Ex.normal), by (try simp only [List.length_set, cpL_len, *]); kernel_rfl⟩)) | (exfalso; omega)
  | ret _ => (first | cases h | (simp at h))
 | ret _ => (first | cases h | (simp at h))
noncomputable def L89_1 : Code := (loopsOf (bodyOf Tryz.f89)).getD 1 .skip
def g89_1 : List Ghost := [.keep [1, 4, 10, 11], .keep [1, 4, 10, 11]]
noncomputable def F89_1 (s1 : Int) (s10 : Int) (y1 : (List Pair)) : Int → St := fun s11 => ⟨[J, iv s1, J, J, .ptr 2 0, J, J, J, J, J, iv s10, iv s11, J, J, J, J, J, J, J, J, J, J, J, J, J, J, J, J, J, J, J, J, J, J, J, J, J, J, J, J, J, J, J, J, J, J, J, J, J, J, J, J, J, J, J, J, J, J, J, J, J, J, J, J, J, J, J, J, J, J, J, J, J, J, J, J, J, J, J, J, J, J, J, J, J, J, J, J, J, J, J, J, J, J, J, J, J, J, J, J, J, J, J, J, J, J, J], [.var [.ref 1 0 y1.length 2], .arr (encL en_Pair y1), .var [.fn (.func 47) [.ptr 0 0], sw79 1 y1.length]], 2⟩
theorem L89_1_ok (s1 : Int) (s10 : Int) (y1 : (List Pair)) : ∀ s st o, ghostsD g89_1 st = some (F89_1 s1 s10 y1 s) → iter (sort_partition_func_L1 s1 s10 y1) s = some o →
    Wp (evW Tryz.prog A0 89 (.loop L89_1) st) (OutQ (F89_1 s1 s10 y1) g89_1 (fun n s st => n = 2 ∧ ghostsD [.keep [1, 4, 10, 11]] st = some (F89_1 s1 s10 y1 s)) (fun r st => finishD Tryz.prog A0 89 Tryz.f89 st = some (.p (.tup [.v (.int .i64 r.1), .v (.bool r.2.1)]), [.var [.ref 1 0 r.2.2.length 2], .arr (encL en_Pair r.2.2)])) o) := by
 refine Wp.iter ?_
 intro s st o hg h
 generalize s = s11 at hg h
 unfold sort_partition_func_L1 at h; unfold g89_1 F89_1 at hg ⊢
 (try simp only [] at h hg)
 unfold L89_1 bodyOf Tryz.f89; simp only [loopsOf, ens]
 revert h
 repeat' first | (with_reducible refine gB fun _ _ => ?_) | (with_reducible refine gT (fun _ _ => ?_) (fun _ _ => ?_)) | (with_reducible refine gI (fun _ _ => ?_) (fun _ _ => ?_))
 all_goals
  intro h; obtain rfl := Option.some.inj h
  first | (simp (maxSteps := 10000000) (implicitDefEqProofs := false) (disch := first | with_reducible assumption | exact rfl | exact im_ _ | (fail_if_success show Kn _ _); omega) only [bs, rs89, ls89, Nat.reduceAdd, ↓reduceIte, boxD_dagg, loadD_ptr a73, loadD_ptr a81, q47_0, q79_0, hg]; first | (exact ⟨(rfl : Ex.exit 2 = Ex.exit 2), rfl, by kernel_rfl⟩) | (exact ⟨(rfl : Ex.normal = Ex.normal), by kernel_rfl⟩)) | (exfalso; omega)
noncomputable def L89_0 : Code := (loopsOf (bodyOf Tryz.f89)).getD 0 .skip
def g89_0 : List Ghost := [.keep [1, 4, 10, 11]]
noncomputable def F89_0 (s1 : Int) (s11 : Int) (y1 : (List Pair)) : Int → St := fun s10 => ⟨[J, iv s1, J, J, .ptr 2 0, J, J, J, J, J, iv s10, iv s11, J, J, J, J, J, J, J, J, J, J, J, J, J, J, J, J, J, J, J, J, J, J, J, J, J, J, J, J, J, J, J, J, J, J, J, J, J, J, J, J, J, J, J, J, J, J, J, J, J, J, J, J, J, J, J, J, J, J, J, J, J, J, J, J, J, J, J, J, J, J, J, J, J, J, J, J, J, J, J, J, J, J, J, J, J, J, J, J, J, J, J, J, J, J, J], [.var [.ref 1 0 y1.length 2], .arr (encL en_Pair y1), .var [.fn (.func 47) [.ptr 0 0], sw79 1 y1.length]], 2⟩
theorem L89_0_ok (s1 : Int) (s11 : Int) (y1 : (List Pair)) : ∀ s st o, ghostsD g89_0 st = some (F89_0 s1 s11 y1 s) → iter (sort_partition_func_L0 s1 s11 y1) s = some o →
    Wp (evW Tryz.prog A0 89 (.loop L89_0) st) (OutQ (F89_0 s1 s11 y1) g89_0 (fun n s st => n = 0 ∧ ghostsD [.keep [1, 4, 10, 11]] st = some (F89_0 s1 s11 y1 s)) (fun r st => finishD Tryz.prog A0 89 Tryz.f89 st = some (.p (.tup [.v (.int .i64 r.1), .v (.bool r.2.1)]), [.var [.ref 1 0 r.2.2.length 2], .arr (encL en_Pair r.2.2)])) o) := by
 refine Wp.iter ?_
 intro s st o hg h
 generalize s = s10 at hg h
 unfold sort_partition_func_L0 at h; unfold g89_0 F89_0 at hg ⊢
 (try simp only [] at h hg)
 unfold L89_0 bodyOf Tryz.f89; simp only [loopsOf, ens]
 revert h
 repeat' first | (with_reducible refine gB fun _ _ => ?_) | (with_reducible refine gT (fun _ _ => ?_) (fun _ _ => ?_)) | (with_reducible refine gI (fun _ _ => ?_) (fun _ _ => ?_))
 all_goals
  intro h; obtain rfl := Option.some.inj h
  first | (simp (maxSteps := 10000000) (implicitDefEqProofs := false) (disch := first | with_reducible assumption | exact rfl | exact im_ _ | (fail_if_success show Kn _ _); omega) only [bs, rs89, ls89, Nat.reduceAdd, ↓reduceIte, boxD_dagg, loadD_ptr a73, loadD_ptr a81, q47_0, q79_0, hg]; first | (exact ⟨(rfl : Ex.normal = Ex.normal), by kernel_rfl⟩) | (exact ⟨(rfl : Ex.exit 0 = Ex.exit 0), rfl, by kernel_rfl⟩)) | (exfalso; omega)
theorem f89_ok  (x1 : Int) (x2 : Int) (x3 : Int) (o1 : (List Pair)) (r : (Int × Bool × (List Pair))) (h : sort_partition_func x1 x2 x3 o1 = some r) : callW Tryz.prog A0 89 [.agg [.fn (.func 47) [.ptr 0 0], sw79 1 o1.length], iv x1, iv x2, iv x3] [.var [.ref 1 0 o1.length 2], .arr (encL en_Pair o1)] = some (.p (.tup [.v (.int .i64 r.1), .v (.bool r.2.1)]), [.var [.ref 1 0 r.2.2.length 2], .arr (encL en_Pair r.2.2)]) := by
 refine call_ofI (fn := Tryz.f89) (c := bodyOf Tryz.f89) 103 rfl rfl (by kernel_rfl) (by kernel_rfl) (by kernel_rfl) ?_
 unfold sort_partition_func at h; unfold bodyOf Tryz.f89; simp only [ens]
 revert h
 refine gB fun r3 h1 => ?_
 refine gW fun h4 => ?_
 refine gB fun o h10 => ?_
 intro h
 simp (maxSteps := 10000000) (implicitDefEqProofs := false) (disch := first | with_reducible assumption | exact rfl | exact im_ _ | (fail_if_success show Kn _ _); omega) only [bs, rs89, ls89, Nat.reduceAdd, ↓reduceIte, boxD_dagg, loadD_ptr a73, loadD_ptr a81, q47_0, q79_0]
 refine Wp.ctx (fun x => seqW _ _ _ _ (blockW _ (x))) (L89_0_ok x1 (w64 (x2 - (1 : Int))) r3 (w64 (x1 + (1 : Int))) _ o (by unfold F89_0; simp only [List.length_set, cpL_len, h4]; kernel_rfl) h10) ?_
 intro e st hq
 cases o with
 | next _ => (first | cases h | (simp at h))
 | jmp n_ s_ =>
  obtain ⟨rfl, rfl, hq⟩ := hq
  generalize s_ = s10_11 at h hq
  unfold F89_0 at hq
  (try simp only [] at h hq)
  revert h
  refine gB fun o h17 => ?_
  intro h
  simp (maxSteps := 10000000) (implicitDefEqProofs := false) (disch := first | with_reducible assumption | exact rfl | exact im_ _ | (fail_if_success show Kn _ _); omega) only [bs, rs89, ls89, Nat.reduceAdd, ↓reduceIte, boxD_dagg, loadD_ptr a73, loadD_ptr a81, q47_0, q79_0, hq]
  refine Wp.ctx (fun x => seqW _ _ _ _ (blockW _ (x))) (L89_1_ok x1 s10_11 r3 (w64 (x2 - (1 : Int))) _ o (show ghostsD g89_1 _ = some _ from ghosts_app (a := [.keep [1, 4, 10, 11]]) (b := [.keep [1, 4, 10, 11]]) hq (by kernel_rfl)) h17) ?_
  intro e st hq
  cases o with
  | next _ => (first | cases h | (simp at h))
  | jmp n_ s_ =>
   obtain ⟨rfl, rfl, hq⟩ := hq
   generalize s_ = s11_18 at h hq
   unfold F89_1 at hq
   (try simp only [] at h hq)
   revert h
   refine gI (fun h19 _ => ?_) (fun h19 _ => ?_)
   ·repeat' first | (with_reducible refine gB fun _ _ => ?_) | (with_reducible refine gW fun _ => ?_)
    intro h; obtain rfl := Option.some.inj h
    simp (maxSteps := 10000000) (implicitDefEqProofs := false) (disch := first | with_reducible assumption | exact rfl | exact im_ _ | (fail_if_success show Kn _ _); omega) only [bs, rs89, ls89, Nat.reduceAdd, ↓reduceIte, boxD_dagg, loadD_ptr a73, loadD_ptr a81, q47_0, q79_0, hq, hq]
    refine ⟨by simp, ?_⟩; show _ = _; (try simp only [List.length_set, cpL_len, *]); kernel_rfl
   ·refine gB fun r26 h24 => ?_
    refine gW fun h27 => ?_
    refine gB fun o h47 => ?_
    intro h
    simp (maxSteps := 10000000) (implicitDefEqProofs := false) (disch := first | with_reducible assumption | exact rfl | exact im_ _ | (fail_if_success show Kn _ _); omega) only [bs, rs89, ls89, Nat.reduceAdd, ↓reduceIte, boxD_dagg, loadD_ptr a73, loadD_ptr a81, q47_0, q79_0, hq, hq]
    refine Wp.ctx (fun x => seqW _ _ _ _ (blockW _ (x))) (L89_2_ok x1 (w64 (s10_11 + (1 : Int)), w64 (s11_18 - (1 : Int)), r26) _ o (by unfold F89_2; simp only [List.length_set, cpL_len, h4, h27]; kernel_rfl) h47) ?_
    intro e st hq
    cases o with
    | next _ => (first | cases h | (simp at h))
    | jmp n_ s_ =>
     obtain ⟨rfl, rfl, hq⟩ := hq
     obtain ⟨s10_48, s11_48, y1_48⟩ := s_
     unfold F89_2 at hq
     (try simp only [] at h hq)
     revert h
     repeat' first | (with_reducible refine gB fun _ _ => ?_) | (with_reducible refine gW fun _ => ?_)
     intro h; obtain rfl := Option.some.inj h
     simp (maxSteps := 10000000) (implicitDefEqProofs := false) (disch := first | with_reducible assumption | exact rfl | exact im_ _ | (fail_if_success show Kn _ _); omega) only [bs, rs89, ls89, Nat.reduceAdd, ↓reduceIte, boxD_dagg, loadD_ptr a73, loadD_ptr a81, q47_0, q79_0, hq, hq, hq]
     refine ⟨by simp, ?_⟩; show _ = _; (try simp only [List.length_set, cpL_len, *]); kernel_rfl
    | ret _ => (first | cases h | (simp at h))
  | ret _ => (first | cases h | (simp at h))
 | ret _ => (first | cases h | (simp at h))
def ls88 := And.intro @faP_88_0 (And.intro @faP_88_1 (And.intro @varld_2_0_0 (@varld_2_0_1)))
theorem q60_0 {rec : Int → Int → Int → (List Pair) → Option (List Pair)} (hrec : ∀ x1 x2 x3 o1 r, rec x1 x2 x3 o1 = some r → callW Tryz.prog A0 60 [.agg [.fn (.func 47) [.ptr 0 0], sw79 1 o1.length], iv x1, iv x2, iv x3] [.var [.ref 1 0 o1.length 2], .arr (encL en_Pair o1)] = some (.p (.tup []), [.var [.ref 1 0 r.length 2], .arr (encL en_Pair r)])) {a1 : List Pair} {n2 : Nat} {a3 a4 a5 : Int} {r9001 : (List Pair)} {X2 : Ob} (k0 : n2 = a1.length) (h9002 : rec a3 a4 a5 a1 = some r9001) : callD (callW Tryz.prog A0) A0 [.var [.ref 1 0 a1.length 2], .arr (encL en_Pair a1), X2] 60 [.agg [.fn (.func 47) [.ptr 0 0], sw79 1 n2], iv a3, iv a4, iv a5] = some (.p (.tup []), some [.var [.ref 1 0 r9001.length 2], .arr (encL en_Pair r9001), X2]) := by
  rw [show n2 = a1.length from by omega]; exact (callD_put (dsw := [.agg [.fn (.func 47) [.ptr 0 0], sw79 1 a1.length], iv a3, iv a4, iv a5]) (ds' := [.agg [.fn (.func 47) [.ptr 0 0], sw79 1 a1.length], iv a3, iv a4, iv a5]) (i := 0) (ids := [1]) (o := .var [.ref 1 0 a1.length 2]) (os := [.arr (encL en_Pair a1)]) (o' := .var [.ref 1 0 r9001.length 2]) (os' := [.arr (encL en_Pair r9001)]) rfl (by kernel_rfl) (by kernel_rfl) (by kernel_rfl) (by kernel_rfl) (by kernel_rfl) (hrec _ _ _ _ _ h9002) rfl rfl).trans (by kernel_rfl)
theorem q89_0 {a1 : List Pair} {n2 : Nat} {a3 a4 a5 : Int} {r9001 : (Int × Bool × (List Pair))} {X2 : Ob} (k0 : n2 = a1.length) (h9002 : sort_partition_func a3 a4 a5 a1 = some r9001) : callD (callW Tryz.prog A0) A0 [.var [.ref 1 0 a1.length 2], .arr (encL en_Pair a1), X2] 89 [.agg [.fn (.func 47) [.ptr 0 0], sw79 1 n2], iv a3, iv a4, iv a5] = some (.p (.tup [.v (.int .i64 r9001.1), .v (.bool r9001.2.1)]), some [.var [.ref 1 0 r9001.2.2.length 2], .arr (encL en_Pair r9001.2.2), X2]) := by
  rw [show n2 = a1.length from by omega]; exact (callD_put (dsw := [.agg [.fn (.func 47) [.ptr 0 0], sw79 1 a1.length], iv a3, iv a4, iv a5]) (ds' := [.agg [.fn (.func 47) [.ptr 0 0], sw79 1 a1.length], iv a3, iv a4, iv a5]) (i := 0) (ids := [1]) (o := .var [.ref 1 0 a1.length 2]) (os := [.arr (encL en_Pair a1)]) (o' := .var [.ref 1 0 r9001.2.2.length 2]) (os' := [.arr (encL en_Pair r9001.2.2)]) rfl (by kernel_rfl) (by kernel_rfl) (by kernel_rfl) (by kernel_rfl) (by kernel_rfl) (f89_ok _ _ _ _ _ h9002) rfl rfl).trans (by kernel_rfl)
noncomputable def L88_2 : Code := (loopsOf (bodyOf Tryz.f88)).getD 2 .skip
def g88_2 : List Ghost := [.keep [1, 4, 9, 10], .keep [1, 4, 9, 10]]
noncomputable def F88_2 (s1 : Int) (s9 : Int) (y1 : (List Pair)) : Int → St := fun s10 => ⟨[J, iv s1, J, J, .ptr 2 0, J, J, J, J, iv s9, iv s10, J, J, J, J, J, J, J, J, J, J, J, J, J, J, J, J, J, J, J, J, J, J, J, J, J, J, J, J, J, J, J, J, J, J, J, J, J, J, J, J, J, J, J, J, J, J, J], [.var [.ref 1 0 y1.length 2], .arr (encL en_Pair y1), .var [.fn (.func 47) [.ptr 0 0], sw79 1 y1.length]], 2⟩
theorem L88_2_ok (s1 : Int) (s9 : Int) (y1 : (List Pair)) : ∀ s st o, ghostsD g88_2 st = some (F88_2 s1 s9 y1 s) → iter (sort_partitionEqual_func_L2 s1 s9 y1) s = some o →
    Wp (evW Tryz.prog A0 88 (.loop L88_2) st) (OutQ (F88_2 s1 s9 y1) g88_2 (fun n s st => n = 4 ∧ ghostsD [.keep [1, 4, 9, 10]] st = some (F88_2 s1 s9 y1 s)) (fun r st => finishD Tryz.prog A0 88 Tryz.f88 st = some (.p (.v (.int .i64 r.1)), [.var [.ref 1 0 r.2.length 2], .arr (encL en_Pair r.2)])) o) := by
 refine Wp.iter ?_
 intro s st o hg h
 generalize s = s10 at hg h
 unfold sort_partitionEqual_func_L2 at h; unfold g88_2 F88_2 at hg ⊢
 (try simp only [] at h hg)
 unfold L88_2 bodyOf Tryz.f88; simp only [loopsOf, ens]
 revert h
 repeat' first | (with_reducible refine gB fun _ _ => ?_) | (with_reducible refine gT (fun _ _ => ?_) (fun _ _ => ?_)) | (with_reducible refine gI (fun _ _ => ?_) (fun _ _ => ?_))
 all_goals
  intro h; obtain rfl := Option.some.inj h
  first | (simp (maxSteps := 10000000) (implicitDefEqProofs := false) (disch := first | with_reducible assumption | exact rfl | exact im_ _ | (fail_if_success show Kn _ _); omega) only [bs, rs88, ls88, Nat.reduceAdd, ↓reduceIte, boxD_dagg, loadD_ptr a73, loadD_ptr a81, q47_0, q79_0, hg]; first | (exact ⟨(rfl : Ex.normal = Ex.normal), by kernel_rfl⟩) | (exact ⟨(rfl : Ex.exit 4 = Ex.exit 4), rfl, by kernel_rfl⟩)) | (exfalso; omega)
noncomputable def L88_1 : Code := (loopsOf (bodyOf Tryz.f88)).getD 1 .skip
def g88_1 : List Ghost := [.keep [1, 4, 9, 10], .keep [1, 4, 9, 10]]
noncomputable def F88_1 (s1 : Int) (s10 : Int) (y1 : (List Pair)) : Int → St := fun s9 => ⟨[J, iv s1, J, J, .ptr 2 0, J, J, J, J, iv s9, iv s10, J, J, J, J, J, J, J, J, J, J, J, J, J, J, J, J, J, J, J, J, J, J, J, J, J, J, J, J, J, J, J, J, J, J, J, J, J, J, J, J, J, J, J, J, J, J, J], [.var [.ref 1 0 y1.length 2], .arr (encL en_Pair y1), .var [.fn (.func 47) [.ptr 0 0], sw79 1 y1.length]], 2⟩
theorem L88_1_ok (s1 : Int) (s10 : Int) (y1 : (List Pair)) : ∀ s st o, ghostsD g88_1 st = some (F88_1 s1 s10 y1 s) → iter (sort_partitionEqual_func_L1 s1 s10 y1) s = some o →
    Wp (evW Tryz.prog A0 88 (.loop L88_1) st) (OutQ (F88_1 s1 s10 y1) g88_1 (fun n s st => n = 2 ∧ ghostsD [.keep [1, 4, 9, 10]] st = some (F88_1 s1 s10 y1 s)) (fun r st => finishD Tryz.prog A0 88 Tryz.f88 st = some (.p (.v (.int .i64 r.1)), [.var [.ref 1 0 r.2.length 2], .arr (encL en_Pair r.2)])) o) := by
 refine Wp.iter ?_
 intro s st o hg h
 generalize s = s9 at hg h
 unfold sort_partitionEqual_func_L1 at h; unfold g88_1 F88_1 at hg ⊢
 (try simp only [] at h hg)
 unfold L88_1 bodyOf Tryz.f88; simp only [loopsOf, ens]
 revert h
 repeat' first | (with_reducible refine gB fun _ _ => ?_) | (with_reducible refine gT (fun _ _ => ?_) (fun _ _ => ?_)) | (with_reducible refine gI (fun _ _ => ?_) (fun _ _ => ?_))
 all_goals
  intro h; obtain rfl := Option.some.inj h
  first | (simp (maxSteps := 10000000) (implicitDefEqProofs := false) (disch := first | with_reducible assumption | exact rfl | exact im_ _ | (fail_if_success show Kn _ _); omega) only [bs, rs88, ls88, Nat.reduceAdd, ↓reduceIte, boxD_dagg, loadD_ptr a73, loadD_ptr a81, q47_0, q79_0, hg]; first | (exact ⟨(rfl : Ex.exit 2 = Ex.exit 2), rfl, by kernel_rfl⟩) | (exact ⟨(rfl : Ex.normal = Ex.normal), by kernel_rfl⟩)) | (exfalso; omega)
noncomputable def L88_0 : Code := (loopsOf (bodyOf Tryz.f88)).getD 0 .skip
def g88_0 : List Ghost := [.keep [1, 4, 9, 10]]
noncomputable def F88_0 (s1 : Int) : (Int × Int × (List Pair)) → St := fun (s9, s10, y1) => ⟨[J, iv s1, J, J, .ptr 2 0, J, J, J, J, iv s9, iv s10, J, J, J, J, J, J, J, J, J, J, J, J, J, J, J, J, J, J, J, J, J, J, J, J, J, J, J, J, J, J, J, J, J, J, J, J, J, J, J, J, J, J, J, J, J, J, J], [.var [.ref 1 0 y1.length 2], .arr (encL en_Pair y1), .var [.fn (.func 47) [.ptr 0 0], sw79 1 y1.length]], 2⟩
theorem L88_0_ok (s1 : Int) : ∀ s st o, ghostsD g88_0 st = some (F88_0 s1 s) → iter (sort_partitionEqual_func_L0 s1) s = some o →
    Wp (evW Tryz.prog A0 88 (.loop L88_0) st) (OutQ (F88_0 s1) g88_0 (fun n s st => n = 0 ∧ ghostsD [.keep [1, 4, 9, 10]] st = some (F88_0 s1 s)) (fun r st => finishD Tryz.prog A0 88 Tryz.f88 st = some (.p (.v (.int .i64 r.1)), [.var [.ref 1 0 r.2.length 2], .arr (encL en_Pair r.2)])) o) := by
 refine Wp.iter ?_
 intro s st o hg h
 obtain ⟨s9, s10, y1⟩ := s
 unfold sort_partitionEqual_func_L0 at h; unfold g88_0 F88_0 at hg ⊢
 (try simp only [] at h hg)
 unfold L88_0 bodyOf Tryz.f88; simp only [loopsOf, ens]
 revert h
 refine gB fun o h10 => ?_
 intro h
 simp (maxSteps := 10000000) (implicitDefEqProofs := false) (disch := first | with_reducible assumption | exact rfl | exact im_ _ | (fail_if_success show Kn _ _); omega) only [bs, rs88, ls88, Nat.reduceAdd, ↓reduceIte, boxD_dagg, loadD_ptr a73, loadD_ptr a81, q47_0, q79_0, hg]
 refine Wp.ctx (fun x => blockW _ (seqW _ _ _ _ (blockW _ (x)))) (L88_1_ok s1 s10 y1 s9 _ o (show ghostsD g88_1 _ = some _ from ghosts_app (a := [.keep [1, 4, 9, 10]]) (b := [.keep [1, 4, 9, 10]]) hg (by kernel_rfl)) h10) ?_
 intro e st hq
 cases o with
 | next _ => (first | cases h | (simp at h))
 | jmp n_ s_ =>
  obtain ⟨rfl, rfl, hq⟩ := hq
  generalize s_ = s9_11 at h hq
  unfold F88_1 at hq
  (try simp only [] at h hq)
  revert h
  refine gB fun o h17 => ?_
  intro h
  simp (maxSteps := 10000000) (implicitDefEqProofs := false) (disch := first | with_reducible assumption | exact rfl | exact im_ _ | (fail_if_success show Kn _ _); omega) only [bs, rs88, ls88, Nat.reduceAdd, ↓reduceIte, boxD_dagg, loadD_ptr a73, loadD_ptr a81, q47_0, q79_0, hg, hq]
  refine Wp.ctx (fun x => blockW _ (seqW _ _ _ _ (blockW _ (x)))) (L88_2_ok s1 s9_11 y1 s10 _ o (show ghostsD g88_2 _ = some _ from ghosts_app (a := [.keep [1, 4, 9, 10]]) (b := [.keep [1, 4, 9, 10]]) hq (by kernel_rfl)) h17) ?_
  intro e st hq
  cases o with
  | next _ => (first | cases h | (simp at h))
  | jmp n_ s_ =>
   obtain ⟨rfl, rfl, hq⟩ := hq
   generalize s_ = s10_18 at h hq
   unfold F88_2 at hq
   (try simp only [] at h hq)
   revert h
   repeat' first | (with_reducible refine gB fun _ _ => ?_) | (with_reducible refine gW fun _ => ?_) | (with_reducible refine gI (fun _ _ => ?_) (fun _ _ => ?_))
   all_goals
    intro h; obtain rfl := Option.some.inj h
    first | (simp (maxSteps := 10000000) (implicitDefEqProofs := false) (disch := first | with_reducible assumption | exact rfl | exact im_ _ | (fail_if_success show Kn _ _); omega) only [bs, rs88, ls88, Nat.reduceAdd, ↓reduceIte, boxD_dagg, loadD_ptr a73, loadD_ptr a81, q47_0, q79_0, hg, hq, hq]; first | (exact ⟨(rfl : Ex.exit 0 = Ex.exit 0), rfl, by kernel_rfl⟩) | (exact ⟨(rfl : Ex.normal = Ex.normal), by (try simp only [List.length_set, cpL_len, *]); kernel_rfl⟩)) | (exfalso; omega)
  | ret _ => (first | cases h | (simp at h))
 | ret _ => (first | cases h | (simp at h))
theorem f88_ok  (x1 : Int) (x2 : Int) (x3 : Int) (o1 : (List Pair)) (r : (Int × (List Pair))) (h : sort_partitionEqual_func x1 x2 x3 o1 = some r) : callW Tryz.prog A0 88 [.agg [.fn (.func 47) [.ptr 0 0], sw79 1 o1.length], iv x1, iv x2, iv x3] [.var [.ref 1 0 o1.length 2], .arr (encL en_Pair o1)] = some (.p (.v (.int .i64 r.1)), [.var [.ref 1 0 r.2.length 2], .arr (encL en_Pair r.2)]) := by
 refine call_ofI (fn := Tryz.f88) (c := bodyOf Tryz.f88) 54 rfl rfl (by kernel_rfl) (by kernel_rfl) (by kernel_rfl) ?_
 unfold sort_partitionEqual_func at h; unfold bodyOf Tryz.f88; simp only [ens]
 revert h
 refine gB fun r3 h1 => ?_
 refine gW fun h4 => ?_
 refine gB fun o h24 => ?_
 intro h
 simp (maxSteps := 10000000) (implicitDefEqProofs := false) (disch := first | with_reducible assumption | exact rfl | exact im_ _ | (fail_if_success show Kn _ _); omega) only [bs, rs88, ls88, Nat.reduceAdd, ↓reduceIte, boxD_dagg, loadD_ptr a73, loadD_ptr a81, q47_0, q79_0]
 refine Wp.ctx (fun x => seqW _ _ _ _ (blockW _ (x))) (L88_0_ok x1 (w64 (x1 + (1 : Int)), w64 (x2 - (1 : Int)), r3) _ o (by unfold F88_0; simp only [List.length_set, cpL_len, h4]; kernel_rfl) h24) ?_
 intro e st hq
 cases o with
 | next _ => (first | cases h | (simp at h))
 | jmp n_ s_ =>
  obtain ⟨rfl, rfl, hq⟩ := hq
  obtain ⟨s9_25, s10_25, y1_25⟩ := s_
  unfold F88_0 at hq
  (try simp only [] at h hq)
  revert h
  intro h; obtain rfl := Option.some.inj h
  simp (maxSteps := 10000000) (implicitDefEqProofs := false) (disch := first | with_reducible assumption | exact rfl | exact im_ _ | (fail_if_success show Kn _ _); omega) only [bs, rs88, ls88, Nat.reduceAdd, ↓reduceIte, boxD_dagg, loadD_ptr a73, loadD_ptr a81, q47_0, q79_0, hq]
  refine ⟨by simp, ?_⟩; show _ = _; kernel_rfl
 | ret _ => (first | cases h | (simp at h))
def ls96 := @cv_3_85
theorem q88_0 {a1 : List Pair} {n2 : Nat} {a3 a4 a5 : Int} {r9001 : (Int × (List Pair))} {X2 : Ob} (k0 : n2 = a1.length) (h9002 : sort_partitionEqual_func a3 a4 a5 a1 = some r9001) : callD (callW Tryz.prog A0) A0 [.var [.ref 1 0 a1.length 2], .arr (encL en_Pair a1), X2] 88 [.agg [.fn (.func 47) [.ptr 0 0], sw79 1 n2], iv a3, iv a4, iv a5] = some (.p (.v (.int .i64 r9001.1)), some [.var [.ref 1 0 r9001.2.length 2], .arr (encL en_Pair r9001.2), X2]) := by
  rw [show n2 = a1.length from by omega]; exact (callD_put (dsw := [.agg [.fn (.func 47) [.ptr 0 0], sw79 1 a1.length], iv a3, iv a4, iv a5]) (ds' := [.agg [.fn (.func 47) [.ptr 0 0], sw79 1 a1.length], iv a3, iv a4, iv a5]) (i := 0) (ids := [1]) (o := .var [.ref 1 0 a1.length 2]) (os := [.arr (encL en_Pair a1)]) (o' := .var [.ref 1 0 r9001.2.length 2]) (os' := [.arr (encL en_Pair r9001.2)]) rfl (by kernel_rfl) (by kernel_rfl) (by kernel_rfl) (by kernel_rfl) (by kernel_rfl) (f88_ok _ _ _ _ _ h9002) rfl rfl).trans (by kernel_rfl)
theorem q87_0 {a1 : List Pair} {n2 : Nat} {a3 a4 : Int} {r9001 : (Bool × (List Pair))} {X2 : Ob} (k0 : n2 = a1.length) (h9002 : sort_partialInsertionSort_func a3 a4 a1 = some r9001) : callD (callW Tryz.prog A0) A0 [.var [.ref 1 0 a1.length 2], .arr (encL en_Pair a1), X2] 87 [.agg [.fn (.func 47) [.ptr 0 0], sw79 1 n2], iv a3, iv a4] = some (.p (.v (.bool r9001.1)), some [.var [.ref 1 0 r9001.2.length 2], .arr (encL en_Pair r9001.2), X2]) := by
  rw [show n2 = a1.length from by omega]; exact (callD_put (dsw := [.agg [.fn (.func 47) [.ptr 0 0], sw79 1 a1.length], iv a3, iv a4]) (ds' := [.agg [.fn (.func 47) [.ptr 0 0], sw79 1 a1.length], iv a3, iv a4]) (i := 0) (ids := [1]) (o := .var [.ref 1 0 a1.length 2]) (os := [.arr (encL en_Pair a1)]) (o' := .var [.ref 1 0 r9001.2.length 2]) (os' := [.arr (encL en_Pair r9001.2)]) rfl (by kernel_rfl) (by kernel_rfl) (by kernel_rfl) (by kernel_rfl) (by kernel_rfl) (f87_ok _ _ _ _ h9002) rfl rfl).trans (by kernel_rfl)
theorem q86_0 {a1 : List Pair} {a2 a3 : Int} {r9001 : (List Pair)} {X2 : Ob} (h9002 : sort_reverseRange_func a2 a3 a1 = some r9001) : callD (callW Tryz.prog A0) A0 [.var [.ref 1 0 a1.length 2], .arr (encL en_Pair a1), X2] 86 [.agg [.fn (.func 47) [.ptr 0 0], sw79 1 a1.length], iv a2, iv a3] = some (.p (.tup []), some [.var [.ref 1 0 r9001.length 2], .arr (encL en_Pair r9001), X2]) := (callD_put (dsw := [.agg [.fn (.func 47) [.ptr 0 0], sw79 1 a1.length], iv a2, iv a3]) (ds' := [.agg [.fn (.func 47) [.ptr 0 0], sw79 1 a1.length], iv a2, iv a3]) (i := 0) (ids := [1]) (o := .var [.ref 1 0 a1.length 2]) (os := [.arr (encL en_Pair a1)]) (o' := .var [.ref 1 0 r9001.length 2]) (os' := [.arr (encL en_Pair r9001)]) rfl (by kernel_rfl) (by kernel_rfl) (by kernel_rfl) (by kernel_rfl) (by kernel_rfl) (f86_ok _ _ _ _ h9002) rfl rfl).trans (by kernel_rfl)
theorem q87_1 {a1 : List Pair} {a2 a3 : Int} {r9001 : (Bool × (List Pair))} {X2 : Ob} (h9002 : sort_partialInsertionSort_func a2 a3 a1 = some r9001) : callD (callW Tryz.prog A0) A0 [.var [.ref 1 0 a1.length 2], .arr (encL en_Pair a1), X2] 87 [.agg [.fn (.func 47) [.ptr 0 0], sw79 1 a1.length], iv a2, iv a3] = some (.p (.v (.bool r9001.1)), some [.var [.ref 1 0 r9001.2.length 2], .arr (encL en_Pair r9001.2), X2]) := (callD_put (dsw := [.agg [.fn (.func 47) [.ptr 0 0], sw79 1 a1.length], iv a2, iv a3]) (ds' := [.agg [.fn (.func 47) [.ptr 0 0], sw79 1 a1.length], iv a2, iv a3]) (i := 0) (ids := [1]) (o := .var [.ref 1 0 a1.length 2]) (os := [.arr (encL en_Pair a1)]) (o' := .var [.ref 1 0 r9001.2.length 2]) (os' := [.arr (encL en_Pair r9001.2)]) rfl (by kernel_rfl) (by kernel_rfl) (by kernel_rfl) (by kernel_rfl) (by kernel_rfl) (f87_ok _ _ _ _ h9002) rfl rfl).trans (by kernel_rfl)
theorem q89_1 {a1 : List Pair} {a2 a3 a4 : Int} {r9001 : (Int × Bool × (List Pair))} {X2 : Ob} (h9002 : sort_partition_func a2 a3 a4 a1 = some r9001) : callD (callW Tryz.prog A0) A0 [.var [.ref 1 0 a1.length 2], .arr (encL en_Pair a1), X2] 89 [.agg [.fn (.func 47) [.ptr 0 0], sw79 1 a1.length], iv a2, iv a3, iv a4] = some (.p (.tup [.v (.int .i64 r9001.1), .v (.bool r9001.2.1)]), some [.var [.ref 1 0 r9001.2.2.length 2], .arr (encL en_Pair r9001.2.2), X2]) := (callD_put (dsw := [.agg [.fn (.func 47) [.ptr 0 0], sw79 1 a1.length], iv a2, iv a3, iv a4]) (ds' := [.agg [.fn (.func 47) [.ptr 0 0], sw79 1 a1.length], iv a2, iv a3, iv a4]) (i := 0) (ids := [1]) (o := .var [.ref 1 0 a1.length 2]) (os := [.arr (encL en_Pair a1)]) (o' := .var [.ref 1 0 r9001.2.2.length 2]) (os' := [.arr (encL en_Pair r9001.2.2)]) rfl (by kernel_rfl) (by kernel_rfl) (by kernel_rfl) (by kernel_rfl) (by kernel_rfl) (f89_ok _ _ _ _ _ h9002) rfl rfl).trans (by kernel_rfl)
theorem q88_1 {a1 : List Pair} {a2 a3 a4 : Int} {r9001 : (Int × (List Pair))} {X2 : Ob} (h9002 : sort_partitionEqual_func a2 a3 a4 a1 = some r9001) : callD (callW Tryz.prog A0) A0 [.var [.ref 1 0 a1.length 2], .arr (encL en_Pair a1), X2] 88 [.agg [.fn (.func 47) [.ptr 0 0], sw79 1 a1.length], iv a2, iv a3, iv a4] = some (.p (.v (.int .i64 r9001.1)), some [.var [.ref 1 0 r9001.2.length 2], .arr (encL en_Pair r9001.2), X2]) := (callD_put (dsw := [.agg [.fn (.func 47) [.ptr 0 0], sw79 1 a1.length], iv a2, iv a3, iv a4]) (ds' := [.agg [.fn (.func 47) [.ptr 0 0], sw79 1 a1.length], iv a2, iv a3, iv a4]) (i := 0) (ids := [1]) (o := .var [.ref 1 0 a1.length 2]) (os := [.arr (encL en_Pair a1)]) (o' := .var [.ref 1 0 r9001.2.length 2]) (os' := [.arr (encL en_Pair r9001.2)]) rfl (by kernel_rfl) (by kernel_rfl) (by kernel_rfl) (by kernel_rfl) (by kernel_rfl) (f88_ok _ _ _ _ _ h9002) rfl rfl).trans (by kernel_rfl)
theorem q85_0 {a1 : List Pair} {a2 a3 : Int} {r9001 : (Int × Int)} {X2 : Ob} (h9002 : sort_choosePivot_func a2 a3 a1 = some r9001) : callD (callW Tryz.prog A0) A0 [.var [.ref 1 0 a1.length 2], .arr (encL en_Pair a1), X2] 85 [.agg [.fn (.func 47) [.ptr 0 0], sw79 1 a1.length], iv a2, iv a3] = some (.p (.tup [.v (.int .i64 r9001.1), .v (.int .i64 r9001.2)]), some [.var [.ref 1 0 a1.length 2], .arr (encL en_Pair a1), X2]) := (callD_put (dsw := [.agg [.fn (.func 47) [.ptr 0 0], sw79 1 a1.length], iv a2, iv a3]) (ds' := [.agg [.fn (.func 47) [.ptr 0 0], sw79 1 a1.length], iv a2, iv a3]) (i := 0) (ids := [1]) (o := .var [.ref 1 0 a1.length 2]) (os := [.arr (encL en_Pair a1)]) (o' := .var [.ref 1 0 a1.length 2]) (os' := [.arr (encL en_Pair a1)]) rfl (by kernel_rfl) (by kernel_rfl) (by kernel_rfl) (by kernel_rfl) (by kernel_rfl) (f85_ok _ _ _ _ h9002) rfl rfl).trans (by kernel_rfl)
theorem f96_ok  (x0 : Int) (r : Int) (h : sort_nextPowerOfTwo x0 = some r) : callW Tryz.prog A0 96 [iv x0] [] = some (.p (.v (.int .u64 r)), []) := by
 refine call_ofI (fn := Tryz.f96) (c := bodyOf Tryz.f96) 9 rfl rfl (by kernel_rfl) (by kernel_rfl) (by kernel_rfl) ?_
 unfold sort_nextPowerOfTwo at h; unfold bodyOf Tryz.f96; simp only [ens]
 revert h
 repeat' (with_reducible refine gB fun _ _ => ?_)
 intro h; obtain rfl := Option.some.inj h
 simp (maxSteps := 10000000) (implicitDefEqProofs := false) (disch := first | with_reducible assumption | exact rfl | exact im_ _ | (fail_if_success show Kn _ _); omega) only [bs, rs96, ls96, Nat.reduceAdd, ↓reduceIte, binD_shl_k, c59_0]
 refine ⟨by simp, ?_⟩; exact fin_sc rfl rfl rfl rfl
def ls97 := And.intro @sv_1_0_1 (@varld_1_0)
theorem c96_0 {H : List Ob} {a1 : Int} {r : Int} (h : sort_nextPowerOfTwo a1 = some r) : callD (callW Tryz.prog A0) A0 H 96 [iv a1] = some (.p (.v (.int .u64 r)), none) :=
 callD_fun (args := [.v (.int .i64 a1)]) rfl rfl rfl (by simp only [List.map_cons, List.map_nil, wk, wks, wkL]; exact f96_ok a1 _ h)
theorem f97_ok  (x0 : Int) (r : (Int × Int)) (h : sort_xorshift_Next x0 = some r) : callW Tryz.prog A0 97 [.ptr 0 0] [.var [.p (.v (.int .u64 x0))]] = some (.p (.v (.int .u64 r.1)), [.var [.p (.v (.int .u64 r.2))]]) := by
 refine call_ofI (fn := Tryz.f97) (c := bodyOf Tryz.f97) 32 rfl rfl (by kernel_rfl) (by kernel_rfl) (by kernel_rfl) ?_
 unfold sort_xorshift_Next at h; unfold bodyOf Tryz.f97; simp only [ens]
 revert h
 repeat' (with_reducible refine gB fun _ _ => ?_)
 intro h; obtain rfl := Option.some.inj h
 simp (maxSteps := 10000000) (implicitDefEqProofs := false) (disch := first | with_reducible assumption | exact rfl | exact im_ _ | (fail_if_success show Kn _ _); omega) only [bs, rs97, ls97, Nat.reduceAdd, ↓reduceIte, binD_shl_k, binD_shr_k, binD_xor_k, loadD_ptr a107, nilCheckD_ptr, ops_nilCheck, storeD_int z107]
 refine ⟨by simp, ?_⟩; show _ = _; kernel_rfl
def ls84 := And.intro @al_107 (And.intro @cv_3_107 (And.intro @cv_85_3 (And.intro @faP_88_1 (And.intro @sv_1_0_1 (@varld_2_0_1)))))
theorem q79_1 {a1 : List Pair} {a2 a3 : Int} {r9003 : _} {X0 X2 X3 : Ob} (h9001 : swapL a2 a3 a1 = some r9003) : callD (callW Tryz.prog A0) A0 [X0, .arr (encL en_Pair a1), X2, X3] 79 [iv a2, iv a3, .ref 1 0 a1.length 2, .p (.v (typeHandle Tryz.prog 41))] = some (.p (.tup []), some [X0, .arr (encL en_Pair r9003), X2, X3]) := (callD_put (dsw := [iv a2, iv a3, .ref 1 0 a1.length 2, .p (.v (typeHandle Tryz.prog 41))]) (ds' := [iv a2, iv a3, .ref 0 0 a1.length 2, .p (.v (typeHandle Tryz.prog 41))]) (i := 1) (ids := []) (o := .arr (encL en_Pair a1)) (os := []) (o' := .arr (encL en_Pair r9003)) (os' := []) rfl (by kernel_rfl) (by kernel_rfl) (by kernel_rfl) (by kernel_rfl) (by kernel_rfl) (swap79_callg h9001) rfl rfl).trans (by kernel_rfl)
theorem q97_0 {a1 : Int} {r9001 : (Int × Int)} {X0 X1 X2 : Ob} (h9002 : sort_xorshift_Next a1 = some r9001) : callD (callW Tryz.prog A0) A0 [X0, X1, X2, .var [.p (.v (.int .u64 a1))]] 97 [.ptr 3 0] = some (.p (.v (.int .u64 r9001.1)), some [X0, X1, X2, .var [.p (.v (.int .u64 r9001.2))]]) := (callD_put (dsw := [.ptr 3 0]) (ds' := [.ptr 0 0]) (i := 3) (ids := []) (o := .var [.p (.v (.int .u64 a1))]) (os := []) (o' := .var [.p (.v (.int .u64 r9001.2))]) (os' := []) rfl (by kernel_rfl) (by kernel_rfl) (by kernel_rfl) (by kernel_rfl) (by kernel_rfl) (f97_ok _ _ h9002) rfl rfl).trans (by kernel_rfl)
noncomputable def L84_0 : Code := (loopsOf (bodyOf Tryz.f84)).getD 0 .skip
def g84_0 : List Ghost := [.keep [1, 3, 6, 7, 8, 9]]
noncomputable def F84_0 (s1 : Int) (s6 : Int) (s8 : Int) : (Int × (List Pair) × Int) → St := fun (s9, y1, w3_0) => ⟨[J, iv s1, J, .ptr 2 0, J, J, iv s6, .ptr 3 0, .p (.v (.int .u64 s8)), iv s9, J, J, J, J, J, J, J, J, J, J, J, J, J, J, J, J, J, J, J, J, J, J, J, J, J, J, J, J, J, J, J, J, J, J, J, J, J, J, J, J, J, J, J, J], [.var [.ref 1 0 y1.length 2], .arr (encL en_Pair y1), .var [.fn (.func 47) [.ptr 0 0], sw79 1 y1.length], .var [.p (.v (.int .u64 w3_0))]], 2⟩
theorem L84_0_ok (s1 : Int) (s6 : Int) (s8 : Int) : ∀ s st o, ghostsD g84_0 st = some (F84_0 s1 s6 s8 s) → iter (sort_breakPatterns_func_L0 s1 s6 s8) s = some o →
    Wp (evW Tryz.prog A0 84 (.loop L84_0) st) (OutQ (F84_0 s1 s6 s8) g84_0 (fun n s st => n = 0 ∧ (match s with | (s9, y1, w3_0) => finishD Tryz.prog A0 84 Tryz.f84 st = some (.p (.tup []), [.var [.ref 1 0 y1.length 2], .arr (encL en_Pair y1)]))) (fun r st => finishD Tryz.prog A0 84 Tryz.f84 st = some (.p (.tup []), [.var [.ref 1 0 r.length 2], .arr (encL en_Pair r)])) o) := by
 refine Wp.iter ?_
 intro s st o hg h
 obtain ⟨s9, y1, w3_0⟩ := s
 unfold sort_breakPatterns_func_L0 at h; unfold g84_0 F84_0 at hg ⊢
 (try simp only [] at h hg)
 unfold L84_0 bodyOf Tryz.f84; simp only [loopsOf, ens]
 revert h
 repeat' first | (with_reducible refine gB fun _ _ => ?_) | (with_reducible refine gW fun _ => ?_) | (with_reducible refine gI (fun _ _ => ?_) (fun _ _ => ?_))
 all_goals
  intro h; obtain rfl := Option.some.inj h
  first | (simp (maxSteps := 10000000) (implicitDefEqProofs := false) (disch := first | with_reducible assumption | exact rfl | exact im_ _ | (fail_if_success show Kn _ _); omega) only [bs, rs84, ls84, Nat.reduceAdd, ↓reduceIte, binD_and_k, binD_quo_k, binD_sub_k (k := .u64), boxD_dagg, c96_0, loadD_ptr a81, q79_1, q97_0, storeD_int z107, hg]; first | (exact ⟨(rfl : Ex.normal = Ex.normal), by (try simp only [List.length_set, cpL_len, *]); kernel_rfl⟩) | (refine ⟨(rfl : Ex.exit 0 = Ex.exit 0), rfl, ?_⟩; show _ = _; kernel_rfl)) | (exfalso; omega)
theorem f84_ok  (x1 : Int) (x2 : Int) (o1 : (List Pair)) (r : (List Pair)) (h : sort_breakPatterns_func x1 x2 o1 = some r) : callW Tryz.prog A0 84 [.agg [.fn (.func 47) [.ptr 0 0], sw79 1 o1.length], iv x1, iv x2] [.var [.ref 1 0 o1.length 2], .arr (encL en_Pair o1)] = some (.p (.tup []), [.var [.ref 1 0 r.length 2], .arr (encL en_Pair r)]) := by
 refine call_ofI (fn := Tryz.f84) (c := bodyOf Tryz.f84) 51 rfl rfl (by kernel_rfl) (by kernel_rfl) (by kernel_rfl) ?_
 unfold sort_breakPatterns_func at h; unfold bodyOf Tryz.f84; simp only [ens]
 revert h
 refine gI (fun h1 _ => ?_) (fun h1 _ => ?_)
 ·refine gB fun r2 h3 => ?_
  refine gB fun q5 h6 => ?_
  refine gB fun o h40 => ?_
  intro h
  simp (maxSteps := 10000000) (implicitDefEqProofs := false) (disch := first | with_reducible assumption | exact rfl | exact im_ _ | (fail_if_success show Kn _ _); omega) only [bs, rs84, ls84, Nat.reduceAdd, ↓reduceIte, binD_and_k, binD_quo_k, binD_sub_k (k := .u64), boxD_dagg, c96_0, loadD_ptr a81, q79_1, q97_0, storeD_int z107]
  refine Wp.ctx (fun x => blockW _ (x)) (L84_0_ok x1 (w64 (x2 - x1)) r2 (w64 ((w64 (x1 + (w64 (q5 * (2 : Int))))) - (1 : Int)), o1, IntKind.wrap .u64 (w64 (x2 - x1))) _ o (by kernel_rfl) h40) ?_
  intro e st hq
  cases o with
  | next _ => (first | cases h | (simp at h))
  | jmp n_ s_ =>
   obtain ⟨rfl, rfl, hq⟩ := hq
   obtain ⟨s9_41, y1_41, w3_0_41⟩ := s_
   obtain rfl := Option.some.inj h
   simp (maxSteps := 10000000) (implicitDefEqProofs := false) (disch := first | with_reducible assumption | exact rfl | exact im_ _ | (fail_if_success show Kn _ _); omega) only [bs, rs84, ls84, Nat.reduceAdd, ↓reduceIte, binD_and_k, binD_quo_k, binD_sub_k (k := .u64), boxD_dagg, c96_0, loadD_ptr a81, q79_1, q97_0, storeD_int z107]
   exact ⟨by simp, hq⟩
  | ret _ => (first | cases h | (simp at h))
 ·intro h; obtain rfl := Option.some.inj h
  simp (maxSteps := 10000000) (implicitDefEqProofs := false) (disch := first | with_reducible assumption | exact rfl | exact im_ _ | (fail_if_success show Kn _ _); omega) only [bs, rs84, ls84, Nat.reduceAdd, ↓reduceIte, binD_and_k, binD_quo_k, binD_sub_k (k := .u64), boxD_dagg, c96_0, loadD_ptr a81, q79_1, q97_0, storeD_int z107]
  refine ⟨by simp, ?_⟩; show _ = _; kernel_rfl
def ls60 := And.intro @ex_2_0 (And.intro @ex_2_1 (And.intro @faP_88_0 (And.intro @varld_2_0_0 (@varlg_ff))))
theorem q86_1 {a1 : List Pair} {n2 : Nat} {a3 a4 : Int} {r9001 : (List Pair)} {X2 : Ob} (k0 : n2 = a1.length) (h9002 : sort_reverseRange_func a3 a4 a1 = some r9001) : callD (callW Tryz.prog A0) A0 [.var [.ref 1 0 a1.length 2], .arr (encL en_Pair a1), X2] 86 [.agg [.fn (.func 47) [.ptr 0 0], sw79 1 n2], iv a3, iv a4] = some (.p (.tup []), some [.var [.ref 1 0 r9001.length 2], .arr (encL en_Pair r9001), X2]) := by
  rw [show n2 = a1.length from by omega]; exact (callD_put (dsw := [.agg [.fn (.func 47) [.ptr 0 0], sw79 1 a1.length], iv a3, iv a4]) (ds' := [.agg [.fn (.func 47) [.ptr 0 0], sw79 1 a1.length], iv a3, iv a4]) (i := 0) (ids := [1]) (o := .var [.ref 1 0 a1.length 2]) (os := [.arr (encL en_Pair a1)]) (o' := .var [.ref 1 0 r9001.length 2]) (os' := [.arr (encL en_Pair r9001)]) rfl (by kernel_rfl) (by kernel_rfl) (by kernel_rfl) (by kernel_rfl) (by kernel_rfl) (f86_ok _ _ _ _ h9002) rfl rfl).trans (by kernel_rfl)
theorem q85_1 {a1 : List Pair} {n2 : Nat} {a3 a4 : Int} {r9001 : (Int × Int)} {X2 : Ob} (k0 : n2 = a1.length) (h9002 : sort_choosePivot_func a3 a4 a1 = some r9001) : callD (callW Tryz.prog A0) A0 [.var [.ref 1 0 a1.length 2], .arr (encL en_Pair a1), X2] 85 [.agg [.fn (.func 47) [.ptr 0 0], sw79 1 n2], iv a3, iv a4] = some (.p (.tup [.v (.int .i64 r9001.1), .v (.int .i64 r9001.2)]), some [.var [.ref 1 0 a1.length 2], .arr (encL en_Pair a1), X2]) := by
  rw [show n2 = a1.length from by omega]; exact (callD_put (dsw := [.agg [.fn (.func 47) [.ptr 0 0], sw79 1 a1.length], iv a3, iv a4]) (ds' := [.agg [.fn (.func 47) [.ptr 0 0], sw79 1 a1.length], iv a3, iv a4]) (i := 0) (ids := [1]) (o := .var [.ref 1 0 a1.length 2]) (os := [.arr (encL en_Pair a1)]) (o' := .var [.ref 1 0 a1.length 2]) (os' := [.arr (encL en_Pair a1)]) rfl (by kernel_rfl) (by kernel_rfl) (by kernel_rfl) (by kernel_rfl) (by kernel_rfl) (f85_ok _ _ _ _ h9002) rfl rfl).trans (by kernel_rfl)
theorem q84_0 {a1 : List Pair} {a2 a3 : Int} {r9001 : (List Pair)} {X2 : Ob} (h9002 : sort_breakPatterns_func a2 a3 a1 = some r9001) : callD (callW Tryz.prog A0) A0 [.var [.ref 1 0 a1.length 2], .arr (encL en_Pair a1), X2] 84 [.agg [.fn (.func 47) [.ptr 0 0], sw79 1 a1.length], iv a2, iv a3] = some (.p (.tup []), some [.var [.ref 1 0 r9001.length 2], .arr (encL en_Pair r9001), X2]) := (callD_put (dsw := [.agg [.fn (.func 47) [.ptr 0 0], sw79 1 a1.length], iv a2, iv a3]) (ds' := [.agg [.fn (.func 47) [.ptr 0 0], sw79 1 a1.length], iv a2, iv a3]) (i := 0) (ids := [1]) (o := .var [.ref 1 0 a1.length 2]) (os := [.arr (encL en_Pair a1)]) (o' := .var [.ref 1 0 r9001.length 2]) (os' := [.arr (encL en_Pair r9001)]) rfl (by kernel_rfl) (by kernel_rfl) (by kernel_rfl) (by kernel_rfl) (by kernel_rfl) (f84_ok _ _ _ _ h9002) rfl rfl).trans (by kernel_rfl)
noncomputable def L60_0 : Code := (loopsOf (bodyOf Tryz.f60)).getD 0 .skip
def g60_0 : List Ghost := [.keep [1, 2, 3, 4, 8, 9]]
noncomputable def F60_0 : (Int × Int × Int × Bool × Bool × (List Pair)) → St := fun (s1, s2, s3, s8, s9, y1) => ⟨[J, iv s1, iv s2, iv s3, .ptr 2 0, J, J, J, bv s8, bv s9, J, J, J, J, J, J, J, J, J, J, J, J, J, J, J, J, J, J, J, J, J, J, J, J, J, J, J, J, J, J, J, J, J, J, J, J, J, J, J, J, J, J, J, J, J, J, J, J, J, J, J, J, J, J, J, J, J, J, J, J, J, J, J, J, J, J, J, J, J, J, J, J, J, J, J, J, J, J, J, J, J, J, J, J, J, J, J, J, J, J, J, J, J, J, J, J, J, J, J, J, J, J, J, J, J, J, J, J, J, J, J, J, J, J, J, J, J, J, J, J], [.var [.ref 1 0 y1.length 2], .arr (encL en_Pair y1), .var [.fn (.func 47) [.ptr 0 0], sw79 1 y1.length]], 2⟩
theorem L60_0_ok {rec : Int → Int → Int → (List Pair) → Option (List Pair)} (hrec : ∀ x1 x2 x3 o1 r, rec x1 x2 x3 o1 = some r → callW Tryz.prog A0 60 [.agg [.fn (.func 47) [.ptr 0 0], sw79 1 o1.length], iv x1, iv x2, iv x3] [.var [.ref 1 0 o1.length 2], .arr (encL en_Pair o1)] = some (.p (.tup []), [.var [.ref 1 0 r.length 2], .arr (encL en_Pair r)])) : ∀ s st o, ghostsD g60_0 st = some (F60_0 s) → iter (sort_pdqsort_func_L0 rec) s = some o →
    Wp (evW Tryz.prog A0 60 (.loop L60_0) st) (OutQ (F60_0) g60_0 (fun n s st => False) (fun r st => finishD Tryz.prog A0 60 Tryz.f60 st = some (.p (.tup []), [.var [.ref 1 0 r.length 2], .arr (encL en_Pair r)])) o) := by
 refine Wp.iter ?_
 intro s st o hg h
 obtain ⟨s1, s2, s3, s8, s9, y1⟩ := s
 unfold sort_pdqsort_func_L0 at h; unfold g60_0 F60_0 at hg ⊢
 (try simp only [] at h hg)
 unfold L60_0 bodyOf Tryz.f60; simp only [loopsOf, ens]
 revert h
 repeat' first | (with_reducible refine gB fun _ _ => ?_) | (with_reducible refine gW fun _ => ?_) | (with_reducible refine gT (fun _ _ => ?_) (fun _ _ => ?_)) | (with_reducible refine gI (fun _ _ => ?_) (fun _ _ => ?_))
 all_goals
  intro h; obtain rfl := Option.some.inj h
  first | (simp (maxSteps := 10000000) (implicitDefEqProofs := false) (disch := first | with_reducible assumption | exact rfl | exact im_ _ | (fail_if_success show Kn _ _); omega) only [bs, rs60, ls60, Nat.reduceAdd, ↓reduceIte, Int.reduceEq, Int.reduceLE, Int.reduceLT, binD_quo_k, boxD_dagg, loadD_pagg a88 z88, loadD_ptr a73, q47_0, q60_0 hrec, q82_0, q83_0, q84_0, q85_0, q85_1, q86_0, q86_1, q87_0, q87_1, q88_0, q88_1, q89_0, q89_1, hg]; first | (refine ⟨(rfl : Ex.ret = Ex.ret), ?_⟩; show _ = _; (try simp only [List.length_set, cpL_len, *]); kernel_rfl) | (exact ⟨(rfl : Ex.normal = Ex.normal), by (try simp only [List.length_set, cpL_len, *]); kernel_rfl⟩)) | (exfalso; omega)
theorem f60_ok {rec : Int → Int → Int → (List Pair) → Option (List Pair)} (hrec : ∀ x1 x2 x3 o1 r, rec x1 x2 x3 o1 = some r → callW Tryz.prog A0 60 [.agg [.fn (.func 47) [.ptr 0 0], sw79 1 o1.length], iv x1, iv x2, iv x3] [.var [.ref 1 0 o1.length 2], .arr (encL en_Pair o1)] = some (.p (.tup []), [.var [.ref 1 0 r.length 2], .arr (encL en_Pair r)]))  (x1 : Int) (x2 : Int) (x3 : Int) (o1 : (List Pair)) (r : (List Pair)) (h : sort_pdqsort_func.body rec x1 x2 x3 o1 = some r) : callW Tryz.prog A0 60 [.agg [.fn (.func 47) [.ptr 0 0], sw79 1 o1.length], iv x1, iv x2, iv x3] [.var [.ref 1 0 o1.length 2], .arr (encL en_Pair o1)] = some (.p (.tup []), [.var [.ref 1 0 r.length 2], .arr (encL en_Pair r)]) := by
 refine call_ofI (fn := Tryz.f60) (c := bodyOf Tryz.f60) 126 rfl rfl (by kernel_rfl) (by kernel_rfl) (by kernel_rfl) ?_
 unfold sort_pdqsort_func.body at h; unfold bodyOf Tryz.f60; simp only [ens]
 revert h
 refine gB fun o h663 => ?_
 intro h
 simp (maxSteps := 10000000) (implicitDefEqProofs := false) (disch := first | with_reducible assumption | exact rfl | exact im_ _ | (fail_if_success show Kn _ _); omega) only [bs, rs60, ls60, Nat.reduceAdd, ↓reduceIte, Int.reduceEq, Int.reduceLE, Int.reduceLT, binD_quo_k, boxD_dagg, loadD_pagg a88 z88, loadD_ptr a73, q47_0, q60_0 hrec, q82_0, q83_0, q84_0, q85_0, q85_1, q86_0, q86_1, q87_0, q87_1, q88_0, q88_1, q89_0, q89_1]
 refine Wp.ctx (fun x => blockW _ (x)) (L60_0_ok hrec (x1, x2, x3, true, true, o1) _ o (by kernel_rfl) h663) ?_
 intro e st hq
 cases o with
 | next _ => (first | cases h | (simp at h))
 | jmp n_ s_ => exact hq.2.elim
 | ret r665 =>
  obtain ⟨rfl, hq⟩ := hq
  obtain rfl := Option.some.inj h
  simp (maxSteps := 10000000) (implicitDefEqProofs := false) (disch := first | with_reducible assumption | exact rfl | exact im_ _ | (fail_if_success show Kn _ _); omega) only [bs, rs60, ls60, Nat.reduceAdd, ↓reduceIte, Int.reduceEq, Int.reduceLE, Int.reduceLT, binD_quo_k, boxD_dagg, loadD_pagg a88 z88, loadD_ptr a73, q47_0, q60_0 hrec, q82_0, q83_0, q84_0, q85_0, q85_1, q86_0, q86_1, q87_0, q87_1, q88_0, q88_1, q89_0, q89_1]
  exact ⟨by simp, hq⟩
theorem f60_spec : ∀ (x1 : Int) (x2 : Int) (x3 : Int) (o1 : (List Pair)) r, pdqF x1 x2 x3 o1 = some r → callW Tryz.prog A0 60 [.agg [.fn (.func 47) [.ptr 0 0], sw79 1 o1.length], iv x1, iv x2, iv x3] [.var [.ref 1 0 o1.length 2], .arr (encL en_Pair o1)] = some (.p (.tup []), [.var [.ref 1 0 r.length 2], .arr (encL en_Pair r)]) := by
 have key : ∀ n (x1 : Int) (x2 : Int) (x3 : Int) (o1 : (List Pair)) r, pdqF_mu x1 x2 x3 o1 < n → pdqF x1 x2 x3 o1 = some r → callW Tryz.prog A0 60 [.agg [.fn (.func 47) [.ptr 0 0], sw79 1 o1.length], iv x1, iv x2, iv x3] [.var [.ref 1 0 o1.length 2], .arr (encL en_Pair o1)] = some (.p (.tup []), [.var [.ref 1 0 r.length 2], .arr (encL en_Pair r)]) := by
  intro n
  induction n with
  | zero => intro x1 x2 x3 o1 r h; omega
  | succ n ih =>
   intro x1 x2 x3 o1 r hn h
   refine f60_ok (rec := fun x1' x2' x3' o1' => if pdqF_mu x1' x2' x3' o1' < pdqF_mu x1 x2 x3 o1 then pdqF x1' x2' x3' o1' else none) ?_ x1 x2 x3 o1 r (pdqF_body x1 x2 x3 o1 r h)
   intro x1' x2' x3' o1' r' h'
   by_cases hm : pdqF_mu x1' x2' x3' o1' < pdqF_mu x1 x2 x3 o1
   ·rw [if_pos hm] at h'; exact ih x1' x2' x3' o1' r' (by omega) h'
   ·rw [if_neg hm] at h'; cases h'
 intro x1 x2 x3 o1 r h
 exact key _ x1 x2 x3 o1 r (Nat.lt_succ_self _) h
def ls46 := And.intro @al_79 (And.intro @bu_88_ff (And.intro @cv_3_85 (And.intro @sg_3_0_pqp (@varlg_pqp))))
theorem q60_1 {a1 : List Pair} {a2 a3 a4 : Int} {r9001 : (List Pair)} {X2 X3 : Ob} (h9002 : pdqF a2 a3 a4 a1 = some r9001) : callD (callW Tryz.prog A0) A0 [.arr (encL en_Pair a1), .var [.ref 0 0 a1.length 2], X2, X3] 60 [.agg [.fn (.func 47) [.ptr 1 0], sw79 0 a1.length], iv a2, iv a3, iv a4] = some (.p (.tup []), some [.arr (encL en_Pair r9001), .var [.ref 0 0 r9001.length 2], X2, X3]) := (callD_put (dsw := [.agg [.fn (.func 47) [.ptr 1 0], sw79 0 a1.length], iv a2, iv a3, iv a4]) (ds' := [.agg [.fn (.func 47) [.ptr 0 0], sw79 1 a1.length], iv a2, iv a3, iv a4]) (i := 1) (ids := [0]) (o := .var [.ref 1 0 a1.length 2]) (os := [.arr (encL en_Pair a1)]) (o' := .var [.ref 1 0 r9001.length 2]) (os' := [.arr (encL en_Pair r9001)]) rfl (by kernel_rfl) (by kernel_rfl) (by kernel_rfl) (by kernel_rfl) (by kernel_rfl) (f60_spec _ _ _ _ _ h9002) rfl rfl).trans (by kernel_rfl)
theorem q58_0 {a1 : List Pair} {X1 X3 : Ob} : callD (callW Tryz.prog A0) A0 [.arr (encL en_Pair a1), X1, .var [.ref 0 0 a1.length 2], X3] 58 [.agg [.p (.v (typeHandle Tryz.prog 26)), .ptr 2 0, .p (.v (.int .u64 (151 : Int)))]] = some (iv (a1.length : Int), some [.arr (encL en_Pair a1), X1, .var [.ref 0 0 a1.length 2], X3]) := (callD_any (dsw := [.agg [.p (.v (typeHandle Tryz.prog 26)), .ptr 2 0, .p (.v (.int .u64 (151 : Int)))]]) (ds' := [.agg [.p (.v (typeHandle Tryz.prog 26)), .ptr 0 0, .p (.v (.int .u64 151))]]) (i := 2) (ids := [0]) (o := .var [.ref 1 0 a1.length 2]) (os := [.arr (encL en_Pair a1)]) (x := .p (.v (.int .i64 (a1.length : Int)))) (o' := .var [.ref 1 0 a1.length 2]) (os' := [.arr (encL en_Pair a1)]) rfl (by kernel_rfl) (by kernel_rfl) (by kernel_rfl) (by kernel_rfl) (by kernel_rfl) (callW_valLen rfl (by kernel_rfl) (by kernel_rfl) (by kernel_rfl) u26) rfl rfl).trans (by kernel_rfl)
theorem q57_0 {a1 : List Pair} {X1 X2 X3 : Ob} (h9003 : 2 ≤ a1.length) : callD (callW Tryz.prog A0) A0 [.arr (encL en_Pair a1), X1, X2, X3] 57 [.ifc 26 (.ref 0 0 a1.length 2)] = some (sw79 0 a1.length, some [.arr (encL en_Pair a1), X1, X2, X3]) := (callD_any (dsw := [.ifc 26 (.ref 0 0 a1.length 2)]) (ds' := [.ifc 26 (.ref 0 0 a1.length 2)]) (i := 0) (ids := []) (o := .arr (encL en_Pair a1)) (os := []) (x := .fn (.func 79) [.ref 0 0 a1.length 2, .p (.v (typeHandle Tryz.prog 41))]) (o' := .arr (encL en_Pair a1)) (os' := []) rfl (by kernel_rfl) (by kernel_rfl) (by kernel_rfl) (by kernel_rfl) (by kernel_rfl) (callW_swapper rfl rfl (by assumption)) rfl rfl).trans (by kernel_rfl)
theorem q56_0 {a1 : List Pair} {X1 : Ob} : callD (callW Tryz.prog A0) A0 [.arr (encL en_Pair a1), X1] 56 [.ifc 26 (.ref 0 0 a1.length 2)] = some (.agg [.p (.v (typeHandle Tryz.prog 26)), .ptr 2 0, .p (.v (.int .u64 (151 : Int)))], some [.arr (encL en_Pair a1), X1, .var [.ref 0 0 a1.length 2]]) := (callD_any (dsw := [.ifc 26 (.ref 0 0 a1.length 2)]) (ds' := [.ifc 26 (.ref 0 0 a1.length 2)]) (i := 0) (ids := []) (o := .arr (encL en_Pair a1)) (os := []) (x := .agg [.p (.v (typeHandle Tryz.prog 26)), .ptr 1 0, .p (.v (.int .u64 151))]) (o' := .arr (encL en_Pair a1)) (os' := [.var [.ref 0 0 a1.length 2]]) rfl (by kernel_rfl) (by kernel_rfl) (by kernel_rfl) (by kernel_rfl) (by kernel_rfl) (callW_valueOf rfl (by kernel_rfl)) rfl rfl).trans (by kernel_rfl)
theorem f46_ok  (o0 : (List Pair)) (r : (List Pair)) (h : sort_Slice o0 = some r) : callW Tryz.prog A0 46 [.ifc 26 (.ref 0 0 o0.length 2), .fn (.func 47) [.ptr 1 0]] [.arr (encL en_Pair o0), .var [.ref 0 0 o0.length 2]] = some (.p (.tup []), [.arr (encL en_Pair r), .var [.ref 0 0 r.length 2]]) := by
 refine call_ofI (fn := Tryz.f46) (c := bodyOf Tryz.f46) 21 rfl rfl (by kernel_rfl) (by kernel_rfl) (by kernel_rfl) ?_
 unfold sort_Slice at h; unfold bodyOf Tryz.f46; simp only [ens]
 revert h
 repeat' first | (with_reducible refine gB fun _ _ => ?_) | (with_reducible refine gW fun _ => ?_)
 intro h; obtain rfl := Option.some.inj h
 simp (maxSteps := 10000000) (implicitDefEqProofs := false) (disch := first | with_reducible assumption | exact rfl | exact im_ _ | (fail_if_success show Kn _ _); omega) only [bs, rs46, ls46, Nat.reduceAdd, ↓reduceIte, c59_0, loadD_pagg a79 z79, q56_0, q57_0, q58_0, q60_1, storeD_gagg z79]
 refine ⟨by simp, ?_⟩; show _ = _; (try simp only [List.length_set, cpL_len, *]); kernel_rfl
theorem sort_SliceS_callg {o0 : (List Pair)} {r : (List Pair)} (h : sort_SliceS o0 = some r) : callW Tryz.prog A0 46 [.ifc 26 (.ref 0 0 o0.length 2), .fn (.func 47) [.ptr 1 0]] [.arr (encL en_Pair o0), .var [.ref 0 0 o0.length 2]] = some (.p (.tup []), [.arr (encL en_Pair r), .var [.ref 0 0 r.length 2]]) := by
 unfold sort_SliceS at h
 match o0, h with
 | [], h => rw [if_pos (by simp)] at h; obtain rfl := Option.some.inj h; exact callW_some.2 ⟨60, by kernel_rfl⟩
 | [y], h => rw [if_pos (by simp)] at h; obtain rfl := Option.some.inj h; exact callW_some.2 ⟨60, by kernel_rfl⟩
 | y :: z :: l, h => rw [if_neg (by simp only [List.length_cons]; omega)] at h; exact f46_ok _ _ h
def ls38 := And.intro @al_41 (And.intro @ap_26_26 (And.intro @bs_26_1 (And.intro @idxR_26 (And.intro @lk_arr_41 (And.intro @neq_41 (And.intro @sa_2_0_2 (And.intro @varld_1_0 (@varlv_2_0_2))))))))
theorem q46_0 {a1 : List Pair} {r9001 : (List Pair)} (h9002 : sort_SliceS a1 = some r9001) : callD (callW Tryz.prog A0) A0 [.arr (encL en_Pair a1), .var [.ref 0 0 a1.length 2]] 46 [.ifc 26 (.ref 0 0 a1.length 2), .fn (.func 47) [.ptr 1 0]] = some (.p (.tup []), some [.arr (encL en_Pair r9001), .var [.ref 0 0 r9001.length 2]]) := (callD_put (dsw := [.ifc 26 (.ref 0 0 a1.length 2), .fn (.func 47) [.ptr 1 0]]) (ds' := [.ifc 26 (.ref 0 0 a1.length 2), .fn (.func 47) [.ptr 1 0]]) (i := 0) (ids := [1]) (o := .arr (encL en_Pair a1)) (os := [.var [.ref 0 0 a1.length 2]]) (o' := .arr (encL en_Pair r9001)) (os' := [.var [.ref 0 0 r9001.length 2]]) rfl (by kernel_rfl) (by kernel_rfl) (by kernel_rfl) (by kernel_rfl) (by kernel_rfl) (sort_SliceS_callg h9002) rfl rfl).trans (by kernel_rfl)
noncomputable def L38_0 : Code := (loopsOf (bodyOf Tryz.f38)).getD 0 .skip
def g38_0 : List Ghost := [.own 3 2, .keep [1, 3, 10, 11, 12]]
noncomputable def F38_0 (s11 : Int) (y0 : (List Pair)) : (Int × (List Pair)) → St := fun (s12, y2) => ⟨[J, .ptr 1 0, J, .ref 2 0 y2.length 2, J, J, J, J, J, J, .ref 0 0 y0.length 2, iv s11, iv s12, J, J, J, J, J, J, J, J, J, J, J, J, J, J, J, J, J, J, J, J, J], [.arr (encL en_Pair y0), .var [.ref 0 0 y0.length 2], .arr (encL en_Pair y2)], 1⟩
theorem L38_0_ok (s11 : Int) (y0 : (List Pair)) : ∀ s st o, ghostsD g38_0 st = some (F38_0 s11 y0 s) → iter (match_tidy_L0 s11 y0) s = some o →
    Wp (evW Tryz.prog A0 38 (.loop L38_0) st) (OutQ (F38_0 s11 y0) g38_0 (fun n s st => n = 0 ∧ ghostsD [.keep [1, 3, 10, 11, 12]] st = some (F38_0 s11 y0 s)) (fun r st => finishD Tryz.prog A0 38 Tryz.f38 st = some (.p (.lst false r.1.length (encL en_Pair r.1)), [.arr (encL en_Pair r.2)])) o) := by
 refine Wp.iter ?_
 intro s st o hg h
 obtain ⟨s12, y2⟩ := s
 unfold match_tidy_L0 at h; unfold g38_0 F38_0 at hg ⊢
 (try simp only [] at h hg)
 unfold L38_0 bodyOf Tryz.f38; simp only [loopsOf, ens]
 revert h
 refine gI (fun h5 _ => ?_) (fun h5 _ => ?_)
 ·refine gR fun v6 h7 h7a h7b => ?_
  refine gI (fun h9 _ => ?_) (fun h9 _ => ?_)
  ·refine gW fun h11 => ?_
   have h10 : ∀ (H : List Ob) (id : Nat), apOb H id 0 y2.length 1 2 2 16 [.v (.int .i64 v6.Old), .v (.int .i64 v6.New)] (some (.arr (encL en_Pair y2))) = some (.ref H.length 0 (y2 ++ [v6]).length 2, H.set id .dead ++ [.arr (encL en_Pair (y2 ++ [v6]))]) := fun H id => ap_enc (y := [v6]) en_Pair_len (by first | rfl | omega) rfl (by first | (simp only [encL_cons, encL_nil, en_Pair_eq, List.cons_append, List.nil_append]; done) | (simp only [encL_cons, encL_nil, en_Pair_eq, List.cons_append, List.nil_append]; rfl) | rfl) (by assumption)
   intro h; obtain rfl := Option.some.inj h
   simp (maxSteps := 10000000) (implicitDefEqProofs := false) (disch := first | with_reducible assumption | exact rfl | exact im_ _ | (fail_if_success show Kn _ _); omega) only [bs, rs38, ls38, Nat.reduceAdd, ↓reduceIte, allP, lenD_ref u26, loadD_pagg a41 z41, loadD_ptr a26, mkFn, ops_makeFunc_, ops_makeInterface u26, q46_0, storeD_agg z41, wks_nil_, hg, h10]
   exact ⟨(rfl : Ex.normal = Ex.normal), by kernel_rfl⟩
  ·refine gR fun v12 h13 h13a h13b => ?_
   refine gI (fun h15 _ => ?_) (fun h15 _ => ?_)
   ·intro h; obtain rfl := Option.some.inj h
    simp (maxSteps := 10000000) (implicitDefEqProofs := false) (disch := first | with_reducible assumption | exact rfl | exact im_ _ | (fail_if_success show Kn _ _); omega) only [bs, rs38, ls38, Nat.reduceAdd, ↓reduceIte, allP, lenD_ref u26, loadD_pagg a41 z41, loadD_ptr a26, mkFn, ops_makeFunc_, ops_makeInterface u26, q46_0, storeD_agg z41, wks_nil_, hg]
    exact ⟨(rfl : Ex.normal = Ex.normal), by kernel_rfl⟩
   ·refine gW fun h17 => ?_
    have h16 : ∀ (H : List Ob) (id : Nat), apOb H id 0 y2.length 1 2 2 16 [.v (.int .i64 v6.Old), .v (.int .i64 v6.New)] (some (.arr (encL en_Pair y2))) = some (.ref H.length 0 (y2 ++ [v6]).length 2, H.set id .dead ++ [.arr (encL en_Pair (y2 ++ [v6]))]) := fun H id => ap_enc (y := [v6]) en_Pair_len (by first | rfl | omega) rfl (by first | (simp only [encL_cons, encL_nil, en_Pair_eq, List.cons_append, List.nil_append]; done) | (simp only [encL_cons, encL_nil, en_Pair_eq, List.cons_append, List.nil_append]; rfl) | rfl) (by assumption)
    intro h; obtain rfl := Option.some.inj h
    simp (maxSteps := 10000000) (implicitDefEqProofs := false) (disch := first | with_reducible assumption | exact rfl | exact im_ _ | (fail_if_success show Kn _ _); omega) only [bs, rs38, ls38, Nat.reduceAdd, ↓reduceIte, allP, lenD_ref u26, loadD_pagg a41 z41, loadD_ptr a26, mkFn, ops_makeFunc_, ops_makeInterface u26, q46_0, storeD_agg z41, wks_nil_, hg, h16]
    exact ⟨(rfl : Ex.normal = Ex.normal), by kernel_rfl⟩
 ·intro h; obtain rfl := Option.some.inj h
  simp (maxSteps := 10000000) (implicitDefEqProofs := false) (disch := first | with_reducible assumption | exact rfl | exact im_ _ | (fail_if_success show Kn _ _); omega) only [bs, rs38, ls38, Nat.reduceAdd, ↓reduceIte, allP, lenD_ref u26, loadD_pagg a41 z41, loadD_ptr a26, mkFn, ops_makeFunc_, ops_makeInterface u26, q46_0, storeD_agg z41, wks_nil_, hg]
  exact ⟨(rfl : Ex.exit 0 = Ex.exit 0), rfl, by kernel_rfl⟩
theorem f38_ok  (x0 : (List Pair)) (r : ((List Pair) × (List Pair))) (h : match_tidy x0 = some r) : callW Tryz.prog A0 38 [.ref 0 0 x0.length 2] [.arr (encL en_Pair x0)] = some (.p (.lst false r.1.length (encL en_Pair r.1)), [.arr (encL en_Pair r.2)]) := by
 refine call_ofI (fn := Tryz.f38) (c := bodyOf Tryz.f38) 33 rfl rfl (by kernel_rfl) (by kernel_rfl) (by kernel_rfl) ?_
 unfold match_tidy at h; unfold bodyOf Tryz.f38; simp only [ens]
 revert h
 refine gB fun r1 h2 => ?_
 refine gW fun h4 => ?_
 refine gB fun o h18 => ?_
 intro h
 simp (maxSteps := 10000000) (implicitDefEqProofs := false) (disch := first | with_reducible assumption | exact rfl | exact im_ _ | (fail_if_success show Kn _ _); omega) only [bs, rs38, ls38, Nat.reduceAdd, ↓reduceIte, allP, lenD_ref u26, loadD_pagg a41 z41, loadD_ptr a26, mkFn, ops_makeFunc_, ops_makeInterface u26, q46_0, storeD_agg z41, wks_nil_]
 refine Wp.ctx (fun x => seqW _ _ _ _ (blockW _ (x))) (L38_0_ok (r1.length : Int) r1 ((0 : Int), ([] : List Pair)) _ o (by unfold F38_0; simp only [List.length_set, cpL_len, h4]; kernel_rfl) h18) ?_
 intro e st hq
 cases o with
 | next _ => (first | cases h | (simp at h))
 | jmp n_ s_ =>
  obtain ⟨rfl, rfl, hq⟩ := hq
  obtain ⟨s12_19, y2_19⟩ := s_
  unfold F38_0 at hq
  (try simp only [] at h hq)
  revert h
  intro h; obtain rfl := Option.some.inj h
  simp (maxSteps := 10000000) (implicitDefEqProofs := false) (disch := first | with_reducible assumption | exact rfl | exact im_ _ | (fail_if_success show Kn _ _); omega) only [bs, rs38, ls38, Nat.reduceAdd, ↓reduceIte, allP, lenD_ref u26, loadD_pagg a41 z41, loadD_ptr a26, mkFn, ops_makeFunc_, ops_makeInterface u26, q46_0, storeD_agg z41, wks_nil_, hq]
  refine ⟨by simp, ?_⟩; exact finish_isH (l := [2]) rfl rfl (purify1_enc en_Pair_len rfl (by first | rfl | omega | simp)) (by first | rfl | (simp only [wk, wks, wkL]; first | done | rfl)) (by kernel_rfl)
 | ret _ => (first | cases h | (simp at h))
def ls19 := And.intro @al_41 (And.intro @ap_26_26 (And.intro @bs_26_1 (And.intro @bu_41_0_1 (And.intro @faP_41_0 (And.intro @faP_41_1 (And.intro @idxL_26 (And.intro @lk_frz_41 (And.intro @sa_2_0_2 (And.intro @varld_2_0_0 (@varld_2_0_1))))))))))
theorem q38_0 {a1 : List Pair} {r9001 : ((List Pair) × (List Pair))} (h9002 : match_tidy a1 = some r9001) : callD (callW Tryz.prog A0) A0 [.arr (encL en_Pair a1)] 38 [.ref 0 0 a1.length 2] = some (.p (.lst false r9001.1.length (encL en_Pair r9001.1)), some [.arr (encL en_Pair r9001.2)]) := (callD_put (dsw := [.ref 0 0 a1.length 2]) (ds' := [.ref 0 0 a1.length 2]) (i := 0) (ids := []) (o := .arr (encL en_Pair a1)) (os := []) (o' := .arr (encL en_Pair r9001.2)) (os' := []) rfl (by kernel_rfl) (by kernel_rfl) (by kernel_rfl) (by kernel_rfl) (by kernel_rfl) (f38_ok _ _ h9002) rfl rfl).trans (by kernel_rfl)
noncomputable def L19_0 : Code := (loopsOf (bodyOf Tryz.f19)).getD 0 .skip
def g19_0 : List Ghost := [.own 3 2, .weak [6], .keep [3, 6, 7, 8]]
noncomputable def F19_0 (s6 : (List Pair)) (s7 : Int) : (Int × (List Pair)) → St := fun (s8, y0) => ⟨[J, J, J, .ref 0 0 y0.length 2, J, J, .p (.lst false s6.length (encL en_Pair s6)), iv s7, iv s8, J, J, J, J, J, J, J, J, J, J, J, J, J, J], [.arr (encL en_Pair y0)], 0⟩
theorem L19_0_ok (s6 : (List Pair)) (s7 : Int) : ∀ s st o, ghostsD g19_0 st = some (F19_0 s6 s7 s) → iter (match_Invert_L0 s6 s7) s = some o →
    Wp (evW Tryz.prog A0 19 (.loop L19_0) st) (OutQ (F19_0 s6 s7) g19_0 (fun n s st => n = 0 ∧ ghostsD [.keep [3, 6, 7, 8]] st = some (F19_0 s6 s7 s)) (fun r st => finishD Tryz.prog A0 19 Tryz.f19 st = some (.p (.lst false r.length (encL en_Pair r)), [])) o) := by
 refine Wp.iter ?_
 intro s st o hg h
 obtain ⟨s8, y0⟩ := s
 unfold match_Invert_L0 at h; unfold g19_0 F19_0 at hg ⊢
 (try simp only [] at h hg)
 unfold L19_0 bodyOf Tryz.f19; simp only [loopsOf, ens]
 revert h
 refine gI (fun h1 _ => ?_) (fun h1 _ => ?_)
 ·refine gR fun v2 h3 h3a h3b => ?_
  refine gW fun h6 => ?_
  have h5 : ∀ (H : List Ob) (id : Nat), apOb H id 0 y0.length 1 2 2 16 [.v (.int .i64 v2.New), .v (.int .i64 v2.Old)] (some (.arr (encL en_Pair y0))) = some (.ref H.length 0 (y0 ++ [(Pair.mk v2.New v2.Old)]).length 2, H.set id .dead ++ [.arr (encL en_Pair (y0 ++ [(Pair.mk v2.New v2.Old)]))]) := fun H id => ap_enc (y := [(Pair.mk v2.New v2.Old)]) en_Pair_len (by first | rfl | omega) rfl (by first | (simp only [encL_cons, encL_nil, en_Pair_eq, List.cons_append, List.nil_append]; done) | (simp only [encL_cons, encL_nil, en_Pair_eq, List.cons_append, List.nil_append]; rfl) | rfl) (by assumption)
  intro h; obtain rfl := Option.some.inj h
  simp (maxSteps := 10000000) (implicitDefEqProofs := false) (disch := first | with_reducible assumption | exact rfl | exact im_ _ | (fail_if_success show Kn _ _); omega) only [bs, rs19, ls19, Nat.reduceAdd, ↓reduceIte, lenD_lst u26, loadD_iagg a41 z41, loadD_ptr a3, q38_0, storeD_agg z41, wks_nil_, hg, h5]
  exact ⟨(rfl : Ex.normal = Ex.normal), by kernel_rfl⟩
 ·intro h; obtain rfl := Option.some.inj h
  simp (maxSteps := 10000000) (implicitDefEqProofs := false) (disch := first | with_reducible assumption | exact rfl | exact im_ _ | (fail_if_success show Kn _ _); omega) only [bs, rs19, ls19, Nat.reduceAdd, ↓reduceIte, lenD_lst u26, loadD_iagg a41 z41, loadD_ptr a3, q38_0, storeD_agg z41, wks_nil_, hg]
  exact ⟨(rfl : Ex.exit 0 = Ex.exit 0), rfl, by kernel_rfl⟩
theorem f19_ok  (x0 : (List Pair)) (r : (List Pair)) (h : match_Invert x0 = some r) : callW Tryz.prog A0 19 [.p (.lst false x0.length (encL en_Pair x0))] [] = some (.p (.lst false r.length (encL en_Pair r)), []) := by
 refine call_ofI (fn := Tryz.f19) (c := bodyOf Tryz.f19) 22 rfl rfl (by kernel_rfl) (by kernel_rfl) (by kernel_rfl) ?_
 unfold match_Invert at h; unfold bodyOf Tryz.f19; simp only [ens]
 revert h
 refine gB fun o h7 => ?_
 intro h
 simp (maxSteps := 10000000) (implicitDefEqProofs := false) (disch := first | with_reducible assumption | exact rfl | exact im_ _ | (fail_if_success show Kn _ _); omega) only [bs, rs19, ls19, Nat.reduceAdd, ↓reduceIte, lenD_lst u26, loadD_iagg a41 z41, loadD_ptr a3, q38_0, storeD_agg z41, wks_nil_]
 refine Wp.ctx (fun x => seqW _ _ _ _ (blockW _ (x))) (L19_0_ok x0 (x0.length : Int) ((0 : Int), ([] : List Pair)) _ o (by kernel_rfl) h7) ?_
 intro e st hq
 cases o with
 | next _ => (first | cases h | (simp at h))
 | jmp n_ s_ =>
  obtain ⟨rfl, rfl, hq⟩ := hq
  obtain ⟨s8_8, y0_8⟩ := s_
  unfold F19_0 at hq
  (try simp only [] at h hq)
  revert h
  repeat' first | (with_reducible refine gB fun _ _ => ?_) | (with_reducible refine gW fun _ => ?_)
  intro h; obtain rfl := Option.some.inj h
  simp (maxSteps := 10000000) (implicitDefEqProofs := false) (disch := first | with_reducible assumption | exact rfl | exact im_ _ | (fail_if_success show Kn _ _); omega) only [bs, rs19, ls19, Nat.reduceAdd, ↓reduceIte, lenD_lst u26, loadD_iagg a41 z41, loadD_ptr a3, q38_0, storeD_agg z41, wks_nil_, hq]
  refine ⟨by simp, ?_⟩; exact finish_is (l := []) rfl rfl rfl rfl (by first | rfl | (simp only [wk, wks, wkL]; first | done | rfl))
 | ret _ => (first | cases h | (simp at h))
def ls22 := And.intro @al_41 (And.intro @faP_41_0 (And.intro @faP_41_1 (And.intro @idxL_26 (And.intro @lk_frz_41 (And.intro @sa_2_0_2 (And.intro @varld_2_0_0 (@varld_2_0_1)))))))
theorem c19_0 {H : List Ob} {a1 : Bool} {a2 : List Pair} {r : (List Pair)} (h : match_Invert a2 = some r) : callD (callW Tryz.prog A0) A0 H 19 [.p (.lst a1 a2.length (encL en_Pair a2))] = some (.p (.lst false r.length (encL en_Pair r)), none) :=
 callD_fun (args := [.lst a1 a2.length (encL en_Pair a2)]) rfl rfl rfl (by simp only [List.map_cons, List.map_nil, wk, wks, wkL]; exact f19_ok a2 _ h)
noncomputable def L22_0 : Code := (loopsOf (bodyOf Tryz.f22)).getD 0 .skip
def g22_0 : List Ghost := [.weak [8], .keep [1, 8, 9, 10]]
noncomputable def F22_0 (s1 : Int) (s8 : (List Pair)) (s9 : Int) : Int → St := fun s10 => ⟨[J, iv s1, J, J, J, J, J, J, .p (.lst false s8.length (encL en_Pair s8)), iv s9, iv s10, J, J, J, J, J, J, J, J, J, J], [], 0⟩
theorem L22_0_ok (s1 : Int) (s8 : (List Pair)) (s9 : Int) : ∀ s st o, ghostsD g22_0 st = some (F22_0 s1 s8 s9 s) → iter (match_Find_L0 s1 s8 s9) s = some o →
    Wp (evW Tryz.prog A0 22 (.loop L22_0) st) (OutQ (F22_0 s1 s8 s9) g22_0 (fun n s st => n = 0 ∧ ghostsD [.keep [1, 8, 9, 10]] st = some (F22_0 s1 s8 s9 s)) (fun r st => finishD Tryz.prog A0 22 Tryz.f22 st = some (.p (.tup [.v (.int .i64 r.1), .v (.bool r.2)]), [])) o) := by
 refine Wp.iter ?_
 intro s st o hg h
 generalize s = s10 at hg h
 unfold match_Find_L0 at h; unfold g22_0 F22_0 at hg ⊢
 (try simp only [] at h hg)
 unfold L22_0 bodyOf Tryz.f22; simp only [loopsOf, ens]
 revert h
 refine gI (fun h1 _ => ?_) (fun h1 _ => ?_)
 ·refine gR fun v2 h3 h3a h3b => ?_
  refine gI (fun h5 _ => ?_) (fun h5 _ => ?_)
  ·intro h; obtain rfl := Option.some.inj h
   simp (maxSteps := 10000000) (implicitDefEqProofs := false) (disch := first | with_reducible assumption | exact rfl | exact im_ _ | (fail_if_success show Kn _ _); omega) only [bs, rs22, ls22, Nat.reduceAdd, ↓reduceIte, lenD_lst u26, loadD_iagg a41 z41, loadD_ptr a3, storeD_agg z41, hg]
   refine ⟨(rfl : Ex.ret = Ex.ret), ?_⟩; exact finish_is (ds := [iv v2.New, bv true]) (x := .tup [.v (.int .i64 v2.New), .v (.bool true)]) (y := .tup [.v (.int .i64 v2.New), .v (.bool true)]) (l := []) rfl rfl rfl rfl (by first | rfl | (simp only [wk, wks, wkL]; first | done | rfl))
  ·intro h; obtain rfl := Option.some.inj h
   simp (maxSteps := 10000000) (implicitDefEqProofs := false) (disch := first | with_reducible assumption | exact rfl | exact im_ _ | (fail_if_success show Kn _ _); omega) only [bs, rs22, ls22, Nat.reduceAdd, ↓reduceIte, lenD_lst u26, loadD_iagg a41 z41, loadD_ptr a3, storeD_agg z41, hg]
   exact ⟨(rfl : Ex.normal = Ex.normal), by kernel_rfl⟩
 ·intro h; obtain rfl := Option.some.inj h
  simp (maxSteps := 10000000) (implicitDefEqProofs := false) (disch := first | with_reducible assumption | exact rfl | exact im_ _ | (fail_if_success show Kn _ _); omega) only [bs, rs22, ls22, Nat.reduceAdd, ↓reduceIte, lenD_lst u26, loadD_iagg a41 z41, loadD_ptr a3, storeD_agg z41, hg]
  exact ⟨(rfl : Ex.exit 0 = Ex.exit 0), rfl, by kernel_rfl⟩
theorem f22_ok  (x0 : (List Pair)) (x1 : Int) (r : (Int × Bool)) (h : match_Find x0 x1 = some r) : callW Tryz.prog A0 22 [.p (.lst false x0.length (encL en_Pair x0)), iv x1] [] = some (.p (.tup [.v (.int .i64 r.1), .v (.bool r.2)]), []) := by
 refine call_ofI (fn := Tryz.f22) (c := bodyOf Tryz.f22) 19 rfl rfl (by kernel_rfl) (by kernel_rfl) (by kernel_rfl) ?_
 unfold match_Find at h; unfold bodyOf Tryz.f22; simp only [ens]
 revert h
 refine gB fun o h6 => ?_
 intro h
 simp (maxSteps := 10000000) (implicitDefEqProofs := false) (disch := first | with_reducible assumption | exact rfl | exact im_ _ | (fail_if_success show Kn _ _); omega) only [bs, rs22, ls22, Nat.reduceAdd, ↓reduceIte, lenD_lst u26, loadD_iagg a41 z41, loadD_ptr a3, storeD_agg z41]
 refine Wp.ctx (fun x => seqW _ _ _ _ (blockW _ (x))) (L22_0_ok x1 x0 (x0.length : Int) (0 : Int) _ o (by kernel_rfl) h6) ?_
 intro e st hq
 cases o with
 | next _ => (first | cases h | (simp at h))
 | jmp n_ s_ =>
  obtain ⟨rfl, rfl, hq⟩ := hq
  generalize s_ = s10_7 at h hq
  unfold F22_0 at hq
  (try simp only [] at h hq)
  revert h
  intro h; obtain rfl := Option.some.inj h
  simp (maxSteps := 10000000) (implicitDefEqProofs := false) (disch := first | with_reducible assumption | exact rfl | exact im_ _ | (fail_if_success show Kn _ _); omega) only [bs, rs22, ls22, Nat.reduceAdd, ↓reduceIte, lenD_lst u26, loadD_iagg a41 z41, loadD_ptr a3, storeD_agg z41, hq]
  refine ⟨by simp, ?_⟩; exact finish_is (ds := [iv (0 : Int), bv false]) (x := .tup [.v (.int .i64 (0 : Int)), .v (.bool false)]) (y := .tup [.v (.int .i64 (0 : Int)), .v (.bool false)]) (l := []) rfl rfl rfl rfl (by first | rfl | (simp only [wk, wks, wkL]; first | done | rfl))
 | ret r8 =>
  obtain ⟨rfl, hq⟩ := hq
  obtain rfl := Option.some.inj h
  simp (maxSteps := 10000000) (implicitDefEqProofs := false) (disch := first | with_reducible assumption | exact rfl | exact im_ _ | (fail_if_success show Kn _ _); omega) only [bs, rs22, ls22, Nat.reduceAdd, ↓reduceIte, lenD_lst u26, loadD_iagg a41 z41, loadD_ptr a3, storeD_agg z41]
  exact ⟨by simp, hq⟩
theorem c22_0 {H : List Ob} {a1 : Bool} {a2 : List Pair} {a3 : Int} {r : Int × Bool} (h : match_Find a2 a3 = some r) : callD (callW Tryz.prog A0) A0 H 22 [.p (.lst a1 a2.length (encL en_Pair a2)), iv a3] = some (.p (.tup [.v (.int .i64 r.1), .v (.bool r.2)]), none) :=
 callD_fun (args := [.lst a1 a2.length (encL en_Pair a2), .v (.int .i64 a3)]) rfl rfl rfl (by simp only [List.map_cons, List.map_nil, wk, wks, wkL]; exact f22_ok a2 a3 _ h)
theorem f40_ok  (x0 : Int) (r : Bool) (h : grammar_known x0 = some r) : callW Tryz.prog A0 40 [iv x0] [] = some (.p (.v (.bool r)), []) := by
 refine call_ofI (fn := Tryz.f40) (c := bodyOf Tryz.f40) 8 rfl rfl (by kernel_rfl) (by kernel_rfl) (by kernel_rfl) ?_
 unfold grammar_known at h; unfold bodyOf Tryz.f40; simp only [ens]
 revert h
 repeat' (with_reducible refine gI (fun _ _ => ?_) (fun _ _ => ?_))
 all_goals
  intro h; obtain rfl := Option.some.inj h
  first | (simp (maxSteps := 10000000) (implicitDefEqProofs := false) (disch := first | with_reducible assumption | exact rfl | exact im_ _ | (fail_if_success show Kn _ _); omega) only [bs, rs40, Nat.reduceAdd, ↓reduceIte]; refine ⟨by simp, ?_⟩; exact fin_sc rfl rfl rfl rfl) | (exfalso; omega)
def ls23 := And.intro @faI_68_4 (And.intro @faP_25_0 (And.intro @faP_25_1 (And.intro @faP_25_3 (And.intro @idxG_69 (And.intro @varld_4_0_0 (And.intro @varld_4_0_1 (@varld_4_0_3)))))))
theorem c40_0 {H : List Ob} {a1 : Int} {r : Bool} (h : grammar_known a1 = some r) : callD (callW Tryz.prog A0) A0 H 40 [iv a1] = some (.p (.v (.bool r)), none) :=
 callD_fun (args := [.v (.int .i64 a1)]) rfl rfl rfl (by simp only [List.map_cons, List.map_nil, wk, wks, wkL]; exact f40_ok a1 _ h)
theorem f23_ok  (x0 : Node) (r : Int) (h : grammar_Own x0 = some r) : callW Tryz.prog A0 23 [.p (.agg (pv_Node x0))] [] = some (.p (.v (.int .i64 r)), []) := by
 refine call_ofI (fn := Tryz.f23) (c := bodyOf Tryz.f23) 44 rfl rfl (by kernel_rfl) (by kernel_rfl) (by kernel_rfl) ?_
 unfold grammar_Own at h; unfold bodyOf Tryz.f23; simp only [ens]
 revert h
 repeat' first | (with_reducible refine gB fun _ _ => ?_) | (with_reducible refine gW2 fun _ _ => ?_) | (with_reducible refine gT (fun _ _ => ?_) (fun _ _ => ?_)) | (with_reducible refine gI (fun _ _ => ?_) (fun _ _ => ?_))
 all_goals
  intro h; obtain rfl := Option.some.inj h
  first | (simp (maxSteps := 10000000) (implicitDefEqProofs := false) (disch := first | with_reducible assumption | exact rfl | exact im_ _ | (fail_if_success show Kn _ _); omega) only [bs, rs23, ls23, Nat.reduceAdd, ↓reduceIte, binD_eql_str, c40_0, evalO_g0, gl0_5_ok, lenD_lst u23, loadD_iptr a3, loadD_ptr a23, loadD_ptr a3, loadD_ptr a9, maxD_int]; refine ⟨by simp, ?_⟩; exact fin_sc rfl rfl rfl rfl) | (exfalso; omega)
def ls21 := And.intro @ce_51__3 (And.intro @ex_2_0 (And.intro @ex_2_1 (And.intro @faI_51_3 (And.intro @faP_25_2 (And.intro @idxL_43 (And.intro @varld_4_0_2 (@varlv_4_0_4)))))))
theorem c23_0 {H : List Ob} {a1 : Node} {r : Int} (h : grammar_Own a1 = some r) : callD (callW Tryz.prog A0) A0 H 23 [.p (.agg (pv_Node a1))] = some (.p (.v (.int .i64 r)), none) :=
 callD_fun (args := [.agg (pv_Node a1)]) rfl rfl rfl (by simp only [List.map_cons, List.map_nil, wk, wks, wkL]; exact f23_ok a1 _ h)
theorem f21_ok  (x0 : Node) (x1 : Int) (c0 : (List Pair)) (c1 : (List Row)) (r : (List ByteArray)) (h : layout_Adopt_c1 x0 x1 c0 c1 = some r) : callW Tryz.prog A0 21 [.p (.agg (pv_Node x0)), iv x1, .p (.iptr [.lst false c0.length (encL en_Pair c0)] 0), .p (.iptr [.lst false c1.length (encL en_Row c1)] 0)] [] = some (.p (.lst false r.length (encL en_str r)), []) := by
 refine call_ofI (fn := Tryz.f21) (c := bodyOf Tryz.f21) 30 rfl rfl (by kernel_rfl) (by kernel_rfl) (by kernel_rfl) ?_
 unfold layout_Adopt_c1 at h; unfold bodyOf Tryz.f21; simp only [ens]
 revert h
 repeat' first | (with_reducible refine gR fun _ _ _ _ => ?_) | (with_reducible refine gB fun _ _ => ?_) | (with_reducible refine gT (fun _ _ => ?_) (fun _ _ => ?_)) | (with_reducible refine gI (fun _ _ => ?_) (fun _ _ => ?_))
 all_goals
  intro h; obtain rfl := Option.some.inj h
  first | (simp (maxSteps := 10000000) (implicitDefEqProofs := false) (disch := first | with_reducible assumption | exact rfl | exact im_ _ | (fail_if_success show Kn _ _); omega) only [bs, rs21, ls21, Nat.reduceAdd, ↓reduceIte, c22_0, c23_0, lenD_lst u22, loadD_iptr a22, loadD_iptr a26, loadD_iptr a43, loadD_pagg a25 z25, loadD_ptr a22]; refine ⟨by simp, ?_⟩; exact finish_isH (l := []) rfl rfl rfl (by first | rfl | (simp only [wk, wks, wkL]; first | done | rfl)) (by kernel_rfl)) | (exfalso; omega)
def ls31 := And.intro @apn_22_22 (@bs_22_0)
theorem c21_0 {H : List Ob} {a1 : Node} {a2 : Int} {a3 : (List Pair)} {a4 : (List Row)} {r : (List ByteArray)} (h : layout_Adopt_c1 a1 a2 a3 a4 = some r) : callD (callW Tryz.prog A0) A0 H 21 [.p (.agg (pv_Node a1)), iv a2, .p (.iptr [.lst false a3.length (encL en_Pair a3)] 0), .p (.iptr [.lst false a4.length (encL en_Row a4)] 0)] = some (.p (.lst false r.length (encL en_str r)), none) :=
 callD_fun (args := [.agg (pv_Node a1), .v (.int .i64 a2), .iptr [.lst false a3.length (encL en_Pair a3)] 0, .iptr [.lst false a4.length (encL en_Row a4)] 0]) rfl rfl rfl (by simp only [List.map_cons, List.map_nil, wk, wks, wkL]; exact f21_ok _ _ _ _ _ h)
theorem f31_ok  (x0 : (List ByteArray)) (r : (List ByteArray)) (h : slices_Clone_string_string x0 = some r) : callW Tryz.prog A0 31 [.p (.lst false x0.length (encL en_str x0))] [] = some (.p (.lst false r.length (encL en_str r)), []) := by
 by_cases hx0 : x0 = []
 case pos => subst hx0; simp [slices_Clone_string_string] at h; subst h; exact clone_nil0 rfl rfl rfl
 refine call_ofI (fn := Tryz.f31) (c := bodyOf Tryz.f31) 7 (by cases x0 with | nil => exact absurd rfl hx0 | cons _ _ => rfl) rfl (by kernel_rfl) (by kernel_rfl) (by kernel_rfl) ?_
 unfold slices_Clone_string_string at h; unfold bodyOf Tryz.f31; simp only [ens]
 revert h
 have h1 : ∀ b n, nilD Tryz.prog .eql 22 (.p (.lst b n (encL en_str x0))) = some (bv false) := fun b n => nilD_ne u22 (encL_ne en_str_len (by decide) hx0)
 refine gW fun h3 => ?_
 have h2 : ∀ (H : List Ob), apN H x0.length 1 16 (encL en_str x0) = some (.ref H.length 0 x0.length 1, H ++ [.arr (encL en_str x0)]) := fun H => apn_enc (y := x0) en_str_len rfl rfl (by assumption)
 intro h; obtain rfl := Option.some.inj h
 simp (maxSteps := 10000000) (implicitDefEqProofs := false) (disch := first | with_reducible assumption | exact rfl | exact im_ _ | (fail_if_success show Kn _ _); omega) only [bs, rs31, ls31, Nat.reduceAdd, ↓reduceIte, binN_nil, h1, h2]
 refine ⟨by simp, ?_⟩; exact finish_is (l := [0]) rfl rfl rfl (purify1_enc en_str_len rfl (by first | rfl | omega | simp)) (by first | rfl | (simp only [wk, wks, wkL]; first | done | rfl))
def ls39 := And.intro @al_25 (And.intro @ap_23_23 (And.intro @bs_23_1 (And.intro @bu_25_0_1_2 (And.intro @faP_25_0 (And.intro @faP_25_1 (And.intro @faP_25_3 (And.intro @idxL_23 (And.intro @lk_frz_25 (And.intro @sa_4_0_4 (And.intro @sg_4_0_3_r (And.intro @sg_4_0_pppr (And.intro @sv_1_0_1 (And.intro @varld_1_0 (And.intro @varld_4_0_0 (And.intro @varld_4_0_1 (And.intro @varld_4_0_3 (And.intro @varlg_pppr (@varlv_4_0_4))))))))))))))))))
theorem c31_0 {H : List Ob} {a1 : Bool} {a2 : List ByteArray} {r : (List ByteArray)} (h : slices_Clone_string_string a2 = some r) : callD (callW Tryz.prog A0) A0 H 31 [.p (.lst a1 a2.length (encL en_str a2))] = some (.p (.lst false r.length (encL en_str r)), none) :=
 callD_fun (args := [.lst a1 a2.length (encL en_str a2)]) rfl rfl rfl (by simp only [List.map_cons, List.map_nil, wk, wks, wkL]; exact f31_ok a2 _ h)
theorem q39_0 {rec : Node → Int → (List Pair) → (List Row) → Option (Node × Int)} (hrec : ∀ x0 o0 o110 o111 r, rec x0 o0 o110 o111 = some r → callW Tryz.prog A0 39 [.p (.agg (pv_Node x0)), .ptr 0 0, .ptr 1 0, .ptr 2 0] [.var [iv o0], .var [.p (.fn (.func 21) [.iptr [.lst false o110.length (encL en_Pair o110)] 0, .iptr [.lst false o111.length (encL en_Row o111)] 0])], .var [.fn (.func 39) [.ptr 0 0, .ptr 1 0, .ptr 2 0]]] = some (.p (.agg (pv_Node r.1)), [.var [iv r.2], .var [.p (.fn (.func 21) [.iptr [.lst false o110.length (encL en_Pair o110)] 0, .iptr [.lst false o111.length (encL en_Row o111)] 0])], .var [.fn (.func 39) [.ptr 0 0, .ptr 1 0, .ptr 2 0]]])) {a1 : Int} {a2 : (List Pair)} {a3 : (List Row)} {a4 : Node} {r9001 : (Node × Int)} {X3 X4 X5 X6 : Ob} (h9002 : rec a4 a1 a2 a3 = some r9001) : callD (callW Tryz.prog A0) A0 [.var [iv a1], .var [.p (.fn (.func 21) [.iptr [.lst false a2.length (encL en_Pair a2)] 0, .iptr [.lst false a3.length (encL en_Row a3)] 0])], .var [.fn (.func 39) [.ptr 0 0, .ptr 1 0, .ptr 2 0]], X3, X4, X5, X6] 39 [.p (.agg (pv_Node a4)), .ptr 0 0, .ptr 1 0, .ptr 2 0] = some (.p (.agg (pv_Node r9001.1)), some [.var [iv r9001.2], .var [.p (.fn (.func 21) [.iptr [.lst false a2.length (encL en_Pair a2)] 0, .iptr [.lst false a3.length (encL en_Row a3)] 0])], .var [.fn (.func 39) [.ptr 0 0, .ptr 1 0, .ptr 2 0]], X3, X4, X5, X6]) := (callD_put (dsw := [.p (.agg (pv_Node a4)), .ptr 0 0, .ptr 1 0, .ptr 2 0]) (ds' := [.p (.agg (pv_Node a4)), .ptr 0 0, .ptr 1 0, .ptr 2 0]) (i := 0) (ids := [1, 2]) (o := .var [iv a1]) (os := [.var [.p (.fn (.func 21) [.iptr [.lst false a2.length (encL en_Pair a2)] 0, .iptr [.lst false a3.length (encL en_Row a3)] 0])], .var [.fn (.func 39) [.ptr 0 0, .ptr 1 0, .ptr 2 0]]]) (o' := .var [iv r9001.2]) (os' := [.var [.p (.fn (.func 21) [.iptr [.lst false a2.length (encL en_Pair a2)] 0, .iptr [.lst false a3.length (encL en_Row a3)] 0])], .var [.fn (.func 39) [.ptr 0 0, .ptr 1 0, .ptr 2 0]]]) rfl (by simp only [List.map_cons, List.map_nil, wkDv, wk, wks, wkL]) (by kernel_rfl) (by kernel_rfl) (by kernel_rfl) (by kernel_rfl) (hrec _ _ _ _ _ h9002) rfl rfl).trans (by kernel_rfl)
noncomputable def L39_0 : Code := (loopsOf (bodyOf Tryz.f39)).getD 0 .skip
def g39_0 : List Ghost := [.ownC 6 3 4, .weak [22], .keep [3, 5, 6, 22, 23, 24]]
noncomputable def F39_0 (s22 : (List Node)) (s23 : Int) (f1_0_0 : (List Pair)) (f1_0_1 : (List Row)) (w3_0 : Int) (w3_1 : ByteArray) (w4_0 : Int) (w4_1 : ByteArray) (w4_2 : (List ByteArray)) : (Int × Int × (List Node)) → St := fun (s24, w0_0, y5) => ⟨[J, J, J, .ptr 2 0, J, .ptr 3 0, .ptr 4 0, J, J, J, J, J, J, J, J, J, J, J, J, J, J, J, .p (.lst false s22.length (encL en_Node s22)), iv s23, iv s24, J, J, J, J, J, J, J, J, J, J, J, J, J], [.var [iv w0_0], .var [.p (.fn (.func 21) [.iptr [.lst false f1_0_0.length (encL en_Pair f1_0_0)] 0, .iptr [.lst false f1_0_1.length (encL en_Row f1_0_1)] 0])], .var [.fn (.func 39) [.ptr 0 0, .ptr 1 0, .ptr 2 0]], .var [iv w3_0, .p (.v (.string w3_1)), .p (.lst true 0 []), .p (.lst true 0 [])], .var [iv w4_0, .p (.v (.string w4_1)), .p (.lst false w4_2.length (encL en_str w4_2)), .ref 5 0 y5.length 4], .arr (encL en_Node y5)], 3⟩
theorem L39_0_ok {rec : Node → Int → (List Pair) → (List Row) → Option (Node × Int)} (hrec : ∀ x0 o0 o110 o111 r, rec x0 o0 o110 o111 = some r → callW Tryz.prog A0 39 [.p (.agg (pv_Node x0)), .ptr 0 0, .ptr 1 0, .ptr 2 0] [.var [iv o0], .var [.p (.fn (.func 21) [.iptr [.lst false o110.length (encL en_Pair o110)] 0, .iptr [.lst false o111.length (encL en_Row o111)] 0])], .var [.fn (.func 39) [.ptr 0 0, .ptr 1 0, .ptr 2 0]]] = some (.p (.agg (pv_Node r.1)), [.var [iv r.2], .var [.p (.fn (.func 21) [.iptr [.lst false o110.length (encL en_Pair o110)] 0, .iptr [.lst false o111.length (encL en_Row o111)] 0])], .var [.fn (.func 39) [.ptr 0 0, .ptr 1 0, .ptr 2 0]]])) (s22 : (List Node)) (s23 : Int) (f1_0_0 : (List Pair)) (f1_0_1 : (List Row)) (w3_0 : Int) (w3_1 : ByteArray) (w4_0 : Int) (w4_1 : ByteArray) (w4_2 : (List ByteArray)) : ∀ s st o, ghostsD g39_0 st = some (F39_0 s22 s23 f1_0_0 f1_0_1 w3_0 w3_1 w4_0 w4_1 w4_2 s) → iter (layout_mapped_c1_L0 rec s22 s23 f1_0_0 f1_0_1 w3_0 w3_1 w4_0 w4_1 w4_2) s = some o →
    Wp (evW Tryz.prog A0 39 (.loop L39_0) st) (OutQ (F39_0 s22 s23 f1_0_0 f1_0_1 w3_0 w3_1 w4_0 w4_1 w4_2) g39_0 (fun n s st => n = 0 ∧ ghostsD [.keep [3, 5, 6, 22, 23, 24]] st = some (F39_0 s22 s23 f1_0_0 f1_0_1 w3_0 w3_1 w4_0 w4_1 w4_2 s)) (fun r st => finishD Tryz.prog A0 39 Tryz.f39 st = some (.p (.agg (pv_Node r.1)), [.var [iv r.2], .var [.p (.fn (.func 21) [.iptr [.lst false f1_0_0.length (encL en_Pair f1_0_0)] 0, .iptr [.lst false f1_0_1.length (encL en_Row f1_0_1)] 0])], .var [.fn (.func 39) [.ptr 0 0, .ptr 1 0, .ptr 2 0]]])) o) := by
 refine Wp.iter ?_
 intro s st o hg h
 obtain ⟨s24, w0_0, y5⟩ := s
 unfold layout_mapped_c1_L0 at h; unfold g39_0 F39_0 at hg ⊢
 (try simp only [] at h hg)
 unfold L39_0 bodyOf Tryz.f39; simp only [loopsOf, ens]
 revert h
 refine gI (fun h7 _ => ?_) (fun h7 _ => ?_)
 ·refine gR fun v8 h9 h9a h9b => ?_
  refine gB fun r11 h12 => ?_
  refine gW fun h15 => ?_
  have h14 : ∀ (H : List Ob) (id : Nat), apOb H id 0 y5.length 1 4 4 72 [.v (.int .i64 r11.1.Kind), .v (.string r11.1.Text), .lst false r11.1.Gaps.length (encL en_str r11.1.Gaps), .lst false r11.1.Kids.length (encL en_Node r11.1.Kids)] (some (.arr (encL en_Node y5))) = some (.ref H.length 0 (y5 ++ [r11.1]).length 4, H.set id .dead ++ [.arr (encL en_Node (y5 ++ [r11.1]))]) := fun H id => ap_enc (y := [r11.1]) en_Node_len (by first | rfl | omega) rfl (by first | (simp only [encL_cons, encL_nil, en_Node_eq, List.cons_append, List.nil_append]; done) | (simp only [encL_cons, encL_nil, en_Node_eq, List.cons_append, List.nil_append]; rfl) | rfl) (by assumption)
  intro h; obtain rfl := Option.some.inj h
  simp (maxSteps := 10000000) (implicitDefEqProofs := false) (disch := first | with_reducible assumption | exact rfl | exact im_ _ | (refine dynT ?_; kernel_rfl) | (refine clearT ?_; kernel_rfl) | (fail_if_success show Kn _ _); omega) only [bs, rs39, ls39, Nat.reduceAdd, ↓reduceIte, c21_0, c31_0, lenD_lst u23, loadD_iagg a25 z25, loadD_pagg a25 z25, loadD_ptr a23, loadD_ptr a3, loadD_ptr a35, loadD_ptr a53, loadD_ptr a9, q39_0 hrec, storeD_agg z25, storeD_gagg z25, storeD_gref z23, storeD_int z3, wksL_en_Node, wksL_en_str, wks_nil_, hg, h14]
  exact ⟨(rfl : Ex.normal = Ex.normal), by kernel_rfl⟩
 ·intro h; obtain rfl := Option.some.inj h
  simp (maxSteps := 10000000) (implicitDefEqProofs := false) (disch := first | with_reducible assumption | exact rfl | exact im_ _ | (refine dynT ?_; kernel_rfl) | (refine clearT ?_; kernel_rfl) | (fail_if_success show Kn _ _); omega) only [bs, rs39, ls39, Nat.reduceAdd, ↓reduceIte, c21_0, c31_0, lenD_lst u23, loadD_iagg a25 z25, loadD_pagg a25 z25, loadD_ptr a23, loadD_ptr a3, loadD_ptr a35, loadD_ptr a53, loadD_ptr a9, q39_0 hrec, storeD_agg z25, storeD_gagg z25, storeD_gref z23, storeD_int z3, wksL_en_Node, wksL_en_str, wks_nil_, hg]
  exact ⟨(rfl : Ex.exit 0 = Ex.exit 0), rfl, by kernel_rfl⟩
theorem f39_ok {rec : Node → Int → (List Pair) → (List Row) → Option (Node × Int)} (hrec : ∀ x0 o0 o110 o111 r, rec x0 o0 o110 o111 = some r → callW Tryz.prog A0 39 [.p (.agg (pv_Node x0)), .ptr 0 0, .ptr 1 0, .ptr 2 0] [.var [iv o0], .var [.p (.fn (.func 21) [.iptr [.lst false o110.length (encL en_Pair o110)] 0, .iptr [.lst false o111.length (encL en_Row o111)] 0])], .var [.fn (.func 39) [.ptr 0 0, .ptr 1 0, .ptr 2 0]]] = some (.p (.agg (pv_Node r.1)), [.var [iv r.2], .var [.p (.fn (.func 21) [.iptr [.lst false o110.length (encL en_Pair o110)] 0, .iptr [.lst false o111.length (encL en_Row o111)] 0])], .var [.fn (.func 39) [.ptr 0 0, .ptr 1 0, .ptr 2 0]]]))  (x0 : Node) (o0 : Int) (o110 : (List Pair)) (o111 : (List Row)) (r : (Node × Int)) (h : layout_mapped_c1.body rec x0 o0 o110 o111 = some r) : callW Tryz.prog A0 39 [.p (.agg (pv_Node x0)), .ptr 0 0, .ptr 1 0, .ptr 2 0] [.var [iv o0], .var [.p (.fn (.func 21) [.iptr [.lst false o110.length (encL en_Pair o110)] 0, .iptr [.lst false o111.length (encL en_Row o111)] 0])], .var [.fn (.func 39) [.ptr 0 0, .ptr 1 0, .ptr 2 0]]] = some (.p (.agg (pv_Node r.1)), [.var [iv r.2], .var [.p (.fn (.func 21) [.iptr [.lst false o110.length (encL en_Pair o110)] 0, .iptr [.lst false o111.length (encL en_Row o111)] 0])], .var [.fn (.func 39) [.ptr 0 0, .ptr 1 0, .ptr 2 0]]]) := by
 refine call_ofI (fn := Tryz.f39) (c := bodyOf Tryz.f39) 34 rfl rfl (by kernel_rfl) (by kernel_rfl) (by kernel_rfl) ?_
 unfold layout_mapped_c1.body at h; unfold bodyOf Tryz.f39; simp only [ens]
 revert h
 refine gB fun r1 h2 => ?_
 refine gB fun r4 h5 => ?_
 refine gB fun o h16 => ?_
 intro h
 simp (maxSteps := 10000000) (implicitDefEqProofs := false) (disch := first | with_reducible assumption | exact rfl | exact im_ _ | (refine dynT ?_; kernel_rfl) | (refine clearT ?_; kernel_rfl) | (fail_if_success show Kn _ _); omega) only [bs, rs39, ls39, Nat.reduceAdd, ↓reduceIte, c21_0, c31_0, lenD_lst u23, loadD_iagg a25 z25, loadD_pagg a25 z25, loadD_ptr a23, loadD_ptr a3, loadD_ptr a35, loadD_ptr a53, loadD_ptr a9, q39_0 hrec, storeD_agg z25, storeD_gagg z25, storeD_gref z23, storeD_int z3, wksL_en_Node, wksL_en_str, wks_nil_]
 refine Wp.ctx (fun x => seqW _ _ _ _ (blockW _ (x))) (L39_0_ok hrec x0.Kids (x0.Kids.length : Int) o110 o111 (0 : Int) ByteArray.empty x0.Kind x0.Text r4 ((0 : Int), w64 (o0 + (1 : Int)), ([] : List Node)) _ o (by kernel_rfl) h16) ?_
 intro e st hq
 cases o with
 | next _ => (first | cases h | (simp at h))
 | jmp n_ s_ =>
  obtain ⟨rfl, rfl, hq⟩ := hq
  obtain ⟨s24_17, w0_0_17, y5_17⟩ := s_
  unfold F39_0 at hq
  (try simp only [] at h hq)
  revert h
  intro h; obtain rfl := Option.some.inj h
  simp (maxSteps := 10000000) (implicitDefEqProofs := false) (disch := first | with_reducible assumption | exact rfl | exact im_ _ | (refine dynT ?_; kernel_rfl) | (refine clearT ?_; kernel_rfl) | (fail_if_success show Kn _ _); omega) only [bs, rs39, ls39, Nat.reduceAdd, ↓reduceIte, c21_0, c31_0, lenD_lst u23, loadD_iagg a25 z25, loadD_pagg a25 z25, loadD_ptr a23, loadD_ptr a3, loadD_ptr a35, loadD_ptr a53, loadD_ptr a9, q39_0 hrec, storeD_agg z25, storeD_gagg z25, storeD_gref z23, storeD_int z3, wksL_en_Node, wksL_en_str, wks_nil_, hq]
  refine ⟨by simp, ?_⟩; exact finish_isH (ds := [.agg [iv x0.Kind, .p (.v (.string x0.Text)), .p (.lst false r4.length (encL en_str r4)), .ref 5 0 y5_17.length 4]]) (x := .agg [.v (.int .i64 x0.Kind), .v (.string x0.Text), .lst false r4.length (encL en_str r4), .lst false y5_17.length (encL en_Node y5_17)]) (y := .agg [.v (.int .i64 x0.Kind), .v (.string x0.Text), .lst false r4.length (encL en_str r4), .lst false y5_17.length (encL en_Node y5_17)]) (l := [5]) rfl (by kernel_rfl) (purify1_agg (purifys_pc (purifys_pc (purifys_pc (purifys_rc en_Node_len rfl (by first | rfl | omega | simp) purifys_nil))))) (by first | rfl | (simp only [wk, wks, wkL]; first | done | rfl)) (by kernel_rfl)
 | ret _ => (first | cases h | (simp at h))
theorem f39_spec : ∀ (x0 : Node) (o0 : Int) (o110 : (List Pair)) (o111 : (List Row)) r, mappedS x0 o0 o110 o111 = some r → callW Tryz.prog A0 39 [.p (.agg (pv_Node x0)), .ptr 0 0, .ptr 1 0, .ptr 2 0] [.var [iv o0], .var [.p (.fn (.func 21) [.iptr [.lst false o110.length (encL en_Pair o110)] 0, .iptr [.lst false o111.length (encL en_Row o111)] 0])], .var [.fn (.func 39) [.ptr 0 0, .ptr 1 0, .ptr 2 0]]] = some (.p (.agg (pv_Node r.1)), [.var [iv r.2], .var [.p (.fn (.func 21) [.iptr [.lst false o110.length (encL en_Pair o110)] 0, .iptr [.lst false o111.length (encL en_Row o111)] 0])], .var [.fn (.func 39) [.ptr 0 0, .ptr 1 0, .ptr 2 0]]]) := by
 have key : ∀ n (x0 : Node) (o0 : Int) (o110 : (List Pair)) (o111 : (List Row)) r, mappedS_mu x0 o0 o110 o111 < n → mappedS x0 o0 o110 o111 = some r → callW Tryz.prog A0 39 [.p (.agg (pv_Node x0)), .ptr 0 0, .ptr 1 0, .ptr 2 0] [.var [iv o0], .var [.p (.fn (.func 21) [.iptr [.lst false o110.length (encL en_Pair o110)] 0, .iptr [.lst false o111.length (encL en_Row o111)] 0])], .var [.fn (.func 39) [.ptr 0 0, .ptr 1 0, .ptr 2 0]]] = some (.p (.agg (pv_Node r.1)), [.var [iv r.2], .var [.p (.fn (.func 21) [.iptr [.lst false o110.length (encL en_Pair o110)] 0, .iptr [.lst false o111.length (encL en_Row o111)] 0])], .var [.fn (.func 39) [.ptr 0 0, .ptr 1 0, .ptr 2 0]]]) := by
  intro n
  induction n with
  | zero => intro x0 o0 o110 o111 r h; omega
  | succ n ih =>
   intro x0 o0 o110 o111 r hn h
   refine f39_ok (rec := fun x0' o0' o110' o111' => if mappedS_mu x0' o0' o110' o111' < mappedS_mu x0 o0 o110 o111 then mappedS x0' o0' o110' o111' else none) ?_ x0 o0 o110 o111 r (mappedS_body x0 o0 o110 o111 r h)
   intro x0' o0' o110' o111' r' h'
   by_cases hm : mappedS_mu x0' o0' o110' o111' < mappedS_mu x0 o0 o110 o111
   ·rw [if_pos hm] at h'; exact ih x0' o0' o110' o111' r' (by omega) h'
   ·rw [if_neg hm] at h'; cases h'
 intro x0 o0 o110 o111 r h
 exact key _ x0 o0 o110 o111 r (Nat.lt_succ_self _) h
def ls20_21 := And.intro @al_25 (And.intro @al_3 (And.intro @al_35 (And.intro @sa_4_0_4 (And.intro @sg_1_0_f (And.intro @sv_1_0_1 (And.intro @varld_1_0 (@varlv_4_0_4)))))))
theorem q39_1 {a1 : (List Pair)} {a2 : (List Row)} {a3 : Int} {a4 : Node} {r9001 : (Node × Int)} {X0 X2 : Ob} (h9002 : mappedS a4 a3 a1 a2 = some r9001) : callD (callW Tryz.prog A0) A0 [X0, .var [.p (.fn (.func 21) [.iptr [.lst false a1.length (encL en_Pair a1)] 0, .iptr [.lst false a2.length (encL en_Row a2)] 0])], X2, .var [iv a3], .var [.fn (.func 39) [.ptr 3 0, .ptr 1 0, .ptr 4 0]]] 39 [.p (.agg (pv_Node a4)), .ptr 3 0, .ptr 1 0, .ptr 4 0] = some (.p (.agg (pv_Node r9001.1)), some [X0, .var [.p (.fn (.func 21) [.iptr [.lst false a1.length (encL en_Pair a1)] 0, .iptr [.lst false a2.length (encL en_Row a2)] 0])], X2, .var [iv r9001.2], .var [.fn (.func 39) [.ptr 3 0, .ptr 1 0, .ptr 4 0]]]) := (callD_put (dsw := [.p (.agg (pv_Node a4)), .ptr 3 0, .ptr 1 0, .ptr 4 0]) (ds' := [.p (.agg (pv_Node a4)), .ptr 0 0, .ptr 1 0, .ptr 2 0]) (i := 3) (ids := [1, 4]) (o := .var [iv a3]) (os := [.var [.p (.fn (.func 21) [.iptr [.lst false a1.length (encL en_Pair a1)] 0, .iptr [.lst false a2.length (encL en_Row a2)] 0])], .var [.fn (.func 39) [.ptr 0 0, .ptr 1 0, .ptr 2 0]]]) (o' := .var [iv r9001.2]) (os' := [.var [.p (.fn (.func 21) [.iptr [.lst false a1.length (encL en_Pair a1)] 0, .iptr [.lst false a2.length (encL en_Row a2)] 0])], .var [.fn (.func 39) [.ptr 0 0, .ptr 1 0, .ptr 2 0]]]) rfl (by simp only [List.map_cons, List.map_nil, wkDv, wk, wks, wkL]) (by kernel_rfl) (by kernel_rfl) (by kernel_rfl) (by kernel_rfl) (f39_spec _ _ _ _ _ h9002) rfl rfl).trans (by kernel_rfl)
theorem f20_21_ok  (c1_0 : (List Pair)) (c1_1 : (List Row)) (x0 : Node) (r : Node) (h : layout_mapped (fun y0_ y1_ => layout_Adopt_c1 y0_ y1_ c1_0 c1_1) c1_0 c1_1 x0 = some r) : callW Tryz.prog A0 20 [.p (.agg (pv_Node x0)), .p (.fn (.func 21) [.iptr [.lst false c1_0.length (encL en_Pair c1_0)] 0, .iptr [.lst false c1_1.length (encL en_Row c1_1)] 0])] [] = some (.p (.agg (pv_Node r)), []) := by
 refine call_ofI (fn := Tryz.f20) (c := bodyOf Tryz.f20) 9 rfl rfl (by kernel_rfl) (by kernel_rfl) (by kernel_rfl) ?_
 unfold layout_mapped at h; unfold bodyOf Tryz.f20; simp only [ens]
 revert h
 refine gB fun r1 h2 => ?_
 intro h; obtain rfl := Option.some.inj h
 simp (maxSteps := 10000000) (implicitDefEqProofs := false) (disch := first | with_reducible assumption | exact rfl | exact im_ _ | (fail_if_success show Kn _ _); omega) only [bs, rs20, ls20_21, Nat.reduceAdd, ↓reduceIte, allP, boxD_fn, loadD_pagg a25 z25, loadD_ptr a35, mkFn, ops_makeFunc_, q39_1, storeD_agg z25, storeD_gfn z35, storeD_int z3]
 refine ⟨by simp, ?_⟩; exact finish_isH (ds := [.p (.agg (pv_Node r1.1))]) (x := .agg (pv_Node r1.1)) (y := .agg [.v (.int .i64 r1.1.Kind), .v (.string r1.1.Text), .lst false r1.1.Gaps.length (encL en_str r1.1.Gaps), .lst false r1.1.Kids.length (encL en_Node r1.1.Kids)]) (l := []) rfl (by kernel_rfl) rfl (by first | rfl | (simp only [wk, wks, wkL]; first | done | rfl)) (by kernel_rfl)
def ls6 := And.intro @al_25 (And.intro @al_26 (And.intro @al_43 (And.intro @bu_25_ (And.intro @sa_4_0_4 (And.intro @sv_1_0_1 (@varlv_4_0_4))))))
theorem c20_0 {H : List Ob} {a1 : Node} {a2 : (List Pair)} {a3 : (List Row)} {r : Node} (h : layout_mapped (fun y0_ y1_ => layout_Adopt_c1 y0_ y1_ a2 a3) a2 a3 a1 = some r) : callD (callW Tryz.prog A0) A0 H 20 [.p (.agg (pv_Node a1)), .p (.fn (.func 21) [.iptr [.lst false a2.length (encL en_Pair a2)] 0, .iptr [.lst false a3.length (encL en_Row a3)] 0])] = some (.p (.agg (pv_Node r)), none) :=
 callD_fun (args := [.agg (pv_Node a1), .fn (.func 21) [.iptr [.lst false a2.length (encL en_Pair a2)] 0, .iptr [.lst false a3.length (encL en_Row a3)] 0]]) rfl rfl rfl (by simp only [List.map_cons, List.map_nil, wk, wks, wkL]; exact f20_21_ok _ _ _ _ h)
theorem f6_ok  (x0 : Node) (x1 : Node) (x2 : (List Pair)) (r : (Node × Int)) (h : layout_Adopt x0 x1 x2 = some r) : callW Tryz.prog A0 6 [.p (.agg (pv_Node x0)), .p (.agg (pv_Node x1)), .p (.lst false x2.length (encL en_Pair x2))] [] = some (.p (.tup [.agg (pv_Node r.1), .v (.int .i64 r.2)]), []) := by
 refine call_ofI (fn := Tryz.f6) (c := bodyOf Tryz.f6) 23 rfl rfl (by kernel_rfl) (by kernel_rfl) (by kernel_rfl) ?_
 unfold layout_Adopt at h; unfold bodyOf Tryz.f6; simp only [ens]
 revert h
 refine gB fun r1 h2 => ?_
 refine gI (fun h4 _ => ?_) (fun h4 _ => ?_)
 ·refine gB fun r5 h6 => ?_
  refine gB fun r8 h9 => ?_
  intro h
  simp (maxSteps := 10000000) (implicitDefEqProofs := false) (disch := first | with_reducible assumption | exact rfl | exact im_ _ | (fail_if_success show Kn _ _); omega) only [bs, rs6, ls6, Nat.reduceAdd, ↓reduceIte, allP, c17_0, c18_0, c19_0, c20_0, loadD_pagg a25 z25, mkFn, ops_makeFunc_, storeD_agg z25, storeD_lst z26, storeD_lst z43]
  refine Wp.gh (fun x => seqW _ _ _ _ (regW _ _ _ _ _ x)) ⟨[J, J, J, .ptr 0 0, J, J, .ptr 1 0, J, J, .p (.iptr [.lst false r5.length (encL en_Row r5)] 0), .p (.iptr [.lst false r8.length (encL en_Pair r8)] 0), J, J, J, J, J, J, J, J, J, J, J, J, J, J, J], [.var [iv x0.Kind, .p (.v (.string x0.Text)), .p (.lst false x0.Gaps.length (encL en_str x0.Gaps)), .p (.lst false x0.Kids.length (encL en_Node x0.Kids))], .var [iv (0 : Int), .p (.v (.string ByteArray.empty)), .p (.lst true 0 []), .p (.lst true 0 [])]], 0⟩ (by kernel_rfl) ?_
  revert h
  refine gB fun r11 h12 => ?_
  intro h; obtain rfl := Option.some.inj h
  simp (maxSteps := 10000000) (implicitDefEqProofs := false) (disch := first | with_reducible assumption | exact rfl | exact im_ _ | (fail_if_success show Kn _ _); omega) only [bs, rs6, ls6, Nat.reduceAdd, ↓reduceIte, allP, c17_0, c18_0, c19_0, c20_0, loadD_pagg a25 z25, mkFn, ops_makeFunc_, storeD_agg z25, storeD_lst z26, storeD_lst z43]
  refine ⟨by simp, ?_⟩; exact finish_is (ds := [.p (.agg (pv_Node r11)), iv (0 : Int)]) (x := .tup [.agg (pv_Node r11), .v (.int .i64 (0 : Int))]) (y := .tup [.agg [.v (.int .i64 r11.Kind), .v (.string r11.Text), .lst false r11.Gaps.length (encL en_str r11.Gaps), .lst false r11.Kids.length (encL en_Node r11.Kids)], .v (.int .i64 (0 : Int))]) (l := []) rfl rfl (by kernel_rfl) rfl (by first | rfl | (simp only [wk, wks, wkL]; first | done | rfl))
 ·intro h; obtain rfl := Option.some.inj h
  simp (maxSteps := 10000000) (implicitDefEqProofs := false) (disch := first | with_reducible assumption | exact rfl | exact im_ _ | (fail_if_success show Kn _ _); omega) only [bs, rs6, ls6, Nat.reduceAdd, ↓reduceIte, allP, c17_0, c18_0, c19_0, c20_0, loadD_pagg a25 z25, mkFn, ops_makeFunc_, storeD_agg z25, storeD_lst z26, storeD_lst z43]
  refine ⟨by simp, ?_⟩; exact finish_is (ds := [.p (.agg [.v (.int .i64 (0 : Int)), .v (.string ByteArray.empty), .lst true 0 [], .lst true 0 []]), iv r1]) (x := .tup [.agg [.v (.int .i64 (0 : Int)), .v (.string ByteArray.empty), .lst true 0 [], .lst true 0 []], .v (.int .i64 r1)]) (y := .tup [.agg [.v (.int .i64 (0 : Int)), .v (.string ByteArray.empty), .lst false ([] : List ByteArray).length (encL en_str ([] : List ByteArray)), .lst false ([] : List Node).length (encL en_Node ([] : List Node))], .v (.int .i64 r1)]) (l := []) rfl rfl (by kernel_rfl) rfl (by first | rfl | (simp only [wk, wks, wkL]; first | done | rfl))
def ls41 := And.intro @ap_43_43 (And.intro @ap_49_49 (And.intro @bs_43_1 (And.intro @bs_49_1 (And.intro @bu_51_0_1_2_3 (And.intro @faP_25_0 (And.intro @faP_25_1 (And.intro @faP_25_2 (And.intro @faP_25_3 (And.intro @faP_51_4 (And.intro @idxL_23 (And.intro @idxR_43 (And.intro @lk_frz_25 (And.intro @varld_4_0_0 (And.intro @varld_4_0_1 (And.intro @varld_4_0_2 (@varld_4_0_3))))))))))))))))
theorem R06_rows_rcall {rec : (List Row) → Node → Int → Option (List Row)} (hrec : ∀ x0 x1 x2 r, rec x0 x1 x2 = some r → callW Tryz.prog A0 41 [.ref 0 0 x0.length 5, .p (.agg (pv_Node x1)), iv x2] [.arr (encL en_Row x0)] = some (.ref 1 0 r.length 5, [.dead, .arr (encL en_Row r)])) {H : List Ob} {id n : Nat} {b1 b2 : Bool} {x0 : (List Row)} {x1 : Node} {x2 : Int} {r : (List Row)} : H[id]? = some (.arr (encL en_Row x0)) → n = x0.length → ∀ (h : rec x0 x1 x2 = some r), callD (callW Tryz.prog A0) A0 H 41 [.ref id 0 n 5, .p (.agg [.v (.int .i64 x1.Kind), .v (.string x1.Text), .lst b1 x1.Gaps.length (encL en_str x1.Gaps), .lst b2 x1.Kids.length (encL en_Node x1.Kids)]), iv x2] = some (.ref H.length 0 r.length 5, some (H.set id .dead ++ [.arr (encL en_Row r)])) := by
 intro hid hn h; subst hn; exact callD_mut1 (args := [.agg (pv_Node x1), .v (.int .i64 x2)]) (by simp only [List.map_cons, List.map_nil, wkDv, wk, wks, wkL]) rfl hid (hrec x0 x1 x2 _ h)
theorem c6_0 {H : List Ob} {a1 a2 : Node} {a3 : Bool} {a4 : List Pair} {r : Node × Int} (h : layout_Adopt a1 a2 a4 = some r) : callD (callW Tryz.prog A0) A0 H 6 [.p (.agg (pv_Node a1)), .p (.agg (pv_Node a2)), .p (.lst a3 a4.length (encL en_Pair a4))] = some (.p (.tup [.agg (pv_Node r.1), .v (.int .i64 r.2)]), none) :=
 callD_fun (args := [.agg (pv_Node a1), .agg (pv_Node a2), .lst a3 a4.length (encL en_Pair a4)]) rfl rfl rfl (by simp only [List.map_cons, List.map_nil, wk, wks, wkL]; exact f6_ok a1 a2 a4 _ h)
theorem q41_0 {rec : (List Row) → Node → Int → Option (List Row)} (hrec : ∀ x0 x1 x2 r, rec x0 x1 x2 = some r → callW Tryz.prog A0 41 [.ref 0 0 x0.length 5, .p (.agg (pv_Node x1)), iv x2] [.arr (encL en_Row x0)] = some (.ref 1 0 r.length 5, [.dead, .arr (encL en_Row r)])) {a1 : List Row} {a2 : Node} {a3 : Int} {r9001 : (List Row)} {X2 X4 : Ob} (h9002 : rec a1 a2 a3 = some r9001) : callD (callW Tryz.prog A0) A0 [.dead, .arr (encL en_Row a1), X2, .dead, X4] 41 [.ref 1 0 a1.length 5, .p (.agg (pv_Node a2)), iv a3] = some (.ref 5 0 r9001.length 5, some [.dead, .dead, X2, .dead, X4, .arr (encL en_Row r9001)]) := R06_rows_rcall hrec (H := [.dead, .arr (encL en_Row a1), X2, .dead, X4]) (id := 1) rfl (by first | rfl | omega) h9002
theorem q41_1 {rec : (List Row) → Node → Int → Option (List Row)} (hrec : ∀ x0 x1 x2 r, rec x0 x1 x2 = some r → callW Tryz.prog A0 41 [.ref 0 0 x0.length 5, .p (.agg (pv_Node x1)), iv x2] [.arr (encL en_Row x0)] = some (.ref 1 0 r.length 5, [.dead, .arr (encL en_Row r)])) {a1 : List Row} {a2 : Node} {a3 : Int} {r9001 : (List Row)} {X1 X3 : Ob} (h9002 : rec a1 a2 a3 = some r9001) : callD (callW Tryz.prog A0) A0 [.arr (encL en_Row a1), X1, .dead, X3] 41 [.ref 0 0 a1.length 5, .p (.agg (pv_Node a2)), iv a3] = some (.ref 4 0 r9001.length 5, some [.dead, X1, .dead, X3, .arr (encL en_Row r9001)]) := R06_rows_rcall hrec (H := [.arr (encL en_Row a1), X1, .dead, X3]) (id := 0) rfl (by first | rfl | omega) h9002
noncomputable def L41_0 : Code := (loopsOf (bodyOf Tryz.f41)).getD 0 .skip
def g41_0 : List Ghost := [.own 8 1, .keep [0, 4, 7, 8, 9]]
noncomputable def F41_0 (s7 : Int) (w2_0 : Int) (w2_1 : ByteArray) (w2_2 : (List ByteArray)) (w2_3 : (List Node)) : (Int × (List Row) × (List Int)) → St := fun (s9, y1, y3) => ⟨[.ref 1 0 y1.length 5, J, J, J, .ptr 2 0, J, J, iv s7, .ref 3 0 y3.length 1, iv s9, J, J, J, J, J, J, J, J, J, J, J, J, J, J, J, J, J, J, J, J, J, J, J, J, J, J, J, J, J, J, J, J, J, J, J, J, J, J, J], [.dead, .arr (encL en_Row y1), .var [iv w2_0, .p (.v (.string w2_1)), .p (.lst false w2_2.length (encL en_str w2_2)), .p (.lst false w2_3.length (encL en_Node w2_3))], .arr (encL en_i64 y3)], 1⟩
theorem L41_0_ok {rec : (List Row) → Node → Int → Option (List Row)} (hrec : ∀ x0 x1 x2 r, rec x0 x1 x2 = some r → callW Tryz.prog A0 41 [.ref 0 0 x0.length 5, .p (.agg (pv_Node x1)), iv x2] [.arr (encL en_Row x0)] = some (.ref 1 0 r.length 5, [.dead, .arr (encL en_Row r)])) (s7 : Int) (w2_0 : Int) (w2_1 : ByteArray) (w2_2 : (List ByteArray)) (w2_3 : (List Node)) : ∀ s st o, ghostsD g41_0 st = some (F41_0 s7 w2_0 w2_1 w2_2 w2_3 s) → iter (R06_rows_L0 rec s7 w2_0 w2_1 w2_2 w2_3) s = some o →
    Wp (evW Tryz.prog A0 41 (.loop L41_0) st) (OutQ (F41_0 s7 w2_0 w2_1 w2_2 w2_3) g41_0 (fun n s st => n = 0 ∧ ghostsD [.keep [0, 4, 7, 8, 9]] st = some (F41_0 s7 w2_0 w2_1 w2_2 w2_3 s)) (fun r st => finishD Tryz.prog A0 41 Tryz.f41 st = some (.ref 1 0 r.length 5, [.dead, .arr (encL en_Row r)])) o) := by
 refine Wp.iter ?_
 intro s st o hg h
 obtain ⟨s9, y1, y3⟩ := s
 unfold R06_rows_L0 at h; unfold g41_0 F41_0 at hg ⊢
 (try simp only [] at h hg)
 unfold L41_0 bodyOf Tryz.f41; simp only [loopsOf, ens]
 revert h
 refine gI (fun h3 _ => ?_) (fun h3 _ => ?_)
 ·refine gW fun h5 => ?_
  have h4 : ∀ (H : List Ob) (id : Nat), apOb H id 0 y3.length 1 1 1 8 [.v (.int .i64 (y1.length : Int))] (some (.arr (encL en_i64 y3))) = some (.ref H.length 0 (y3 ++ [(y1.length : Int)]).length 1, H.set id .dead ++ [.arr (encL en_i64 (y3 ++ [(y1.length : Int)]))]) := fun H id => ap_enc (y := [(y1.length : Int)]) en_i64_len (by first | rfl | omega) rfl (by first | (simp only [encL_cons, encL_nil, en_i64_eq, List.cons_append, List.nil_append]; done) | (simp only [encL_cons, encL_nil, en_i64_eq, List.cons_append, List.nil_append]; rfl) | rfl) (by assumption)
  repeat' first | (with_reducible refine gR fun _ _ _ _ => ?_) | (with_reducible refine gB fun _ _ => ?_)
  intro h; obtain rfl := Option.some.inj h
  simp (maxSteps := 10000000) (implicitDefEqProofs := false) (disch := first | with_reducible assumption | exact rfl | exact im_ _ | (fail_if_success show Kn _ _); omega) only [bs, rs41, ls41, Nat.reduceAdd, ↓reduceIte, lenD_lst u23, lenD_ref u43, loadD_iagg a25 z25, loadD_ptr a22, loadD_ptr a23, loadD_ptr a3, loadD_ptr a9, own_ref, q41_0 hrec, wksL_en_i64, wksL_en_str, wks_nil_, hg, h4]
  exact ⟨(rfl : Ex.normal = Ex.normal), by kernel_rfl⟩
 ·intro h; obtain rfl := Option.some.inj h
  simp (maxSteps := 10000000) (implicitDefEqProofs := false) (disch := first | with_reducible assumption | exact rfl | exact im_ _ | (fail_if_success show Kn _ _); omega) only [bs, rs41, ls41, Nat.reduceAdd, ↓reduceIte, lenD_lst u23, lenD_ref u43, loadD_iagg a25 z25, loadD_ptr a22, loadD_ptr a23, loadD_ptr a3, loadD_ptr a9, own_ref, q41_0 hrec, wksL_en_i64, wksL_en_str, wks_nil_, hg]
  exact ⟨(rfl : Ex.exit 0 = Ex.exit 0), rfl, by kernel_rfl⟩
theorem f41_ok {rec : (List Row) → Node → Int → Option (List Row)} (hrec : ∀ x0 x1 x2 r, rec x0 x1 x2 = some r → callW Tryz.prog A0 41 [.ref 0 0 x0.length 5, .p (.agg (pv_Node x1)), iv x2] [.arr (encL en_Row x0)] = some (.ref 1 0 r.length 5, [.dead, .arr (encL en_Row r)]))  (x0 : (List Row)) (x1 : Node) (x2 : Int) (r : (List Row)) (h : R06_rows.body rec x0 x1 x2 = some r) : callW Tryz.prog A0 41 [.ref 0 0 x0.length 5, .p (.agg (pv_Node x1)), iv x2] [.arr (encL en_Row x0)] = some (.ref 1 0 r.length 5, [.dead, .arr (encL en_Row r)]) := by
 refine call_ofI (fn := Tryz.f41) (c := bodyOf Tryz.f41) 46 rfl rfl (by kernel_rfl) (by kernel_rfl) (by kernel_rfl) ?_
 unfold R06_rows.body at h; unfold bodyOf Tryz.f41; simp only [ens]
 revert h
 refine gW fun h2 => ?_
 have h1 : ∀ (H : List Ob) (id : Nat), apOb H id 0 x0.length 1 5 5 80 [.v (.int .i64 x2), .v (.int .i64 x1.Kind), .v (.string x1.Text), .lst false x1.Gaps.length (encL en_str x1.Gaps), .lst false 0 []] (some (.arr (encL en_Row x0))) = some (.ref H.length 0 (x0 ++ [(Row.mk x2 x1.Kind x1.Text x1.Gaps ([] : List Int))]).length 5, H.set id .dead ++ [.arr (encL en_Row (x0 ++ [(Row.mk x2 x1.Kind x1.Text x1.Gaps ([] : List Int))]))]) := fun H id => ap_enc (y := [(Row.mk x2 x1.Kind x1.Text x1.Gaps ([] : List Int))]) en_Row_len (by first | rfl | omega) rfl (by first | (simp only [encL_cons, encL_nil, en_Row_eq, List.cons_append, List.nil_append]; done) | (simp only [encL_cons, encL_nil, en_Row_eq, List.cons_append, List.nil_append]; rfl) | rfl) (by assumption)
 refine gB fun o h12 => ?_
 intro h
 simp (maxSteps := 10000000) (implicitDefEqProofs := false) (disch := first | with_reducible assumption | exact rfl | exact im_ _ | (fail_if_success show Kn _ _); omega) only [bs, rs41, ls41, Nat.reduceAdd, ↓reduceIte, lenD_lst u23, lenD_ref u43, loadD_iagg a25 z25, loadD_ptr a22, loadD_ptr a23, loadD_ptr a3, loadD_ptr a9, own_ref, q41_0 hrec, wksL_en_i64, wksL_en_str, wks_nil_, h1]
 refine Wp.ctx (fun x => seqW _ _ _ _ (blockW _ (x))) (L41_0_ok hrec (x0.length : Int) x1.Kind x1.Text x1.Gaps x1.Kids ((0 : Int), (x0 ++ [(Row.mk x2 x1.Kind x1.Text x1.Gaps ([] : List Int))]), ([] : List Int)) _ o (by kernel_rfl) h12) ?_
 intro e st hq
 cases o with
 | next _ => (first | cases h | (simp at h))
 | jmp n_ s_ =>
  obtain ⟨rfl, rfl, hq⟩ := hq
  obtain ⟨s9_13, y1_13, y3_13⟩ := s_
  unfold F41_0 at hq
  (try simp only [] at h hq)
  revert h
  refine gR fun v14 h15 h15a h15b => ?_
  have h16 : storeD Tryz.prog [.dead, .arr (encL en_Row y1_13), .var [iv x1.Kind, .p (.v (.string x1.Text)), .p (.lst false x1.Gaps.length (encL en_str x1.Gaps)), .p (.lst false x1.Kids.length (encL en_Node x1.Kids))], .arr (encL en_i64 y3_13)] 49 (.ptr 1 (ato (x0.length : Int) 5 + 4)) (.ref 3 0 y3_13.length 1) = some [.dead, .arr (encL en_Row (y1_13.set (x0.length : Int).toNat (Row.mk v14.Parent v14.Kind v14.Text v14.Gaps y3_13))), .var [iv x1.Kind, .p (.v (.string x1.Text)), .p (.lst false x1.Gaps.length (encL en_str x1.Gaps)), .p (.lst false x1.Kids.length (encL en_Node x1.Kids))], .frz (encL en_i64 y3_13)] := (storeD_row (v' := (Row.mk v14.Parent v14.Kind v14.Text v14.Gaps y3_13)) (k := 4) z49 en_Row_len en_i64_len rfl rfl rfl (by first | rfl | omega) h15 (by decide) (by rw [en_Row_eq, en_Row_eq]; rfl)).trans rfl
  have h17 : (y1_13.set (x0.length : Int).toNat (Row.mk v14.Parent v14.Kind v14.Text v14.Gaps y3_13)).length = y1_13.length := List.length_set
  intro h; obtain rfl := Option.some.inj h
  simp (maxSteps := 10000000) (implicitDefEqProofs := false) (disch := first | with_reducible assumption | exact rfl | exact im_ _ | (fail_if_success show Kn _ _); omega) only [bs, rs41, ls41, Nat.reduceAdd, ↓reduceIte, lenD_lst u23, lenD_ref u43, loadD_iagg a25 z25, loadD_ptr a22, loadD_ptr a23, loadD_ptr a3, loadD_ptr a9, own_ref, q41_0 hrec, wksL_en_i64, wksL_en_str, wks_nil_, h1, hq, h16]
  refine ⟨by simp, ?_⟩; show _ = _; simp only [List.length_set, cpL_len]; kernel_rfl
 | ret _ => (first | cases h | (simp at h))
def ls41n := And.intro @ap_43_43 (And.intro @ap_49_49 (And.intro @bs_43_1 (And.intro @bs_49_1 (And.intro @bu_51_0_1_2_3 (And.intro @faP_25_0 (And.intro @faP_25_1 (And.intro @faP_25_2 (And.intro @faP_25_3 (And.intro @faP_51_4 (And.intro @idxL_23 (And.intro @idxR_43 (And.intro @lk_frz_25 (And.intro @varld_4_0_0 (And.intro @varld_4_0_1 (And.intro @varld_4_0_2 (@varld_4_0_3))))))))))))))))
noncomputable def F41n_0 (s7 : Int) (w1_0 : Int) (w1_1 : ByteArray) (w1_2 : (List ByteArray)) (w1_3 : (List Node)) : (Int × (List Row) × (List Int)) → St := fun (s9, y0, y2) => ⟨[.ref 0 0 y0.length 5, J, J, J, .ptr 1 0, J, J, iv s7, .ref 2 0 y2.length 1, iv s9, J, J, J, J, J, J, J, J, J, J, J, J, J, J, J, J, J, J, J, J, J, J, J, J, J, J, J, J, J, J, J, J, J, J, J, J, J, J, J], [.arr (encL en_Row y0), .var [iv w1_0, .p (.v (.string w1_1)), .p (.lst false w1_2.length (encL en_str w1_2)), .p (.lst false w1_3.length (encL en_Node w1_3))], .arr (encL en_i64 y2)], 0⟩
theorem L41n_0_ok {rec : (List Row) → Node → Int → Option (List Row)} (hrec : ∀ x0 x1 x2 r, rec x0 x1 x2 = some r → callW Tryz.prog A0 41 [.ref 0 0 x0.length 5, .p (.agg (pv_Node x1)), iv x2] [.arr (encL en_Row x0)] = some (.ref 1 0 r.length 5, [.dead, .arr (encL en_Row r)])) (s7 : Int) (w1_0 : Int) (w1_1 : ByteArray) (w1_2 : (List ByteArray)) (w1_3 : (List Node)) : ∀ s st o, ghostsD g41_0 st = some (F41n_0 s7 w1_0 w1_1 w1_2 w1_3 s) → iter (R06_rows_L0 rec s7 w1_0 w1_1 w1_2 w1_3) s = some o →
    Wp (evW Tryz.prog A0 41 (.loop L41_0) st) (OutQ (F41n_0 s7 w1_0 w1_1 w1_2 w1_3) g41_0 (fun n s st => n = 0 ∧ ghostsD [.keep [0, 4, 7, 8, 9]] st = some (F41n_0 s7 w1_0 w1_1 w1_2 w1_3 s)) (fun r st => finishD Tryz.prog A0 41 Tryz.f41 st = some (.ref 0 0 r.length 5, [.arr (encL en_Row r)])) o) := by
 refine Wp.iter ?_
 intro s st o hg h
 obtain ⟨s9, y0, y2⟩ := s
 unfold R06_rows_L0 at h; unfold g41_0 F41n_0 at hg ⊢
 (try simp only [] at h hg)
 unfold L41_0 bodyOf Tryz.f41; simp only [loopsOf, ens]
 revert h
 refine gI (fun h3 _ => ?_) (fun h3 _ => ?_)
 ·refine gW fun h5 => ?_
  have h4 : ∀ (H : List Ob) (id : Nat), apOb H id 0 y2.length 1 1 1 8 [.v (.int .i64 (y0.length : Int))] (some (.arr (encL en_i64 y2))) = some (.ref H.length 0 (y2 ++ [(y0.length : Int)]).length 1, H.set id .dead ++ [.arr (encL en_i64 (y2 ++ [(y0.length : Int)]))]) := fun H id => ap_enc (y := [(y0.length : Int)]) en_i64_len (by first | rfl | omega) rfl (by first | (simp only [encL_cons, encL_nil, en_i64_eq, List.cons_append, List.nil_append]; done) | (simp only [encL_cons, encL_nil, en_i64_eq, List.cons_append, List.nil_append]; rfl) | rfl) (by assumption)
  repeat' first | (with_reducible refine gR fun _ _ _ _ => ?_) | (with_reducible refine gB fun _ _ => ?_)
  intro h; obtain rfl := Option.some.inj h
  simp (maxSteps := 10000000) (implicitDefEqProofs := false) (disch := first | with_reducible assumption | exact rfl | exact im_ _ | (fail_if_success show Kn _ _); omega) only [bs, rs41, ls41n, Nat.reduceAdd, ↓reduceIte, lenD_lst u23, lenD_ref u43, loadD_iagg a25 z25, loadD_ptr a22, loadD_ptr a23, loadD_ptr a3, loadD_ptr a9, own_ref, q41_1 hrec, wksL_en_i64, wksL_en_str, wks_nil_, hg, h4]
  exact ⟨(rfl : Ex.normal = Ex.normal), by kernel_rfl⟩
 ·intro h; obtain rfl := Option.some.inj h
  simp (maxSteps := 10000000) (implicitDefEqProofs := false) (disch := first | with_reducible assumption | exact rfl | exact im_ _ | (fail_if_success show Kn _ _); omega) only [bs, rs41, ls41n, Nat.reduceAdd, ↓reduceIte, lenD_lst u23, lenD_ref u43, loadD_iagg a25 z25, loadD_ptr a22, loadD_ptr a23, loadD_ptr a3, loadD_ptr a9, own_ref, q41_1 hrec, wksL_en_i64, wksL_en_str, wks_nil_, hg]
  exact ⟨(rfl : Ex.exit 0 = Ex.exit 0), rfl, by kernel_rfl⟩
theorem f41n_ok {rec : (List Row) → Node → Int → Option (List Row)} (hrec : ∀ x0 x1 x2 r, rec x0 x1 x2 = some r → callW Tryz.prog A0 41 [.ref 0 0 x0.length 5, .p (.agg (pv_Node x1)), iv x2] [.arr (encL en_Row x0)] = some (.ref 1 0 r.length 5, [.dead, .arr (encL en_Row r)]))  (x0 : (List Row)) (x1 : Node) (x2 : Int) (hx0 : x0 = []) (r : (List Row)) (h : R06_rows.body rec x0 x1 x2 = some r) : callW Tryz.prog A0 41 [.p (.lst true 0 []), .p (.agg (pv_Node x1)), iv x2] [] = some (.ref 0 0 r.length 5, [.arr (encL en_Row r)]) := by
 refine call_ofI (fn := Tryz.f41) (c := bodyOf Tryz.f41) 46 rfl rfl (by kernel_rfl) (by kernel_rfl) (by kernel_rfl) ?_
 unfold R06_rows.body at h; unfold bodyOf Tryz.f41; simp only [ens]
 have hown := own_nil' (en := en_Row) hx0 5
 revert h
 refine gW fun h2 => ?_
 have h1 : ∀ (H : List Ob) (id : Nat), apOb H id 0 x0.length 1 5 5 80 [.v (.int .i64 x2), .v (.int .i64 x1.Kind), .v (.string x1.Text), .lst false x1.Gaps.length (encL en_str x1.Gaps), .lst false 0 []] (some (.arr (encL en_Row x0))) = some (.ref H.length 0 (x0 ++ [(Row.mk x2 x1.Kind x1.Text x1.Gaps ([] : List Int))]).length 5, H.set id .dead ++ [.arr (encL en_Row (x0 ++ [(Row.mk x2 x1.Kind x1.Text x1.Gaps ([] : List Int))]))]) := fun H id => ap_enc (y := [(Row.mk x2 x1.Kind x1.Text x1.Gaps ([] : List Int))]) en_Row_len (by first | rfl | omega) rfl (by first | (simp only [encL_cons, encL_nil, en_Row_eq, List.cons_append, List.nil_append]; done) | (simp only [encL_cons, encL_nil, en_Row_eq, List.cons_append, List.nil_append]; rfl) | rfl) (by assumption)
 refine gB fun o h12 => ?_
 intro h
 simp (maxSteps := 10000000) (implicitDefEqProofs := false) (disch := first | with_reducible assumption | exact rfl | exact im_ _ | (fail_if_success show Kn _ _); omega) only [bs, rs41, ls41n, Nat.reduceAdd, ↓reduceIte, lenD_lst u23, lenD_ref u43, loadD_iagg a25 z25, loadD_ptr a22, loadD_ptr a23, loadD_ptr a3, loadD_ptr a9, own_ref, q41_1 hrec, wksL_en_i64, wksL_en_str, wks_nil_, hown, h1]
 refine Wp.ctx (fun x => seqW _ _ _ _ (blockW _ (x))) (L41n_0_ok hrec (x0.length : Int) x1.Kind x1.Text x1.Gaps x1.Kids ((0 : Int), (x0 ++ [(Row.mk x2 x1.Kind x1.Text x1.Gaps ([] : List Int))]), ([] : List Int)) _ o (by kernel_rfl) h12) ?_
 intro e st hq
 cases o with
 | next _ => (first | cases h | (simp at h))
 | jmp n_ s_ =>
  obtain ⟨rfl, rfl, hq⟩ := hq
  obtain ⟨s9_13, y0_13, y2_13⟩ := s_
  unfold F41n_0 at hq
  (try simp only [] at h hq)
  revert h
  refine gR fun v14 h15 h15a h15b => ?_
  have h16 : storeD Tryz.prog [.arr (encL en_Row y0_13), .var [iv x1.Kind, .p (.v (.string x1.Text)), .p (.lst false x1.Gaps.length (encL en_str x1.Gaps)), .p (.lst false x1.Kids.length (encL en_Node x1.Kids))], .arr (encL en_i64 y2_13)] 49 (.ptr 0 (ato (x0.length : Int) 5 + 4)) (.ref 2 0 y2_13.length 1) = some [.arr (encL en_Row (y0_13.set (x0.length : Int).toNat (Row.mk v14.Parent v14.Kind v14.Text v14.Gaps y2_13))), .var [iv x1.Kind, .p (.v (.string x1.Text)), .p (.lst false x1.Gaps.length (encL en_str x1.Gaps)), .p (.lst false x1.Kids.length (encL en_Node x1.Kids))], .frz (encL en_i64 y2_13)] := (storeD_row (v' := (Row.mk v14.Parent v14.Kind v14.Text v14.Gaps y2_13)) (k := 4) z49 en_Row_len en_i64_len rfl rfl rfl (by first | rfl | omega) h15 (by decide) (by rw [en_Row_eq, en_Row_eq]; rfl)).trans rfl
  have h17 : (y0_13.set (x0.length : Int).toNat (Row.mk v14.Parent v14.Kind v14.Text v14.Gaps y2_13)).length = y0_13.length := List.length_set
  intro h; obtain rfl := Option.some.inj h
  simp (maxSteps := 10000000) (implicitDefEqProofs := false) (disch := first | with_reducible assumption | exact rfl | exact im_ _ | (fail_if_success show Kn _ _); omega) only [bs, rs41, ls41n, Nat.reduceAdd, ↓reduceIte, lenD_lst u23, lenD_ref u43, loadD_iagg a25 z25, loadD_ptr a22, loadD_ptr a23, loadD_ptr a3, loadD_ptr a9, own_ref, q41_1 hrec, wksL_en_i64, wksL_en_str, wks_nil_, hown, h1, hq, h16]
  refine ⟨by simp, ?_⟩; show _ = _; simp only [List.length_set, cpL_len]; kernel_rfl
 | ret _ => (first | cases h | (simp at h))
theorem f41_spec : ∀ (x0 : (List Row)) (x1 : Node) (x2 : Int) r, R06_rowsS x0 x1 x2 = some r → callW Tryz.prog A0 41 [.ref 0 0 x0.length 5, .p (.agg (pv_Node x1)), iv x2] [.arr (encL en_Row x0)] = some (.ref 1 0 r.length 5, [.dead, .arr (encL en_Row r)]) := by
 have key : ∀ n (x0 : (List Row)) (x1 : Node) (x2 : Int) r, R06_rowsS_mu x0 x1 x2 < n → R06_rowsS x0 x1 x2 = some r → callW Tryz.prog A0 41 [.ref 0 0 x0.length 5, .p (.agg (pv_Node x1)), iv x2] [.arr (encL en_Row x0)] = some (.ref 1 0 r.length 5, [.dead, .arr (encL en_Row r)]) := by
  intro n
  induction n with
  | zero => intro x0 x1 x2 r h; omega
  | succ n ih =>
   intro x0 x1 x2 r hn h
   refine f41_ok (rec := fun x0' x1' x2' => if R06_rowsS_mu x0' x1' x2' < R06_rowsS_mu x0 x1 x2 then R06_rowsS x0' x1' x2' else none) ?_ x0 x1 x2 r (R06_rowsS_body x0 x1 x2 r h)
   intro x0' x1' x2' r' h'
   by_cases hm : R06_rowsS_mu x0' x1' x2' < R06_rowsS_mu x0 x1 x2
   ·rw [if_pos hm] at h'; exact ih x0' x1' x2' r' (by omega) h'
   ·rw [if_neg hm] at h'; cases h'
 intro x0 x1 x2 r h
 exact key _ x0 x1 x2 r (Nat.lt_succ_self _) h
theorem f41n_spec (x1 : Node) (x2 : Int) r (h : R06_rowsS ([] : List Row) x1 x2 = some r) : callW Tryz.prog A0 41 [.p (.lst true 0 []), .p (.agg (pv_Node x1)), iv x2] [] = some (.ref 0 0 r.length 5, [.arr (encL en_Row r)]) := by
 refine f41n_ok (rec := fun x0' x1' x2' => if R06_rowsS_mu x0' x1' x2' < R06_rowsS_mu ([] : List Row) x1 x2 then R06_rowsS x0' x1' x2' else none) ?_ ([] : List Row) x1 x2 rfl r (R06_rowsS_body ([] : List Row) x1 x2 r h)
 intro x0' x1' x2' r' h'
 by_cases hm : R06_rowsS_mu x0' x1' x2' < R06_rowsS_mu ([] : List Row) x1 x2
 ·rw [if_pos hm] at h'; exact f41_spec x0' x1' x2' r' h'
 ·rw [if_neg hm] at h'; cases h'
theorem R06_rows_calln {b1 b2 : Bool} {H : List Ob} {x1 : Node} {x2 : Int} {r : (List Row)} (h : R06_rowsS ([] : List Row) x1 x2 = some r) : callD (callW Tryz.prog A0) A0 H 41 [.p (.lst true 0 []), .p (.agg [.v (.int .i64 x1.Kind), .v (.string x1.Text), .lst b1 x1.Gaps.length (encL en_str x1.Gaps), .lst b2 x1.Kids.length (encL en_Node x1.Kids)]), iv x2] = some (.ref H.length 0 r.length 5, some (H ++ [.arr (encL en_Row r)])) :=
 callD_mut0 (args := [.lst true 0 [], .agg (pv_Node x1), .v (.int .i64 x2)]) (by simp only [List.map_cons, List.map_nil, wkDv, wk, wks, wkL]) rfl (f41n_spec x1 x2 _ h)
def ls24 := @varlv_4_0_4
theorem q41_2 {a1 : Node} {a2 : Int} {H : List Ob} {r9001 : (List Row)} (h9002 : R06_rowsS ([] : List Row) a1 a2 = some r9001) : callD (callW Tryz.prog A0) A0 H 41 [.p (.lst true 0 []), .p (.agg (pv_Node a1)), iv a2] = some (.ref H.length 0 r9001.length 5, some (H ++ [.arr (encL en_Row r9001)])) := R06_rows_calln (H := H) h9002
theorem f24_ok  (x0 : Node) (r : (List Row)) (h : R06_Rows x0 = some r) : callW Tryz.prog A0 24 [.p (.agg (pv_Node x0))] [] = some (.p (.lst false r.length (encL en_Row r)), []) := by
 refine call_ofI (fn := Tryz.f24) (c := bodyOf Tryz.f24) 6 rfl rfl (by kernel_rfl) (by kernel_rfl) (by kernel_rfl) ?_
 unfold R06_Rows at h; unfold bodyOf Tryz.f24; simp only [ens]
 revert h
 repeat' (with_reducible refine gB fun _ _ => ?_)
 intro h; obtain rfl := Option.some.inj h
 simp (maxSteps := 10000000) (implicitDefEqProofs := false) (disch := first | with_reducible assumption | exact rfl | exact im_ _ | (fail_if_success show Kn _ _); omega) only [bs, rs24, ls24, Nat.reduceAdd, ↓reduceIte, loadD_pagg a25 z25, q41_2]
 refine ⟨by simp, ?_⟩; exact finish_is (l := [1]) rfl rfl rfl (purify1_enc en_Row_len rfl (by first | rfl | omega | simp)) (by first | rfl | (simp only [wk, wks, wkL]; first | done | rfl))
def ls25 := And.intro @ce_41__1 (And.intro @faI_41_1 (@idxL_26))
theorem c24_0 {H : List Ob} {a1 : Node} {r : (List Row)} (h : R06_Rows a1 = some r) : callD (callW Tryz.prog A0) A0 H 24 [.p (.agg (pv_Node a1))] = some (.p (.lst false r.length (encL en_Row r)), none) :=
 callD_fun (args := [.agg (pv_Node a1)]) rfl rfl rfl (by simp only [List.map_cons, List.map_nil, wk, wks, wkL]; exact f24_ok a1 _ h)
noncomputable def L25_0 : Code := (loopsOf (bodyOf Tryz.f25)).getD 0 .skip
def g25_0 : List Ghost := [.weak [0], .keep [0, 1, 5]]
noncomputable def F25_0 (s0 : (List Pair)) (s1 : Int) : Int → St := fun s5 => ⟨[.p (.lst false s0.length (encL en_Pair s0)), iv s1, J, J, J, iv s5, J, J, J, J, J, J, J, J, J, J, J, J, J], [], 0⟩
theorem L25_0_ok (s0 : (List Pair)) (s1 : Int) : ∀ s st o, ghostsD g25_0 st = some (F25_0 s0 s1 s) → iter (R24_hasNew_L0 s0 s1) s = some o →
    Wp (evW Tryz.prog A0 25 (.loop L25_0) st) (OutQ (F25_0 s0 s1) g25_0 (fun n s st => n = 0 ∧ ghostsD [.keep [0, 1, 5]] st = some (F25_0 s0 s1 s)) (fun r st => finishD Tryz.prog A0 25 Tryz.f25 st = some (.p (.v (.bool r)), [])) o) := by
 refine Wp.iter ?_
 intro s st o hg h
 generalize s = s5 at hg h
 unfold R24_hasNew_L0 at h; unfold g25_0 F25_0 at hg ⊢
 (try simp only [] at h hg)
 unfold L25_0 bodyOf Tryz.f25; simp only [loopsOf, ens]
 revert h
 repeat' first | (with_reducible refine gR fun _ _ _ _ => ?_) | (with_reducible refine gI (fun _ _ => ?_) (fun _ _ => ?_))
 all_goals
  intro h; obtain rfl := Option.some.inj h
  first | (simp (maxSteps := 10000000) (implicitDefEqProofs := false) (disch := first | with_reducible assumption | exact rfl | exact im_ _ | (fail_if_success show Kn _ _); omega) only [bs, rs25, ls25, Nat.reduceAdd, ↓reduceIte, lenD_lst u26, loadD_iptr a3, hg]; first | (refine ⟨(rfl : Ex.ret = Ex.ret), ?_⟩; exact fin_sc rfl rfl rfl rfl) | (exact ⟨(rfl : Ex.normal = Ex.normal), by kernel_rfl⟩) | (exact ⟨(rfl : Ex.exit 0 = Ex.exit 0), rfl, by kernel_rfl⟩)) | (exfalso; omega)
theorem f25_ok  (x0 : (List Pair)) (x1 : Int) (r : Bool) (h : R24_hasNew x0 x1 = some r) : callW Tryz.prog A0 25 [.p (.lst false x0.length (encL en_Pair x0)), iv x1] [] = some (.p (.v (.bool r)), []) := by
 refine call_ofI (fn := Tryz.f25) (c := bodyOf Tryz.f25) 17 rfl rfl (by kernel_rfl) (by kernel_rfl) (by kernel_rfl) ?_
 unfold R24_hasNew at h; unfold bodyOf Tryz.f25; simp only [ens]
 revert h
 refine gB fun o h6 => ?_
 intro h
 simp (maxSteps := 10000000) (implicitDefEqProofs := false) (disch := first | with_reducible assumption | exact rfl | exact im_ _ | (fail_if_success show Kn _ _); omega) only [bs, rs25, ls25, Nat.reduceAdd, ↓reduceIte, lenD_lst u26, loadD_iptr a3]
 refine Wp.ctx (fun x => seqW _ _ _ _ (blockW _ (x))) (L25_0_ok x0 x1 (0 : Int) _ o (by kernel_rfl) h6) ?_
 intro e st hq
 cases o with
 | next _ => (first | cases h | (simp at h))
 | jmp n_ s_ =>
  obtain ⟨rfl, rfl, hq⟩ := hq
  generalize s_ = s5_7 at h hq
  unfold F25_0 at hq
  (try simp only [] at h hq)
  revert h
  intro h; obtain rfl := Option.some.inj h
  simp (maxSteps := 10000000) (implicitDefEqProofs := false) (disch := first | with_reducible assumption | exact rfl | exact im_ _ | (fail_if_success show Kn _ _); omega) only [bs, rs25, ls25, Nat.reduceAdd, ↓reduceIte, lenD_lst u26, loadD_iptr a3, hq]
  refine ⟨by simp, ?_⟩; exact fin_sc rfl rfl rfl rfl
 | ret r8 =>
  obtain ⟨rfl, hq⟩ := hq
  obtain rfl := Option.some.inj h
  simp (maxSteps := 10000000) (implicitDefEqProofs := false) (disch := first | with_reducible assumption | exact rfl | exact im_ _ | (fail_if_success show Kn _ _); omega) only [bs, rs25, ls25, Nat.reduceAdd, ↓reduceIte, lenD_lst u26, loadD_iptr a3]
  exact ⟨by simp, hq⟩
end Xr

