/- A part of the proof: P0. No conditions of its own. -/
import Derived.Test.YtendihpeaajpmaaGreatDoorL
namespace Xr
open Go Go.Ev Go.Proofs
set_option linter.unusedSimpArgs false
set_option linter.unusedVariables false
set_option linter.defProp false
set_option maxRecDepth 8000
set_option maxHeartbeats 40000000
def ls24 := And.intro @faP_25_3 (And.intro @idxL_23 (And.intro @lk_frz_25 (@varld_4_0_3)))
theorem c24r_0 {rec : Node → Int → Int → Option Int} (hrec : ∀ x0 x1 x2 r, rec x0 x1 x2 = some r → callW Tryz.prog A0 24 [.p (.agg (pv_Node x0)), iv x1, iv x2] [] = some (.p (.v (.int .i64 r)), [])) {H : List Ob} {a1 : Node} {a2 a3 : Int} {r : Int} (h : rec a1 a2 a3 = some r) : callD (callW Tryz.prog A0) A0 H 24 [.p (.agg (pv_Node a1)), iv a2, iv a3] = some (.p (.v (.int .i64 r)), none) :=
 callD_fun (args := [.agg (pv_Node a1), .v (.int .i64 a2), .v (.int .i64 a3)]) rfl rfl rfl (by simp only [List.map_cons, List.map_nil, wk, wks, wkL]; exact hrec a1 a2 a3 _ h)
noncomputable def L24_0 : Code := (loopsOf (bodyOf Tryz.f24)).getD 0 .skip
def g24_0 : List Ghost := [.keep [1, 2, 3, 7]]
noncomputable def F24_0 (s2 : Int) (w0_0 : Int) (w0_1 : ByteArray) (w0_2 : (List ByteArray)) (w0_3 : (List Node)) : (Int × Int) → St := fun (s1, s7) => ⟨[J, iv s1, iv s2, .ptr 0 0, J, J, J, iv s7, J, J, J, J, J, J, J, J, J, J, J, J, J, J, J, J, J, J, J, J, J, J, J, J, J], [.var [iv w0_0, .p (.v (.string w0_1)), .p (.lst false w0_2.length (encL en_str w0_2)), .p (.lst false w0_3.length (encL en_Node w0_3))]], 0⟩
theorem L24_0_ok {rec : Node → Int → Int → Option Int} (hrec : ∀ x0 x1 x2 r, rec x0 x1 x2 = some r → callW Tryz.prog A0 24 [.p (.agg (pv_Node x0)), iv x1, iv x2] [] = some (.p (.v (.int .i64 r)), [])) (s2 : Int) (w0_0 : Int) (w0_1 : ByteArray) (w0_2 : (List ByteArray)) (w0_3 : (List Node)) : ∀ s st o, ghostsD g24_0 st = some (F24_0 s2 w0_0 w0_1 w0_2 w0_3 s) → iter (law24_Left_L0 rec s2 w0_0 w0_1 w0_2 w0_3) s = some o →
    Wp (evW Tryz.prog A0 24 (.loop L24_0) st) (OutQ (F24_0 s2 w0_0 w0_1 w0_2 w0_3) g24_0 (fun n s st => n = 0 ∧ ghostsD [.keep [1, 2, 3, 7]] st = some (F24_0 s2 w0_0 w0_1 w0_2 w0_3 s)) (fun r st => finishD Tryz.prog A0 24 Tryz.f24 st = some (.p (.v (.int .i64 r)), [])) o) := by
 refine Wp.iter ?_
 intro s st o hg h
 obtain ⟨s1, s7⟩ := s
 unfold law24_Left_L0 at h; unfold g24_0 F24_0 at hg ⊢
 (try simp only [] at h hg)
 unfold L24_0 bodyOf Tryz.f24; simp only [loopsOf, ens]
 revert h
 repeat' first | (with_reducible refine gR fun _ _ _ _ => ?_) | (with_reducible refine gB fun _ _ => ?_) | (with_reducible refine gI (fun _ _ => ?_) (fun _ _ => ?_))
 all_goals
  intro h; obtain rfl := Option.some.inj h
  first | (simp (maxSteps := 10000000) (implicitDefEqProofs := false) (disch := first | with_reducible assumption | exact rfl | exact im_ _ | (fail_if_success show Kn _ _); omega) only [bs, rs24, ls24, Nat.reduceAdd, ↓reduceIte, c24r_0 hrec, lenD_lst u23, loadD_iagg a25 z25, loadD_ptr a23, hg]; first | (exact ⟨(rfl : Ex.normal = Ex.normal), by kernel_rfl⟩) | (exact ⟨(rfl : Ex.exit 0 = Ex.exit 0), rfl, by kernel_rfl⟩)) | (exfalso; omega)
theorem f24_ok {rec : Node → Int → Int → Option Int} (hrec : ∀ x0 x1 x2 r, rec x0 x1 x2 = some r → callW Tryz.prog A0 24 [.p (.agg (pv_Node x0)), iv x1, iv x2] [] = some (.p (.v (.int .i64 r)), []))  (x0 : Node) (x1 : Int) (x2 : Int) (r : Int) (h : law24_Left.body rec x0 x1 x2 = some r) : callW Tryz.prog A0 24 [.p (.agg (pv_Node x0)), iv x1, iv x2] [] = some (.p (.v (.int .i64 r)), []) := by
 refine call_ofI (fn := Tryz.f24) (c := bodyOf Tryz.f24) 30 rfl rfl (by kernel_rfl) (by kernel_rfl) (by kernel_rfl) ?_
 unfold law24_Left.body at h; unfold bodyOf Tryz.f24; simp only [ens]
 revert h
 refine gI (fun h1 _ => ?_) (fun h1 _ => ?_)
 ·intro h; obtain rfl := Option.some.inj h
  simp (maxSteps := 10000000) (implicitDefEqProofs := false) (disch := first | with_reducible assumption | exact rfl | exact im_ _ | (fail_if_success show Kn _ _); omega) only [bs, rs24, ls24, Nat.reduceAdd, ↓reduceIte, c24r_0 hrec, lenD_lst u23, loadD_iagg a25 z25, loadD_ptr a23]
  refine ⟨by simp, ?_⟩; exact fin_sc rfl rfl rfl rfl
 ·refine gB fun o h10 => ?_
  intro h
  simp (maxSteps := 10000000) (implicitDefEqProofs := false) (disch := first | with_reducible assumption | exact rfl | exact im_ _ | (fail_if_success show Kn _ _); omega) only [bs, rs24, ls24, Nat.reduceAdd, ↓reduceIte, c24r_0 hrec, lenD_lst u23, loadD_iagg a25 z25, loadD_ptr a23]
  refine Wp.ctx (fun x => seqW _ _ _ _ (blockW _ (x))) (L24_0_ok hrec x2 x0.Kind x0.Text x0.Gaps x0.Kids (w64 (x1 - (1 : Int)), (0 : Int)) _ o (by kernel_rfl) h10) ?_
  intro e st hq
  cases o with
  | next _ => (first | cases h | (simp at h))
  | jmp n_ s_ =>
   obtain ⟨rfl, rfl, hq⟩ := hq
   obtain ⟨s1_11, s7_11⟩ := s_
   unfold F24_0 at hq
   (try simp only [] at h hq)
   revert h
   intro h; obtain rfl := Option.some.inj h
   simp (maxSteps := 10000000) (implicitDefEqProofs := false) (disch := first | with_reducible assumption | exact rfl | exact im_ _ | (fail_if_success show Kn _ _); omega) only [bs, rs24, ls24, Nat.reduceAdd, ↓reduceIte, c24r_0 hrec, lenD_lst u23, loadD_iagg a25 z25, loadD_ptr a23, hq]
   refine ⟨by simp, ?_⟩; exact fin_sc rfl rfl rfl rfl
  | ret _ => (first | cases h | (simp at h))
theorem f24_spec : ∀ (x0 : Node) (x1 : Int) (x2 : Int) r, law24_LeftS x0 x1 x2 = some r → callW Tryz.prog A0 24 [.p (.agg (pv_Node x0)), iv x1, iv x2] [] = some (.p (.v (.int .i64 r)), []) := by
 have key : ∀ n (x0 : Node) (x1 : Int) (x2 : Int) r, law24_LeftS_mu x0 x1 x2 < n → law24_LeftS x0 x1 x2 = some r → callW Tryz.prog A0 24 [.p (.agg (pv_Node x0)), iv x1, iv x2] [] = some (.p (.v (.int .i64 r)), []) := by
  intro n
  induction n with
  | zero => intro x0 x1 x2 r h; omega
  | succ n ih =>
   intro x0 x1 x2 r hn h
   refine f24_ok (rec := fun x0' x1' x2' => if law24_LeftS_mu x0' x1' x2' < law24_LeftS_mu x0 x1 x2 then law24_LeftS x0' x1' x2' else none) ?_ x0 x1 x2 r (law24_LeftS_body x0 x1 x2 r h)
   intro x0' x1' x2' r' h'
   by_cases hm : law24_LeftS_mu x0' x1' x2' < law24_LeftS_mu x0 x1 x2
   ·rw [if_pos hm] at h'; exact ih x0' x1' x2' r' (by omega) h'
   ·rw [if_neg hm] at h'; cases h'
 intro x0 x1 x2 r h
 exact key _ x0 x1 x2 r (Nat.lt_succ_self _) h
def ls9 := @varlv_4_0_4
theorem c24_1 {H : List Ob} {a1 : Node} {a2 a3 : Int} {r : Int} (h : law24_LeftS a1 a2 a3 = some r) : callD (callW Tryz.prog A0) A0 H 24 [.p (.agg (pv_Node a1)), iv a2, iv a3] = some (.p (.v (.int .i64 r)), none) :=
 callD_fun (args := [.agg (pv_Node a1), .v (.int .i64 a2), .v (.int .i64 a3)]) rfl rfl rfl (by simp only [List.map_cons, List.map_nil, wk, wks, wkL]; exact f24_spec a1 a2 a3 _ h)
theorem f9_ok  (x0 : Node) (r : Bool) (h : law24_Small x0 = some r) : callW Tryz.prog A0 9 [.p (.agg (pv_Node x0))] [] = some (.p (.v (.bool r)), []) := by
 refine call_ofI (fn := Tryz.f9) (c := bodyOf Tryz.f9) 5 rfl rfl (by kernel_rfl) (by kernel_rfl) (by kernel_rfl) ?_
 unfold law24_Small at h; unfold bodyOf Tryz.f9; simp only [ens]
 revert h
 repeat' (with_reducible refine gB fun _ _ => ?_)
 intro h; obtain rfl := Option.some.inj h
 simp (maxSteps := 10000000) (implicitDefEqProofs := false) (disch := first | with_reducible assumption | exact rfl | exact im_ _ | (fail_if_success show Kn _ _); omega) only [bs, rs9, ls9, Nat.reduceAdd, ↓reduceIte, c24_1, loadD_pagg a25 z25]
 refine ⟨by simp, ?_⟩; exact fin_sc rfl rfl rfl rfl
theorem f10_run : callN Tryz.prog A0 200 10 [] [] = some (.p (.v (.bool true)), []) := callN_of_F (by kernel_rfl)
theorem f10_ok (r : Bool) (h : law24_awake = some r) : callW Tryz.prog A0 10 [] [] = some (.p (.v (.bool r)), []) := by
 cases h; exact callW_some.2 ⟨200, f10_run⟩
def ls14 := And.intro @al_43 (And.intro @faP_43_0 (And.intro @faP_43_1 (And.intro @idxL_29 (And.intro @lk_frz_43 (And.intro @sa_2_0_2 (And.intro @varld_2_0_0 (@varld_2_0_1)))))))
theorem c9_0 {H : List Ob} {a1 : Node} {r : Bool} (h : law24_Small a1 = some r) : callD (callW Tryz.prog A0) A0 H 9 [.p (.agg (pv_Node a1))] = some (.p (.v (.bool r)), none) :=
 callD_fun (args := [.agg (pv_Node a1)]) rfl rfl rfl (by simp only [List.map_cons, List.map_nil, wk, wks, wkL]; exact f9_ok a1 _ h)
theorem c10_0 {H : List Ob}  {r : Bool} (h : law24_awake  = some r) : callD (callW Tryz.prog A0) A0 H 10 [] = some (.p (.v (.bool r)), none) :=
 callD_fun (args := []) rfl rfl rfl (by simp only [List.map_cons, List.map_nil, wk, wks, wkL]; exact f10_ok  _ h)
noncomputable def L14_0 : Code := (loopsOf (bodyOf Tryz.f14)).getD 0 .skip
def g14_0 : List Ghost := [.weak [8], .keep [1, 8, 9, 10]]
noncomputable def F14_0 (s1 : Int) (s8 : (List Pair)) (s9 : Int) : Int → St := fun s10 => ⟨[J, iv s1, J, J, J, J, J, J, .p (.lst false s8.length (encL en_Pair s8)), iv s9, iv s10, J, J, J, J, J, J, J, J, J, J], [], 0⟩
theorem L14_0_ok (s1 : Int) (s8 : (List Pair)) (s9 : Int) : ∀ s st o, ghostsD g14_0 st = some (F14_0 s1 s8 s9 s) → iter (match_Find_L0 s1 s8 s9) s = some o →
    Wp (evW Tryz.prog A0 14 (.loop L14_0) st) (OutQ (F14_0 s1 s8 s9) g14_0 (fun n s st => n = 0 ∧ ghostsD [.keep [1, 8, 9, 10]] st = some (F14_0 s1 s8 s9 s)) (fun r st => finishD Tryz.prog A0 14 Tryz.f14 st = some (.p (.tup [.v (.int .i64 r.1), .v (.bool r.2)]), [])) o) := by
 refine Wp.iter ?_
 intro s st o hg h
 generalize s = s10 at hg h
 unfold match_Find_L0 at h; unfold g14_0 F14_0 at hg ⊢
 (try simp only [] at h hg)
 unfold L14_0 bodyOf Tryz.f14; simp only [loopsOf, ens]
 revert h
 refine gI (fun h1 _ => ?_) (fun h1 _ => ?_)
 ·refine gR fun v2 h3 h3a h3b => ?_
  refine gI (fun h5 _ => ?_) (fun h5 _ => ?_)
  ·intro h; obtain rfl := Option.some.inj h
   simp (maxSteps := 10000000) (implicitDefEqProofs := false) (disch := first | with_reducible assumption | exact rfl | exact im_ _ | (fail_if_success show Kn _ _); omega) only [bs, rs14, ls14, Nat.reduceAdd, ↓reduceIte, lenD_lst u29, loadD_iagg a43 z43, loadD_ptr a3, storeD_agg z43, hg]
   refine ⟨(rfl : Ex.ret = Ex.ret), ?_⟩; exact finish_is (ds := [iv v2.New, bv true]) (x := .tup [.v (.int .i64 v2.New), .v (.bool true)]) (y := .tup [.v (.int .i64 v2.New), .v (.bool true)]) (l := []) rfl rfl rfl rfl (by first | rfl | (simp only [wk, wks, wkL]; first | done | rfl))
  ·intro h; obtain rfl := Option.some.inj h
   simp (maxSteps := 10000000) (implicitDefEqProofs := false) (disch := first | with_reducible assumption | exact rfl | exact im_ _ | (fail_if_success show Kn _ _); omega) only [bs, rs14, ls14, Nat.reduceAdd, ↓reduceIte, lenD_lst u29, loadD_iagg a43 z43, loadD_ptr a3, storeD_agg z43, hg]
   exact ⟨(rfl : Ex.normal = Ex.normal), by kernel_rfl⟩
 ·intro h; obtain rfl := Option.some.inj h
  simp (maxSteps := 10000000) (implicitDefEqProofs := false) (disch := first | with_reducible assumption | exact rfl | exact im_ _ | (fail_if_success show Kn _ _); omega) only [bs, rs14, ls14, Nat.reduceAdd, ↓reduceIte, lenD_lst u29, loadD_iagg a43 z43, loadD_ptr a3, storeD_agg z43, hg]
  exact ⟨(rfl : Ex.exit 0 = Ex.exit 0), rfl, by kernel_rfl⟩
theorem f14_ok  (x0 : (List Pair)) (x1 : Int) (r : (Int × Bool)) (h : match_Find x0 x1 = some r) : callW Tryz.prog A0 14 [.p (.lst false x0.length (encL en_Pair x0)), iv x1] [] = some (.p (.tup [.v (.int .i64 r.1), .v (.bool r.2)]), []) := by
 refine call_ofI (fn := Tryz.f14) (c := bodyOf Tryz.f14) 19 rfl rfl (by kernel_rfl) (by kernel_rfl) (by kernel_rfl) ?_
 unfold match_Find at h; unfold bodyOf Tryz.f14; simp only [ens]
 revert h
 refine gB fun o h6 => ?_
 intro h
 simp (maxSteps := 10000000) (implicitDefEqProofs := false) (disch := first | with_reducible assumption | exact rfl | exact im_ _ | (fail_if_success show Kn _ _); omega) only [bs, rs14, ls14, Nat.reduceAdd, ↓reduceIte, lenD_lst u29, loadD_iagg a43 z43, loadD_ptr a3, storeD_agg z43]
 refine Wp.ctx (fun x => seqW _ _ _ _ (blockW _ (x))) (L14_0_ok x1 x0 (x0.length : Int) (0 : Int) _ o (by kernel_rfl) h6) ?_
 intro e st hq
 cases o with
 | next _ => (first | cases h | (simp at h))
 | jmp n_ s_ =>
  obtain ⟨rfl, rfl, hq⟩ := hq
  generalize s_ = s10_7 at h hq
  unfold F14_0 at hq
  (try simp only [] at h hq)
  revert h
  intro h; obtain rfl := Option.some.inj h
  simp (maxSteps := 10000000) (implicitDefEqProofs := false) (disch := first | with_reducible assumption | exact rfl | exact im_ _ | (fail_if_success show Kn _ _); omega) only [bs, rs14, ls14, Nat.reduceAdd, ↓reduceIte, lenD_lst u29, loadD_iagg a43 z43, loadD_ptr a3, storeD_agg z43, hq]
  refine ⟨by simp, ?_⟩; exact finish_is (ds := [iv (0 : Int), bv false]) (x := .tup [.v (.int .i64 (0 : Int)), .v (.bool false)]) (y := .tup [.v (.int .i64 (0 : Int)), .v (.bool false)]) (l := []) rfl rfl rfl rfl (by first | rfl | (simp only [wk, wks, wkL]; first | done | rfl))
 | ret r8 =>
  obtain ⟨rfl, hq⟩ := hq
  obtain rfl := Option.some.inj h
  simp (maxSteps := 10000000) (implicitDefEqProofs := false) (disch := first | with_reducible assumption | exact rfl | exact im_ _ | (fail_if_success show Kn _ _); omega) only [bs, rs14, ls14, Nat.reduceAdd, ↓reduceIte, lenD_lst u29, loadD_iagg a43 z43, loadD_ptr a3, storeD_agg z43]
  exact ⟨by simp, hq⟩
def ls15 := And.intro @ce_43__0 (And.intro @ce_43__1 (And.intro @faI_43_0 (And.intro @faI_43_1 (@idxL_29))))
theorem c14_0 {H : List Ob} {a1 : Bool} {a2 : List Pair} {a3 : Int} {r : Int × Bool} (h : match_Find a2 a3 = some r) : callD (callW Tryz.prog A0) A0 H 14 [.p (.lst a1 a2.length (encL en_Pair a2)), iv a3] = some (.p (.tup [.v (.int .i64 r.1), .v (.bool r.2)]), none) :=
 callD_fun (args := [.lst a1 a2.length (encL en_Pair a2), .v (.int .i64 a3)]) rfl rfl rfl (by simp only [List.map_cons, List.map_nil, wk, wks, wkL]; exact f14_ok a2 a3 _ h)
noncomputable def L15_0 : Code := (loopsOf (bodyOf Tryz.f15)).getD 0 .skip
def g15_0 : List Ghost := [.weak [0], .keep [0, 1, 6]]
noncomputable def F15_0 (s0 : (List Pair)) (s1 : Int) : Int → St := fun s6 => ⟨[.p (.lst false s0.length (encL en_Pair s0)), iv s1, J, J, J, J, iv s6, J, J, J, J, J, J, J, J, J, J, J, J, J, J, J, J, J, J], [], 0⟩
theorem L15_0_ok (s0 : (List Pair)) (s1 : Int) : ∀ s st o, ghostsD g15_0 st = some (F15_0 s0 s1 s) → iter (R24_Find_L0 s0 s1) s = some o →
    Wp (evW Tryz.prog A0 15 (.loop L15_0) st) (OutQ (F15_0 s0 s1) g15_0 (fun n s st => n = 0 ∧ ghostsD [.keep [0, 1, 6]] st = some (F15_0 s0 s1 s)) (fun r st => finishD Tryz.prog A0 15 Tryz.f15 st = some (.p (.tup [.v (.int .i64 r.1), .v (.bool r.2)]), [])) o) := by
 refine Wp.iter ?_
 intro s st o hg h
 generalize s = s6 at hg h
 unfold R24_Find_L0 at h; unfold g15_0 F15_0 at hg ⊢
 (try simp only [] at h hg)
 unfold L15_0 bodyOf Tryz.f15; simp only [loopsOf, ens]
 revert h
 refine gI (fun h1 _ => ?_) (fun h1 _ => ?_)
 ·refine gR fun v2 h3 h3a h3b => ?_
  refine gI (fun h5 _ => ?_) (fun h5 _ => ?_)
  ·intro h; obtain rfl := Option.some.inj h
   simp (maxSteps := 10000000) (implicitDefEqProofs := false) (disch := first | with_reducible assumption | exact rfl | exact im_ _ | (fail_if_success show Kn _ _); omega) only [bs, rs15, ls15, Nat.reduceAdd, ↓reduceIte, lenD_lst u29, loadD_iptr a3, hg]
   refine ⟨(rfl : Ex.ret = Ex.ret), ?_⟩; exact finish_is (ds := [iv v2.New, bv true]) (x := .tup [.v (.int .i64 v2.New), .v (.bool true)]) (y := .tup [.v (.int .i64 v2.New), .v (.bool true)]) (l := []) rfl rfl rfl rfl (by first | rfl | (simp only [wk, wks, wkL]; first | done | rfl))
  ·intro h; obtain rfl := Option.some.inj h
   simp (maxSteps := 10000000) (implicitDefEqProofs := false) (disch := first | with_reducible assumption | exact rfl | exact im_ _ | (fail_if_success show Kn _ _); omega) only [bs, rs15, ls15, Nat.reduceAdd, ↓reduceIte, lenD_lst u29, loadD_iptr a3, hg]
   exact ⟨(rfl : Ex.normal = Ex.normal), by kernel_rfl⟩
 ·intro h; obtain rfl := Option.some.inj h
  simp (maxSteps := 10000000) (implicitDefEqProofs := false) (disch := first | with_reducible assumption | exact rfl | exact im_ _ | (fail_if_success show Kn _ _); omega) only [bs, rs15, ls15, Nat.reduceAdd, ↓reduceIte, lenD_lst u29, loadD_iptr a3, hg]
  exact ⟨(rfl : Ex.exit 0 = Ex.exit 0), rfl, by kernel_rfl⟩
theorem f15_ok  (x0 : (List Pair)) (x1 : Int) (r : (Int × Bool)) (h : R24_Find x0 x1 = some r) : callW Tryz.prog A0 15 [.p (.lst false x0.length (encL en_Pair x0)), iv x1] [] = some (.p (.tup [.v (.int .i64 r.1), .v (.bool r.2)]), []) := by
 refine call_ofI (fn := Tryz.f15) (c := bodyOf Tryz.f15) 23 rfl rfl (by kernel_rfl) (by kernel_rfl) (by kernel_rfl) ?_
 unfold R24_Find at h; unfold bodyOf Tryz.f15; simp only [ens]
 revert h
 refine gB fun o h7 => ?_
 intro h
 simp (maxSteps := 10000000) (implicitDefEqProofs := false) (disch := first | with_reducible assumption | exact rfl | exact im_ _ | (fail_if_success show Kn _ _); omega) only [bs, rs15, ls15, Nat.reduceAdd, ↓reduceIte, lenD_lst u29, loadD_iptr a3]
 refine Wp.ctx (fun x => seqW _ _ _ _ (blockW _ (x))) (L15_0_ok x0 x1 (0 : Int) _ o (by kernel_rfl) h7) ?_
 intro e st hq
 cases o with
 | next _ => (first | cases h | (simp at h))
 | jmp n_ s_ =>
  obtain ⟨rfl, rfl, hq⟩ := hq
  generalize s_ = s6_8 at h hq
  unfold F15_0 at hq
  (try simp only [] at h hq)
  revert h
  intro h; obtain rfl := Option.some.inj h
  simp (maxSteps := 10000000) (implicitDefEqProofs := false) (disch := first | with_reducible assumption | exact rfl | exact im_ _ | (fail_if_success show Kn _ _); omega) only [bs, rs15, ls15, Nat.reduceAdd, ↓reduceIte, lenD_lst u29, loadD_iptr a3, hq]
  refine ⟨by simp, ?_⟩; exact finish_is (ds := [iv (0 : Int), bv false]) (x := .tup [.v (.int .i64 (0 : Int)), .v (.bool false)]) (y := .tup [.v (.int .i64 (0 : Int)), .v (.bool false)]) (l := []) rfl rfl rfl rfl (by first | rfl | (simp only [wk, wks, wkL]; first | done | rfl))
 | ret r9 =>
  obtain ⟨rfl, hq⟩ := hq
  obtain rfl := Option.some.inj h
  simp (maxSteps := 10000000) (implicitDefEqProofs := false) (disch := first | with_reducible assumption | exact rfl | exact im_ _ | (fail_if_success show Kn _ _); omega) only [bs, rs15, ls15, Nat.reduceAdd, ↓reduceIte, lenD_lst u29, loadD_iptr a3]
  exact ⟨by simp, hq⟩
def ls66 := @mk_22
theorem c15_0 {H : List Ob} {a1 : Bool} {a2 : List Pair} {a3 : Int} {r : Int × Bool} (h : R24_Find a2 a3 = some r) : callD (callW Tryz.prog A0) A0 H 15 [.p (.lst a1 a2.length (encL en_Pair a2)), iv a3] = some (.p (.tup [.v (.int .i64 r.1), .v (.bool r.2)]), none) :=
 callD_fun (args := [.lst a1 a2.length (encL en_Pair a2), .v (.int .i64 a3)]) rfl rfl rfl (by simp only [List.map_cons, List.map_nil, wk, wks, wkL]; exact f15_ok a2 a3 _ h)
theorem f66_ok  (x0 : (List ByteArray)) (r : (List ByteArray)) (h : tree_texts x0 = some r) : callW Tryz.prog A0 66 [.p (.lst false x0.length (encL en_str x0))] [] = some (.p (.lst false r.length (encL en_str r)), []) := by
 refine call_ofI (fn := Tryz.f66) (c := bodyOf Tryz.f66) 13 rfl rfl (by kernel_rfl) (by kernel_rfl) (by kernel_rfl) ?_
 unfold tree_texts at h; unfold bodyOf Tryz.f66; simp only [ens]
 revert h
 refine gI (fun h1 _ => ?_) (fun h1 _ => ?_)
 ·intro h; obtain rfl := Option.some.inj h
  simp (maxSteps := 10000000) (implicitDefEqProofs := false) (disch := first | with_reducible assumption | exact rfl | exact im_ _ | (fail_if_success show Kn _ _); omega) only [bs, rs66, ls66, Nat.reduceAdd, ↓reduceIte, lenD_lst u22, ops_copy]
  refine ⟨by simp, ?_⟩; exact finish_is (l := []) rfl rfl rfl rfl (by first | rfl | (simp only [wk, wks, wkL]; first | done | rfl))
 ·refine gW fun ⟨h2, h3⟩ => ?_
  have h4 := cp_22 (H := [.arr (encL en_str (List.replicate (x0.length : Int).toNat ByteArray.empty))]) (t2 := 22) (id := 0) (n := (List.replicate (x0.length : Int).toNat ByteArray.empty).length) (x := (List.replicate (x0.length : Int).toNat ByteArray.empty)) (y := x0) (full := false) rfl (by first | rfl | omega)
  have h5 : (cpL (List.replicate (x0.length : Int).toNat ByteArray.empty) x0).length = (List.replicate (x0.length : Int).toNat ByteArray.empty).length := cpL_len _ _
  intro h; obtain rfl := Option.some.inj h
  simp (maxSteps := 10000000) (implicitDefEqProofs := false) (disch := first | with_reducible assumption | exact rfl | exact im_ _ | (fail_if_success show Kn _ _); omega) only [bs, rs66, ls66, Nat.reduceAdd, ↓reduceIte, lenD_lst u22, ops_copy, h4]
  refine ⟨by simp, ?_⟩; exact finish_is (l := [0]) rfl rfl rfl (purify1_enc en_str_len rfl (by first | rfl | omega | simp)) (by first | rfl | (simp only [wk, wks, wkL]; first | done | rfl))
def ls44 := And.intro @al_25 (And.intro @ap_48_48 (And.intro @bs_48_1 (And.intro @bu_57_0_1_2_3 (And.intro @faP_25_0 (And.intro @faP_25_1 (And.intro @faP_25_2 (And.intro @faP_25_3 (And.intro @faP_57_4 (And.intro @idxL_23 (And.intro @idxR_48 (And.intro @idxR_50 (And.intro @lk_frz_25 (And.intro @mk_50 (And.intro @sa_4_0_4 (And.intro @stf_3_x (And.intro @varld_4_0_0 (And.intro @varld_4_0_1 (And.intro @varld_4_0_2 (And.intro @varld_4_0_3 (@varlv_4_0_4))))))))))))))))))))
theorem tree_list_rcall {rec : (List Row) → Node → Int → Option (List Row)} (hrec : ∀ x0 x1 x2 r, rec x0 x1 x2 = some r → callW Tryz.prog A0 44 [.ref 0 0 x0.length 5, .p (.agg (pv_Node x1)), iv x2] [.arr (encL en_Row x0)] = some (.ref 1 0 r.length 5, [.dead, .arr (encL en_Row r)])) {H : List Ob} {id n : Nat} {b1 b2 : Bool} {x0 : (List Row)} {x1 : Node} {x2 : Int} {r : (List Row)} : H[id]? = some (.arr (encL en_Row x0)) → n = x0.length → ∀ (h : rec x0 x1 x2 = some r), callD (callW Tryz.prog A0) A0 H 44 [.ref id 0 n 5, .p (.agg [.v (.int .i64 x1.Kind), .v (.string x1.Text), .lst b1 x1.Gaps.length (encL en_str x1.Gaps), .lst b2 x1.Kids.length (encL en_Node x1.Kids)]), iv x2] = some (.ref H.length 0 r.length 5, some (H.set id .dead ++ [.arr (encL en_Row r)])) := by
 intro hid hn h; subst hn; exact callD_mut1 (args := [.agg (pv_Node x1), .v (.int .i64 x2)]) (by simp only [List.map_cons, List.map_nil, wkDv, wk, wks, wkL]) rfl hid (hrec x0 x1 x2 _ h)
theorem c66_0 {H : List Ob} {a1 : Bool} {a2 : List ByteArray} {r : (List ByteArray)} (h : tree_texts a2 = some r) : callD (callW Tryz.prog A0) A0 H 66 [.p (.lst a1 a2.length (encL en_str a2))] = some (.p (.lst false r.length (encL en_str r)), none) :=
 callD_fun (args := [.lst a1 a2.length (encL en_str a2)]) rfl rfl rfl (by simp only [List.map_cons, List.map_nil, wk, wks, wkL]; exact f66_ok a2 _ h)
theorem q44_0 {rec : (List Row) → Node → Int → Option (List Row)} (hrec : ∀ x0 x1 x2 r, rec x0 x1 x2 = some r → callW Tryz.prog A0 44 [.ref 0 0 x0.length 5, .p (.agg (pv_Node x1)), iv x2] [.arr (encL en_Row x0)] = some (.ref 1 0 r.length 5, [.dead, .arr (encL en_Row r)])) {a1 : List Row} {a2 : Node} {a3 : Int} {r9001 : (List Row)} {X2 X3 : Ob} (h9002 : rec a1 a2 a3 = some r9001) : callD (callW Tryz.prog A0) A0 [.dead, .arr (encL en_Row a1), X2, X3] 44 [.ref 1 0 a1.length 5, .p (.agg (pv_Node a2)), iv a3] = some (.ref 4 0 r9001.length 5, some [.dead, .dead, X2, X3, .arr (encL en_Row r9001)]) := tree_list_rcall hrec (H := [.dead, .arr (encL en_Row a1), X2, X3]) (id := 1) rfl (by first | rfl | omega) h9002
theorem q44_1 {rec : (List Row) → Node → Int → Option (List Row)} (hrec : ∀ x0 x1 x2 r, rec x0 x1 x2 = some r → callW Tryz.prog A0 44 [.ref 0 0 x0.length 5, .p (.agg (pv_Node x1)), iv x2] [.arr (encL en_Row x0)] = some (.ref 1 0 r.length 5, [.dead, .arr (encL en_Row r)])) {a1 : List Row} {a2 : Node} {a3 : Int} {r9001 : (List Row)} {X1 X2 : Ob} (h9002 : rec a1 a2 a3 = some r9001) : callD (callW Tryz.prog A0) A0 [.arr (encL en_Row a1), X1, X2] 44 [.ref 0 0 a1.length 5, .p (.agg (pv_Node a2)), iv a3] = some (.ref 3 0 r9001.length 5, some [.dead, X1, X2, .arr (encL en_Row r9001)]) := tree_list_rcall hrec (H := [.arr (encL en_Row a1), X1, X2]) (id := 0) rfl (by first | rfl | omega) h9002
noncomputable def L44_0 : Code := (loopsOf (bodyOf Tryz.f44)).getD 0 .skip
def g44_0 : List Ghost := [.weak [35], .keep [0, 7, 8, 35, 36, 37]]
noncomputable def F44_0 (s7 : Int) (s35 : (List Node)) (s36 : Int) : (Int × (List Row) × (List Int)) → St := fun (s37, y1, y2) => ⟨[.ref 1 0 y1.length 5, J, J, J, J, J, J, iv s7, .ref 2 0 y2.length 1, J, J, J, J, J, J, J, J, J, J, J, J, J, J, J, J, J, J, J, J, J, J, J, J, J, J, .p (.lst false s35.length (encL en_Node s35)), iv s36, iv s37, J, J, J, J, J, J, J, J, J, J, J, J, J, J, J, J, J, J, J, J], [.dead, .arr (encL en_Row y1), .arr (encL en_i64 y2)], 1⟩
theorem L44_0_ok {rec : (List Row) → Node → Int → Option (List Row)} (hrec : ∀ x0 x1 x2 r, rec x0 x1 x2 = some r → callW Tryz.prog A0 44 [.ref 0 0 x0.length 5, .p (.agg (pv_Node x1)), iv x2] [.arr (encL en_Row x0)] = some (.ref 1 0 r.length 5, [.dead, .arr (encL en_Row r)])) (s7 : Int) (s35 : (List Node)) (s36 : Int) : ∀ s st o, ghostsD g44_0 st = some (F44_0 s7 s35 s36 s) → iter (tree_list_L0 rec s7 s35 s36) s = some o →
    Wp (evW Tryz.prog A0 44 (.loop L44_0) st) (OutQ (F44_0 s7 s35 s36) g44_0 (fun n s st => n = 0 ∧ ghostsD [.keep [0, 7, 8, 35, 36, 37]] st = some (F44_0 s7 s35 s36 s)) (fun r st => finishD Tryz.prog A0 44 Tryz.f44 st = some (.ref 1 0 r.length 5, [.dead, .arr (encL en_Row r)])) o) := by
 refine Wp.iter ?_
 intro s st o hg h
 obtain ⟨s37, y1, y2⟩ := s
 unfold tree_list_L0 at h; unfold g44_0 F44_0 at hg ⊢
 (try simp only [] at h hg)
 unfold L44_0 bodyOf Tryz.f44; simp only [loopsOf, ens]
 revert h
 repeat' first | (with_reducible refine gR fun _ _ _ _ => ?_) | (with_reducible refine gB fun _ _ => ?_) | (with_reducible refine gI (fun _ _ => ?_) (fun _ _ => ?_))
 all_goals
  intro h; obtain rfl := Option.some.inj h
  first | (simp (maxSteps := 10000000) (implicitDefEqProofs := false) (disch := first | with_reducible assumption | exact rfl | exact im_ _ | (fail_if_success show Kn _ _); omega | (show (_ : Int) < _; simp only [List.length_set, cpL_len] at *; omega)) only [bs, rs44, ls44, Nat.reduceAdd, ↓reduceIte, c66_0, lenD_lst u23, lenD_ref u48, loadD_iagg a25 z25, loadD_pagg a25 z25, loadD_ptr a22, loadD_ptr a23, loadD_ptr a3, loadD_ptr a9, own_ref, q44_0 hrec, storeD_agg z25, storeD_int z3, wksL_en_i64, wksL_en_str, wks_nil_, hg]; first | (exact ⟨(rfl : Ex.normal = Ex.normal), by (try simp only [List.length_set, cpL_len]); kernel_rfl⟩) | (exact ⟨(rfl : Ex.exit 0 = Ex.exit 0), rfl, by kernel_rfl⟩)) | (exfalso; omega)
theorem f44_ok {rec : (List Row) → Node → Int → Option (List Row)} (hrec : ∀ x0 x1 x2 r, rec x0 x1 x2 = some r → callW Tryz.prog A0 44 [.ref 0 0 x0.length 5, .p (.agg (pv_Node x1)), iv x2] [.arr (encL en_Row x0)] = some (.ref 1 0 r.length 5, [.dead, .arr (encL en_Row r)]))  (x0 : (List Row)) (x1 : Node) (x2 : Int) (r : (List Row)) (h : tree_list.body rec x0 x1 x2 = some r) : callW Tryz.prog A0 44 [.ref 0 0 x0.length 5, .p (.agg (pv_Node x1)), iv x2] [.arr (encL en_Row x0)] = some (.ref 1 0 r.length 5, [.dead, .arr (encL en_Row r)]) := by
 refine call_ofI (fn := Tryz.f44) (c := bodyOf Tryz.f44) 55 rfl rfl (by kernel_rfl) (by kernel_rfl) (by kernel_rfl) ?_
 unfold tree_list.body at h; unfold bodyOf Tryz.f44; simp only [ens]
 revert h
 refine gB fun r1 h2 => ?_
 refine gW fun h5 => ?_
 have h4 : ∀ (H : List Ob) (id : Nat), apOb H id 0 x0.length 1 5 5 80 [.v (.int .i64 x2), .v (.int .i64 x1.Kind), .v (.string x1.Text), .lst false r1.length (encL en_str r1), .lst false 0 []] (some (.arr (encL en_Row x0))) = some (.ref H.length 0 (x0 ++ [(Row.mk x2 x1.Kind x1.Text r1 ([] : List Int))]).length 5, H.set id .dead ++ [.arr (encL en_Row (x0 ++ [(Row.mk x2 x1.Kind x1.Text r1 ([] : List Int))]))]) := fun H id => ap_enc (y := [(Row.mk x2 x1.Kind x1.Text r1 ([] : List Int))]) en_Row_len (by first | rfl | omega) rfl (by first | (simp only [encL_cons, encL_nil, en_Row_eq, List.cons_append, List.nil_append]; done) | (simp only [encL_cons, encL_nil, en_Row_eq, List.cons_append, List.nil_append]; rfl) | rfl) (by assumption)
 refine gI (fun h6 _ => ?_) (fun h6 _ => ?_)
 ·intro h; obtain rfl := Option.some.inj h
  simp (maxSteps := 10000000) (implicitDefEqProofs := false) (disch := first | with_reducible assumption | exact rfl | exact im_ _ | (fail_if_success show Kn _ _); omega | (show (_ : Int) < _; simp only [List.length_set, cpL_len] at *; omega)) only [bs, rs44, ls44, Nat.reduceAdd, ↓reduceIte, c66_0, lenD_lst u23, lenD_ref u48, loadD_iagg a25 z25, loadD_pagg a25 z25, loadD_ptr a22, loadD_ptr a23, loadD_ptr a3, loadD_ptr a9, own_ref, q44_0 hrec, storeD_agg z25, storeD_int z3, wksL_en_i64, wksL_en_str, wks_nil_, h4]
  refine ⟨by simp, ?_⟩; show _ = _; kernel_rfl
 ·refine gW fun ⟨h7, h8⟩ => ?_
  refine gB fun o h20 => ?_
  intro h
  simp (maxSteps := 10000000) (implicitDefEqProofs := false) (disch := first | with_reducible assumption | exact rfl | exact im_ _ | (fail_if_success show Kn _ _); omega | (show (_ : Int) < _; simp only [List.length_set, cpL_len] at *; omega)) only [bs, rs44, ls44, Nat.reduceAdd, ↓reduceIte, c66_0, lenD_lst u23, lenD_ref u48, loadD_iagg a25 z25, loadD_pagg a25 z25, loadD_ptr a22, loadD_ptr a23, loadD_ptr a3, loadD_ptr a9, own_ref, q44_0 hrec, storeD_agg z25, storeD_int z3, wksL_en_i64, wksL_en_str, wks_nil_, h4]
  refine Wp.ctx (fun x => seqW _ _ _ _ (blockW _ (x))) (L44_0_ok hrec (x0.length : Int) x1.Kids (x1.Kids.length : Int) ((0 : Int), (x0 ++ [(Row.mk x2 x1.Kind x1.Text r1 ([] : List Int))]), (List.replicate (x1.Kids.length : Int).toNat (0 : Int))) _ o (by kernel_rfl) h20) ?_
  intro e st hq
  cases o with
  | next _ => (first | cases h | (simp at h))
  | jmp n_ s_ =>
   obtain ⟨rfl, rfl, hq⟩ := hq
   obtain ⟨s37_21, y1_21, y2_21⟩ := s_
   unfold F44_0 at hq
   (try simp only [] at h hq)
   revert h
   refine gR fun v22 h23 h23a h23b => ?_
   have h24 : storeD Tryz.prog [.dead, .arr (encL en_Row y1_21), .arr (encL en_i64 y2_21)] 50 (.ptr 1 (ato (x0.length : Int) 5 + 4)) (.ref 2 0 y2_21.length 1) = some [.dead, .arr (encL en_Row (y1_21.set (x0.length : Int).toNat (Row.mk v22.Parent v22.Kind v22.Text v22.Gaps y2_21))), .frz (encL en_i64 y2_21)] := (storeD_row (v' := (Row.mk v22.Parent v22.Kind v22.Text v22.Gaps y2_21)) (k := 4) z50 en_Row_len en_i64_len rfl rfl rfl (by first | rfl | omega) h23 (by decide) (by rw [en_Row_eq, en_Row_eq]; rfl)).trans rfl
   have h25 : (y1_21.set (x0.length : Int).toNat (Row.mk v22.Parent v22.Kind v22.Text v22.Gaps y2_21)).length = y1_21.length := List.length_set
   intro h; obtain rfl := Option.some.inj h
   simp (maxSteps := 10000000) (implicitDefEqProofs := false) (disch := first | with_reducible assumption | exact rfl | exact im_ _ | (fail_if_success show Kn _ _); omega | (show (_ : Int) < _; simp only [List.length_set, cpL_len] at *; omega)) only [bs, rs44, ls44, Nat.reduceAdd, ↓reduceIte, c66_0, lenD_lst u23, lenD_ref u48, loadD_iagg a25 z25, loadD_pagg a25 z25, loadD_ptr a22, loadD_ptr a23, loadD_ptr a3, loadD_ptr a9, own_ref, q44_0 hrec, storeD_agg z25, storeD_int z3, wksL_en_i64, wksL_en_str, wks_nil_, h4, hq, h24]
   refine ⟨by simp, ?_⟩; show _ = _; simp only [List.length_set, cpL_len]; kernel_rfl
  | ret _ => (first | cases h | (simp at h))
def ls44n := And.intro @al_25 (And.intro @ap_48_48 (And.intro @bs_48_1 (And.intro @bu_57_0_1_2_3 (And.intro @faP_25_0 (And.intro @faP_25_1 (And.intro @faP_25_2 (And.intro @faP_25_3 (And.intro @faP_57_4 (And.intro @idxL_23 (And.intro @idxR_48 (And.intro @idxR_50 (And.intro @lk_frz_25 (And.intro @mk_50 (And.intro @sa_4_0_4 (And.intro @stf_3_x (And.intro @varld_4_0_0 (And.intro @varld_4_0_1 (And.intro @varld_4_0_2 (And.intro @varld_4_0_3 (@varlv_4_0_4))))))))))))))))))))
noncomputable def F44n_0 (s7 : Int) (s35 : (List Node)) (s36 : Int) : (Int × (List Row) × (List Int)) → St := fun (s37, y0, y1) => ⟨[.ref 0 0 y0.length 5, J, J, J, J, J, J, iv s7, .ref 1 0 y1.length 1, J, J, J, J, J, J, J, J, J, J, J, J, J, J, J, J, J, J, J, J, J, J, J, J, J, J, .p (.lst false s35.length (encL en_Node s35)), iv s36, iv s37, J, J, J, J, J, J, J, J, J, J, J, J, J, J, J, J, J, J, J, J], [.arr (encL en_Row y0), .arr (encL en_i64 y1)], 0⟩
theorem L44n_0_ok {rec : (List Row) → Node → Int → Option (List Row)} (hrec : ∀ x0 x1 x2 r, rec x0 x1 x2 = some r → callW Tryz.prog A0 44 [.ref 0 0 x0.length 5, .p (.agg (pv_Node x1)), iv x2] [.arr (encL en_Row x0)] = some (.ref 1 0 r.length 5, [.dead, .arr (encL en_Row r)])) (s7 : Int) (s35 : (List Node)) (s36 : Int) : ∀ s st o, ghostsD g44_0 st = some (F44n_0 s7 s35 s36 s) → iter (tree_list_L0 rec s7 s35 s36) s = some o →
    Wp (evW Tryz.prog A0 44 (.loop L44_0) st) (OutQ (F44n_0 s7 s35 s36) g44_0 (fun n s st => n = 0 ∧ ghostsD [.keep [0, 7, 8, 35, 36, 37]] st = some (F44n_0 s7 s35 s36 s)) (fun r st => finishD Tryz.prog A0 44 Tryz.f44 st = some (.ref 0 0 r.length 5, [.arr (encL en_Row r)])) o) := by
 refine Wp.iter ?_
 intro s st o hg h
 obtain ⟨s37, y0, y1⟩ := s
 unfold tree_list_L0 at h; unfold g44_0 F44n_0 at hg ⊢
 (try simp only [] at h hg)
 unfold L44_0 bodyOf Tryz.f44; simp only [loopsOf, ens]
 revert h
 repeat' first | (with_reducible refine gR fun _ _ _ _ => ?_) | (with_reducible refine gB fun _ _ => ?_) | (with_reducible refine gI (fun _ _ => ?_) (fun _ _ => ?_))
 all_goals
  intro h; obtain rfl := Option.some.inj h
  first | (simp (maxSteps := 10000000) (implicitDefEqProofs := false) (disch := first | with_reducible assumption | exact rfl | exact im_ _ | (fail_if_success show Kn _ _); omega | (show (_ : Int) < _; simp only [List.length_set, cpL_len] at *; omega)) only [bs, rs44, ls44n, Nat.reduceAdd, ↓reduceIte, c66_0, lenD_lst u23, lenD_ref u48, loadD_iagg a25 z25, loadD_pagg a25 z25, loadD_ptr a22, loadD_ptr a23, loadD_ptr a3, loadD_ptr a9, own_ref, q44_1 hrec, storeD_agg z25, storeD_int z3, wksL_en_i64, wksL_en_str, wks_nil_, hg]; first | (exact ⟨(rfl : Ex.normal = Ex.normal), by (try simp only [List.length_set, cpL_len]); kernel_rfl⟩) | (exact ⟨(rfl : Ex.exit 0 = Ex.exit 0), rfl, by kernel_rfl⟩)) | (exfalso; omega)
theorem f44n_ok {rec : (List Row) → Node → Int → Option (List Row)} (hrec : ∀ x0 x1 x2 r, rec x0 x1 x2 = some r → callW Tryz.prog A0 44 [.ref 0 0 x0.length 5, .p (.agg (pv_Node x1)), iv x2] [.arr (encL en_Row x0)] = some (.ref 1 0 r.length 5, [.dead, .arr (encL en_Row r)]))  (x0 : (List Row)) (x1 : Node) (x2 : Int) (hx0 : x0 = []) (r : (List Row)) (h : tree_list.body rec x0 x1 x2 = some r) : callW Tryz.prog A0 44 [.p (.lst true 0 []), .p (.agg (pv_Node x1)), iv x2] [] = some (.ref 0 0 r.length 5, [.arr (encL en_Row r)]) := by
 refine call_ofI (fn := Tryz.f44) (c := bodyOf Tryz.f44) 55 rfl rfl (by kernel_rfl) (by kernel_rfl) (by kernel_rfl) ?_
 unfold tree_list.body at h; unfold bodyOf Tryz.f44; simp only [ens]
 have hown := own_nil' (en := en_Row) hx0 5
 revert h
 refine gB fun r1 h2 => ?_
 refine gW fun h5 => ?_
 have h4 : ∀ (H : List Ob) (id : Nat), apOb H id 0 x0.length 1 5 5 80 [.v (.int .i64 x2), .v (.int .i64 x1.Kind), .v (.string x1.Text), .lst false r1.length (encL en_str r1), .lst false 0 []] (some (.arr (encL en_Row x0))) = some (.ref H.length 0 (x0 ++ [(Row.mk x2 x1.Kind x1.Text r1 ([] : List Int))]).length 5, H.set id .dead ++ [.arr (encL en_Row (x0 ++ [(Row.mk x2 x1.Kind x1.Text r1 ([] : List Int))]))]) := fun H id => ap_enc (y := [(Row.mk x2 x1.Kind x1.Text r1 ([] : List Int))]) en_Row_len (by first | rfl | omega) rfl (by first | (simp only [encL_cons, encL_nil, en_Row_eq, List.cons_append, List.nil_append]; done) | (simp only [encL_cons, encL_nil, en_Row_eq, List.cons_append, List.nil_append]; rfl) | rfl) (by assumption)
 refine gI (fun h6 _ => ?_) (fun h6 _ => ?_)
 ·intro h; obtain rfl := Option.some.inj h
  simp (maxSteps := 10000000) (implicitDefEqProofs := false) (disch := first | with_reducible assumption | exact rfl | exact im_ _ | (fail_if_success show Kn _ _); omega | (show (_ : Int) < _; simp only [List.length_set, cpL_len] at *; omega)) only [bs, rs44, ls44n, Nat.reduceAdd, ↓reduceIte, c66_0, lenD_lst u23, lenD_ref u48, loadD_iagg a25 z25, loadD_pagg a25 z25, loadD_ptr a22, loadD_ptr a23, loadD_ptr a3, loadD_ptr a9, own_ref, q44_1 hrec, storeD_agg z25, storeD_int z3, wksL_en_i64, wksL_en_str, wks_nil_, hown, h4]
  refine ⟨by simp, ?_⟩; show _ = _; kernel_rfl
 ·refine gW fun ⟨h7, h8⟩ => ?_
  refine gB fun o h20 => ?_
  intro h
  simp (maxSteps := 10000000) (implicitDefEqProofs := false) (disch := first | with_reducible assumption | exact rfl | exact im_ _ | (fail_if_success show Kn _ _); omega | (show (_ : Int) < _; simp only [List.length_set, cpL_len] at *; omega)) only [bs, rs44, ls44n, Nat.reduceAdd, ↓reduceIte, c66_0, lenD_lst u23, lenD_ref u48, loadD_iagg a25 z25, loadD_pagg a25 z25, loadD_ptr a22, loadD_ptr a23, loadD_ptr a3, loadD_ptr a9, own_ref, q44_1 hrec, storeD_agg z25, storeD_int z3, wksL_en_i64, wksL_en_str, wks_nil_, hown, h4]
  refine Wp.ctx (fun x => seqW _ _ _ _ (blockW _ (x))) (L44n_0_ok hrec (x0.length : Int) x1.Kids (x1.Kids.length : Int) ((0 : Int), (x0 ++ [(Row.mk x2 x1.Kind x1.Text r1 ([] : List Int))]), (List.replicate (x1.Kids.length : Int).toNat (0 : Int))) _ o (by kernel_rfl) h20) ?_
  intro e st hq
  cases o with
  | next _ => (first | cases h | (simp at h))
  | jmp n_ s_ =>
   obtain ⟨rfl, rfl, hq⟩ := hq
   obtain ⟨s37_21, y0_21, y1_21⟩ := s_
   unfold F44n_0 at hq
   (try simp only [] at h hq)
   revert h
   refine gR fun v22 h23 h23a h23b => ?_
   have h24 : storeD Tryz.prog [.arr (encL en_Row y0_21), .arr (encL en_i64 y1_21)] 50 (.ptr 0 (ato (x0.length : Int) 5 + 4)) (.ref 1 0 y1_21.length 1) = some [.arr (encL en_Row (y0_21.set (x0.length : Int).toNat (Row.mk v22.Parent v22.Kind v22.Text v22.Gaps y1_21))), .frz (encL en_i64 y1_21)] := (storeD_row (v' := (Row.mk v22.Parent v22.Kind v22.Text v22.Gaps y1_21)) (k := 4) z50 en_Row_len en_i64_len rfl rfl rfl (by first | rfl | omega) h23 (by decide) (by rw [en_Row_eq, en_Row_eq]; rfl)).trans rfl
   have h25 : (y0_21.set (x0.length : Int).toNat (Row.mk v22.Parent v22.Kind v22.Text v22.Gaps y1_21)).length = y0_21.length := List.length_set
   intro h; obtain rfl := Option.some.inj h
   simp (maxSteps := 10000000) (implicitDefEqProofs := false) (disch := first | with_reducible assumption | exact rfl | exact im_ _ | (fail_if_success show Kn _ _); omega | (show (_ : Int) < _; simp only [List.length_set, cpL_len] at *; omega)) only [bs, rs44, ls44n, Nat.reduceAdd, ↓reduceIte, c66_0, lenD_lst u23, lenD_ref u48, loadD_iagg a25 z25, loadD_pagg a25 z25, loadD_ptr a22, loadD_ptr a23, loadD_ptr a3, loadD_ptr a9, own_ref, q44_1 hrec, storeD_agg z25, storeD_int z3, wksL_en_i64, wksL_en_str, wks_nil_, hown, h4, hq, h24]
   refine ⟨by simp, ?_⟩; show _ = _; simp only [List.length_set, cpL_len]; kernel_rfl
  | ret _ => (first | cases h | (simp at h))
theorem f44_spec : ∀ (x0 : (List Row)) (x1 : Node) (x2 : Int) r, tree_listS x0 x1 x2 = some r → callW Tryz.prog A0 44 [.ref 0 0 x0.length 5, .p (.agg (pv_Node x1)), iv x2] [.arr (encL en_Row x0)] = some (.ref 1 0 r.length 5, [.dead, .arr (encL en_Row r)]) := by
 have key : ∀ n (x0 : (List Row)) (x1 : Node) (x2 : Int) r, tree_listS_mu x0 x1 x2 < n → tree_listS x0 x1 x2 = some r → callW Tryz.prog A0 44 [.ref 0 0 x0.length 5, .p (.agg (pv_Node x1)), iv x2] [.arr (encL en_Row x0)] = some (.ref 1 0 r.length 5, [.dead, .arr (encL en_Row r)]) := by
  intro n
  induction n with
  | zero => intro x0 x1 x2 r h; omega
  | succ n ih =>
   intro x0 x1 x2 r hn h
   refine f44_ok (rec := fun x0' x1' x2' => if tree_listS_mu x0' x1' x2' < tree_listS_mu x0 x1 x2 then tree_listS x0' x1' x2' else none) ?_ x0 x1 x2 r (tree_listS_body x0 x1 x2 r h)
   intro x0' x1' x2' r' h'
   by_cases hm : tree_listS_mu x0' x1' x2' < tree_listS_mu x0 x1 x2
   ·rw [if_pos hm] at h'; exact ih x0' x1' x2' r' (by omega) h'
   ·rw [if_neg hm] at h'; cases h'
 intro x0 x1 x2 r h
 exact key _ x0 x1 x2 r (Nat.lt_succ_self _) h
theorem f44n_spec (x1 : Node) (x2 : Int) r (h : tree_listS ([] : List Row) x1 x2 = some r) : callW Tryz.prog A0 44 [.p (.lst true 0 []), .p (.agg (pv_Node x1)), iv x2] [] = some (.ref 0 0 r.length 5, [.arr (encL en_Row r)]) := by
 refine f44n_ok (rec := fun x0' x1' x2' => if tree_listS_mu x0' x1' x2' < tree_listS_mu ([] : List Row) x1 x2 then tree_listS x0' x1' x2' else none) ?_ ([] : List Row) x1 x2 rfl r (tree_listS_body ([] : List Row) x1 x2 r h)
 intro x0' x1' x2' r' h'
 by_cases hm : tree_listS_mu x0' x1' x2' < tree_listS_mu ([] : List Row) x1 x2
 ·rw [if_pos hm] at h'; exact f44_spec x0' x1' x2' r' h'
 ·rw [if_neg hm] at h'; cases h'
theorem tree_list_calln {b1 b2 : Bool} {H : List Ob} {x1 : Node} {x2 : Int} {r : (List Row)} (h : tree_listS ([] : List Row) x1 x2 = some r) : callD (callW Tryz.prog A0) A0 H 44 [.p (.lst true 0 []), .p (.agg [.v (.int .i64 x1.Kind), .v (.string x1.Text), .lst b1 x1.Gaps.length (encL en_str x1.Gaps), .lst b2 x1.Kids.length (encL en_Node x1.Kids)]), iv x2] = some (.ref H.length 0 r.length 5, some (H ++ [.arr (encL en_Row r)])) :=
 callD_mut0 (args := [.lst true 0 [], .agg (pv_Node x1), .v (.int .i64 x2)]) (by simp only [List.map_cons, List.map_nil, wkDv, wk, wks, wkL]) rfl (f44n_spec x1 x2 _ h)
def ls26 := @varlv_4_0_4
theorem q44_2 {a1 : Node} {a2 : Int} {H : List Ob} {r9001 : (List Row)} (h9002 : tree_listS ([] : List Row) a1 a2 = some r9001) : callD (callW Tryz.prog A0) A0 H 44 [.p (.lst true 0 []), .p (.agg (pv_Node a1)), iv a2] = some (.ref H.length 0 r9001.length 5, some (H ++ [.arr (encL en_Row r9001)])) := tree_list_calln (H := H) h9002
theorem f26_ok  (x0 : Node) (r : (List Row)) (h : tree_Rows x0 = some r) : callW Tryz.prog A0 26 [.p (.agg (pv_Node x0))] [] = some (.p (.lst false r.length (encL en_Row r)), []) := by
 refine call_ofI (fn := Tryz.f26) (c := bodyOf Tryz.f26) 4 rfl rfl (by kernel_rfl) (by kernel_rfl) (by kernel_rfl) ?_
 unfold tree_Rows at h; unfold bodyOf Tryz.f26; simp only [ens]
 revert h
 repeat' (with_reducible refine gB fun _ _ => ?_)
 intro h; obtain rfl := Option.some.inj h
 simp (maxSteps := 10000000) (implicitDefEqProofs := false) (disch := first | with_reducible assumption | exact rfl | exact im_ _ | (fail_if_success show Kn _ _); omega) only [bs, rs26, ls26, Nat.reduceAdd, ↓reduceIte, loadD_pagg a25 z25, q44_2]
 refine ⟨by simp, ?_⟩; exact finish_is (l := [1]) rfl rfl rfl (purify1_enc en_Row_len rfl (by first | rfl | omega | simp)) (by first | rfl | (simp only [wk, wks, wkL]; first | done | rfl))
def ls16 := And.intro @al_43 (And.intro @ce_4_x (And.intro @ce_57__1 (And.intro @faI_57_1 (And.intro @faP_25_0 (And.intro @faP_43_0 (And.intro @faP_43_1 (And.intro @idxL_29 (And.intro @idxL_48 (And.intro @idxR_67 (And.intro @lk_frz_43 (And.intro @mk_67 (And.intro @sa_2_0_2 (And.intro @stf_4_x (And.intro @varld_2_0_0 (And.intro @varld_2_0_1 (And.intro @varld_4_0_0 (@varlv_4_0_4)))))))))))))))))
theorem c26_0 {H : List Ob} {a1 : Node} {r : (List Row)} (h : tree_Rows a1 = some r) : callD (callW Tryz.prog A0) A0 H 26 [.p (.agg (pv_Node a1))] = some (.p (.lst false r.length (encL en_Row r)), none) :=
 callD_fun (args := [.agg (pv_Node a1)]) rfl rfl rfl (by simp only [List.map_cons, List.map_nil, wk, wks, wkL]; exact f26_ok a1 _ h)
noncomputable def L16_0 : Code := (loopsOf (bodyOf Tryz.f16)).getD 0 .skip
def g16_0 : List Ghost := [.weak [7, 8, 20], .keep [3, 4, 7, 8, 9, 10, 20, 21, 22]]
noncomputable def F16_0 (s7 : (List Row)) (s8 : (List Row)) (s20 : (List Pair)) (s21 : Int) (w0_0 : Int) (w0_1 : ByteArray) (w0_2 : (List ByteArray)) (w0_3 : (List Node)) (w1_0 : Int) (w1_1 : ByteArray) (w1_2 : (List ByteArray)) (w1_3 : (List Node)) : (Int × Int × (List Bool)) → St := fun (s10, s22, y2) => ⟨[J, J, J, .ptr 0 0, .ptr 1 0, J, J, .p (.lst false s7.length (encL en_Row s7)), .p (.lst false s8.length (encL en_Row s8)), .ref 2 0 y2.length 1, iv s10, J, J, J, J, J, J, J, J, J, .p (.lst false s20.length (encL en_Pair s20)), iv s21, iv s22, J, J, J, J, J, J, J, J, J, J, J, J, J, J, J, J, J, J, J, J, J, J, J, J, J, J, J, J, J, J, J, J, J, J, J, J, J, J, J, J, J, J, J, J, J, J, J, J, J, J, J, J, J, J, J, J, J, J, J, J, J, J, J, J, J, J, J, J, J, J, J, J, J], [.var [iv w0_0, .p (.v (.string w0_1)), .p (.lst false w0_2.length (encL en_str w0_2)), .p (.lst false w0_3.length (encL en_Node w0_3))], .var [iv w1_0, .p (.v (.string w1_1)), .p (.lst false w1_2.length (encL en_str w1_2)), .p (.lst false w1_3.length (encL en_Node w1_3))], .arr (encL en_bool y2)], 0⟩
theorem L16_0_ok (s7 : (List Row)) (s8 : (List Row)) (s20 : (List Pair)) (s21 : Int) (w0_0 : Int) (w0_1 : ByteArray) (w0_2 : (List ByteArray)) (w0_3 : (List Node)) (w1_0 : Int) (w1_1 : ByteArray) (w1_2 : (List ByteArray)) (w1_3 : (List Node)) : ∀ s st o, ghostsD g16_0 st = some (F16_0 s7 s8 s20 s21 w0_0 w0_1 w0_2 w0_3 w1_0 w1_1 w1_2 w1_3 s) → iter (match_Check_L0 s7 s8 s20 s21 w0_0 w0_1 w0_2 w0_3 w1_0 w1_1 w1_2 w1_3) s = some o →
    Wp (evW Tryz.prog A0 16 (.loop L16_0) st) (OutQ (F16_0 s7 s8 s20 s21 w0_0 w0_1 w0_2 w0_3 w1_0 w1_1 w1_2 w1_3) g16_0 (fun n s st => n = 0 ∧ ghostsD [.keep [3, 4, 7, 8, 9, 10, 20, 21, 22]] st = some (F16_0 s7 s8 s20 s21 w0_0 w0_1 w0_2 w0_3 w1_0 w1_1 w1_2 w1_3 s)) (fun r st => finishD Tryz.prog A0 16 Tryz.f16 st = some (.p (.v (.int .i64 r)), [])) o) := by
 refine Wp.iter ?_
 intro s st o hg h
 obtain ⟨s10, s22, y2⟩ := s
 unfold match_Check_L0 at h; unfold g16_0 F16_0 at hg ⊢
 (try simp only [] at h hg)
 unfold L16_0 bodyOf Tryz.f16; simp only [loopsOf, ens]
 revert h
 repeat' first | (with_reducible refine gR fun _ _ _ _ => ?_) | (with_reducible refine gT (fun _ _ => ?_) (fun _ _ => ?_)) | (with_reducible refine gI (fun _ _ => ?_) (fun _ _ => ?_))
 all_goals
  intro h; obtain rfl := Option.some.inj h
  first | (simp (maxSteps := 10000000) (implicitDefEqProofs := false) (disch := first | with_reducible assumption | exact rfl | exact im_ _ | (fail_if_success show Kn _ _); omega | (show (_ : Int) < _; simp only [List.length_set, cpL_len] at *; omega)) only [bs, rs16, ls16, Nat.reduceAdd, ↓reduceIte, binD_neq_bool Tryz.underlying4, c26_0, lenD_lst u29, lenD_lst u48, loadD_iagg a43 z43, loadD_iptr a3, loadD_pagg a25 z25, loadD_ptr a3, loadD_ptr a4, storeD_agg z43, storeD_bool z4, hg]; first | (refine ⟨(rfl : Ex.ret = Ex.ret), ?_⟩; exact fin_sc rfl rfl rfl rfl) | (exact ⟨(rfl : Ex.normal = Ex.normal), by (try simp only [List.length_set, cpL_len]); kernel_rfl⟩) | (exact ⟨(rfl : Ex.exit 0 = Ex.exit 0), rfl, by kernel_rfl⟩)) | (exfalso; omega)
theorem f16_ok  (x0 : Node) (x1 : Node) (x2 : (List Pair)) (r : Int) (h : match_Check x0 x1 x2 = some r) : callW Tryz.prog A0 16 [.p (.agg (pv_Node x0)), .p (.agg (pv_Node x1)), .p (.lst false x2.length (encL en_Pair x2))] [] = some (.p (.v (.int .i64 r)), []) := by
 refine call_ofI (fn := Tryz.f16) (c := bodyOf Tryz.f16) 93 rfl rfl (by kernel_rfl) (by kernel_rfl) (by kernel_rfl) ?_
 unfold match_Check at h; unfold bodyOf Tryz.f16; simp only [ens]
 revert h
 refine gB fun r1 h2 => ?_
 refine gB fun r4 h5 => ?_
 refine gW fun ⟨h7, h8⟩ => ?_
 refine gB fun o h31 => ?_
 intro h
 simp (maxSteps := 10000000) (implicitDefEqProofs := false) (disch := first | with_reducible assumption | exact rfl | exact im_ _ | (fail_if_success show Kn _ _); omega | (show (_ : Int) < _; simp only [List.length_set, cpL_len] at *; omega)) only [bs, rs16, ls16, Nat.reduceAdd, ↓reduceIte, binD_neq_bool Tryz.underlying4, c26_0, lenD_lst u29, lenD_lst u48, loadD_iagg a43 z43, loadD_iptr a3, loadD_pagg a25 z25, loadD_ptr a3, loadD_ptr a4, storeD_agg z43, storeD_bool z4]
 refine Wp.ctx (fun x => seqW _ _ _ _ (blockW _ (x))) (L16_0_ok r1 r4 x2 (x2.length : Int) x0.Kind x0.Text x0.Gaps x0.Kids x1.Kind x1.Text x1.Gaps x1.Kids ((-1 : Int), (0 : Int), (List.replicate (r4.length : Int).toNat false)) _ o (by kernel_rfl) h31) ?_
 intro e st hq
 cases o with
 | next _ => (first | cases h | (simp at h))
 | jmp n_ s_ =>
  obtain ⟨rfl, rfl, hq⟩ := hq
  obtain ⟨s10_32, s22_32, y2_32⟩ := s_
  unfold F16_0 at hq
  (try simp only [] at h hq)
  revert h
  repeat' first | (with_reducible refine gR fun _ _ _ _ => ?_) | (with_reducible refine gT (fun _ _ => ?_) (fun _ _ => ?_)) | (with_reducible refine gI (fun _ _ => ?_) (fun _ _ => ?_))
  all_goals
   intro h; obtain rfl := Option.some.inj h
   first | (simp (maxSteps := 10000000) (implicitDefEqProofs := false) (disch := first | with_reducible assumption | exact rfl | exact im_ _ | (fail_if_success show Kn _ _); omega | (show (_ : Int) < _; simp only [List.length_set, cpL_len] at *; omega)) only [bs, rs16, ls16, Nat.reduceAdd, ↓reduceIte, binD_neq_bool Tryz.underlying4, c26_0, lenD_lst u29, lenD_lst u48, loadD_iagg a43 z43, loadD_iptr a3, loadD_pagg a25 z25, loadD_ptr a3, loadD_ptr a4, storeD_agg z43, storeD_bool z4, hq]; refine ⟨by simp, ?_⟩; exact fin_sc rfl rfl rfl rfl) | (exfalso; omega)
 | ret r38 =>
  obtain ⟨rfl, hq⟩ := hq
  obtain rfl := Option.some.inj h
  simp (maxSteps := 10000000) (implicitDefEqProofs := false) (disch := first | with_reducible assumption | exact rfl | exact im_ _ | (fail_if_success show Kn _ _); omega | (show (_ : Int) < _; simp only [List.length_set, cpL_len] at *; omega)) only [bs, rs16, ls16, Nat.reduceAdd, ↓reduceIte, binD_neq_bool Tryz.underlying4, c26_0, lenD_lst u29, lenD_lst u48, loadD_iagg a43 z43, loadD_iptr a3, loadD_pagg a25 z25, loadD_ptr a3, loadD_ptr a4, storeD_agg z43, storeD_bool z4]
  exact ⟨by simp, hq⟩
def ls50 := And.intro @ap_48_48 (And.intro @ap_50_50 (And.intro @bs_48_1 (And.intro @bs_50_1 (And.intro @bu_57_0_1_2_3 (And.intro @faP_25_0 (And.intro @faP_25_1 (And.intro @faP_25_2 (And.intro @faP_25_3 (And.intro @faP_57_4 (And.intro @idxL_23 (And.intro @idxR_48 (And.intro @lk_frz_25 (And.intro @varld_4_0_0 (And.intro @varld_4_0_1 (And.intro @varld_4_0_2 (@varld_4_0_3))))))))))))))))
theorem R06_rows_rcall {rec : (List Row) → Node → Int → Option (List Row)} (hrec : ∀ x0 x1 x2 r, rec x0 x1 x2 = some r → callW Tryz.prog A0 50 [.ref 0 0 x0.length 5, .p (.agg (pv_Node x1)), iv x2] [.arr (encL en_Row x0)] = some (.ref 1 0 r.length 5, [.dead, .arr (encL en_Row r)])) {H : List Ob} {id n : Nat} {b1 b2 : Bool} {x0 : (List Row)} {x1 : Node} {x2 : Int} {r : (List Row)} : H[id]? = some (.arr (encL en_Row x0)) → n = x0.length → ∀ (h : rec x0 x1 x2 = some r), callD (callW Tryz.prog A0) A0 H 50 [.ref id 0 n 5, .p (.agg [.v (.int .i64 x1.Kind), .v (.string x1.Text), .lst b1 x1.Gaps.length (encL en_str x1.Gaps), .lst b2 x1.Kids.length (encL en_Node x1.Kids)]), iv x2] = some (.ref H.length 0 r.length 5, some (H.set id .dead ++ [.arr (encL en_Row r)])) := by
 intro hid hn h; subst hn; exact callD_mut1 (args := [.agg (pv_Node x1), .v (.int .i64 x2)]) (by simp only [List.map_cons, List.map_nil, wkDv, wk, wks, wkL]) rfl hid (hrec x0 x1 x2 _ h)
theorem c16_0 {H : List Ob} {a1 a2 : Node} {a3 : Bool} {a4 : List Pair} {r : Int} (h : match_Check a1 a2 a4 = some r) : callD (callW Tryz.prog A0) A0 H 16 [.p (.agg (pv_Node a1)), .p (.agg (pv_Node a2)), .p (.lst a3 a4.length (encL en_Pair a4))] = some (.p (.v (.int .i64 r)), none) :=
 callD_fun (args := [.agg (pv_Node a1), .agg (pv_Node a2), .lst a3 a4.length (encL en_Pair a4)]) rfl rfl rfl (by simp only [List.map_cons, List.map_nil, wk, wks, wkL]; exact f16_ok a1 a2 a4 _ h)
theorem q50_0 {rec : (List Row) → Node → Int → Option (List Row)} (hrec : ∀ x0 x1 x2 r, rec x0 x1 x2 = some r → callW Tryz.prog A0 50 [.ref 0 0 x0.length 5, .p (.agg (pv_Node x1)), iv x2] [.arr (encL en_Row x0)] = some (.ref 1 0 r.length 5, [.dead, .arr (encL en_Row r)])) {a1 : List Row} {a2 : Node} {a3 : Int} {r9001 : (List Row)} {X2 X4 : Ob} (h9002 : rec a1 a2 a3 = some r9001) : callD (callW Tryz.prog A0) A0 [.dead, .arr (encL en_Row a1), X2, .dead, X4] 50 [.ref 1 0 a1.length 5, .p (.agg (pv_Node a2)), iv a3] = some (.ref 5 0 r9001.length 5, some [.dead, .dead, X2, .dead, X4, .arr (encL en_Row r9001)]) := R06_rows_rcall hrec (H := [.dead, .arr (encL en_Row a1), X2, .dead, X4]) (id := 1) rfl (by first | rfl | omega) h9002
theorem q50_1 {rec : (List Row) → Node → Int → Option (List Row)} (hrec : ∀ x0 x1 x2 r, rec x0 x1 x2 = some r → callW Tryz.prog A0 50 [.ref 0 0 x0.length 5, .p (.agg (pv_Node x1)), iv x2] [.arr (encL en_Row x0)] = some (.ref 1 0 r.length 5, [.dead, .arr (encL en_Row r)])) {a1 : List Row} {a2 : Node} {a3 : Int} {r9001 : (List Row)} {X1 X3 : Ob} (h9002 : rec a1 a2 a3 = some r9001) : callD (callW Tryz.prog A0) A0 [.arr (encL en_Row a1), X1, .dead, X3] 50 [.ref 0 0 a1.length 5, .p (.agg (pv_Node a2)), iv a3] = some (.ref 4 0 r9001.length 5, some [.dead, X1, .dead, X3, .arr (encL en_Row r9001)]) := R06_rows_rcall hrec (H := [.arr (encL en_Row a1), X1, .dead, X3]) (id := 0) rfl (by first | rfl | omega) h9002
noncomputable def L50_0 : Code := (loopsOf (bodyOf Tryz.f50)).getD 0 .skip
def g50_0 : List Ghost := [.own 8 1, .keep [0, 4, 7, 8, 9]]
noncomputable def F50_0 (s7 : Int) (w2_0 : Int) (w2_1 : ByteArray) (w2_2 : (List ByteArray)) (w2_3 : (List Node)) : (Int × (List Row) × (List Int)) → St := fun (s9, y1, y3) => ⟨[.ref 1 0 y1.length 5, J, J, J, .ptr 2 0, J, J, iv s7, .ref 3 0 y3.length 1, iv s9, J, J, J, J, J, J, J, J, J, J, J, J, J, J, J, J, J, J, J, J, J, J, J, J, J, J, J, J, J, J, J, J, J, J, J, J, J, J, J], [.dead, .arr (encL en_Row y1), .var [iv w2_0, .p (.v (.string w2_1)), .p (.lst false w2_2.length (encL en_str w2_2)), .p (.lst false w2_3.length (encL en_Node w2_3))], .arr (encL en_i64 y3)], 1⟩
theorem L50_0_ok {rec : (List Row) → Node → Int → Option (List Row)} (hrec : ∀ x0 x1 x2 r, rec x0 x1 x2 = some r → callW Tryz.prog A0 50 [.ref 0 0 x0.length 5, .p (.agg (pv_Node x1)), iv x2] [.arr (encL en_Row x0)] = some (.ref 1 0 r.length 5, [.dead, .arr (encL en_Row r)])) (s7 : Int) (w2_0 : Int) (w2_1 : ByteArray) (w2_2 : (List ByteArray)) (w2_3 : (List Node)) : ∀ s st o, ghostsD g50_0 st = some (F50_0 s7 w2_0 w2_1 w2_2 w2_3 s) → iter (R06_rows_L0 rec s7 w2_0 w2_1 w2_2 w2_3) s = some o →
    Wp (evW Tryz.prog A0 50 (.loop L50_0) st) (OutQ (F50_0 s7 w2_0 w2_1 w2_2 w2_3) g50_0 (fun n s st => n = 0 ∧ ghostsD [.keep [0, 4, 7, 8, 9]] st = some (F50_0 s7 w2_0 w2_1 w2_2 w2_3 s)) (fun r st => finishD Tryz.prog A0 50 Tryz.f50 st = some (.ref 1 0 r.length 5, [.dead, .arr (encL en_Row r)])) o) := by
 refine Wp.iter ?_
 intro s st o hg h
 obtain ⟨s9, y1, y3⟩ := s
 unfold R06_rows_L0 at h; unfold g50_0 F50_0 at hg ⊢
 (try simp only [] at h hg)
 unfold L50_0 bodyOf Tryz.f50; simp only [loopsOf, ens]
 revert h
 refine gI (fun h3 _ => ?_) (fun h3 _ => ?_)
 ·refine gW fun h5 => ?_
  have h4 : ∀ (H : List Ob) (id : Nat), apOb H id 0 y3.length 1 1 1 8 [.v (.int .i64 (y1.length : Int))] (some (.arr (encL en_i64 y3))) = some (.ref H.length 0 (y3 ++ [(y1.length : Int)]).length 1, H.set id .dead ++ [.arr (encL en_i64 (y3 ++ [(y1.length : Int)]))]) := fun H id => ap_enc (y := [(y1.length : Int)]) en_i64_len (by first | rfl | omega) rfl (by first | (simp only [encL_cons, encL_nil, en_i64_eq, List.cons_append, List.nil_append]; done) | (simp only [encL_cons, encL_nil, en_i64_eq, List.cons_append, List.nil_append]; rfl) | rfl) (by assumption)
  repeat' first | (with_reducible refine gR fun _ _ _ _ => ?_) | (with_reducible refine gB fun _ _ => ?_)
  intro h; obtain rfl := Option.some.inj h
  simp (maxSteps := 10000000) (implicitDefEqProofs := false) (disch := first | with_reducible assumption | exact rfl | exact im_ _ | (fail_if_success show Kn _ _); omega) only [bs, rs50, ls50, Nat.reduceAdd, ↓reduceIte, lenD_lst u23, lenD_ref u48, loadD_iagg a25 z25, loadD_ptr a22, loadD_ptr a23, loadD_ptr a3, loadD_ptr a9, own_ref, q50_0 hrec, wksL_en_i64, wksL_en_str, wks_nil_, hg, h4]
  exact ⟨(rfl : Ex.normal = Ex.normal), by kernel_rfl⟩
 ·intro h; obtain rfl := Option.some.inj h
  simp (maxSteps := 10000000) (implicitDefEqProofs := false) (disch := first | with_reducible assumption | exact rfl | exact im_ _ | (fail_if_success show Kn _ _); omega) only [bs, rs50, ls50, Nat.reduceAdd, ↓reduceIte, lenD_lst u23, lenD_ref u48, loadD_iagg a25 z25, loadD_ptr a22, loadD_ptr a23, loadD_ptr a3, loadD_ptr a9, own_ref, q50_0 hrec, wksL_en_i64, wksL_en_str, wks_nil_, hg]
  exact ⟨(rfl : Ex.exit 0 = Ex.exit 0), rfl, by kernel_rfl⟩
theorem f50_ok {rec : (List Row) → Node → Int → Option (List Row)} (hrec : ∀ x0 x1 x2 r, rec x0 x1 x2 = some r → callW Tryz.prog A0 50 [.ref 0 0 x0.length 5, .p (.agg (pv_Node x1)), iv x2] [.arr (encL en_Row x0)] = some (.ref 1 0 r.length 5, [.dead, .arr (encL en_Row r)]))  (x0 : (List Row)) (x1 : Node) (x2 : Int) (r : (List Row)) (h : R06_rows.body rec x0 x1 x2 = some r) : callW Tryz.prog A0 50 [.ref 0 0 x0.length 5, .p (.agg (pv_Node x1)), iv x2] [.arr (encL en_Row x0)] = some (.ref 1 0 r.length 5, [.dead, .arr (encL en_Row r)]) := by
 refine call_ofI (fn := Tryz.f50) (c := bodyOf Tryz.f50) 46 rfl rfl (by kernel_rfl) (by kernel_rfl) (by kernel_rfl) ?_
 unfold R06_rows.body at h; unfold bodyOf Tryz.f50; simp only [ens]
 revert h
 refine gW fun h2 => ?_
 have h1 : ∀ (H : List Ob) (id : Nat), apOb H id 0 x0.length 1 5 5 80 [.v (.int .i64 x2), .v (.int .i64 x1.Kind), .v (.string x1.Text), .lst false x1.Gaps.length (encL en_str x1.Gaps), .lst false 0 []] (some (.arr (encL en_Row x0))) = some (.ref H.length 0 (x0 ++ [(Row.mk x2 x1.Kind x1.Text x1.Gaps ([] : List Int))]).length 5, H.set id .dead ++ [.arr (encL en_Row (x0 ++ [(Row.mk x2 x1.Kind x1.Text x1.Gaps ([] : List Int))]))]) := fun H id => ap_enc (y := [(Row.mk x2 x1.Kind x1.Text x1.Gaps ([] : List Int))]) en_Row_len (by first | rfl | omega) rfl (by first | (simp only [encL_cons, encL_nil, en_Row_eq, List.cons_append, List.nil_append]; done) | (simp only [encL_cons, encL_nil, en_Row_eq, List.cons_append, List.nil_append]; rfl) | rfl) (by assumption)
 refine gB fun o h12 => ?_
 intro h
 simp (maxSteps := 10000000) (implicitDefEqProofs := false) (disch := first | with_reducible assumption | exact rfl | exact im_ _ | (fail_if_success show Kn _ _); omega) only [bs, rs50, ls50, Nat.reduceAdd, ↓reduceIte, lenD_lst u23, lenD_ref u48, loadD_iagg a25 z25, loadD_ptr a22, loadD_ptr a23, loadD_ptr a3, loadD_ptr a9, own_ref, q50_0 hrec, wksL_en_i64, wksL_en_str, wks_nil_, h1]
 refine Wp.ctx (fun x => seqW _ _ _ _ (blockW _ (x))) (L50_0_ok hrec (x0.length : Int) x1.Kind x1.Text x1.Gaps x1.Kids ((0 : Int), (x0 ++ [(Row.mk x2 x1.Kind x1.Text x1.Gaps ([] : List Int))]), ([] : List Int)) _ o (by kernel_rfl) h12) ?_
 intro e st hq
 cases o with
 | next _ => (first | cases h | (simp at h))
 | jmp n_ s_ =>
  obtain ⟨rfl, rfl, hq⟩ := hq
  obtain ⟨s9_13, y1_13, y3_13⟩ := s_
  unfold F50_0 at hq
  (try simp only [] at h hq)
  revert h
  refine gR fun v14 h15 h15a h15b => ?_
  have h16 : storeD Tryz.prog [.dead, .arr (encL en_Row y1_13), .var [iv x1.Kind, .p (.v (.string x1.Text)), .p (.lst false x1.Gaps.length (encL en_str x1.Gaps)), .p (.lst false x1.Kids.length (encL en_Node x1.Kids))], .arr (encL en_i64 y3_13)] 50 (.ptr 1 (ato (x0.length : Int) 5 + 4)) (.ref 3 0 y3_13.length 1) = some [.dead, .arr (encL en_Row (y1_13.set (x0.length : Int).toNat (Row.mk v14.Parent v14.Kind v14.Text v14.Gaps y3_13))), .var [iv x1.Kind, .p (.v (.string x1.Text)), .p (.lst false x1.Gaps.length (encL en_str x1.Gaps)), .p (.lst false x1.Kids.length (encL en_Node x1.Kids))], .frz (encL en_i64 y3_13)] := (storeD_row (v' := (Row.mk v14.Parent v14.Kind v14.Text v14.Gaps y3_13)) (k := 4) z50 en_Row_len en_i64_len rfl rfl rfl (by first | rfl | omega) h15 (by decide) (by rw [en_Row_eq, en_Row_eq]; rfl)).trans rfl
  have h17 : (y1_13.set (x0.length : Int).toNat (Row.mk v14.Parent v14.Kind v14.Text v14.Gaps y3_13)).length = y1_13.length := List.length_set
  intro h; obtain rfl := Option.some.inj h
  simp (maxSteps := 10000000) (implicitDefEqProofs := false) (disch := first | with_reducible assumption | exact rfl | exact im_ _ | (fail_if_success show Kn _ _); omega) only [bs, rs50, ls50, Nat.reduceAdd, ↓reduceIte, lenD_lst u23, lenD_ref u48, loadD_iagg a25 z25, loadD_ptr a22, loadD_ptr a23, loadD_ptr a3, loadD_ptr a9, own_ref, q50_0 hrec, wksL_en_i64, wksL_en_str, wks_nil_, h1, hq, h16]
  refine ⟨by simp, ?_⟩; show _ = _; simp only [List.length_set, cpL_len]; kernel_rfl
 | ret _ => (first | cases h | (simp at h))
def ls50n := And.intro @ap_48_48 (And.intro @ap_50_50 (And.intro @bs_48_1 (And.intro @bs_50_1 (And.intro @bu_57_0_1_2_3 (And.intro @faP_25_0 (And.intro @faP_25_1 (And.intro @faP_25_2 (And.intro @faP_25_3 (And.intro @faP_57_4 (And.intro @idxL_23 (And.intro @idxR_48 (And.intro @lk_frz_25 (And.intro @varld_4_0_0 (And.intro @varld_4_0_1 (And.intro @varld_4_0_2 (@varld_4_0_3))))))))))))))))
noncomputable def F50n_0 (s7 : Int) (w1_0 : Int) (w1_1 : ByteArray) (w1_2 : (List ByteArray)) (w1_3 : (List Node)) : (Int × (List Row) × (List Int)) → St := fun (s9, y0, y2) => ⟨[.ref 0 0 y0.length 5, J, J, J, .ptr 1 0, J, J, iv s7, .ref 2 0 y2.length 1, iv s9, J, J, J, J, J, J, J, J, J, J, J, J, J, J, J, J, J, J, J, J, J, J, J, J, J, J, J, J, J, J, J, J, J, J, J, J, J, J, J], [.arr (encL en_Row y0), .var [iv w1_0, .p (.v (.string w1_1)), .p (.lst false w1_2.length (encL en_str w1_2)), .p (.lst false w1_3.length (encL en_Node w1_3))], .arr (encL en_i64 y2)], 0⟩
theorem L50n_0_ok {rec : (List Row) → Node → Int → Option (List Row)} (hrec : ∀ x0 x1 x2 r, rec x0 x1 x2 = some r → callW Tryz.prog A0 50 [.ref 0 0 x0.length 5, .p (.agg (pv_Node x1)), iv x2] [.arr (encL en_Row x0)] = some (.ref 1 0 r.length 5, [.dead, .arr (encL en_Row r)])) (s7 : Int) (w1_0 : Int) (w1_1 : ByteArray) (w1_2 : (List ByteArray)) (w1_3 : (List Node)) : ∀ s st o, ghostsD g50_0 st = some (F50n_0 s7 w1_0 w1_1 w1_2 w1_3 s) → iter (R06_rows_L0 rec s7 w1_0 w1_1 w1_2 w1_3) s = some o →
    Wp (evW Tryz.prog A0 50 (.loop L50_0) st) (OutQ (F50n_0 s7 w1_0 w1_1 w1_2 w1_3) g50_0 (fun n s st => n = 0 ∧ ghostsD [.keep [0, 4, 7, 8, 9]] st = some (F50n_0 s7 w1_0 w1_1 w1_2 w1_3 s)) (fun r st => finishD Tryz.prog A0 50 Tryz.f50 st = some (.ref 0 0 r.length 5, [.arr (encL en_Row r)])) o) := by
 refine Wp.iter ?_
 intro s st o hg h
 obtain ⟨s9, y0, y2⟩ := s
 unfold R06_rows_L0 at h; unfold g50_0 F50n_0 at hg ⊢
 (try simp only [] at h hg)
 unfold L50_0 bodyOf Tryz.f50; simp only [loopsOf, ens]
 revert h
 refine gI (fun h3 _ => ?_) (fun h3 _ => ?_)
 ·refine gW fun h5 => ?_
  have h4 : ∀ (H : List Ob) (id : Nat), apOb H id 0 y2.length 1 1 1 8 [.v (.int .i64 (y0.length : Int))] (some (.arr (encL en_i64 y2))) = some (.ref H.length 0 (y2 ++ [(y0.length : Int)]).length 1, H.set id .dead ++ [.arr (encL en_i64 (y2 ++ [(y0.length : Int)]))]) := fun H id => ap_enc (y := [(y0.length : Int)]) en_i64_len (by first | rfl | omega) rfl (by first | (simp only [encL_cons, encL_nil, en_i64_eq, List.cons_append, List.nil_append]; done) | (simp only [encL_cons, encL_nil, en_i64_eq, List.cons_append, List.nil_append]; rfl) | rfl) (by assumption)
  repeat' first | (with_reducible refine gR fun _ _ _ _ => ?_) | (with_reducible refine gB fun _ _ => ?_)
  intro h; obtain rfl := Option.some.inj h
  simp (maxSteps := 10000000) (implicitDefEqProofs := false) (disch := first | with_reducible assumption | exact rfl | exact im_ _ | (fail_if_success show Kn _ _); omega) only [bs, rs50, ls50n, Nat.reduceAdd, ↓reduceIte, lenD_lst u23, lenD_ref u48, loadD_iagg a25 z25, loadD_ptr a22, loadD_ptr a23, loadD_ptr a3, loadD_ptr a9, own_ref, q50_1 hrec, wksL_en_i64, wksL_en_str, wks_nil_, hg, h4]
  exact ⟨(rfl : Ex.normal = Ex.normal), by kernel_rfl⟩
 ·intro h; obtain rfl := Option.some.inj h
  simp (maxSteps := 10000000) (implicitDefEqProofs := false) (disch := first | with_reducible assumption | exact rfl | exact im_ _ | (fail_if_success show Kn _ _); omega) only [bs, rs50, ls50n, Nat.reduceAdd, ↓reduceIte, lenD_lst u23, lenD_ref u48, loadD_iagg a25 z25, loadD_ptr a22, loadD_ptr a23, loadD_ptr a3, loadD_ptr a9, own_ref, q50_1 hrec, wksL_en_i64, wksL_en_str, wks_nil_, hg]
  exact ⟨(rfl : Ex.exit 0 = Ex.exit 0), rfl, by kernel_rfl⟩
theorem f50n_ok {rec : (List Row) → Node → Int → Option (List Row)} (hrec : ∀ x0 x1 x2 r, rec x0 x1 x2 = some r → callW Tryz.prog A0 50 [.ref 0 0 x0.length 5, .p (.agg (pv_Node x1)), iv x2] [.arr (encL en_Row x0)] = some (.ref 1 0 r.length 5, [.dead, .arr (encL en_Row r)]))  (x0 : (List Row)) (x1 : Node) (x2 : Int) (hx0 : x0 = []) (r : (List Row)) (h : R06_rows.body rec x0 x1 x2 = some r) : callW Tryz.prog A0 50 [.p (.lst true 0 []), .p (.agg (pv_Node x1)), iv x2] [] = some (.ref 0 0 r.length 5, [.arr (encL en_Row r)]) := by
 refine call_ofI (fn := Tryz.f50) (c := bodyOf Tryz.f50) 46 rfl rfl (by kernel_rfl) (by kernel_rfl) (by kernel_rfl) ?_
 unfold R06_rows.body at h; unfold bodyOf Tryz.f50; simp only [ens]
 have hown := own_nil' (en := en_Row) hx0 5
 revert h
 refine gW fun h2 => ?_
 have h1 : ∀ (H : List Ob) (id : Nat), apOb H id 0 x0.length 1 5 5 80 [.v (.int .i64 x2), .v (.int .i64 x1.Kind), .v (.string x1.Text), .lst false x1.Gaps.length (encL en_str x1.Gaps), .lst false 0 []] (some (.arr (encL en_Row x0))) = some (.ref H.length 0 (x0 ++ [(Row.mk x2 x1.Kind x1.Text x1.Gaps ([] : List Int))]).length 5, H.set id .dead ++ [.arr (encL en_Row (x0 ++ [(Row.mk x2 x1.Kind x1.Text x1.Gaps ([] : List Int))]))]) := fun H id => ap_enc (y := [(Row.mk x2 x1.Kind x1.Text x1.Gaps ([] : List Int))]) en_Row_len (by first | rfl | omega) rfl (by first | (simp only [encL_cons, encL_nil, en_Row_eq, List.cons_append, List.nil_append]; done) | (simp only [encL_cons, encL_nil, en_Row_eq, List.cons_append, List.nil_append]; rfl) | rfl) (by assumption)
 refine gB fun o h12 => ?_
 intro h
 simp (maxSteps := 10000000) (implicitDefEqProofs := false) (disch := first | with_reducible assumption | exact rfl | exact im_ _ | (fail_if_success show Kn _ _); omega) only [bs, rs50, ls50n, Nat.reduceAdd, ↓reduceIte, lenD_lst u23, lenD_ref u48, loadD_iagg a25 z25, loadD_ptr a22, loadD_ptr a23, loadD_ptr a3, loadD_ptr a9, own_ref, q50_1 hrec, wksL_en_i64, wksL_en_str, wks_nil_, hown, h1]
 refine Wp.ctx (fun x => seqW _ _ _ _ (blockW _ (x))) (L50n_0_ok hrec (x0.length : Int) x1.Kind x1.Text x1.Gaps x1.Kids ((0 : Int), (x0 ++ [(Row.mk x2 x1.Kind x1.Text x1.Gaps ([] : List Int))]), ([] : List Int)) _ o (by kernel_rfl) h12) ?_
 intro e st hq
 cases o with
 | next _ => (first | cases h | (simp at h))
 | jmp n_ s_ =>
  obtain ⟨rfl, rfl, hq⟩ := hq
  obtain ⟨s9_13, y0_13, y2_13⟩ := s_
  unfold F50n_0 at hq
  (try simp only [] at h hq)
  revert h
  refine gR fun v14 h15 h15a h15b => ?_
  have h16 : storeD Tryz.prog [.arr (encL en_Row y0_13), .var [iv x1.Kind, .p (.v (.string x1.Text)), .p (.lst false x1.Gaps.length (encL en_str x1.Gaps)), .p (.lst false x1.Kids.length (encL en_Node x1.Kids))], .arr (encL en_i64 y2_13)] 50 (.ptr 0 (ato (x0.length : Int) 5 + 4)) (.ref 2 0 y2_13.length 1) = some [.arr (encL en_Row (y0_13.set (x0.length : Int).toNat (Row.mk v14.Parent v14.Kind v14.Text v14.Gaps y2_13))), .var [iv x1.Kind, .p (.v (.string x1.Text)), .p (.lst false x1.Gaps.length (encL en_str x1.Gaps)), .p (.lst false x1.Kids.length (encL en_Node x1.Kids))], .frz (encL en_i64 y2_13)] := (storeD_row (v' := (Row.mk v14.Parent v14.Kind v14.Text v14.Gaps y2_13)) (k := 4) z50 en_Row_len en_i64_len rfl rfl rfl (by first | rfl | omega) h15 (by decide) (by rw [en_Row_eq, en_Row_eq]; rfl)).trans rfl
  have h17 : (y0_13.set (x0.length : Int).toNat (Row.mk v14.Parent v14.Kind v14.Text v14.Gaps y2_13)).length = y0_13.length := List.length_set
  intro h; obtain rfl := Option.some.inj h
  simp (maxSteps := 10000000) (implicitDefEqProofs := false) (disch := first | with_reducible assumption | exact rfl | exact im_ _ | (fail_if_success show Kn _ _); omega) only [bs, rs50, ls50n, Nat.reduceAdd, ↓reduceIte, lenD_lst u23, lenD_ref u48, loadD_iagg a25 z25, loadD_ptr a22, loadD_ptr a23, loadD_ptr a3, loadD_ptr a9, own_ref, q50_1 hrec, wksL_en_i64, wksL_en_str, wks_nil_, hown, h1, hq, h16]
  refine ⟨by simp, ?_⟩; show _ = _; simp only [List.length_set, cpL_len]; kernel_rfl
 | ret _ => (first | cases h | (simp at h))
theorem f50_spec : ∀ (x0 : (List Row)) (x1 : Node) (x2 : Int) r, R06_rowsS x0 x1 x2 = some r → callW Tryz.prog A0 50 [.ref 0 0 x0.length 5, .p (.agg (pv_Node x1)), iv x2] [.arr (encL en_Row x0)] = some (.ref 1 0 r.length 5, [.dead, .arr (encL en_Row r)]) := by
 have key : ∀ n (x0 : (List Row)) (x1 : Node) (x2 : Int) r, R06_rowsS_mu x0 x1 x2 < n → R06_rowsS x0 x1 x2 = some r → callW Tryz.prog A0 50 [.ref 0 0 x0.length 5, .p (.agg (pv_Node x1)), iv x2] [.arr (encL en_Row x0)] = some (.ref 1 0 r.length 5, [.dead, .arr (encL en_Row r)]) := by
  intro n
  induction n with
  | zero => intro x0 x1 x2 r h; omega
  | succ n ih =>
   intro x0 x1 x2 r hn h
   refine f50_ok (rec := fun x0' x1' x2' => if R06_rowsS_mu x0' x1' x2' < R06_rowsS_mu x0 x1 x2 then R06_rowsS x0' x1' x2' else none) ?_ x0 x1 x2 r (R06_rowsS_body x0 x1 x2 r h)
   intro x0' x1' x2' r' h'
   by_cases hm : R06_rowsS_mu x0' x1' x2' < R06_rowsS_mu x0 x1 x2
   ·rw [if_pos hm] at h'; exact ih x0' x1' x2' r' (by omega) h'
   ·rw [if_neg hm] at h'; cases h'
 intro x0 x1 x2 r h
 exact key _ x0 x1 x2 r (Nat.lt_succ_self _) h
theorem f50n_spec (x1 : Node) (x2 : Int) r (h : R06_rowsS ([] : List Row) x1 x2 = some r) : callW Tryz.prog A0 50 [.p (.lst true 0 []), .p (.agg (pv_Node x1)), iv x2] [] = some (.ref 0 0 r.length 5, [.arr (encL en_Row r)]) := by
 refine f50n_ok (rec := fun x0' x1' x2' => if R06_rowsS_mu x0' x1' x2' < R06_rowsS_mu ([] : List Row) x1 x2 then R06_rowsS x0' x1' x2' else none) ?_ ([] : List Row) x1 x2 rfl r (R06_rowsS_body ([] : List Row) x1 x2 r h)
 intro x0' x1' x2' r' h'
 by_cases hm : R06_rowsS_mu x0' x1' x2' < R06_rowsS_mu ([] : List Row) x1 x2
 ·rw [if_pos hm] at h'; exact f50_spec x0' x1' x2' r' h'
 ·rw [if_neg hm] at h'; cases h'
theorem R06_rows_calln {b1 b2 : Bool} {H : List Ob} {x1 : Node} {x2 : Int} {r : (List Row)} (h : R06_rowsS ([] : List Row) x1 x2 = some r) : callD (callW Tryz.prog A0) A0 H 50 [.p (.lst true 0 []), .p (.agg [.v (.int .i64 x1.Kind), .v (.string x1.Text), .lst b1 x1.Gaps.length (encL en_str x1.Gaps), .lst b2 x1.Kids.length (encL en_Node x1.Kids)]), iv x2] = some (.ref H.length 0 r.length 5, some (H ++ [.arr (encL en_Row r)])) :=
 callD_mut0 (args := [.lst true 0 [], .agg (pv_Node x1), .v (.int .i64 x2)]) (by simp only [List.map_cons, List.map_nil, wkDv, wk, wks, wkL]) rfl (f50n_spec x1 x2 _ h)
def ls34 := @varlv_4_0_4
theorem q50_2 {a1 : Node} {a2 : Int} {H : List Ob} {r9001 : (List Row)} (h9002 : R06_rowsS ([] : List Row) a1 a2 = some r9001) : callD (callW Tryz.prog A0) A0 H 50 [.p (.lst true 0 []), .p (.agg (pv_Node a1)), iv a2] = some (.ref H.length 0 r9001.length 5, some (H ++ [.arr (encL en_Row r9001)])) := R06_rows_calln (H := H) h9002
theorem f34_ok  (x0 : Node) (r : (List Row)) (h : R06_Rows x0 = some r) : callW Tryz.prog A0 34 [.p (.agg (pv_Node x0))] [] = some (.p (.lst false r.length (encL en_Row r)), []) := by
 refine call_ofI (fn := Tryz.f34) (c := bodyOf Tryz.f34) 6 rfl rfl (by kernel_rfl) (by kernel_rfl) (by kernel_rfl) ?_
 unfold R06_Rows at h; unfold bodyOf Tryz.f34; simp only [ens]
 revert h
 repeat' (with_reducible refine gB fun _ _ => ?_)
 intro h; obtain rfl := Option.some.inj h
 simp (maxSteps := 10000000) (implicitDefEqProofs := false) (disch := first | with_reducible assumption | exact rfl | exact im_ _ | (fail_if_success show Kn _ _); omega) only [bs, rs34, ls34, Nat.reduceAdd, ↓reduceIte, loadD_pagg a25 z25, q50_2]
 refine ⟨by simp, ?_⟩; exact finish_is (l := [1]) rfl rfl rfl (purify1_enc en_Row_len rfl (by first | rfl | omega | simp)) (by first | rfl | (simp only [wk, wks, wkL]; first | done | rfl))
def ls41 := And.intro @ce_43__1 (And.intro @faI_43_1 (@idxL_29))
theorem c34_0 {H : List Ob} {a1 : Node} {r : (List Row)} (h : R06_Rows a1 = some r) : callD (callW Tryz.prog A0) A0 H 34 [.p (.agg (pv_Node a1))] = some (.p (.lst false r.length (encL en_Row r)), none) :=
 callD_fun (args := [.agg (pv_Node a1)]) rfl rfl rfl (by simp only [List.map_cons, List.map_nil, wk, wks, wkL]; exact f34_ok a1 _ h)
noncomputable def L41_0 : Code := (loopsOf (bodyOf Tryz.f41)).getD 0 .skip
def g41_0 : List Ghost := [.weak [0], .keep [0, 1, 5]]
noncomputable def F41_0 (s0 : (List Pair)) (s1 : Int) : Int → St := fun s5 => ⟨[.p (.lst false s0.length (encL en_Pair s0)), iv s1, J, J, J, iv s5, J, J, J, J, J, J, J, J, J, J, J, J, J], [], 0⟩
theorem L41_0_ok (s0 : (List Pair)) (s1 : Int) : ∀ s st o, ghostsD g41_0 st = some (F41_0 s0 s1 s) → iter (R24_hasNew_L0 s0 s1) s = some o →
    Wp (evW Tryz.prog A0 41 (.loop L41_0) st) (OutQ (F41_0 s0 s1) g41_0 (fun n s st => n = 0 ∧ ghostsD [.keep [0, 1, 5]] st = some (F41_0 s0 s1 s)) (fun r st => finishD Tryz.prog A0 41 Tryz.f41 st = some (.p (.v (.bool r)), [])) o) := by
 refine Wp.iter ?_
 intro s st o hg h
 generalize s = s5 at hg h
 unfold R24_hasNew_L0 at h; unfold g41_0 F41_0 at hg ⊢
 (try simp only [] at h hg)
 unfold L41_0 bodyOf Tryz.f41; simp only [loopsOf, ens]
 revert h
 repeat' first | (with_reducible refine gR fun _ _ _ _ => ?_) | (with_reducible refine gI (fun _ _ => ?_) (fun _ _ => ?_))
 all_goals
  intro h; obtain rfl := Option.some.inj h
  first | (simp (maxSteps := 10000000) (implicitDefEqProofs := false) (disch := first | with_reducible assumption | exact rfl | exact im_ _ | (fail_if_success show Kn _ _); omega) only [bs, rs41, ls41, Nat.reduceAdd, ↓reduceIte, lenD_lst u29, loadD_iptr a3, hg]; first | (refine ⟨(rfl : Ex.ret = Ex.ret), ?_⟩; exact fin_sc rfl rfl rfl rfl) | (exact ⟨(rfl : Ex.normal = Ex.normal), by kernel_rfl⟩) | (exact ⟨(rfl : Ex.exit 0 = Ex.exit 0), rfl, by kernel_rfl⟩)) | (exfalso; omega)
theorem f41_ok  (x0 : (List Pair)) (x1 : Int) (r : Bool) (h : R24_hasNew x0 x1 = some r) : callW Tryz.prog A0 41 [.p (.lst false x0.length (encL en_Pair x0)), iv x1] [] = some (.p (.v (.bool r)), []) := by
 refine call_ofI (fn := Tryz.f41) (c := bodyOf Tryz.f41) 17 rfl rfl (by kernel_rfl) (by kernel_rfl) (by kernel_rfl) ?_
 unfold R24_hasNew at h; unfold bodyOf Tryz.f41; simp only [ens]
 revert h
 refine gB fun o h6 => ?_
 intro h
 simp (maxSteps := 10000000) (implicitDefEqProofs := false) (disch := first | with_reducible assumption | exact rfl | exact im_ _ | (fail_if_success show Kn _ _); omega) only [bs, rs41, ls41, Nat.reduceAdd, ↓reduceIte, lenD_lst u29, loadD_iptr a3]
 refine Wp.ctx (fun x => seqW _ _ _ _ (blockW _ (x))) (L41_0_ok x0 x1 (0 : Int) _ o (by kernel_rfl) h6) ?_
 intro e st hq
 cases o with
 | next _ => (first | cases h | (simp at h))
 | jmp n_ s_ =>
  obtain ⟨rfl, rfl, hq⟩ := hq
  generalize s_ = s5_7 at h hq
  unfold F41_0 at hq
  (try simp only [] at h hq)
  revert h
  intro h; obtain rfl := Option.some.inj h
  simp (maxSteps := 10000000) (implicitDefEqProofs := false) (disch := first | with_reducible assumption | exact rfl | exact im_ _ | (fail_if_success show Kn _ _); omega) only [bs, rs41, ls41, Nat.reduceAdd, ↓reduceIte, lenD_lst u29, loadD_iptr a3, hq]
  refine ⟨by simp, ?_⟩; exact fin_sc rfl rfl rfl rfl
 | ret r8 =>
  obtain ⟨rfl, hq⟩ := hq
  obtain rfl := Option.some.inj h
  simp (maxSteps := 10000000) (implicitDefEqProofs := false) (disch := first | with_reducible assumption | exact rfl | exact im_ _ | (fail_if_success show Kn _ _); omega) only [bs, rs41, ls41, Nat.reduceAdd, ↓reduceIte, lenD_lst u29, loadD_iptr a3]
  exact ⟨by simp, hq⟩
def ls17 := And.intro @al_43 (And.intro @ce_43__0 (And.intro @ce_57__1 (And.intro @faI_43_0 (And.intro @faI_57_1 (And.intro @faP_25_0 (And.intro @faP_43_0 (And.intro @faP_43_1 (And.intro @idxL_29 (And.intro @idxL_48 (And.intro @lk_frz_43 (And.intro @sa_2_0_2 (And.intro @shi_29 (And.intro @varld_2_0_0 (And.intro @varld_2_0_1 (And.intro @varld_4_0_0 (@varlv_4_0_4))))))))))))))))
theorem c41_0 {H : List Ob} {a1 : Bool} {a2 : List Pair} {a3 : Int} {r : Bool} (h : R24_hasNew a2 a3 = some r) : callD (callW Tryz.prog A0) A0 H 41 [.p (.lst a1 a2.length (encL en_Pair a2)), iv a3] = some (.p (.v (.bool r)), none) :=
 callD_fun (args := [.lst a1 a2.length (encL en_Pair a2), .v (.int .i64 a3)]) rfl rfl rfl (by simp only [List.map_cons, List.map_nil, wk, wks, wkL]; exact f41_ok a2 a3 _ h)
noncomputable def L17_0 : Code := (loopsOf (bodyOf Tryz.f17)).getD 0 .skip
def g17_0 : List Ghost := [.weak [2, 7, 8], .keep [2, 3, 4, 7, 8, 9]]
noncomputable def F17_0 (s2 : (List Pair)) (s7 : (List Row)) (s8 : (List Row)) (w0_0 : Int) (w0_1 : ByteArray) (w0_2 : (List ByteArray)) (w0_3 : (List Node)) (w1_0 : Int) (w1_1 : ByteArray) (w1_2 : (List ByteArray)) (w1_3 : (List Node)) : Int → St := fun s9 => ⟨[J, J, .p (.lst false s2.length (encL en_Pair s2)), .ptr 0 0, .ptr 1 0, J, J, .p (.lst false s7.length (encL en_Row s7)), .p (.lst false s8.length (encL en_Row s8)), iv s9, J, J, J, J, J, J, J, J, J, J, J, J, J, J, J, J, J, J, J, J, J, J, J, J, J, J, J, J, J, J, J, J, J, J, J, J, J, J, J, J, J, J, J, J, J, J, J, J, J, J, J, J, J, J, J, J, J, J, J, J, J, J, J, J, J, J, J, J, J, J, J, J, J, J, J, J, J, J, J, J, J, J, J, J, J, J, J, J, J, J, J, J, J, J, J, J, J, J, J], [.var [iv w0_0, .p (.v (.string w0_1)), .p (.lst false w0_2.length (encL en_str w0_2)), .p (.lst false w0_3.length (encL en_Node w0_3))], .var [iv w1_0, .p (.v (.string w1_1)), .p (.lst false w1_2.length (encL en_str w1_2)), .p (.lst false w1_3.length (encL en_Node w1_3))]], 0⟩
theorem L17_0_ok (s2 : (List Pair)) (s7 : (List Row)) (s8 : (List Row)) (w0_0 : Int) (w0_1 : ByteArray) (w0_2 : (List ByteArray)) (w0_3 : (List Node)) (w1_0 : Int) (w1_1 : ByteArray) (w1_2 : (List ByteArray)) (w1_3 : (List Node)) : ∀ s st o, ghostsD g17_0 st = some (F17_0 s2 s7 s8 w0_0 w0_1 w0_2 w0_3 w1_0 w1_1 w1_2 w1_3 s) → iter (R24_Check_L0 s2 s7 s8 w0_0 w0_1 w0_2 w0_3 w1_0 w1_1 w1_2 w1_3) s = some o →
    Wp (evW Tryz.prog A0 17 (.loop L17_0) st) (OutQ (F17_0 s2 s7 s8 w0_0 w0_1 w0_2 w0_3 w1_0 w1_1 w1_2 w1_3) g17_0 (fun n s st => n = 0 ∧ ghostsD [.keep [2, 3, 4, 7, 8, 9]] st = some (F17_0 s2 s7 s8 w0_0 w0_1 w0_2 w0_3 w1_0 w1_1 w1_2 w1_3 s)) (fun r st => finishD Tryz.prog A0 17 Tryz.f17 st = some (.p (.v (.int .i64 r)), [])) o) := by
 refine Wp.iter ?_
 intro s st o hg h
 generalize s = s9 at hg h
 unfold R24_Check_L0 at h; unfold g17_0 F17_0 at hg ⊢
 (try simp only [] at h hg)
 unfold L17_0 bodyOf Tryz.f17; simp only [loopsOf, ens]
 revert h
 repeat' first | (with_reducible refine gR fun _ _ _ _ => ?_) | (with_reducible refine gB fun _ _ => ?_) | (with_reducible refine gW fun _ => ?_) | (with_reducible refine gT (fun _ _ => ?_) (fun _ _ => ?_)) | (with_reducible refine gI (fun _ _ => ?_) (fun _ _ => ?_))
 all_goals
  intro h; obtain rfl := Option.some.inj h
  first | (simp (maxSteps := 10000000) (implicitDefEqProofs := false) (disch := first | with_reducible assumption | exact rfl | exact im_ _ | (fail_if_success show Kn _ _); omega) only [bs, rs17, ls17, Nat.reduceAdd, ↓reduceIte, binD_neq_bool Tryz.underlying4, c34_0, c41_0, lenD_lst u29, lenD_lst u48, loadD_iagg a43 z43, loadD_iptr a3, loadD_pagg a25 z25, loadD_ptr a3, storeD_agg z43, hg]; first | (refine ⟨(rfl : Ex.ret = Ex.ret), ?_⟩; exact fin_sc rfl rfl rfl rfl) | (exact ⟨(rfl : Ex.normal = Ex.normal), by kernel_rfl⟩) | (exact ⟨(rfl : Ex.exit 0 = Ex.exit 0), rfl, by kernel_rfl⟩)) | (exfalso; omega)
theorem f17_ok  (x0 : Node) (x1 : Node) (x2 : (List Pair)) (r : Int) (h : R24_Check x0 x1 x2 = some r) : callW Tryz.prog A0 17 [.p (.agg (pv_Node x0)), .p (.agg (pv_Node x1)), .p (.lst false x2.length (encL en_Pair x2))] [] = some (.p (.v (.int .i64 r)), []) := by
 refine call_ofI (fn := Tryz.f17) (c := bodyOf Tryz.f17) 106 rfl rfl (by kernel_rfl) (by kernel_rfl) (by kernel_rfl) ?_
 unfold R24_Check at h; unfold bodyOf Tryz.f17; simp only [ens]
 revert h
 refine gB fun r1 h2 => ?_
 refine gB fun r4 h5 => ?_
 refine gB fun o h46 => ?_
 intro h
 simp (maxSteps := 10000000) (implicitDefEqProofs := false) (disch := first | with_reducible assumption | exact rfl | exact im_ _ | (fail_if_success show Kn _ _); omega) only [bs, rs17, ls17, Nat.reduceAdd, ↓reduceIte, binD_neq_bool Tryz.underlying4, c34_0, c41_0, lenD_lst u29, lenD_lst u48, loadD_iagg a43 z43, loadD_iptr a3, loadD_pagg a25 z25, loadD_ptr a3, storeD_agg z43]
 refine Wp.ctx (fun x => seqW _ _ _ _ (blockW _ (x))) (L17_0_ok x2 r1 r4 x0.Kind x0.Text x0.Gaps x0.Kids x1.Kind x1.Text x1.Gaps x1.Kids (0 : Int) _ o (by kernel_rfl) h46) ?_
 intro e st hq
 cases o with
 | next _ => (first | cases h | (simp at h))
 | jmp n_ s_ =>
  obtain ⟨rfl, rfl, hq⟩ := hq
  generalize s_ = s9_47 at h hq
  unfold F17_0 at hq
  (try simp only [] at h hq)
  revert h
  repeat' first | (with_reducible refine gR fun _ _ _ _ => ?_) | (with_reducible refine gI (fun _ _ => ?_) (fun _ _ => ?_))
  all_goals
   intro h; obtain rfl := Option.some.inj h
   first | (simp (maxSteps := 10000000) (implicitDefEqProofs := false) (disch := first | with_reducible assumption | exact rfl | exact im_ _ | (fail_if_success show Kn _ _); omega) only [bs, rs17, ls17, Nat.reduceAdd, ↓reduceIte, binD_neq_bool Tryz.underlying4, c34_0, c41_0, lenD_lst u29, lenD_lst u48, loadD_iagg a43 z43, loadD_iptr a3, loadD_pagg a25 z25, loadD_ptr a3, storeD_agg z43, hq]; refine ⟨by simp, ?_⟩; exact fin_sc rfl rfl rfl rfl) | (exfalso; omega)
 | ret r54 =>
  obtain ⟨rfl, hq⟩ := hq
  obtain rfl := Option.some.inj h
  simp (maxSteps := 10000000) (implicitDefEqProofs := false) (disch := first | with_reducible assumption | exact rfl | exact im_ _ | (fail_if_success show Kn _ _); omega) only [bs, rs17, ls17, Nat.reduceAdd, ↓reduceIte, binD_neq_bool Tryz.underlying4, c34_0, c41_0, lenD_lst u29, lenD_lst u48, loadD_iagg a43 z43, loadD_iptr a3, loadD_pagg a25 z25, loadD_ptr a3, storeD_agg z43]
  exact ⟨by simp, hq⟩
def ls4 := And.intro @ex_2_0 (And.intro @ex_2_1 (@varlv_4_0_4))
theorem c17_0 {H : List Ob} {a1 a2 : Node} {a3 : Bool} {a4 : List Pair} {r : Int} (h : R24_Check a1 a2 a4 = some r) : callD (callW Tryz.prog A0) A0 H 17 [.p (.agg (pv_Node a1)), .p (.agg (pv_Node a2)), .p (.lst a3 a4.length (encL en_Pair a4))] = some (.p (.v (.int .i64 r)), none) :=
 callD_fun (args := [.agg (pv_Node a1), .agg (pv_Node a2), .lst a3 a4.length (encL en_Pair a4)]) rfl rfl rfl (by simp only [List.map_cons, List.map_nil, wk, wks, wkL]; exact f17_ok a1 a2 a4 _ h)
theorem f4_ok  (x0 : Node) (x1 : Node) (x2 : (List Pair)) (x3 : Int) (r : Bool) (h : law24_MatchChecks x0 x1 x2 x3 = some r) : callW Tryz.prog A0 4 [.p (.agg (pv_Node x0)), .p (.agg (pv_Node x1)), .p (.lst false x2.length (encL en_Pair x2)), iv x3] [] = some (.p (.v (.bool r)), []) := by
 refine call_ofI (fn := Tryz.f4) (c := bodyOf Tryz.f4) 57 rfl rfl (by kernel_rfl) (by kernel_rfl) (by kernel_rfl) ?_
 unfold law24_MatchChecks at h; unfold bodyOf Tryz.f4; simp only [ens]
 revert h
 repeat' first | (with_reducible refine gB fun _ _ => ?_) | (with_reducible refine gT (fun _ _ => ?_) (fun _ _ => ?_)) | (with_reducible refine gI (fun _ _ => ?_) (fun _ _ => ?_))
 all_goals
  intro h; obtain rfl := Option.some.inj h
  first | (simp (maxSteps := 10000000) (implicitDefEqProofs := false) (disch := first | with_reducible assumption | exact rfl | exact im_ _ | (fail_if_success show Kn _ _); omega) only [bs, rs4, ls4, Nat.reduceAdd, ↓reduceIte, binD_eql_bool Tryz.underlying4, c10_0, c14_0, c15_0, c16_0, c17_0, c9_0, lenD_lst u29, loadD_pagg a25 z25]; refine ⟨by simp, ?_⟩; exact fin_sc rfl rfl rfl rfl) | (exfalso; omega)
end Xr

