/- A part of the proof: P0. No conditions of its own. -/
import Derived.Test.YtendihpeaajpmaaGreatDoorL
namespace Xr
open Go Go.Ev Go.Proofs
set_option linter.unusedSimpArgs false
set_option linter.unusedVariables false
set_option linter.defProp false
set_option maxRecDepth 8000
set_option maxHeartbeats 40000000
theorem f10_run : callN Tryz.prog A0 200 10 [] [] = some (.p (.v (.bool true)), []) := callN_of_F (by kernel_rfl)
theorem f10_ok (r : Bool) (h : law24_awake = some r) : callW Tryz.prog A0 10 [] [] = some (.p (.v (.bool r)), []) := by
 cases h; exact callW_some.2 ⟨200, f10_run⟩
def ls132 := And.intro @cv_137_5 (@cv_5_3)
theorem c10_0 {H : List Ob}  {r : Bool} (h : law24_awake  = some r) : callD (callW Tryz.prog A0) A0 H 10 [] = some (.p (.v (.bool r)), none) :=
 callD_fun (args := []) rfl rfl rfl (by simp only [List.map_cons, List.map_nil, wk, wks, wkL]; exact f10_ok  _ h)
theorem f132_ok  (x0 : Int) (r : Int) (h : math_bits_Len64 x0 = some r) : callW Tryz.prog A0 132 [.p (.v (.int .u64 x0))] [] = some (.p (.v (.int .i64 r)), []) := by
 refine call_ofI (fn := Tryz.f132) (c := bodyOf Tryz.f132) 24 rfl rfl (by kernel_rfl) (by kernel_rfl) (by kernel_rfl) ?_
 unfold math_bits_Len64 at h; unfold bodyOf Tryz.f132; simp only [ens]
 revert h
 repeat' first | (with_reducible refine gB fun _ _ => ?_) | (with_reducible refine gI (fun _ _ => ?_) (fun _ _ => ?_))
 all_goals
  intro h; obtain rfl := Option.some.inj h
  first | (simp (maxSteps := 10000000) (implicitDefEqProofs := false) (disch := first | with_reducible assumption | exact rfl | exact im_ _ | (fail_if_success show Kn _ _); omega) only [bs, rs132, ls132, Nat.reduceAdd, ↓reduceIte, binD_geq_k, binD_shr_k, indexD_str Tryz.underlying9]; refine ⟨by simp, ?_⟩; exact fin_sc rfl rfl rfl rfl) | (exfalso; omega)
theorem c132_0 {H : List Ob} {a1 : Int} {r : Int} (h : math_bits_Len64 a1 = some r) : callD (callW Tryz.prog A0) A0 H 132 [.p (.v (.int .u64 a1))] = some (.p (.v (.int .i64 r)), none) :=
 callD_fun (args := [.v (.int .u64 a1)]) rfl rfl rfl (by simp only [List.map_cons, List.map_nil, wk, wks, wkL]; exact f132_ok a1 _ h)
theorem f95_ok  (x0 : Int) (r : Int) (h : math_bits_Len x0 = some r) : callW Tryz.prog A0 95 [.p (.v (.int .u64 x0))] [] = some (.p (.v (.int .i64 r)), []) := by
 refine call_ofI (fn := Tryz.f95) (c := bodyOf Tryz.f95) 7 rfl rfl (by kernel_rfl) (by kernel_rfl) (by kernel_rfl) ?_
 unfold math_bits_Len at h; unfold bodyOf Tryz.f95; simp only [ens]
 revert h
 repeat' (with_reducible refine gB fun _ _ => ?_)
 intro h; obtain rfl := Option.some.inj h
 simp (maxSteps := 10000000) (implicitDefEqProofs := false) (disch := first | with_reducible assumption | exact rfl | exact im_ _ | (fail_if_success show Kn _ _); omega) only [bs, rs95, Nat.reduceAdd, ↓reduceIte, c132_0]
 refine ⟨by simp, ?_⟩; exact fin_sc rfl rfl rfl rfl
def ls65 := And.intro @ce_43__0 (And.intro @ce_43__1 (And.intro @faP_43_0 (And.intro @faP_43_1 (And.intro @idxR_29 (@varld_1_0)))))
theorem c95_0 {H : List Ob} {a1 : Int} {r : Int} (h : math_bits_Len a1 = some r) : callD (callW Tryz.prog A0) A0 H 95 [.p (.v (.int .u64 a1))] = some (.p (.v (.int .i64 r)), none) :=
 callD_fun (args := [.v (.int .u64 a1)]) rfl rfl rfl (by simp only [List.map_cons, List.map_nil, wk, wks, wkL]; exact f95_ok a1 _ h)
theorem f65_ok  (x0 : Int) (x1 : Int) (o1 : (List Pair)) (r : Bool) (h : match_tidy_c1 x0 x1 o1 = some r) : callW Tryz.prog A0 65 [iv x0, iv x1, .ptr 0 0] [.var [.ref 1 0 o1.length 2], .arr (encL en_Pair o1)] = some (.p (.v (.bool r)), [.var [.ref 1 0 o1.length 2], .arr (encL en_Pair o1)]) := by
 refine call_ofI (fn := Tryz.f65) (c := bodyOf Tryz.f65) 40 rfl rfl (by kernel_rfl) (by kernel_rfl) (by kernel_rfl) ?_
 unfold match_tidy_c1 at h; unfold bodyOf Tryz.f65; simp only [ens]
 revert h
 repeat' first | (with_reducible refine gR fun _ _ _ _ => ?_) | (with_reducible refine gI (fun _ _ => ?_) (fun _ _ => ?_))
 all_goals
  intro h; obtain rfl := Option.some.inj h
  first | (simp (maxSteps := 10000000) (implicitDefEqProofs := false) (disch := first | with_reducible assumption | exact rfl | exact im_ _ | (fail_if_success show Kn _ _); omega) only [bs, rs65, ls65, Nat.reduceAdd, ↓reduceIte, loadD_ptr a29, loadD_ptr a3]; refine ⟨by simp, ?_⟩; show _ = _; kernel_rfl) | (exfalso; omega)
def ls133 := And.intro @faP_129_0 (And.intro @faP_129_1 (And.intro @varld_2_0_0 (@varld_2_0_1)))
theorem q130_0 {a1 : List Pair} {a2 a3 : Int} {r9003 : _} {X0 X2 : Ob} (h9001 : swapL a2 a3 a1 = some r9003) : callD (callW Tryz.prog A0) A0 [X0, .arr (encL en_Pair a1), X2] 130 [iv a2, iv a3, .ref 1 0 a1.length 2, .p (.v (typeHandle Tryz.prog 43))] = some (.p (.tup []), some [X0, .arr (encL en_Pair r9003), X2]) := (callD_put (dsw := [iv a2, iv a3, .ref 1 0 a1.length 2, .p (.v (typeHandle Tryz.prog 43))]) (ds' := [iv a2, iv a3, .ref 0 0 a1.length 2, .p (.v (typeHandle Tryz.prog 43))]) (i := 1) (ids := []) (o := .arr (encL en_Pair a1)) (os := []) (o' := .arr (encL en_Pair r9003)) (os' := []) rfl (by kernel_rfl) (by kernel_rfl) (by kernel_rfl) (by kernel_rfl) (by kernel_rfl) (swap130_callg h9001) rfl rfl).trans (by kernel_rfl)
theorem q65_0 {a1 : List Pair} {a2 a3 : Int} {r9001 : Bool} {X2 : Ob} (h9002 : match_tidy_c1 a2 a3 a1 = some r9001) : callD (callW Tryz.prog A0) A0 [.var [.ref 1 0 a1.length 2], .arr (encL en_Pair a1), X2] 65 [iv a2, iv a3, .ptr 0 0] = some (.p (.v (.bool r9001)), some [.var [.ref 1 0 a1.length 2], .arr (encL en_Pair a1), X2]) := (callD_put (dsw := [iv a2, iv a3, .ptr 0 0]) (ds' := [iv a2, iv a3, .ptr 0 0]) (i := 0) (ids := [1]) (o := .var [.ref 1 0 a1.length 2]) (os := [.arr (encL en_Pair a1)]) (o' := .var [.ref 1 0 a1.length 2]) (os' := [.arr (encL en_Pair a1)]) rfl (by kernel_rfl) (by kernel_rfl) (by kernel_rfl) (by kernel_rfl) (by kernel_rfl) (f65_ok _ _ _ _ h9002) rfl rfl).trans (by kernel_rfl)
noncomputable def L133_1 : Code := (loopsOf (bodyOf Tryz.f133)).getD 1 .skip
def g133_1 : List Ghost := [.keep [1, 2, 3, 6, 7]]
noncomputable def F133_1 (s1 : Int) (s2 : Int) (s6 : Int) : (Int × (List Pair)) → St := fun (s7, y1) => ⟨[J, iv s1, iv s2, .ptr 2 0, J, J, iv s6, iv s7, J, J, J, J, J, J, J, J, J, J, J, J, J, J, J, J, J, J, J, J, J, J, J, J, J, J, J], [.var [.ref 1 0 y1.length 2], .arr (encL en_Pair y1), .var [.fn (.func 65) [.ptr 0 0], sw130 1 y1.length]], 2⟩
theorem L133_1_ok (s1 : Int) (s2 : Int) (s6 : Int) : ∀ s st o, ghostsD g133_1 st = some (F133_1 s1 s2 s6 s) → iter (sort_insertionSort_func_L1 s1 s2 s6) s = some o →
    Wp (evW Tryz.prog A0 133 (.loop L133_1) st) (OutQ (F133_1 s1 s2 s6) g133_1 (fun n s st => n = 2 ∧ ghostsD [.keep [1, 2, 3, 6, 7]] st = some (F133_1 s1 s2 s6 s)) (fun r st => finishD Tryz.prog A0 133 Tryz.f133 st = some (.p (.tup []), [.var [.ref 1 0 r.length 2], .arr (encL en_Pair r)])) o) := by
 refine Wp.iter ?_
 intro s st o hg h
 obtain ⟨s7, y1⟩ := s
 unfold sort_insertionSort_func_L1 at h; unfold g133_1 F133_1 at hg ⊢
 (try simp only [] at h hg)
 unfold L133_1 bodyOf Tryz.f133; simp only [loopsOf, ens]
 revert h
 repeat' first | (with_reducible refine gB fun _ _ => ?_) | (with_reducible refine gW fun _ => ?_) | (with_reducible refine gT (fun _ _ => ?_) (fun _ _ => ?_)) | (with_reducible refine gI (fun _ _ => ?_) (fun _ _ => ?_))
 all_goals
  intro h; obtain rfl := Option.some.inj h
  first | (simp (maxSteps := 10000000) (implicitDefEqProofs := false) (disch := first | with_reducible assumption | exact rfl | exact im_ _ | (fail_if_success show Kn _ _); omega) only [bs, rs133, ls133, Nat.reduceAdd, ↓reduceIte, boxD_dagg, loadD_ptr a55, loadD_ptr a85, q130_0, q65_0, hg]; first | (exact ⟨(rfl : Ex.normal = Ex.normal), by (try simp only [List.length_set, cpL_len, *]); kernel_rfl⟩) | (exact ⟨(rfl : Ex.exit 2 = Ex.exit 2), rfl, by kernel_rfl⟩)) | (exfalso; omega)
noncomputable def L133_0 : Code := (loopsOf (bodyOf Tryz.f133)).getD 0 .skip
def g133_0 : List Ghost := [.keep [1, 2, 3, 6]]
noncomputable def F133_0 (s1 : Int) (s2 : Int) : (Int × (List Pair)) → St := fun (s6, y1) => ⟨[J, iv s1, iv s2, .ptr 2 0, J, J, iv s6, J, J, J, J, J, J, J, J, J, J, J, J, J, J, J, J, J, J, J, J, J, J, J, J, J, J, J, J], [.var [.ref 1 0 y1.length 2], .arr (encL en_Pair y1), .var [.fn (.func 65) [.ptr 0 0], sw130 1 y1.length]], 2⟩
theorem L133_0_ok (s1 : Int) (s2 : Int) : ∀ s st o, ghostsD g133_0 st = some (F133_0 s1 s2 s) → iter (sort_insertionSort_func_L0 s1 s2) s = some o →
    Wp (evW Tryz.prog A0 133 (.loop L133_0) st) (OutQ (F133_0 s1 s2) g133_0 (fun n s st => n = 0 ∧ (match s with | (s6, y1) => finishD Tryz.prog A0 133 Tryz.f133 st = some (.p (.tup []), [.var [.ref 1 0 y1.length 2], .arr (encL en_Pair y1)]))) (fun r st => finishD Tryz.prog A0 133 Tryz.f133 st = some (.p (.tup []), [.var [.ref 1 0 r.length 2], .arr (encL en_Pair r)])) o) := by
 refine Wp.iter ?_
 intro s st o hg h
 obtain ⟨s6, y1⟩ := s
 unfold sort_insertionSort_func_L0 at h; unfold g133_0 F133_0 at hg ⊢
 (try simp only [] at h hg)
 unfold L133_0 bodyOf Tryz.f133; simp only [loopsOf, ens]
 revert h
 refine gI (fun h1 _ => ?_) (fun h1 _ => ?_)
 ·refine gB fun o h11 => ?_
  intro h
  simp (maxSteps := 10000000) (implicitDefEqProofs := false) (disch := first | with_reducible assumption | exact rfl | exact im_ _ | (fail_if_success show Kn _ _); omega) only [bs, rs133, ls133, Nat.reduceAdd, ↓reduceIte, boxD_dagg, loadD_ptr a55, loadD_ptr a85, q130_0, q65_0, hg]
  refine Wp.ctx (fun x => seqW _ _ _ _ (blockW _ (blockW _ (x)))) (L133_1_ok s1 s2 s6 (s6, y1) _ o (by kernel_rfl) h11) ?_
  intro e st hq
  cases o with
  | next _ => (first | cases h | (simp at h))
  | jmp n_ s_ =>
   obtain ⟨rfl, rfl, hq⟩ := hq
   obtain ⟨s7_12, y1_12⟩ := s_
   unfold F133_1 at hq
   (try simp only [] at h hq)
   revert h
   intro h; obtain rfl := Option.some.inj h
   simp (maxSteps := 10000000) (implicitDefEqProofs := false) (disch := first | with_reducible assumption | exact rfl | exact im_ _ | (fail_if_success show Kn _ _); omega) only [bs, rs133, ls133, Nat.reduceAdd, ↓reduceIte, boxD_dagg, loadD_ptr a55, loadD_ptr a85, q130_0, q65_0, hg, hq]
   exact ⟨(rfl : Ex.normal = Ex.normal), by kernel_rfl⟩
  | ret _ => (first | cases h | (simp at h))
 ·intro h; obtain rfl := Option.some.inj h
  simp (maxSteps := 10000000) (implicitDefEqProofs := false) (disch := first | with_reducible assumption | exact rfl | exact im_ _ | (fail_if_success show Kn _ _); omega) only [bs, rs133, ls133, Nat.reduceAdd, ↓reduceIte, boxD_dagg, loadD_ptr a55, loadD_ptr a85, q130_0, q65_0, hg]
  refine ⟨(rfl : Ex.exit 0 = Ex.exit 0), rfl, ?_⟩; show _ = _; kernel_rfl
theorem f133_ok  (x1 : Int) (x2 : Int) (o1 : (List Pair)) (r : (List Pair)) (h : sort_insertionSort_func x1 x2 o1 = some r) : callW Tryz.prog A0 133 [.agg [.fn (.func 65) [.ptr 0 0], sw130 1 o1.length], iv x1, iv x2] [.var [.ref 1 0 o1.length 2], .arr (encL en_Pair o1)] = some (.p (.tup []), [.var [.ref 1 0 r.length 2], .arr (encL en_Pair r)]) := by
 refine call_ofI (fn := Tryz.f133) (c := bodyOf Tryz.f133) 32 rfl rfl (by kernel_rfl) (by kernel_rfl) (by kernel_rfl) ?_
 unfold sort_insertionSort_func at h; unfold bodyOf Tryz.f133; simp only [ens]
 revert h
 refine gB fun o h13 => ?_
 intro h
 simp (maxSteps := 10000000) (implicitDefEqProofs := false) (disch := first | with_reducible assumption | exact rfl | exact im_ _ | (fail_if_success show Kn _ _); omega) only [bs, rs133, ls133, Nat.reduceAdd, ↓reduceIte, boxD_dagg, loadD_ptr a55, loadD_ptr a85, q130_0, q65_0]
 refine Wp.ctx (fun x => blockW _ (x)) (L133_0_ok x1 x2 (w64 (x1 + (1 : Int)), o1) _ o (by kernel_rfl) h13) ?_
 intro e st hq
 cases o with
 | next _ => (first | cases h | (simp at h))
 | jmp n_ s_ =>
  obtain ⟨rfl, rfl, hq⟩ := hq
  obtain ⟨s6_14, y1_14⟩ := s_
  obtain rfl := Option.some.inj h
  simp (maxSteps := 10000000) (implicitDefEqProofs := false) (disch := first | with_reducible assumption | exact rfl | exact im_ _ | (fail_if_success show Kn _ _); omega) only [bs, rs133, ls133, Nat.reduceAdd, ↓reduceIte, boxD_dagg, loadD_ptr a55, loadD_ptr a85, q130_0, q65_0]
  exact ⟨by simp, hq⟩
 | ret _ => (first | cases h | (simp at h))
def ls158 := And.intro @faP_129_0 (And.intro @faP_129_1 (And.intro @varld_2_0_0 (@varld_2_0_1)))
theorem q133_0 {a1 : List Pair} {a2 a3 : Int} {r9001 : (List Pair)} {X2 : Ob} (h9002 : sort_insertionSort_func a2 a3 a1 = some r9001) : callD (callW Tryz.prog A0) A0 [.var [.ref 1 0 a1.length 2], .arr (encL en_Pair a1), X2] 133 [.agg [.fn (.func 65) [.ptr 0 0], sw130 1 a1.length], iv a2, iv a3] = some (.p (.tup []), some [.var [.ref 1 0 r9001.length 2], .arr (encL en_Pair r9001), X2]) := (callD_put (dsw := [.agg [.fn (.func 65) [.ptr 0 0], sw130 1 a1.length], iv a2, iv a3]) (ds' := [.agg [.fn (.func 65) [.ptr 0 0], sw130 1 a1.length], iv a2, iv a3]) (i := 0) (ids := [1]) (o := .var [.ref 1 0 a1.length 2]) (os := [.arr (encL en_Pair a1)]) (o' := .var [.ref 1 0 r9001.length 2]) (os' := [.arr (encL en_Pair r9001)]) rfl (by kernel_rfl) (by kernel_rfl) (by kernel_rfl) (by kernel_rfl) (by kernel_rfl) (f133_ok _ _ _ _ h9002) rfl rfl).trans (by kernel_rfl)
noncomputable def L158_0 : Code := (loopsOf (bodyOf Tryz.f158)).getD 0 .skip
def g158_0 : List Ghost := [.keep [2, 3, 4, 8]]
noncomputable def F158_0 (s2 : Int) (s3 : Int) : (Int × (List Pair)) → St := fun (s8, y1) => ⟨[J, J, iv s2, iv s3, .ptr 2 0, J, J, J, iv s8, J, J, J, J, J, J, J, J, J, J, J, J, J, J, J, J, J, J, J, J, J, J, J, J, J, J, J, J, J, J, J, J, J, J, J, J, J, J, J, J, J, J, J, J, J, J], [.var [.ref 1 0 y1.length 2], .arr (encL en_Pair y1), .var [.fn (.func 65) [.ptr 0 0], sw130 1 y1.length]], 2⟩
theorem L158_0_ok (s2 : Int) (s3 : Int) : ∀ s st o, ghostsD g158_0 st = some (F158_0 s2 s3 s) → iter (sort_siftDown_func_L0 s2 s3) s = some o →
    Wp (evW Tryz.prog A0 158 (.loop L158_0) st) (OutQ (F158_0 s2 s3) g158_0 (fun n s st => n = 0 ∧ (match s with | (s8, y1) => finishD Tryz.prog A0 158 Tryz.f158 st = some (.p (.tup []), [.var [.ref 1 0 y1.length 2], .arr (encL en_Pair y1)]))) (fun r st => finishD Tryz.prog A0 158 Tryz.f158 st = some (.p (.tup []), [.var [.ref 1 0 r.length 2], .arr (encL en_Pair r)])) o) := by
 refine Wp.iter ?_
 intro s st o hg h
 obtain ⟨s8, y1⟩ := s
 unfold sort_siftDown_func_L0 at h; unfold g158_0 F158_0 at hg ⊢
 (try simp only [] at h hg)
 unfold L158_0 bodyOf Tryz.f158; simp only [loopsOf, ens]
 revert h
 repeat' first | (with_reducible refine gB fun _ _ => ?_) | (with_reducible refine gW fun _ => ?_) | (with_reducible refine gT (fun _ _ => ?_) (fun _ _ => ?_)) | (with_reducible refine gI (fun _ _ => ?_) (fun _ _ => ?_))
 all_goals
  intro h; obtain rfl := Option.some.inj h
  first | (simp (maxSteps := 10000000) (implicitDefEqProofs := false) (disch := first | with_reducible assumption | exact rfl | exact im_ _ | (fail_if_success show Kn _ _); omega) only [bs, rs158, ls158, Nat.reduceAdd, ↓reduceIte, boxD_dagg, loadD_ptr a55, loadD_ptr a85, q130_0, q65_0, hg]; first | (refine ⟨(rfl : Ex.exit 0 = Ex.exit 0), rfl, ?_⟩; show _ = _; kernel_rfl) | (exact ⟨(rfl : Ex.normal = Ex.normal), by (try simp only [List.length_set, cpL_len, *]); kernel_rfl⟩) | (refine ⟨(rfl : Ex.ret = Ex.ret), ?_⟩; show _ = _; kernel_rfl)) | (exfalso; omega)
theorem f158_ok  (x1 : Int) (x2 : Int) (x3 : Int) (o1 : (List Pair)) (r : (List Pair)) (h : sort_siftDown_func x1 x2 x3 o1 = some r) : callW Tryz.prog A0 158 [.agg [.fn (.func 65) [.ptr 0 0], sw130 1 o1.length], iv x1, iv x2, iv x3] [.var [.ref 1 0 o1.length 2], .arr (encL en_Pair o1)] = some (.p (.tup []), [.var [.ref 1 0 r.length 2], .arr (encL en_Pair r)]) := by
 refine call_ofI (fn := Tryz.f158) (c := bodyOf Tryz.f158) 51 rfl rfl (by kernel_rfl) (by kernel_rfl) (by kernel_rfl) ?_
 unfold sort_siftDown_func at h; unfold bodyOf Tryz.f158; simp only [ens]
 revert h
 refine gB fun o h61 => ?_
 intro h
 simp (maxSteps := 10000000) (implicitDefEqProofs := false) (disch := first | with_reducible assumption | exact rfl | exact im_ _ | (fail_if_success show Kn _ _); omega) only [bs, rs158, ls158, Nat.reduceAdd, ↓reduceIte, boxD_dagg, loadD_ptr a55, loadD_ptr a85, q130_0, q65_0]
 refine Wp.ctx (fun x => blockW _ (x)) (L158_0_ok x2 x3 (x1, o1) _ o (by kernel_rfl) h61) ?_
 intro e st hq
 cases o with
 | next _ => (first | cases h | (simp at h))
 | jmp n_ s_ =>
  obtain ⟨rfl, rfl, hq⟩ := hq
  obtain ⟨s8_62, y1_62⟩ := s_
  obtain rfl := Option.some.inj h
  simp (maxSteps := 10000000) (implicitDefEqProofs := false) (disch := first | with_reducible assumption | exact rfl | exact im_ _ | (fail_if_success show Kn _ _); omega) only [bs, rs158, ls158, Nat.reduceAdd, ↓reduceIte, boxD_dagg, loadD_ptr a55, loadD_ptr a85, q130_0, q65_0]
  exact ⟨by simp, hq⟩
 | ret r63 =>
  obtain ⟨rfl, hq⟩ := hq
  obtain rfl := Option.some.inj h
  simp (maxSteps := 10000000) (implicitDefEqProofs := false) (disch := first | with_reducible assumption | exact rfl | exact im_ _ | (fail_if_success show Kn _ _); omega) only [bs, rs158, ls158, Nat.reduceAdd, ↓reduceIte, boxD_dagg, loadD_ptr a55, loadD_ptr a85, q130_0, q65_0]
  exact ⟨by simp, hq⟩
def ls134 := And.intro @faP_129_1 (And.intro @varld_2_0_1 (@varlg_ff))
theorem q158_0 {a1 : List Pair} {a2 a3 a4 : Int} {r9001 : (List Pair)} {X2 : Ob} (h9002 : sort_siftDown_func a2 a3 a4 a1 = some r9001) : callD (callW Tryz.prog A0) A0 [.var [.ref 1 0 a1.length 2], .arr (encL en_Pair a1), X2] 158 [.agg [.fn (.func 65) [.ptr 0 0], sw130 1 a1.length], iv a2, iv a3, iv a4] = some (.p (.tup []), some [.var [.ref 1 0 r9001.length 2], .arr (encL en_Pair r9001), X2]) := (callD_put (dsw := [.agg [.fn (.func 65) [.ptr 0 0], sw130 1 a1.length], iv a2, iv a3, iv a4]) (ds' := [.agg [.fn (.func 65) [.ptr 0 0], sw130 1 a1.length], iv a2, iv a3, iv a4]) (i := 0) (ids := [1]) (o := .var [.ref 1 0 a1.length 2]) (os := [.arr (encL en_Pair a1)]) (o' := .var [.ref 1 0 r9001.length 2]) (os' := [.arr (encL en_Pair r9001)]) rfl (by kernel_rfl) (by kernel_rfl) (by kernel_rfl) (by kernel_rfl) (by kernel_rfl) (f158_ok _ _ _ _ _ h9002) rfl rfl).trans (by kernel_rfl)
theorem q158_1 {a1 : List Pair} {n2 : Nat} {a3 a4 a5 : Int} {r9001 : (List Pair)} {X2 : Ob} (k0 : n2 = a1.length) (h9002 : sort_siftDown_func a3 a4 a5 a1 = some r9001) : callD (callW Tryz.prog A0) A0 [.var [.ref 1 0 n2 2], .arr (encL en_Pair a1), X2] 158 [.agg [.fn (.func 65) [.ptr 0 0], sw130 1 n2], iv a3, iv a4, iv a5] = some (.p (.tup []), some [.var [.ref 1 0 r9001.length 2], .arr (encL en_Pair r9001), X2]) := by
  rw [show n2 = a1.length from by omega]; exact (callD_put (dsw := [.agg [.fn (.func 65) [.ptr 0 0], sw130 1 a1.length], iv a3, iv a4, iv a5]) (ds' := [.agg [.fn (.func 65) [.ptr 0 0], sw130 1 a1.length], iv a3, iv a4, iv a5]) (i := 0) (ids := [1]) (o := .var [.ref 1 0 a1.length 2]) (os := [.arr (encL en_Pair a1)]) (o' := .var [.ref 1 0 r9001.length 2]) (os' := [.arr (encL en_Pair r9001)]) rfl (by kernel_rfl) (by kernel_rfl) (by kernel_rfl) (by kernel_rfl) (by kernel_rfl) (f158_ok _ _ _ _ _ h9002) rfl rfl).trans (by kernel_rfl)
noncomputable def L134_1 : Code := (loopsOf (bodyOf Tryz.f134)).getD 1 .skip
def g134_1 : List Ghost := [.keep [3, 6, 7, 10]]
noncomputable def F134_1 (s6 : Int) (s7 : Int) : (Int × (List Pair)) → St := fun (s10, y1) => ⟨[J, J, J, .ptr 2 0, J, J, iv s6, iv s7, J, J, iv s10, J, J, J, J, J, J, J, J, J, J, J, J, J, J, J, J, J, J, J, J, J, J, J, J, J, J, J, J, J, J, J, J, J, J], [.var [.ref 1 0 y1.length 2], .arr (encL en_Pair y1), .var [.fn (.func 65) [.ptr 0 0], sw130 1 y1.length]], 2⟩
theorem L134_1_ok (s6 : Int) (s7 : Int) : ∀ s st o, ghostsD g134_1 st = some (F134_1 s6 s7 s) → iter (sort_heapSort_func_L1 s6 s7) s = some o →
    Wp (evW Tryz.prog A0 134 (.loop L134_1) st) (OutQ (F134_1 s6 s7) g134_1 (fun n s st => n = 2 ∧ (match s with | (s10, y1) => finishD Tryz.prog A0 134 Tryz.f134 st = some (.p (.tup []), [.var [.ref 1 0 y1.length 2], .arr (encL en_Pair y1)]))) (fun r st => finishD Tryz.prog A0 134 Tryz.f134 st = some (.p (.tup []), [.var [.ref 1 0 r.length 2], .arr (encL en_Pair r)])) o) := by
 refine Wp.iter ?_
 intro s st o hg h
 obtain ⟨s10, y1⟩ := s
 unfold sort_heapSort_func_L1 at h; unfold g134_1 F134_1 at hg ⊢
 (try simp only [] at h hg)
 unfold L134_1 bodyOf Tryz.f134; simp only [loopsOf, ens]
 revert h
 repeat' first | (with_reducible refine gB fun _ _ => ?_) | (with_reducible refine gW fun _ => ?_) | (with_reducible refine gI (fun _ _ => ?_) (fun _ _ => ?_))
 all_goals
  intro h; obtain rfl := Option.some.inj h
  first | (simp (maxSteps := 10000000) (implicitDefEqProofs := false) (disch := first | with_reducible assumption | exact rfl | exact im_ _ | (fail_if_success show Kn _ _); omega) only [bs, rs134, ls134, Nat.reduceAdd, ↓reduceIte, binD_quo_k, boxD_dagg, loadD_pagg a129 z129, loadD_ptr a55, q130_0, q158_0, q158_1, hg]; first | (exact ⟨(rfl : Ex.normal = Ex.normal), by (try simp only [List.length_set, cpL_len, *]); kernel_rfl⟩) | (refine ⟨(rfl : Ex.exit 2 = Ex.exit 2), rfl, ?_⟩; show _ = _; kernel_rfl)) | (exfalso; omega)
noncomputable def L134_0 : Code := (loopsOf (bodyOf Tryz.f134)).getD 0 .skip
def g134_0 : List Ghost := [.keep [3, 6, 7, 8, 9]]
noncomputable def F134_0 (s6 : Int) (s7 : Int) (s8 : Int) : (Int × (List Pair)) → St := fun (s9, y1) => ⟨[J, J, J, .ptr 2 0, J, J, iv s6, iv s7, iv s8, iv s9, J, J, J, J, J, J, J, J, J, J, J, J, J, J, J, J, J, J, J, J, J, J, J, J, J, J, J, J, J, J, J, J, J, J, J], [.var [.ref 1 0 y1.length 2], .arr (encL en_Pair y1), .var [.fn (.func 65) [.ptr 0 0], sw130 1 y1.length]], 2⟩
theorem L134_0_ok (s6 : Int) (s7 : Int) (s8 : Int) : ∀ s st o, ghostsD g134_0 st = some (F134_0 s6 s7 s8 s) → iter (sort_heapSort_func_L0 s6 s7 s8) s = some o →
    Wp (evW Tryz.prog A0 134 (.loop L134_0) st) (OutQ (F134_0 s6 s7 s8) g134_0 (fun n s st => n = 0 ∧ ghostsD [.keep [3, 6, 7, 8, 9]] st = some (F134_0 s6 s7 s8 s)) (fun r st => finishD Tryz.prog A0 134 Tryz.f134 st = some (.p (.tup []), [.var [.ref 1 0 r.length 2], .arr (encL en_Pair r)])) o) := by
 refine Wp.iter ?_
 intro s st o hg h
 obtain ⟨s9, y1⟩ := s
 unfold sort_heapSort_func_L0 at h; unfold g134_0 F134_0 at hg ⊢
 (try simp only [] at h hg)
 unfold L134_0 bodyOf Tryz.f134; simp only [loopsOf, ens]
 revert h
 repeat' first | (with_reducible refine gB fun _ _ => ?_) | (with_reducible refine gW fun _ => ?_) | (with_reducible refine gI (fun _ _ => ?_) (fun _ _ => ?_))
 all_goals
  intro h; obtain rfl := Option.some.inj h
  first | (simp (maxSteps := 10000000) (implicitDefEqProofs := false) (disch := first | with_reducible assumption | exact rfl | exact im_ _ | (fail_if_success show Kn _ _); omega) only [bs, rs134, ls134, Nat.reduceAdd, ↓reduceIte, binD_quo_k, boxD_dagg, loadD_pagg a129 z129, loadD_ptr a55, q130_0, q158_0, q158_1, hg]; first | (exact ⟨(rfl : Ex.normal = Ex.normal), by (try simp only [List.length_set, cpL_len, *]); kernel_rfl⟩) | (exact ⟨(rfl : Ex.exit 0 = Ex.exit 0), rfl, by kernel_rfl⟩)) | (exfalso; omega)
theorem f134_ok  (x1 : Int) (x2 : Int) (o1 : (List Pair)) (r : (List Pair)) (h : sort_heapSort_func x1 x2 o1 = some r) : callW Tryz.prog A0 134 [.agg [.fn (.func 65) [.ptr 0 0], sw130 1 o1.length], iv x1, iv x2] [.var [.ref 1 0 o1.length 2], .arr (encL en_Pair o1)] = some (.p (.tup []), [.var [.ref 1 0 r.length 2], .arr (encL en_Pair r)]) := by
 refine call_ofI (fn := Tryz.f134) (c := bodyOf Tryz.f134) 42 rfl rfl (by kernel_rfl) (by kernel_rfl) (by kernel_rfl) ?_
 unfold sort_heapSort_func at h; unfold bodyOf Tryz.f134; simp only [ens]
 revert h
 refine gB fun q1 h2 => ?_
 refine gB fun o h9 => ?_
 intro h
 simp (maxSteps := 10000000) (implicitDefEqProofs := false) (disch := first | with_reducible assumption | exact rfl | exact im_ _ | (fail_if_success show Kn _ _); omega) only [bs, rs134, ls134, Nat.reduceAdd, ↓reduceIte, binD_quo_k, boxD_dagg, loadD_pagg a129 z129, loadD_ptr a55, q130_0, q158_0, q158_1]
 refine Wp.ctx (fun x => seqW _ _ _ _ (blockW _ (x))) (L134_0_ok x1 (0 : Int) (w64 (x2 - x1)) (q1, o1) _ o (by kernel_rfl) h9) ?_
 intro e st hq
 cases o with
 | next _ => (first | cases h | (simp at h))
 | jmp n_ s_ =>
  obtain ⟨rfl, rfl, hq⟩ := hq
  obtain ⟨s9_10, y1_10⟩ := s_
  unfold F134_0 at hq
  (try simp only [] at h hq)
  revert h
  refine gB fun o h20 => ?_
  intro h
  simp (maxSteps := 10000000) (implicitDefEqProofs := false) (disch := first | with_reducible assumption | exact rfl | exact im_ _ | (fail_if_success show Kn _ _); omega) only [bs, rs134, ls134, Nat.reduceAdd, ↓reduceIte, binD_quo_k, boxD_dagg, loadD_pagg a129 z129, loadD_ptr a55, q130_0, q158_0, q158_1, hq]
  refine Wp.ctx (fun x => blockW _ (x)) (L134_1_ok x1 (0 : Int) (w64 ((w64 (x2 - x1)) - (1 : Int)), y1_10) _ o (by kernel_rfl) h20) ?_
  intro e st hq
  cases o with
  | next _ => (first | cases h | (simp at h))
  | jmp n_ s_ =>
   obtain ⟨rfl, rfl, hq⟩ := hq
   obtain ⟨s10_21, y1_21⟩ := s_
   obtain rfl := Option.some.inj h
   simp (maxSteps := 10000000) (implicitDefEqProofs := false) (disch := first | with_reducible assumption | exact rfl | exact im_ _ | (fail_if_success show Kn _ _); omega) only [bs, rs134, ls134, Nat.reduceAdd, ↓reduceIte, binD_quo_k, boxD_dagg, loadD_pagg a129 z129, loadD_ptr a55, q130_0, q158_0, q158_1]
   exact ⟨by simp, hq⟩
  | ret _ => (first | cases h | (simp at h))
 | ret _ => (first | cases h | (simp at h))
def ls173 := And.intro @faP_129_0 (And.intro @sv_1_0_1 (And.intro @varld_1_0 (@varld_2_0_0)))
theorem q134_0 {a1 : List Pair} {a2 a3 : Int} {r9001 : (List Pair)} {X2 : Ob} (h9002 : sort_heapSort_func a2 a3 a1 = some r9001) : callD (callW Tryz.prog A0) A0 [.var [.ref 1 0 a1.length 2], .arr (encL en_Pair a1), X2] 134 [.agg [.fn (.func 65) [.ptr 0 0], sw130 1 a1.length], iv a2, iv a3] = some (.p (.tup []), some [.var [.ref 1 0 r9001.length 2], .arr (encL en_Pair r9001), X2]) := (callD_put (dsw := [.agg [.fn (.func 65) [.ptr 0 0], sw130 1 a1.length], iv a2, iv a3]) (ds' := [.agg [.fn (.func 65) [.ptr 0 0], sw130 1 a1.length], iv a2, iv a3]) (i := 0) (ids := [1]) (o := .var [.ref 1 0 a1.length 2]) (os := [.arr (encL en_Pair a1)]) (o' := .var [.ref 1 0 r9001.length 2]) (os' := [.arr (encL en_Pair r9001)]) rfl (by kernel_rfl) (by kernel_rfl) (by kernel_rfl) (by kernel_rfl) (by kernel_rfl) (f134_ok _ _ _ _ h9002) rfl rfl).trans (by kernel_rfl)
theorem q65_1 {a1 : List Pair} {a2 a3 : Int} {r9001 : Bool} {X2 X3 : Ob} (h9002 : match_tidy_c1 a2 a3 a1 = some r9001) : callD (callW Tryz.prog A0) A0 [.var [.ref 1 0 a1.length 2], .arr (encL en_Pair a1), X2, X3] 65 [iv a2, iv a3, .ptr 0 0] = some (.p (.v (.bool r9001)), some [.var [.ref 1 0 a1.length 2], .arr (encL en_Pair a1), X2, X3]) := (callD_put (dsw := [iv a2, iv a3, .ptr 0 0]) (ds' := [iv a2, iv a3, .ptr 0 0]) (i := 0) (ids := [1]) (o := .var [.ref 1 0 a1.length 2]) (os := [.arr (encL en_Pair a1)]) (o' := .var [.ref 1 0 a1.length 2]) (os' := [.arr (encL en_Pair a1)]) rfl (by kernel_rfl) (by kernel_rfl) (by kernel_rfl) (by kernel_rfl) (by kernel_rfl) (f65_ok _ _ _ _ h9002) rfl rfl).trans (by kernel_rfl)
theorem f173_ok  (x1 : Int) (x2 : Int) (o1 : (List Pair)) (o2 : Int) (r : (Int × Int × Int)) (h : sort_order2_func x1 x2 o1 o2 = some r) : callW Tryz.prog A0 173 [.agg [.fn (.func 65) [.ptr 0 0], sw130 1 o1.length], iv x1, iv x2, .ptr 2 0] [.var [.ref 1 0 o1.length 2], .arr (encL en_Pair o1), .var [iv o2]] = some (.p (.tup [.v (.int .i64 r.1), .v (.int .i64 r.2.1)]), [.var [.ref 1 0 o1.length 2], .arr (encL en_Pair o1), .var [iv r.2.2]]) := by
 refine call_ofI (fn := Tryz.f173) (c := bodyOf Tryz.f173) 20 rfl rfl (by kernel_rfl) (by kernel_rfl) (by kernel_rfl) ?_
 unfold sort_order2_func at h; unfold bodyOf Tryz.f173; simp only [ens]
 revert h
 repeat' first | (with_reducible refine gB fun _ _ => ?_) | (with_reducible refine gT (fun _ _ => ?_) (fun _ _ => ?_))
 all_goals
  intro h; obtain rfl := Option.some.inj h
  first | (simp (maxSteps := 10000000) (implicitDefEqProofs := false) (disch := first | with_reducible assumption | exact rfl | exact im_ _ | (fail_if_success show Kn _ _); omega) only [bs, rs173, ls173, Nat.reduceAdd, ↓reduceIte, boxD_dagg, loadD_ptr a3, loadD_ptr a85, nilCheckD_ptr, ops_nilCheck, q65_1, storeD_int z3]; refine ⟨by simp, ?_⟩; show _ = _; kernel_rfl) | (exfalso; omega)
def ls162 := And.intro @ex_2_0 (And.intro @ex_2_1 (@varlg_ff))
theorem q173_0 {a1 : List Pair} {a2 a3 a4 : Int} {r9001 : (Int × Int × Int)} {X3 : Ob} (h9002 : sort_order2_func a3 a4 a1 a2 = some r9001) : callD (callW Tryz.prog A0) A0 [.var [.ref 1 0 a1.length 2], .arr (encL en_Pair a1), .var [iv a2], X3] 173 [.agg [.fn (.func 65) [.ptr 0 0], sw130 1 a1.length], iv a3, iv a4, .ptr 2 0] = some (.p (.tup [.v (.int .i64 r9001.1), .v (.int .i64 r9001.2.1)]), some [.var [.ref 1 0 a1.length 2], .arr (encL en_Pair a1), .var [iv r9001.2.2], X3]) := (callD_put (dsw := [.agg [.fn (.func 65) [.ptr 0 0], sw130 1 a1.length], iv a3, iv a4, .ptr 2 0]) (ds' := [.agg [.fn (.func 65) [.ptr 0 0], sw130 1 a1.length], iv a3, iv a4, .ptr 2 0]) (i := 0) (ids := [1, 2]) (o := .var [.ref 1 0 a1.length 2]) (os := [.arr (encL en_Pair a1), .var [iv a2]]) (o' := .var [.ref 1 0 a1.length 2]) (os' := [.arr (encL en_Pair a1), .var [iv r9001.2.2]]) rfl (by kernel_rfl) (by kernel_rfl) (by kernel_rfl) (by kernel_rfl) (by kernel_rfl) (f173_ok _ _ _ _ _ h9002) rfl rfl).trans (by kernel_rfl)
theorem f162_ok  (x1 : Int) (x2 : Int) (x3 : Int) (o1 : (List Pair)) (o2 : Int) (r : (Int × Int)) (h : sort_median_func x1 x2 x3 o1 o2 = some r) : callW Tryz.prog A0 162 [.agg [.fn (.func 65) [.ptr 0 0], sw130 1 o1.length], iv x1, iv x2, iv x3, .ptr 2 0] [.var [.ref 1 0 o1.length 2], .arr (encL en_Pair o1), .var [iv o2]] = some (.p (.v (.int .i64 r.1)), [.var [.ref 1 0 o1.length 2], .arr (encL en_Pair o1), .var [iv r.2]]) := by
 refine call_ofI (fn := Tryz.f162) (c := bodyOf Tryz.f162) 31 rfl rfl (by kernel_rfl) (by kernel_rfl) (by kernel_rfl) ?_
 unfold sort_median_func at h; unfold bodyOf Tryz.f162; simp only [ens]
 revert h
 repeat' (with_reducible refine gB fun _ _ => ?_)
 intro h; obtain rfl := Option.some.inj h
 simp (maxSteps := 10000000) (implicitDefEqProofs := false) (disch := first | with_reducible assumption | exact rfl | exact im_ _ | (fail_if_success show Kn _ _); omega) only [bs, rs162, ls162, Nat.reduceAdd, ↓reduceIte, boxD_dagg, loadD_pagg a129 z129, q173_0]
 refine ⟨by simp, ?_⟩; show _ = _; kernel_rfl
def ls161 := @varlg_ff
theorem q162_0 {a1 : List Pair} {a2 a3 a4 a5 : Int} {r9001 : (Int × Int)} {X3 : Ob} (h9002 : sort_median_func a3 a4 a5 a1 a2 = some r9001) : callD (callW Tryz.prog A0) A0 [.var [.ref 1 0 a1.length 2], .arr (encL en_Pair a1), .var [iv a2], X3] 162 [.agg [.fn (.func 65) [.ptr 0 0], sw130 1 a1.length], iv a3, iv a4, iv a5, .ptr 2 0] = some (.p (.v (.int .i64 r9001.1)), some [.var [.ref 1 0 a1.length 2], .arr (encL en_Pair a1), .var [iv r9001.2], X3]) := (callD_put (dsw := [.agg [.fn (.func 65) [.ptr 0 0], sw130 1 a1.length], iv a3, iv a4, iv a5, .ptr 2 0]) (ds' := [.agg [.fn (.func 65) [.ptr 0 0], sw130 1 a1.length], iv a3, iv a4, iv a5, .ptr 2 0]) (i := 0) (ids := [1, 2]) (o := .var [.ref 1 0 a1.length 2]) (os := [.arr (encL en_Pair a1), .var [iv a2]]) (o' := .var [.ref 1 0 a1.length 2]) (os' := [.arr (encL en_Pair a1), .var [iv r9001.2]]) rfl (by kernel_rfl) (by kernel_rfl) (by kernel_rfl) (by kernel_rfl) (by kernel_rfl) (f162_ok _ _ _ _ _ _ h9002) rfl rfl).trans (by kernel_rfl)
theorem f161_ok  (x1 : Int) (o1 : (List Pair)) (o2 : Int) (r : (Int × Int)) (h : sort_medianAdjacent_func x1 o1 o2 = some r) : callW Tryz.prog A0 161 [.agg [.fn (.func 65) [.ptr 0 0], sw130 1 o1.length], iv x1, .ptr 2 0] [.var [.ref 1 0 o1.length 2], .arr (encL en_Pair o1), .var [iv o2]] = some (.p (.v (.int .i64 r.1)), [.var [.ref 1 0 o1.length 2], .arr (encL en_Pair o1), .var [iv r.2]]) := by
 refine call_ofI (fn := Tryz.f161) (c := bodyOf Tryz.f161) 12 rfl rfl (by kernel_rfl) (by kernel_rfl) (by kernel_rfl) ?_
 unfold sort_medianAdjacent_func at h; unfold bodyOf Tryz.f161; simp only [ens]
 revert h
 repeat' (with_reducible refine gB fun _ _ => ?_)
 intro h; obtain rfl := Option.some.inj h
 simp (maxSteps := 10000000) (implicitDefEqProofs := false) (disch := first | with_reducible assumption | exact rfl | exact im_ _ | (fail_if_success show Kn _ _); omega) only [bs, rs161, ls161, Nat.reduceAdd, ↓reduceIte, boxD_dagg, loadD_pagg a129 z129, q162_0]
 refine ⟨by simp, ?_⟩; show _ = _; kernel_rfl
def ls136 := And.intro @al_3 (And.intro @varld_1_0 (@varlg_ff))
theorem q162_1 {a1 : List Pair} {a2 a3 a4 a5 : Int} {r9001 : (Int × Int)} {X2 : Ob} (h9002 : sort_median_func a3 a4 a5 a1 a2 = some r9001) : callD (callW Tryz.prog A0) A0 [.var [.ref 1 0 a1.length 2], .arr (encL en_Pair a1), X2, .var [iv a2]] 162 [.agg [.fn (.func 65) [.ptr 0 0], sw130 1 a1.length], iv a3, iv a4, iv a5, .ptr 3 0] = some (.p (.v (.int .i64 r9001.1)), some [.var [.ref 1 0 a1.length 2], .arr (encL en_Pair a1), X2, .var [iv r9001.2]]) := (callD_put (dsw := [.agg [.fn (.func 65) [.ptr 0 0], sw130 1 a1.length], iv a3, iv a4, iv a5, .ptr 3 0]) (ds' := [.agg [.fn (.func 65) [.ptr 0 0], sw130 1 a1.length], iv a3, iv a4, iv a5, .ptr 2 0]) (i := 0) (ids := [1, 3]) (o := .var [.ref 1 0 a1.length 2]) (os := [.arr (encL en_Pair a1), .var [iv a2]]) (o' := .var [.ref 1 0 a1.length 2]) (os' := [.arr (encL en_Pair a1), .var [iv r9001.2]]) rfl (by kernel_rfl) (by kernel_rfl) (by kernel_rfl) (by kernel_rfl) (by kernel_rfl) (f162_ok _ _ _ _ _ _ h9002) rfl rfl).trans (by kernel_rfl)
theorem q161_0 {a1 : List Pair} {a2 a3 : Int} {r9001 : (Int × Int)} {X2 : Ob} (h9002 : sort_medianAdjacent_func a3 a1 a2 = some r9001) : callD (callW Tryz.prog A0) A0 [.var [.ref 1 0 a1.length 2], .arr (encL en_Pair a1), X2, .var [iv a2]] 161 [.agg [.fn (.func 65) [.ptr 0 0], sw130 1 a1.length], iv a3, .ptr 3 0] = some (.p (.v (.int .i64 r9001.1)), some [.var [.ref 1 0 a1.length 2], .arr (encL en_Pair a1), X2, .var [iv r9001.2]]) := (callD_put (dsw := [.agg [.fn (.func 65) [.ptr 0 0], sw130 1 a1.length], iv a3, .ptr 3 0]) (ds' := [.agg [.fn (.func 65) [.ptr 0 0], sw130 1 a1.length], iv a3, .ptr 2 0]) (i := 0) (ids := [1, 3]) (o := .var [.ref 1 0 a1.length 2]) (os := [.arr (encL en_Pair a1), .var [iv a2]]) (o' := .var [.ref 1 0 a1.length 2]) (os' := [.arr (encL en_Pair a1), .var [iv r9001.2]]) rfl (by kernel_rfl) (by kernel_rfl) (by kernel_rfl) (by kernel_rfl) (by kernel_rfl) (f161_ok _ _ _ _ h9002) rfl rfl).trans (by kernel_rfl)
theorem f136_ok  (x1 : Int) (x2 : Int) (o1 : (List Pair)) (r : (Int × Int)) (h : sort_choosePivot_func x1 x2 o1 = some r) : callW Tryz.prog A0 136 [.agg [.fn (.func 65) [.ptr 0 0], sw130 1 o1.length], iv x1, iv x2] [.var [.ref 1 0 o1.length 2], .arr (encL en_Pair o1)] = some (.p (.tup [.v (.int .i64 r.1), .v (.int .i64 r.2)]), [.var [.ref 1 0 o1.length 2], .arr (encL en_Pair o1)]) := by
 refine call_ofI (fn := Tryz.f136) (c := bodyOf Tryz.f136) 54 rfl rfl (by kernel_rfl) (by kernel_rfl) (by kernel_rfl) ?_
 unfold sort_choosePivot_func at h; unfold bodyOf Tryz.f136; simp only [ens]
 revert h
 repeat' first | (with_reducible refine gB fun _ _ => ?_) | (with_reducible refine gI (fun _ _ => ?_) (fun _ _ => ?_))
 all_goals
  intro h; obtain rfl := Option.some.inj h
  first | (simp (maxSteps := 10000000) (implicitDefEqProofs := false) (disch := first | with_reducible assumption | exact rfl | exact im_ _ | (fail_if_success show Kn _ _); omega) only [bs, rs136, ls136, Nat.reduceAdd, ↓reduceIte, Int.reduceEq, Int.reduceLE, Int.reduceLT, binD_quo_k, boxD_dagg, loadD_pagg a129 z129, loadD_ptr a3, q161_0, q162_1]; refine ⟨by simp, ?_⟩; show _ = _; kernel_rfl) | (exfalso; omega)
def ls137 := And.intro @faP_129_1 (@varld_2_0_1)
noncomputable def L137_0 : Code := (loopsOf (bodyOf Tryz.f137)).getD 0 .skip
def g137_0 : List Ghost := [.keep [3, 6, 7]]
noncomputable def F137_0 : (Int × Int × (List Pair)) → St := fun (s6, s7, y1) => ⟨[J, J, J, .ptr 2 0, J, J, iv s6, iv s7, J, J, J, J, J, J, J, J, J, J, J, J, J, J, J], [.var [.ref 1 0 y1.length 2], .arr (encL en_Pair y1), .var [.fn (.func 65) [.ptr 0 0], sw130 1 y1.length]], 2⟩
theorem L137_0_ok : ∀ s st o, ghostsD g137_0 st = some (F137_0 s) → iter (sort_reverseRange_func_L0) s = some o →
    Wp (evW Tryz.prog A0 137 (.loop L137_0) st) (OutQ (F137_0) g137_0 (fun n s st => n = 0 ∧ (match s with | (s6, s7, y1) => finishD Tryz.prog A0 137 Tryz.f137 st = some (.p (.tup []), [.var [.ref 1 0 y1.length 2], .arr (encL en_Pair y1)]))) (fun r st => finishD Tryz.prog A0 137 Tryz.f137 st = some (.p (.tup []), [.var [.ref 1 0 r.length 2], .arr (encL en_Pair r)])) o) := by
 refine Wp.iter ?_
 intro s st o hg h
 obtain ⟨s6, s7, y1⟩ := s
 unfold sort_reverseRange_func_L0 at h; unfold g137_0 F137_0 at hg ⊢
 (try simp only [] at h hg)
 unfold L137_0 bodyOf Tryz.f137; simp only [loopsOf, ens]
 revert h
 repeat' first | (with_reducible refine gB fun _ _ => ?_) | (with_reducible refine gW fun _ => ?_) | (with_reducible refine gI (fun _ _ => ?_) (fun _ _ => ?_))
 all_goals
  intro h; obtain rfl := Option.some.inj h
  first | (simp (maxSteps := 10000000) (implicitDefEqProofs := false) (disch := first | with_reducible assumption | exact rfl | exact im_ _ | (fail_if_success show Kn _ _); omega) only [bs, rs137, ls137, Nat.reduceAdd, ↓reduceIte, boxD_dagg, loadD_ptr a55, q130_0, hg]; first | (exact ⟨(rfl : Ex.normal = Ex.normal), by (try simp only [List.length_set, cpL_len, *]); kernel_rfl⟩) | (refine ⟨(rfl : Ex.exit 0 = Ex.exit 0), rfl, ?_⟩; show _ = _; kernel_rfl)) | (exfalso; omega)
theorem f137_ok  (x1 : Int) (x2 : Int) (o1 : (List Pair)) (r : (List Pair)) (h : sort_reverseRange_func x1 x2 o1 = some r) : callW Tryz.prog A0 137 [.agg [.fn (.func 65) [.ptr 0 0], sw130 1 o1.length], iv x1, iv x2] [.var [.ref 1 0 o1.length 2], .arr (encL en_Pair o1)] = some (.p (.tup []), [.var [.ref 1 0 r.length 2], .arr (encL en_Pair r)]) := by
 refine call_ofI (fn := Tryz.f137) (c := bodyOf Tryz.f137) 20 rfl rfl (by kernel_rfl) (by kernel_rfl) (by kernel_rfl) ?_
 unfold sort_reverseRange_func at h; unfold bodyOf Tryz.f137; simp only [ens]
 revert h
 refine gB fun o h11 => ?_
 intro h
 simp (maxSteps := 10000000) (implicitDefEqProofs := false) (disch := first | with_reducible assumption | exact rfl | exact im_ _ | (fail_if_success show Kn _ _); omega) only [bs, rs137, ls137, Nat.reduceAdd, ↓reduceIte, boxD_dagg, loadD_ptr a55, q130_0]
 refine Wp.ctx (fun x => blockW _ (x)) (L137_0_ok (x1, w64 (x2 - (1 : Int)), o1) _ o (by kernel_rfl) h11) ?_
 intro e st hq
 cases o with
 | next _ => (first | cases h | (simp at h))
 | jmp n_ s_ =>
  obtain ⟨rfl, rfl, hq⟩ := hq
  obtain ⟨s6_12, s7_12, y1_12⟩ := s_
  obtain rfl := Option.some.inj h
  simp (maxSteps := 10000000) (implicitDefEqProofs := false) (disch := first | with_reducible assumption | exact rfl | exact im_ _ | (fail_if_success show Kn _ _); omega) only [bs, rs137, ls137, Nat.reduceAdd, ↓reduceIte, boxD_dagg, loadD_ptr a55, q130_0]
  exact ⟨by simp, hq⟩
 | ret _ => (first | cases h | (simp at h))
def ls138 := And.intro @faP_129_0 (And.intro @faP_129_1 (And.intro @varld_2_0_0 (@varld_2_0_1)))
noncomputable def L138_3 : Code := (loopsOf (bodyOf Tryz.f138)).getD 3 .skip
def g138_3 : List Ghost := [.keep [1, 2, 3, 7, 8, 10]]
noncomputable def F138_3 (s1 : Int) (s2 : Int) (s7 : Int) (s8 : Int) : (Int × (List Pair)) → St := fun (s10, y1) => ⟨[J, iv s1, iv s2, .ptr 2 0, J, J, J, iv s7, iv s8, J, iv s10, J, J, J, J, J, J, J, J, J, J, J, J, J, J, J, J, J, J, J, J, J, J, J, J, J, J, J, J, J, J, J, J, J, J, J, J, J, J, J, J, J, J, J, J, J, J, J, J, J, J, J, J, J, J, J, J, J, J, J, J, J, J, J, J, J, J, J, J, J, J, J, J, J, J, J, J, J, J, J, J], [.var [.ref 1 0 y1.length 2], .arr (encL en_Pair y1), .var [.fn (.func 65) [.ptr 0 0], sw130 1 y1.length]], 2⟩
theorem L138_3_ok (s1 : Int) (s2 : Int) (s7 : Int) (s8 : Int) : ∀ s st o, ghostsD g138_3 st = some (F138_3 s1 s2 s7 s8 s) → iter (sort_partialInsertionSort_func_L3 s1 s2 s7 s8) s = some o →
    Wp (evW Tryz.prog A0 138 (.loop L138_3) st) (OutQ (F138_3 s1 s2 s7 s8) g138_3 (fun n s st => n = 6 ∧ ghostsD [.keep [1, 2, 3, 7, 8, 10]] st = some (F138_3 s1 s2 s7 s8 s)) (fun r st => finishD Tryz.prog A0 138 Tryz.f138 st = some (.p (.v (.bool r.1)), [.var [.ref 1 0 r.2.length 2], .arr (encL en_Pair r.2)])) o) := by
 refine Wp.iter ?_
 intro s st o hg h
 obtain ⟨s10, y1⟩ := s
 unfold sort_partialInsertionSort_func_L3 at h; unfold g138_3 F138_3 at hg ⊢
 (try simp only [] at h hg)
 unfold L138_3 bodyOf Tryz.f138; simp only [loopsOf, ens]
 revert h
 repeat' first | (with_reducible refine gB fun _ _ => ?_) | (with_reducible refine gW fun _ => ?_) | (with_reducible refine gT (fun _ _ => ?_) (fun _ _ => ?_)) | (with_reducible refine gI (fun _ _ => ?_) (fun _ _ => ?_))
 all_goals
  intro h; obtain rfl := Option.some.inj h
  first | (simp (maxSteps := 10000000) (implicitDefEqProofs := false) (disch := first | with_reducible assumption | exact rfl | exact im_ _ | (fail_if_success show Kn _ _); omega) only [bs, rs138, ls138, Nat.reduceAdd, ↓reduceIte, boxD_dagg, loadD_ptr a55, loadD_ptr a85, q130_0, q65_0, hg]; first | (exact ⟨(rfl : Ex.normal = Ex.normal), by (try simp only [List.length_set, cpL_len, *]); kernel_rfl⟩) | (exact ⟨(rfl : Ex.exit 6 = Ex.exit 6), rfl, by kernel_rfl⟩)) | (exfalso; omega)
noncomputable def L138_2 : Code := (loopsOf (bodyOf Tryz.f138)).getD 2 .skip
def g138_2 : List Ghost := [.keep [1, 2, 3, 7, 8, 9]]
noncomputable def F138_2 (s1 : Int) (s2 : Int) (s7 : Int) (s8 : Int) : (Int × (List Pair)) → St := fun (s9, y1) => ⟨[J, iv s1, iv s2, .ptr 2 0, J, J, J, iv s7, iv s8, iv s9, J, J, J, J, J, J, J, J, J, J, J, J, J, J, J, J, J, J, J, J, J, J, J, J, J, J, J, J, J, J, J, J, J, J, J, J, J, J, J, J, J, J, J, J, J, J, J, J, J, J, J, J, J, J, J, J, J, J, J, J, J, J, J, J, J, J, J, J, J, J, J, J, J, J, J, J, J, J, J, J, J], [.var [.ref 1 0 y1.length 2], .arr (encL en_Pair y1), .var [.fn (.func 65) [.ptr 0 0], sw130 1 y1.length]], 2⟩
theorem L138_2_ok (s1 : Int) (s2 : Int) (s7 : Int) (s8 : Int) : ∀ s st o, ghostsD g138_2 st = some (F138_2 s1 s2 s7 s8 s) → iter (sort_partialInsertionSort_func_L2 s1 s2 s7 s8) s = some o →
    Wp (evW Tryz.prog A0 138 (.loop L138_2) st) (OutQ (F138_2 s1 s2 s7 s8) g138_2 (fun n s st => n = 4 ∧ ghostsD [.keep [1, 2, 3, 7, 8, 9]] st = some (F138_2 s1 s2 s7 s8 s)) (fun r st => finishD Tryz.prog A0 138 Tryz.f138 st = some (.p (.v (.bool r.1)), [.var [.ref 1 0 r.2.length 2], .arr (encL en_Pair r.2)])) o) := by
 refine Wp.iter ?_
 intro s st o hg h
 obtain ⟨s9, y1⟩ := s
 unfold sort_partialInsertionSort_func_L2 at h; unfold g138_2 F138_2 at hg ⊢
 (try simp only [] at h hg)
 unfold L138_2 bodyOf Tryz.f138; simp only [loopsOf, ens]
 revert h
 repeat' first | (with_reducible refine gB fun _ _ => ?_) | (with_reducible refine gW fun _ => ?_) | (with_reducible refine gT (fun _ _ => ?_) (fun _ _ => ?_)) | (with_reducible refine gI (fun _ _ => ?_) (fun _ _ => ?_))
 all_goals
  intro h; obtain rfl := Option.some.inj h
  first | (simp (maxSteps := 10000000) (implicitDefEqProofs := false) (disch := first | with_reducible assumption | exact rfl | exact im_ _ | (fail_if_success show Kn _ _); omega) only [bs, rs138, ls138, Nat.reduceAdd, ↓reduceIte, boxD_dagg, loadD_ptr a55, loadD_ptr a85, q130_0, q65_0, hg]; first | (exact ⟨(rfl : Ex.normal = Ex.normal), by (try simp only [List.length_set, cpL_len, *]); kernel_rfl⟩) | (exact ⟨(rfl : Ex.exit 4 = Ex.exit 4), rfl, by kernel_rfl⟩)) | (exfalso; omega)
noncomputable def L138_1 : Code := (loopsOf (bodyOf Tryz.f138)).getD 1 .skip
def g138_1 : List Ghost := [.keep [1, 2, 3, 7, 8]]
noncomputable def F138_1 (s1 : Int) (s2 : Int) (s8 : Int) (y1 : (List Pair)) : Int → St := fun s7 => ⟨[J, iv s1, iv s2, .ptr 2 0, J, J, J, iv s7, iv s8, J, J, J, J, J, J, J, J, J, J, J, J, J, J, J, J, J, J, J, J, J, J, J, J, J, J, J, J, J, J, J, J, J, J, J, J, J, J, J, J, J, J, J, J, J, J, J, J, J, J, J, J, J, J, J, J, J, J, J, J, J, J, J, J, J, J, J, J, J, J, J, J, J, J, J, J, J, J, J, J, J, J], [.var [.ref 1 0 y1.length 2], .arr (encL en_Pair y1), .var [.fn (.func 65) [.ptr 0 0], sw130 1 y1.length]], 2⟩
theorem L138_1_ok (s1 : Int) (s2 : Int) (s8 : Int) (y1 : (List Pair)) : ∀ s st o, ghostsD g138_1 st = some (F138_1 s1 s2 s8 y1 s) → iter (sort_partialInsertionSort_func_L1 s1 s2 s8 y1) s = some o →
    Wp (evW Tryz.prog A0 138 (.loop L138_1) st) (OutQ (F138_1 s1 s2 s8 y1) g138_1 (fun n s st => n = 2 ∧ ghostsD [.keep [1, 2, 3, 7, 8]] st = some (F138_1 s1 s2 s8 y1 s)) (fun r st => finishD Tryz.prog A0 138 Tryz.f138 st = some (.p (.v (.bool r.1)), [.var [.ref 1 0 r.2.length 2], .arr (encL en_Pair r.2)])) o) := by
 refine Wp.iter ?_
 intro s st o hg h
 generalize s = s7 at hg h
 unfold sort_partialInsertionSort_func_L1 at h; unfold g138_1 F138_1 at hg ⊢
 (try simp only [] at h hg)
 unfold L138_1 bodyOf Tryz.f138; simp only [loopsOf, ens]
 revert h
 repeat' first | (with_reducible refine gB fun _ _ => ?_) | (with_reducible refine gT (fun _ _ => ?_) (fun _ _ => ?_)) | (with_reducible refine gI (fun _ _ => ?_) (fun _ _ => ?_))
 all_goals
  intro h; obtain rfl := Option.some.inj h
  first | (simp (maxSteps := 10000000) (implicitDefEqProofs := false) (disch := first | with_reducible assumption | exact rfl | exact im_ _ | (fail_if_success show Kn _ _); omega) only [bs, rs138, ls138, Nat.reduceAdd, ↓reduceIte, boxD_dagg, loadD_ptr a55, loadD_ptr a85, q130_0, q65_0, hg]; first | (exact ⟨(rfl : Ex.exit 2 = Ex.exit 2), rfl, by kernel_rfl⟩) | (exact ⟨(rfl : Ex.normal = Ex.normal), by kernel_rfl⟩)) | (exfalso; omega)
noncomputable def L138_0 : Code := (loopsOf (bodyOf Tryz.f138)).getD 0 .skip
def g138_0 : List Ghost := [.keep [1, 2, 3, 7, 8]]
noncomputable def F138_0 (s1 : Int) (s2 : Int) : (Int × Int × (List Pair)) → St := fun (s7, s8, y1) => ⟨[J, iv s1, iv s2, .ptr 2 0, J, J, J, iv s7, iv s8, J, J, J, J, J, J, J, J, J, J, J, J, J, J, J, J, J, J, J, J, J, J, J, J, J, J, J, J, J, J, J, J, J, J, J, J, J, J, J, J, J, J, J, J, J, J, J, J, J, J, J, J, J, J, J, J, J, J, J, J, J, J, J, J, J, J, J, J, J, J, J, J, J, J, J, J, J, J, J, J, J, J], [.var [.ref 1 0 y1.length 2], .arr (encL en_Pair y1), .var [.fn (.func 65) [.ptr 0 0], sw130 1 y1.length]], 2⟩
theorem L138_0_ok (s1 : Int) (s2 : Int) : ∀ s st o, ghostsD g138_0 st = some (F138_0 s1 s2 s) → iter (sort_partialInsertionSort_func_L0 s1 s2) s = some o →
    Wp (evW Tryz.prog A0 138 (.loop L138_0) st) (OutQ (F138_0 s1 s2) g138_0 (fun n s st => n = 0 ∧ ghostsD [.keep [1, 2, 3, 7, 8]] st = some (F138_0 s1 s2 s)) (fun r st => finishD Tryz.prog A0 138 Tryz.f138 st = some (.p (.v (.bool r.1)), [.var [.ref 1 0 r.2.length 2], .arr (encL en_Pair r.2)])) o) := by
 refine Wp.iter ?_
 intro s st o hg h
 obtain ⟨s7, s8, y1⟩ := s
 unfold sort_partialInsertionSort_func_L0 at h; unfold g138_0 F138_0 at hg ⊢
 (try simp only [] at h hg)
 unfold L138_0 bodyOf Tryz.f138; simp only [loopsOf, ens]
 revert h
 refine gI (fun h1 _ => ?_) (fun h1 _ => ?_)
 ·refine gB fun o h7 => ?_
  intro h
  simp (maxSteps := 10000000) (implicitDefEqProofs := false) (disch := first | with_reducible assumption | exact rfl | exact im_ _ | (fail_if_success show Kn _ _); omega) only [bs, rs138, ls138, Nat.reduceAdd, ↓reduceIte, boxD_dagg, loadD_ptr a55, loadD_ptr a85, q130_0, q65_0, hg]
  refine Wp.ctx (fun x => seqW _ _ _ _ (blockW _ (seqW _ _ _ _ (blockW _ (x))))) (L138_1_ok s1 s2 s8 y1 s7 _ o (by kernel_rfl) h7) ?_
  intro e st hq
  cases o with
  | next _ => (first | cases h | (simp at h))
  | jmp n_ s_ =>
   obtain ⟨rfl, rfl, hq⟩ := hq
   generalize s_ = s7_8 at h hq
   unfold F138_1 at hq
   (try simp only [] at h hq)
   revert h
   refine gI (fun h9 _ => ?_) (fun h9 _ => ?_)
   ·intro h; obtain rfl := Option.some.inj h
    simp (maxSteps := 10000000) (implicitDefEqProofs := false) (disch := first | with_reducible assumption | exact rfl | exact im_ _ | (fail_if_success show Kn _ _); omega) only [bs, rs138, ls138, Nat.reduceAdd, ↓reduceIte, boxD_dagg, loadD_ptr a55, loadD_ptr a85, q130_0, q65_0, hg, hq]
    refine ⟨(rfl : Ex.ret = Ex.ret), ?_⟩; show _ = _; kernel_rfl
   ·refine gI (fun h10 _ => ?_) (fun h10 _ => ?_)
    ·intro h; obtain rfl := Option.some.inj h
     simp (maxSteps := 10000000) (implicitDefEqProofs := false) (disch := first | with_reducible assumption | exact rfl | exact im_ _ | (fail_if_success show Kn _ _); omega) only [bs, rs138, ls138, Nat.reduceAdd, ↓reduceIte, boxD_dagg, loadD_ptr a55, loadD_ptr a85, q130_0, q65_0, hg, hq]
     refine ⟨(rfl : Ex.ret = Ex.ret), ?_⟩; show _ = _; kernel_rfl
    ·refine gB fun r13 h11 => ?_
     refine gW fun h14 => ?_
     refine gI (fun h15 _ => ?_) (fun h15 _ => ?_)
     ·refine gB fun o h25 => ?_
      intro h
      simp (maxSteps := 10000000) (implicitDefEqProofs := false) (disch := first | with_reducible assumption | exact rfl | exact im_ _ | (fail_if_success show Kn _ _); omega) only [bs, rs138, ls138, Nat.reduceAdd, ↓reduceIte, boxD_dagg, loadD_ptr a55, loadD_ptr a85, q130_0, q65_0, hg, hq]
      refine Wp.ctx (fun x => seqW _ _ _ _ (blockW _ (seqW _ _ _ _ (blockW _ (x))))) (L138_2_ok s1 s2 s7_8 s8 (w64 (s7_8 - (1 : Int)), r13) _ o (by unfold F138_2; simp only [List.length_set, cpL_len, h14]; kernel_rfl) h25) ?_
      intro e st hq
      cases o with
      | next _ => (first | cases h | (simp at h))
      | jmp n_ s_ =>
       obtain ⟨rfl, rfl, hq⟩ := hq
       obtain ⟨s9_26, y1_26⟩ := s_
       unfold F138_2 at hq
       (try simp only [] at h hq)
       revert h
       refine gI (fun h27 _ => ?_) (fun h27 _ => ?_)
       ·refine gB fun o h37 => ?_
        intro h
        simp (maxSteps := 10000000) (implicitDefEqProofs := false) (disch := first | with_reducible assumption | exact rfl | exact im_ _ | (fail_if_success show Kn _ _); omega) only [bs, rs138, ls138, Nat.reduceAdd, ↓reduceIte, boxD_dagg, loadD_ptr a55, loadD_ptr a85, q130_0, q65_0, hg, hq, hq]
        refine Wp.ctx (fun x => seqW _ _ _ _ (blockW _ (blockW _ (x)))) (L138_3_ok s1 s2 s7_8 s8 (w64 (s7_8 + (1 : Int)), y1_26) _ o (by kernel_rfl) h37) ?_
        intro e st hq
        cases o with
        | next _ => (first | cases h | (simp at h))
        | jmp n_ s_ =>
         obtain ⟨rfl, rfl, hq⟩ := hq
         obtain ⟨s10_38, y1_38⟩ := s_
         unfold F138_3 at hq
         (try simp only [] at h hq)
         revert h
         intro h; obtain rfl := Option.some.inj h
         simp (maxSteps := 10000000) (implicitDefEqProofs := false) (disch := first | with_reducible assumption | exact rfl | exact im_ _ | (fail_if_success show Kn _ _); omega) only [bs, rs138, ls138, Nat.reduceAdd, ↓reduceIte, boxD_dagg, loadD_ptr a55, loadD_ptr a85, q130_0, q65_0, hg, hq, hq, hq]
         exact ⟨(rfl : Ex.normal = Ex.normal), by kernel_rfl⟩
        | ret _ => (first | cases h | (simp at h))
       ·intro h
        simp (maxSteps := 10000000) (implicitDefEqProofs := false) (disch := first | with_reducible assumption | exact rfl | exact im_ _ | (fail_if_success show Kn _ _); omega) only [bs, rs138, ls138, Nat.reduceAdd, ↓reduceIte, boxD_dagg, loadD_ptr a55, loadD_ptr a85, q130_0, q65_0, hg, hq, hq]
        refine Wp.gh (fun x => regW _ _ _ _ _ x) ⟨[J, iv s1, iv s2, .ptr 2 0, J, J, J, iv s7_8, iv s8, J, J, J, J, J, J, J, J, J, J, J, J, J, J, J, J, J, J, J, J, J, J, J, J, J, J, J, J, J, J, J, J, J, J, J, J, J, J, J, J, J, J, J, J, J, J, J, J, J, J, J, J, J, J, J, J, J, J, J, J, J, J, J, J, J, J, J, J, J, J, J, J, J, J, J, J, J, J, J, J, J, J], [.var [.ref 1 0 y1_26.length 2], .arr (encL en_Pair y1_26), .var [.fn (.func 65) [.ptr 0 0], sw130 1 y1_26.length]], 2⟩ (by kernel_rfl) ?_
        revert h
        intro h; obtain rfl := Option.some.inj h
        simp (maxSteps := 10000000) (implicitDefEqProofs := false) (disch := first | with_reducible assumption | exact rfl | exact im_ _ | (fail_if_success show Kn _ _); omega) only [bs, rs138, ls138, Nat.reduceAdd, ↓reduceIte, boxD_dagg, loadD_ptr a55, loadD_ptr a85, q130_0, q65_0, hg, hq, hq]
        exact ⟨(rfl : Ex.normal = Ex.normal), by kernel_rfl⟩
      | ret _ => (first | cases h | (simp at h))
     ·intro h
      simp (maxSteps := 10000000) (implicitDefEqProofs := false) (disch := first | with_reducible assumption | exact rfl | exact im_ _ | (fail_if_success show Kn _ _); omega) only [bs, rs138, ls138, Nat.reduceAdd, ↓reduceIte, boxD_dagg, loadD_ptr a55, loadD_ptr a85, q130_0, q65_0, hg, hq]
      refine Wp.gh (fun x => seqW _ _ _ _ (blockW _ (seqW _ _ _ _ (regW _ _ _ _ _ x)))) ⟨[J, iv s1, iv s2, .ptr 2 0, J, J, J, iv s7_8, iv s8, J, J, J, J, J, J, J, J, J, J, J, J, J, J, J, J, J, J, J, J, J, J, J, J, J, J, J, J, J, J, J, J, J, J, J, J, J, J, J, J, J, J, J, J, J, J, J, J, J, J, J, J, J, J, J, J, J, J, J, J, J, J, J, J, J, J, J, J, J, J, J, J, J, J, J, J, J, J, J, J, J, J], [.var [.ref 1 0 r13.length 2], .arr (encL en_Pair r13), .var [.fn (.func 65) [.ptr 0 0], sw130 1 r13.length]], 2⟩ (by simp only [List.length_set, cpL_len, h14]; kernel_rfl) ?_
      revert h
      refine gI (fun h39 _ => ?_) (fun h39 _ => ?_)
      ·refine gB fun o h49 => ?_
       intro h
       simp (maxSteps := 10000000) (implicitDefEqProofs := false) (disch := first | with_reducible assumption | exact rfl | exact im_ _ | (fail_if_success show Kn _ _); omega) only [bs, rs138, ls138, Nat.reduceAdd, ↓reduceIte, boxD_dagg, loadD_ptr a55, loadD_ptr a85, q130_0, q65_0, hg, hq]
       refine Wp.ctx (fun x => seqW _ _ _ _ (blockW _ (blockW _ (x)))) (L138_3_ok s1 s2 s7_8 s8 (w64 (s7_8 + (1 : Int)), r13) _ o (by kernel_rfl) h49) ?_
       intro e st hq
       cases o with
       | next _ => (first | cases h | (simp at h))
       | jmp n_ s_ =>
        obtain ⟨rfl, rfl, hq⟩ := hq
        obtain ⟨s10_50, y1_50⟩ := s_
        unfold F138_3 at hq
        (try simp only [] at h hq)
        revert h
        intro h; obtain rfl := Option.some.inj h
        simp (maxSteps := 10000000) (implicitDefEqProofs := false) (disch := first | with_reducible assumption | exact rfl | exact im_ _ | (fail_if_success show Kn _ _); omega) only [bs, rs138, ls138, Nat.reduceAdd, ↓reduceIte, boxD_dagg, loadD_ptr a55, loadD_ptr a85, q130_0, q65_0, hg, hq, hq]
        exact ⟨(rfl : Ex.normal = Ex.normal), by kernel_rfl⟩
       | ret _ => (first | cases h | (simp at h))
      ·intro h
       simp (maxSteps := 10000000) (implicitDefEqProofs := false) (disch := first | with_reducible assumption | exact rfl | exact im_ _ | (fail_if_success show Kn _ _); omega) only [bs, rs138, ls138, Nat.reduceAdd, ↓reduceIte, boxD_dagg, loadD_ptr a55, loadD_ptr a85, q130_0, q65_0, hg, hq]
       refine Wp.gh (fun x => regW _ _ _ _ _ x) ⟨[J, iv s1, iv s2, .ptr 2 0, J, J, J, iv s7_8, iv s8, J, J, J, J, J, J, J, J, J, J, J, J, J, J, J, J, J, J, J, J, J, J, J, J, J, J, J, J, J, J, J, J, J, J, J, J, J, J, J, J, J, J, J, J, J, J, J, J, J, J, J, J, J, J, J, J, J, J, J, J, J, J, J, J, J, J, J, J, J, J, J, J, J, J, J, J, J, J, J, J, J, J], [.var [.ref 1 0 r13.length 2], .arr (encL en_Pair r13), .var [.fn (.func 65) [.ptr 0 0], sw130 1 r13.length]], 2⟩ (by kernel_rfl) ?_
       revert h
       intro h; obtain rfl := Option.some.inj h
       simp (maxSteps := 10000000) (implicitDefEqProofs := false) (disch := first | with_reducible assumption | exact rfl | exact im_ _ | (fail_if_success show Kn _ _); omega) only [bs, rs138, ls138, Nat.reduceAdd, ↓reduceIte, boxD_dagg, loadD_ptr a55, loadD_ptr a85, q130_0, q65_0, hg, hq]
       exact ⟨(rfl : Ex.normal = Ex.normal), by kernel_rfl⟩
  | ret _ => (first | cases h | (simp at h))
 ·intro h; obtain rfl := Option.some.inj h
  simp (maxSteps := 10000000) (implicitDefEqProofs := false) (disch := first | with_reducible assumption | exact rfl | exact im_ _ | (fail_if_success show Kn _ _); omega) only [bs, rs138, ls138, Nat.reduceAdd, ↓reduceIte, boxD_dagg, loadD_ptr a55, loadD_ptr a85, q130_0, q65_0, hg]
  exact ⟨(rfl : Ex.exit 0 = Ex.exit 0), rfl, by kernel_rfl⟩
theorem f138_ok  (x1 : Int) (x2 : Int) (o1 : (List Pair)) (r : (Bool × (List Pair))) (h : sort_partialInsertionSort_func x1 x2 o1 = some r) : callW Tryz.prog A0 138 [.agg [.fn (.func 65) [.ptr 0 0], sw130 1 o1.length], iv x1, iv x2] [.var [.ref 1 0 o1.length 2], .arr (encL en_Pair o1)] = some (.p (.v (.bool r.1)), [.var [.ref 1 0 r.2.length 2], .arr (encL en_Pair r.2)]) := by
 refine call_ofI (fn := Tryz.f138) (c := bodyOf Tryz.f138) 88 rfl rfl (by kernel_rfl) (by kernel_rfl) (by kernel_rfl) ?_
 unfold sort_partialInsertionSort_func at h; unfold bodyOf Tryz.f138; simp only [ens]
 revert h
 refine gB fun o h51 => ?_
 intro h
 simp (maxSteps := 10000000) (implicitDefEqProofs := false) (disch := first | with_reducible assumption | exact rfl | exact im_ _ | (fail_if_success show Kn _ _); omega) only [bs, rs138, ls138, Nat.reduceAdd, ↓reduceIte, boxD_dagg, loadD_ptr a55, loadD_ptr a85, q130_0, q65_0]
 refine Wp.ctx (fun x => seqW _ _ _ _ (blockW _ (x))) (L138_0_ok x1 x2 (w64 (x1 + (1 : Int)), (0 : Int), o1) _ o (by kernel_rfl) h51) ?_
 intro e st hq
 cases o with
 | next _ => (first | cases h | (simp at h))
 | jmp n_ s_ =>
  obtain ⟨rfl, rfl, hq⟩ := hq
  obtain ⟨s7_52, s8_52, y1_52⟩ := s_
  unfold F138_0 at hq
  (try simp only [] at h hq)
  revert h
  intro h; obtain rfl := Option.some.inj h
  simp (maxSteps := 10000000) (implicitDefEqProofs := false) (disch := first | with_reducible assumption | exact rfl | exact im_ _ | (fail_if_success show Kn _ _); omega) only [bs, rs138, ls138, Nat.reduceAdd, ↓reduceIte, boxD_dagg, loadD_ptr a55, loadD_ptr a85, q130_0, q65_0, hq]
  refine ⟨by simp, ?_⟩; show _ = _; kernel_rfl
 | ret r53 =>
  obtain ⟨rfl, hq⟩ := hq
  obtain rfl := Option.some.inj h
  simp (maxSteps := 10000000) (implicitDefEqProofs := false) (disch := first | with_reducible assumption | exact rfl | exact im_ _ | (fail_if_success show Kn _ _); omega) only [bs, rs138, ls138, Nat.reduceAdd, ↓reduceIte, boxD_dagg, loadD_ptr a55, loadD_ptr a85, q130_0, q65_0]
  exact ⟨by simp, hq⟩
def ls140 := And.intro @faP_129_0 (And.intro @faP_129_1 (And.intro @varld_2_0_0 (@varld_2_0_1)))
noncomputable def L140_4 : Code := (loopsOf (bodyOf Tryz.f140)).getD 4 .skip
def g140_4 : List Ghost := [.keep [1, 4, 10, 11], .keep [1, 4, 10, 11]]
noncomputable def F140_4 (s1 : Int) (s10 : Int) (y1 : (List Pair)) : Int → St := fun s11 => ⟨[J, iv s1, J, J, .ptr 2 0, J, J, J, J, J, iv s10, iv s11, J, J, J, J, J, J, J, J, J, J, J, J, J, J, J, J, J, J, J, J, J, J, J, J, J, J, J, J, J, J, J, J, J, J, J, J, J, J, J, J, J, J, J, J, J, J, J, J, J, J, J, J, J, J, J, J, J, J, J, J, J, J, J, J, J, J, J, J, J, J, J, J, J, J, J, J, J, J, J, J, J, J, J, J, J, J, J, J, J, J, J, J, J, J, J], [.var [.ref 1 0 y1.length 2], .arr (encL en_Pair y1), .var [.fn (.func 65) [.ptr 0 0], sw130 1 y1.length]], 2⟩
theorem L140_4_ok (s1 : Int) (s10 : Int) (y1 : (List Pair)) : ∀ s st o, ghostsD g140_4 st = some (F140_4 s1 s10 y1 s) → iter (sort_partition_func_L4 s1 s10 y1) s = some o →
    Wp (evW Tryz.prog A0 140 (.loop L140_4) st) (OutQ (F140_4 s1 s10 y1) g140_4 (fun n s st => n = 8 ∧ ghostsD [.keep [1, 4, 10, 11]] st = some (F140_4 s1 s10 y1 s)) (fun r st => finishD Tryz.prog A0 140 Tryz.f140 st = some (.p (.tup [.v (.int .i64 r.1), .v (.bool r.2.1)]), [.var [.ref 1 0 r.2.2.length 2], .arr (encL en_Pair r.2.2)])) o) := by
 refine Wp.iter ?_
 intro s st o hg h
 generalize s = s11 at hg h
 unfold sort_partition_func_L4 at h; unfold g140_4 F140_4 at hg ⊢
 (try simp only [] at h hg)
 unfold L140_4 bodyOf Tryz.f140; simp only [loopsOf, ens]
 revert h
 repeat' first | (with_reducible refine gB fun _ _ => ?_) | (with_reducible refine gT (fun _ _ => ?_) (fun _ _ => ?_)) | (with_reducible refine gI (fun _ _ => ?_) (fun _ _ => ?_))
 all_goals
  intro h; obtain rfl := Option.some.inj h
  first | (simp (maxSteps := 10000000) (implicitDefEqProofs := false) (disch := first | with_reducible assumption | exact rfl | exact im_ _ | (fail_if_success show Kn _ _); omega) only [bs, rs140, ls140, Nat.reduceAdd, ↓reduceIte, boxD_dagg, loadD_ptr a55, loadD_ptr a85, q130_0, q65_0, hg]; first | (exact ⟨(rfl : Ex.exit 8 = Ex.exit 8), rfl, by kernel_rfl⟩) | (exact ⟨(rfl : Ex.normal = Ex.normal), by kernel_rfl⟩)) | (exfalso; omega)
noncomputable def L140_3 : Code := (loopsOf (bodyOf Tryz.f140)).getD 3 .skip
def g140_3 : List Ghost := [.keep [1, 4, 10, 11], .keep [1, 4, 10, 11]]
noncomputable def F140_3 (s1 : Int) (s11 : Int) (y1 : (List Pair)) : Int → St := fun s10 => ⟨[J, iv s1, J, J, .ptr 2 0, J, J, J, J, J, iv s10, iv s11, J, J, J, J, J, J, J, J, J, J, J, J, J, J, J, J, J, J, J, J, J, J, J, J, J, J, J, J, J, J, J, J, J, J, J, J, J, J, J, J, J, J, J, J, J, J, J, J, J, J, J, J, J, J, J, J, J, J, J, J, J, J, J, J, J, J, J, J, J, J, J, J, J, J, J, J, J, J, J, J, J, J, J, J, J, J, J, J, J, J, J, J, J, J, J], [.var [.ref 1 0 y1.length 2], .arr (encL en_Pair y1), .var [.fn (.func 65) [.ptr 0 0], sw130 1 y1.length]], 2⟩
theorem L140_3_ok (s1 : Int) (s11 : Int) (y1 : (List Pair)) : ∀ s st o, ghostsD g140_3 st = some (F140_3 s1 s11 y1 s) → iter (sort_partition_func_L3 s1 s11 y1) s = some o →
    Wp (evW Tryz.prog A0 140 (.loop L140_3) st) (OutQ (F140_3 s1 s11 y1) g140_3 (fun n s st => n = 6 ∧ ghostsD [.keep [1, 4, 10, 11]] st = some (F140_3 s1 s11 y1 s)) (fun r st => finishD Tryz.prog A0 140 Tryz.f140 st = some (.p (.tup [.v (.int .i64 r.1), .v (.bool r.2.1)]), [.var [.ref 1 0 r.2.2.length 2], .arr (encL en_Pair r.2.2)])) o) := by
 refine Wp.iter ?_
 intro s st o hg h
 generalize s = s10 at hg h
 unfold sort_partition_func_L3 at h; unfold g140_3 F140_3 at hg ⊢
 (try simp only [] at h hg)
 unfold L140_3 bodyOf Tryz.f140; simp only [loopsOf, ens]
 revert h
 repeat' first | (with_reducible refine gB fun _ _ => ?_) | (with_reducible refine gT (fun _ _ => ?_) (fun _ _ => ?_)) | (with_reducible refine gI (fun _ _ => ?_) (fun _ _ => ?_))
 all_goals
  intro h; obtain rfl := Option.some.inj h
  first | (simp (maxSteps := 10000000) (implicitDefEqProofs := false) (disch := first | with_reducible assumption | exact rfl | exact im_ _ | (fail_if_success show Kn _ _); omega) only [bs, rs140, ls140, Nat.reduceAdd, ↓reduceIte, boxD_dagg, loadD_ptr a55, loadD_ptr a85, q130_0, q65_0, hg]; first | (exact ⟨(rfl : Ex.normal = Ex.normal), by kernel_rfl⟩) | (exact ⟨(rfl : Ex.exit 6 = Ex.exit 6), rfl, by kernel_rfl⟩)) | (exfalso; omega)
noncomputable def L140_2 : Code := (loopsOf (bodyOf Tryz.f140)).getD 2 .skip
def g140_2 : List Ghost := [.keep [1, 4, 10, 11]]
noncomputable def F140_2 (s1 : Int) : (Int × Int × (List Pair)) → St := fun (s10, s11, y1) => ⟨[J, iv s1, J, J, .ptr 2 0, J, J, J, J, J, iv s10, iv s11, J, J, J, J, J, J, J, J, J, J, J, J, J, J, J, J, J, J, J, J, J, J, J, J, J, J, J, J, J, J, J, J, J, J, J, J, J, J, J, J, J, J, J, J, J, J, J, J, J, J, J, J, J, J, J, J, J, J, J, J, J, J, J, J, J, J, J, J, J, J, J, J, J, J, J, J, J, J, J, J, J, J, J, J, J, J, J, J, J, J, J, J, J, J, J], [.var [.ref 1 0 y1.length 2], .arr (encL en_Pair y1), .var [.fn (.func 65) [.ptr 0 0], sw130 1 y1.length]], 2⟩
theorem L140_2_ok (s1 : Int) : ∀ s st o, ghostsD g140_2 st = some (F140_2 s1 s) → iter (sort_partition_func_L2 s1) s = some o →
    Wp (evW Tryz.prog A0 140 (.loop L140_2) st) (OutQ (F140_2 s1) g140_2 (fun n s st => n = 4 ∧ ghostsD [.keep [1, 4, 10, 11]] st = some (F140_2 s1 s)) (fun r st => finishD Tryz.prog A0 140 Tryz.f140 st = some (.p (.tup [.v (.int .i64 r.1), .v (.bool r.2.1)]), [.var [.ref 1 0 r.2.2.length 2], .arr (encL en_Pair r.2.2)])) o) := by
 refine Wp.iter ?_
 intro s st o hg h
 obtain ⟨s10, s11, y1⟩ := s
 unfold sort_partition_func_L2 at h; unfold g140_2 F140_2 at hg ⊢
 (try simp only [] at h hg)
 unfold L140_2 bodyOf Tryz.f140; simp only [loopsOf, ens]
 revert h
 refine gB fun o h33 => ?_
 intro h
 simp (maxSteps := 10000000) (implicitDefEqProofs := false) (disch := first | with_reducible assumption | exact rfl | exact im_ _ | (fail_if_success show Kn _ _); omega) only [bs, rs140, ls140, Nat.reduceAdd, ↓reduceIte, boxD_dagg, loadD_ptr a55, loadD_ptr a85, q130_0, q65_0, hg]
 refine Wp.ctx (fun x => blockW _ (seqW _ _ _ _ (blockW _ (x)))) (L140_3_ok s1 s11 y1 s10 _ o (show ghostsD g140_3 _ = some _ from ghosts_app (a := [.keep [1, 4, 10, 11]]) (b := [.keep [1, 4, 10, 11]]) hg (by kernel_rfl)) h33) ?_
 intro e st hq
 cases o with
 | next _ => (first | cases h | (simp at h))
 | jmp n_ s_ =>
  obtain ⟨rfl, rfl, hq⟩ := hq
  generalize s_ = s10_34 at h hq
  unfold F140_3 at hq
  (try simp only [] at h hq)
  revert h
  refine gB fun o h40 => ?_
  intro h
  simp (maxSteps := 10000000) (implicitDefEqProofs := false) (disch := first | with_reducible assumption | exact rfl | exact im_ _ | (fail_if_success show Kn _ _); omega) only [bs, rs140, ls140, Nat.reduceAdd, ↓reduceIte, boxD_dagg, loadD_ptr a55, loadD_ptr a85, q130_0, q65_0, hg, hq]
  refine Wp.ctx (fun x => blockW _ (seqW _ _ _ _ (blockW _ (x)))) (L140_4_ok s1 s10_34 y1 s11 _ o (show ghostsD g140_4 _ = some _ from ghosts_app (a := [.keep [1, 4, 10, 11]]) (b := [.keep [1, 4, 10, 11]]) hq (by kernel_rfl)) h40) ?_
  intro e st hq
  cases o with
  | next _ => (first | cases h | (simp at h))
  | jmp n_ s_ =>
   obtain ⟨rfl, rfl, hq⟩ := hq
   generalize s_ = s11_41 at h hq
   unfold F140_4 at hq
   (try simp only [] at h hq)
   revert h
   repeat' first | (with_reducible refine gB fun _ _ => ?_) | (with_reducible refine gW fun _ => ?_) | (with_reducible refine gI (fun _ _ => ?_) (fun _ _ => ?_))
   all_goals
    intro h; obtain rfl := Option.some.inj h
    first | (simp (maxSteps := 10000000) (implicitDefEqProofs := false) (disch := first | with_reducible assumption | exact rfl | exact im_ _ | (fail_if_success show Kn _ _); omega) only [bs, rs140, ls140, Nat.reduceAdd, ↓reduceIte, boxD_dagg, loadD_ptr a55, loadD_ptr a85, q130_0, q65_0, hg, hq, hq]; first | (exact ⟨(rfl : Ex.exit 4 = Ex.exit 4), rfl, by kernel_rfl⟩) | (exact ⟨(rfl : Ex.normal = Ex.normal), by (try simp only [List.length_set, cpL_len, *]); kernel_rfl⟩)) | (exfalso; omega)
  | ret _ => (first | cases h | (simp at h))
 | ret _ => (first | cases h | (simp at h))
noncomputable def L140_1 : Code := (loopsOf (bodyOf Tryz.f140)).getD 1 .skip
def g140_1 : List Ghost := [.keep [1, 4, 10, 11], .keep [1, 4, 10, 11]]
noncomputable def F140_1 (s1 : Int) (s10 : Int) (y1 : (List Pair)) : Int → St := fun s11 => ⟨[J, iv s1, J, J, .ptr 2 0, J, J, J, J, J, iv s10, iv s11, J, J, J, J, J, J, J, J, J, J, J, J, J, J, J, J, J, J, J, J, J, J, J, J, J, J, J, J, J, J, J, J, J, J, J, J, J, J, J, J, J, J, J, J, J, J, J, J, J, J, J, J, J, J, J, J, J, J, J, J, J, J, J, J, J, J, J, J, J, J, J, J, J, J, J, J, J, J, J, J, J, J, J, J, J, J, J, J, J, J, J, J, J, J, J], [.var [.ref 1 0 y1.length 2], .arr (encL en_Pair y1), .var [.fn (.func 65) [.ptr 0 0], sw130 1 y1.length]], 2⟩
theorem L140_1_ok (s1 : Int) (s10 : Int) (y1 : (List Pair)) : ∀ s st o, ghostsD g140_1 st = some (F140_1 s1 s10 y1 s) → iter (sort_partition_func_L1 s1 s10 y1) s = some o →
    Wp (evW Tryz.prog A0 140 (.loop L140_1) st) (OutQ (F140_1 s1 s10 y1) g140_1 (fun n s st => n = 2 ∧ ghostsD [.keep [1, 4, 10, 11]] st = some (F140_1 s1 s10 y1 s)) (fun r st => finishD Tryz.prog A0 140 Tryz.f140 st = some (.p (.tup [.v (.int .i64 r.1), .v (.bool r.2.1)]), [.var [.ref 1 0 r.2.2.length 2], .arr (encL en_Pair r.2.2)])) o) := by
 refine Wp.iter ?_
 intro s st o hg h
 generalize s = s11 at hg h
 unfold sort_partition_func_L1 at h; unfold g140_1 F140_1 at hg ⊢
 (try simp only [] at h hg)
 unfold L140_1 bodyOf Tryz.f140; simp only [loopsOf, ens]
 revert h
 repeat' first | (with_reducible refine gB fun _ _ => ?_) | (with_reducible refine gT (fun _ _ => ?_) (fun _ _ => ?_)) | (with_reducible refine gI (fun _ _ => ?_) (fun _ _ => ?_))
 all_goals
  intro h; obtain rfl := Option.some.inj h
  first | (simp (maxSteps := 10000000) (implicitDefEqProofs := false) (disch := first | with_reducible assumption | exact rfl | exact im_ _ | (fail_if_success show Kn _ _); omega) only [bs, rs140, ls140, Nat.reduceAdd, ↓reduceIte, boxD_dagg, loadD_ptr a55, loadD_ptr a85, q130_0, q65_0, hg]; first | (exact ⟨(rfl : Ex.exit 2 = Ex.exit 2), rfl, by kernel_rfl⟩) | (exact ⟨(rfl : Ex.normal = Ex.normal), by kernel_rfl⟩)) | (exfalso; omega)
noncomputable def L140_0 : Code := (loopsOf (bodyOf Tryz.f140)).getD 0 .skip
def g140_0 : List Ghost := [.keep [1, 4, 10, 11]]
noncomputable def F140_0 (s1 : Int) (s11 : Int) (y1 : (List Pair)) : Int → St := fun s10 => ⟨[J, iv s1, J, J, .ptr 2 0, J, J, J, J, J, iv s10, iv s11, J, J, J, J, J, J, J, J, J, J, J, J, J, J, J, J, J, J, J, J, J, J, J, J, J, J, J, J, J, J, J, J, J, J, J, J, J, J, J, J, J, J, J, J, J, J, J, J, J, J, J, J, J, J, J, J, J, J, J, J, J, J, J, J, J, J, J, J, J, J, J, J, J, J, J, J, J, J, J, J, J, J, J, J, J, J, J, J, J, J, J, J, J, J, J], [.var [.ref 1 0 y1.length 2], .arr (encL en_Pair y1), .var [.fn (.func 65) [.ptr 0 0], sw130 1 y1.length]], 2⟩
theorem L140_0_ok (s1 : Int) (s11 : Int) (y1 : (List Pair)) : ∀ s st o, ghostsD g140_0 st = some (F140_0 s1 s11 y1 s) → iter (sort_partition_func_L0 s1 s11 y1) s = some o →
    Wp (evW Tryz.prog A0 140 (.loop L140_0) st) (OutQ (F140_0 s1 s11 y1) g140_0 (fun n s st => n = 0 ∧ ghostsD [.keep [1, 4, 10, 11]] st = some (F140_0 s1 s11 y1 s)) (fun r st => finishD Tryz.prog A0 140 Tryz.f140 st = some (.p (.tup [.v (.int .i64 r.1), .v (.bool r.2.1)]), [.var [.ref 1 0 r.2.2.length 2], .arr (encL en_Pair r.2.2)])) o) := by
 refine Wp.iter ?_
 intro s st o hg h
 generalize s = s10 at hg h
 unfold sort_partition_func_L0 at h; unfold g140_0 F140_0 at hg ⊢
 (try simp only [] at h hg)
 unfold L140_0 bodyOf Tryz.f140; simp only [loopsOf, ens]
 revert h
 repeat' first | (with_reducible refine gB fun _ _ => ?_) | (with_reducible refine gT (fun _ _ => ?_) (fun _ _ => ?_)) | (with_reducible refine gI (fun _ _ => ?_) (fun _ _ => ?_))
 all_goals
  intro h; obtain rfl := Option.some.inj h
  first | (simp (maxSteps := 10000000) (implicitDefEqProofs := false) (disch := first | with_reducible assumption | exact rfl | exact im_ _ | (fail_if_success show Kn _ _); omega) only [bs, rs140, ls140, Nat.reduceAdd, ↓reduceIte, boxD_dagg, loadD_ptr a55, loadD_ptr a85, q130_0, q65_0, hg]; first | (exact ⟨(rfl : Ex.normal = Ex.normal), by kernel_rfl⟩) | (exact ⟨(rfl : Ex.exit 0 = Ex.exit 0), rfl, by kernel_rfl⟩)) | (exfalso; omega)
theorem f140_ok  (x1 : Int) (x2 : Int) (x3 : Int) (o1 : (List Pair)) (r : (Int × Bool × (List Pair))) (h : sort_partition_func x1 x2 x3 o1 = some r) : callW Tryz.prog A0 140 [.agg [.fn (.func 65) [.ptr 0 0], sw130 1 o1.length], iv x1, iv x2, iv x3] [.var [.ref 1 0 o1.length 2], .arr (encL en_Pair o1)] = some (.p (.tup [.v (.int .i64 r.1), .v (.bool r.2.1)]), [.var [.ref 1 0 r.2.2.length 2], .arr (encL en_Pair r.2.2)]) := by
 refine call_ofI (fn := Tryz.f140) (c := bodyOf Tryz.f140) 103 rfl rfl (by kernel_rfl) (by kernel_rfl) (by kernel_rfl) ?_
 unfold sort_partition_func at h; unfold bodyOf Tryz.f140; simp only [ens]
 revert h
 refine gB fun r3 h1 => ?_
 refine gW fun h4 => ?_
 refine gB fun o h10 => ?_
 intro h
 simp (maxSteps := 10000000) (implicitDefEqProofs := false) (disch := first | with_reducible assumption | exact rfl | exact im_ _ | (fail_if_success show Kn _ _); omega) only [bs, rs140, ls140, Nat.reduceAdd, ↓reduceIte, boxD_dagg, loadD_ptr a55, loadD_ptr a85, q130_0, q65_0]
 refine Wp.ctx (fun x => seqW _ _ _ _ (blockW _ (x))) (L140_0_ok x1 (w64 (x2 - (1 : Int))) r3 (w64 (x1 + (1 : Int))) _ o (by unfold F140_0; simp only [List.length_set, cpL_len, h4]; kernel_rfl) h10) ?_
 intro e st hq
 cases o with
 | next _ => (first | cases h | (simp at h))
 | jmp n_ s_ =>
  obtain ⟨rfl, rfl, hq⟩ := hq
  generalize s_ = s10_11 at h hq
  unfold F140_0 at hq
  (try simp only [] at h hq)
  revert h
  refine gB fun o h17 => ?_
  intro h
  simp (maxSteps := 10000000) (implicitDefEqProofs := false) (disch := first | with_reducible assumption | exact rfl | exact im_ _ | (fail_if_success show Kn _ _); omega) only [bs, rs140, ls140, Nat.reduceAdd, ↓reduceIte, boxD_dagg, loadD_ptr a55, loadD_ptr a85, q130_0, q65_0, hq]
  refine Wp.ctx (fun x => seqW _ _ _ _ (blockW _ (x))) (L140_1_ok x1 s10_11 r3 (w64 (x2 - (1 : Int))) _ o (show ghostsD g140_1 _ = some _ from ghosts_app (a := [.keep [1, 4, 10, 11]]) (b := [.keep [1, 4, 10, 11]]) hq (by kernel_rfl)) h17) ?_
  intro e st hq
  cases o with
  | next _ => (first | cases h | (simp at h))
  | jmp n_ s_ =>
   obtain ⟨rfl, rfl, hq⟩ := hq
   generalize s_ = s11_18 at h hq
   unfold F140_1 at hq
   (try simp only [] at h hq)
   revert h
   refine gI (fun h19 _ => ?_) (fun h19 _ => ?_)
   ·repeat' first | (with_reducible refine gB fun _ _ => ?_) | (with_reducible refine gW fun _ => ?_)
    intro h; obtain rfl := Option.some.inj h
    simp (maxSteps := 10000000) (implicitDefEqProofs := false) (disch := first | with_reducible assumption | exact rfl | exact im_ _ | (fail_if_success show Kn _ _); omega) only [bs, rs140, ls140, Nat.reduceAdd, ↓reduceIte, boxD_dagg, loadD_ptr a55, loadD_ptr a85, q130_0, q65_0, hq, hq]
    refine ⟨by simp, ?_⟩; show _ = _; (try simp only [List.length_set, cpL_len, *]); kernel_rfl
   ·refine gB fun r26 h24 => ?_
    refine gW fun h27 => ?_
    refine gB fun o h47 => ?_
    intro h
    simp (maxSteps := 10000000) (implicitDefEqProofs := false) (disch := first | with_reducible assumption | exact rfl | exact im_ _ | (fail_if_success show Kn _ _); omega) only [bs, rs140, ls140, Nat.reduceAdd, ↓reduceIte, boxD_dagg, loadD_ptr a55, loadD_ptr a85, q130_0, q65_0, hq, hq]
    refine Wp.ctx (fun x => seqW _ _ _ _ (blockW _ (x))) (L140_2_ok x1 (w64 (s10_11 + (1 : Int)), w64 (s11_18 - (1 : Int)), r26) _ o (by unfold F140_2; simp only [List.length_set, cpL_len, h4, h27]; kernel_rfl) h47) ?_
    intro e st hq
    cases o with
    | next _ => (first | cases h | (simp at h))
    | jmp n_ s_ =>
     obtain ⟨rfl, rfl, hq⟩ := hq
     obtain ⟨s10_48, s11_48, y1_48⟩ := s_
     unfold F140_2 at hq
     (try simp only [] at h hq)
     revert h
     repeat' first | (with_reducible refine gB fun _ _ => ?_) | (with_reducible refine gW fun _ => ?_)
     intro h; obtain rfl := Option.some.inj h
     simp (maxSteps := 10000000) (implicitDefEqProofs := false) (disch := first | with_reducible assumption | exact rfl | exact im_ _ | (fail_if_success show Kn _ _); omega) only [bs, rs140, ls140, Nat.reduceAdd, ↓reduceIte, boxD_dagg, loadD_ptr a55, loadD_ptr a85, q130_0, q65_0, hq, hq, hq]
     refine ⟨by simp, ?_⟩; show _ = _; (try simp only [List.length_set, cpL_len, *]); kernel_rfl
    | ret _ => (first | cases h | (simp at h))
  | ret _ => (first | cases h | (simp at h))
 | ret _ => (first | cases h | (simp at h))
def ls139 := And.intro @faP_129_0 (And.intro @faP_129_1 (And.intro @varld_2_0_0 (@varld_2_0_1)))
theorem q96_0 {rec : Int → Int → Int → (List Pair) → Option (List Pair)} (hrec : ∀ x1 x2 x3 o1 r, rec x1 x2 x3 o1 = some r → callW Tryz.prog A0 96 [.agg [.fn (.func 65) [.ptr 0 0], sw130 1 o1.length], iv x1, iv x2, iv x3] [.var [.ref 1 0 o1.length 2], .arr (encL en_Pair o1)] = some (.p (.tup []), [.var [.ref 1 0 r.length 2], .arr (encL en_Pair r)])) {a1 : List Pair} {n2 : Nat} {a3 a4 a5 : Int} {r9001 : (List Pair)} {X2 : Ob} (k0 : n2 = a1.length) (h9002 : rec a3 a4 a5 a1 = some r9001) : callD (callW Tryz.prog A0) A0 [.var [.ref 1 0 a1.length 2], .arr (encL en_Pair a1), X2] 96 [.agg [.fn (.func 65) [.ptr 0 0], sw130 1 n2], iv a3, iv a4, iv a5] = some (.p (.tup []), some [.var [.ref 1 0 r9001.length 2], .arr (encL en_Pair r9001), X2]) := by
  rw [show n2 = a1.length from by omega]; exact (callD_put (dsw := [.agg [.fn (.func 65) [.ptr 0 0], sw130 1 a1.length], iv a3, iv a4, iv a5]) (ds' := [.agg [.fn (.func 65) [.ptr 0 0], sw130 1 a1.length], iv a3, iv a4, iv a5]) (i := 0) (ids := [1]) (o := .var [.ref 1 0 a1.length 2]) (os := [.arr (encL en_Pair a1)]) (o' := .var [.ref 1 0 r9001.length 2]) (os' := [.arr (encL en_Pair r9001)]) rfl (by kernel_rfl) (by kernel_rfl) (by kernel_rfl) (by kernel_rfl) (by kernel_rfl) (hrec _ _ _ _ _ h9002) rfl rfl).trans (by kernel_rfl)
theorem q140_0 {a1 : List Pair} {n2 : Nat} {a3 a4 a5 : Int} {r9001 : (Int × Bool × (List Pair))} {X2 : Ob} (k0 : n2 = a1.length) (h9002 : sort_partition_func a3 a4 a5 a1 = some r9001) : callD (callW Tryz.prog A0) A0 [.var [.ref 1 0 a1.length 2], .arr (encL en_Pair a1), X2] 140 [.agg [.fn (.func 65) [.ptr 0 0], sw130 1 n2], iv a3, iv a4, iv a5] = some (.p (.tup [.v (.int .i64 r9001.1), .v (.bool r9001.2.1)]), some [.var [.ref 1 0 r9001.2.2.length 2], .arr (encL en_Pair r9001.2.2), X2]) := by
  rw [show n2 = a1.length from by omega]; exact (callD_put (dsw := [.agg [.fn (.func 65) [.ptr 0 0], sw130 1 a1.length], iv a3, iv a4, iv a5]) (ds' := [.agg [.fn (.func 65) [.ptr 0 0], sw130 1 a1.length], iv a3, iv a4, iv a5]) (i := 0) (ids := [1]) (o := .var [.ref 1 0 a1.length 2]) (os := [.arr (encL en_Pair a1)]) (o' := .var [.ref 1 0 r9001.2.2.length 2]) (os' := [.arr (encL en_Pair r9001.2.2)]) rfl (by kernel_rfl) (by kernel_rfl) (by kernel_rfl) (by kernel_rfl) (by kernel_rfl) (f140_ok _ _ _ _ _ h9002) rfl rfl).trans (by kernel_rfl)
noncomputable def L139_2 : Code := (loopsOf (bodyOf Tryz.f139)).getD 2 .skip
def g139_2 : List Ghost := [.keep [1, 4, 9, 10], .keep [1, 4, 9, 10]]
noncomputable def F139_2 (s1 : Int) (s9 : Int) (y1 : (List Pair)) : Int → St := fun s10 => ⟨[J, iv s1, J, J, .ptr 2 0, J, J, J, J, iv s9, iv s10, J, J, J, J, J, J, J, J, J, J, J, J, J, J, J, J, J, J, J, J, J, J, J, J, J, J, J, J, J, J, J, J, J, J, J, J, J, J, J, J, J, J, J, J, J, J, J], [.var [.ref 1 0 y1.length 2], .arr (encL en_Pair y1), .var [.fn (.func 65) [.ptr 0 0], sw130 1 y1.length]], 2⟩
theorem L139_2_ok (s1 : Int) (s9 : Int) (y1 : (List Pair)) : ∀ s st o, ghostsD g139_2 st = some (F139_2 s1 s9 y1 s) → iter (sort_partitionEqual_func_L2 s1 s9 y1) s = some o →
    Wp (evW Tryz.prog A0 139 (.loop L139_2) st) (OutQ (F139_2 s1 s9 y1) g139_2 (fun n s st => n = 4 ∧ ghostsD [.keep [1, 4, 9, 10]] st = some (F139_2 s1 s9 y1 s)) (fun r st => finishD Tryz.prog A0 139 Tryz.f139 st = some (.p (.v (.int .i64 r.1)), [.var [.ref 1 0 r.2.length 2], .arr (encL en_Pair r.2)])) o) := by
 refine Wp.iter ?_
 intro s st o hg h
 generalize s = s10 at hg h
 unfold sort_partitionEqual_func_L2 at h; unfold g139_2 F139_2 at hg ⊢
 (try simp only [] at h hg)
 unfold L139_2 bodyOf Tryz.f139; simp only [loopsOf, ens]
 revert h
 repeat' first | (with_reducible refine gB fun _ _ => ?_) | (with_reducible refine gT (fun _ _ => ?_) (fun _ _ => ?_)) | (with_reducible refine gI (fun _ _ => ?_) (fun _ _ => ?_))
 all_goals
  intro h; obtain rfl := Option.some.inj h
  first | (simp (maxSteps := 10000000) (implicitDefEqProofs := false) (disch := first | with_reducible assumption | exact rfl | exact im_ _ | (fail_if_success show Kn _ _); omega) only [bs, rs139, ls139, Nat.reduceAdd, ↓reduceIte, boxD_dagg, loadD_ptr a55, loadD_ptr a85, q130_0, q65_0, hg]; first | (exact ⟨(rfl : Ex.normal = Ex.normal), by kernel_rfl⟩) | (exact ⟨(rfl : Ex.exit 4 = Ex.exit 4), rfl, by kernel_rfl⟩)) | (exfalso; omega)
noncomputable def L139_1 : Code := (loopsOf (bodyOf Tryz.f139)).getD 1 .skip
def g139_1 : List Ghost := [.keep [1, 4, 9, 10], .keep [1, 4, 9, 10]]
noncomputable def F139_1 (s1 : Int) (s10 : Int) (y1 : (List Pair)) : Int → St := fun s9 => ⟨[J, iv s1, J, J, .ptr 2 0, J, J, J, J, iv s9, iv s10, J, J, J, J, J, J, J, J, J, J, J, J, J, J, J, J, J, J, J, J, J, J, J, J, J, J, J, J, J, J, J, J, J, J, J, J, J, J, J, J, J, J, J, J, J, J, J], [.var [.ref 1 0 y1.length 2], .arr (encL en_Pair y1), .var [.fn (.func 65) [.ptr 0 0], sw130 1 y1.length]], 2⟩
theorem L139_1_ok (s1 : Int) (s10 : Int) (y1 : (List Pair)) : ∀ s st o, ghostsD g139_1 st = some (F139_1 s1 s10 y1 s) → iter (sort_partitionEqual_func_L1 s1 s10 y1) s = some o →
    Wp (evW Tryz.prog A0 139 (.loop L139_1) st) (OutQ (F139_1 s1 s10 y1) g139_1 (fun n s st => n = 2 ∧ ghostsD [.keep [1, 4, 9, 10]] st = some (F139_1 s1 s10 y1 s)) (fun r st => finishD Tryz.prog A0 139 Tryz.f139 st = some (.p (.v (.int .i64 r.1)), [.var [.ref 1 0 r.2.length 2], .arr (encL en_Pair r.2)])) o) := by
 refine Wp.iter ?_
 intro s st o hg h
 generalize s = s9 at hg h
 unfold sort_partitionEqual_func_L1 at h; unfold g139_1 F139_1 at hg ⊢
 (try simp only [] at h hg)
 unfold L139_1 bodyOf Tryz.f139; simp only [loopsOf, ens]
 revert h
 repeat' first | (with_reducible refine gB fun _ _ => ?_) | (with_reducible refine gT (fun _ _ => ?_) (fun _ _ => ?_)) | (with_reducible refine gI (fun _ _ => ?_) (fun _ _ => ?_))
 all_goals
  intro h; obtain rfl := Option.some.inj h
  first | (simp (maxSteps := 10000000) (implicitDefEqProofs := false) (disch := first | with_reducible assumption | exact rfl | exact im_ _ | (fail_if_success show Kn _ _); omega) only [bs, rs139, ls139, Nat.reduceAdd, ↓reduceIte, boxD_dagg, loadD_ptr a55, loadD_ptr a85, q130_0, q65_0, hg]; first | (exact ⟨(rfl : Ex.exit 2 = Ex.exit 2), rfl, by kernel_rfl⟩) | (exact ⟨(rfl : Ex.normal = Ex.normal), by kernel_rfl⟩)) | (exfalso; omega)
noncomputable def L139_0 : Code := (loopsOf (bodyOf Tryz.f139)).getD 0 .skip
def g139_0 : List Ghost := [.keep [1, 4, 9, 10]]
noncomputable def F139_0 (s1 : Int) : (Int × Int × (List Pair)) → St := fun (s9, s10, y1) => ⟨[J, iv s1, J, J, .ptr 2 0, J, J, J, J, iv s9, iv s10, J, J, J, J, J, J, J, J, J, J, J, J, J, J, J, J, J, J, J, J, J, J, J, J, J, J, J, J, J, J, J, J, J, J, J, J, J, J, J, J, J, J, J, J, J, J, J], [.var [.ref 1 0 y1.length 2], .arr (encL en_Pair y1), .var [.fn (.func 65) [.ptr 0 0], sw130 1 y1.length]], 2⟩
theorem L139_0_ok (s1 : Int) : ∀ s st o, ghostsD g139_0 st = some (F139_0 s1 s) → iter (sort_partitionEqual_func_L0 s1) s = some o →
    Wp (evW Tryz.prog A0 139 (.loop L139_0) st) (OutQ (F139_0 s1) g139_0 (fun n s st => n = 0 ∧ ghostsD [.keep [1, 4, 9, 10]] st = some (F139_0 s1 s)) (fun r st => finishD Tryz.prog A0 139 Tryz.f139 st = some (.p (.v (.int .i64 r.1)), [.var [.ref 1 0 r.2.length 2], .arr (encL en_Pair r.2)])) o) := by
 refine Wp.iter ?_
 intro s st o hg h
 obtain ⟨s9, s10, y1⟩ := s
 unfold sort_partitionEqual_func_L0 at h; unfold g139_0 F139_0 at hg ⊢
 (try simp only [] at h hg)
 unfold L139_0 bodyOf Tryz.f139; simp only [loopsOf, ens]
 revert h
 refine gB fun o h10 => ?_
 intro h
 simp (maxSteps := 10000000) (implicitDefEqProofs := false) (disch := first | with_reducible assumption | exact rfl | exact im_ _ | (fail_if_success show Kn _ _); omega) only [bs, rs139, ls139, Nat.reduceAdd, ↓reduceIte, boxD_dagg, loadD_ptr a55, loadD_ptr a85, q130_0, q65_0, hg]
 refine Wp.ctx (fun x => blockW _ (seqW _ _ _ _ (blockW _ (x)))) (L139_1_ok s1 s10 y1 s9 _ o (show ghostsD g139_1 _ = some _ from ghosts_app (a := [.keep [1, 4, 9, 10]]) (b := [.keep [1, 4, 9, 10]]) hg (by kernel_rfl)) h10) ?_
 intro e st hq
 cases o with
 | next _ => (first | cases h | (simp at h))
 | jmp n_ s_ =>
  obtain ⟨rfl, rfl, hq⟩ := hq
  generalize s_ = s9_11 at h hq
  unfold F139_1 at hq
  (try simp only [] at h hq)
  revert h
  refine gB fun o h17 => ?_
  intro h
  simp (maxSteps := 10000000) (implicitDefEqProofs := false) (disch := first | with_reducible assumption | exact rfl | exact im_ _ | (fail_if_success show Kn _ _); omega) only [bs, rs139, ls139, Nat.reduceAdd, ↓reduceIte, boxD_dagg, loadD_ptr a55, loadD_ptr a85, q130_0, q65_0, hg, hq]
  refine Wp.ctx (fun x => blockW _ (seqW _ _ _ _ (blockW _ (x)))) (L139_2_ok s1 s9_11 y1 s10 _ o (show ghostsD g139_2 _ = some _ from ghosts_app (a := [.keep [1, 4, 9, 10]]) (b := [.keep [1, 4, 9, 10]]) hq (by kernel_rfl)) h17) ?_
  intro e st hq
  cases o with
  | next _ => (first | cases h | (simp at h))
  | jmp n_ s_ =>
   obtain ⟨rfl, rfl, hq⟩ := hq
   generalize s_ = s10_18 at h hq
   unfold F139_2 at hq
   (try simp only [] at h hq)
   revert h
   repeat' first | (with_reducible refine gB fun _ _ => ?_) | (with_reducible refine gW fun _ => ?_) | (with_reducible refine gI (fun _ _ => ?_) (fun _ _ => ?_))
   all_goals
    intro h; obtain rfl := Option.some.inj h
    first | (simp (maxSteps := 10000000) (implicitDefEqProofs := false) (disch := first | with_reducible assumption | exact rfl | exact im_ _ | (fail_if_success show Kn _ _); omega) only [bs, rs139, ls139, Nat.reduceAdd, ↓reduceIte, boxD_dagg, loadD_ptr a55, loadD_ptr a85, q130_0, q65_0, hg, hq, hq]; first | (exact ⟨(rfl : Ex.exit 0 = Ex.exit 0), rfl, by kernel_rfl⟩) | (exact ⟨(rfl : Ex.normal = Ex.normal), by (try simp only [List.length_set, cpL_len, *]); kernel_rfl⟩)) | (exfalso; omega)
  | ret _ => (first | cases h | (simp at h))
 | ret _ => (first | cases h | (simp at h))
theorem f139_ok  (x1 : Int) (x2 : Int) (x3 : Int) (o1 : (List Pair)) (r : (Int × (List Pair))) (h : sort_partitionEqual_func x1 x2 x3 o1 = some r) : callW Tryz.prog A0 139 [.agg [.fn (.func 65) [.ptr 0 0], sw130 1 o1.length], iv x1, iv x2, iv x3] [.var [.ref 1 0 o1.length 2], .arr (encL en_Pair o1)] = some (.p (.v (.int .i64 r.1)), [.var [.ref 1 0 r.2.length 2], .arr (encL en_Pair r.2)]) := by
 refine call_ofI (fn := Tryz.f139) (c := bodyOf Tryz.f139) 54 rfl rfl (by kernel_rfl) (by kernel_rfl) (by kernel_rfl) ?_
 unfold sort_partitionEqual_func at h; unfold bodyOf Tryz.f139; simp only [ens]
 revert h
 refine gB fun r3 h1 => ?_
 refine gW fun h4 => ?_
 refine gB fun o h24 => ?_
 intro h
 simp (maxSteps := 10000000) (implicitDefEqProofs := false) (disch := first | with_reducible assumption | exact rfl | exact im_ _ | (fail_if_success show Kn _ _); omega) only [bs, rs139, ls139, Nat.reduceAdd, ↓reduceIte, boxD_dagg, loadD_ptr a55, loadD_ptr a85, q130_0, q65_0]
 refine Wp.ctx (fun x => seqW _ _ _ _ (blockW _ (x))) (L139_0_ok x1 (w64 (x1 + (1 : Int)), w64 (x2 - (1 : Int)), r3) _ o (by unfold F139_0; simp only [List.length_set, cpL_len, h4]; kernel_rfl) h24) ?_
 intro e st hq
 cases o with
 | next _ => (first | cases h | (simp at h))
 | jmp n_ s_ =>
  obtain ⟨rfl, rfl, hq⟩ := hq
  obtain ⟨s9_25, s10_25, y1_25⟩ := s_
  unfold F139_0 at hq
  (try simp only [] at h hq)
  revert h
  intro h; obtain rfl := Option.some.inj h
  simp (maxSteps := 10000000) (implicitDefEqProofs := false) (disch := first | with_reducible assumption | exact rfl | exact im_ _ | (fail_if_success show Kn _ _); omega) only [bs, rs139, ls139, Nat.reduceAdd, ↓reduceIte, boxD_dagg, loadD_ptr a55, loadD_ptr a85, q130_0, q65_0, hq]
  refine ⟨by simp, ?_⟩; show _ = _; kernel_rfl
 | ret _ => (first | cases h | (simp at h))
def ls159 := @cv_3_126
theorem q139_0 {a1 : List Pair} {n2 : Nat} {a3 a4 a5 : Int} {r9001 : (Int × (List Pair))} {X2 : Ob} (k0 : n2 = a1.length) (h9002 : sort_partitionEqual_func a3 a4 a5 a1 = some r9001) : callD (callW Tryz.prog A0) A0 [.var [.ref 1 0 a1.length 2], .arr (encL en_Pair a1), X2] 139 [.agg [.fn (.func 65) [.ptr 0 0], sw130 1 n2], iv a3, iv a4, iv a5] = some (.p (.v (.int .i64 r9001.1)), some [.var [.ref 1 0 r9001.2.length 2], .arr (encL en_Pair r9001.2), X2]) := by
  rw [show n2 = a1.length from by omega]; exact (callD_put (dsw := [.agg [.fn (.func 65) [.ptr 0 0], sw130 1 a1.length], iv a3, iv a4, iv a5]) (ds' := [.agg [.fn (.func 65) [.ptr 0 0], sw130 1 a1.length], iv a3, iv a4, iv a5]) (i := 0) (ids := [1]) (o := .var [.ref 1 0 a1.length 2]) (os := [.arr (encL en_Pair a1)]) (o' := .var [.ref 1 0 r9001.2.length 2]) (os' := [.arr (encL en_Pair r9001.2)]) rfl (by kernel_rfl) (by kernel_rfl) (by kernel_rfl) (by kernel_rfl) (by kernel_rfl) (f139_ok _ _ _ _ _ h9002) rfl rfl).trans (by kernel_rfl)
theorem q138_0 {a1 : List Pair} {n2 : Nat} {a3 a4 : Int} {r9001 : (Bool × (List Pair))} {X2 : Ob} (k0 : n2 = a1.length) (h9002 : sort_partialInsertionSort_func a3 a4 a1 = some r9001) : callD (callW Tryz.prog A0) A0 [.var [.ref 1 0 a1.length 2], .arr (encL en_Pair a1), X2] 138 [.agg [.fn (.func 65) [.ptr 0 0], sw130 1 n2], iv a3, iv a4] = some (.p (.v (.bool r9001.1)), some [.var [.ref 1 0 r9001.2.length 2], .arr (encL en_Pair r9001.2), X2]) := by
  rw [show n2 = a1.length from by omega]; exact (callD_put (dsw := [.agg [.fn (.func 65) [.ptr 0 0], sw130 1 a1.length], iv a3, iv a4]) (ds' := [.agg [.fn (.func 65) [.ptr 0 0], sw130 1 a1.length], iv a3, iv a4]) (i := 0) (ids := [1]) (o := .var [.ref 1 0 a1.length 2]) (os := [.arr (encL en_Pair a1)]) (o' := .var [.ref 1 0 r9001.2.length 2]) (os' := [.arr (encL en_Pair r9001.2)]) rfl (by kernel_rfl) (by kernel_rfl) (by kernel_rfl) (by kernel_rfl) (by kernel_rfl) (f138_ok _ _ _ _ h9002) rfl rfl).trans (by kernel_rfl)
theorem q137_0 {a1 : List Pair} {a2 a3 : Int} {r9001 : (List Pair)} {X2 : Ob} (h9002 : sort_reverseRange_func a2 a3 a1 = some r9001) : callD (callW Tryz.prog A0) A0 [.var [.ref 1 0 a1.length 2], .arr (encL en_Pair a1), X2] 137 [.agg [.fn (.func 65) [.ptr 0 0], sw130 1 a1.length], iv a2, iv a3] = some (.p (.tup []), some [.var [.ref 1 0 r9001.length 2], .arr (encL en_Pair r9001), X2]) := (callD_put (dsw := [.agg [.fn (.func 65) [.ptr 0 0], sw130 1 a1.length], iv a2, iv a3]) (ds' := [.agg [.fn (.func 65) [.ptr 0 0], sw130 1 a1.length], iv a2, iv a3]) (i := 0) (ids := [1]) (o := .var [.ref 1 0 a1.length 2]) (os := [.arr (encL en_Pair a1)]) (o' := .var [.ref 1 0 r9001.length 2]) (os' := [.arr (encL en_Pair r9001)]) rfl (by kernel_rfl) (by kernel_rfl) (by kernel_rfl) (by kernel_rfl) (by kernel_rfl) (f137_ok _ _ _ _ h9002) rfl rfl).trans (by kernel_rfl)
theorem q138_1 {a1 : List Pair} {a2 a3 : Int} {r9001 : (Bool × (List Pair))} {X2 : Ob} (h9002 : sort_partialInsertionSort_func a2 a3 a1 = some r9001) : callD (callW Tryz.prog A0) A0 [.var [.ref 1 0 a1.length 2], .arr (encL en_Pair a1), X2] 138 [.agg [.fn (.func 65) [.ptr 0 0], sw130 1 a1.length], iv a2, iv a3] = some (.p (.v (.bool r9001.1)), some [.var [.ref 1 0 r9001.2.length 2], .arr (encL en_Pair r9001.2), X2]) := (callD_put (dsw := [.agg [.fn (.func 65) [.ptr 0 0], sw130 1 a1.length], iv a2, iv a3]) (ds' := [.agg [.fn (.func 65) [.ptr 0 0], sw130 1 a1.length], iv a2, iv a3]) (i := 0) (ids := [1]) (o := .var [.ref 1 0 a1.length 2]) (os := [.arr (encL en_Pair a1)]) (o' := .var [.ref 1 0 r9001.2.length 2]) (os' := [.arr (encL en_Pair r9001.2)]) rfl (by kernel_rfl) (by kernel_rfl) (by kernel_rfl) (by kernel_rfl) (by kernel_rfl) (f138_ok _ _ _ _ h9002) rfl rfl).trans (by kernel_rfl)
theorem q140_1 {a1 : List Pair} {a2 a3 a4 : Int} {r9001 : (Int × Bool × (List Pair))} {X2 : Ob} (h9002 : sort_partition_func a2 a3 a4 a1 = some r9001) : callD (callW Tryz.prog A0) A0 [.var [.ref 1 0 a1.length 2], .arr (encL en_Pair a1), X2] 140 [.agg [.fn (.func 65) [.ptr 0 0], sw130 1 a1.length], iv a2, iv a3, iv a4] = some (.p (.tup [.v (.int .i64 r9001.1), .v (.bool r9001.2.1)]), some [.var [.ref 1 0 r9001.2.2.length 2], .arr (encL en_Pair r9001.2.2), X2]) := (callD_put (dsw := [.agg [.fn (.func 65) [.ptr 0 0], sw130 1 a1.length], iv a2, iv a3, iv a4]) (ds' := [.agg [.fn (.func 65) [.ptr 0 0], sw130 1 a1.length], iv a2, iv a3, iv a4]) (i := 0) (ids := [1]) (o := .var [.ref 1 0 a1.length 2]) (os := [.arr (encL en_Pair a1)]) (o' := .var [.ref 1 0 r9001.2.2.length 2]) (os' := [.arr (encL en_Pair r9001.2.2)]) rfl (by kernel_rfl) (by kernel_rfl) (by kernel_rfl) (by kernel_rfl) (by kernel_rfl) (f140_ok _ _ _ _ _ h9002) rfl rfl).trans (by kernel_rfl)
theorem q139_1 {a1 : List Pair} {a2 a3 a4 : Int} {r9001 : (Int × (List Pair))} {X2 : Ob} (h9002 : sort_partitionEqual_func a2 a3 a4 a1 = some r9001) : callD (callW Tryz.prog A0) A0 [.var [.ref 1 0 a1.length 2], .arr (encL en_Pair a1), X2] 139 [.agg [.fn (.func 65) [.ptr 0 0], sw130 1 a1.length], iv a2, iv a3, iv a4] = some (.p (.v (.int .i64 r9001.1)), some [.var [.ref 1 0 r9001.2.length 2], .arr (encL en_Pair r9001.2), X2]) := (callD_put (dsw := [.agg [.fn (.func 65) [.ptr 0 0], sw130 1 a1.length], iv a2, iv a3, iv a4]) (ds' := [.agg [.fn (.func 65) [.ptr 0 0], sw130 1 a1.length], iv a2, iv a3, iv a4]) (i := 0) (ids := [1]) (o := .var [.ref 1 0 a1.length 2]) (os := [.arr (encL en_Pair a1)]) (o' := .var [.ref 1 0 r9001.2.length 2]) (os' := [.arr (encL en_Pair r9001.2)]) rfl (by kernel_rfl) (by kernel_rfl) (by kernel_rfl) (by kernel_rfl) (by kernel_rfl) (f139_ok _ _ _ _ _ h9002) rfl rfl).trans (by kernel_rfl)
theorem q136_0 {a1 : List Pair} {a2 a3 : Int} {r9001 : (Int × Int)} {X2 : Ob} (h9002 : sort_choosePivot_func a2 a3 a1 = some r9001) : callD (callW Tryz.prog A0) A0 [.var [.ref 1 0 a1.length 2], .arr (encL en_Pair a1), X2] 136 [.agg [.fn (.func 65) [.ptr 0 0], sw130 1 a1.length], iv a2, iv a3] = some (.p (.tup [.v (.int .i64 r9001.1), .v (.int .i64 r9001.2)]), some [.var [.ref 1 0 a1.length 2], .arr (encL en_Pair a1), X2]) := (callD_put (dsw := [.agg [.fn (.func 65) [.ptr 0 0], sw130 1 a1.length], iv a2, iv a3]) (ds' := [.agg [.fn (.func 65) [.ptr 0 0], sw130 1 a1.length], iv a2, iv a3]) (i := 0) (ids := [1]) (o := .var [.ref 1 0 a1.length 2]) (os := [.arr (encL en_Pair a1)]) (o' := .var [.ref 1 0 a1.length 2]) (os' := [.arr (encL en_Pair a1)]) rfl (by kernel_rfl) (by kernel_rfl) (by kernel_rfl) (by kernel_rfl) (by kernel_rfl) (f136_ok _ _ _ _ h9002) rfl rfl).trans (by kernel_rfl)
theorem f159_ok  (x0 : Int) (r : Int) (h : sort_nextPowerOfTwo x0 = some r) : callW Tryz.prog A0 159 [iv x0] [] = some (.p (.v (.int .u64 r)), []) := by
 refine call_ofI (fn := Tryz.f159) (c := bodyOf Tryz.f159) 9 rfl rfl (by kernel_rfl) (by kernel_rfl) (by kernel_rfl) ?_
 unfold sort_nextPowerOfTwo at h; unfold bodyOf Tryz.f159; simp only [ens]
 revert h
 repeat' (with_reducible refine gB fun _ _ => ?_)
 intro h; obtain rfl := Option.some.inj h
 simp (maxSteps := 10000000) (implicitDefEqProofs := false) (disch := first | with_reducible assumption | exact rfl | exact im_ _ | (fail_if_success show Kn _ _); omega) only [bs, rs159, ls159, Nat.reduceAdd, ↓reduceIte, binD_shl_k, c95_0]
 refine ⟨by simp, ?_⟩; exact fin_sc rfl rfl rfl rfl
def ls160 := And.intro @sv_1_0_1 (@varld_1_0)
theorem c159_0 {H : List Ob} {a1 : Int} {r : Int} (h : sort_nextPowerOfTwo a1 = some r) : callD (callW Tryz.prog A0) A0 H 159 [iv a1] = some (.p (.v (.int .u64 r)), none) :=
 callD_fun (args := [.v (.int .i64 a1)]) rfl rfl rfl (by simp only [List.map_cons, List.map_nil, wk, wks, wkL]; exact f159_ok a1 _ h)
theorem f160_ok  (x0 : Int) (r : (Int × Int)) (h : sort_xorshift_Next x0 = some r) : callW Tryz.prog A0 160 [.ptr 0 0] [.var [.p (.v (.int .u64 x0))]] = some (.p (.v (.int .u64 r.1)), [.var [.p (.v (.int .u64 r.2))]]) := by
 refine call_ofI (fn := Tryz.f160) (c := bodyOf Tryz.f160) 32 rfl rfl (by kernel_rfl) (by kernel_rfl) (by kernel_rfl) ?_
 unfold sort_xorshift_Next at h; unfold bodyOf Tryz.f160; simp only [ens]
 revert h
 repeat' (with_reducible refine gB fun _ _ => ?_)
 intro h; obtain rfl := Option.some.inj h
 simp (maxSteps := 10000000) (implicitDefEqProofs := false) (disch := first | with_reducible assumption | exact rfl | exact im_ _ | (fail_if_success show Kn _ _); omega) only [bs, rs160, ls160, Nat.reduceAdd, ↓reduceIte, binD_shl_k, binD_shr_k, binD_xor_k, loadD_ptr a186, nilCheckD_ptr, ops_nilCheck, storeD_int z186]
 refine ⟨by simp, ?_⟩; show _ = _; kernel_rfl
def ls135 := And.intro @al_186 (And.intro @cv_126_3 (And.intro @cv_3_186 (And.intro @faP_129_1 (And.intro @sv_1_0_1 (@varld_2_0_1)))))
theorem q130_1 {a1 : List Pair} {a2 a3 : Int} {r9003 : _} {X0 X2 X3 : Ob} (h9001 : swapL a2 a3 a1 = some r9003) : callD (callW Tryz.prog A0) A0 [X0, .arr (encL en_Pair a1), X2, X3] 130 [iv a2, iv a3, .ref 1 0 a1.length 2, .p (.v (typeHandle Tryz.prog 43))] = some (.p (.tup []), some [X0, .arr (encL en_Pair r9003), X2, X3]) := (callD_put (dsw := [iv a2, iv a3, .ref 1 0 a1.length 2, .p (.v (typeHandle Tryz.prog 43))]) (ds' := [iv a2, iv a3, .ref 0 0 a1.length 2, .p (.v (typeHandle Tryz.prog 43))]) (i := 1) (ids := []) (o := .arr (encL en_Pair a1)) (os := []) (o' := .arr (encL en_Pair r9003)) (os' := []) rfl (by kernel_rfl) (by kernel_rfl) (by kernel_rfl) (by kernel_rfl) (by kernel_rfl) (swap130_callg h9001) rfl rfl).trans (by kernel_rfl)
theorem q160_0 {a1 : Int} {r9001 : (Int × Int)} {X0 X1 X2 : Ob} (h9002 : sort_xorshift_Next a1 = some r9001) : callD (callW Tryz.prog A0) A0 [X0, X1, X2, .var [.p (.v (.int .u64 a1))]] 160 [.ptr 3 0] = some (.p (.v (.int .u64 r9001.1)), some [X0, X1, X2, .var [.p (.v (.int .u64 r9001.2))]]) := (callD_put (dsw := [.ptr 3 0]) (ds' := [.ptr 0 0]) (i := 3) (ids := []) (o := .var [.p (.v (.int .u64 a1))]) (os := []) (o' := .var [.p (.v (.int .u64 r9001.2))]) (os' := []) rfl (by kernel_rfl) (by kernel_rfl) (by kernel_rfl) (by kernel_rfl) (by kernel_rfl) (f160_ok _ _ h9002) rfl rfl).trans (by kernel_rfl)
noncomputable def L135_0 : Code := (loopsOf (bodyOf Tryz.f135)).getD 0 .skip
def g135_0 : List Ghost := [.keep [1, 3, 6, 7, 8, 9]]
noncomputable def F135_0 (s1 : Int) (s6 : Int) (s8 : Int) : (Int × (List Pair) × Int) → St := fun (s9, y1, w3_0) => ⟨[J, iv s1, J, .ptr 2 0, J, J, iv s6, .ptr 3 0, .p (.v (.int .u64 s8)), iv s9, J, J, J, J, J, J, J, J, J, J, J, J, J, J, J, J, J, J, J, J, J, J, J, J, J, J, J, J, J, J, J, J, J, J, J, J, J, J, J, J, J, J, J, J], [.var [.ref 1 0 y1.length 2], .arr (encL en_Pair y1), .var [.fn (.func 65) [.ptr 0 0], sw130 1 y1.length], .var [.p (.v (.int .u64 w3_0))]], 2⟩
theorem L135_0_ok (s1 : Int) (s6 : Int) (s8 : Int) : ∀ s st o, ghostsD g135_0 st = some (F135_0 s1 s6 s8 s) → iter (sort_breakPatterns_func_L0 s1 s6 s8) s = some o →
    Wp (evW Tryz.prog A0 135 (.loop L135_0) st) (OutQ (F135_0 s1 s6 s8) g135_0 (fun n s st => n = 0 ∧ (match s with | (s9, y1, w3_0) => finishD Tryz.prog A0 135 Tryz.f135 st = some (.p (.tup []), [.var [.ref 1 0 y1.length 2], .arr (encL en_Pair y1)]))) (fun r st => finishD Tryz.prog A0 135 Tryz.f135 st = some (.p (.tup []), [.var [.ref 1 0 r.length 2], .arr (encL en_Pair r)])) o) := by
 refine Wp.iter ?_
 intro s st o hg h
 obtain ⟨s9, y1, w3_0⟩ := s
 unfold sort_breakPatterns_func_L0 at h; unfold g135_0 F135_0 at hg ⊢
 (try simp only [] at h hg)
 unfold L135_0 bodyOf Tryz.f135; simp only [loopsOf, ens]
 revert h
 repeat' first | (with_reducible refine gB fun _ _ => ?_) | (with_reducible refine gW fun _ => ?_) | (with_reducible refine gI (fun _ _ => ?_) (fun _ _ => ?_))
 all_goals
  intro h; obtain rfl := Option.some.inj h
  first | (simp (maxSteps := 10000000) (implicitDefEqProofs := false) (disch := first | with_reducible assumption | exact rfl | exact im_ _ | (fail_if_success show Kn _ _); omega) only [bs, rs135, ls135, Nat.reduceAdd, ↓reduceIte, binD_and_k, binD_quo_k, binD_sub_k (k := .u64), boxD_dagg, c159_0, loadD_ptr a55, q130_1, q160_0, storeD_int z186, hg]; first | (exact ⟨(rfl : Ex.normal = Ex.normal), by (try simp only [List.length_set, cpL_len, *]); kernel_rfl⟩) | (refine ⟨(rfl : Ex.exit 0 = Ex.exit 0), rfl, ?_⟩; show _ = _; kernel_rfl)) | (exfalso; omega)
theorem f135_ok  (x1 : Int) (x2 : Int) (o1 : (List Pair)) (r : (List Pair)) (h : sort_breakPatterns_func x1 x2 o1 = some r) : callW Tryz.prog A0 135 [.agg [.fn (.func 65) [.ptr 0 0], sw130 1 o1.length], iv x1, iv x2] [.var [.ref 1 0 o1.length 2], .arr (encL en_Pair o1)] = some (.p (.tup []), [.var [.ref 1 0 r.length 2], .arr (encL en_Pair r)]) := by
 refine call_ofI (fn := Tryz.f135) (c := bodyOf Tryz.f135) 51 rfl rfl (by kernel_rfl) (by kernel_rfl) (by kernel_rfl) ?_
 unfold sort_breakPatterns_func at h; unfold bodyOf Tryz.f135; simp only [ens]
 revert h
 refine gI (fun h1 _ => ?_) (fun h1 _ => ?_)
 ·refine gB fun r2 h3 => ?_
  refine gB fun q5 h6 => ?_
  refine gB fun o h40 => ?_
  intro h
  simp (maxSteps := 10000000) (implicitDefEqProofs := false) (disch := first | with_reducible assumption | exact rfl | exact im_ _ | (fail_if_success show Kn _ _); omega) only [bs, rs135, ls135, Nat.reduceAdd, ↓reduceIte, binD_and_k, binD_quo_k, binD_sub_k (k := .u64), boxD_dagg, c159_0, loadD_ptr a55, q130_1, q160_0, storeD_int z186]
  refine Wp.ctx (fun x => blockW _ (x)) (L135_0_ok x1 (w64 (x2 - x1)) r2 (w64 ((w64 (x1 + (w64 (q5 * (2 : Int))))) - (1 : Int)), o1, IntKind.wrap .u64 (w64 (x2 - x1))) _ o (by kernel_rfl) h40) ?_
  intro e st hq
  cases o with
  | next _ => (first | cases h | (simp at h))
  | jmp n_ s_ =>
   obtain ⟨rfl, rfl, hq⟩ := hq
   obtain ⟨s9_41, y1_41, w3_0_41⟩ := s_
   obtain rfl := Option.some.inj h
   simp (maxSteps := 10000000) (implicitDefEqProofs := false) (disch := first | with_reducible assumption | exact rfl | exact im_ _ | (fail_if_success show Kn _ _); omega) only [bs, rs135, ls135, Nat.reduceAdd, ↓reduceIte, binD_and_k, binD_quo_k, binD_sub_k (k := .u64), boxD_dagg, c159_0, loadD_ptr a55, q130_1, q160_0, storeD_int z186]
   exact ⟨by simp, hq⟩
  | ret _ => (first | cases h | (simp at h))
 ·intro h; obtain rfl := Option.some.inj h
  simp (maxSteps := 10000000) (implicitDefEqProofs := false) (disch := first | with_reducible assumption | exact rfl | exact im_ _ | (fail_if_success show Kn _ _); omega) only [bs, rs135, ls135, Nat.reduceAdd, ↓reduceIte, binD_and_k, binD_quo_k, binD_sub_k (k := .u64), boxD_dagg, c159_0, loadD_ptr a55, q130_1, q160_0, storeD_int z186]
  refine ⟨by simp, ?_⟩; show _ = _; kernel_rfl
def ls96 := And.intro @ex_2_0 (And.intro @ex_2_1 (And.intro @faP_129_0 (And.intro @varld_2_0_0 (@varlg_ff))))
theorem q137_1 {a1 : List Pair} {n2 : Nat} {a3 a4 : Int} {r9001 : (List Pair)} {X2 : Ob} (k0 : n2 = a1.length) (h9002 : sort_reverseRange_func a3 a4 a1 = some r9001) : callD (callW Tryz.prog A0) A0 [.var [.ref 1 0 a1.length 2], .arr (encL en_Pair a1), X2] 137 [.agg [.fn (.func 65) [.ptr 0 0], sw130 1 n2], iv a3, iv a4] = some (.p (.tup []), some [.var [.ref 1 0 r9001.length 2], .arr (encL en_Pair r9001), X2]) := by
  rw [show n2 = a1.length from by omega]; exact (callD_put (dsw := [.agg [.fn (.func 65) [.ptr 0 0], sw130 1 a1.length], iv a3, iv a4]) (ds' := [.agg [.fn (.func 65) [.ptr 0 0], sw130 1 a1.length], iv a3, iv a4]) (i := 0) (ids := [1]) (o := .var [.ref 1 0 a1.length 2]) (os := [.arr (encL en_Pair a1)]) (o' := .var [.ref 1 0 r9001.length 2]) (os' := [.arr (encL en_Pair r9001)]) rfl (by kernel_rfl) (by kernel_rfl) (by kernel_rfl) (by kernel_rfl) (by kernel_rfl) (f137_ok _ _ _ _ h9002) rfl rfl).trans (by kernel_rfl)
theorem q136_1 {a1 : List Pair} {n2 : Nat} {a3 a4 : Int} {r9001 : (Int × Int)} {X2 : Ob} (k0 : n2 = a1.length) (h9002 : sort_choosePivot_func a3 a4 a1 = some r9001) : callD (callW Tryz.prog A0) A0 [.var [.ref 1 0 a1.length 2], .arr (encL en_Pair a1), X2] 136 [.agg [.fn (.func 65) [.ptr 0 0], sw130 1 n2], iv a3, iv a4] = some (.p (.tup [.v (.int .i64 r9001.1), .v (.int .i64 r9001.2)]), some [.var [.ref 1 0 a1.length 2], .arr (encL en_Pair a1), X2]) := by
  rw [show n2 = a1.length from by omega]; exact (callD_put (dsw := [.agg [.fn (.func 65) [.ptr 0 0], sw130 1 a1.length], iv a3, iv a4]) (ds' := [.agg [.fn (.func 65) [.ptr 0 0], sw130 1 a1.length], iv a3, iv a4]) (i := 0) (ids := [1]) (o := .var [.ref 1 0 a1.length 2]) (os := [.arr (encL en_Pair a1)]) (o' := .var [.ref 1 0 a1.length 2]) (os' := [.arr (encL en_Pair a1)]) rfl (by kernel_rfl) (by kernel_rfl) (by kernel_rfl) (by kernel_rfl) (by kernel_rfl) (f136_ok _ _ _ _ h9002) rfl rfl).trans (by kernel_rfl)
theorem q135_0 {a1 : List Pair} {a2 a3 : Int} {r9001 : (List Pair)} {X2 : Ob} (h9002 : sort_breakPatterns_func a2 a3 a1 = some r9001) : callD (callW Tryz.prog A0) A0 [.var [.ref 1 0 a1.length 2], .arr (encL en_Pair a1), X2] 135 [.agg [.fn (.func 65) [.ptr 0 0], sw130 1 a1.length], iv a2, iv a3] = some (.p (.tup []), some [.var [.ref 1 0 r9001.length 2], .arr (encL en_Pair r9001), X2]) := (callD_put (dsw := [.agg [.fn (.func 65) [.ptr 0 0], sw130 1 a1.length], iv a2, iv a3]) (ds' := [.agg [.fn (.func 65) [.ptr 0 0], sw130 1 a1.length], iv a2, iv a3]) (i := 0) (ids := [1]) (o := .var [.ref 1 0 a1.length 2]) (os := [.arr (encL en_Pair a1)]) (o' := .var [.ref 1 0 r9001.length 2]) (os' := [.arr (encL en_Pair r9001)]) rfl (by kernel_rfl) (by kernel_rfl) (by kernel_rfl) (by kernel_rfl) (by kernel_rfl) (f135_ok _ _ _ _ h9002) rfl rfl).trans (by kernel_rfl)
noncomputable def L96_0 : Code := (loopsOf (bodyOf Tryz.f96)).getD 0 .skip
def g96_0 : List Ghost := [.keep [1, 2, 3, 4, 8, 9]]
noncomputable def F96_0 : (Int × Int × Int × Bool × Bool × (List Pair)) → St := fun (s1, s2, s3, s8, s9, y1) => ⟨[J, iv s1, iv s2, iv s3, .ptr 2 0, J, J, J, bv s8, bv s9, J, J, J, J, J, J, J, J, J, J, J, J, J, J, J, J, J, J, J, J, J, J, J, J, J, J, J, J, J, J, J, J, J, J, J, J, J, J, J, J, J, J, J, J, J, J, J, J, J, J, J, J, J, J, J, J, J, J, J, J, J, J, J, J, J, J, J, J, J, J, J, J, J, J, J, J, J, J, J, J, J, J, J, J, J, J, J, J, J, J, J, J, J, J, J, J, J, J, J, J, J, J, J, J, J, J, J, J, J, J, J, J, J, J, J, J, J, J, J, J], [.var [.ref 1 0 y1.length 2], .arr (encL en_Pair y1), .var [.fn (.func 65) [.ptr 0 0], sw130 1 y1.length]], 2⟩
theorem L96_0_ok {rec : Int → Int → Int → (List Pair) → Option (List Pair)} (hrec : ∀ x1 x2 x3 o1 r, rec x1 x2 x3 o1 = some r → callW Tryz.prog A0 96 [.agg [.fn (.func 65) [.ptr 0 0], sw130 1 o1.length], iv x1, iv x2, iv x3] [.var [.ref 1 0 o1.length 2], .arr (encL en_Pair o1)] = some (.p (.tup []), [.var [.ref 1 0 r.length 2], .arr (encL en_Pair r)])) : ∀ s st o, ghostsD g96_0 st = some (F96_0 s) → iter (sort_pdqsort_func_L0 rec) s = some o →
    Wp (evW Tryz.prog A0 96 (.loop L96_0) st) (OutQ (F96_0) g96_0 (fun n s st => False) (fun r st => finishD Tryz.prog A0 96 Tryz.f96 st = some (.p (.tup []), [.var [.ref 1 0 r.length 2], .arr (encL en_Pair r)])) o) := by
 refine Wp.iter ?_
 intro s st o hg h
 obtain ⟨s1, s2, s3, s8, s9, y1⟩ := s
 unfold sort_pdqsort_func_L0 at h; unfold g96_0 F96_0 at hg ⊢
 (try simp only [] at h hg)
 unfold L96_0 bodyOf Tryz.f96; simp only [loopsOf, ens]
 revert h
 repeat' first | (with_reducible refine gB fun _ _ => ?_) | (with_reducible refine gW fun _ => ?_) | (with_reducible refine gT (fun _ _ => ?_) (fun _ _ => ?_)) | (with_reducible refine gI (fun _ _ => ?_) (fun _ _ => ?_))
 all_goals
  intro h; obtain rfl := Option.some.inj h
  first | (simp (maxSteps := 10000000) (implicitDefEqProofs := false) (disch := first | with_reducible assumption | exact rfl | exact im_ _ | (fail_if_success show Kn _ _); omega) only [bs, rs96, ls96, Nat.reduceAdd, ↓reduceIte, Int.reduceEq, Int.reduceLE, Int.reduceLT, binD_quo_k, boxD_dagg, loadD_pagg a129 z129, loadD_ptr a85, q133_0, q134_0, q135_0, q136_0, q136_1, q137_0, q137_1, q138_0, q138_1, q139_0, q139_1, q140_0, q140_1, q65_0, q96_0 hrec, hg]; first | (refine ⟨(rfl : Ex.ret = Ex.ret), ?_⟩; show _ = _; (try simp only [List.length_set, cpL_len, *]); kernel_rfl) | (exact ⟨(rfl : Ex.normal = Ex.normal), by (try simp only [List.length_set, cpL_len, *]); kernel_rfl⟩)) | (exfalso; omega)
theorem f96_ok {rec : Int → Int → Int → (List Pair) → Option (List Pair)} (hrec : ∀ x1 x2 x3 o1 r, rec x1 x2 x3 o1 = some r → callW Tryz.prog A0 96 [.agg [.fn (.func 65) [.ptr 0 0], sw130 1 o1.length], iv x1, iv x2, iv x3] [.var [.ref 1 0 o1.length 2], .arr (encL en_Pair o1)] = some (.p (.tup []), [.var [.ref 1 0 r.length 2], .arr (encL en_Pair r)]))  (x1 : Int) (x2 : Int) (x3 : Int) (o1 : (List Pair)) (r : (List Pair)) (h : sort_pdqsort_func.body rec x1 x2 x3 o1 = some r) : callW Tryz.prog A0 96 [.agg [.fn (.func 65) [.ptr 0 0], sw130 1 o1.length], iv x1, iv x2, iv x3] [.var [.ref 1 0 o1.length 2], .arr (encL en_Pair o1)] = some (.p (.tup []), [.var [.ref 1 0 r.length 2], .arr (encL en_Pair r)]) := by
 refine call_ofI (fn := Tryz.f96) (c := bodyOf Tryz.f96) 126 rfl rfl (by kernel_rfl) (by kernel_rfl) (by kernel_rfl) ?_
 unfold sort_pdqsort_func.body at h; unfold bodyOf Tryz.f96; simp only [ens]
 revert h
 refine gB fun o h663 => ?_
 intro h
 simp (maxSteps := 10000000) (implicitDefEqProofs := false) (disch := first | with_reducible assumption | exact rfl | exact im_ _ | (fail_if_success show Kn _ _); omega) only [bs, rs96, ls96, Nat.reduceAdd, ↓reduceIte, Int.reduceEq, Int.reduceLE, Int.reduceLT, binD_quo_k, boxD_dagg, loadD_pagg a129 z129, loadD_ptr a85, q133_0, q134_0, q135_0, q136_0, q136_1, q137_0, q137_1, q138_0, q138_1, q139_0, q139_1, q140_0, q140_1, q65_0, q96_0 hrec]
 refine Wp.ctx (fun x => blockW _ (x)) (L96_0_ok hrec (x1, x2, x3, true, true, o1) _ o (by kernel_rfl) h663) ?_
 intro e st hq
 cases o with
 | next _ => (first | cases h | (simp at h))
 | jmp n_ s_ => exact hq.2.elim
 | ret r665 =>
  obtain ⟨rfl, hq⟩ := hq
  obtain rfl := Option.some.inj h
  simp (maxSteps := 10000000) (implicitDefEqProofs := false) (disch := first | with_reducible assumption | exact rfl | exact im_ _ | (fail_if_success show Kn _ _); omega) only [bs, rs96, ls96, Nat.reduceAdd, ↓reduceIte, Int.reduceEq, Int.reduceLE, Int.reduceLT, binD_quo_k, boxD_dagg, loadD_pagg a129 z129, loadD_ptr a85, q133_0, q134_0, q135_0, q136_0, q136_1, q137_0, q137_1, q138_0, q138_1, q139_0, q139_1, q140_0, q140_1, q65_0, q96_0 hrec]
  exact ⟨by simp, hq⟩
theorem f96_spec : ∀ (x1 : Int) (x2 : Int) (x3 : Int) (o1 : (List Pair)) r, pdqF x1 x2 x3 o1 = some r → callW Tryz.prog A0 96 [.agg [.fn (.func 65) [.ptr 0 0], sw130 1 o1.length], iv x1, iv x2, iv x3] [.var [.ref 1 0 o1.length 2], .arr (encL en_Pair o1)] = some (.p (.tup []), [.var [.ref 1 0 r.length 2], .arr (encL en_Pair r)]) := by
 have key : ∀ n (x1 : Int) (x2 : Int) (x3 : Int) (o1 : (List Pair)) r, pdqF_mu x1 x2 x3 o1 < n → pdqF x1 x2 x3 o1 = some r → callW Tryz.prog A0 96 [.agg [.fn (.func 65) [.ptr 0 0], sw130 1 o1.length], iv x1, iv x2, iv x3] [.var [.ref 1 0 o1.length 2], .arr (encL en_Pair o1)] = some (.p (.tup []), [.var [.ref 1 0 r.length 2], .arr (encL en_Pair r)]) := by
  intro n
  induction n with
  | zero => intro x1 x2 x3 o1 r h; omega
  | succ n ih =>
   intro x1 x2 x3 o1 r hn h
   refine f96_ok (rec := fun x1' x2' x3' o1' => if pdqF_mu x1' x2' x3' o1' < pdqF_mu x1 x2 x3 o1 then pdqF x1' x2' x3' o1' else none) ?_ x1 x2 x3 o1 r (pdqF_body x1 x2 x3 o1 r h)
   intro x1' x2' x3' o1' r' h'
   by_cases hm : pdqF_mu x1' x2' x3' o1' < pdqF_mu x1 x2 x3 o1
   ·rw [if_pos hm] at h'; exact ih x1' x2' x3' o1' r' (by omega) h'
   ·rw [if_neg hm] at h'; cases h'
 intro x1 x2 x3 o1 r h
 exact key _ x1 x2 x3 o1 r (Nat.lt_succ_self _) h
def ls64 := And.intro @al_121 (And.intro @bu_129_ff (And.intro @cv_3_126 (And.intro @sg_3_0_pqp (@varlg_pqp))))
theorem q96_1 {a1 : List Pair} {a2 a3 a4 : Int} {r9001 : (List Pair)} {X2 X3 : Ob} (h9002 : pdqF a2 a3 a4 a1 = some r9001) : callD (callW Tryz.prog A0) A0 [.arr (encL en_Pair a1), .var [.ref 0 0 a1.length 2], X2, X3] 96 [.agg [.fn (.func 65) [.ptr 1 0], sw130 0 a1.length], iv a2, iv a3, iv a4] = some (.p (.tup []), some [.arr (encL en_Pair r9001), .var [.ref 0 0 r9001.length 2], X2, X3]) := (callD_put (dsw := [.agg [.fn (.func 65) [.ptr 1 0], sw130 0 a1.length], iv a2, iv a3, iv a4]) (ds' := [.agg [.fn (.func 65) [.ptr 0 0], sw130 1 a1.length], iv a2, iv a3, iv a4]) (i := 1) (ids := [0]) (o := .var [.ref 1 0 a1.length 2]) (os := [.arr (encL en_Pair a1)]) (o' := .var [.ref 1 0 r9001.length 2]) (os' := [.arr (encL en_Pair r9001)]) rfl (by kernel_rfl) (by kernel_rfl) (by kernel_rfl) (by kernel_rfl) (by kernel_rfl) (f96_spec _ _ _ _ _ h9002) rfl rfl).trans (by kernel_rfl)
theorem q94_0 {a1 : List Pair} {X1 X3 : Ob} : callD (callW Tryz.prog A0) A0 [.arr (encL en_Pair a1), X1, .var [.ref 0 0 a1.length 2], X3] 94 [.agg [.p (.v (typeHandle Tryz.prog 29)), .ptr 2 0, .p (.v (.int .u64 (151 : Int)))]] = some (iv (a1.length : Int), some [.arr (encL en_Pair a1), X1, .var [.ref 0 0 a1.length 2], X3]) := (callD_any (dsw := [.agg [.p (.v (typeHandle Tryz.prog 29)), .ptr 2 0, .p (.v (.int .u64 (151 : Int)))]]) (ds' := [.agg [.p (.v (typeHandle Tryz.prog 29)), .ptr 0 0, .p (.v (.int .u64 151))]]) (i := 2) (ids := [0]) (o := .var [.ref 1 0 a1.length 2]) (os := [.arr (encL en_Pair a1)]) (x := .p (.v (.int .i64 (a1.length : Int)))) (o' := .var [.ref 1 0 a1.length 2]) (os' := [.arr (encL en_Pair a1)]) rfl (by kernel_rfl) (by kernel_rfl) (by kernel_rfl) (by kernel_rfl) (by kernel_rfl) (callW_valLen rfl (by kernel_rfl) (by kernel_rfl) (by kernel_rfl) u29) rfl rfl).trans (by kernel_rfl)
theorem q93_0 {a1 : List Pair} {X1 X2 X3 : Ob} (h9003 : 2 ≤ a1.length) : callD (callW Tryz.prog A0) A0 [.arr (encL en_Pair a1), X1, X2, X3] 93 [.ifc 29 (.ref 0 0 a1.length 2)] = some (sw130 0 a1.length, some [.arr (encL en_Pair a1), X1, X2, X3]) := (callD_any (dsw := [.ifc 29 (.ref 0 0 a1.length 2)]) (ds' := [.ifc 29 (.ref 0 0 a1.length 2)]) (i := 0) (ids := []) (o := .arr (encL en_Pair a1)) (os := []) (x := .fn (.func 130) [.ref 0 0 a1.length 2, .p (.v (typeHandle Tryz.prog 43))]) (o' := .arr (encL en_Pair a1)) (os' := []) rfl (by kernel_rfl) (by kernel_rfl) (by kernel_rfl) (by kernel_rfl) (by kernel_rfl) (callW_swapper rfl rfl (by assumption)) rfl rfl).trans (by kernel_rfl)
theorem q92_0 {a1 : List Pair} {X1 : Ob} : callD (callW Tryz.prog A0) A0 [.arr (encL en_Pair a1), X1] 92 [.ifc 29 (.ref 0 0 a1.length 2)] = some (.agg [.p (.v (typeHandle Tryz.prog 29)), .ptr 2 0, .p (.v (.int .u64 (151 : Int)))], some [.arr (encL en_Pair a1), X1, .var [.ref 0 0 a1.length 2]]) := (callD_any (dsw := [.ifc 29 (.ref 0 0 a1.length 2)]) (ds' := [.ifc 29 (.ref 0 0 a1.length 2)]) (i := 0) (ids := []) (o := .arr (encL en_Pair a1)) (os := []) (x := .agg [.p (.v (typeHandle Tryz.prog 29)), .ptr 1 0, .p (.v (.int .u64 151))]) (o' := .arr (encL en_Pair a1)) (os' := [.var [.ref 0 0 a1.length 2]]) rfl (by kernel_rfl) (by kernel_rfl) (by kernel_rfl) (by kernel_rfl) (by kernel_rfl) (callW_valueOf rfl (by kernel_rfl)) rfl rfl).trans (by kernel_rfl)
theorem f64_ok  (o0 : (List Pair)) (r : (List Pair)) (h : sort_Slice o0 = some r) : callW Tryz.prog A0 64 [.ifc 29 (.ref 0 0 o0.length 2), .fn (.func 65) [.ptr 1 0]] [.arr (encL en_Pair o0), .var [.ref 0 0 o0.length 2]] = some (.p (.tup []), [.arr (encL en_Pair r), .var [.ref 0 0 r.length 2]]) := by
 refine call_ofI (fn := Tryz.f64) (c := bodyOf Tryz.f64) 21 rfl rfl (by kernel_rfl) (by kernel_rfl) (by kernel_rfl) ?_
 unfold sort_Slice at h; unfold bodyOf Tryz.f64; simp only [ens]
 revert h
 repeat' first | (with_reducible refine gB fun _ _ => ?_) | (with_reducible refine gW fun _ => ?_)
 intro h; obtain rfl := Option.some.inj h
 simp (maxSteps := 10000000) (implicitDefEqProofs := false) (disch := first | with_reducible assumption | exact rfl | exact im_ _ | (fail_if_success show Kn _ _); omega) only [bs, rs64, ls64, Nat.reduceAdd, ↓reduceIte, c95_0, loadD_pagg a121 z121, q92_0, q93_0, q94_0, q96_1, storeD_gagg z121]
 refine ⟨by simp, ?_⟩; show _ = _; (try simp only [List.length_set, cpL_len, *]); kernel_rfl
theorem sort_SliceS_callg {o0 : (List Pair)} {r : (List Pair)} (h : sort_SliceS o0 = some r) : callW Tryz.prog A0 64 [.ifc 29 (.ref 0 0 o0.length 2), .fn (.func 65) [.ptr 1 0]] [.arr (encL en_Pair o0), .var [.ref 0 0 o0.length 2]] = some (.p (.tup []), [.arr (encL en_Pair r), .var [.ref 0 0 r.length 2]]) := by
 unfold sort_SliceS at h
 match o0, h with
 | [], h => rw [if_pos (by simp)] at h; obtain rfl := Option.some.inj h; exact callW_some.2 ⟨60, by kernel_rfl⟩
 | [y], h => rw [if_pos (by simp)] at h; obtain rfl := Option.some.inj h; exact callW_some.2 ⟨60, by kernel_rfl⟩
 | y :: z :: l, h => rw [if_neg (by simp only [List.length_cons]; omega)] at h; exact f64_ok _ _ h
def ls43 := And.intro @al_43 (And.intro @ap_29_29 (And.intro @bs_29_1 (And.intro @idxR_29 (And.intro @lk_arr_43 (And.intro @neq_43 (And.intro @sa_2_0_2 (And.intro @varld_1_0 (@varlv_2_0_2))))))))
theorem q64_0 {a1 : List Pair} {r9001 : (List Pair)} (h9002 : sort_SliceS a1 = some r9001) : callD (callW Tryz.prog A0) A0 [.arr (encL en_Pair a1), .var [.ref 0 0 a1.length 2]] 64 [.ifc 29 (.ref 0 0 a1.length 2), .fn (.func 65) [.ptr 1 0]] = some (.p (.tup []), some [.arr (encL en_Pair r9001), .var [.ref 0 0 r9001.length 2]]) := (callD_put (dsw := [.ifc 29 (.ref 0 0 a1.length 2), .fn (.func 65) [.ptr 1 0]]) (ds' := [.ifc 29 (.ref 0 0 a1.length 2), .fn (.func 65) [.ptr 1 0]]) (i := 0) (ids := [1]) (o := .arr (encL en_Pair a1)) (os := [.var [.ref 0 0 a1.length 2]]) (o' := .arr (encL en_Pair r9001)) (os' := [.var [.ref 0 0 r9001.length 2]]) rfl (by kernel_rfl) (by kernel_rfl) (by kernel_rfl) (by kernel_rfl) (by kernel_rfl) (sort_SliceS_callg h9002) rfl rfl).trans (by kernel_rfl)
noncomputable def L43_0 : Code := (loopsOf (bodyOf Tryz.f43)).getD 0 .skip
def g43_0 : List Ghost := [.own 3 2, .keep [1, 3, 10, 11, 12]]
noncomputable def F43_0 (s11 : Int) (y0 : (List Pair)) : (Int × (List Pair)) → St := fun (s12, y2) => ⟨[J, .ptr 1 0, J, .ref 2 0 y2.length 2, J, J, J, J, J, J, .ref 0 0 y0.length 2, iv s11, iv s12, J, J, J, J, J, J, J, J, J, J, J, J, J, J, J, J, J, J, J, J, J], [.arr (encL en_Pair y0), .var [.ref 0 0 y0.length 2], .arr (encL en_Pair y2)], 1⟩
theorem L43_0_ok (s11 : Int) (y0 : (List Pair)) : ∀ s st o, ghostsD g43_0 st = some (F43_0 s11 y0 s) → iter (match_tidy_L0 s11 y0) s = some o →
    Wp (evW Tryz.prog A0 43 (.loop L43_0) st) (OutQ (F43_0 s11 y0) g43_0 (fun n s st => n = 0 ∧ ghostsD [.keep [1, 3, 10, 11, 12]] st = some (F43_0 s11 y0 s)) (fun r st => finishD Tryz.prog A0 43 Tryz.f43 st = some (.p (.lst false r.1.length (encL en_Pair r.1)), [.arr (encL en_Pair r.2)])) o) := by
 refine Wp.iter ?_
 intro s st o hg h
 obtain ⟨s12, y2⟩ := s
 unfold match_tidy_L0 at h; unfold g43_0 F43_0 at hg ⊢
 (try simp only [] at h hg)
 unfold L43_0 bodyOf Tryz.f43; simp only [loopsOf, ens]
 revert h
 refine gI (fun h5 _ => ?_) (fun h5 _ => ?_)
 ·refine gR fun v6 h7 h7a h7b => ?_
  refine gI (fun h9 _ => ?_) (fun h9 _ => ?_)
  ·refine gW fun h11 => ?_
   have h10 : ∀ (H : List Ob) (id : Nat), apOb H id 0 y2.length 1 2 2 16 [.v (.int .i64 v6.Old), .v (.int .i64 v6.New)] (some (.arr (encL en_Pair y2))) = some (.ref H.length 0 (y2 ++ [v6]).length 2, H.set id .dead ++ [.arr (encL en_Pair (y2 ++ [v6]))]) := fun H id => ap_enc (y := [v6]) en_Pair_len (by first | rfl | omega) rfl (by first | (simp only [encL_cons, encL_nil, en_Pair_eq, List.cons_append, List.nil_append]; done) | (simp only [encL_cons, encL_nil, en_Pair_eq, List.cons_append, List.nil_append]; rfl) | rfl) (by assumption)
   intro h; obtain rfl := Option.some.inj h
   simp (maxSteps := 10000000) (implicitDefEqProofs := false) (disch := first | with_reducible assumption | exact rfl | exact im_ _ | (fail_if_success show Kn _ _); omega) only [bs, rs43, ls43, Nat.reduceAdd, ↓reduceIte, allP, lenD_ref u29, loadD_pagg a43 z43, loadD_ptr a29, mkFn, ops_makeFunc_, ops_makeInterface u29, q64_0, storeD_agg z43, wks_nil_, hg, h10]
   exact ⟨(rfl : Ex.normal = Ex.normal), by kernel_rfl⟩
  ·refine gR fun v12 h13 h13a h13b => ?_
   refine gI (fun h15 _ => ?_) (fun h15 _ => ?_)
   ·intro h; obtain rfl := Option.some.inj h
    simp (maxSteps := 10000000) (implicitDefEqProofs := false) (disch := first | with_reducible assumption | exact rfl | exact im_ _ | (fail_if_success show Kn _ _); omega) only [bs, rs43, ls43, Nat.reduceAdd, ↓reduceIte, allP, lenD_ref u29, loadD_pagg a43 z43, loadD_ptr a29, mkFn, ops_makeFunc_, ops_makeInterface u29, q64_0, storeD_agg z43, wks_nil_, hg]
    exact ⟨(rfl : Ex.normal = Ex.normal), by kernel_rfl⟩
   ·refine gW fun h17 => ?_
    have h16 : ∀ (H : List Ob) (id : Nat), apOb H id 0 y2.length 1 2 2 16 [.v (.int .i64 v6.Old), .v (.int .i64 v6.New)] (some (.arr (encL en_Pair y2))) = some (.ref H.length 0 (y2 ++ [v6]).length 2, H.set id .dead ++ [.arr (encL en_Pair (y2 ++ [v6]))]) := fun H id => ap_enc (y := [v6]) en_Pair_len (by first | rfl | omega) rfl (by first | (simp only [encL_cons, encL_nil, en_Pair_eq, List.cons_append, List.nil_append]; done) | (simp only [encL_cons, encL_nil, en_Pair_eq, List.cons_append, List.nil_append]; rfl) | rfl) (by assumption)
    intro h; obtain rfl := Option.some.inj h
    simp (maxSteps := 10000000) (implicitDefEqProofs := false) (disch := first | with_reducible assumption | exact rfl | exact im_ _ | (fail_if_success show Kn _ _); omega) only [bs, rs43, ls43, Nat.reduceAdd, ↓reduceIte, allP, lenD_ref u29, loadD_pagg a43 z43, loadD_ptr a29, mkFn, ops_makeFunc_, ops_makeInterface u29, q64_0, storeD_agg z43, wks_nil_, hg, h16]
    exact ⟨(rfl : Ex.normal = Ex.normal), by kernel_rfl⟩
 ·intro h; obtain rfl := Option.some.inj h
  simp (maxSteps := 10000000) (implicitDefEqProofs := false) (disch := first | with_reducible assumption | exact rfl | exact im_ _ | (fail_if_success show Kn _ _); omega) only [bs, rs43, ls43, Nat.reduceAdd, ↓reduceIte, allP, lenD_ref u29, loadD_pagg a43 z43, loadD_ptr a29, mkFn, ops_makeFunc_, ops_makeInterface u29, q64_0, storeD_agg z43, wks_nil_, hg]
  exact ⟨(rfl : Ex.exit 0 = Ex.exit 0), rfl, by kernel_rfl⟩
theorem f43_ok  (x0 : (List Pair)) (r : ((List Pair) × (List Pair))) (h : match_tidy x0 = some r) : callW Tryz.prog A0 43 [.ref 0 0 x0.length 2] [.arr (encL en_Pair x0)] = some (.p (.lst false r.1.length (encL en_Pair r.1)), [.arr (encL en_Pair r.2)]) := by
 refine call_ofI (fn := Tryz.f43) (c := bodyOf Tryz.f43) 33 rfl rfl (by kernel_rfl) (by kernel_rfl) (by kernel_rfl) ?_
 unfold match_tidy at h; unfold bodyOf Tryz.f43; simp only [ens]
 revert h
 refine gB fun r1 h2 => ?_
 refine gW fun h4 => ?_
 refine gB fun o h18 => ?_
 intro h
 simp (maxSteps := 10000000) (implicitDefEqProofs := false) (disch := first | with_reducible assumption | exact rfl | exact im_ _ | (fail_if_success show Kn _ _); omega) only [bs, rs43, ls43, Nat.reduceAdd, ↓reduceIte, allP, lenD_ref u29, loadD_pagg a43 z43, loadD_ptr a29, mkFn, ops_makeFunc_, ops_makeInterface u29, q64_0, storeD_agg z43, wks_nil_]
 refine Wp.ctx (fun x => seqW _ _ _ _ (blockW _ (x))) (L43_0_ok (r1.length : Int) r1 ((0 : Int), ([] : List Pair)) _ o (by unfold F43_0; simp only [List.length_set, cpL_len, h4]; kernel_rfl) h18) ?_
 intro e st hq
 cases o with
 | next _ => (first | cases h | (simp at h))
 | jmp n_ s_ =>
  obtain ⟨rfl, rfl, hq⟩ := hq
  obtain ⟨s12_19, y2_19⟩ := s_
  unfold F43_0 at hq
  (try simp only [] at h hq)
  revert h
  intro h; obtain rfl := Option.some.inj h
  simp (maxSteps := 10000000) (implicitDefEqProofs := false) (disch := first | with_reducible assumption | exact rfl | exact im_ _ | (fail_if_success show Kn _ _); omega) only [bs, rs43, ls43, Nat.reduceAdd, ↓reduceIte, allP, lenD_ref u29, loadD_pagg a43 z43, loadD_ptr a29, mkFn, ops_makeFunc_, ops_makeInterface u29, q64_0, storeD_agg z43, wks_nil_, hq]
  refine ⟨by simp, ?_⟩; exact finish_isH (l := [2]) rfl rfl (purify1_enc en_Pair_len rfl (by first | rfl | omega | simp)) (by first | rfl | (simp only [wk, wks, wkL]; first | done | rfl)) (by kernel_rfl)
 | ret _ => (first | cases h | (simp at h))
def ls20 := And.intro @al_43 (And.intro @ap_29_29 (And.intro @bs_29_1 (And.intro @bu_43_0_1 (And.intro @faP_43_0 (And.intro @faP_43_1 (And.intro @idxL_29 (And.intro @lk_frz_43 (And.intro @sa_2_0_2 (And.intro @varld_2_0_0 (@varld_2_0_1))))))))))
theorem q43_0 {a1 : List Pair} {r9001 : ((List Pair) × (List Pair))} (h9002 : match_tidy a1 = some r9001) : callD (callW Tryz.prog A0) A0 [.arr (encL en_Pair a1)] 43 [.ref 0 0 a1.length 2] = some (.p (.lst false r9001.1.length (encL en_Pair r9001.1)), some [.arr (encL en_Pair r9001.2)]) := (callD_put (dsw := [.ref 0 0 a1.length 2]) (ds' := [.ref 0 0 a1.length 2]) (i := 0) (ids := []) (o := .arr (encL en_Pair a1)) (os := []) (o' := .arr (encL en_Pair r9001.2)) (os' := []) rfl (by kernel_rfl) (by kernel_rfl) (by kernel_rfl) (by kernel_rfl) (by kernel_rfl) (f43_ok _ _ h9002) rfl rfl).trans (by kernel_rfl)
noncomputable def L20_0 : Code := (loopsOf (bodyOf Tryz.f20)).getD 0 .skip
def g20_0 : List Ghost := [.own 3 2, .weak [6], .keep [3, 6, 7, 8]]
noncomputable def F20_0 (s6 : (List Pair)) (s7 : Int) : (Int × (List Pair)) → St := fun (s8, y0) => ⟨[J, J, J, .ref 0 0 y0.length 2, J, J, .p (.lst false s6.length (encL en_Pair s6)), iv s7, iv s8, J, J, J, J, J, J, J, J, J, J, J, J, J, J], [.arr (encL en_Pair y0)], 0⟩
theorem L20_0_ok (s6 : (List Pair)) (s7 : Int) : ∀ s st o, ghostsD g20_0 st = some (F20_0 s6 s7 s) → iter (match_Invert_L0 s6 s7) s = some o →
    Wp (evW Tryz.prog A0 20 (.loop L20_0) st) (OutQ (F20_0 s6 s7) g20_0 (fun n s st => n = 0 ∧ ghostsD [.keep [3, 6, 7, 8]] st = some (F20_0 s6 s7 s)) (fun r st => finishD Tryz.prog A0 20 Tryz.f20 st = some (.p (.lst false r.length (encL en_Pair r)), [])) o) := by
 refine Wp.iter ?_
 intro s st o hg h
 obtain ⟨s8, y0⟩ := s
 unfold match_Invert_L0 at h; unfold g20_0 F20_0 at hg ⊢
 (try simp only [] at h hg)
 unfold L20_0 bodyOf Tryz.f20; simp only [loopsOf, ens]
 revert h
 refine gI (fun h1 _ => ?_) (fun h1 _ => ?_)
 ·refine gR fun v2 h3 h3a h3b => ?_
  refine gW fun h6 => ?_
  have h5 : ∀ (H : List Ob) (id : Nat), apOb H id 0 y0.length 1 2 2 16 [.v (.int .i64 v2.New), .v (.int .i64 v2.Old)] (some (.arr (encL en_Pair y0))) = some (.ref H.length 0 (y0 ++ [(Pair.mk v2.New v2.Old)]).length 2, H.set id .dead ++ [.arr (encL en_Pair (y0 ++ [(Pair.mk v2.New v2.Old)]))]) := fun H id => ap_enc (y := [(Pair.mk v2.New v2.Old)]) en_Pair_len (by first | rfl | omega) rfl (by first | (simp only [encL_cons, encL_nil, en_Pair_eq, List.cons_append, List.nil_append]; done) | (simp only [encL_cons, encL_nil, en_Pair_eq, List.cons_append, List.nil_append]; rfl) | rfl) (by assumption)
  intro h; obtain rfl := Option.some.inj h
  simp (maxSteps := 10000000) (implicitDefEqProofs := false) (disch := first | with_reducible assumption | exact rfl | exact im_ _ | (fail_if_success show Kn _ _); omega) only [bs, rs20, ls20, Nat.reduceAdd, ↓reduceIte, lenD_lst u29, loadD_iagg a43 z43, loadD_ptr a3, q43_0, storeD_agg z43, wks_nil_, hg, h5]
  exact ⟨(rfl : Ex.normal = Ex.normal), by kernel_rfl⟩
 ·intro h; obtain rfl := Option.some.inj h
  simp (maxSteps := 10000000) (implicitDefEqProofs := false) (disch := first | with_reducible assumption | exact rfl | exact im_ _ | (fail_if_success show Kn _ _); omega) only [bs, rs20, ls20, Nat.reduceAdd, ↓reduceIte, lenD_lst u29, loadD_iagg a43 z43, loadD_ptr a3, q43_0, storeD_agg z43, wks_nil_, hg]
  exact ⟨(rfl : Ex.exit 0 = Ex.exit 0), rfl, by kernel_rfl⟩
theorem f20_ok  (x0 : (List Pair)) (r : (List Pair)) (h : match_Invert x0 = some r) : callW Tryz.prog A0 20 [.p (.lst false x0.length (encL en_Pair x0))] [] = some (.p (.lst false r.length (encL en_Pair r)), []) := by
 refine call_ofI (fn := Tryz.f20) (c := bodyOf Tryz.f20) 22 rfl rfl (by kernel_rfl) (by kernel_rfl) (by kernel_rfl) ?_
 unfold match_Invert at h; unfold bodyOf Tryz.f20; simp only [ens]
 revert h
 refine gB fun o h7 => ?_
 intro h
 simp (maxSteps := 10000000) (implicitDefEqProofs := false) (disch := first | with_reducible assumption | exact rfl | exact im_ _ | (fail_if_success show Kn _ _); omega) only [bs, rs20, ls20, Nat.reduceAdd, ↓reduceIte, lenD_lst u29, loadD_iagg a43 z43, loadD_ptr a3, q43_0, storeD_agg z43, wks_nil_]
 refine Wp.ctx (fun x => seqW _ _ _ _ (blockW _ (x))) (L20_0_ok x0 (x0.length : Int) ((0 : Int), ([] : List Pair)) _ o (by kernel_rfl) h7) ?_
 intro e st hq
 cases o with
 | next _ => (first | cases h | (simp at h))
 | jmp n_ s_ =>
  obtain ⟨rfl, rfl, hq⟩ := hq
  obtain ⟨s8_8, y0_8⟩ := s_
  unfold F20_0 at hq
  (try simp only [] at h hq)
  revert h
  repeat' first | (with_reducible refine gB fun _ _ => ?_) | (with_reducible refine gW fun _ => ?_)
  intro h; obtain rfl := Option.some.inj h
  simp (maxSteps := 10000000) (implicitDefEqProofs := false) (disch := first | with_reducible assumption | exact rfl | exact im_ _ | (fail_if_success show Kn _ _); omega) only [bs, rs20, ls20, Nat.reduceAdd, ↓reduceIte, lenD_lst u29, loadD_iagg a43 z43, loadD_ptr a3, q43_0, storeD_agg z43, wks_nil_, hq]
  refine ⟨by simp, ?_⟩; exact finish_is (l := []) rfl rfl rfl rfl (by first | rfl | (simp only [wk, wks, wkL]; first | done | rfl))
 | ret _ => (first | cases h | (simp at h))
def ls39 := And.intro @ap_29_29 (And.intro @bs_29_0 (And.intro @bs_29_1 (And.intro @ce_43__0 (And.intro @ce_43__1 (And.intro @eql_43 (And.intro @faI_43_0 (And.intro @faI_43_1 (And.intro @faP_43_0 (And.intro @faP_43_1 (And.intro @idxL_29 (And.intro @lk_frz_43 (And.intro @varld_2_0_0 (And.intro @varld_2_0_1 (@varlv_2_0_2))))))))))))))
theorem c20_0 {H : List Ob} {a1 : Bool} {a2 : List Pair} {r : (List Pair)} (h : match_Invert a2 = some r) : callD (callW Tryz.prog A0) A0 H 20 [.p (.lst a1 a2.length (encL en_Pair a2))] = some (.p (.lst false r.length (encL en_Pair r)), none) :=
 callD_fun (args := [.lst a1 a2.length (encL en_Pair a2)]) rfl rfl rfl (by simp only [List.map_cons, List.map_nil, wk, wks, wkL]; exact f20_ok a2 _ h)
noncomputable def L39_0 : Code := (loopsOf (bodyOf Tryz.f39)).getD 0 .skip
def g39_0 : List Ghost := [.own 5 2, .weak [0], .keep [0, 3, 5, 6, 7]]
noncomputable def F39_0 (s0 : (List Pair)) (w0_0 : Int) (w0_1 : Int) : (Bool × Int × (List Pair)) → St := fun (s6, s7, y1) => ⟨[.p (.lst false s0.length (encL en_Pair s0)), J, J, .ptr 0 0, J, .ref 1 0 y1.length 2, bv s6, iv s7, J, J, J, J, J, J, J, J, J, J, J, J, J, J, J, J, J, J, J, J, J, J, J, J, J, J, J, J, J, J, J, J, J, J, J, J, J, J, J, J, J, J, J, J, J, J, J, J, J, J, J, J, J, J, J, J, J, J, J, J, J, J, J], [.var [iv w0_0, iv w0_1], .arr (encL en_Pair y1)], 0⟩
theorem L39_0_ok (s0 : (List Pair)) (w0_0 : Int) (w0_1 : Int) : ∀ s st o, ghostsD g39_0 st = some (F39_0 s0 w0_0 w0_1 s) → iter (R24_Insert_L0 s0 w0_0 w0_1) s = some o →
    Wp (evW Tryz.prog A0 39 (.loop L39_0) st) (OutQ (F39_0 s0 w0_0 w0_1) g39_0 (fun n s st => n = 0 ∧ ghostsD [.keep [0, 3, 5, 6, 7]] st = some (F39_0 s0 w0_0 w0_1 s)) (fun r st => finishD Tryz.prog A0 39 Tryz.f39 st = some (.p (.lst false r.length (encL en_Pair r)), [])) o) := by
 refine Wp.iter ?_
 intro s st o hg h
 obtain ⟨s6, s7, y1⟩ := s
 unfold R24_Insert_L0 at h; unfold g39_0 F39_0 at hg ⊢
 (try simp only [] at h hg)
 unfold L39_0 bodyOf Tryz.f39; simp only [loopsOf, ens]
 revert h
 refine gI (fun h1 _ => ?_) (fun h1 _ => ?_)
 ·refine gR fun v2 h3 h3a h3b => ?_
  refine gI (fun h5 _ => ?_) (fun h5 _ => ?_)
  ·refine gW fun h8 => ?_
   have h7 : ∀ (H : List Ob) (id : Nat), apOb H id 0 y1.length 1 2 2 16 [.v (.int .i64 v2.Old), .v (.int .i64 v2.New)] (some (.arr (encL en_Pair y1))) = some (.ref H.length 0 (y1 ++ [v2]).length 2, H.set id .dead ++ [.arr (encL en_Pair (y1 ++ [v2]))]) := fun H id => ap_enc (y := [v2]) en_Pair_len (by first | rfl | omega) rfl (by first | (simp only [encL_cons, encL_nil, en_Pair_eq, List.cons_append, List.nil_append]; done) | (simp only [encL_cons, encL_nil, en_Pair_eq, List.cons_append, List.nil_append]; rfl) | rfl) (by assumption)
   intro h; obtain rfl := Option.some.inj h
   simp (maxSteps := 10000000) (implicitDefEqProofs := false) (disch := first | with_reducible assumption | exact rfl | exact im_ _ | (fail_if_success show Kn _ _); omega) only [bs, rs39, ls39, Nat.reduceAdd, ↓reduceIte, lenD_lst u29, loadD_iagg a43 z43, loadD_iptr a3, loadD_pagg a43 z43, loadD_ptr a3, wks_nil_, hg, h7]
   exact ⟨(rfl : Ex.normal = Ex.normal), by kernel_rfl⟩
  ·refine gT (fun h9 _ => ?_) (fun h9 _ => ?_)
   ·refine gW fun h12 => ?_
    have h11 : ∀ (H : List Ob) (id : Nat), apOb H id 0 y1.length 1 2 2 16 [.v (.int .i64 v2.Old), .v (.int .i64 v2.New)] (some (.arr (encL en_Pair y1))) = some (.ref H.length 0 (y1 ++ [v2]).length 2, H.set id .dead ++ [.arr (encL en_Pair (y1 ++ [v2]))]) := fun H id => ap_enc (y := [v2]) en_Pair_len (by first | rfl | omega) rfl (by first | (simp only [encL_cons, encL_nil, en_Pair_eq, List.cons_append, List.nil_append]; done) | (simp only [encL_cons, encL_nil, en_Pair_eq, List.cons_append, List.nil_append]; rfl) | rfl) (by assumption)
    intro h; obtain rfl := Option.some.inj h
    simp (maxSteps := 10000000) (implicitDefEqProofs := false) (disch := first | with_reducible assumption | exact rfl | exact im_ _ | (fail_if_success show Kn _ _); omega) only [bs, rs39, ls39, Nat.reduceAdd, ↓reduceIte, lenD_lst u29, loadD_iagg a43 z43, loadD_iptr a3, loadD_pagg a43 z43, loadD_ptr a3, wks_nil_, hg, h11]
    exact ⟨(rfl : Ex.normal = Ex.normal), by kernel_rfl⟩
   ·refine gI (fun h14 _ => ?_) (fun h14 _ => ?_)
    ·refine gW fun h16 => ?_
     have h15 : ∀ (H : List Ob) (id : Nat), apOb H id 0 y1.length 1 2 2 16 [.v (.int .i64 w0_0), .v (.int .i64 w0_1)] (some (.arr (encL en_Pair y1))) = some (.ref H.length 0 (y1 ++ [(Pair.mk w0_0 w0_1)]).length 2, H.set id .dead ++ [.arr (encL en_Pair (y1 ++ [(Pair.mk w0_0 w0_1)]))]) := fun H id => ap_enc (y := [(Pair.mk w0_0 w0_1)]) en_Pair_len (by first | rfl | omega) rfl (by first | (simp only [encL_cons, encL_nil, en_Pair_eq, List.cons_append, List.nil_append]; done) | (simp only [encL_cons, encL_nil, en_Pair_eq, List.cons_append, List.nil_append]; rfl) | rfl) (by assumption)
     refine gW fun h19 => ?_
     have h18 : ∀ (H : List Ob) (id : Nat), apOb H id 0 ((y1 ++ [(Pair.mk w0_0 w0_1)]).length) 1 2 2 16 [.v (.int .i64 v2.Old), .v (.int .i64 v2.New)] (some (.arr (encL en_Pair (y1 ++ [(Pair.mk w0_0 w0_1)])))) = some (.ref H.length 0 ((y1 ++ [(Pair.mk w0_0 w0_1)]) ++ [v2]).length 2, H.set id .dead ++ [.arr (encL en_Pair ((y1 ++ [(Pair.mk w0_0 w0_1)]) ++ [v2]))]) := fun H id => ap_enc (y := [v2]) en_Pair_len (by first | rfl | omega) rfl (by first | (simp only [encL_cons, encL_nil, en_Pair_eq, List.cons_append, List.nil_append]; done) | (simp only [encL_cons, encL_nil, en_Pair_eq, List.cons_append, List.nil_append]; rfl) | rfl) (by assumption)
     intro h; obtain rfl := Option.some.inj h
     simp (maxSteps := 10000000) (implicitDefEqProofs := false) (disch := first | with_reducible assumption | exact rfl | exact im_ _ | (fail_if_success show Kn _ _); omega) only [bs, rs39, ls39, Nat.reduceAdd, ↓reduceIte, lenD_lst u29, loadD_iagg a43 z43, loadD_iptr a3, loadD_pagg a43 z43, loadD_ptr a3, wks_nil_, hg, h15, h18]
     exact ⟨(rfl : Ex.normal = Ex.normal), by kernel_rfl⟩
    ·refine gI (fun h21 _ => ?_) (fun h21 _ => ?_)
     ·refine gI (fun h23 _ => ?_) (fun h23 _ => ?_)
      ·refine gW fun h25 => ?_
       have h24 : ∀ (H : List Ob) (id : Nat), apOb H id 0 y1.length 1 2 2 16 [.v (.int .i64 w0_0), .v (.int .i64 w0_1)] (some (.arr (encL en_Pair y1))) = some (.ref H.length 0 (y1 ++ [(Pair.mk w0_0 w0_1)]).length 2, H.set id .dead ++ [.arr (encL en_Pair (y1 ++ [(Pair.mk w0_0 w0_1)]))]) := fun H id => ap_enc (y := [(Pair.mk w0_0 w0_1)]) en_Pair_len (by first | rfl | omega) rfl (by first | (simp only [encL_cons, encL_nil, en_Pair_eq, List.cons_append, List.nil_append]; done) | (simp only [encL_cons, encL_nil, en_Pair_eq, List.cons_append, List.nil_append]; rfl) | rfl) (by assumption)
       refine gW fun h28 => ?_
       have h27 : ∀ (H : List Ob) (id : Nat), apOb H id 0 ((y1 ++ [(Pair.mk w0_0 w0_1)]).length) 1 2 2 16 [.v (.int .i64 v2.Old), .v (.int .i64 v2.New)] (some (.arr (encL en_Pair (y1 ++ [(Pair.mk w0_0 w0_1)])))) = some (.ref H.length 0 ((y1 ++ [(Pair.mk w0_0 w0_1)]) ++ [v2]).length 2, H.set id .dead ++ [.arr (encL en_Pair ((y1 ++ [(Pair.mk w0_0 w0_1)]) ++ [v2]))]) := fun H id => ap_enc (y := [v2]) en_Pair_len (by first | rfl | omega) rfl (by first | (simp only [encL_cons, encL_nil, en_Pair_eq, List.cons_append, List.nil_append]; done) | (simp only [encL_cons, encL_nil, en_Pair_eq, List.cons_append, List.nil_append]; rfl) | rfl) (by assumption)
       intro h; obtain rfl := Option.some.inj h
       simp (maxSteps := 10000000) (implicitDefEqProofs := false) (disch := first | with_reducible assumption | exact rfl | exact im_ _ | (fail_if_success show Kn _ _); omega) only [bs, rs39, ls39, Nat.reduceAdd, ↓reduceIte, lenD_lst u29, loadD_iagg a43 z43, loadD_iptr a3, loadD_pagg a43 z43, loadD_ptr a3, wks_nil_, hg, h24, h27]
       exact ⟨(rfl : Ex.normal = Ex.normal), by kernel_rfl⟩
      ·refine gW fun h31 => ?_
       have h30 : ∀ (H : List Ob) (id : Nat), apOb H id 0 y1.length 1 2 2 16 [.v (.int .i64 v2.Old), .v (.int .i64 v2.New)] (some (.arr (encL en_Pair y1))) = some (.ref H.length 0 (y1 ++ [v2]).length 2, H.set id .dead ++ [.arr (encL en_Pair (y1 ++ [v2]))]) := fun H id => ap_enc (y := [v2]) en_Pair_len (by first | rfl | omega) rfl (by first | (simp only [encL_cons, encL_nil, en_Pair_eq, List.cons_append, List.nil_append]; done) | (simp only [encL_cons, encL_nil, en_Pair_eq, List.cons_append, List.nil_append]; rfl) | rfl) (by assumption)
       intro h; obtain rfl := Option.some.inj h
       simp (maxSteps := 10000000) (implicitDefEqProofs := false) (disch := first | with_reducible assumption | exact rfl | exact im_ _ | (fail_if_success show Kn _ _); omega) only [bs, rs39, ls39, Nat.reduceAdd, ↓reduceIte, lenD_lst u29, loadD_iagg a43 z43, loadD_iptr a3, loadD_pagg a43 z43, loadD_ptr a3, wks_nil_, hg, h30]
       exact ⟨(rfl : Ex.normal = Ex.normal), by kernel_rfl⟩
     ·refine gW fun h34 => ?_
      have h33 : ∀ (H : List Ob) (id : Nat), apOb H id 0 y1.length 1 2 2 16 [.v (.int .i64 v2.Old), .v (.int .i64 v2.New)] (some (.arr (encL en_Pair y1))) = some (.ref H.length 0 (y1 ++ [v2]).length 2, H.set id .dead ++ [.arr (encL en_Pair (y1 ++ [v2]))]) := fun H id => ap_enc (y := [v2]) en_Pair_len (by first | rfl | omega) rfl (by first | (simp only [encL_cons, encL_nil, en_Pair_eq, List.cons_append, List.nil_append]; done) | (simp only [encL_cons, encL_nil, en_Pair_eq, List.cons_append, List.nil_append]; rfl) | rfl) (by assumption)
      intro h; obtain rfl := Option.some.inj h
      simp (maxSteps := 10000000) (implicitDefEqProofs := false) (disch := first | with_reducible assumption | exact rfl | exact im_ _ | (fail_if_success show Kn _ _); omega) only [bs, rs39, ls39, Nat.reduceAdd, ↓reduceIte, lenD_lst u29, loadD_iagg a43 z43, loadD_iptr a3, loadD_pagg a43 z43, loadD_ptr a3, wks_nil_, hg, h33]
      exact ⟨(rfl : Ex.normal = Ex.normal), by kernel_rfl⟩
 ·intro h; obtain rfl := Option.some.inj h
  simp (maxSteps := 10000000) (implicitDefEqProofs := false) (disch := first | with_reducible assumption | exact rfl | exact im_ _ | (fail_if_success show Kn _ _); omega) only [bs, rs39, ls39, Nat.reduceAdd, ↓reduceIte, lenD_lst u29, loadD_iagg a43 z43, loadD_iptr a3, loadD_pagg a43 z43, loadD_ptr a3, wks_nil_, hg]
  exact ⟨(rfl : Ex.exit 0 = Ex.exit 0), rfl, by kernel_rfl⟩
theorem f39_ok  (x0 : (List Pair)) (x1 : Pair) (r : (List Pair)) (h : R24_Insert x0 x1 = some r) : callW Tryz.prog A0 39 [.p (.lst false x0.length (encL en_Pair x0)), .p (.agg (pv_Pair x1))] [] = some (.p (.lst false r.length (encL en_Pair r)), []) := by
 refine call_ofI (fn := Tryz.f39) (c := bodyOf Tryz.f39) 69 rfl rfl (by kernel_rfl) (by kernel_rfl) (by kernel_rfl) ?_
 unfold R24_Insert at h; unfold bodyOf Tryz.f39; simp only [ens]
 revert h
 refine gB fun o h35 => ?_
 intro h
 simp (maxSteps := 10000000) (implicitDefEqProofs := false) (disch := first | with_reducible assumption | exact rfl | exact im_ _ | (fail_if_success show Kn _ _); omega) only [bs, rs39, ls39, Nat.reduceAdd, ↓reduceIte, lenD_lst u29, loadD_iagg a43 z43, loadD_iptr a3, loadD_pagg a43 z43, loadD_ptr a3, wks_nil_]
 refine Wp.ctx (fun x => seqW _ _ _ _ (blockW _ (x))) (L39_0_ok x0 x1.Old x1.New (false, (0 : Int), ([] : List Pair)) _ o (by kernel_rfl) h35) ?_
 intro e st hq
 cases o with
 | next _ => (first | cases h | (simp at h))
 | jmp n_ s_ =>
  obtain ⟨rfl, rfl, hq⟩ := hq
  obtain ⟨s6_36, s7_36, y1_36⟩ := s_
  unfold F39_0 at hq
  (try simp only [] at h hq)
  revert h
  refine gT (fun h37 _ => ?_) (fun h37 _ => ?_)
  ·intro h; obtain rfl := Option.some.inj h
   simp (maxSteps := 10000000) (implicitDefEqProofs := false) (disch := first | with_reducible assumption | exact rfl | exact im_ _ | (fail_if_success show Kn _ _); omega) only [bs, rs39, ls39, Nat.reduceAdd, ↓reduceIte, lenD_lst u29, loadD_iagg a43 z43, loadD_iptr a3, loadD_pagg a43 z43, loadD_ptr a3, wks_nil_, hq]
   refine ⟨by simp, ?_⟩; exact finish_is (l := [1]) rfl rfl rfl (purify1_enc en_Pair_len rfl (by first | rfl | omega | simp)) (by first | rfl | (simp only [wk, wks, wkL]; first | done | rfl))
  ·refine gW fun h39 => ?_
   have h38 : ∀ (H : List Ob) (id : Nat), apOb H id 0 y1_36.length 1 2 2 16 [.v (.int .i64 x1.Old), .v (.int .i64 x1.New)] (some (.arr (encL en_Pair y1_36))) = some (.ref H.length 0 (y1_36 ++ [x1]).length 2, H.set id .dead ++ [.arr (encL en_Pair (y1_36 ++ [x1]))]) := fun H id => ap_enc (y := [x1]) en_Pair_len (by first | rfl | omega) rfl (by first | (simp only [encL_cons, encL_nil, en_Pair_eq, List.cons_append, List.nil_append]; done) | (simp only [encL_cons, encL_nil, en_Pair_eq, List.cons_append, List.nil_append]; rfl) | rfl) (by assumption)
   intro h; obtain rfl := Option.some.inj h
   simp (maxSteps := 10000000) (implicitDefEqProofs := false) (disch := first | with_reducible assumption | exact rfl | exact im_ _ | (fail_if_success show Kn _ _); omega) only [bs, rs39, ls39, Nat.reduceAdd, ↓reduceIte, lenD_lst u29, loadD_iagg a43 z43, loadD_iptr a3, loadD_pagg a43 z43, loadD_ptr a3, wks_nil_, hq, h38]
   refine ⟨by simp, ?_⟩; exact finish_is (l := [2]) rfl rfl rfl (purify1_enc en_Pair_len rfl (by first | rfl | omega | simp)) (by first | rfl | (simp only [wk, wks, wkL]; first | done | rfl))
 | ret _ => (first | cases h | (simp at h))
def ls21 := And.intro @bs_29_0 (And.intro @bu_43_0_1 (And.intro @ce_43__0 (And.intro @ce_43__1 (And.intro @faI_43_0 (And.intro @faI_43_1 (@idxL_29))))))
theorem c39_0 {H : List Ob} {a1 : Bool} {a2 : List Pair} {a3 a4 : Int} {r : (List Pair)} (h : R24_Insert a2 (Pair.mk a3 a4) = some r) : callD (callW Tryz.prog A0) A0 H 39 [.p (.lst a1 a2.length (encL en_Pair a2)), .p (.agg [.v (.int .i64 a3), .v (.int .i64 a4)])] = some (.p (.lst false r.length (encL en_Pair r)), none) :=
 callD_fun (args := [.lst a1 a2.length (encL en_Pair a2), .agg [.v (.int .i64 a3), .v (.int .i64 a4)]]) rfl rfl rfl (by simp only [List.map_cons, List.map_nil, wk, wks, wkL]; exact f39_ok a2 (Pair.mk a3 a4) _ h)
noncomputable def L21_0 : Code := (loopsOf (bodyOf Tryz.f21)).getD 0 .skip
def g21_0 : List Ghost := [.weak [0, 3], .keep [0, 3, 4]]
noncomputable def F21_0 (s0 : (List Pair)) : ((List Pair) × Int) → St := fun (s3, s4) => ⟨[.p (.lst false s0.length (encL en_Pair s0)), J, J, .p (.lst false s3.length (encL en_Pair s3)), iv s4, J, J, J, J, J, J, J, J, J, J, J, J, J, J, J, J, J, J, J, J, J], [], 0⟩
theorem L21_0_ok (s0 : (List Pair)) : ∀ s st o, ghostsD g21_0 st = some (F21_0 s0 s) → iter (R24_Invert_L0 s0) s = some o →
    Wp (evW Tryz.prog A0 21 (.loop L21_0) st) (OutQ (F21_0 s0) g21_0 (fun n s st => n = 0 ∧ ghostsD [.keep [0, 3, 4]] st = some (F21_0 s0 s)) (fun r st => finishD Tryz.prog A0 21 Tryz.f21 st = some (.p (.lst false r.length (encL en_Pair r)), [])) o) := by
 refine Wp.iter ?_
 intro s st o hg h
 obtain ⟨s3, s4⟩ := s
 unfold R24_Invert_L0 at h; unfold g21_0 F21_0 at hg ⊢
 (try simp only [] at h hg)
 unfold L21_0 bodyOf Tryz.f21; simp only [loopsOf, ens]
 revert h
 repeat' first | (with_reducible refine gR fun _ _ _ _ => ?_) | (with_reducible refine gB fun _ _ => ?_) | (with_reducible refine gI (fun _ _ => ?_) (fun _ _ => ?_))
 all_goals
  intro h; obtain rfl := Option.some.inj h
  first | (simp (maxSteps := 10000000) (implicitDefEqProofs := false) (disch := first | with_reducible assumption | exact rfl | exact im_ _ | (fail_if_success show Kn _ _); omega) only [bs, rs21, ls21, Nat.reduceAdd, ↓reduceIte, c39_0, lenD_lst u29, loadD_iptr a3, hg]; first | (exact ⟨(rfl : Ex.normal = Ex.normal), by kernel_rfl⟩) | (exact ⟨(rfl : Ex.exit 0 = Ex.exit 0), rfl, by kernel_rfl⟩)) | (exfalso; omega)
theorem f21_ok  (x0 : (List Pair)) (r : (List Pair)) (h : R24_Invert x0 = some r) : callW Tryz.prog A0 21 [.p (.lst false x0.length (encL en_Pair x0))] [] = some (.p (.lst false r.length (encL en_Pair r)), []) := by
 refine call_ofI (fn := Tryz.f21) (c := bodyOf Tryz.f21) 25 rfl rfl (by kernel_rfl) (by kernel_rfl) (by kernel_rfl) ?_
 unfold R24_Invert at h; unfold bodyOf Tryz.f21; simp only [ens]
 revert h
 refine gB fun o h9 => ?_
 intro h
 simp (maxSteps := 10000000) (implicitDefEqProofs := false) (disch := first | with_reducible assumption | exact rfl | exact im_ _ | (fail_if_success show Kn _ _); omega) only [bs, rs21, ls21, Nat.reduceAdd, ↓reduceIte, c39_0, lenD_lst u29, loadD_iptr a3]
 refine Wp.ctx (fun x => seqW _ _ _ _ (blockW _ (x))) (L21_0_ok x0 (([] : List Pair), (0 : Int)) _ o (by kernel_rfl) h9) ?_
 intro e st hq
 cases o with
 | next _ => (first | cases h | (simp at h))
 | jmp n_ s_ =>
  obtain ⟨rfl, rfl, hq⟩ := hq
  obtain ⟨s3_10, s4_10⟩ := s_
  unfold F21_0 at hq
  (try simp only [] at h hq)
  revert h
  intro h; obtain rfl := Option.some.inj h
  simp (maxSteps := 10000000) (implicitDefEqProofs := false) (disch := first | with_reducible assumption | exact rfl | exact im_ _ | (fail_if_success show Kn _ _); omega) only [bs, rs21, ls21, Nat.reduceAdd, ↓reduceIte, c39_0, lenD_lst u29, loadD_iptr a3, hq]
  refine ⟨by simp, ?_⟩; exact finish_is (l := []) rfl rfl rfl rfl (by first | rfl | (simp only [wk, wks, wkL]; first | done | rfl))
 | ret _ => (first | cases h | (simp at h))
def ls11 := And.intro @idxL_29 (And.intro @lk_frz_43 (@neq_43))
theorem c21_0 {H : List Ob} {a1 : Bool} {a2 : List Pair} {r : (List Pair)} (h : R24_Invert a2 = some r) : callD (callW Tryz.prog A0) A0 H 21 [.p (.lst a1 a2.length (encL en_Pair a2))] = some (.p (.lst false r.length (encL en_Pair r)), none) :=
 callD_fun (args := [.lst a1 a2.length (encL en_Pair a2)]) rfl rfl rfl (by simp only [List.map_cons, List.map_nil, wk, wks, wkL]; exact f21_ok a2 _ h)
noncomputable def L11_0 : Code := (loopsOf (bodyOf Tryz.f11)).getD 0 .skip
def g11_0 : List Ghost := [.weak [0, 1], .keep [0, 1, 5]]
noncomputable def F11_0 (s0 : (List Pair)) (s1 : (List Pair)) : Int → St := fun s5 => ⟨[.p (.lst false s0.length (encL en_Pair s0)), .p (.lst false s1.length (encL en_Pair s1)), J, J, J, iv s5, J, J, J, J, J, J, J, J, J, J, J, J, J, J, J, J, J, J, J, J], [], 0⟩
theorem L11_0_ok (s0 : (List Pair)) (s1 : (List Pair)) : ∀ s st o, ghostsD g11_0 st = some (F11_0 s0 s1 s) → iter (R24_Same_L0 s0 s1) s = some o →
    Wp (evW Tryz.prog A0 11 (.loop L11_0) st) (OutQ (F11_0 s0 s1) g11_0 (fun n s st => n = 0 ∧ ghostsD [.keep [0, 1, 5]] st = some (F11_0 s0 s1 s)) (fun r st => finishD Tryz.prog A0 11 Tryz.f11 st = some (.p (.v (.bool r)), [])) o) := by
 refine Wp.iter ?_
 intro s st o hg h
 generalize s = s5 at hg h
 unfold R24_Same_L0 at h; unfold g11_0 F11_0 at hg ⊢
 (try simp only [] at h hg)
 unfold L11_0 bodyOf Tryz.f11; simp only [loopsOf, ens]
 revert h
 repeat' first | (with_reducible refine gR fun _ _ _ _ => ?_) | (with_reducible refine gI (fun _ _ => ?_) (fun _ _ => ?_))
 all_goals
  intro h; obtain rfl := Option.some.inj h
  first | (simp (maxSteps := 10000000) (implicitDefEqProofs := false) (disch := first | with_reducible assumption | exact rfl | exact im_ _ | (fail_if_success show Kn _ _); omega) only [bs, rs11, ls11, Nat.reduceAdd, ↓reduceIte, lenD_lst u29, loadD_iagg a43 z43, hg]; first | (exact ⟨(rfl : Ex.normal = Ex.normal), by kernel_rfl⟩) | (refine ⟨(rfl : Ex.ret = Ex.ret), ?_⟩; exact fin_sc rfl rfl rfl rfl) | (exact ⟨(rfl : Ex.exit 0 = Ex.exit 0), rfl, by kernel_rfl⟩)) | (exfalso; omega)
theorem f11_ok  (x0 : (List Pair)) (x1 : (List Pair)) (r : Bool) (h : R24_Same x0 x1 = some r) : callW Tryz.prog A0 11 [.p (.lst false x0.length (encL en_Pair x0)), .p (.lst false x1.length (encL en_Pair x1))] [] = some (.p (.v (.bool r)), []) := by
 refine call_ofI (fn := Tryz.f11) (c := bodyOf Tryz.f11) 24 rfl rfl (by kernel_rfl) (by kernel_rfl) (by kernel_rfl) ?_
 unfold R24_Same at h; unfold bodyOf Tryz.f11; simp only [ens]
 revert h
 refine gI (fun h1 _ => ?_) (fun h1 _ => ?_)
 ·refine gB fun o h10 => ?_
  intro h
  simp (maxSteps := 10000000) (implicitDefEqProofs := false) (disch := first | with_reducible assumption | exact rfl | exact im_ _ | (fail_if_success show Kn _ _); omega) only [bs, rs11, ls11, Nat.reduceAdd, ↓reduceIte, lenD_lst u29, loadD_iagg a43 z43]
  refine Wp.ctx (fun x => seqW _ _ _ _ (blockW _ (x))) (L11_0_ok x0 x1 (0 : Int) _ o (by kernel_rfl) h10) ?_
  intro e st hq
  cases o with
  | next _ => (first | cases h | (simp at h))
  | jmp n_ s_ =>
   obtain ⟨rfl, rfl, hq⟩ := hq
   generalize s_ = s5_11 at h hq
   unfold F11_0 at hq
   (try simp only [] at h hq)
   revert h
   intro h; obtain rfl := Option.some.inj h
   simp (maxSteps := 10000000) (implicitDefEqProofs := false) (disch := first | with_reducible assumption | exact rfl | exact im_ _ | (fail_if_success show Kn _ _); omega) only [bs, rs11, ls11, Nat.reduceAdd, ↓reduceIte, lenD_lst u29, loadD_iagg a43 z43, hq]
   refine ⟨by simp, ?_⟩; exact fin_sc rfl rfl rfl rfl
  | ret r12 =>
   obtain ⟨rfl, hq⟩ := hq
   obtain rfl := Option.some.inj h
   simp (maxSteps := 10000000) (implicitDefEqProofs := false) (disch := first | with_reducible assumption | exact rfl | exact im_ _ | (fail_if_success show Kn _ _); omega) only [bs, rs11, ls11, Nat.reduceAdd, ↓reduceIte, lenD_lst u29, loadD_iagg a43 z43]
   exact ⟨by simp, hq⟩
 ·intro h; obtain rfl := Option.some.inj h
  simp (maxSteps := 10000000) (implicitDefEqProofs := false) (disch := first | with_reducible assumption | exact rfl | exact im_ _ | (fail_if_success show Kn _ _); omega) only [bs, rs11, ls11, Nat.reduceAdd, ↓reduceIte, lenD_lst u29, loadD_iagg a43 z43]
  refine ⟨by simp, ?_⟩; exact fin_sc rfl rfl rfl rfl
theorem list58 {l : List Dv} (h : l.length = 58) : l = [l.getD 0 .junk, l.getD 1 .junk, l.getD 2 .junk, l.getD 3 .junk, l.getD 4 .junk, l.getD 5 .junk, l.getD 6 .junk, l.getD 7 .junk, l.getD 8 .junk, l.getD 9 .junk, l.getD 10 .junk, l.getD 11 .junk, l.getD 12 .junk, l.getD 13 .junk, l.getD 14 .junk, l.getD 15 .junk, l.getD 16 .junk, l.getD 17 .junk, l.getD 18 .junk, l.getD 19 .junk, l.getD 20 .junk, l.getD 21 .junk, l.getD 22 .junk, l.getD 23 .junk, l.getD 24 .junk, l.getD 25 .junk, l.getD 26 .junk, l.getD 27 .junk, l.getD 28 .junk, l.getD 29 .junk, l.getD 30 .junk, l.getD 31 .junk, l.getD 32 .junk, l.getD 33 .junk, l.getD 34 .junk, l.getD 35 .junk, l.getD 36 .junk, l.getD 37 .junk, l.getD 38 .junk, l.getD 39 .junk, l.getD 40 .junk, l.getD 41 .junk, l.getD 42 .junk, l.getD 43 .junk, l.getD 44 .junk, l.getD 45 .junk, l.getD 46 .junk, l.getD 47 .junk, l.getD 48 .junk, l.getD 49 .junk, l.getD 50 .junk, l.getD 51 .junk, l.getD 52 .junk, l.getD 53 .junk, l.getD 54 .junk, l.getD 55 .junk, l.getD 56 .junk, l.getD 57 .junk] := by
 refine List.ext_getElem (by rw [h]; rfl) (fun k h1 h2 => ?_)
 have e : l[k] = l.getD k .junk := by simp [List.getD_eq_getElem?_getD, h1]
 rw [e]
 have hk : k < 58 := by omega
 match k, hk with
 | 0, _ => rfl
 | 1, _ => rfl
 | 2, _ => rfl
 | 3, _ => rfl
 | 4, _ => rfl
 | 5, _ => rfl
 | 6, _ => rfl
 | 7, _ => rfl
 | 8, _ => rfl
 | 9, _ => rfl
 | 10, _ => rfl
 | 11, _ => rfl
 | 12, _ => rfl
 | 13, _ => rfl
 | 14, _ => rfl
 | 15, _ => rfl
 | 16, _ => rfl
 | 17, _ => rfl
 | 18, _ => rfl
 | 19, _ => rfl
 | 20, _ => rfl
 | 21, _ => rfl
 | 22, _ => rfl
 | 23, _ => rfl
 | 24, _ => rfl
 | 25, _ => rfl
 | 26, _ => rfl
 | 27, _ => rfl
 | 28, _ => rfl
 | 29, _ => rfl
 | 30, _ => rfl
 | 31, _ => rfl
 | 32, _ => rfl
 | 33, _ => rfl
 | 34, _ => rfl
 | 35, _ => rfl
 | 36, _ => rfl
 | 37, _ => rfl
 | 38, _ => rfl
 | 39, _ => rfl
 | 40, _ => rfl
 | 41, _ => rfl
 | 42, _ => rfl
 | 43, _ => rfl
 | 44, _ => rfl
 | 45, _ => rfl
 | 46, _ => rfl
 | 47, _ => rfl
 | 48, _ => rfl
 | 49, _ => rfl
 | 50, _ => rfl
 | 51, _ => rfl
 | 52, _ => rfl
 | 53, _ => rfl
 | 54, _ => rfl
 | 55, _ => rfl
 | 56, _ => rfl
 | 57, _ => rfl
 | n + 58, h => omega
def F22_0 (m n : List Pair) (i : Int) (g : Nat → Dv) : List Dv := [.p (.lst false m.length (encL en_Pair m)), .p (.lst false n.length (encL en_Pair n)), g 2, g 3, g 4, .mp 0, g 6, g 7, g 8, g 9, g 10, g 11, g 12, g 13, .p (.lst false n.length (encL en_Pair n)), iv (n.length : Int), iv i, g 17, g 18, g 19, g 20, g 21, g 22, g 23, g 24, g 25, g 26, g 27, g 28, g 29, g 30, g 31, g 32, g 33, g 34, g 35, g 36, g 37, g 38, g 39, g 40, g 41, g 42, g 43, g 44, g 45, g 46, g 47, g 48, g 49, g 50, g 51, g 52, g 53, g 54, g 55, g 56, g 57]
structure Fr22_0 (m n : List Pair) (i : Int) (tm : List Dv) : Prop where
 len : tm.length = 58
 a0 : tm.getD 0 .junk = .p (.lst false m.length (encL en_Pair m))
 a1 : tm.getD 1 .junk = .p (.lst false n.length (encL en_Pair n))
 a5 : tm.getD 5 .junk = .mp 0
 a14 : tm.getD 14 .junk = .p (.lst false n.length (encL en_Pair n))
 a15 : tm.getD 15 .junk = iv (n.length : Int)
 a16 : tm.getD 16 .junk = iv i
theorem Fr22_0.eq {m n : List Pair} {i : Int} {tm : List Dv} (h : Fr22_0 m n i tm) : tm = F22_0 m n i (fun j => tm.getD j .junk) := by
 refine (list58 h.len).trans ?_
 unfold F22_0
 rw [h.a0, h.a1, h.a5, h.a14, h.a15, h.a16]
def F22_1 (m : List Pair) (z o : Nat) (i : Int) (g : Nat → Dv) : List Dv := [.p (.lst false m.length (encL en_Pair m)), g 1, g 2, g 3, g 4, .mp 0, g 6, g 7, .ref z 0 o 2, g 9, g 10, g 11, g 12, g 13, g 14, g 15, g 16, g 17, g 18, g 19, g 20, g 21, g 22, g 23, g 24, g 25, g 26, g 27, g 28, g 29, g 30, g 31, .p (.lst false m.length (encL en_Pair m)), iv (m.length : Int), iv i, g 35, g 36, g 37, g 38, g 39, g 40, g 41, g 42, g 43, g 44, g 45, g 46, g 47, g 48, g 49, g 50, g 51, g 52, g 53, g 54, g 55, g 56, g 57]
structure Fr22_1 (m : List Pair) (z o : Nat) (i : Int) (tm : List Dv) : Prop where
 len : tm.length = 58
 a0 : tm.getD 0 .junk = .p (.lst false m.length (encL en_Pair m))
 a5 : tm.getD 5 .junk = .mp 0
 a8 : tm.getD 8 .junk = .ref z 0 o 2
 a32 : tm.getD 32 .junk = .p (.lst false m.length (encL en_Pair m))
 a33 : tm.getD 33 .junk = iv (m.length : Int)
 a34 : tm.getD 34 .junk = iv i
theorem Fr22_1.eq {m : List Pair} {z o : Nat} {i : Int} {tm : List Dv} (h : Fr22_1 m z o i tm) : tm = F22_1 m z o i (fun j => tm.getD j .junk) := by
 refine (list58 h.len).trans ?_
 unfold F22_1
 rw [h.a0, h.a5, h.a8, h.a32, h.a33, h.a34]
def F22_2 (m : List Pair) (z o y : Nat) (d : Dv) (k : Nat) (i j : Int) (g : Nat → Dv) : List Dv := [.p (.lst false m.length (encL en_Pair m)), g 1, g 2, g 3, g 4, .mp 0, g 6, g 7, .ref z 0 o 2, g 9, .ptr y 0, g 11, g 12, g 13, g 14, g 15, g 16, g 17, g 18, g 19, g 20, g 21, g 22, g 23, g 24, g 25, g 26, g 27, g 28, g 29, g 30, g 31, .p (.lst false m.length (encL en_Pair m)), iv (m.length : Int), iv i, g 35, g 36, g 37, g 38, g 39, g 40, d, iv (k : Int), iv j, g 44, g 45, g 46, g 47, g 48, g 49, g 50, g 51, g 52, g 53, g 54, g 55, g 56, g 57]
structure Fr22_2 (m : List Pair) (z o y : Nat) (d : Dv) (k : Nat) (i j : Int) (tm : List Dv) : Prop where
 len : tm.length = 58
 a0 : tm.getD 0 .junk = .p (.lst false m.length (encL en_Pair m))
 a5 : tm.getD 5 .junk = .mp 0
 a8 : tm.getD 8 .junk = .ref z 0 o 2
 a10 : tm.getD 10 .junk = .ptr y 0
 a32 : tm.getD 32 .junk = .p (.lst false m.length (encL en_Pair m))
 a33 : tm.getD 33 .junk = iv (m.length : Int)
 a34 : tm.getD 34 .junk = iv i
 a41 : tm.getD 41 .junk = d
 a42 : tm.getD 42 .junk = iv (k : Int)
 a43 : tm.getD 43 .junk = iv j
theorem Fr22_2.eq {m : List Pair} {z o y : Nat} {d : Dv} {k : Nat} {i j : Int} {tm : List Dv} (h : Fr22_2 m z o y d k i j tm) : tm = F22_2 m z o y d k i j (fun j => tm.getD j .junk) := by
 refine (list58 h.len).trans ?_
 unfold F22_2
 rw [h.a0, h.a5, h.a8, h.a10, h.a32, h.a33, h.a34, h.a41, h.a42, h.a43]
theorem r22_0 {o d s} : RG 22 0 [] o d s := w_region
theorem r22_1 {o d s} : RG 22 1 [] o d s := w_region
theorem r22_2 {o d s} : RG 22 2 [] o d s := w_region
theorem r22_3 {o d s} : RG 22 3 [] o d s := w_region
theorem r22_4 {o d s} : RG 22 4 [] o d s := w_region
theorem r22_6 {o d s} : RG 22 6 [] o d s := w_region
theorem r22_7 {o d s} : RG 22 7 [] o d s := w_region
theorem r22_8 {o d s} : RG 22 8 [.own 8 2] o d s := w_region
theorem r22_9 {o d s} : RG 22 9 [] o d s := w_region
theorem r22_10 {o d s} : RG 22 10 [] o d s := w_region
theorem r22_11 {o d s} : RG 22 11 [] o d s := w_region
theorem r22_12 {o d s} : RG 22 12 [] o d s := w_region
theorem r22_13 {o d s} : RG 22 13 [] o d s := w_region
theorem r22_14 {o d s} : RG 22 14 [] o d s := w_region
theorem r22_15 {o d s} : RG 22 15 [] o d s := w_region
theorem r22_16 {o d s} : RG 22 16 [] o d s := w_region
theorem r22_17 {o d s} : RG 22 17 [] o d s := w_region
theorem r22_5 {o s} : RZq 22 5 [] [(2, 10)] o s := w_regionZq rfl rfl
set_option linter.defProp false in
def rs22 := And.intro @r22_17 (And.intro @r22_16 (And.intro @r22_15 (And.intro @r22_14 (And.intro @r22_13 (And.intro @r22_12 (And.intro @r22_11 (And.intro @r22_10 (And.intro @r22_9 (And.intro @r22_8 (And.intro @r22_7 (And.intro @r22_6 (And.intro @r22_5 (And.intro @r22_4 (And.intro @r22_3 (And.intro @r22_2 (And.intro @r22_1 (@r22_0)))))))))))))))))
noncomputable def L22_0 : Code := (loopsOf (bodyOf Tryz.f22)).getD 0 .skip
noncomputable def L22_1 : Code := (loopsOf (bodyOf Tryz.f22)).getD 1 .skip
noncomputable def innerOf : Code → Code
 | .seq a b => (match innerOf a with | .skip => innerOf b | c => c)
 | .cond _ a b => (match innerOf a with | .skip => innerOf b | c => c)
 | .block _ b => innerOf b
 | .loop b => .loop b
 | _ => .skip
noncomputable def L22_2 : Code := match innerOf L22_1 with | .loop b => b | _ => .skip
theorem bs_50_1h {x : Int} {H : List Ob} : bsD Tryz.prog H 50 1 [(0, iv x)] = some (.p (.lst true 1 [.v (.int .i64 x)]), none) := by kernel_rfl
theorem it22_0 {m n : List Pair} {tm : List Dv} {i : Nat} (hf : Fr22_0 m n (i : Int) tm) {p : Pair} (hp : rd n (i : Int) = some p) (hi : (i : Int) < 2 ^ 62) {H H2 H3 : List Ob} {d e : Dv}
  (hlk : lookupD Tryz.prog (H ++ [.var [iv p.Old, iv p.New]]) 69 (.mp 0) (iv p.Old) false = some d)
  (hap : appendD Tryz.prog (H ++ [.var [iv p.Old, iv p.New]]) #[50, 50] d (.p (.lst true 1 [.v (.int .i64 p.New)])) = some (e, H2))
  (hup : mapUpdateD Tryz.prog H2 69 (.mp 0) (iv p.Old) e = some H3) (hd : (refId d).contains H.length = false) :
  ∃ tm', Fr22_0 m n ((i + 1 : Nat) : Int) tm' ∧ evW Tryz.prog A0 22 (.loop L22_0) ⟨tm, H, 0⟩ = evW Tryz.prog A0 22 (.loop L22_0) ⟨tm', H3, 0⟩ := by
 obtain ⟨h0, h1, _⟩ := rd_some hp
 have hlt : (i : Int) < (n.length : Int) := h1
 have e1 : w64 ((i : Int) + 1) = ((i + 1 : Nat) : Int) := w64_succ (by omega)
 rw [hf.eq]
 generalize (fun j => tm.getD j .junk) = g
 rw [w_loop]
 unfold L22_0 bodyOf Tryz.f22 F22_0
 simp only [loopsOf, ens]
 simp (maxSteps := 10000000) (implicitDefEqProofs := false) (disch := first | with_reducible assumption | exact rfl | exact im_ _ | (fail_if_success show Kn _ _); omega) only [bs, rs22, Nat.reduceAdd, ↓reduceIte, al_43, sa_2_0_2, idxL_29, lk_frz_43, loadD_iagg a43 z43, storeD_agg z43, faP_43_0, faP_43_1, loadD_ptr a3, varld_2_0_0, varld_2_0_1, getC, setC, ops_lookup, ops_mapUpdate, hlk, bs_50_1h, hap, hup, e1, hlt]
 rw [doneZ_some]
 ·simp (maxSteps := 10000000) (implicitDefEqProofs := false) (disch := first | with_reducible assumption | exact rfl | exact im_ _ | (fail_if_success show Kn _ _); omega) only [bs, rs22, loopW_normal, e1]
  refine ⟨_, ?_, rfl⟩
  exact ⟨rfl, rfl, rfl, rfl, rfl, rfl, rfl⟩
 ·exact Eq.trans (b := ((!(refId d).contains H.length) && true && true)) (by kernel_rfl) (by rw [hd]; rfl)
theorem out22_0 {m n : List Pair} {tm : List Dv} {H : List Ob} (hf : Fr22_0 m n (n.length : Int) tm) :
  ∃ tm', Fr22_0 m n (n.length : Int) tm' ∧ evW Tryz.prog A0 22 (.loop L22_0) ⟨tm, H, 0⟩ = some (.exit 0, ⟨tm', H, 0⟩) := by
 have hlt : ¬ (n.length : Int) < (n.length : Int) := by omega
 rw [hf.eq]
 generalize (fun j => tm.getD j .junk) = g
 rw [w_loop]
 unfold L22_0 bodyOf Tryz.f22 F22_0
 simp only [loopsOf, ens]
 simp (maxSteps := 10000000) (implicitDefEqProofs := false) (disch := first | with_reducible assumption | exact rfl | exact im_ _ | (fail_if_success show Kn _ _); omega) only [bs, rs22, Nat.reduceAdd, ↓reduceIte, hlt, loopW_exit]
 refine ⟨_, ?_, rfl⟩
 exact ⟨rfl, rfl, rfl, rfl, rfl, rfl, rfl⟩
theorem it22_2 {m : List Pair} {z o y k : Nat} {d : Dv} {i : Int} {j : Nat} {tm : List Dv} (hf : Fr22_2 m z o y d k i (j : Int) tm) (hj : j < k) (hk : k < 2 ^ 62) {H H2 : List Ob} {v a b : Int} {t z' o' : Nat}
  (hy : H[y]? = some (.var [iv a, iv b])) (hix : idxD Tryz.prog 50 d (iv (j : Int)) = some (.ptr t (ato (j : Int) 1))) (hld : ldOb H[t]? (ato (j : Int) 1) = some (iv v))
  (hap : appendD Tryz.prog H #[29, 29] (.ref z 0 o 2) (.p (.lst true 1 [.v (.int .i64 a), .v (.int .i64 v)])) = some (.ref z' 0 o' 2, H2)) :
  ∃ tm', Fr22_2 m z' o' y d k i ((j + 1 : Nat) : Int) tm' ∧ evW Tryz.prog A0 22 (.loop L22_2) ⟨tm, H, 0⟩ = evW Tryz.prog A0 22 (.loop L22_2) ⟨tm', H2, 0⟩ := by
 have hlt : (j : Int) < (k : Int) := by omega
 have e1 : w64 ((j : Int) + 1) = ((j + 1 : Nat) : Int) := w64_succ (by omega)
 rw [hf.eq]
 generalize (fun j => tm.getD j .junk) = g
 rw [w_loop]
 unfold L22_2 L22_1 bodyOf Tryz.f22 F22_2
 simp only [loopsOf, innerOf, ens]
 simp (maxSteps := 10000000) (implicitDefEqProofs := false) (disch := first | with_reducible assumption | exact rfl | exact im_ _ | (fail_if_success show Kn _ _); omega) only [bs, rs22, Nat.reduceAdd, ↓reduceIte, faP_43_0, loadD_ptr a3, varld_2_0_0, hy, hix, hld, bu_43_0_1, bs_29_1, hap, e1, hlt, loopW_normal]
 refine ⟨_, ?_, rfl⟩
 exact ⟨rfl, rfl, rfl, rfl, rfl, rfl, rfl, rfl, rfl, rfl, rfl⟩
theorem out22_2 {m : List Pair} {z o y k : Nat} {d : Dv} {i : Int} {tm : List Dv} {H : List Ob} (hf : Fr22_2 m z o y d k i (k : Int) tm) :
  ∃ tm', Fr22_2 m z o y d k i (k : Int) tm' ∧ evW Tryz.prog A0 22 (.loop L22_2) ⟨tm, H, 0⟩ = some (.exit 4, ⟨tm', H, 0⟩) := by
 have hlt : ¬ (k : Int) < (k : Int) := by omega
 rw [hf.eq]
 generalize (fun j => tm.getD j .junk) = g
 rw [w_loop]
 unfold L22_2 L22_1 bodyOf Tryz.f22 F22_2
 simp only [loopsOf, innerOf, ens]
 simp (maxSteps := 10000000) (implicitDefEqProofs := false) (disch := first | with_reducible assumption | exact rfl | exact im_ _ | (fail_if_success show Kn _ _); omega) only [bs, rs22, Nat.reduceAdd, ↓reduceIte, hlt, loopW_exit]
 refine ⟨_, ?_, rfl⟩
 exact ⟨rfl, rfl, rfl, rfl, rfl, rfl, rfl, rfl, rfl, rfl, rfl⟩
abbrev Fam := List (Int × Nat × List Int)
def mpOf (T : Fam) : List (Value × Dv) := T.map fun e => (.int .i64 e.1, .ref e.2.1 0 e.2.2.length 1)
structure FamI (T : Fam) (H : List Ob) : Prop where
 mp : H[0]? = some (.mp (mpOf T))
 row : ∀ e ∈ T, H[e.2.1]? = some (.arr (encL en_i64 e.2.2))
 nd : (T.map (·.2.1)).Nodup
def atK (T : Fam) (k : Int) : Option Nat := (T.map (·.1)).findIdx? fun x => decide (k = x)
def lookR (T : Fam) (k : Int) : List Int := match atK T k with | some i => ((T[i]?).map (·.2.2)).getD [] | none => []
theorem mpOf_keys (T : Fam) : (mpOf T).map (·.1) = (T.map (·.1)).map fun x => Value.int .i64 x := by simp [mpOf]
theorem atK_some {T : Fam} {k : Int} {i : Nat} (h : atK T k = some i) : ∃ e, T[i]? = some e ∧ e.1 = k := by
 unfold atK at h
 rw [List.findIdx?_eq_some_iff_getElem] at h
 obtain ⟨h1, h2, _⟩ := h
 have hi : i < T.length := by simpa using h1
 refine ⟨T[i], List.getElem?_eq_getElem hi, ?_⟩
 have : k = T[i].1 := by simpa using h2
 exact this.symm
theorem FamI.ents {T : Fam} {H : List Ob} (h : FamI T H) : entsD H (.mp 0) = some (mpOf T) := by simp [entsD, h.mp]
theorem keyD_int (k : Int) : ∀ b, keyD Tryz.prog b 3 (.int .i64 k) = some () := by intro b; cases b <;> kernel_rfl
theorem zero50 : zeroP Tryz.prog 50 = some (.lst true 0 []) := by kernel_rfl
theorem FamI.lookup_some {T : Fam} {H : List Ob} (h : FamI T H) {k : Int} {i : Nat} {e : Int × Nat × List Int} (ha : atK T k = some i) (he : T[i]? = some e) : lookupD Tryz.prog H 69 (.mp 0) (iv k) false = some (.ref e.2.1 0 e.2.2.length 1) := by
 have e2 : (mpOf T)[i]? = some (.int .i64 e.1, .ref e.2.1 0 e.2.2.length 1) := by simp [mpOf, he]
 unfold atK at ha
 simp only [lookupD, Tryz.underlying69, h.ents, concD, conc, Option.bind_some, keyD_int, mpOf_keys, findD_int Tryz.underlying3, ha, e2, Option.map_some, Bool.false_eq_true, if_false]
theorem FamI.lookup_none {T : Fam} {H : List Ob} (h : FamI T H) {k : Int} (ha : atK T k = none) : lookupD Tryz.prog H 69 (.mp 0) (iv k) false = some (.p (.lst true 0 [])) := by
 unfold atK at ha
 simp only [lookupD, Tryz.underlying69, h.ents, concD, conc, Option.bind_some, keyD_int, mpOf_keys, findD_int Tryz.underlying3, ha, zero50, Option.map_some, Bool.false_eq_true, if_false]
theorem update_some {T : Fam} {H : List Ob} (h : H[0]? = some (.mp (mpOf T))) {k : Int} {i : Nat} (ha : atK T k = some i) (x : Dv) : mapUpdateD Tryz.prog H 69 (.mp 0) (iv k) x = some (H.set 0 (.mp ((mpOf T).set i (.int .i64 k, x)))) := by
 obtain ⟨e, he, hk⟩ := atK_some ha
 have e2 : (mpOf T)[i]? = some (.int .i64 e.1, .ref e.2.1 0 e.2.2.length 1) := by simp [mpOf, he]
 have e3 : Instr.sameBits 10000 (.int .i64 e.1) (.int .i64 k) = true := by rw [hk]; simp [Instr.sameBits]
 unfold atK at ha
 simp only [mapUpdateD, Tryz.underlying69, h, concD, conc, Option.bind_some, keyD_int, mpOf_keys, findD_int Tryz.underlying3, ha, e2, e3, if_true]
theorem update_none {T : Fam} {H : List Ob} (h : H[0]? = some (.mp (mpOf T))) {k : Int} (ha : atK T k = none) (x : Dv) : mapUpdateD Tryz.prog H 69 (.mp 0) (iv k) x = some (H.set 0 (.mp (mpOf T ++ [(.int .i64 k, x)]))) := by
 unfold atK at ha
 simp only [mapUpdateD, Tryz.underlying69, h, concD, conc, Option.bind_some, keyD_int, mpOf_keys, findD_int Tryz.underlying3, ha]
theorem get_snoc {H : List Ob} {i : Nat} {o x : Ob} (h : H[i]? = some o) : (H ++ [x])[i]? = some o := by
 have := (List.getElem?_eq_some_iff.1 h).1
 rw [List.getElem?_append_left this]; exact h
theorem FamI.snoc {T : Fam} {H : List Ob} (h : FamI T H) (x : Ob) : FamI T (H ++ [x]) := ⟨get_snoc h.mp, fun e he => get_snoc (h.row e he), h.nd⟩
theorem FamI.lt {T : Fam} {H : List Ob} (h : FamI T H) {e : Int × Nat × List Int} (he : e ∈ T) : e.2.1 < H.length := (List.getElem?_eq_some_iff.1 (h.row e he)).1
theorem FamI.ne0 {T : Fam} {H : List Ob} (h : FamI T H) {e : Int × Nat × List Int} (he : e ∈ T) : e.2.1 ≠ 0 := by
 intro e0
 have := h.row e he
 rw [e0, h.mp] at this; cases this
theorem FamI.kill {T : Fam} {H : List Ob} (h : FamI T H) {z : Nat} (hz : z ≠ 0) (hn : ∀ e ∈ T, e.2.1 ≠ z) (o : Ob) : FamI T (H.set z o) :=
 ⟨by rw [List.getElem?_set_ne hz]; exact h.mp, fun e he => by rw [List.getElem?_set_ne (fun e' => hn e he e'.symm)]; exact h.row e he, h.nd⟩
theorem set_map_same {T : Fam} {i : Nat} {e x : Int × Nat × List Int} (he : T[i]? = some e) (hx : x.1 = e.1) : (T.set i x).map (·.1) = T.map (·.1) := by
 rw [List.map_set, hx]
 apply List.ext_getElem?
 intro j
 by_cases hj : i = j
 ·subst hj
  have hi := (List.getElem?_eq_some_iff.1 he).1
  rw [List.getElem?_set_self (by simpa using hi)]
  simp [he]
 ·rw [List.getElem?_set_ne hj]
theorem ap_50h {H : List Ob} {id n : Nat} {x : Int} {row : List Int} (hid : H[id]? = some (.arr (encL en_i64 row))) (hn : n = row.length) (hb : row.length ≤ 2 ^ 30) :
  appendD Tryz.prog H #[50, 50] (.ref id 0 n 1) (.p (.lst true 1 [.v (.int .i64 x)])) = some (.ref H.length 0 (row ++ [x]).length 1, H.set id .dead ++ [.arr (encL en_i64 (row ++ [x]))]) := by
 rw [appendD_ap u50 u50 z3 b3 zc3 ⟨by decide, by decide, rfl⟩, hid]
 exact ap_enc (y := [x]) en_i64_len hn rfl rfl (by omega)
theorem apn_50h {H : List Ob} {x : Int} : appendD Tryz.prog H #[50, 50] (.p (.lst true 0 [])) (.p (.lst true 1 [.v (.int .i64 x)])) = some (.ref H.length 0 1 1, H ++ [.arr (encL en_i64 [x])]) := by
 rw [appendD_apn u50 u50 z3 b3 zc3 ⟨by decide, by decide, rfl⟩]
 rfl
theorem step22 {T : Fam} {H : List Ob} (h : FamI T H) (p : Pair) (hb : ∀ k, (lookR T k).length ≤ 2 ^ 30) : ∃ d e H2 H3 T', lookupD Tryz.prog (H ++ [.var [iv p.Old, iv p.New]]) 69 (.mp 0) (iv p.Old) false = some d ∧
  appendD Tryz.prog (H ++ [.var [iv p.Old, iv p.New]]) #[50, 50] d (.p (.lst true 1 [.v (.int .i64 p.New)])) = some (e, H2) ∧ mapUpdateD Tryz.prog H2 69 (.mp 0) (iv p.Old) e = some H3 ∧ (refId d).contains H.length = false ∧
  FamI T' H3 ∧ ∀ k, lookR T' k = lookR T k ++ if p.Old = k then [p.New] else [] := by
 have h1 := h.snoc (.var [iv p.Old, iv p.New])
 generalize hH1 : H ++ [.var [iv p.Old, iv p.New]] = H1 at h1 ⊢
 have hl1 : H1.length = H.length + 1 := by rw [← hH1]; simp
 cases ha : atK T p.Old with
 | some i =>
  obtain ⟨e, he, hk⟩ := atK_some ha
  have hm : e ∈ T := List.mem_of_getElem? he
  have hlt := h.lt hm
  have hi := (List.getElem?_eq_some_iff.1 he).1
  have hrow : lookR T p.Old = e.2.2 := by simp [lookR, ha, he]
  have hne0 := h.ne0 hm
  have h2mp : (H1.set e.2.1 .dead ++ [.arr (encL en_i64 (e.2.2 ++ [p.New]))])[0]? = some (.mp (mpOf T)) := get_snoc (by rw [List.getElem?_set_ne hne0]; exact h1.mp)
  refine ⟨_, _, _, _, T.set i (p.Old, H1.length, e.2.2 ++ [p.New]), h1.lookup_some ha he, ap_50h (h1.row e hm) rfl (by rw [← hrow]; exact hb _), update_some h2mp ha _, ?_, ⟨?_, ?_, ?_⟩, ?_⟩
  ·simp only [refId, List.contains_cons, List.contains_nil, Bool.or_false]
   exact beq_eq_false_iff_ne.2 (by omega)
  ·rw [List.getElem?_set_self (by simp)]
   simp [mpOf]
  ·intro x hx
   obtain ⟨j, hj⟩ := List.mem_iff_getElem?.1 hx
   by_cases hij : i = j
   ·subst hij
    rw [List.getElem?_set_self hi] at hj
    obtain rfl := Option.some.inj hj
    show (List.set _ 0 _)[H1.length]? = _
    rw [List.getElem?_set_ne (by omega)]
    simp
   ·rw [List.getElem?_set_ne hij] at hj
    have hxT : x ∈ T := List.mem_of_getElem? hj
    have hne : e.2.1 ≠ x.2.1 := by
     intro e'
     have hil : i < (T.map (·.2.1)).length := by simpa using hi
     exact hij ((List.getElem?_inj (i := i) (j := j) (l := T.map (·.2.1)) hil h.nd).1 (by simp [he, hj, e']))
    have hx0 := h.ne0 hxT
    rw [List.getElem?_set_ne (fun e' => hx0 e'.symm)]
    exact get_snoc (by rw [List.getElem?_set_ne hne]; exact h1.row x hxT)
  ·rw [List.map_set]
   have nd := List.pairwise_iff_getElem.1 h.nd
   have hltT : ∀ c (hc : c < (T.map (·.2.1)).length), (T.map (·.2.1))[c] < H1.length := by
    intro c hc
    have hm' := List.getElem_mem hc
    obtain ⟨z, hz, e'⟩ := List.mem_map.1 hm'
    have := h.lt hz
    rw [← e']; omega
   refine List.pairwise_iff_getElem.2 (fun a b ha' hb' hab => ?_)
   have ha2 : a < (T.map (·.2.1)).length := by simpa using ha'
   have hb2 : b < (T.map (·.2.1)).length := by simpa using hb'
   rw [List.getElem_set, List.getElem_set]
   by_cases hia : i = a
   ·rw [if_pos hia, if_neg (by omega)]
    have := hltT b hb2
    show H1.length ≠ _
    omega
   ·rw [if_neg hia]
    by_cases hib : i = b
    ·rw [if_pos hib]
     have := hltT a ha2
     show _ ≠ H1.length
     omega
    ·rw [if_neg hib]
     exact nd a b ha2 hb2 hab
  ·intro k
   have hat : atK (T.set i (p.Old, H1.length, e.2.2 ++ [p.New])) k = atK T k := by unfold atK; rw [set_map_same he (by simpa using hk.symm)]
   unfold lookR
   rw [hat]
   by_cases hkk : p.Old = k
   ·subst hkk
    rw [ha, if_pos rfl]
    have hTi : T[i] = e := Option.some.inj ((List.getElem?_eq_getElem hi).symm.trans he)
    simp [hi, hTi]
   ·rw [if_neg hkk, List.append_nil]
    cases hb' : atK T k with
    | none => rfl
    | some j =>
     obtain ⟨e', he', hk'⟩ := atK_some hb'
     have hij : i ≠ j := by
      intro e0; subst e0
      rw [he] at he'
      obtain rfl := Option.some.inj he'
      exact hkk (hk.symm.trans hk')
     simp only [List.getElem?_set_ne hij]
 | none =>
  have hrow : lookR T p.Old = [] := by simp [lookR, ha]
  have h2mp : (H1 ++ [.arr (encL en_i64 [p.New])])[0]? = some (.mp (mpOf T)) := get_snoc h1.mp
  refine ⟨_, _, _, _, T ++ [(p.Old, H1.length, [p.New])], h1.lookup_none ha, apn_50h, update_none h2mp ha _, rfl, ⟨?_, ?_, ?_⟩, ?_⟩
  ·rw [List.getElem?_set_self (by simp)]
   simp [mpOf]
  ·intro x hx
   rcases List.mem_append.1 hx with hx | hx
   ·have hx0 := h.ne0 hx
    rw [List.getElem?_set_ne (fun e' => hx0 e'.symm)]
    exact get_snoc (h1.row x hx)
   ·obtain rfl : x = (p.Old, H1.length, [p.New]) := by simpa using hx
    show (List.set _ 0 _)[H1.length]? = _
    rw [List.getElem?_set_ne (by omega)]
    simp
  ·rw [List.map_append, List.nodup_append]
   refine ⟨h.nd, by simp, fun a hA b hB => ?_⟩
   obtain ⟨x, hx, rfl⟩ := List.mem_map.1 hA
   obtain rfl : b = H1.length := by simpa using hB
   have := h.lt hx
   omega
  ·intro k
   unfold lookR atK at *
   rw [List.map_append, List.findIdx?_append]
   by_cases hkk : p.Old = k
   ·subst hkk
    rw [ha, if_pos rfl]
    simp [List.findIdx?_cons]
   ·rw [if_neg hkk, List.append_nil]
    cases hb' : (T.map (·.1)).findIdx? (fun x => decide (k = x)) with
    | none => simp [List.findIdx?_cons, Ne.symm hkk]
    | some j =>
     have : j < T.length := by
      rw [List.findIdx?_eq_some_iff_getElem] at hb'
      simpa using hb'.1
     simp [List.getElem?_append_left this]
theorem nexts_take {n : List Pair} {i : Nat} {p : Pair} (hp : n[i]? = some p) (k : Int) : nexts (n.take (i + 1)) k = nexts (n.take i) k ++ if p.Old = k then [p.New] else [] := by
 unfold nexts
 rw [List.take_add_one, hp, List.filter_append, List.map_append]
 congr 1
 by_cases h : p.Old = k
 ·simp [h]
 ·simp [h]
theorem nexts_len (n : List Pair) (k : Int) : (nexts n k).length ≤ n.length := by
 unfold nexts
 rw [List.length_map]
 exact List.length_filter_le _ _
theorem loop22_0 {m n : List Pair} (hn : n.length ≤ 2 ^ 20) : ∀ (c i : Nat), i + c = n.length → ∀ (T : Fam) (H : List Ob), FamI T H → (∀ k, lookR T k = nexts (n.take i) k) →
  ∃ T' H', FamI T' H' ∧ (∀ k, lookR T' k = nexts n k) ∧ ∀ tm, Fr22_0 m n (i : Int) tm → ∃ tm', Fr22_0 m n (n.length : Int) tm' ∧ evW Tryz.prog A0 22 (.loop L22_0) ⟨tm, H, 0⟩ = some (.exit 0, ⟨tm', H', 0⟩) := by
 intro c
 induction c with
 | zero =>
  intro i hi T H hT hl
  obtain rfl : i = n.length := by omega
  rw [List.take_length] at hl
  exact ⟨T, H, hT, hl, fun tm hf => out22_0 hf⟩
 | succ c ih =>
  intro i hi T H hT hl
  have hil : i < n.length := by omega
  have hp : n[i]? = some n[i] := List.getElem?_eq_getElem hil
  obtain ⟨d, e, H2, H3, T', h1, h2, h3, h4, h5, h6⟩ := step22 hT n[i] (fun k => by
   rw [hl k]
   have := nexts_len (n.take i) k
   rw [List.length_take] at this; omega)
  obtain ⟨T2, H', g1, g2, g3⟩ := ih (i + 1) (by omega) T' H3 h5 (fun k => by rw [h6 k, hl k, nexts_take hp])
  refine ⟨T2, H', g1, g2, fun tm hf => ?_⟩
  obtain ⟨tm1, f1, e1⟩ := it22_0 hf (by rw [rd_nat]; exact hp) (by omega) h1 h2 h3 h4
  obtain ⟨tm2, f2, e2⟩ := g3 tm1 f1
  exact ⟨tm2, f2, e1.trans e2⟩
structure Inv22 (T : Fam) (H : List Ob) (z : Nat) (out : List Pair) : Prop where
 fam : FamI T H
 obj : H[z]? = some (.arr (encL en_Pair out))
 off : ∀ e ∈ T, e.2.1 ≠ z
theorem Inv22.ne0 {T : Fam} {H : List Ob} {z : Nat} {out : List Pair} (h : Inv22 T H z out) : z ≠ 0 := by
 intro e0
 have := h.obj
 rw [e0, h.fam.mp] at this; cases this
theorem Inv22.snoc {T : Fam} {H : List Ob} {z : Nat} {out : List Pair} (h : Inv22 T H z out) (x : Ob) : Inv22 T (H ++ [x]) z out := ⟨h.fam.snoc x, get_snoc h.obj, h.off⟩
theorem Inv22.app {T : Fam} {H : List Ob} {z : Nat} {out : List Pair} (h : Inv22 T H z out) (hb : out.length ≤ 2 ^ 42) (a v : Int) :
  appendD Tryz.prog H #[29, 29] (.ref z 0 out.length 2) (.p (.lst true 1 [.v (.int .i64 a), .v (.int .i64 v)])) = some (.ref H.length 0 (out ++ [(⟨a, v⟩ : Pair)]).length 2, H.set z .dead ++ [.arr (encL en_Pair (out ++ [⟨a, v⟩]))]) ∧
  Inv22 T (H.set z .dead ++ [.arr (encL en_Pair (out ++ [⟨a, v⟩]))]) H.length (out ++ [⟨a, v⟩]) := by
 refine ⟨?_, (h.fam.kill h.ne0 h.off _).snoc _, ?_, fun e he e' => ?_⟩
 ·rw [ap_29_29, h.obj]
  refine ap_enc (x := out) (y := [(⟨a, v⟩ : Pair)]) en_Pair_len rfl rfl rfl ?_
  show (out.length + 1) * 16 ≤ _
  omega
 ·have : (H.set z .dead).length = H.length := by simp
  rw [← this]; exact getC
 ·have := h.fam.lt he
  omega
theorem row_at {H : List Ob} {t : Nat} {row : List Int} {j : Nat} {v : Int} (h : H[t]? = some (.arr (encL en_i64 row))) (hj : row[j]? = some v) : ldOb H[t]? (ato (j : Int) 1) = some (iv v) := by
 rw [h, ldOb_arr]
 have : (encL en_i64 row)[ato (j : Int) 1]? = some (.v (.int .i64 v)) := (encL_cell en_i64_len (show rd row (j : Int) = some v by rw [rd_nat]; exact hj) (k := 0) (by decide)).trans (by rw [en_i64_eq]; rfl)
 rw [this]; rfl
theorem loop22_2 {m : List Pair} {i : Int} {y : Nat} {a b : Int} {T : Fam} {t : Nat} {row : List Int} (hrow : row.length ≤ 2 ^ 20) : ∀ (c j : Nat), j + c = row.length → ∀ (H : List Ob) (z : Nat) (out : List Pair), Inv22 T H z out → (∃ k, (k, t, row) ∈ T) → H[y]? = some (.var [iv a, iv b]) → y ≠ z → out.length + c ≤ 2 ^ 42 →
  ∃ z' H', Inv22 T H' z' (out ++ (row.drop j).map fun v => ⟨a, v⟩) ∧ ∀ tm, Fr22_2 m z out.length y (.ref t 0 row.length 1) row.length i (j : Int) tm →
   ∃ tm', Fr22_2 m z' (out ++ (row.drop j).map fun v => (⟨a, v⟩ : Pair)).length y (.ref t 0 row.length 1) row.length i (row.length : Int) tm' ∧ evW Tryz.prog A0 22 (.loop L22_2) ⟨tm, H, 0⟩ = some (.exit 4, ⟨tm', H', 0⟩) := by
 intro c
 induction c with
 | zero =>
  intro j hj H z out hI _ hy _ _
  obtain rfl : j = row.length := by omega
  refine ⟨z, H, by rw [List.drop_length, List.map_nil, List.append_nil]; exact hI, fun tm hf => ?_⟩
  rw [List.drop_length, List.map_nil, List.append_nil]
  exact out22_2 hf
 | succ c ih =>
  intro j hj H z out hI hk hy hyz hb
  have hjl : j < row.length := by omega
  have hv : row[j]? = some row[j] := List.getElem?_eq_getElem hjl
  obtain ⟨k, hkT⟩ := hk
  obtain ⟨e1, hI2⟩ := hI.app (by omega) a row[j]
  have hyl := (List.getElem?_eq_some_iff.1 hy).1
  have hd : row.drop j = row[j] :: row.drop (j + 1) := List.drop_eq_getElem_cons hjl
  obtain ⟨z', H', g1, g2⟩ := ih (j + 1) (by omega) _ _ _ hI2 ⟨k, hkT⟩ (get_snoc (by rw [List.getElem?_set_ne (Ne.symm hyz)]; exact hy)) (by omega) (by rw [List.length_append]; simp; omega)
  have eo : out ++ (row.drop j).map (fun v => (⟨a, v⟩ : Pair)) = out ++ [⟨a, row[j]⟩] ++ (row.drop (j + 1)).map fun v => ⟨a, v⟩ := by rw [hd, List.map_cons, List.append_assoc]; rfl
  refine ⟨z', H', by rw [eo]; exact g1, fun tm hf => ?_⟩
  obtain ⟨tm1, f1, e2⟩ := it22_2 hf hjl (by omega) hy (idxR_50 (by omega) (by omega)) (row_at (hI.fam.row _ hkT) hv) e1
  obtain ⟨tm2, f2, e3⟩ := g2 tm1 f1
  rw [eo]
  exact ⟨tm2, f2, e2.trans e3⟩
theorem out22_1 {m : List Pair} {z o : Nat} {tm : List Dv} {H : List Ob} (hf : Fr22_1 m z o (m.length : Int) tm) :
  ∃ tm', Fr22_1 m z o (m.length : Int) tm' ∧ evW Tryz.prog A0 22 (.loop L22_1) ⟨tm, H, 0⟩ = some (.exit 2, ⟨tm', H, 0⟩) := by
 have hlt : ¬ (m.length : Int) < (m.length : Int) := by omega
 rw [hf.eq]
 generalize (fun j => tm.getD j .junk) = g
 rw [w_loop]
 unfold L22_1 bodyOf Tryz.f22 F22_1
 simp only [loopsOf, ens]
 simp (maxSteps := 10000000) (implicitDefEqProofs := false) (disch := first | with_reducible assumption | exact rfl | exact im_ _ | (exact ⟨rfl, rfl, rfl, rfl, rfl, rfl, rfl, rfl, rfl, rfl, rfl⟩) | (fail_if_success show Kn _ _); omega) only [bs, rs22, Nat.reduceAdd, ↓reduceIte, hlt, loopW_exit]
 refine ⟨_, ?_, rfl⟩
 exact ⟨rfl, rfl, rfl, rfl, rfl, rfl, rfl⟩
theorem it22_1 {m : List Pair} {z o z2 o2 : Nat} {tm : List Dv} {i : Nat} (hf : Fr22_1 m z o (i : Int) tm) {p : Pair} (hp : rd m (i : Int) = some p) (hi : (i : Int) < 2 ^ 62) {H H2 : List Ob} {d : Dv} {k : Nat}
  (hlk : lookupD Tryz.prog (H ++ [.var [iv p.Old, iv p.New]]) 69 (.mp 0) (iv p.New) false = some d) (hlen : lenD Tryz.prog 50 d = some (iv (k : Int)))
  (hin0 : ∀ tm1, Fr22_2 m z o H.length d k (i : Int) 0 tm1 → ∃ G : Nat → Dv, evW Tryz.prog A0 22 (.loop L22_2) ⟨tm1, H ++ [.var [iv p.Old, iv p.New]], 0⟩ = some (.exit 4, ⟨F22_2 m z2 o2 H.length d k (i : Int) (k : Int) G, H2, 0⟩)) :
  ∃ tm', Fr22_1 m z2 o2 ((i + 1 : Nat) : Int) tm' ∧ evW Tryz.prog A0 22 (.loop L22_1) ⟨tm, H, 0⟩ = evW Tryz.prog A0 22 (.loop L22_1) ⟨tm', H2, 0⟩ := by
 obtain ⟨G, hG⟩ := Classical.axiomOfChoice (r := fun (x : {tm // Fr22_2 m z o H.length d k (i : Int) 0 tm}) (G : Nat → Dv) => evW Tryz.prog A0 22 (.loop L22_2) ⟨x.1, H ++ [.var [iv p.Old, iv p.New]], 0⟩ = some (.exit 4, ⟨F22_2 m z2 o2 H.length d k (i : Int) (k : Int) G, H2, 0⟩)) (fun x => hin0 x.1 x.2)
 have hin : ∀ tm1 (hf : Fr22_2 m z o H.length d k (i : Int) 0 tm1), evW Tryz.prog A0 22 (.loop L22_2) ⟨tm1, H ++ [.var [iv p.Old, iv p.New]], 0⟩ = some (.exit 4, ⟨F22_2 m z2 o2 H.length d k (i : Int) (k : Int) (G ⟨tm1, hf⟩), H2, 0⟩) := fun tm1 hf => hG ⟨tm1, hf⟩
 clear hG hin0
 obtain ⟨h0, h1, _⟩ := rd_some hp
 have hlt : (i : Int) < (m.length : Int) := h1
 have e1 : w64 ((i : Int) + 1) = ((i + 1 : Nat) : Int) := w64_succ (by omega)
 rw [hf.eq]
 generalize (fun j => tm.getD j .junk) = g
 rw [w_loop]
 unfold L22_2 L22_1 bodyOf Tryz.f22 F22_2 at hin
 simp only [loopsOf, innerOf, ens] at hin
 unfold L22_1 bodyOf Tryz.f22 F22_1
 simp only [loopsOf, ens]
 simp (maxSteps := 10000000) (implicitDefEqProofs := false) (disch := first | with_reducible assumption | exact rfl | exact im_ _ | (exact ⟨rfl, rfl, rfl, rfl, rfl, rfl, rfl, rfl, rfl, rfl, rfl⟩) | (fail_if_success show Kn _ _); omega) only [bs, rs22, Nat.reduceAdd, ↓reduceIte, al_43, sa_2_0_2, idxL_29, lk_frz_43, loadD_iagg a43 z43, storeD_agg z43, faP_43_0, faP_43_1, loadD_ptr a3, varld_2_0_0, varld_2_0_1, getC, setC, ops_lookup, hlk, hlen, hin, e1, hlt, loopW_normal]
 refine ⟨_, ?_, rfl⟩
 exact ⟨rfl, rfl, rfl, rfl, rfl, rfl, rfl⟩
theorem compL_len (m n : List Pair) : (compL m n).length ≤ m.length * n.length := by
 induction m with
 | nil => simp [compL]
 | cons p m ih =>
  have e : compL (p :: m) n = ((nexts n p.New).map fun z => (⟨p.Old, z⟩ : Pair)) ++ compL m n := by simp [compL]
  rw [e, List.length_append, List.length_map, List.length_cons, Nat.succ_mul]
  have := nexts_len n p.New
  omega
theorem compL_take {m n : List Pair} {i : Nat} {p : Pair} (hp : m[i]? = some p) : compL (m.take (i + 1)) n = compL (m.take i) n ++ (nexts n p.New).map fun z => ⟨p.Old, z⟩ := by
 unfold compL
 rw [List.take_add_one, hp, List.flatMap_append]
 simp
theorem loop22_1 {m n : List Pair} (hm : m.length ≤ 2 ^ 20) (hn : n.length ≤ 2 ^ 20) {T : Fam} (hl : ∀ k, lookR T k = nexts n k) : ∀ (c i : Nat), i + c = m.length → ∀ (H : List Ob) (z : Nat), Inv22 T H z (compL (m.take i) n) →
  ∃ z' H', Inv22 T H' z' (compL m n) ∧ ∀ tm, Fr22_1 m z (compL (m.take i) n).length (i : Int) tm → ∃ tm', Fr22_1 m z' (compL m n).length (m.length : Int) tm' ∧ evW Tryz.prog A0 22 (.loop L22_1) ⟨tm, H, 0⟩ = some (.exit 2, ⟨tm', H', 0⟩) := by
 intro c
 induction c with
 | zero =>
  intro i hi H z hI
  obtain rfl : i = m.length := by omega
  rw [List.take_length] at hI ⊢
  exact ⟨z, H, hI, fun tm hf => out22_1 hf⟩
 | succ c ih =>
  intro i hi H z hI
  have hil : i < m.length := by omega
  have hp : m[i]? = some m[i] := List.getElem?_eq_getElem hil
  generalize m[i] = p at hp
  have hI1 := hI.snoc (.var [iv p.Old, iv p.New])
  have hy : (H ++ [.var [iv p.Old, iv p.New]])[H.length]? = some (.var [iv p.Old, iv p.New]) := getC
  have hz : H.length ≠ z := by have := (List.getElem?_eq_some_iff.1 hI.obj).1; omega
  have hout : (compL (m.take i) n).length ≤ 2 ^ 40 := by
   have := compL_len (m.take i) n
   have h2 : (m.take i).length * n.length ≤ 2 ^ 20 * 2 ^ 20 := Nat.mul_le_mul (by rw [List.length_take]; omega) hn
   omega
  have key : ∃ d k z2 o2 H2, lookupD Tryz.prog (H ++ [.var [iv p.Old, iv p.New]]) 69 (.mp 0) (iv p.New) false = some d ∧ lenD Tryz.prog 50 d = some (iv ((k : Nat) : Int)) ∧ o2 = (compL (m.take (i + 1)) n).length ∧ Inv22 T H2 z2 (compL (m.take (i + 1)) n) ∧
    ∀ tm1, Fr22_2 m z (compL (m.take i) n).length H.length d k (i : Int) 0 tm1 → ∃ G : Nat → Dv, evW Tryz.prog A0 22 (.loop L22_2) ⟨tm1, H ++ [.var [iv p.Old, iv p.New]], 0⟩ = some (.exit 4, ⟨F22_2 m z2 o2 H.length d k (i : Int) (k : Int) G, H2, 0⟩) := by
   rw [compL_take hp, ← hl p.New]
   cases ha : atK T p.New with
   | none =>
    have hrow : lookR T p.New = [] := by simp [lookR, ha]
    rw [hrow, List.map_nil, List.append_nil]
    refine ⟨_, 0, z, _, _, hI1.fam.lookup_none ha, lenD_lst u50, rfl, hI1, fun tm1 hf1 => ?_⟩
    obtain ⟨tm', f1, e1⟩ := out22_2 (H := H ++ [.var [iv p.Old, iv p.New]]) hf1
    exact ⟨fun j => tm'.getD j .junk, by rw [← f1.eq]; exact e1⟩
   | some j =>
    obtain ⟨e, he, hk⟩ := atK_some ha
    have hrow : lookR T p.New = e.2.2 := by simp [lookR, ha, he]
    rw [hrow]
    have hlen : e.2.2.length ≤ 2 ^ 20 := by
     rw [← hrow, hl p.New]
     have := nexts_len n p.New; omega
    obtain ⟨z2, H2, g1, g2⟩ := loop22_2 (m := m) (i := (i : Int)) (y := H.length) (a := p.Old) (b := p.New) (t := e.2.1) hlen e.2.2.length 0 (by omega) _ z _ hI1 ⟨e.1, List.mem_of_getElem? he⟩ hy hz (by omega)
    rw [List.drop_zero] at g1 g2
    refine ⟨_, e.2.2.length, z2, _, H2, hI1.fam.lookup_some ha he, lenD_ref u50, rfl, g1, fun tm1 hf1 => ?_⟩
    obtain ⟨tm', f1, e1⟩ := g2 tm1 hf1
    exact ⟨fun j => tm'.getD j .junk, by rw [← f1.eq]; exact e1⟩
  obtain ⟨d, k, z2, o2, H2, k1, k2, rfl, k4, k5⟩ := key
  obtain ⟨z', H', g1, g2⟩ := ih (i + 1) (by omega) H2 z2 k4
  refine ⟨z', H', g1, fun tm hf => ?_⟩
  obtain ⟨tm1, f1, e1⟩ := it22_1 hf (by rw [rd_nat]; exact hp) (by omega) k1 k2 k5
  obtain ⟨tm2, f2, e2⟩ := g2 tm1 f1
  exact ⟨tm2, f2, e1.trans e2⟩
theorem own22 {tm : List Dv} {H : List Ob} (h : tm.getD 8 .junk = .p (.lst true 0 [])) : ghostsD [.own 8 2] ⟨tm, H, 0⟩ = some ⟨tm.set 8 (.ref H.length 0 0 2), H ++ [.arr []], 0⟩ := by
 have e : isNilP (tm.getD 8 .junk) = true := by rw [h]; rfl
 simp only [ghostsD, ghostD, e, if_true, Option.bind_some]
theorem f22_ok (m n r : List Pair) (h : match_Compose m n = some r) : callW Tryz.prog A0 22 [.p (.lst false m.length (encL en_Pair m)), .p (.lst false n.length (encL en_Pair n))] [] = some (.p (.lst false r.length (encL en_Pair r)), []) := by
 unfold match_Compose at h
 by_cases hb : m.length ≤ 2 ^ 20 ∧ n.length ≤ 2 ^ 20
 case neg => rw [if_neg hb] at h; cases h
 obtain ⟨hm, hn⟩ := hb
 rw [if_pos ⟨hm, hn⟩] at h
 obtain ⟨rr, ht, h⟩ := Option.bind_eq_some_iff.1 h
 obtain rfl := Option.some.inj h
 obtain ⟨T1, H1, g1, g2, g3⟩ := loop22_0 (m := m) hn n.length 0 (by omega) [] [.mp []] ⟨rfl, (fun e he => by cases he), List.nodup_nil⟩ (fun k => rfl)
 have hin0 : ∀ tm, Fr22_0 m n 0 tm → ∃ G : Nat → Dv, evW Tryz.prog A0 22 (.loop L22_0) ⟨tm, [.mp []], 0⟩ = some (.exit 0, ⟨F22_0 m n (n.length : Int) G, H1, 0⟩) := fun tm hf => by
  obtain ⟨tm', f1, e1⟩ := g3 tm hf
  exact ⟨fun j => tm'.getD j .junk, by rw [← f1.eq]; exact e1⟩
 have hI : Inv22 T1 (H1 ++ [.arr []]) H1.length (compL (m.take 0) n) := ⟨g1.snoc _, getC, fun e he => by have := g1.lt he; omega⟩
 obtain ⟨z', H2, k1, k2⟩ := loop22_1 hm hn g2 m.length 0 (by omega) _ _ hI
 have hin1 : ∀ tm, Fr22_1 m H1.length 0 0 tm → ∃ G : Nat → Dv, evW Tryz.prog A0 22 (.loop L22_1) ⟨tm, H1 ++ [.arr []], 0⟩ = some (.exit 2, ⟨F22_1 m z' (compL m n).length (m.length : Int) G, H2, 0⟩) := fun tm hf => by
  obtain ⟨tm', f1, e1⟩ := k2 tm hf
  exact ⟨fun j => tm'.getD j .junk, by rw [← f1.eq]; exact e1⟩
 have htd : callD (callW Tryz.prog A0) A0 H2 43 [.ref z' 0 (compL m n).length 2] = some (.p (.lst false rr.1.length (encL en_Pair rr.1)), some (H2.set z' (.arr (encL en_Pair rr.2)))) :=
  callD_put1 (ds := []) (args := []) rfl rfl k1.obj (f43_ok (compL m n) rr ht)
 obtain ⟨G0, hG0⟩ := Classical.axiomOfChoice (r := fun (x : {tm // Fr22_0 m n 0 tm}) (G : Nat → Dv) => evW Tryz.prog A0 22 (.loop L22_0) ⟨x.1, [.mp []], 0⟩ = some (.exit 0, ⟨F22_0 m n (n.length : Int) G, H1, 0⟩)) (fun x => hin0 x.1 x.2)
 obtain ⟨G1, hG1⟩ := Classical.axiomOfChoice (r := fun (x : {tm // Fr22_1 m H1.length 0 0 tm}) (G : Nat → Dv) => evW Tryz.prog A0 22 (.loop L22_1) ⟨x.1, H1 ++ [.arr []], 0⟩ = some (.exit 2, ⟨F22_1 m z' (compL m n).length (m.length : Int) G, H2, 0⟩)) (fun x => hin1 x.1 x.2)
 have hq0 : ∀ tm (hf : Fr22_0 m n 0 tm), evW Tryz.prog A0 22 (.loop L22_0) ⟨tm, [.mp []], 0⟩ = some (.exit 0, ⟨F22_0 m n (n.length : Int) (G0 ⟨tm, hf⟩), H1, 0⟩) := fun tm hf => hG0 ⟨tm, hf⟩
 have hq1 : ∀ tm (hf : Fr22_1 m H1.length 0 0 tm), evW Tryz.prog A0 22 (.loop L22_1) ⟨tm, H1 ++ [.arr []], 0⟩ = some (.exit 2, ⟨F22_1 m z' (compL m n).length (m.length : Int) (G1 ⟨tm, hf⟩), H2, 0⟩) := fun tm hf => hG1 ⟨tm, hf⟩
 unfold L22_0 bodyOf Tryz.f22 F22_0 at hq0
 simp only [loopsOf, ens] at hq0
 unfold L22_1 bodyOf Tryz.f22 F22_1 at hq1
 simp only [loopsOf, ens] at hq1
 refine call_ofI (fn := Tryz.f22) (c := bodyOf Tryz.f22) 56 rfl rfl (by kernel_rfl) (by kernel_rfl) (by kernel_rfl) ?_
 unfold bodyOf Tryz.f22
 simp only [ens]
 simp (maxSteps := 10000000) (implicitDefEqProofs := false) (disch := first | with_reducible assumption | exact rfl | exact im_ _ | (exact ⟨rfl, rfl, rfl, rfl, rfl, rfl, rfl⟩) | (fail_if_success show Kn _ _); omega) only [bs, rs22, Nat.reduceAdd, ↓reduceIte, ops_makeMap, lenD_lst u29, hq0]
 rw [own22 rfl]
 simp (maxSteps := 10000000) (implicitDefEqProofs := false) (disch := first | with_reducible assumption | exact rfl | exact im_ _ | (exact ⟨rfl, rfl, rfl, rfl, rfl, rfl, rfl⟩) | (fail_if_success show Kn _ _); omega) only [bs, rs22, Nat.reduceAdd, ↓reduceIte, lenD_lst u29, hq1, htd]
 refine ⟨by simp, ?_⟩; exact finish_is (l := []) rfl rfl rfl rfl (by first | rfl | (simp only [wk, wks, wkL]; first | done | rfl))
theorem match_Compose_call {H : List Ob} {b0 b1 : Bool} {x0 x1 r : List Pair} (h : match_Compose x0 x1 = some r) : callD (callW Tryz.prog A0) A0 H 22 [.p (.lst b0 x0.length (encL en_Pair x0)), .p (.lst b1 x1.length (encL en_Pair x1))] = some (.p (.lst false r.length (encL en_Pair r)), none) :=
 callD_fun (args := [.lst b0 x0.length (encL en_Pair x0), .lst b1 x1.length (encL en_Pair x1)]) rfl rfl rfl (by simp only [List.map_cons, List.map_nil, wk, wks, wkL]; exact f22_ok x0 x1 _ h)
def ls23 := And.intro @bs_29_0 (And.intro @bu_43_0_1 (And.intro @ce_43__0 (And.intro @ce_43__1 (And.intro @faI_43_0 (And.intro @faI_43_1 (@idxL_29))))))
theorem c11_0 {H : List Ob} {a1 a3 : Bool} {a2 a4 : List Pair} {r : Bool} (h : R24_Same a2 a4 = some r) : callD (callW Tryz.prog A0) A0 H 11 [.p (.lst a1 a2.length (encL en_Pair a2)), .p (.lst a3 a4.length (encL en_Pair a4))] = some (.p (.v (.bool r)), none) :=
 callD_fun (args := [.lst a1 a2.length (encL en_Pair a2), .lst a3 a4.length (encL en_Pair a4)]) rfl rfl rfl (by simp only [List.map_cons, List.map_nil, wk, wks, wkL]; exact f11_ok a2 a4 _ h)
noncomputable def L23_1 : Code := (loopsOf (bodyOf Tryz.f23)).getD 1 .skip
def g23_1 : List Ghost := [.weak [0, 1, 5], .keep [0, 1, 5, 6, 7]]
noncomputable def F23_1 (s0 : (List Pair)) (s1 : (List Pair)) (s6 : Int) : ((List Pair) × Int) → St := fun (s5, s7) => ⟨[.p (.lst false s0.length (encL en_Pair s0)), .p (.lst false s1.length (encL en_Pair s1)), J, J, J, .p (.lst false s5.length (encL en_Pair s5)), iv s6, iv s7, J, J, J, J, J, J, J, J, J, J, J, J, J, J, J, J, J, J, J, J, J, J, J, J, J, J, J, J, J, J, J, J, J, J, J, J, J, J], [], 0⟩
theorem L23_1_ok (s0 : (List Pair)) (s1 : (List Pair)) (s6 : Int) : ∀ s st o, ghostsD g23_1 st = some (F23_1 s0 s1 s6 s) → iter (R24_Compose_L1 s0 s1 s6) s = some o →
    Wp (evW Tryz.prog A0 23 (.loop L23_1) st) (OutQ (F23_1 s0 s1 s6) g23_1 (fun n s st => n = 2 ∧ ghostsD [.keep [0, 1, 5, 6, 7]] st = some (F23_1 s0 s1 s6 s)) (fun r st => finishD Tryz.prog A0 23 Tryz.f23 st = some (.p (.lst false r.length (encL en_Pair r)), [])) o) := by
 refine Wp.iter ?_
 intro s st o hg h
 obtain ⟨s5, s7⟩ := s
 unfold R24_Compose_L1 at h; unfold g23_1 F23_1 at hg ⊢
 (try simp only [] at h hg)
 unfold L23_1 bodyOf Tryz.f23; simp only [loopsOf, ens]
 revert h
 repeat' first | (with_reducible refine gR fun _ _ _ _ => ?_) | (with_reducible refine gB fun _ _ => ?_) | (with_reducible refine gI (fun _ _ => ?_) (fun _ _ => ?_))
 all_goals
  intro h; obtain rfl := Option.some.inj h
  first | (simp (maxSteps := 10000000) (implicitDefEqProofs := false) (disch := first | with_reducible assumption | exact rfl | exact im_ _ | (fail_if_success show Kn _ _); omega) only [bs, rs23, ls23, Nat.reduceAdd, ↓reduceIte, c39_0, lenD_lst u29, loadD_iptr a3, hg]; first | (exact ⟨(rfl : Ex.normal = Ex.normal), by kernel_rfl⟩) | (exact ⟨(rfl : Ex.exit 2 = Ex.exit 2), rfl, by kernel_rfl⟩)) | (exfalso; omega)
noncomputable def L23_0 : Code := (loopsOf (bodyOf Tryz.f23)).getD 0 .skip
def g23_0 : List Ghost := [.weak [0, 1, 5], .keep [0, 1, 5, 6]]
noncomputable def F23_0 (s0 : (List Pair)) (s1 : (List Pair)) : ((List Pair) × Int) → St := fun (s5, s6) => ⟨[.p (.lst false s0.length (encL en_Pair s0)), .p (.lst false s1.length (encL en_Pair s1)), J, J, J, .p (.lst false s5.length (encL en_Pair s5)), iv s6, J, J, J, J, J, J, J, J, J, J, J, J, J, J, J, J, J, J, J, J, J, J, J, J, J, J, J, J, J, J, J, J, J, J, J, J, J, J, J], [], 0⟩
theorem L23_0_ok (s0 : (List Pair)) (s1 : (List Pair)) : ∀ s st o, ghostsD g23_0 st = some (F23_0 s0 s1 s) → iter (R24_Compose_L0 s0 s1) s = some o →
    Wp (evW Tryz.prog A0 23 (.loop L23_0) st) (OutQ (F23_0 s0 s1) g23_0 (fun n s st => n = 0 ∧ ghostsD [.keep [0, 1, 5, 6]] st = some (F23_0 s0 s1 s)) (fun r st => finishD Tryz.prog A0 23 Tryz.f23 st = some (.p (.lst false r.length (encL en_Pair r)), [])) o) := by
 refine Wp.iter ?_
 intro s st o hg h
 obtain ⟨s5, s6⟩ := s
 unfold R24_Compose_L0 at h; unfold g23_0 F23_0 at hg ⊢
 (try simp only [] at h hg)
 unfold L23_0 bodyOf Tryz.f23; simp only [loopsOf, ens]
 revert h
 refine gI (fun h1 _ => ?_) (fun h1 _ => ?_)
 ·refine gB fun o h15 => ?_
  intro h
  simp (maxSteps := 10000000) (implicitDefEqProofs := false) (disch := first | with_reducible assumption | exact rfl | exact im_ _ | (fail_if_success show Kn _ _); omega) only [bs, rs23, ls23, Nat.reduceAdd, ↓reduceIte, c39_0, lenD_lst u29, loadD_iptr a3, hg]
  refine Wp.ctx (fun x => seqW _ _ _ _ (blockW _ (blockW _ (x)))) (L23_1_ok s0 s1 s6 (s5, (0 : Int)) _ o (by kernel_rfl) h15) ?_
  intro e st hq
  cases o with
  | next _ => (first | cases h | (simp at h))
  | jmp n_ s_ =>
   obtain ⟨rfl, rfl, hq⟩ := hq
   obtain ⟨s5_16, s7_16⟩ := s_
   unfold F23_1 at hq
   (try simp only [] at h hq)
   revert h
   intro h; obtain rfl := Option.some.inj h
   simp (maxSteps := 10000000) (implicitDefEqProofs := false) (disch := first | with_reducible assumption | exact rfl | exact im_ _ | (fail_if_success show Kn _ _); omega) only [bs, rs23, ls23, Nat.reduceAdd, ↓reduceIte, c39_0, lenD_lst u29, loadD_iptr a3, hg, hq]
   exact ⟨(rfl : Ex.normal = Ex.normal), by kernel_rfl⟩
  | ret _ => (first | cases h | (simp at h))
 ·intro h; obtain rfl := Option.some.inj h
  simp (maxSteps := 10000000) (implicitDefEqProofs := false) (disch := first | with_reducible assumption | exact rfl | exact im_ _ | (fail_if_success show Kn _ _); omega) only [bs, rs23, ls23, Nat.reduceAdd, ↓reduceIte, c39_0, lenD_lst u29, loadD_iptr a3, hg]
  exact ⟨(rfl : Ex.exit 0 = Ex.exit 0), rfl, by kernel_rfl⟩
theorem f23_ok  (x0 : (List Pair)) (x1 : (List Pair)) (r : (List Pair)) (h : R24_Compose x0 x1 = some r) : callW Tryz.prog A0 23 [.p (.lst false x0.length (encL en_Pair x0)), .p (.lst false x1.length (encL en_Pair x1))] [] = some (.p (.lst false r.length (encL en_Pair r)), []) := by
 refine call_ofI (fn := Tryz.f23) (c := bodyOf Tryz.f23) 44 rfl rfl (by kernel_rfl) (by kernel_rfl) (by kernel_rfl) ?_
 unfold R24_Compose at h; unfold bodyOf Tryz.f23; simp only [ens]
 revert h
 refine gB fun o h17 => ?_
 intro h
 simp (maxSteps := 10000000) (implicitDefEqProofs := false) (disch := first | with_reducible assumption | exact rfl | exact im_ _ | (fail_if_success show Kn _ _); omega) only [bs, rs23, ls23, Nat.reduceAdd, ↓reduceIte, c39_0, lenD_lst u29, loadD_iptr a3]
 refine Wp.ctx (fun x => seqW _ _ _ _ (blockW _ (x))) (L23_0_ok x0 x1 (([] : List Pair), (0 : Int)) _ o (by kernel_rfl) h17) ?_
 intro e st hq
 cases o with
 | next _ => (first | cases h | (simp at h))
 | jmp n_ s_ =>
  obtain ⟨rfl, rfl, hq⟩ := hq
  obtain ⟨s5_18, s6_18⟩ := s_
  unfold F23_0 at hq
  (try simp only [] at h hq)
  revert h
  intro h; obtain rfl := Option.some.inj h
  simp (maxSteps := 10000000) (implicitDefEqProofs := false) (disch := first | with_reducible assumption | exact rfl | exact im_ _ | (fail_if_success show Kn _ _); omega) only [bs, rs23, ls23, Nat.reduceAdd, ↓reduceIte, c39_0, lenD_lst u29, loadD_iptr a3, hq]
  refine ⟨by simp, ?_⟩; exact finish_is (l := []) rfl rfl rfl rfl (by first | rfl | (simp only [wk, wks, wkL]; first | done | rfl))
 | ret _ => (first | cases h | (simp at h))
theorem c23_0 {H : List Ob} {a1 a3 : Bool} {a2 a4 : List Pair} {r : (List Pair)} (h : R24_Compose a2 a4 = some r) : callD (callW Tryz.prog A0) A0 H 23 [.p (.lst a1 a2.length (encL en_Pair a2)), .p (.lst a3 a4.length (encL en_Pair a4))] = some (.p (.lst false r.length (encL en_Pair r)), none) :=
 callD_fun (args := [.lst a1 a2.length (encL en_Pair a2), .lst a3 a4.length (encL en_Pair a4)]) rfl rfl rfl (by simp only [List.map_cons, List.map_nil, wk, wks, wkL]; exact f23_ok a2 a4 _ h)
theorem f6_ok  (x0 : (List Pair)) (x1 : (List Pair)) (r : Bool) (h : law24_MatchCombines x0 x1 = some r) : callW Tryz.prog A0 6 [.p (.lst false x0.length (encL en_Pair x0)), .p (.lst false x1.length (encL en_Pair x1))] [] = some (.p (.v (.bool r)), []) := by
 refine call_ofI (fn := Tryz.f6) (c := bodyOf Tryz.f6) 29 rfl rfl (by kernel_rfl) (by kernel_rfl) (by kernel_rfl) ?_
 unfold law24_MatchCombines at h; unfold bodyOf Tryz.f6; simp only [ens]
 revert h
 repeat' first | (with_reducible refine gB fun _ _ => ?_) | (with_reducible refine gT (fun _ _ => ?_) (fun _ _ => ?_)) | (with_reducible refine gI (fun _ _ => ?_) (fun _ _ => ?_))
 all_goals
  intro h; obtain rfl := Option.some.inj h
  first | (simp (maxSteps := 10000000) (implicitDefEqProofs := false) (disch := first | with_reducible assumption | exact rfl | exact im_ _ | (fail_if_success show Kn _ _); omega) only [bs, rs6, Nat.reduceAdd, ↓reduceIte, c10_0, c11_0, c20_0, c21_0, c23_0, lenD_lst u29, match_Compose_call]; refine ⟨by simp, ?_⟩; exact fin_sc rfl rfl rfl rfl) | (exfalso; omega)
end Xr

