/- A part of the proof: P1. No conditions of its own. -/
import Derived.Test.YtddfehcpbgfmfaaP0
namespace Xn
open Go Go.Ev Go.Proofs
set_option linter.unusedSimpArgs false
set_option linter.unusedVariables false
set_option linter.defProp false
set_option maxRecDepth 8000
set_option maxHeartbeats 40000000
def ls51_34 := And.intro @al_3 (@varld_1_0)
theorem f51_34_ok  (x0 : (List Pair)) (x1 : Int) (x2 : Int) (r : (Int × Int × (List Pair))) (h : slices_choosePivotCmpFunc similar_Match_c2 x0 x1 x2 = some r) : callW Try.prog A0 51 [.ref 0 0 x0.length 2, iv x1, iv x2, .p (.fn (.func 34) [])] [.arr (encL en_Pair x0)] = some (.p (.tup [.v (.int .i64 r.1), .v (.int .i64 r.2.1)]), [.arr (encL en_Pair r.2.2)]) := by
 refine call_ofH (fn := Try.f51) (c := bodyOf Try.f51) rfl rfl (by kernel_rfl) (by kernel_rfl) ?_
 rw [show initS Try.f51 [.ref 0 0 x0.length 2, iv x1, iv x2, .p (.fn (.func 34) [])] [.arr (encL en_Pair x0)] = ⟨.ref 0 0 x0.length 2 :: iv x1 :: iv x2 :: .p (.fn (.func 34) []) :: List.replicate 59 undefD, [.arr (encL en_Pair x0)], 1⟩ from by kernel_rfl]
 unfold slices_choosePivotCmpFunc at h
 unfold bodyOf Try.f51; simp only [Option.getD_some, loopsOf, List.append_nil, List.nil_append, List.cons_append, List.getD_cons_zero, List.getD_cons_succ]
 simp only [List.replicate]
 obtain ⟨q1, h2, h⟩ := bsm h
 have h3 : ∀ xo yo, binD Try.prog .quo 3 xo yo (.p (.v (.int .i64 (w64 (x2 - x1))))) (.p (.v (.int .i64 (4 : Int)))) = some (.p (.v (.int .i64 q1))) := fun xo yo => binD_quo_k h2
 by_cases h4 : (8 : Int) ≤ (w64 (x2 - x1))
 ·rw [if_pos h4] at h
  have h4' : decide ((8 : Int) ≤ (w64 (x2 - x1))) = true := decide_eq_true h4
  by_cases h5 : (50 : Int) ≤ (w64 (x2 - x1))
  ·rw [if_pos h5] at h
   have h5' : decide ((50 : Int) ≤ (w64 (x2 - x1))) = true := decide_eq_true h5
   obtain ⟨r6, h7, h⟩ := bsm h
   have h8 : callD (callW Try.prog A0) A0 [.arr (encL en_Pair x0), .var [iv (0 : Int)]] 61 [.ref 0 0 x0.length 2, iv (w64 (x1 + (w64 (q1 * (1 : Int))))), .ptr 1 0, .p (.fn (.func 34) [])] = some (.p (.v (.int .i64 r6.1)), some [.arr (encL en_Pair r6.2.1), .var [iv r6.2.2]]) := (callD_put (dsw := [.ref 0 0 x0.length 2, iv (w64 (x1 + (w64 (q1 * (1 : Int))))), .ptr 1 0, .p (.fn (.func 34) [])]) (ds' := [.ref 0 0 x0.length 2, iv (w64 (x1 + (w64 (q1 * (1 : Int))))), .ptr 1 0, .p (.fn (.func 34) [])]) (i := 0) (ids := [1]) (o := .arr (encL en_Pair x0)) (os := [.var [iv (0 : Int)]]) (o' := .arr (encL en_Pair r6.2.1)) (os' := [.var [iv r6.2.2]]) rfl (by kernel_rfl) (by kernel_rfl) (by kernel_rfl) (by kernel_rfl) (by kernel_rfl) (slices_medianAdjacentCmpFunc_34_call h7) rfl rfl).trans (by kernel_rfl)
   by_cases hw_ : r6.2.1.length = x0.length
   case neg => rw [if_neg hw_] at h; cases h
   rw [if_pos hw_] at h
   have h9 := hw_
   obtain ⟨r10, h11, h⟩ := bsm h
   have h12 : callD (callW Try.prog A0) A0 [.arr (encL en_Pair r6.2.1), .var [iv r6.2.2]] 61 [.ref 0 0 x0.length 2, iv (w64 (x1 + (w64 (q1 * (2 : Int))))), .ptr 1 0, .p (.fn (.func 34) [])] = some (.p (.v (.int .i64 r10.1)), some [.arr (encL en_Pair r10.2.1), .var [iv r10.2.2]]) := by
       rw [show x0.length = r6.2.1.length from by omega]; exact (callD_put (dsw := [.ref 0 0 r6.2.1.length 2, iv (w64 (x1 + (w64 (q1 * (2 : Int))))), .ptr 1 0, .p (.fn (.func 34) [])]) (ds' := [.ref 0 0 r6.2.1.length 2, iv (w64 (x1 + (w64 (q1 * (2 : Int))))), .ptr 1 0, .p (.fn (.func 34) [])]) (i := 0) (ids := [1]) (o := .arr (encL en_Pair r6.2.1)) (os := [.var [iv r6.2.2]]) (o' := .arr (encL en_Pair r10.2.1)) (os' := [.var [iv r10.2.2]]) rfl (by kernel_rfl) (by kernel_rfl) (by kernel_rfl) (by kernel_rfl) (by kernel_rfl) (slices_medianAdjacentCmpFunc_34_call h11) rfl rfl).trans (by kernel_rfl)
   by_cases hw_ : r10.2.1.length = r6.2.1.length
   case neg => rw [if_neg hw_] at h; cases h
   rw [if_pos hw_] at h
   have h13 := hw_
   obtain ⟨r14, h15, h⟩ := bsm h
   have h16 : callD (callW Try.prog A0) A0 [.arr (encL en_Pair r10.2.1), .var [iv r10.2.2]] 61 [.ref 0 0 x0.length 2, iv (w64 (x1 + (w64 (q1 * (3 : Int))))), .ptr 1 0, .p (.fn (.func 34) [])] = some (.p (.v (.int .i64 r14.1)), some [.arr (encL en_Pair r14.2.1), .var [iv r14.2.2]]) := by
       rw [show x0.length = r10.2.1.length from by omega]; exact (callD_put (dsw := [.ref 0 0 r10.2.1.length 2, iv (w64 (x1 + (w64 (q1 * (3 : Int))))), .ptr 1 0, .p (.fn (.func 34) [])]) (ds' := [.ref 0 0 r10.2.1.length 2, iv (w64 (x1 + (w64 (q1 * (3 : Int))))), .ptr 1 0, .p (.fn (.func 34) [])]) (i := 0) (ids := [1]) (o := .arr (encL en_Pair r10.2.1)) (os := [.var [iv r10.2.2]]) (o' := .arr (encL en_Pair r14.2.1)) (os' := [.var [iv r14.2.2]]) rfl (by kernel_rfl) (by kernel_rfl) (by kernel_rfl) (by kernel_rfl) (by kernel_rfl) (slices_medianAdjacentCmpFunc_34_call h15) rfl rfl).trans (by kernel_rfl)
   by_cases hw_ : r14.2.1.length = r10.2.1.length
   case neg => rw [if_neg hw_] at h; cases h
   rw [if_pos hw_] at h
   have h17 := hw_
   obtain ⟨r18, h19, h⟩ := bsm h
   have h20 : callD (callW Try.prog A0) A0 [.arr (encL en_Pair r14.2.1), .var [iv r14.2.2]] 62 [.ref 0 0 x0.length 2, iv r6.1, iv r10.1, iv r14.1, .ptr 1 0, .p (.fn (.func 34) [])] = some (.p (.v (.int .i64 r18.1)), some [.arr (encL en_Pair r18.2.1), .var [iv r18.2.2]]) := by
       rw [show x0.length = r14.2.1.length from by omega]; exact (callD_put (dsw := [.ref 0 0 r14.2.1.length 2, iv r6.1, iv r10.1, iv r14.1, .ptr 1 0, .p (.fn (.func 34) [])]) (ds' := [.ref 0 0 r14.2.1.length 2, iv r6.1, iv r10.1, iv r14.1, .ptr 1 0, .p (.fn (.func 34) [])]) (i := 0) (ids := [1]) (o := .arr (encL en_Pair r14.2.1)) (os := [.var [iv r14.2.2]]) (o' := .arr (encL en_Pair r18.2.1)) (os' := [.var [iv r18.2.2]]) rfl (by kernel_rfl) (by kernel_rfl) (by kernel_rfl) (by kernel_rfl) (by kernel_rfl) (slices_medianCmpFunc_34_call h19) rfl rfl).trans (by kernel_rfl)
   by_cases hw_ : r18.2.1.length = r14.2.1.length
   case neg => rw [if_neg hw_] at h; cases h
   rw [if_pos hw_] at h
   have h21 := hw_
   by_cases h22 : r18.2.2 = (0 : Int)
   ·rw [if_pos h22] at h
    have h22' : decide (r18.2.2 = (0 : Int)) = true := decide_eq_true h22
    obtain rfl := Option.some.inj h
    simp (maxSteps := 10000000) (implicitDefEqProofs := false) (disch := first | assumption | omega | exact rfl) only [bs, rs51, ls51_34, Nat.reduceAdd, ↓reduceIte, Int.reduceEq, Int.reduceLE, Int.reduceLT, loadD_ptr a3, h3, ↓h4', ↓h5', h8, h12, h16, h20, ↓h22']
    refine ⟨by first | exact .inl trivial | exact .inr trivial | simp, ?_⟩
    show _ = _
    kernel_rfl
   ·rw [if_neg h22] at h
    have h22' : decide (r18.2.2 = (0 : Int)) = false := decide_eq_false h22
    by_cases h23 : r18.2.2 = (12 : Int)
    ·rw [if_pos h23] at h
     have h23' : decide (r18.2.2 = (12 : Int)) = true := decide_eq_true h23
     obtain rfl := Option.some.inj h
     simp (maxSteps := 10000000) (implicitDefEqProofs := false) (disch := first | assumption | omega | exact rfl) only [bs, rs51, ls51_34, Nat.reduceAdd, ↓reduceIte, Int.reduceEq, Int.reduceLE, Int.reduceLT, loadD_ptr a3, h3, ↓h4', ↓h5', h8, h12, h16, h20, ↓h22', ↓h23']
     refine ⟨by first | exact .inl trivial | exact .inr trivial | simp, ?_⟩
     show _ = _
     kernel_rfl
    ·rw [if_neg h23] at h
     have h23' : decide (r18.2.2 = (12 : Int)) = false := decide_eq_false h23
     obtain rfl := Option.some.inj h
     simp (maxSteps := 10000000) (implicitDefEqProofs := false) (disch := first | assumption | omega | exact rfl) only [bs, rs51, ls51_34, Nat.reduceAdd, ↓reduceIte, Int.reduceEq, Int.reduceLE, Int.reduceLT, loadD_ptr a3, h3, ↓h4', ↓h5', h8, h12, h16, h20, ↓h22', ↓h23']
     refine ⟨by first | exact .inl trivial | exact .inr trivial | simp, ?_⟩
     show _ = _
     kernel_rfl
  ·rw [if_neg h5] at h
   have h5' : decide ((50 : Int) ≤ (w64 (x2 - x1))) = false := decide_eq_false h5
   obtain ⟨r24, h25, h⟩ := bsm h
   have h26 : callD (callW Try.prog A0) A0 [.arr (encL en_Pair x0), .var [iv (0 : Int)]] 62 [.ref 0 0 x0.length 2, iv (w64 (x1 + (w64 (q1 * (1 : Int))))), iv (w64 (x1 + (w64 (q1 * (2 : Int))))), iv (w64 (x1 + (w64 (q1 * (3 : Int))))), .ptr 1 0, .p (.fn (.func 34) [])] = some (.p (.v (.int .i64 r24.1)), some [.arr (encL en_Pair r24.2.1), .var [iv r24.2.2]]) := (callD_put (dsw := [.ref 0 0 x0.length 2, iv (w64 (x1 + (w64 (q1 * (1 : Int))))), iv (w64 (x1 + (w64 (q1 * (2 : Int))))), iv (w64 (x1 + (w64 (q1 * (3 : Int))))), .ptr 1 0, .p (.fn (.func 34) [])]) (ds' := [.ref 0 0 x0.length 2, iv (w64 (x1 + (w64 (q1 * (1 : Int))))), iv (w64 (x1 + (w64 (q1 * (2 : Int))))), iv (w64 (x1 + (w64 (q1 * (3 : Int))))), .ptr 1 0, .p (.fn (.func 34) [])]) (i := 0) (ids := [1]) (o := .arr (encL en_Pair x0)) (os := [.var [iv (0 : Int)]]) (o' := .arr (encL en_Pair r24.2.1)) (os' := [.var [iv r24.2.2]]) rfl (by kernel_rfl) (by kernel_rfl) (by kernel_rfl) (by kernel_rfl) (by kernel_rfl) (slices_medianCmpFunc_34_call h25) rfl rfl).trans (by kernel_rfl)
   by_cases hw_ : r24.2.1.length = x0.length
   case neg => rw [if_neg hw_] at h; cases h
   rw [if_pos hw_] at h
   have h27 := hw_
   by_cases h28 : r24.2.2 = (0 : Int)
   ·rw [if_pos h28] at h
    have h28' : decide (r24.2.2 = (0 : Int)) = true := decide_eq_true h28
    obtain rfl := Option.some.inj h
    simp (maxSteps := 10000000) (implicitDefEqProofs := false) (disch := first | assumption | omega | exact rfl) only [bs, rs51, ls51_34, Nat.reduceAdd, ↓reduceIte, Int.reduceEq, Int.reduceLE, Int.reduceLT, loadD_ptr a3, h3, ↓h4', ↓h5', h26, ↓h28']
    refine ⟨by first | exact .inl trivial | exact .inr trivial | simp, ?_⟩
    show _ = _
    kernel_rfl
   ·rw [if_neg h28] at h
    have h28' : decide (r24.2.2 = (0 : Int)) = false := decide_eq_false h28
    by_cases h29 : r24.2.2 = (12 : Int)
    ·rw [if_pos h29] at h
     have h29' : decide (r24.2.2 = (12 : Int)) = true := decide_eq_true h29
     obtain rfl := Option.some.inj h
     simp (maxSteps := 10000000) (implicitDefEqProofs := false) (disch := first | assumption | omega | exact rfl) only [bs, rs51, ls51_34, Nat.reduceAdd, ↓reduceIte, Int.reduceEq, Int.reduceLE, Int.reduceLT, loadD_ptr a3, h3, ↓h4', ↓h5', h26, ↓h28', ↓h29']
     refine ⟨by first | exact .inl trivial | exact .inr trivial | simp, ?_⟩
     show _ = _
     kernel_rfl
    ·rw [if_neg h29] at h
     have h29' : decide (r24.2.2 = (12 : Int)) = false := decide_eq_false h29
     obtain rfl := Option.some.inj h
     simp (maxSteps := 10000000) (implicitDefEqProofs := false) (disch := first | assumption | omega | exact rfl) only [bs, rs51, ls51_34, Nat.reduceAdd, ↓reduceIte, Int.reduceEq, Int.reduceLE, Int.reduceLT, loadD_ptr a3, h3, ↓h4', ↓h5', h26, ↓h28', ↓h29']
     refine ⟨by first | exact .inl trivial | exact .inr trivial | simp, ?_⟩
     show _ = _
     kernel_rfl
 ·rw [if_neg h4] at h
  have h4' : decide ((8 : Int) ≤ (w64 (x2 - x1))) = false := decide_eq_false h4
  obtain rfl := Option.some.inj h
  simp (maxSteps := 10000000) (implicitDefEqProofs := false) (disch := first | assumption | omega | exact rfl) only [bs, rs51, ls51_34, Nat.reduceAdd, ↓reduceIte, Int.reduceEq, Int.reduceLE, Int.reduceLT, loadD_ptr a3, h3, ↓h4']
  refine ⟨by first | exact .inl trivial | exact .inr trivial | simp, ?_⟩
  show _ = _
  kernel_rfl
theorem slices_choosePivotCmpFunc_34_call {x0 : (List Pair)} {x1 : Int} {x2 : Int} {r : (Int × Int × (List Pair))} (h : slices_choosePivotCmpFunc similar_Match_c2 x0 x1 x2 = some r) : callW Try.prog A0 51 [.ref 0 0 x0.length 2, iv x1, iv x2, .p (.fn (.func 34) [])] [.arr (encL en_Pair x0)] = some (.p (.tup [.v (.int .i64 r.1), .v (.int .i64 r.2.1)]), [.arr (encL en_Pair r.2.2)]) := f51_34_ok x0 x1 x2 _ h
def ls52_34 := @idxR_26
noncomputable def L52_0 : Code := (loopsOf (bodyOf Try.f52)).getD 0 .skip
def g52_0 : List Ghost := [.keep [0, 8, 9]]
def F52_34_0 : (Int × Int × (List Pair)) → St := fun (s8, s9, y0) => ⟨[.ref 0 0 y0.length 2, .junk, .junk, .junk, .junk, .junk, .junk, .junk, iv s8, iv s9, .junk, .junk, .junk, .junk, .junk, .junk, .junk, .junk, .junk, .junk, .junk, .junk, .junk, .junk, .junk, .junk, .junk, .junk, .junk, .junk, .junk, .junk, .junk, .junk], [.arr (encL en_Pair y0)], 1⟩
theorem L52_34_0_ok : ∀ s st o, ghostsD g52_0 st = some (F52_34_0 s) → iter (slices_reverseRangeCmpFunc_L0 similar_Match_c2) s = some o →
    Wp (evW Try.prog A0 52 (.loop L52_0) st) (OutQ (F52_34_0) g52_0 (fun n s st => n = 0 ∧ (match s with | (s8, s9, y0) => finishD Try.prog A0 52 Try.f52 st = some (.p (.tup []), [.arr (encL en_Pair y0)]))) (fun r st => finishD Try.prog A0 52 Try.f52 st = some (.p (.tup []), [.arr (encL en_Pair r)])) o) := by
 refine Wp.iter ?_
 intro s st o hg h
 obtain ⟨s8, s9, y0⟩ := s
 unfold slices_reverseRangeCmpFunc_L0 at h
 unfold g52_0 F52_34_0 at hg ⊢
 (try simp only [] at h hg)
 unfold L52_0 bodyOf Try.f52; simp only [Option.getD_some, loopsOf, List.append_nil, List.nil_append, List.cons_append, List.getD_cons_zero, List.getD_cons_succ]
 by_cases h14 : s8 < s9
 ·rw [if_pos h14] at h
  have h14' : decide (s8 < s9) = true := decide_eq_true h14
  obtain ⟨v15, h16, h⟩ := bsm h
  obtain ⟨h16a, h16b, _⟩ := rd_some h16
  have h17 := lk_arr_39 h16
  obtain ⟨v18, h19, h⟩ := bsm h
  obtain ⟨h19a, h19b, _⟩ := rd_some h19
  have h20 := lk_arr_39 h19
  have h21 : ∀ (H : List Ob) (id : Nat), staOb H id (s8.toNat * 2) 2 [.v (.int .i64 v15.Old), .v (.int .i64 v15.New)] (some (.arr (encL en_Pair y0))) = some (H.set id (.arr (encL en_Pair (y0.set s8.toNat v15)))) := fun H id => by
      have := sta_arr (H := H) (id := id) (v := v15) en_Pair_len h19a h19b
      rw [en_Pair_eq] at this
      exact this
  have h22 : (y0.set s8.toNat v15).length = y0.length := List.length_set
  obtain ⟨v23, h24, h⟩ := bsm h
  obtain ⟨h24a, h24b, _⟩ := rd_some h24
  have h25 : ∀ (H : List Ob) (id : Nat), staOb H id (s9.toNat * 2) 2 [.v (.int .i64 v18.Old), .v (.int .i64 v18.New)] (some (.arr (encL en_Pair (y0.set s8.toNat v15)))) = some (H.set id (.arr (encL en_Pair ((y0.set s8.toNat v15).set s9.toNat v18)))) := fun H id => by
      have := sta_arr (H := H) (id := id) (v := v18) en_Pair_len h24a h24b
      rw [en_Pair_eq] at this
      exact this
  have h26 : ((y0.set s8.toNat v15).set s9.toNat v18).length = (y0.set s8.toNat v15).length := List.length_set
  obtain rfl := Option.some.inj h
  simp (maxSteps := 10000000) (implicitDefEqProofs := false) (disch := first | assumption | omega | exact rfl) only [bs, rs52, ls52_34, Nat.reduceAdd, ↓reduceIte, loadD_pagg a39 z39, storeD_agg z39, hg, ↓h14', h17, h20, h21, h25]
  exact ⟨rfl, by simp only [List.length_set, cpL_len]; kernel_rfl⟩
 ·rw [if_neg h14] at h
  have h14' : decide (s8 < s9) = false := decide_eq_false h14
  obtain rfl := Option.some.inj h
  simp (maxSteps := 10000000) (implicitDefEqProofs := false) (disch := first | assumption | omega | exact rfl) only [bs, rs52, ls52_34, Nat.reduceAdd, ↓reduceIte, loadD_pagg a39 z39, storeD_agg z39, hg, ↓h14']
  refine ⟨rfl, rfl, ?_⟩
  show _ = _
  kernel_rfl
theorem f52_34_ok  (x0 : (List Pair)) (x1 : Int) (x2 : Int) (r : (List Pair)) (h : slices_reverseRangeCmpFunc similar_Match_c2 x0 x1 x2 = some r) : callW Try.prog A0 52 [.ref 0 0 x0.length 2, iv x1, iv x2, .p (.fn (.func 34) [])] [.arr (encL en_Pair x0)] = some (.p (.tup []), [.arr (encL en_Pair r)]) := by
 refine call_ofH (fn := Try.f52) (c := bodyOf Try.f52) rfl rfl (by kernel_rfl) (by kernel_rfl) ?_
 rw [show initS Try.f52 [.ref 0 0 x0.length 2, iv x1, iv x2, .p (.fn (.func 34) [])] [.arr (encL en_Pair x0)] = ⟨.ref 0 0 x0.length 2 :: iv x1 :: iv x2 :: .p (.fn (.func 34) []) :: List.replicate 30 undefD, [.arr (encL en_Pair x0)], 1⟩ from by kernel_rfl]
 unfold slices_reverseRangeCmpFunc at h
 unfold bodyOf Try.f52; simp only [Option.getD_some, loopsOf, List.append_nil, List.nil_append, List.cons_append, List.getD_cons_zero, List.getD_cons_succ]
 simp only [List.replicate]
 obtain ⟨o, h27, h⟩ := bsm h
 simp (maxSteps := 10000000) (implicitDefEqProofs := false) (disch := first | assumption | omega | exact rfl) only [bs, rs52, ls52_34, Nat.reduceAdd, ↓reduceIte, loadD_pagg a39 z39, storeD_agg z39]
 refine Wp.ctx (fun x => blockW _ (x)) (L52_34_0_ok (x1, w64 (x2 - (1 : Int)), x0) _ o (by kernel_rfl) h27) ?_
 intro e st hq
 cases o with
 | next _ => (first | cases h | (simp at h))
 | jmp n_ s_ =>
  obtain ⟨rfl, rfl, hq⟩ := hq
  obtain ⟨s8_28, s9_28, y0_28⟩ := s_
  obtain rfl := Option.some.inj h
  simp (maxSteps := 10000000) (implicitDefEqProofs := false) (disch := first | assumption | omega | exact rfl) only [bs, rs52, ls52_34, Nat.reduceAdd, ↓reduceIte, loadD_pagg a39 z39, storeD_agg z39]
  exact ⟨by first | exact .inl trivial | exact .inr trivial | simp, hq⟩
 | ret _ => (first | cases h | (simp at h))
theorem slices_reverseRangeCmpFunc_34_call {x0 : (List Pair)} {x1 : Int} {x2 : Int} {r : (List Pair)} (h : slices_reverseRangeCmpFunc similar_Match_c2 x0 x1 x2 = some r) : callW Try.prog A0 52 [.ref 0 0 x0.length 2, iv x1, iv x2, .p (.fn (.func 34) [])] [.arr (encL en_Pair x0)] = some (.p (.tup []), [.arr (encL en_Pair r)]) := f52_34_ok x0 x1 x2 _ h
def ls53_34 := @idxR_26
noncomputable def L53_3 : Code := (loopsOf (bodyOf Try.f53)).getD 3 .skip
def g53_3 : List Ghost := [.keep [0, 1, 2, 3, 9, 10, 12]]
def F53_34_3 (s1 : Int) (s2 : Int) (s9 : Int) (s10 : Int) : (Int × (List Pair)) → St := fun (s12, y0) => ⟨[.ref 0 0 y0.length 2, iv s1, iv s2, .p (.fn (.func 34) []), .junk, .junk, .junk, .junk, .junk, iv s9, iv s10, .junk, iv s12, .junk, .junk, .junk, .junk, .junk, .junk, .junk, .junk, .junk, .junk, .junk, .junk, .junk, .junk, .junk, .junk, .junk, .junk, .junk, .junk, .junk, .junk, .junk, .junk, .junk, .junk, .junk, .junk, .junk, .junk, .junk, .junk, .junk, .junk, .junk, .junk, .junk, .junk, .junk, .junk, .junk, .junk, .junk, .junk, .junk, .junk, .junk, .junk, .junk, .junk, .junk, .junk, .junk, .junk, .junk, .junk, .junk, .junk, .junk, .junk, .junk, .junk, .junk, .junk, .junk, .junk, .junk, .junk, .junk, .junk, .junk, .junk, .junk, .junk, .junk, .junk, .junk, .junk, .junk, .junk, .junk, .junk, .junk, .junk, .junk, .junk, .junk, .junk, .junk, .junk, .junk, .junk, .junk, .junk, .junk, .junk, .junk, .junk, .junk, .junk, .junk, .junk, .junk, .junk, .junk, .junk, .junk, .junk, .junk, .junk, .junk, .junk, .junk, .junk, .junk, .junk, .junk, .junk, .junk, .junk, .junk, .junk, .junk, .junk, .junk, .junk, .junk, .junk], [.arr (encL en_Pair y0)], 1⟩
theorem L53_34_3_ok (s1 : Int) (s2 : Int) (s9 : Int) (s10 : Int) : ∀ s st o, ghostsD g53_3 st = some (F53_34_3 s1 s2 s9 s10 s) → iter (slices_partialInsertionSortCmpFunc_L3 similar_Match_c2 s1 s2 s9 s10) s = some o →
    Wp (evW Try.prog A0 53 (.loop L53_3) st) (OutQ (F53_34_3 s1 s2 s9 s10) g53_3 (fun n s st => n = 6 ∧ ghostsD [.keep [0, 1, 2, 3, 9, 10, 12]] st = some (F53_34_3 s1 s2 s9 s10 s)) (fun r st => finishD Try.prog A0 53 Try.f53 st = some (.p (.v (.bool r.1)), [.arr (encL en_Pair r.2)])) o) := by
 refine Wp.iter ?_
 intro s st o hg h
 obtain ⟨s12, y0⟩ := s
 unfold slices_partialInsertionSortCmpFunc_L3 at h
 unfold g53_3 F53_34_3 at hg ⊢
 (try simp only [] at h hg)
 unfold L53_3 bodyOf Try.f53; simp only [Option.getD_some, loopsOf, List.append_nil, List.nil_append, List.cons_append, List.getD_cons_zero, List.getD_cons_succ]
 by_cases h74 : s12 < s2
 ·rw [if_pos h74] at h
  have h74' : decide (s12 < s2) = true := decide_eq_true h74
  obtain ⟨v75, h76, h⟩ := bsm h
  obtain ⟨h76a, h76b, _⟩ := rd_some h76
  have h77 := lk_arr_39 h76
  obtain ⟨v78, h79, h⟩ := bsm h
  obtain ⟨h79a, h79b, _⟩ := rd_some h79
  have h80 := lk_arr_39 h79
  obtain ⟨r81, h82, h⟩ := bsm h
  have h83 : ∀ H, callD (callW Try.prog A0) A0 H 34 [.p (.agg [.v (.int .i64 v75.Old), .v (.int .i64 v75.New)]), .p (.agg [.v (.int .i64 v78.Old), .v (.int .i64 v78.New)])] = some (.p (.v (.int .i64 r81)), none) := fun H => similar_Match_c2_call h82
  by_cases h84 : r81 < (0 : Int)
  ·rw [if_pos h84] at h
   have h84' : decide (r81 < (0 : Int)) = true := decide_eq_true h84
   have h85 := lk_arr_39 h79
   have h86 := lk_arr_39 h76
   have h87 : ∀ (H : List Ob) (id : Nat), staOb H id (s12.toNat * 2) 2 [.v (.int .i64 v78.Old), .v (.int .i64 v78.New)] (some (.arr (encL en_Pair y0))) = some (H.set id (.arr (encL en_Pair (y0.set s12.toNat v78)))) := fun H id => by
       have := sta_arr (H := H) (id := id) (v := v78) en_Pair_len h76a h76b
       rw [en_Pair_eq] at this
       exact this
   have h88 : (y0.set s12.toNat v78).length = y0.length := List.length_set
   obtain ⟨v89, h90, h⟩ := bsm h
   obtain ⟨h90a, h90b, _⟩ := rd_some h90
   have h91 : ∀ (H : List Ob) (id : Nat), staOb H id ((w64 (s12 - (1 : Int))).toNat * 2) 2 [.v (.int .i64 v75.Old), .v (.int .i64 v75.New)] (some (.arr (encL en_Pair (y0.set s12.toNat v78)))) = some (H.set id (.arr (encL en_Pair ((y0.set s12.toNat v78).set (w64 (s12 - (1 : Int))).toNat v75)))) := fun H id => by
       have := sta_arr (H := H) (id := id) (v := v75) en_Pair_len h90a h90b
       rw [en_Pair_eq] at this
       exact this
   have h92 : ((y0.set s12.toNat v78).set (w64 (s12 - (1 : Int))).toNat v75).length = (y0.set s12.toNat v78).length := List.length_set
   obtain rfl := Option.some.inj h
   simp (maxSteps := 10000000) (implicitDefEqProofs := false) (disch := first | assumption | omega | exact rfl) only [bs, rs53, ls53_34, Nat.reduceAdd, ↓reduceIte, loadD_pagg a39 z39, storeD_agg z39, hg, ↓h74', h77, h80, h83, ↓h84', h85, h86, h87, h91]
   exact ⟨rfl, by simp only [List.length_set, cpL_len]; kernel_rfl⟩
  ·rw [if_neg h84] at h
   have h84' : decide (r81 < (0 : Int)) = false := decide_eq_false h84
   obtain rfl := Option.some.inj h
   simp (maxSteps := 10000000) (implicitDefEqProofs := false) (disch := first | assumption | omega | exact rfl) only [bs, rs53, ls53_34, Nat.reduceAdd, ↓reduceIte, loadD_pagg a39 z39, storeD_agg z39, hg, ↓h74', h77, h80, h83, ↓h84']
   exact ⟨rfl, rfl, by kernel_rfl⟩
 ·rw [if_neg h74] at h
  have h74' : decide (s12 < s2) = false := decide_eq_false h74
  obtain rfl := Option.some.inj h
  simp (maxSteps := 10000000) (implicitDefEqProofs := false) (disch := first | assumption | omega | exact rfl) only [bs, rs53, ls53_34, Nat.reduceAdd, ↓reduceIte, loadD_pagg a39 z39, storeD_agg z39, hg, ↓h74']
  exact ⟨rfl, rfl, by kernel_rfl⟩
noncomputable def L53_2 : Code := (loopsOf (bodyOf Try.f53)).getD 2 .skip
def g53_2 : List Ghost := [.keep [0, 1, 2, 3, 9, 10, 11]]
def F53_34_2 (s1 : Int) (s2 : Int) (s9 : Int) (s10 : Int) : (Int × (List Pair)) → St := fun (s11, y0) => ⟨[.ref 0 0 y0.length 2, iv s1, iv s2, .p (.fn (.func 34) []), .junk, .junk, .junk, .junk, .junk, iv s9, iv s10, iv s11, .junk, .junk, .junk, .junk, .junk, .junk, .junk, .junk, .junk, .junk, .junk, .junk, .junk, .junk, .junk, .junk, .junk, .junk, .junk, .junk, .junk, .junk, .junk, .junk, .junk, .junk, .junk, .junk, .junk, .junk, .junk, .junk, .junk, .junk, .junk, .junk, .junk, .junk, .junk, .junk, .junk, .junk, .junk, .junk, .junk, .junk, .junk, .junk, .junk, .junk, .junk, .junk, .junk, .junk, .junk, .junk, .junk, .junk, .junk, .junk, .junk, .junk, .junk, .junk, .junk, .junk, .junk, .junk, .junk, .junk, .junk, .junk, .junk, .junk, .junk, .junk, .junk, .junk, .junk, .junk, .junk, .junk, .junk, .junk, .junk, .junk, .junk, .junk, .junk, .junk, .junk, .junk, .junk, .junk, .junk, .junk, .junk, .junk, .junk, .junk, .junk, .junk, .junk, .junk, .junk, .junk, .junk, .junk, .junk, .junk, .junk, .junk, .junk, .junk, .junk, .junk, .junk, .junk, .junk, .junk, .junk, .junk, .junk, .junk, .junk, .junk, .junk, .junk, .junk], [.arr (encL en_Pair y0)], 1⟩
theorem L53_34_2_ok (s1 : Int) (s2 : Int) (s9 : Int) (s10 : Int) : ∀ s st o, ghostsD g53_2 st = some (F53_34_2 s1 s2 s9 s10 s) → iter (slices_partialInsertionSortCmpFunc_L2 similar_Match_c2 s1 s2 s9 s10) s = some o →
    Wp (evW Try.prog A0 53 (.loop L53_2) st) (OutQ (F53_34_2 s1 s2 s9 s10) g53_2 (fun n s st => n = 4 ∧ ghostsD [.keep [0, 1, 2, 3, 9, 10, 11]] st = some (F53_34_2 s1 s2 s9 s10 s)) (fun r st => finishD Try.prog A0 53 Try.f53 st = some (.p (.v (.bool r.1)), [.arr (encL en_Pair r.2)])) o) := by
 refine Wp.iter ?_
 intro s st o hg h
 obtain ⟨s11, y0⟩ := s
 unfold slices_partialInsertionSortCmpFunc_L2 at h
 unfold g53_2 F53_34_2 at hg ⊢
 (try simp only [] at h hg)
 unfold L53_2 bodyOf Try.f53; simp only [Option.getD_some, loopsOf, List.append_nil, List.nil_append, List.cons_append, List.getD_cons_zero, List.getD_cons_succ]
 by_cases h30 : (1 : Int) ≤ s11
 ·rw [if_pos h30] at h
  have h30' : decide ((1 : Int) ≤ s11) = true := decide_eq_true h30
  obtain ⟨v31, h32, h⟩ := bsm h
  obtain ⟨h32a, h32b, _⟩ := rd_some h32
  have h33 := lk_arr_39 h32
  obtain ⟨v34, h35, h⟩ := bsm h
  obtain ⟨h35a, h35b, _⟩ := rd_some h35
  have h36 := lk_arr_39 h35
  obtain ⟨r37, h38, h⟩ := bsm h
  have h39 : ∀ H, callD (callW Try.prog A0) A0 H 34 [.p (.agg [.v (.int .i64 v31.Old), .v (.int .i64 v31.New)]), .p (.agg [.v (.int .i64 v34.Old), .v (.int .i64 v34.New)])] = some (.p (.v (.int .i64 r37)), none) := fun H => similar_Match_c2_call h38
  by_cases h40 : r37 < (0 : Int)
  ·rw [if_pos h40] at h
   have h40' : decide (r37 < (0 : Int)) = true := decide_eq_true h40
   have h41 := lk_arr_39 h35
   have h42 := lk_arr_39 h32
   have h43 : ∀ (H : List Ob) (id : Nat), staOb H id (s11.toNat * 2) 2 [.v (.int .i64 v34.Old), .v (.int .i64 v34.New)] (some (.arr (encL en_Pair y0))) = some (H.set id (.arr (encL en_Pair (y0.set s11.toNat v34)))) := fun H id => by
       have := sta_arr (H := H) (id := id) (v := v34) en_Pair_len h32a h32b
       rw [en_Pair_eq] at this
       exact this
   have h44 : (y0.set s11.toNat v34).length = y0.length := List.length_set
   obtain ⟨v45, h46, h⟩ := bsm h
   obtain ⟨h46a, h46b, _⟩ := rd_some h46
   have h47 : ∀ (H : List Ob) (id : Nat), staOb H id ((w64 (s11 - (1 : Int))).toNat * 2) 2 [.v (.int .i64 v31.Old), .v (.int .i64 v31.New)] (some (.arr (encL en_Pair (y0.set s11.toNat v34)))) = some (H.set id (.arr (encL en_Pair ((y0.set s11.toNat v34).set (w64 (s11 - (1 : Int))).toNat v31)))) := fun H id => by
       have := sta_arr (H := H) (id := id) (v := v31) en_Pair_len h46a h46b
       rw [en_Pair_eq] at this
       exact this
   have h48 : ((y0.set s11.toNat v34).set (w64 (s11 - (1 : Int))).toNat v31).length = (y0.set s11.toNat v34).length := List.length_set
   obtain rfl := Option.some.inj h
   simp (maxSteps := 10000000) (implicitDefEqProofs := false) (disch := first | assumption | omega | exact rfl) only [bs, rs53, ls53_34, Nat.reduceAdd, ↓reduceIte, loadD_pagg a39 z39, storeD_agg z39, hg, ↓h30', h33, h36, h39, ↓h40', h41, h42, h43, h47]
   exact ⟨rfl, by simp only [List.length_set, cpL_len]; kernel_rfl⟩
  ·rw [if_neg h40] at h
   have h40' : decide (r37 < (0 : Int)) = false := decide_eq_false h40
   obtain rfl := Option.some.inj h
   simp (maxSteps := 10000000) (implicitDefEqProofs := false) (disch := first | assumption | omega | exact rfl) only [bs, rs53, ls53_34, Nat.reduceAdd, ↓reduceIte, loadD_pagg a39 z39, storeD_agg z39, hg, ↓h30', h33, h36, h39, ↓h40']
   exact ⟨rfl, rfl, by kernel_rfl⟩
 ·rw [if_neg h30] at h
  have h30' : decide ((1 : Int) ≤ s11) = false := decide_eq_false h30
  obtain rfl := Option.some.inj h
  simp (maxSteps := 10000000) (implicitDefEqProofs := false) (disch := first | assumption | omega | exact rfl) only [bs, rs53, ls53_34, Nat.reduceAdd, ↓reduceIte, loadD_pagg a39 z39, storeD_agg z39, hg, ↓h30']
  exact ⟨rfl, rfl, by kernel_rfl⟩
noncomputable def L53_1 : Code := (loopsOf (bodyOf Try.f53)).getD 1 .skip
def g53_1 : List Ghost := [.keep [0, 1, 2, 3, 9, 10]]
def F53_34_1 (s1 : Int) (s2 : Int) (s10 : Int) (y0 : (List Pair)) : Int → St := fun s9 => ⟨[.ref 0 0 y0.length 2, iv s1, iv s2, .p (.fn (.func 34) []), .junk, .junk, .junk, .junk, .junk, iv s9, iv s10, .junk, .junk, .junk, .junk, .junk, .junk, .junk, .junk, .junk, .junk, .junk, .junk, .junk, .junk, .junk, .junk, .junk, .junk, .junk, .junk, .junk, .junk, .junk, .junk, .junk, .junk, .junk, .junk, .junk, .junk, .junk, .junk, .junk, .junk, .junk, .junk, .junk, .junk, .junk, .junk, .junk, .junk, .junk, .junk, .junk, .junk, .junk, .junk, .junk, .junk, .junk, .junk, .junk, .junk, .junk, .junk, .junk, .junk, .junk, .junk, .junk, .junk, .junk, .junk, .junk, .junk, .junk, .junk, .junk, .junk, .junk, .junk, .junk, .junk, .junk, .junk, .junk, .junk, .junk, .junk, .junk, .junk, .junk, .junk, .junk, .junk, .junk, .junk, .junk, .junk, .junk, .junk, .junk, .junk, .junk, .junk, .junk, .junk, .junk, .junk, .junk, .junk, .junk, .junk, .junk, .junk, .junk, .junk, .junk, .junk, .junk, .junk, .junk, .junk, .junk, .junk, .junk, .junk, .junk, .junk, .junk, .junk, .junk, .junk, .junk, .junk, .junk, .junk, .junk, .junk], [.arr (encL en_Pair y0)], 1⟩
theorem L53_34_1_ok (s1 : Int) (s2 : Int) (s10 : Int) (y0 : (List Pair)) : ∀ s st o, ghostsD g53_1 st = some (F53_34_1 s1 s2 s10 y0 s) → iter (slices_partialInsertionSortCmpFunc_L1 similar_Match_c2 s1 s2 s10 y0) s = some o →
    Wp (evW Try.prog A0 53 (.loop L53_1) st) (OutQ (F53_34_1 s1 s2 s10 y0) g53_1 (fun n s st => n = 2 ∧ ghostsD [.keep [0, 1, 2, 3, 9, 10]] st = some (F53_34_1 s1 s2 s10 y0 s)) (fun r st => finishD Try.prog A0 53 Try.f53 st = some (.p (.v (.bool r.1)), [.arr (encL en_Pair r.2)])) o) := by
 refine Wp.iter ?_
 intro s st o hg h
 generalize s = s9 at hg h
 unfold slices_partialInsertionSortCmpFunc_L1 at h
 unfold g53_1 F53_34_1 at hg ⊢
 (try simp only [] at h hg)
 unfold L53_1 bodyOf Try.f53; simp only [Option.getD_some, loopsOf, List.append_nil, List.nil_append, List.cons_append, List.getD_cons_zero, List.getD_cons_succ]
 by_cases h2 : s9 < s2
 ·rw [if_pos h2] at h
  have h2' : decide (s9 < s2) = true := decide_eq_true h2
  obtain ⟨v3, h4, h⟩ := bsm h
  obtain ⟨h4a, h4b, _⟩ := rd_some h4
  have h5 := lk_arr_39 h4
  obtain ⟨v6, h7, h⟩ := bsm h
  obtain ⟨h7a, h7b, _⟩ := rd_some h7
  have h8 := lk_arr_39 h7
  obtain ⟨r9, h10, h⟩ := bsm h
  have h11 : ∀ H, callD (callW Try.prog A0) A0 H 34 [.p (.agg [.v (.int .i64 v3.Old), .v (.int .i64 v3.New)]), .p (.agg [.v (.int .i64 v6.Old), .v (.int .i64 v6.New)])] = some (.p (.v (.int .i64 r9)), none) := fun H => similar_Match_c2_call h10
  by_cases h12 : r9 < (0 : Int)
  ·rw [if_pos h12] at h
   have h12' : decide (r9 < (0 : Int)) = true := decide_eq_true h12
   obtain rfl := Option.some.inj h
   simp (maxSteps := 10000000) (implicitDefEqProofs := false) (disch := first | assumption | omega | exact rfl) only [bs, rs53, ls53_34, Nat.reduceAdd, ↓reduceIte, loadD_pagg a39 z39, storeD_agg z39, hg, ↓h2', h5, h8, h11, ↓h12']
   exact ⟨rfl, rfl, by kernel_rfl⟩
  ·rw [if_neg h12] at h
   have h12' : decide (r9 < (0 : Int)) = false := decide_eq_false h12
   obtain rfl := Option.some.inj h
   simp (maxSteps := 10000000) (implicitDefEqProofs := false) (disch := first | assumption | omega | exact rfl) only [bs, rs53, ls53_34, Nat.reduceAdd, ↓reduceIte, loadD_pagg a39 z39, storeD_agg z39, hg, ↓h2', h5, h8, h11, ↓h12']
   exact ⟨rfl, by kernel_rfl⟩
 ·rw [if_neg h2] at h
  have h2' : decide (s9 < s2) = false := decide_eq_false h2
  obtain rfl := Option.some.inj h
  simp (maxSteps := 10000000) (implicitDefEqProofs := false) (disch := first | assumption | omega | exact rfl) only [bs, rs53, ls53_34, Nat.reduceAdd, ↓reduceIte, loadD_pagg a39 z39, storeD_agg z39, hg, ↓h2']
  exact ⟨rfl, rfl, by kernel_rfl⟩
noncomputable def L53_0 : Code := (loopsOf (bodyOf Try.f53)).getD 0 .skip
def g53_0 : List Ghost := [.keep [0, 1, 2, 3, 9, 10]]
def F53_34_0 (s1 : Int) (s2 : Int) : (Int × Int × (List Pair)) → St := fun (s9, s10, y0) => ⟨[.ref 0 0 y0.length 2, iv s1, iv s2, .p (.fn (.func 34) []), .junk, .junk, .junk, .junk, .junk, iv s9, iv s10, .junk, .junk, .junk, .junk, .junk, .junk, .junk, .junk, .junk, .junk, .junk, .junk, .junk, .junk, .junk, .junk, .junk, .junk, .junk, .junk, .junk, .junk, .junk, .junk, .junk, .junk, .junk, .junk, .junk, .junk, .junk, .junk, .junk, .junk, .junk, .junk, .junk, .junk, .junk, .junk, .junk, .junk, .junk, .junk, .junk, .junk, .junk, .junk, .junk, .junk, .junk, .junk, .junk, .junk, .junk, .junk, .junk, .junk, .junk, .junk, .junk, .junk, .junk, .junk, .junk, .junk, .junk, .junk, .junk, .junk, .junk, .junk, .junk, .junk, .junk, .junk, .junk, .junk, .junk, .junk, .junk, .junk, .junk, .junk, .junk, .junk, .junk, .junk, .junk, .junk, .junk, .junk, .junk, .junk, .junk, .junk, .junk, .junk, .junk, .junk, .junk, .junk, .junk, .junk, .junk, .junk, .junk, .junk, .junk, .junk, .junk, .junk, .junk, .junk, .junk, .junk, .junk, .junk, .junk, .junk, .junk, .junk, .junk, .junk, .junk, .junk, .junk, .junk, .junk, .junk], [.arr (encL en_Pair y0)], 1⟩
theorem L53_34_0_ok (s1 : Int) (s2 : Int) : ∀ s st o, ghostsD g53_0 st = some (F53_34_0 s1 s2 s) → iter (slices_partialInsertionSortCmpFunc_L0 similar_Match_c2 s1 s2) s = some o →
    Wp (evW Try.prog A0 53 (.loop L53_0) st) (OutQ (F53_34_0 s1 s2) g53_0 (fun n s st => n = 0 ∧ ghostsD [.keep [0, 1, 2, 3, 9, 10]] st = some (F53_34_0 s1 s2 s)) (fun r st => finishD Try.prog A0 53 Try.f53 st = some (.p (.v (.bool r.1)), [.arr (encL en_Pair r.2)])) o) := by
 refine Wp.iter ?_
 intro s st o hg h
 obtain ⟨s9, s10, y0⟩ := s
 unfold slices_partialInsertionSortCmpFunc_L0 at h
 unfold g53_0 F53_34_0 at hg ⊢
 (try simp only [] at h hg)
 unfold L53_0 bodyOf Try.f53; simp only [Option.getD_some, loopsOf, List.append_nil, List.nil_append, List.cons_append, List.getD_cons_zero, List.getD_cons_succ]
 by_cases h1 : s10 < (5 : Int)
 ·rw [if_pos h1] at h
  have h1' : decide (s10 < (5 : Int)) = true := decide_eq_true h1
  obtain ⟨o, h13, h⟩ := bsm h
  simp (maxSteps := 10000000) (implicitDefEqProofs := false) (disch := first | assumption | omega | exact rfl) only [bs, rs53, ls53_34, Nat.reduceAdd, ↓reduceIte, loadD_pagg a39 z39, storeD_agg z39, hg, ↓h1']
  refine Wp.ctx (fun x => seqW _ _ _ _ (blockW _ (seqW _ _ _ _ (blockW _ (x))))) (L53_34_1_ok s1 s2 s10 y0 s9 _ o (by kernel_rfl) h13) ?_
  intro e st hq
  cases o with
  | next _ => (first | cases h | (simp at h))
  | jmp n_ s_ =>
   obtain ⟨rfl, rfl, hq⟩ := hq
   generalize s_ = s9_14 at h hq
   unfold F53_34_1 at hq
   (try simp only [] at h hq)
   by_cases h15 : s9_14 = s2
   ·rw [if_pos h15] at h
    have h15' : decide (s9_14 = s2) = true := decide_eq_true h15
    obtain rfl := Option.some.inj h
    simp (maxSteps := 10000000) (implicitDefEqProofs := false) (disch := first | assumption | omega | exact rfl) only [bs, rs53, ls53_34, Nat.reduceAdd, ↓reduceIte, loadD_pagg a39 z39, storeD_agg z39, hg, ↓h1', hq, ↓h15']
    refine ⟨rfl, ?_⟩
    show _ = _
    kernel_rfl
   ·rw [if_neg h15] at h
    have h15' : decide (s9_14 = s2) = false := decide_eq_false h15
    by_cases h16 : (w64 (s2 - s1)) < (50 : Int)
    ·rw [if_pos h16] at h
     have h16' : decide ((w64 (s2 - s1)) < (50 : Int)) = true := decide_eq_true h16
     obtain rfl := Option.some.inj h
     simp (maxSteps := 10000000) (implicitDefEqProofs := false) (disch := first | assumption | omega | exact rfl) only [bs, rs53, ls53_34, Nat.reduceAdd, ↓reduceIte, loadD_pagg a39 z39, storeD_agg z39, hg, ↓h1', hq, ↓h15', ↓h16']
     refine ⟨rfl, ?_⟩
     show _ = _
     kernel_rfl
    ·rw [if_neg h16] at h
     have h16' : decide ((w64 (s2 - s1)) < (50 : Int)) = false := decide_eq_false h16
     obtain ⟨v17, h18, h⟩ := bsm h
     obtain ⟨h18a, h18b, _⟩ := rd_some h18
     have h19 := lk_arr_39 h18
     obtain ⟨v20, h21, h⟩ := bsm h
     obtain ⟨h21a, h21b, _⟩ := rd_some h21
     have h22 := lk_arr_39 h21
     have h23 : ∀ (H : List Ob) (id : Nat), staOb H id (s9_14.toNat * 2) 2 [.v (.int .i64 v17.Old), .v (.int .i64 v17.New)] (some (.arr (encL en_Pair y0))) = some (H.set id (.arr (encL en_Pair (y0.set s9_14.toNat v17)))) := fun H id => by
         have := sta_arr (H := H) (id := id) (v := v17) en_Pair_len h21a h21b
         rw [en_Pair_eq] at this
         exact this
     have h24 : (y0.set s9_14.toNat v17).length = y0.length := List.length_set
     obtain ⟨v25, h26, h⟩ := bsm h
     obtain ⟨h26a, h26b, _⟩ := rd_some h26
     have h27 : ∀ (H : List Ob) (id : Nat), staOb H id ((w64 (s9_14 - (1 : Int))).toNat * 2) 2 [.v (.int .i64 v20.Old), .v (.int .i64 v20.New)] (some (.arr (encL en_Pair (y0.set s9_14.toNat v17)))) = some (H.set id (.arr (encL en_Pair ((y0.set s9_14.toNat v17).set (w64 (s9_14 - (1 : Int))).toNat v20)))) := fun H id => by
         have := sta_arr (H := H) (id := id) (v := v20) en_Pair_len h26a h26b
         rw [en_Pair_eq] at this
         exact this
     have h28 : ((y0.set s9_14.toNat v17).set (w64 (s9_14 - (1 : Int))).toNat v20).length = (y0.set s9_14.toNat v17).length := List.length_set
     by_cases h29 : (2 : Int) ≤ (w64 (s9_14 - s1))
     ·rw [if_pos h29] at h
      have h29' : decide ((2 : Int) ≤ (w64 (s9_14 - s1))) = true := decide_eq_true h29
      obtain ⟨o, h49, h⟩ := bsm h
      simp (maxSteps := 10000000) (implicitDefEqProofs := false) (disch := first | assumption | omega | exact rfl) only [bs, rs53, ls53_34, Nat.reduceAdd, ↓reduceIte, loadD_pagg a39 z39, storeD_agg z39, hg, ↓h1', hq, ↓h15', ↓h16', h19, h22, h23, h27, ↓h29']
      refine Wp.ctx (fun x => seqW _ _ _ _ (blockW _ (seqW _ _ _ _ (blockW _ (x))))) (L53_34_2_ok s1 s2 s9_14 s10 (w64 (s9_14 - (1 : Int)), ((y0.set s9_14.toNat v17).set (w64 (s9_14 - (1 : Int))).toNat v20)) _ o (by unfold F53_34_2; simp only [List.length_set, cpL_len]; kernel_rfl) h49) ?_
      intro e st hq
      cases o with
      | next _ => (first | cases h | (simp at h))
      | jmp n_ s_ =>
       obtain ⟨rfl, rfl, hq⟩ := hq
       obtain ⟨s11_50, y0_50⟩ := s_
       unfold F53_34_2 at hq
       (try simp only [] at h hq)
       by_cases h51 : (2 : Int) ≤ (w64 (s2 - s9_14))
       ·rw [if_pos h51] at h
        have h51' : decide ((2 : Int) ≤ (w64 (s2 - s9_14))) = true := decide_eq_true h51
        obtain ⟨o, h71, h⟩ := bsm h
        simp (maxSteps := 10000000) (implicitDefEqProofs := false) (disch := first | assumption | omega | exact rfl) only [bs, rs53, ls53_34, Nat.reduceAdd, ↓reduceIte, loadD_pagg a39 z39, storeD_agg z39, hg, ↓h1', hq, ↓h15', ↓h16', h19, h22, h23, h27, ↓h29', hq, ↓h51']
        refine Wp.ctx (fun x => seqW _ _ _ _ (blockW _ (blockW _ (x)))) (L53_34_3_ok s1 s2 s9_14 s10 (w64 (s9_14 + (1 : Int)), y0_50) _ o (by kernel_rfl) h71) ?_
        intro e st hq
        cases o with
        | next _ => (first | cases h | (simp at h))
        | jmp n_ s_ =>
         obtain ⟨rfl, rfl, hq⟩ := hq
         obtain ⟨s12_72, y0_72⟩ := s_
         unfold F53_34_3 at hq
         (try simp only [] at h hq)
         obtain rfl := Option.some.inj h
         simp (maxSteps := 10000000) (implicitDefEqProofs := false) (disch := first | assumption | omega | exact rfl) only [bs, rs53, ls53_34, Nat.reduceAdd, ↓reduceIte, loadD_pagg a39 z39, storeD_agg z39, hg, ↓h1', hq, ↓h15', ↓h16', h19, h22, h23, h27, ↓h29', hq, ↓h51', hq]
         exact ⟨rfl, by kernel_rfl⟩
        | ret _ => (first | cases h | (simp at h))
       ·rw [if_neg h51] at h
        have h51' : decide ((2 : Int) ≤ (w64 (s2 - s9_14))) = false := decide_eq_false h51
        simp (maxSteps := 10000000) (implicitDefEqProofs := false) (disch := first | assumption | omega | exact rfl) only [bs, rs53, ls53_34, Nat.reduceAdd, ↓reduceIte, loadD_pagg a39 z39, storeD_agg z39, hg, ↓h1', hq, ↓h15', ↓h16', h19, h22, h23, h27, ↓h29', hq, ↓h51']
        refine Wp.gh (fun x => regW _ _ _ _ _ x) ⟨[.ref 0 0 y0_50.length 2, iv s1, iv s2, .p (.fn (.func 34) []), .junk, .junk, .junk, .junk, .junk, iv s9_14, iv s10, .junk, .junk, .junk, .junk, .junk, .junk, .junk, .junk, .junk, .junk, .junk, .junk, .junk, .junk, .junk, .junk, .junk, .junk, .junk, .junk, .junk, .junk, .junk, .junk, .junk, .junk, .junk, .junk, .junk, .junk, .junk, .junk, .junk, .junk, .junk, .junk, .junk, .junk, .junk, .junk, .junk, .junk, .junk, .junk, .junk, .junk, .junk, .junk, .junk, .junk, .junk, .junk, .junk, .junk, .junk, .junk, .junk, .junk, .junk, .junk, .junk, .junk, .junk, .junk, .junk, .junk, .junk, .junk, .junk, .junk, .junk, .junk, .junk, .junk, .junk, .junk, .junk, .junk, .junk, .junk, .junk, .junk, .junk, .junk, .junk, .junk, .junk, .junk, .junk, .junk, .junk, .junk, .junk, .junk, .junk, .junk, .junk, .junk, .junk, .junk, .junk, .junk, .junk, .junk, .junk, .junk, .junk, .junk, .junk, .junk, .junk, .junk, .junk, .junk, .junk, .junk, .junk, .junk, .junk, .junk, .junk, .junk, .junk, .junk, .junk, .junk, .junk, .junk, .junk, .junk], [.arr (encL en_Pair y0_50)], 1⟩ (by kernel_rfl) ?_
        obtain rfl := Option.some.inj h
        simp (maxSteps := 10000000) (implicitDefEqProofs := false) (disch := first | assumption | omega | exact rfl) only [bs, rs53, ls53_34, Nat.reduceAdd, ↓reduceIte, loadD_pagg a39 z39, storeD_agg z39, hg, ↓h1', hq, ↓h15', ↓h16', h19, h22, h23, h27, ↓h29', hq, ↓h51']
        exact ⟨rfl, by kernel_rfl⟩
      | ret _ => (first | cases h | (simp at h))
     ·rw [if_neg h29] at h
      have h29' : decide ((2 : Int) ≤ (w64 (s9_14 - s1))) = false := decide_eq_false h29
      simp (maxSteps := 10000000) (implicitDefEqProofs := false) (disch := first | assumption | omega | exact rfl) only [bs, rs53, ls53_34, Nat.reduceAdd, ↓reduceIte, loadD_pagg a39 z39, storeD_agg z39, hg, ↓h1', hq, ↓h15', ↓h16', h19, h22, h23, h27, ↓h29']
      refine Wp.gh (fun x => seqW _ _ _ _ (blockW _ (seqW _ _ _ _ (regW _ _ _ _ _ x)))) ⟨[.ref 0 0 (((y0.set s9_14.toNat v17).set (w64 (s9_14 - (1 : Int))).toNat v20).length) 2, iv s1, iv s2, .p (.fn (.func 34) []), .junk, .junk, .junk, .junk, .junk, iv s9_14, iv s10, .junk, .junk, .junk, .junk, .junk, .junk, .junk, .junk, .junk, .junk, .junk, .junk, .junk, .junk, .junk, .junk, .junk, .junk, .junk, .junk, .junk, .junk, .junk, .junk, .junk, .junk, .junk, .junk, .junk, .junk, .junk, .junk, .junk, .junk, .junk, .junk, .junk, .junk, .junk, .junk, .junk, .junk, .junk, .junk, .junk, .junk, .junk, .junk, .junk, .junk, .junk, .junk, .junk, .junk, .junk, .junk, .junk, .junk, .junk, .junk, .junk, .junk, .junk, .junk, .junk, .junk, .junk, .junk, .junk, .junk, .junk, .junk, .junk, .junk, .junk, .junk, .junk, .junk, .junk, .junk, .junk, .junk, .junk, .junk, .junk, .junk, .junk, .junk, .junk, .junk, .junk, .junk, .junk, .junk, .junk, .junk, .junk, .junk, .junk, .junk, .junk, .junk, .junk, .junk, .junk, .junk, .junk, .junk, .junk, .junk, .junk, .junk, .junk, .junk, .junk, .junk, .junk, .junk, .junk, .junk, .junk, .junk, .junk, .junk, .junk, .junk, .junk, .junk, .junk, .junk], [.arr (encL en_Pair ((y0.set s9_14.toNat v17).set (w64 (s9_14 - (1 : Int))).toNat v20))], 1⟩ (by simp only [List.length_set, cpL_len]; kernel_rfl) ?_
      by_cases h73 : (2 : Int) ≤ (w64 (s2 - s9_14))
      ·rw [if_pos h73] at h
       have h73' : decide ((2 : Int) ≤ (w64 (s2 - s9_14))) = true := decide_eq_true h73
       obtain ⟨o, h93, h⟩ := bsm h
       simp (maxSteps := 10000000) (implicitDefEqProofs := false) (disch := first | assumption | omega | exact rfl) only [bs, rs53, ls53_34, Nat.reduceAdd, ↓reduceIte, loadD_pagg a39 z39, storeD_agg z39, hg, ↓h1', hq, ↓h15', ↓h16', h19, h22, h23, h27, ↓h29', ↓h73']
       refine Wp.ctx (fun x => seqW _ _ _ _ (blockW _ (blockW _ (x)))) (L53_34_3_ok s1 s2 s9_14 s10 (w64 (s9_14 + (1 : Int)), ((y0.set s9_14.toNat v17).set (w64 (s9_14 - (1 : Int))).toNat v20)) _ o (by kernel_rfl) h93) ?_
       intro e st hq
       cases o with
       | next _ => (first | cases h | (simp at h))
       | jmp n_ s_ =>
        obtain ⟨rfl, rfl, hq⟩ := hq
        obtain ⟨s12_94, y0_94⟩ := s_
        unfold F53_34_3 at hq
        (try simp only [] at h hq)
        obtain rfl := Option.some.inj h
        simp (maxSteps := 10000000) (implicitDefEqProofs := false) (disch := first | assumption | omega | exact rfl) only [bs, rs53, ls53_34, Nat.reduceAdd, ↓reduceIte, loadD_pagg a39 z39, storeD_agg z39, hg, ↓h1', hq, ↓h15', ↓h16', h19, h22, h23, h27, ↓h29', ↓h73', hq]
        exact ⟨rfl, by kernel_rfl⟩
       | ret _ => (first | cases h | (simp at h))
      ·rw [if_neg h73] at h
       have h73' : decide ((2 : Int) ≤ (w64 (s2 - s9_14))) = false := decide_eq_false h73
       simp (maxSteps := 10000000) (implicitDefEqProofs := false) (disch := first | assumption | omega | exact rfl) only [bs, rs53, ls53_34, Nat.reduceAdd, ↓reduceIte, loadD_pagg a39 z39, storeD_agg z39, hg, ↓h1', hq, ↓h15', ↓h16', h19, h22, h23, h27, ↓h29', ↓h73']
       refine Wp.gh (fun x => regW _ _ _ _ _ x) ⟨[.ref 0 0 (((y0.set s9_14.toNat v17).set (w64 (s9_14 - (1 : Int))).toNat v20).length) 2, iv s1, iv s2, .p (.fn (.func 34) []), .junk, .junk, .junk, .junk, .junk, iv s9_14, iv s10, .junk, .junk, .junk, .junk, .junk, .junk, .junk, .junk, .junk, .junk, .junk, .junk, .junk, .junk, .junk, .junk, .junk, .junk, .junk, .junk, .junk, .junk, .junk, .junk, .junk, .junk, .junk, .junk, .junk, .junk, .junk, .junk, .junk, .junk, .junk, .junk, .junk, .junk, .junk, .junk, .junk, .junk, .junk, .junk, .junk, .junk, .junk, .junk, .junk, .junk, .junk, .junk, .junk, .junk, .junk, .junk, .junk, .junk, .junk, .junk, .junk, .junk, .junk, .junk, .junk, .junk, .junk, .junk, .junk, .junk, .junk, .junk, .junk, .junk, .junk, .junk, .junk, .junk, .junk, .junk, .junk, .junk, .junk, .junk, .junk, .junk, .junk, .junk, .junk, .junk, .junk, .junk, .junk, .junk, .junk, .junk, .junk, .junk, .junk, .junk, .junk, .junk, .junk, .junk, .junk, .junk, .junk, .junk, .junk, .junk, .junk, .junk, .junk, .junk, .junk, .junk, .junk, .junk, .junk, .junk, .junk, .junk, .junk, .junk, .junk, .junk, .junk, .junk, .junk, .junk], [.arr (encL en_Pair ((y0.set s9_14.toNat v17).set (w64 (s9_14 - (1 : Int))).toNat v20))], 1⟩ (by kernel_rfl) ?_
       obtain rfl := Option.some.inj h
       simp (maxSteps := 10000000) (implicitDefEqProofs := false) (disch := first | assumption | omega | exact rfl) only [bs, rs53, ls53_34, Nat.reduceAdd, ↓reduceIte, loadD_pagg a39 z39, storeD_agg z39, hg, ↓h1', hq, ↓h15', ↓h16', h19, h22, h23, h27, ↓h29', ↓h73']
       exact ⟨rfl, by kernel_rfl⟩
  | ret _ => (first | cases h | (simp at h))
 ·rw [if_neg h1] at h
  have h1' : decide (s10 < (5 : Int)) = false := decide_eq_false h1
  obtain rfl := Option.some.inj h
  simp (maxSteps := 10000000) (implicitDefEqProofs := false) (disch := first | assumption | omega | exact rfl) only [bs, rs53, ls53_34, Nat.reduceAdd, ↓reduceIte, loadD_pagg a39 z39, storeD_agg z39, hg, ↓h1']
  exact ⟨rfl, rfl, by kernel_rfl⟩
theorem f53_34_ok  (x0 : (List Pair)) (x1 : Int) (x2 : Int) (r : (Bool × (List Pair))) (h : slices_partialInsertionSortCmpFunc similar_Match_c2 x0 x1 x2 = some r) : callW Try.prog A0 53 [.ref 0 0 x0.length 2, iv x1, iv x2, .p (.fn (.func 34) [])] [.arr (encL en_Pair x0)] = some (.p (.v (.bool r.1)), [.arr (encL en_Pair r.2)]) := by
 refine call_ofH (fn := Try.f53) (c := bodyOf Try.f53) rfl rfl (by kernel_rfl) (by kernel_rfl) ?_
 rw [show initS Try.f53 [.ref 0 0 x0.length 2, iv x1, iv x2, .p (.fn (.func 34) [])] [.arr (encL en_Pair x0)] = ⟨.ref 0 0 x0.length 2 :: iv x1 :: iv x2 :: .p (.fn (.func 34) []) :: List.replicate 137 undefD, [.arr (encL en_Pair x0)], 1⟩ from by kernel_rfl]
 unfold slices_partialInsertionSortCmpFunc at h
 unfold bodyOf Try.f53; simp only [Option.getD_some, loopsOf, List.append_nil, List.nil_append, List.cons_append, List.getD_cons_zero, List.getD_cons_succ]
 simp only [List.replicate]
 obtain ⟨o, h95, h⟩ := bsm h
 simp (maxSteps := 10000000) (implicitDefEqProofs := false) (disch := first | assumption | omega | exact rfl) only [bs, rs53, ls53_34, Nat.reduceAdd, ↓reduceIte, loadD_pagg a39 z39, storeD_agg z39]
 refine Wp.ctx (fun x => seqW _ _ _ _ (blockW _ (x))) (L53_34_0_ok x1 x2 (w64 (x1 + (1 : Int)), (0 : Int), x0) _ o (by kernel_rfl) h95) ?_
 intro e st hq
 cases o with
 | next _ => (first | cases h | (simp at h))
 | jmp n_ s_ =>
  obtain ⟨rfl, rfl, hq⟩ := hq
  obtain ⟨s9_96, s10_96, y0_96⟩ := s_
  unfold F53_34_0 at hq
  (try simp only [] at h hq)
  obtain rfl := Option.some.inj h
  simp (maxSteps := 10000000) (implicitDefEqProofs := false) (disch := first | assumption | omega | exact rfl) only [bs, rs53, ls53_34, Nat.reduceAdd, ↓reduceIte, loadD_pagg a39 z39, storeD_agg z39, hq]
  refine ⟨by first | exact .inl trivial | exact .inr trivial | simp, ?_⟩
  show _ = _
  kernel_rfl
 | ret r97 =>
  obtain ⟨rfl, hq⟩ := hq
  obtain rfl := Option.some.inj h
  simp (maxSteps := 10000000) (implicitDefEqProofs := false) (disch := first | assumption | omega | exact rfl) only [bs, rs53, ls53_34, Nat.reduceAdd, ↓reduceIte, loadD_pagg a39 z39, storeD_agg z39]
  exact ⟨by first | exact .inl trivial | exact .inr trivial | simp, hq⟩
theorem slices_partialInsertionSortCmpFunc_34_call {x0 : (List Pair)} {x1 : Int} {x2 : Int} {r : (Bool × (List Pair))} (h : slices_partialInsertionSortCmpFunc similar_Match_c2 x0 x1 x2 = some r) : callW Try.prog A0 53 [.ref 0 0 x0.length 2, iv x1, iv x2, .p (.fn (.func 34) [])] [.arr (encL en_Pair x0)] = some (.p (.v (.bool r.1)), [.arr (encL en_Pair r.2)]) := f53_34_ok x0 x1 x2 _ h
def ls55_34 := @idxR_26
noncomputable def L55_4 : Code := (loopsOf (bodyOf Try.f55)).getD 4 .skip
def g55_4 : List Ghost := [.keep [0, 1, 4, 12, 13], .keep [0, 1, 4, 12, 13]]
def F55_34_4 (s1 : Int) (s12 : Int) (y0 : (List Pair)) : Int → St := fun s13 => ⟨[.ref 0 0 y0.length 2, iv s1, .junk, .junk, .p (.fn (.func 34) []), .junk, .junk, .junk, .junk, .junk, .junk, .junk, iv s12, iv s13, .junk, .junk, .junk, .junk, .junk, .junk, .junk, .junk, .junk, .junk, .junk, .junk, .junk, .junk, .junk, .junk, .junk, .junk, .junk, .junk, .junk, .junk, .junk, .junk, .junk, .junk, .junk, .junk, .junk, .junk, .junk, .junk, .junk, .junk, .junk, .junk, .junk, .junk, .junk, .junk, .junk, .junk, .junk, .junk, .junk, .junk, .junk, .junk, .junk, .junk, .junk, .junk, .junk, .junk, .junk, .junk, .junk, .junk, .junk, .junk, .junk, .junk, .junk, .junk, .junk, .junk, .junk, .junk, .junk, .junk, .junk, .junk, .junk, .junk, .junk, .junk, .junk, .junk, .junk, .junk, .junk, .junk, .junk, .junk, .junk, .junk, .junk, .junk, .junk, .junk, .junk, .junk, .junk, .junk, .junk, .junk, .junk, .junk, .junk, .junk, .junk, .junk, .junk, .junk, .junk, .junk, .junk, .junk, .junk, .junk, .junk, .junk, .junk, .junk, .junk, .junk, .junk, .junk, .junk, .junk, .junk, .junk, .junk, .junk, .junk, .junk, .junk, .junk, .junk, .junk, .junk, .junk, .junk, .junk, .junk, .junk, .junk, .junk, .junk, .junk, .junk, .junk, .junk, .junk, .junk, .junk, .junk, .junk, .junk, .junk, .junk, .junk, .junk, .junk, .junk, .junk, .junk, .junk, .junk, .junk, .junk, .junk, .junk, .junk], [.arr (encL en_Pair y0)], 1⟩
theorem L55_34_4_ok (s1 : Int) (s12 : Int) (y0 : (List Pair)) : ∀ s st o, ghostsD g55_4 st = some (F55_34_4 s1 s12 y0 s) → iter (slices_partitionCmpFunc_L4 similar_Match_c2 s1 s12 y0) s = some o →
    Wp (evW Try.prog A0 55 (.loop L55_4) st) (OutQ (F55_34_4 s1 s12 y0) g55_4 (fun n s st => n = 8 ∧ ghostsD [.keep [0, 1, 4, 12, 13]] st = some (F55_34_4 s1 s12 y0 s)) (fun r st => finishD Try.prog A0 55 Try.f55 st = some (.p (.tup [.v (.int .i64 r.1), .v (.bool r.2.1)]), [.arr (encL en_Pair r.2.2)])) o) := by
 refine Wp.iter ?_
 intro s st o hg h
 generalize s = s13 at hg h
 unfold slices_partitionCmpFunc_L4 at h
 unfold g55_4 F55_34_4 at hg ⊢
 (try simp only [] at h hg)
 unfold L55_4 bodyOf Try.f55; simp only [Option.getD_some, loopsOf, List.append_nil, List.nil_append, List.cons_append, List.getD_cons_zero, List.getD_cons_succ]
 by_cases h77 : s12 ≤ s13
 ·rw [if_pos h77] at h
  have h77' : decide (s12 ≤ s13) = true := decide_eq_true h77
  obtain ⟨v78, h79, h⟩ := bsm h
  obtain ⟨h79a, h79b, _⟩ := rd_some h79
  have h80 := lk_arr_39 h79
  obtain ⟨v81, h82, h⟩ := bsm h
  obtain ⟨h82a, h82b, _⟩ := rd_some h82
  have h83 := lk_arr_39 h82
  obtain ⟨r84, h85, h⟩ := bsm h
  have h86 : ∀ H, callD (callW Try.prog A0) A0 H 34 [.p (.agg [.v (.int .i64 v78.Old), .v (.int .i64 v78.New)]), .p (.agg [.v (.int .i64 v81.Old), .v (.int .i64 v81.New)])] = some (.p (.v (.int .i64 r84)), none) := fun H => similar_Match_c2_call h85
  by_cases h87 : r84 < (0 : Int)
  ·rw [if_pos h87] at h
   have h87' : decide (r84 < (0 : Int)) = true := decide_eq_true h87
   obtain rfl := Option.some.inj h
   simp (maxSteps := 10000000) (implicitDefEqProofs := false) (disch := first | assumption | omega | exact rfl) only [bs, rs55, ls55_34, Nat.reduceAdd, ↓reduceIte, loadD_pagg a39 z39, storeD_agg z39, hg, ↓h77', h80, h83, h86, ↓h87']
   exact ⟨rfl, rfl, by kernel_rfl⟩
  ·rw [if_neg h87] at h
   have h87' : decide (r84 < (0 : Int)) = false := decide_eq_false h87
   obtain rfl := Option.some.inj h
   simp (maxSteps := 10000000) (implicitDefEqProofs := false) (disch := first | assumption | omega | exact rfl) only [bs, rs55, ls55_34, Nat.reduceAdd, ↓reduceIte, loadD_pagg a39 z39, storeD_agg z39, hg, ↓h77', h80, h83, h86, ↓h87']
   exact ⟨rfl, by kernel_rfl⟩
 ·rw [if_neg h77] at h
  have h77' : decide (s12 ≤ s13) = false := decide_eq_false h77
  obtain rfl := Option.some.inj h
  simp (maxSteps := 10000000) (implicitDefEqProofs := false) (disch := first | assumption | omega | exact rfl) only [bs, rs55, ls55_34, Nat.reduceAdd, ↓reduceIte, loadD_pagg a39 z39, storeD_agg z39, hg, ↓h77']
  exact ⟨rfl, rfl, by kernel_rfl⟩
noncomputable def L55_3 : Code := (loopsOf (bodyOf Try.f55)).getD 3 .skip
def g55_3 : List Ghost := [.keep [0, 1, 4, 12, 13], .keep [0, 1, 4, 12, 13]]
def F55_34_3 (s1 : Int) (s13 : Int) (y0 : (List Pair)) : Int → St := fun s12 => ⟨[.ref 0 0 y0.length 2, iv s1, .junk, .junk, .p (.fn (.func 34) []), .junk, .junk, .junk, .junk, .junk, .junk, .junk, iv s12, iv s13, .junk, .junk, .junk, .junk, .junk, .junk, .junk, .junk, .junk, .junk, .junk, .junk, .junk, .junk, .junk, .junk, .junk, .junk, .junk, .junk, .junk, .junk, .junk, .junk, .junk, .junk, .junk, .junk, .junk, .junk, .junk, .junk, .junk, .junk, .junk, .junk, .junk, .junk, .junk, .junk, .junk, .junk, .junk, .junk, .junk, .junk, .junk, .junk, .junk, .junk, .junk, .junk, .junk, .junk, .junk, .junk, .junk, .junk, .junk, .junk, .junk, .junk, .junk, .junk, .junk, .junk, .junk, .junk, .junk, .junk, .junk, .junk, .junk, .junk, .junk, .junk, .junk, .junk, .junk, .junk, .junk, .junk, .junk, .junk, .junk, .junk, .junk, .junk, .junk, .junk, .junk, .junk, .junk, .junk, .junk, .junk, .junk, .junk, .junk, .junk, .junk, .junk, .junk, .junk, .junk, .junk, .junk, .junk, .junk, .junk, .junk, .junk, .junk, .junk, .junk, .junk, .junk, .junk, .junk, .junk, .junk, .junk, .junk, .junk, .junk, .junk, .junk, .junk, .junk, .junk, .junk, .junk, .junk, .junk, .junk, .junk, .junk, .junk, .junk, .junk, .junk, .junk, .junk, .junk, .junk, .junk, .junk, .junk, .junk, .junk, .junk, .junk, .junk, .junk, .junk, .junk, .junk, .junk, .junk, .junk, .junk, .junk, .junk, .junk], [.arr (encL en_Pair y0)], 1⟩
theorem L55_34_3_ok (s1 : Int) (s13 : Int) (y0 : (List Pair)) : ∀ s st o, ghostsD g55_3 st = some (F55_34_3 s1 s13 y0 s) → iter (slices_partitionCmpFunc_L3 similar_Match_c2 s1 s13 y0) s = some o →
    Wp (evW Try.prog A0 55 (.loop L55_3) st) (OutQ (F55_34_3 s1 s13 y0) g55_3 (fun n s st => n = 6 ∧ ghostsD [.keep [0, 1, 4, 12, 13]] st = some (F55_34_3 s1 s13 y0 s)) (fun r st => finishD Try.prog A0 55 Try.f55 st = some (.p (.tup [.v (.int .i64 r.1), .v (.bool r.2.1)]), [.arr (encL en_Pair r.2.2)])) o) := by
 refine Wp.iter ?_
 intro s st o hg h
 generalize s = s12 at hg h
 unfold slices_partitionCmpFunc_L3 at h
 unfold g55_3 F55_34_3 at hg ⊢
 (try simp only [] at h hg)
 unfold L55_3 bodyOf Try.f55; simp only [Option.getD_some, loopsOf, List.append_nil, List.nil_append, List.cons_append, List.getD_cons_zero, List.getD_cons_succ]
 by_cases h64 : s12 ≤ s13
 ·rw [if_pos h64] at h
  have h64' : decide (s12 ≤ s13) = true := decide_eq_true h64
  obtain ⟨v65, h66, h⟩ := bsm h
  obtain ⟨h66a, h66b, _⟩ := rd_some h66
  have h67 := lk_arr_39 h66
  obtain ⟨v68, h69, h⟩ := bsm h
  obtain ⟨h69a, h69b, _⟩ := rd_some h69
  have h70 := lk_arr_39 h69
  obtain ⟨r71, h72, h⟩ := bsm h
  have h73 : ∀ H, callD (callW Try.prog A0) A0 H 34 [.p (.agg [.v (.int .i64 v65.Old), .v (.int .i64 v65.New)]), .p (.agg [.v (.int .i64 v68.Old), .v (.int .i64 v68.New)])] = some (.p (.v (.int .i64 r71)), none) := fun H => similar_Match_c2_call h72
  by_cases h74 : r71 < (0 : Int)
  ·rw [if_pos h74] at h
   have h74' : decide (r71 < (0 : Int)) = true := decide_eq_true h74
   obtain rfl := Option.some.inj h
   simp (maxSteps := 10000000) (implicitDefEqProofs := false) (disch := first | assumption | omega | exact rfl) only [bs, rs55, ls55_34, Nat.reduceAdd, ↓reduceIte, loadD_pagg a39 z39, storeD_agg z39, hg, ↓h64', h67, h70, h73, ↓h74']
   exact ⟨rfl, by kernel_rfl⟩
  ·rw [if_neg h74] at h
   have h74' : decide (r71 < (0 : Int)) = false := decide_eq_false h74
   obtain rfl := Option.some.inj h
   simp (maxSteps := 10000000) (implicitDefEqProofs := false) (disch := first | assumption | omega | exact rfl) only [bs, rs55, ls55_34, Nat.reduceAdd, ↓reduceIte, loadD_pagg a39 z39, storeD_agg z39, hg, ↓h64', h67, h70, h73, ↓h74']
   exact ⟨rfl, rfl, by kernel_rfl⟩
 ·rw [if_neg h64] at h
  have h64' : decide (s12 ≤ s13) = false := decide_eq_false h64
  obtain rfl := Option.some.inj h
  simp (maxSteps := 10000000) (implicitDefEqProofs := false) (disch := first | assumption | omega | exact rfl) only [bs, rs55, ls55_34, Nat.reduceAdd, ↓reduceIte, loadD_pagg a39 z39, storeD_agg z39, hg, ↓h64']
  exact ⟨rfl, rfl, by kernel_rfl⟩
noncomputable def L55_2 : Code := (loopsOf (bodyOf Try.f55)).getD 2 .skip
def g55_2 : List Ghost := [.keep [0, 1, 4, 12, 13]]
def F55_34_2 (s1 : Int) : (Int × Int × (List Pair)) → St := fun (s12, s13, y0) => ⟨[.ref 0 0 y0.length 2, iv s1, .junk, .junk, .p (.fn (.func 34) []), .junk, .junk, .junk, .junk, .junk, .junk, .junk, iv s12, iv s13, .junk, .junk, .junk, .junk, .junk, .junk, .junk, .junk, .junk, .junk, .junk, .junk, .junk, .junk, .junk, .junk, .junk, .junk, .junk, .junk, .junk, .junk, .junk, .junk, .junk, .junk, .junk, .junk, .junk, .junk, .junk, .junk, .junk, .junk, .junk, .junk, .junk, .junk, .junk, .junk, .junk, .junk, .junk, .junk, .junk, .junk, .junk, .junk, .junk, .junk, .junk, .junk, .junk, .junk, .junk, .junk, .junk, .junk, .junk, .junk, .junk, .junk, .junk, .junk, .junk, .junk, .junk, .junk, .junk, .junk, .junk, .junk, .junk, .junk, .junk, .junk, .junk, .junk, .junk, .junk, .junk, .junk, .junk, .junk, .junk, .junk, .junk, .junk, .junk, .junk, .junk, .junk, .junk, .junk, .junk, .junk, .junk, .junk, .junk, .junk, .junk, .junk, .junk, .junk, .junk, .junk, .junk, .junk, .junk, .junk, .junk, .junk, .junk, .junk, .junk, .junk, .junk, .junk, .junk, .junk, .junk, .junk, .junk, .junk, .junk, .junk, .junk, .junk, .junk, .junk, .junk, .junk, .junk, .junk, .junk, .junk, .junk, .junk, .junk, .junk, .junk, .junk, .junk, .junk, .junk, .junk, .junk, .junk, .junk, .junk, .junk, .junk, .junk, .junk, .junk, .junk, .junk, .junk, .junk, .junk, .junk, .junk, .junk, .junk], [.arr (encL en_Pair y0)], 1⟩
theorem L55_34_2_ok (s1 : Int) : ∀ s st o, ghostsD g55_2 st = some (F55_34_2 s1 s) → iter (slices_partitionCmpFunc_L2 similar_Match_c2 s1) s = some o →
    Wp (evW Try.prog A0 55 (.loop L55_2) st) (OutQ (F55_34_2 s1) g55_2 (fun n s st => n = 4 ∧ ghostsD [.keep [0, 1, 4, 12, 13]] st = some (F55_34_2 s1 s)) (fun r st => finishD Try.prog A0 55 Try.f55 st = some (.p (.tup [.v (.int .i64 r.1), .v (.bool r.2.1)]), [.arr (encL en_Pair r.2.2)])) o) := by
 refine Wp.iter ?_
 intro s st o hg h
 obtain ⟨s12, s13, y0⟩ := s
 unfold slices_partitionCmpFunc_L2 at h
 unfold g55_2 F55_34_2 at hg ⊢
 (try simp only [] at h hg)
 unfold L55_2 bodyOf Try.f55; simp only [Option.getD_some, loopsOf, List.append_nil, List.nil_append, List.cons_append, List.getD_cons_zero, List.getD_cons_succ]
 obtain ⟨o, h75, h⟩ := bsm h
 simp (maxSteps := 10000000) (implicitDefEqProofs := false) (disch := first | assumption | omega | exact rfl) only [bs, rs55, ls55_34, Nat.reduceAdd, ↓reduceIte, loadD_pagg a39 z39, storeD_agg z39, hg]
 refine Wp.ctx (fun x => blockW _ (seqW _ _ _ _ (blockW _ (x)))) (L55_34_3_ok s1 s13 y0 s12 _ o (show ghostsD g55_3 _ = some _ from ghosts_app (a := [.keep [0, 1, 4, 12, 13]]) (b := [.keep [0, 1, 4, 12, 13]]) hg (by kernel_rfl)) h75) ?_
 intro e st hq
 cases o with
 | next _ => (first | cases h | (simp at h))
 | jmp n_ s_ =>
  obtain ⟨rfl, rfl, hq⟩ := hq
  generalize s_ = s12_76 at h hq
  unfold F55_34_3 at hq
  (try simp only [] at h hq)
  obtain ⟨o, h88, h⟩ := bsm h
  simp (maxSteps := 10000000) (implicitDefEqProofs := false) (disch := first | assumption | omega | exact rfl) only [bs, rs55, ls55_34, Nat.reduceAdd, ↓reduceIte, loadD_pagg a39 z39, storeD_agg z39, hg, hq]
  refine Wp.ctx (fun x => blockW _ (seqW _ _ _ _ (blockW _ (x)))) (L55_34_4_ok s1 s12_76 y0 s13 _ o (show ghostsD g55_4 _ = some _ from ghosts_app (a := [.keep [0, 1, 4, 12, 13]]) (b := [.keep [0, 1, 4, 12, 13]]) hq (by kernel_rfl)) h88) ?_
  intro e st hq
  cases o with
  | next _ => (first | cases h | (simp at h))
  | jmp n_ s_ =>
   obtain ⟨rfl, rfl, hq⟩ := hq
   generalize s_ = s13_89 at h hq
   unfold F55_34_4 at hq
   (try simp only [] at h hq)
   by_cases h90 : s13_89 < s12_76
   ·rw [if_pos h90] at h
    have h90' : decide (s13_89 < s12_76) = true := decide_eq_true h90
    obtain rfl := Option.some.inj h
    simp (maxSteps := 10000000) (implicitDefEqProofs := false) (disch := first | assumption | omega | exact rfl) only [bs, rs55, ls55_34, Nat.reduceAdd, ↓reduceIte, loadD_pagg a39 z39, storeD_agg z39, hg, hq, hq, ↓h90']
    exact ⟨rfl, rfl, by kernel_rfl⟩
   ·rw [if_neg h90] at h
    have h90' : decide (s13_89 < s12_76) = false := decide_eq_false h90
    obtain ⟨v91, h92, h⟩ := bsm h
    obtain ⟨h92a, h92b, _⟩ := rd_some h92
    have h93 := lk_arr_39 h92
    obtain ⟨v94, h95, h⟩ := bsm h
    obtain ⟨h95a, h95b, _⟩ := rd_some h95
    have h96 := lk_arr_39 h95
    have h97 : ∀ (H : List Ob) (id : Nat), staOb H id (s12_76.toNat * 2) 2 [.v (.int .i64 v91.Old), .v (.int .i64 v91.New)] (some (.arr (encL en_Pair y0))) = some (H.set id (.arr (encL en_Pair (y0.set s12_76.toNat v91)))) := fun H id => by
        have := sta_arr (H := H) (id := id) (v := v91) en_Pair_len h95a h95b
        rw [en_Pair_eq] at this
        exact this
    have h98 : (y0.set s12_76.toNat v91).length = y0.length := List.length_set
    obtain ⟨v99, h100, h⟩ := bsm h
    obtain ⟨h100a, h100b, _⟩ := rd_some h100
    have h101 : ∀ (H : List Ob) (id : Nat), staOb H id (s13_89.toNat * 2) 2 [.v (.int .i64 v94.Old), .v (.int .i64 v94.New)] (some (.arr (encL en_Pair (y0.set s12_76.toNat v91)))) = some (H.set id (.arr (encL en_Pair ((y0.set s12_76.toNat v91).set s13_89.toNat v94)))) := fun H id => by
        have := sta_arr (H := H) (id := id) (v := v94) en_Pair_len h100a h100b
        rw [en_Pair_eq] at this
        exact this
    have h102 : ((y0.set s12_76.toNat v91).set s13_89.toNat v94).length = (y0.set s12_76.toNat v91).length := List.length_set
    obtain rfl := Option.some.inj h
    simp (maxSteps := 10000000) (implicitDefEqProofs := false) (disch := first | assumption | omega | exact rfl) only [bs, rs55, ls55_34, Nat.reduceAdd, ↓reduceIte, loadD_pagg a39 z39, storeD_agg z39, hg, hq, hq, ↓h90', h93, h96, h97, h101]
    exact ⟨rfl, by simp only [List.length_set, cpL_len]; kernel_rfl⟩
  | ret _ => (first | cases h | (simp at h))
 | ret _ => (first | cases h | (simp at h))
noncomputable def L55_1 : Code := (loopsOf (bodyOf Try.f55)).getD 1 .skip
def g55_1 : List Ghost := [.keep [0, 1, 4, 12, 13], .keep [0, 1, 4, 12, 13]]
def F55_34_1 (s1 : Int) (s12 : Int) (y0 : (List Pair)) : Int → St := fun s13 => ⟨[.ref 0 0 y0.length 2, iv s1, .junk, .junk, .p (.fn (.func 34) []), .junk, .junk, .junk, .junk, .junk, .junk, .junk, iv s12, iv s13, .junk, .junk, .junk, .junk, .junk, .junk, .junk, .junk, .junk, .junk, .junk, .junk, .junk, .junk, .junk, .junk, .junk, .junk, .junk, .junk, .junk, .junk, .junk, .junk, .junk, .junk, .junk, .junk, .junk, .junk, .junk, .junk, .junk, .junk, .junk, .junk, .junk, .junk, .junk, .junk, .junk, .junk, .junk, .junk, .junk, .junk, .junk, .junk, .junk, .junk, .junk, .junk, .junk, .junk, .junk, .junk, .junk, .junk, .junk, .junk, .junk, .junk, .junk, .junk, .junk, .junk, .junk, .junk, .junk, .junk, .junk, .junk, .junk, .junk, .junk, .junk, .junk, .junk, .junk, .junk, .junk, .junk, .junk, .junk, .junk, .junk, .junk, .junk, .junk, .junk, .junk, .junk, .junk, .junk, .junk, .junk, .junk, .junk, .junk, .junk, .junk, .junk, .junk, .junk, .junk, .junk, .junk, .junk, .junk, .junk, .junk, .junk, .junk, .junk, .junk, .junk, .junk, .junk, .junk, .junk, .junk, .junk, .junk, .junk, .junk, .junk, .junk, .junk, .junk, .junk, .junk, .junk, .junk, .junk, .junk, .junk, .junk, .junk, .junk, .junk, .junk, .junk, .junk, .junk, .junk, .junk, .junk, .junk, .junk, .junk, .junk, .junk, .junk, .junk, .junk, .junk, .junk, .junk, .junk, .junk, .junk, .junk, .junk, .junk], [.arr (encL en_Pair y0)], 1⟩
theorem L55_34_1_ok (s1 : Int) (s12 : Int) (y0 : (List Pair)) : ∀ s st o, ghostsD g55_1 st = some (F55_34_1 s1 s12 y0 s) → iter (slices_partitionCmpFunc_L1 similar_Match_c2 s1 s12 y0) s = some o →
    Wp (evW Try.prog A0 55 (.loop L55_1) st) (OutQ (F55_34_1 s1 s12 y0) g55_1 (fun n s st => n = 2 ∧ ghostsD [.keep [0, 1, 4, 12, 13]] st = some (F55_34_1 s1 s12 y0 s)) (fun r st => finishD Try.prog A0 55 Try.f55 st = some (.p (.tup [.v (.int .i64 r.1), .v (.bool r.2.1)]), [.arr (encL en_Pair r.2.2)])) o) := by
 refine Wp.iter ?_
 intro s st o hg h
 generalize s = s13 at hg h
 unfold slices_partitionCmpFunc_L1 at h
 unfold g55_1 F55_34_1 at hg ⊢
 (try simp only [] at h hg)
 unfold L55_1 bodyOf Try.f55; simp only [Option.getD_some, loopsOf, List.append_nil, List.nil_append, List.cons_append, List.getD_cons_zero, List.getD_cons_succ]
 by_cases h26 : s12 ≤ s13
 ·rw [if_pos h26] at h
  have h26' : decide (s12 ≤ s13) = true := decide_eq_true h26
  obtain ⟨v27, h28, h⟩ := bsm h
  obtain ⟨h28a, h28b, _⟩ := rd_some h28
  have h29 := lk_arr_39 h28
  obtain ⟨v30, h31, h⟩ := bsm h
  obtain ⟨h31a, h31b, _⟩ := rd_some h31
  have h32 := lk_arr_39 h31
  obtain ⟨r33, h34, h⟩ := bsm h
  have h35 : ∀ H, callD (callW Try.prog A0) A0 H 34 [.p (.agg [.v (.int .i64 v27.Old), .v (.int .i64 v27.New)]), .p (.agg [.v (.int .i64 v30.Old), .v (.int .i64 v30.New)])] = some (.p (.v (.int .i64 r33)), none) := fun H => similar_Match_c2_call h34
  by_cases h36 : r33 < (0 : Int)
  ·rw [if_pos h36] at h
   have h36' : decide (r33 < (0 : Int)) = true := decide_eq_true h36
   obtain rfl := Option.some.inj h
   simp (maxSteps := 10000000) (implicitDefEqProofs := false) (disch := first | assumption | omega | exact rfl) only [bs, rs55, ls55_34, Nat.reduceAdd, ↓reduceIte, loadD_pagg a39 z39, storeD_agg z39, hg, ↓h26', h29, h32, h35, ↓h36']
   exact ⟨rfl, rfl, by kernel_rfl⟩
  ·rw [if_neg h36] at h
   have h36' : decide (r33 < (0 : Int)) = false := decide_eq_false h36
   obtain rfl := Option.some.inj h
   simp (maxSteps := 10000000) (implicitDefEqProofs := false) (disch := first | assumption | omega | exact rfl) only [bs, rs55, ls55_34, Nat.reduceAdd, ↓reduceIte, loadD_pagg a39 z39, storeD_agg z39, hg, ↓h26', h29, h32, h35, ↓h36']
   exact ⟨rfl, by kernel_rfl⟩
 ·rw [if_neg h26] at h
  have h26' : decide (s12 ≤ s13) = false := decide_eq_false h26
  obtain rfl := Option.some.inj h
  simp (maxSteps := 10000000) (implicitDefEqProofs := false) (disch := first | assumption | omega | exact rfl) only [bs, rs55, ls55_34, Nat.reduceAdd, ↓reduceIte, loadD_pagg a39 z39, storeD_agg z39, hg, ↓h26']
  exact ⟨rfl, rfl, by kernel_rfl⟩
noncomputable def L55_0 : Code := (loopsOf (bodyOf Try.f55)).getD 0 .skip
def g55_0 : List Ghost := [.keep [0, 1, 4, 12, 13]]
def F55_34_0 (s1 : Int) (s13 : Int) (y0 : (List Pair)) : Int → St := fun s12 => ⟨[.ref 0 0 y0.length 2, iv s1, .junk, .junk, .p (.fn (.func 34) []), .junk, .junk, .junk, .junk, .junk, .junk, .junk, iv s12, iv s13, .junk, .junk, .junk, .junk, .junk, .junk, .junk, .junk, .junk, .junk, .junk, .junk, .junk, .junk, .junk, .junk, .junk, .junk, .junk, .junk, .junk, .junk, .junk, .junk, .junk, .junk, .junk, .junk, .junk, .junk, .junk, .junk, .junk, .junk, .junk, .junk, .junk, .junk, .junk, .junk, .junk, .junk, .junk, .junk, .junk, .junk, .junk, .junk, .junk, .junk, .junk, .junk, .junk, .junk, .junk, .junk, .junk, .junk, .junk, .junk, .junk, .junk, .junk, .junk, .junk, .junk, .junk, .junk, .junk, .junk, .junk, .junk, .junk, .junk, .junk, .junk, .junk, .junk, .junk, .junk, .junk, .junk, .junk, .junk, .junk, .junk, .junk, .junk, .junk, .junk, .junk, .junk, .junk, .junk, .junk, .junk, .junk, .junk, .junk, .junk, .junk, .junk, .junk, .junk, .junk, .junk, .junk, .junk, .junk, .junk, .junk, .junk, .junk, .junk, .junk, .junk, .junk, .junk, .junk, .junk, .junk, .junk, .junk, .junk, .junk, .junk, .junk, .junk, .junk, .junk, .junk, .junk, .junk, .junk, .junk, .junk, .junk, .junk, .junk, .junk, .junk, .junk, .junk, .junk, .junk, .junk, .junk, .junk, .junk, .junk, .junk, .junk, .junk, .junk, .junk, .junk, .junk, .junk, .junk, .junk, .junk, .junk, .junk, .junk], [.arr (encL en_Pair y0)], 1⟩
theorem L55_34_0_ok (s1 : Int) (s13 : Int) (y0 : (List Pair)) : ∀ s st o, ghostsD g55_0 st = some (F55_34_0 s1 s13 y0 s) → iter (slices_partitionCmpFunc_L0 similar_Match_c2 s1 s13 y0) s = some o →
    Wp (evW Try.prog A0 55 (.loop L55_0) st) (OutQ (F55_34_0 s1 s13 y0) g55_0 (fun n s st => n = 0 ∧ ghostsD [.keep [0, 1, 4, 12, 13]] st = some (F55_34_0 s1 s13 y0 s)) (fun r st => finishD Try.prog A0 55 Try.f55 st = some (.p (.tup [.v (.int .i64 r.1), .v (.bool r.2.1)]), [.arr (encL en_Pair r.2.2)])) o) := by
 refine Wp.iter ?_
 intro s st o hg h
 generalize s = s12 at hg h
 unfold slices_partitionCmpFunc_L0 at h
 unfold g55_0 F55_34_0 at hg ⊢
 (try simp only [] at h hg)
 unfold L55_0 bodyOf Try.f55; simp only [Option.getD_some, loopsOf, List.append_nil, List.nil_append, List.cons_append, List.getD_cons_zero, List.getD_cons_succ]
 by_cases h13 : s12 ≤ s13
 ·rw [if_pos h13] at h
  have h13' : decide (s12 ≤ s13) = true := decide_eq_true h13
  obtain ⟨v14, h15, h⟩ := bsm h
  obtain ⟨h15a, h15b, _⟩ := rd_some h15
  have h16 := lk_arr_39 h15
  obtain ⟨v17, h18, h⟩ := bsm h
  obtain ⟨h18a, h18b, _⟩ := rd_some h18
  have h19 := lk_arr_39 h18
  obtain ⟨r20, h21, h⟩ := bsm h
  have h22 : ∀ H, callD (callW Try.prog A0) A0 H 34 [.p (.agg [.v (.int .i64 v14.Old), .v (.int .i64 v14.New)]), .p (.agg [.v (.int .i64 v17.Old), .v (.int .i64 v17.New)])] = some (.p (.v (.int .i64 r20)), none) := fun H => similar_Match_c2_call h21
  by_cases h23 : r20 < (0 : Int)
  ·rw [if_pos h23] at h
   have h23' : decide (r20 < (0 : Int)) = true := decide_eq_true h23
   obtain rfl := Option.some.inj h
   simp (maxSteps := 10000000) (implicitDefEqProofs := false) (disch := first | assumption | omega | exact rfl) only [bs, rs55, ls55_34, Nat.reduceAdd, ↓reduceIte, loadD_pagg a39 z39, storeD_agg z39, hg, ↓h13', h16, h19, h22, ↓h23']
   exact ⟨rfl, by kernel_rfl⟩
  ·rw [if_neg h23] at h
   have h23' : decide (r20 < (0 : Int)) = false := decide_eq_false h23
   obtain rfl := Option.some.inj h
   simp (maxSteps := 10000000) (implicitDefEqProofs := false) (disch := first | assumption | omega | exact rfl) only [bs, rs55, ls55_34, Nat.reduceAdd, ↓reduceIte, loadD_pagg a39 z39, storeD_agg z39, hg, ↓h13', h16, h19, h22, ↓h23']
   exact ⟨rfl, rfl, by kernel_rfl⟩
 ·rw [if_neg h13] at h
  have h13' : decide (s12 ≤ s13) = false := decide_eq_false h13
  obtain rfl := Option.some.inj h
  simp (maxSteps := 10000000) (implicitDefEqProofs := false) (disch := first | assumption | omega | exact rfl) only [bs, rs55, ls55_34, Nat.reduceAdd, ↓reduceIte, loadD_pagg a39 z39, storeD_agg z39, hg, ↓h13']
  exact ⟨rfl, rfl, by kernel_rfl⟩
theorem f55_34_ok  (x0 : (List Pair)) (x1 : Int) (x2 : Int) (x3 : Int) (r : (Int × Bool × (List Pair))) (h : slices_partitionCmpFunc similar_Match_c2 x0 x1 x2 x3 = some r) : callW Try.prog A0 55 [.ref 0 0 x0.length 2, iv x1, iv x2, iv x3, .p (.fn (.func 34) [])] [.arr (encL en_Pair x0)] = some (.p (.tup [.v (.int .i64 r.1), .v (.bool r.2.1)]), [.arr (encL en_Pair r.2.2)]) := by
 refine call_ofH (fn := Try.f55) (c := bodyOf Try.f55) rfl rfl (by kernel_rfl) (by kernel_rfl) ?_
 rw [show initS Try.f55 [.ref 0 0 x0.length 2, iv x1, iv x2, iv x3, .p (.fn (.func 34) [])] [.arr (encL en_Pair x0)] = ⟨.ref 0 0 x0.length 2 :: iv x1 :: iv x2 :: iv x3 :: .p (.fn (.func 34) []) :: List.replicate 173 undefD, [.arr (encL en_Pair x0)], 1⟩ from by kernel_rfl]
 unfold slices_partitionCmpFunc at h
 unfold bodyOf Try.f55; simp only [Option.getD_some, loopsOf, List.append_nil, List.nil_append, List.cons_append, List.getD_cons_zero, List.getD_cons_succ]
 simp only [List.replicate]
 obtain ⟨v1, h2, h⟩ := bsm h
 obtain ⟨h2a, h2b, _⟩ := rd_some h2
 have h3 := lk_arr_39 h2
 obtain ⟨v4, h5, h⟩ := bsm h
 obtain ⟨h5a, h5b, _⟩ := rd_some h5
 have h6 := lk_arr_39 h5
 have h7 : ∀ (H : List Ob) (id : Nat), staOb H id (x1.toNat * 2) 2 [.v (.int .i64 v1.Old), .v (.int .i64 v1.New)] (some (.arr (encL en_Pair x0))) = some (H.set id (.arr (encL en_Pair (x0.set x1.toNat v1)))) := fun H id => by
     have := sta_arr (H := H) (id := id) (v := v1) en_Pair_len h5a h5b
     rw [en_Pair_eq] at this
     exact this
 have h8 : (x0.set x1.toNat v1).length = x0.length := List.length_set
 obtain ⟨v9, h10, h⟩ := bsm h
 obtain ⟨h10a, h10b, _⟩ := rd_some h10
 have h11 : ∀ (H : List Ob) (id : Nat), staOb H id (x3.toNat * 2) 2 [.v (.int .i64 v4.Old), .v (.int .i64 v4.New)] (some (.arr (encL en_Pair (x0.set x1.toNat v1)))) = some (H.set id (.arr (encL en_Pair ((x0.set x1.toNat v1).set x3.toNat v4)))) := fun H id => by
     have := sta_arr (H := H) (id := id) (v := v4) en_Pair_len h10a h10b
     rw [en_Pair_eq] at this
     exact this
 have h12 : ((x0.set x1.toNat v1).set x3.toNat v4).length = (x0.set x1.toNat v1).length := List.length_set
 obtain ⟨o, h24, h⟩ := bsm h
 simp (maxSteps := 10000000) (implicitDefEqProofs := false) (disch := first | assumption | omega | exact rfl) only [bs, rs55, ls55_34, Nat.reduceAdd, ↓reduceIte, loadD_pagg a39 z39, storeD_agg z39, h3, h6, h7, h11]
 refine Wp.ctx (fun x => seqW _ _ _ _ (blockW _ (x))) (L55_34_0_ok x1 (w64 (x2 - (1 : Int))) ((x0.set x1.toNat v1).set x3.toNat v4) (w64 (x1 + (1 : Int))) _ o (by unfold F55_34_0; simp only [List.length_set, cpL_len]; kernel_rfl) h24) ?_
 intro e st hq
 cases o with
 | next _ => (first | cases h | (simp at h))
 | jmp n_ s_ =>
  obtain ⟨rfl, rfl, hq⟩ := hq
  generalize s_ = s12_25 at h hq
  unfold F55_34_0 at hq
  (try simp only [] at h hq)
  obtain ⟨o, h37, h⟩ := bsm h
  simp (maxSteps := 10000000) (implicitDefEqProofs := false) (disch := first | assumption | omega | exact rfl) only [bs, rs55, ls55_34, Nat.reduceAdd, ↓reduceIte, loadD_pagg a39 z39, storeD_agg z39, h3, h6, h7, h11, hq]
  refine Wp.ctx (fun x => seqW _ _ _ _ (blockW _ (x))) (L55_34_1_ok x1 s12_25 ((x0.set x1.toNat v1).set x3.toNat v4) (w64 (x2 - (1 : Int))) _ o (show ghostsD g55_1 _ = some _ from ghosts_app (a := [.keep [0, 1, 4, 12, 13]]) (b := [.keep [0, 1, 4, 12, 13]]) hq (by kernel_rfl)) h37) ?_
  intro e st hq
  cases o with
  | next _ => (first | cases h | (simp at h))
  | jmp n_ s_ =>
   obtain ⟨rfl, rfl, hq⟩ := hq
   generalize s_ = s13_38 at h hq
   unfold F55_34_1 at hq
   (try simp only [] at h hq)
   by_cases h39 : s13_38 < s12_25
   ·rw [if_pos h39] at h
    have h39' : decide (s13_38 < s12_25) = true := decide_eq_true h39
    obtain ⟨v40, h41, h⟩ := bsm h
    obtain ⟨h41a, h41b, _⟩ := rd_some h41
    have h42 := lk_arr_39 h41
    obtain ⟨v43, h44, h⟩ := bsm h
    obtain ⟨h44a, h44b, _⟩ := rd_some h44
    have h45 := lk_arr_39 h44
    have h46 : ∀ (H : List Ob) (id : Nat), staOb H id (s13_38.toNat * 2) 2 [.v (.int .i64 v40.Old), .v (.int .i64 v40.New)] (some (.arr (encL en_Pair ((x0.set x1.toNat v1).set x3.toNat v4)))) = some (H.set id (.arr (encL en_Pair (((x0.set x1.toNat v1).set x3.toNat v4).set s13_38.toNat v40)))) := fun H id => by
        have := sta_arr (H := H) (id := id) (v := v40) en_Pair_len h44a h44b
        rw [en_Pair_eq] at this
        exact this
    have h47 : (((x0.set x1.toNat v1).set x3.toNat v4).set s13_38.toNat v40).length = ((x0.set x1.toNat v1).set x3.toNat v4).length := List.length_set
    obtain ⟨v48, h49, h⟩ := bsm h
    obtain ⟨h49a, h49b, _⟩ := rd_some h49
    have h50 : ∀ (H : List Ob) (id : Nat), staOb H id (x1.toNat * 2) 2 [.v (.int .i64 v43.Old), .v (.int .i64 v43.New)] (some (.arr (encL en_Pair (((x0.set x1.toNat v1).set x3.toNat v4).set s13_38.toNat v40)))) = some (H.set id (.arr (encL en_Pair ((((x0.set x1.toNat v1).set x3.toNat v4).set s13_38.toNat v40).set x1.toNat v43)))) := fun H id => by
        have := sta_arr (H := H) (id := id) (v := v43) en_Pair_len h49a h49b
        rw [en_Pair_eq] at this
        exact this
    have h51 : ((((x0.set x1.toNat v1).set x3.toNat v4).set s13_38.toNat v40).set x1.toNat v43).length = (((x0.set x1.toNat v1).set x3.toNat v4).set s13_38.toNat v40).length := List.length_set
    obtain rfl := Option.some.inj h
    simp (maxSteps := 10000000) (implicitDefEqProofs := false) (disch := first | assumption | omega | exact rfl) only [bs, rs55, ls55_34, Nat.reduceAdd, ↓reduceIte, loadD_pagg a39 z39, storeD_agg z39, h3, h6, h7, h11, hq, hq, ↓h39', h42, h45, h46, h50]
    refine ⟨by first | exact .inl trivial | exact .inr trivial | simp, ?_⟩
    show _ = _
    kernel_rfl
   ·rw [if_neg h39] at h
    have h39' : decide (s13_38 < s12_25) = false := decide_eq_false h39
    obtain ⟨v52, h53, h⟩ := bsm h
    obtain ⟨h53a, h53b, _⟩ := rd_some h53
    have h54 := lk_arr_39 h53
    obtain ⟨v55, h56, h⟩ := bsm h
    obtain ⟨h56a, h56b, _⟩ := rd_some h56
    have h57 := lk_arr_39 h56
    have h58 : ∀ (H : List Ob) (id : Nat), staOb H id (s12_25.toNat * 2) 2 [.v (.int .i64 v52.Old), .v (.int .i64 v52.New)] (some (.arr (encL en_Pair ((x0.set x1.toNat v1).set x3.toNat v4)))) = some (H.set id (.arr (encL en_Pair (((x0.set x1.toNat v1).set x3.toNat v4).set s12_25.toNat v52)))) := fun H id => by
        have := sta_arr (H := H) (id := id) (v := v52) en_Pair_len h56a h56b
        rw [en_Pair_eq] at this
        exact this
    have h59 : (((x0.set x1.toNat v1).set x3.toNat v4).set s12_25.toNat v52).length = ((x0.set x1.toNat v1).set x3.toNat v4).length := List.length_set
    obtain ⟨v60, h61, h⟩ := bsm h
    obtain ⟨h61a, h61b, _⟩ := rd_some h61
    have h62 : ∀ (H : List Ob) (id : Nat), staOb H id (s13_38.toNat * 2) 2 [.v (.int .i64 v55.Old), .v (.int .i64 v55.New)] (some (.arr (encL en_Pair (((x0.set x1.toNat v1).set x3.toNat v4).set s12_25.toNat v52)))) = some (H.set id (.arr (encL en_Pair ((((x0.set x1.toNat v1).set x3.toNat v4).set s12_25.toNat v52).set s13_38.toNat v55)))) := fun H id => by
        have := sta_arr (H := H) (id := id) (v := v55) en_Pair_len h61a h61b
        rw [en_Pair_eq] at this
        exact this
    have h63 : ((((x0.set x1.toNat v1).set x3.toNat v4).set s12_25.toNat v52).set s13_38.toNat v55).length = (((x0.set x1.toNat v1).set x3.toNat v4).set s12_25.toNat v52).length := List.length_set
    obtain ⟨o, h103, h⟩ := bsm h
    simp (maxSteps := 10000000) (implicitDefEqProofs := false) (disch := first | assumption | omega | exact rfl) only [bs, rs55, ls55_34, Nat.reduceAdd, ↓reduceIte, loadD_pagg a39 z39, storeD_agg z39, h3, h6, h7, h11, hq, hq, ↓h39', h54, h57, h58, h62]
    refine Wp.ctx (fun x => seqW _ _ _ _ (blockW _ (x))) (L55_34_2_ok x1 (w64 (s12_25 + (1 : Int)), w64 (s13_38 - (1 : Int)), ((((x0.set x1.toNat v1).set x3.toNat v4).set s12_25.toNat v52).set s13_38.toNat v55)) _ o (by unfold F55_34_2; simp only [List.length_set, cpL_len]; kernel_rfl) h103) ?_
    intro e st hq
    cases o with
    | next _ => (first | cases h | (simp at h))
    | jmp n_ s_ =>
     obtain ⟨rfl, rfl, hq⟩ := hq
     obtain ⟨s12_104, s13_104, y0_104⟩ := s_
     unfold F55_34_2 at hq
     (try simp only [] at h hq)
     obtain ⟨v105, h106, h⟩ := bsm h
     obtain ⟨h106a, h106b, _⟩ := rd_some h106
     have h107 := lk_arr_39 h106
     obtain ⟨v108, h109, h⟩ := bsm h
     obtain ⟨h109a, h109b, _⟩ := rd_some h109
     have h110 := lk_arr_39 h109
     have h111 : ∀ (H : List Ob) (id : Nat), staOb H id (s13_104.toNat * 2) 2 [.v (.int .i64 v105.Old), .v (.int .i64 v105.New)] (some (.arr (encL en_Pair y0_104))) = some (H.set id (.arr (encL en_Pair (y0_104.set s13_104.toNat v105)))) := fun H id => by
         have := sta_arr (H := H) (id := id) (v := v105) en_Pair_len h109a h109b
         rw [en_Pair_eq] at this
         exact this
     have h112 : (y0_104.set s13_104.toNat v105).length = y0_104.length := List.length_set
     obtain ⟨v113, h114, h⟩ := bsm h
     obtain ⟨h114a, h114b, _⟩ := rd_some h114
     have h115 : ∀ (H : List Ob) (id : Nat), staOb H id (x1.toNat * 2) 2 [.v (.int .i64 v108.Old), .v (.int .i64 v108.New)] (some (.arr (encL en_Pair (y0_104.set s13_104.toNat v105)))) = some (H.set id (.arr (encL en_Pair ((y0_104.set s13_104.toNat v105).set x1.toNat v108)))) := fun H id => by
         have := sta_arr (H := H) (id := id) (v := v108) en_Pair_len h114a h114b
         rw [en_Pair_eq] at this
         exact this
     have h116 : ((y0_104.set s13_104.toNat v105).set x1.toNat v108).length = (y0_104.set s13_104.toNat v105).length := List.length_set
     obtain rfl := Option.some.inj h
     simp (maxSteps := 10000000) (implicitDefEqProofs := false) (disch := first | assumption | omega | exact rfl) only [bs, rs55, ls55_34, Nat.reduceAdd, ↓reduceIte, loadD_pagg a39 z39, storeD_agg z39, h3, h6, h7, h11, hq, hq, ↓h39', h54, h57, h58, h62, hq, h107, h110, h111, h115]
     refine ⟨by first | exact .inl trivial | exact .inr trivial | simp, ?_⟩
     show _ = _
     kernel_rfl
    | ret _ => (first | cases h | (simp at h))
  | ret _ => (first | cases h | (simp at h))
 | ret _ => (first | cases h | (simp at h))
theorem slices_partitionCmpFunc_34_call {x0 : (List Pair)} {x1 : Int} {x2 : Int} {x3 : Int} {r : (Int × Bool × (List Pair))} (h : slices_partitionCmpFunc similar_Match_c2 x0 x1 x2 x3 = some r) : callW Try.prog A0 55 [.ref 0 0 x0.length 2, iv x1, iv x2, iv x3, .p (.fn (.func 34) [])] [.arr (encL en_Pair x0)] = some (.p (.tup [.v (.int .i64 r.1), .v (.bool r.2.1)]), [.arr (encL en_Pair r.2.2)]) := f55_34_ok x0 x1 x2 x3 _ h
def ls54_34 := @idxR_26
noncomputable def L54_2 : Code := (loopsOf (bodyOf Try.f54)).getD 2 .skip
def g54_2 : List Ghost := [.keep [0, 1, 4, 11, 12], .keep [0, 1, 4, 11, 12]]
def F54_34_2 (s1 : Int) (s11 : Int) (y0 : (List Pair)) : Int → St := fun s12 => ⟨[.ref 0 0 y0.length 2, iv s1, .junk, .junk, .p (.fn (.func 34) []), .junk, .junk, .junk, .junk, .junk, .junk, iv s11, iv s12, .junk, .junk, .junk, .junk, .junk, .junk, .junk, .junk, .junk, .junk, .junk, .junk, .junk, .junk, .junk, .junk, .junk, .junk, .junk, .junk, .junk, .junk, .junk, .junk, .junk, .junk, .junk, .junk, .junk, .junk, .junk, .junk, .junk, .junk, .junk, .junk, .junk, .junk, .junk, .junk, .junk, .junk, .junk, .junk, .junk, .junk, .junk, .junk, .junk, .junk, .junk, .junk, .junk, .junk, .junk, .junk, .junk, .junk, .junk, .junk, .junk, .junk, .junk, .junk, .junk, .junk, .junk, .junk, .junk, .junk, .junk, .junk, .junk, .junk, .junk, .junk, .junk], [.arr (encL en_Pair y0)], 1⟩
theorem L54_34_2_ok (s1 : Int) (s11 : Int) (y0 : (List Pair)) : ∀ s st o, ghostsD g54_2 st = some (F54_34_2 s1 s11 y0 s) → iter (slices_partitionEqualCmpFunc_L2 similar_Match_c2 s1 s11 y0) s = some o →
    Wp (evW Try.prog A0 54 (.loop L54_2) st) (OutQ (F54_34_2 s1 s11 y0) g54_2 (fun n s st => n = 4 ∧ ghostsD [.keep [0, 1, 4, 11, 12]] st = some (F54_34_2 s1 s11 y0 s)) (fun r st => finishD Try.prog A0 54 Try.f54 st = some (.p (.v (.int .i64 r.1)), [.arr (encL en_Pair r.2)])) o) := by
 refine Wp.iter ?_
 intro s st o hg h
 generalize s = s12 at hg h
 unfold slices_partitionEqualCmpFunc_L2 at h
 unfold g54_2 F54_34_2 at hg ⊢
 (try simp only [] at h hg)
 unfold L54_2 bodyOf Try.f54; simp only [Option.getD_some, loopsOf, List.append_nil, List.nil_append, List.cons_append, List.getD_cons_zero, List.getD_cons_succ]
 by_cases h26 : s11 ≤ s12
 ·rw [if_pos h26] at h
  have h26' : decide (s11 ≤ s12) = true := decide_eq_true h26
  obtain ⟨v27, h28, h⟩ := bsm h
  obtain ⟨h28a, h28b, _⟩ := rd_some h28
  have h29 := lk_arr_39 h28
  obtain ⟨v30, h31, h⟩ := bsm h
  obtain ⟨h31a, h31b, _⟩ := rd_some h31
  have h32 := lk_arr_39 h31
  obtain ⟨r33, h34, h⟩ := bsm h
  have h35 : ∀ H, callD (callW Try.prog A0) A0 H 34 [.p (.agg [.v (.int .i64 v27.Old), .v (.int .i64 v27.New)]), .p (.agg [.v (.int .i64 v30.Old), .v (.int .i64 v30.New)])] = some (.p (.v (.int .i64 r33)), none) := fun H => similar_Match_c2_call h34
  by_cases h36 : r33 < (0 : Int)
  ·rw [if_pos h36] at h
   have h36' : decide (r33 < (0 : Int)) = true := decide_eq_true h36
   obtain rfl := Option.some.inj h
   simp (maxSteps := 10000000) (implicitDefEqProofs := false) (disch := first | assumption | omega | exact rfl) only [bs, rs54, ls54_34, Nat.reduceAdd, ↓reduceIte, loadD_pagg a39 z39, storeD_agg z39, hg, ↓h26', h29, h32, h35, ↓h36']
   exact ⟨rfl, by kernel_rfl⟩
  ·rw [if_neg h36] at h
   have h36' : decide (r33 < (0 : Int)) = false := decide_eq_false h36
   obtain rfl := Option.some.inj h
   simp (maxSteps := 10000000) (implicitDefEqProofs := false) (disch := first | assumption | omega | exact rfl) only [bs, rs54, ls54_34, Nat.reduceAdd, ↓reduceIte, loadD_pagg a39 z39, storeD_agg z39, hg, ↓h26', h29, h32, h35, ↓h36']
   exact ⟨rfl, rfl, by kernel_rfl⟩
 ·rw [if_neg h26] at h
  have h26' : decide (s11 ≤ s12) = false := decide_eq_false h26
  obtain rfl := Option.some.inj h
  simp (maxSteps := 10000000) (implicitDefEqProofs := false) (disch := first | assumption | omega | exact rfl) only [bs, rs54, ls54_34, Nat.reduceAdd, ↓reduceIte, loadD_pagg a39 z39, storeD_agg z39, hg, ↓h26']
  exact ⟨rfl, rfl, by kernel_rfl⟩
noncomputable def L54_1 : Code := (loopsOf (bodyOf Try.f54)).getD 1 .skip
def g54_1 : List Ghost := [.keep [0, 1, 4, 11, 12], .keep [0, 1, 4, 11, 12]]
def F54_34_1 (s1 : Int) (s12 : Int) (y0 : (List Pair)) : Int → St := fun s11 => ⟨[.ref 0 0 y0.length 2, iv s1, .junk, .junk, .p (.fn (.func 34) []), .junk, .junk, .junk, .junk, .junk, .junk, iv s11, iv s12, .junk, .junk, .junk, .junk, .junk, .junk, .junk, .junk, .junk, .junk, .junk, .junk, .junk, .junk, .junk, .junk, .junk, .junk, .junk, .junk, .junk, .junk, .junk, .junk, .junk, .junk, .junk, .junk, .junk, .junk, .junk, .junk, .junk, .junk, .junk, .junk, .junk, .junk, .junk, .junk, .junk, .junk, .junk, .junk, .junk, .junk, .junk, .junk, .junk, .junk, .junk, .junk, .junk, .junk, .junk, .junk, .junk, .junk, .junk, .junk, .junk, .junk, .junk, .junk, .junk, .junk, .junk, .junk, .junk, .junk, .junk, .junk, .junk, .junk, .junk, .junk, .junk], [.arr (encL en_Pair y0)], 1⟩
theorem L54_34_1_ok (s1 : Int) (s12 : Int) (y0 : (List Pair)) : ∀ s st o, ghostsD g54_1 st = some (F54_34_1 s1 s12 y0 s) → iter (slices_partitionEqualCmpFunc_L1 similar_Match_c2 s1 s12 y0) s = some o →
    Wp (evW Try.prog A0 54 (.loop L54_1) st) (OutQ (F54_34_1 s1 s12 y0) g54_1 (fun n s st => n = 2 ∧ ghostsD [.keep [0, 1, 4, 11, 12]] st = some (F54_34_1 s1 s12 y0 s)) (fun r st => finishD Try.prog A0 54 Try.f54 st = some (.p (.v (.int .i64 r.1)), [.arr (encL en_Pair r.2)])) o) := by
 refine Wp.iter ?_
 intro s st o hg h
 generalize s = s11 at hg h
 unfold slices_partitionEqualCmpFunc_L1 at h
 unfold g54_1 F54_34_1 at hg ⊢
 (try simp only [] at h hg)
 unfold L54_1 bodyOf Try.f54; simp only [Option.getD_some, loopsOf, List.append_nil, List.nil_append, List.cons_append, List.getD_cons_zero, List.getD_cons_succ]
 by_cases h13 : s11 ≤ s12
 ·rw [if_pos h13] at h
  have h13' : decide (s11 ≤ s12) = true := decide_eq_true h13
  obtain ⟨v14, h15, h⟩ := bsm h
  obtain ⟨h15a, h15b, _⟩ := rd_some h15
  have h16 := lk_arr_39 h15
  obtain ⟨v17, h18, h⟩ := bsm h
  obtain ⟨h18a, h18b, _⟩ := rd_some h18
  have h19 := lk_arr_39 h18
  obtain ⟨r20, h21, h⟩ := bsm h
  have h22 : ∀ H, callD (callW Try.prog A0) A0 H 34 [.p (.agg [.v (.int .i64 v14.Old), .v (.int .i64 v14.New)]), .p (.agg [.v (.int .i64 v17.Old), .v (.int .i64 v17.New)])] = some (.p (.v (.int .i64 r20)), none) := fun H => similar_Match_c2_call h21
  by_cases h23 : r20 < (0 : Int)
  ·rw [if_pos h23] at h
   have h23' : decide (r20 < (0 : Int)) = true := decide_eq_true h23
   obtain rfl := Option.some.inj h
   simp (maxSteps := 10000000) (implicitDefEqProofs := false) (disch := first | assumption | omega | exact rfl) only [bs, rs54, ls54_34, Nat.reduceAdd, ↓reduceIte, loadD_pagg a39 z39, storeD_agg z39, hg, ↓h13', h16, h19, h22, ↓h23']
   exact ⟨rfl, rfl, by kernel_rfl⟩
  ·rw [if_neg h23] at h
   have h23' : decide (r20 < (0 : Int)) = false := decide_eq_false h23
   obtain rfl := Option.some.inj h
   simp (maxSteps := 10000000) (implicitDefEqProofs := false) (disch := first | assumption | omega | exact rfl) only [bs, rs54, ls54_34, Nat.reduceAdd, ↓reduceIte, loadD_pagg a39 z39, storeD_agg z39, hg, ↓h13', h16, h19, h22, ↓h23']
   exact ⟨rfl, by kernel_rfl⟩
 ·rw [if_neg h13] at h
  have h13' : decide (s11 ≤ s12) = false := decide_eq_false h13
  obtain rfl := Option.some.inj h
  simp (maxSteps := 10000000) (implicitDefEqProofs := false) (disch := first | assumption | omega | exact rfl) only [bs, rs54, ls54_34, Nat.reduceAdd, ↓reduceIte, loadD_pagg a39 z39, storeD_agg z39, hg, ↓h13']
  exact ⟨rfl, rfl, by kernel_rfl⟩
noncomputable def L54_0 : Code := (loopsOf (bodyOf Try.f54)).getD 0 .skip
def g54_0 : List Ghost := [.keep [0, 1, 4, 11, 12]]
def F54_34_0 (s1 : Int) : (Int × Int × (List Pair)) → St := fun (s11, s12, y0) => ⟨[.ref 0 0 y0.length 2, iv s1, .junk, .junk, .p (.fn (.func 34) []), .junk, .junk, .junk, .junk, .junk, .junk, iv s11, iv s12, .junk, .junk, .junk, .junk, .junk, .junk, .junk, .junk, .junk, .junk, .junk, .junk, .junk, .junk, .junk, .junk, .junk, .junk, .junk, .junk, .junk, .junk, .junk, .junk, .junk, .junk, .junk, .junk, .junk, .junk, .junk, .junk, .junk, .junk, .junk, .junk, .junk, .junk, .junk, .junk, .junk, .junk, .junk, .junk, .junk, .junk, .junk, .junk, .junk, .junk, .junk, .junk, .junk, .junk, .junk, .junk, .junk, .junk, .junk, .junk, .junk, .junk, .junk, .junk, .junk, .junk, .junk, .junk, .junk, .junk, .junk, .junk, .junk, .junk, .junk, .junk, .junk], [.arr (encL en_Pair y0)], 1⟩
theorem L54_34_0_ok (s1 : Int) : ∀ s st o, ghostsD g54_0 st = some (F54_34_0 s1 s) → iter (slices_partitionEqualCmpFunc_L0 similar_Match_c2 s1) s = some o →
    Wp (evW Try.prog A0 54 (.loop L54_0) st) (OutQ (F54_34_0 s1) g54_0 (fun n s st => n = 0 ∧ ghostsD [.keep [0, 1, 4, 11, 12]] st = some (F54_34_0 s1 s)) (fun r st => finishD Try.prog A0 54 Try.f54 st = some (.p (.v (.int .i64 r.1)), [.arr (encL en_Pair r.2)])) o) := by
 refine Wp.iter ?_
 intro s st o hg h
 obtain ⟨s11, s12, y0⟩ := s
 unfold slices_partitionEqualCmpFunc_L0 at h
 unfold g54_0 F54_34_0 at hg ⊢
 (try simp only [] at h hg)
 unfold L54_0 bodyOf Try.f54; simp only [Option.getD_some, loopsOf, List.append_nil, List.nil_append, List.cons_append, List.getD_cons_zero, List.getD_cons_succ]
 obtain ⟨o, h24, h⟩ := bsm h
 simp (maxSteps := 10000000) (implicitDefEqProofs := false) (disch := first | assumption | omega | exact rfl) only [bs, rs54, ls54_34, Nat.reduceAdd, ↓reduceIte, loadD_pagg a39 z39, storeD_agg z39, hg]
 refine Wp.ctx (fun x => blockW _ (seqW _ _ _ _ (blockW _ (x)))) (L54_34_1_ok s1 s12 y0 s11 _ o (show ghostsD g54_1 _ = some _ from ghosts_app (a := [.keep [0, 1, 4, 11, 12]]) (b := [.keep [0, 1, 4, 11, 12]]) hg (by kernel_rfl)) h24) ?_
 intro e st hq
 cases o with
 | next _ => (first | cases h | (simp at h))
 | jmp n_ s_ =>
  obtain ⟨rfl, rfl, hq⟩ := hq
  generalize s_ = s11_25 at h hq
  unfold F54_34_1 at hq
  (try simp only [] at h hq)
  obtain ⟨o, h37, h⟩ := bsm h
  simp (maxSteps := 10000000) (implicitDefEqProofs := false) (disch := first | assumption | omega | exact rfl) only [bs, rs54, ls54_34, Nat.reduceAdd, ↓reduceIte, loadD_pagg a39 z39, storeD_agg z39, hg, hq]
  refine Wp.ctx (fun x => blockW _ (seqW _ _ _ _ (blockW _ (x)))) (L54_34_2_ok s1 s11_25 y0 s12 _ o (show ghostsD g54_2 _ = some _ from ghosts_app (a := [.keep [0, 1, 4, 11, 12]]) (b := [.keep [0, 1, 4, 11, 12]]) hq (by kernel_rfl)) h37) ?_
  intro e st hq
  cases o with
  | next _ => (first | cases h | (simp at h))
  | jmp n_ s_ =>
   obtain ⟨rfl, rfl, hq⟩ := hq
   generalize s_ = s12_38 at h hq
   unfold F54_34_2 at hq
   (try simp only [] at h hq)
   by_cases h39 : s12_38 < s11_25
   ·rw [if_pos h39] at h
    have h39' : decide (s12_38 < s11_25) = true := decide_eq_true h39
    obtain rfl := Option.some.inj h
    simp (maxSteps := 10000000) (implicitDefEqProofs := false) (disch := first | assumption | omega | exact rfl) only [bs, rs54, ls54_34, Nat.reduceAdd, ↓reduceIte, loadD_pagg a39 z39, storeD_agg z39, hg, hq, hq, ↓h39']
    exact ⟨rfl, rfl, by kernel_rfl⟩
   ·rw [if_neg h39] at h
    have h39' : decide (s12_38 < s11_25) = false := decide_eq_false h39
    obtain ⟨v40, h41, h⟩ := bsm h
    obtain ⟨h41a, h41b, _⟩ := rd_some h41
    have h42 := lk_arr_39 h41
    obtain ⟨v43, h44, h⟩ := bsm h
    obtain ⟨h44a, h44b, _⟩ := rd_some h44
    have h45 := lk_arr_39 h44
    have h46 : ∀ (H : List Ob) (id : Nat), staOb H id (s11_25.toNat * 2) 2 [.v (.int .i64 v40.Old), .v (.int .i64 v40.New)] (some (.arr (encL en_Pair y0))) = some (H.set id (.arr (encL en_Pair (y0.set s11_25.toNat v40)))) := fun H id => by
        have := sta_arr (H := H) (id := id) (v := v40) en_Pair_len h44a h44b
        rw [en_Pair_eq] at this
        exact this
    have h47 : (y0.set s11_25.toNat v40).length = y0.length := List.length_set
    obtain ⟨v48, h49, h⟩ := bsm h
    obtain ⟨h49a, h49b, _⟩ := rd_some h49
    have h50 : ∀ (H : List Ob) (id : Nat), staOb H id (s12_38.toNat * 2) 2 [.v (.int .i64 v43.Old), .v (.int .i64 v43.New)] (some (.arr (encL en_Pair (y0.set s11_25.toNat v40)))) = some (H.set id (.arr (encL en_Pair ((y0.set s11_25.toNat v40).set s12_38.toNat v43)))) := fun H id => by
        have := sta_arr (H := H) (id := id) (v := v43) en_Pair_len h49a h49b
        rw [en_Pair_eq] at this
        exact this
    have h51 : ((y0.set s11_25.toNat v40).set s12_38.toNat v43).length = (y0.set s11_25.toNat v40).length := List.length_set
    obtain rfl := Option.some.inj h
    simp (maxSteps := 10000000) (implicitDefEqProofs := false) (disch := first | assumption | omega | exact rfl) only [bs, rs54, ls54_34, Nat.reduceAdd, ↓reduceIte, loadD_pagg a39 z39, storeD_agg z39, hg, hq, hq, ↓h39', h42, h45, h46, h50]
    exact ⟨rfl, by simp only [List.length_set, cpL_len]; kernel_rfl⟩
  | ret _ => (first | cases h | (simp at h))
 | ret _ => (first | cases h | (simp at h))
theorem f54_34_ok  (x0 : (List Pair)) (x1 : Int) (x2 : Int) (x3 : Int) (r : (Int × (List Pair))) (h : slices_partitionEqualCmpFunc similar_Match_c2 x0 x1 x2 x3 = some r) : callW Try.prog A0 54 [.ref 0 0 x0.length 2, iv x1, iv x2, iv x3, .p (.fn (.func 34) [])] [.arr (encL en_Pair x0)] = some (.p (.v (.int .i64 r.1)), [.arr (encL en_Pair r.2)]) := by
 refine call_ofH (fn := Try.f54) (c := bodyOf Try.f54) rfl rfl (by kernel_rfl) (by kernel_rfl) ?_
 rw [show initS Try.f54 [.ref 0 0 x0.length 2, iv x1, iv x2, iv x3, .p (.fn (.func 34) [])] [.arr (encL en_Pair x0)] = ⟨.ref 0 0 x0.length 2 :: iv x1 :: iv x2 :: iv x3 :: .p (.fn (.func 34) []) :: List.replicate 85 undefD, [.arr (encL en_Pair x0)], 1⟩ from by kernel_rfl]
 unfold slices_partitionEqualCmpFunc at h
 unfold bodyOf Try.f54; simp only [Option.getD_some, loopsOf, List.append_nil, List.nil_append, List.cons_append, List.getD_cons_zero, List.getD_cons_succ]
 simp only [List.replicate]
 obtain ⟨v1, h2, h⟩ := bsm h
 obtain ⟨h2a, h2b, _⟩ := rd_some h2
 have h3 := lk_arr_39 h2
 obtain ⟨v4, h5, h⟩ := bsm h
 obtain ⟨h5a, h5b, _⟩ := rd_some h5
 have h6 := lk_arr_39 h5
 have h7 : ∀ (H : List Ob) (id : Nat), staOb H id (x1.toNat * 2) 2 [.v (.int .i64 v1.Old), .v (.int .i64 v1.New)] (some (.arr (encL en_Pair x0))) = some (H.set id (.arr (encL en_Pair (x0.set x1.toNat v1)))) := fun H id => by
     have := sta_arr (H := H) (id := id) (v := v1) en_Pair_len h5a h5b
     rw [en_Pair_eq] at this
     exact this
 have h8 : (x0.set x1.toNat v1).length = x0.length := List.length_set
 obtain ⟨v9, h10, h⟩ := bsm h
 obtain ⟨h10a, h10b, _⟩ := rd_some h10
 have h11 : ∀ (H : List Ob) (id : Nat), staOb H id (x3.toNat * 2) 2 [.v (.int .i64 v4.Old), .v (.int .i64 v4.New)] (some (.arr (encL en_Pair (x0.set x1.toNat v1)))) = some (H.set id (.arr (encL en_Pair ((x0.set x1.toNat v1).set x3.toNat v4)))) := fun H id => by
     have := sta_arr (H := H) (id := id) (v := v4) en_Pair_len h10a h10b
     rw [en_Pair_eq] at this
     exact this
 have h12 : ((x0.set x1.toNat v1).set x3.toNat v4).length = (x0.set x1.toNat v1).length := List.length_set
 obtain ⟨o, h52, h⟩ := bsm h
 simp (maxSteps := 10000000) (implicitDefEqProofs := false) (disch := first | assumption | omega | exact rfl) only [bs, rs54, ls54_34, Nat.reduceAdd, ↓reduceIte, loadD_pagg a39 z39, storeD_agg z39, h3, h6, h7, h11]
 refine Wp.ctx (fun x => seqW _ _ _ _ (blockW _ (x))) (L54_34_0_ok x1 (w64 (x1 + (1 : Int)), w64 (x2 - (1 : Int)), ((x0.set x1.toNat v1).set x3.toNat v4)) _ o (by unfold F54_34_0; simp only [List.length_set, cpL_len]; kernel_rfl) h52) ?_
 intro e st hq
 cases o with
 | next _ => (first | cases h | (simp at h))
 | jmp n_ s_ =>
  obtain ⟨rfl, rfl, hq⟩ := hq
  obtain ⟨s11_53, s12_53, y0_53⟩ := s_
  unfold F54_34_0 at hq
  (try simp only [] at h hq)
  obtain rfl := Option.some.inj h
  simp (maxSteps := 10000000) (implicitDefEqProofs := false) (disch := first | assumption | omega | exact rfl) only [bs, rs54, ls54_34, Nat.reduceAdd, ↓reduceIte, loadD_pagg a39 z39, storeD_agg z39, h3, h6, h7, h11, hq]
  refine ⟨by first | exact .inl trivial | exact .inr trivial | simp, ?_⟩
  show _ = _
  kernel_rfl
 | ret _ => (first | cases h | (simp at h))
theorem slices_partitionEqualCmpFunc_34_call {x0 : (List Pair)} {x1 : Int} {x2 : Int} {x3 : Int} {r : (Int × (List Pair))} (h : slices_partitionEqualCmpFunc similar_Match_c2 x0 x1 x2 x3 = some r) : callW Try.prog A0 54 [.ref 0 0 x0.length 2, iv x1, iv x2, iv x3, .p (.fn (.func 34) [])] [.arr (encL en_Pair x0)] = some (.p (.v (.int .i64 r.1)), [.arr (encL en_Pair r.2)]) := f54_34_ok x0 x1 x2 x3 _ h
def ls59 := @cv_3_73
theorem f59_ok  (x0 : Int) (r : Int) (h : slices_nextPowerOfTwo x0 = some r) : callW Try.prog A0 59 [iv x0] [] = some (.p (.v (.int .u64 r)), []) := by
 refine call_ofH (fn := Try.f59) (c := bodyOf Try.f59) rfl rfl (by kernel_rfl) (by kernel_rfl) ?_
 rw [show initS Try.f59 [iv x0] [] = ⟨iv x0 :: List.replicate 6 undefD, [], 0⟩ from by kernel_rfl]
 unfold slices_nextPowerOfTwo at h
 unfold bodyOf Try.f59; simp only [Option.getD_some, loopsOf, List.append_nil, List.nil_append, List.cons_append, List.getD_cons_zero, List.getD_cons_succ]
 simp only [List.replicate]
 obtain ⟨r1, h2, h⟩ := bsm h
 have h3 : ∀ H, callD (callW Try.prog A0) A0 H 46 [.p (.v (.int .u64 (IntKind.wrap .u64 x0)))] = some (.p (.v (.int .i64 r1)), none) := fun H => math_bits_Len_call h2
 obtain ⟨q4, h5, h⟩ := bsm h
 have h6 : ∀ xo yo, binD Try.prog .shl 73 xo yo (.p (.v (.int .u64 (1 : Int)))) (.p (.v (.int .i64 r1))) = some (.p (.v (.int .u64 q4))) := fun xo yo => binD_shl_k h5
 obtain rfl := Option.some.inj h
 simp (maxSteps := 10000000) (implicitDefEqProofs := false) (disch := first | assumption | omega | exact rfl) only [bs, rs59, ls59, Nat.reduceAdd, ↓reduceIte, h3, h6]
 refine ⟨by first | exact .inl trivial | exact .inr trivial | simp, ?_⟩
 exact finish_is (ds := [.p (.v (.int .u64 q4))]) (x := .v (.int .u64 q4)) (y := .v (.int .u64 q4)) (l := []) rfl rfl rfl rfl (by first | rfl | (simp only [wk, wks, wkL]; first | done | rfl))
theorem slices_nextPowerOfTwo_call {H : List Ob} {x0 : Int} {r : Int} (h : slices_nextPowerOfTwo x0 = some r) : callD (callW Try.prog A0) A0 H 59 [iv x0] = some (.p (.v (.int .u64 r)), none) :=
  callD_fun (args := [.v (.int .i64 x0)]) rfl rfl rfl (by simp only [List.map_cons, List.map_nil, wk, wks, wkL]; exact f59_ok x0 _ h)
def ls60 := And.intro @sv_1_0_1 (@varld_1_0)
theorem f60_ok  (x0 : Int) (r : (Int × Int)) (h : slices_xorshift_Next x0 = some r) : callW Try.prog A0 60 [.ptr 0 0] [.var [.p (.v (.int .u64 x0))]] = some (.p (.v (.int .u64 r.1)), [.var [.p (.v (.int .u64 r.2))]]) := by
 refine call_ofH (fn := Try.f60) (c := bodyOf Try.f60) rfl rfl (by kernel_rfl) (by kernel_rfl) ?_
 rw [show initS Try.f60 [.ptr 0 0] [.var [.p (.v (.int .u64 x0))]] = ⟨.ptr 0 0 :: List.replicate 32 undefD, [.var [.p (.v (.int .u64 x0))]], 1⟩ from by kernel_rfl]
 unfold slices_xorshift_Next at h
 unfold bodyOf Try.f60; simp only [Option.getD_some, loopsOf, List.append_nil, List.nil_append, List.cons_append, List.getD_cons_zero, List.getD_cons_succ]
 simp only [List.replicate]
 obtain ⟨q1, h2, h⟩ := bsm h
 have h3 : ∀ xo yo, binD Try.prog .shl 87 xo yo (.p (.v (.int .u64 x0))) (.p (.v (.int .u64 (13 : Int)))) = some (.p (.v (.int .u64 q1))) := fun xo yo => binD_shl_k h2
 obtain ⟨q4, h5, h⟩ := bsm h
 have h6 : ∀ xo yo, binD Try.prog .shr 87 xo yo (.p (.v (.int .u64 (xorK .u64 x0 q1)))) (.p (.v (.int .u64 (7 : Int)))) = some (.p (.v (.int .u64 q4))) := fun xo yo => binD_shr_k h5
 obtain ⟨q7, h8, h⟩ := bsm h
 have h9 : ∀ xo yo, binD Try.prog .shl 87 xo yo (.p (.v (.int .u64 (xorK .u64 (xorK .u64 x0 q1) q4)))) (.p (.v (.int .u64 (17 : Int)))) = some (.p (.v (.int .u64 q7))) := fun xo yo => binD_shl_k h8
 obtain rfl := Option.some.inj h
 simp (maxSteps := 10000000) (implicitDefEqProofs := false) (disch := first | assumption | omega | exact rfl) only [bs, rs60, ls60, Nat.reduceAdd, ↓reduceIte, binD_xor_k, loadD_ptr a87, nilCheckD_ptr, ops_nilCheck, storeD_int z87, h3, h6, h9]
 refine ⟨by first | exact .inl trivial | exact .inr trivial | simp, ?_⟩
 show _ = _
 kernel_rfl
theorem slices_xorshift_Next_call {x0 : Int} {r : (Int × Int)} (h : slices_xorshift_Next x0 = some r) : callW Try.prog A0 60 [.ptr 0 0] [.var [.p (.v (.int .u64 x0))]] = some (.p (.v (.int .u64 r.1)), [.var [.p (.v (.int .u64 r.2))]]) := f60_ok x0 _ h
def ls50_34 := And.intro @al_87 (And.intro @cv_3_87 (And.intro @cv_73_3 (And.intro @idxR_26 (@sv_1_0_1))))
noncomputable def L50_0 : Code := (loopsOf (bodyOf Try.f50)).getD 0 .skip
def g50_0 : List Ghost := [.keep [0, 1, 8, 9, 10, 11]]
def F50_34_0 (s1 : Int) (s8 : Int) (s10 : Int) : (Int × (List Pair) × Int) → St := fun (s11, y0, w1_0) => ⟨[.ref 0 0 y0.length 2, iv s1, .junk, .junk, .junk, .junk, .junk, .junk, iv s8, .ptr 1 0, .p (.v (.int .u64 s10)), iv s11, .junk, .junk, .junk, .junk, .junk, .junk, .junk, .junk, .junk, .junk, .junk, .junk, .junk, .junk, .junk, .junk, .junk, .junk, .junk, .junk, .junk, .junk, .junk, .junk, .junk, .junk, .junk, .junk, .junk, .junk, .junk, .junk, .junk, .junk, .junk, .junk, .junk, .junk, .junk, .junk, .junk, .junk, .junk, .junk, .junk, .junk, .junk, .junk, .junk, .junk, .junk, .junk, .junk, .junk, .junk], [.arr (encL en_Pair y0), .var [.p (.v (.int .u64 w1_0))]], 1⟩
theorem L50_34_0_ok (s1 : Int) (s8 : Int) (s10 : Int) : ∀ s st o, ghostsD g50_0 st = some (F50_34_0 s1 s8 s10 s) → iter (slices_breakPatternsCmpFunc_L0 similar_Match_c2 s1 s8 s10) s = some o →
    Wp (evW Try.prog A0 50 (.loop L50_0) st) (OutQ (F50_34_0 s1 s8 s10) g50_0 (fun n s st => n = 0 ∧ (match s with | (s11, y0, w1_0) => finishD Try.prog A0 50 Try.f50 st = some (.p (.tup []), [.arr (encL en_Pair y0)]))) (fun r st => finishD Try.prog A0 50 Try.f50 st = some (.p (.tup []), [.arr (encL en_Pair r)])) o) := by
 refine Wp.iter ?_
 intro s st o hg h
 obtain ⟨s11, y0, w1_0⟩ := s
 unfold slices_breakPatternsCmpFunc_L0 at h
 unfold g50_0 F50_34_0 at hg ⊢
 (try simp only [] at h hg)
 unfold L50_0 bodyOf Try.f50; simp only [Option.getD_some, loopsOf, List.append_nil, List.nil_append, List.cons_append, List.getD_cons_zero, List.getD_cons_succ]
 obtain ⟨q40, h41, h⟩ := bsm h
 have h42 : ∀ xo yo, binD Try.prog .quo 3 xo yo (.p (.v (.int .i64 s8))) (.p (.v (.int .i64 (4 : Int)))) = some (.p (.v (.int .i64 q40))) := fun xo yo => binD_quo_k h41
 by_cases h43 : s11 ≤ (w64 ((w64 (s1 + (w64 (q40 * (2 : Int))))) + (1 : Int)))
 ·rw [if_pos h43] at h
  have h43' : decide (s11 ≤ (w64 ((w64 (s1 + (w64 (q40 * (2 : Int))))) + (1 : Int)))) = true := decide_eq_true h43
  obtain ⟨r44, h45, h⟩ := bsm h
  have h46 : callD (callW Try.prog A0) A0 [.arr (encL en_Pair y0), .var [.p (.v (.int .u64 w1_0))]] 60 [.ptr 1 0] = some (.p (.v (.int .u64 r44.1)), some [.arr (encL en_Pair y0), .var [.p (.v (.int .u64 r44.2))]]) := (callD_put (dsw := [.ptr 1 0]) (ds' := [.ptr 0 0]) (i := 1) (ids := []) (o := .var [.p (.v (.int .u64 w1_0))]) (os := []) (o' := .var [.p (.v (.int .u64 r44.2))]) (os' := []) rfl (by kernel_rfl) (by kernel_rfl) (by kernel_rfl) (by kernel_rfl) (by kernel_rfl) (slices_xorshift_Next_call h45) rfl rfl).trans (by kernel_rfl)
  by_cases h47 : s8 ≤ (IntKind.wrap .i64 (andK .u64 r44.1 (IntKind.wrap .u64 (s10 - (1 : Int)))))
  ·rw [if_pos h47] at h
   have h47' : decide (s8 ≤ (IntKind.wrap .i64 (andK .u64 r44.1 (IntKind.wrap .u64 (s10 - (1 : Int)))))) = true := decide_eq_true h47
   obtain ⟨v48, h49, h⟩ := bsm h
   obtain ⟨h49a, h49b, _⟩ := rd_some h49
   have h50 := lk_arr_39 h49
   obtain ⟨v51, h52, h⟩ := bsm h
   obtain ⟨h52a, h52b, _⟩ := rd_some h52
   have h53 := lk_arr_39 h52
   have h54 : ∀ (H : List Ob) (id : Nat), staOb H id (s11.toNat * 2) 2 [.v (.int .i64 v48.Old), .v (.int .i64 v48.New)] (some (.arr (encL en_Pair y0))) = some (H.set id (.arr (encL en_Pair (y0.set s11.toNat v48)))) := fun H id => by
       have := sta_arr (H := H) (id := id) (v := v48) en_Pair_len h52a h52b
       rw [en_Pair_eq] at this
       exact this
   have h55 : (y0.set s11.toNat v48).length = y0.length := List.length_set
   obtain ⟨v56, h57, h⟩ := bsm h
   obtain ⟨h57a, h57b, _⟩ := rd_some h57
   have h58 : ∀ (H : List Ob) (id : Nat), staOb H id ((w64 (s1 + (w64 ((IntKind.wrap .i64 (andK .u64 r44.1 (IntKind.wrap .u64 (s10 - (1 : Int))))) - s8)))).toNat * 2) 2 [.v (.int .i64 v51.Old), .v (.int .i64 v51.New)] (some (.arr (encL en_Pair (y0.set s11.toNat v48)))) = some (H.set id (.arr (encL en_Pair ((y0.set s11.toNat v48).set (w64 (s1 + (w64 ((IntKind.wrap .i64 (andK .u64 r44.1 (IntKind.wrap .u64 (s10 - (1 : Int))))) - s8)))).toNat v51)))) := fun H id => by
       have := sta_arr (H := H) (id := id) (v := v51) en_Pair_len h57a h57b
       rw [en_Pair_eq] at this
       exact this
   have h59 : ((y0.set s11.toNat v48).set (w64 (s1 + (w64 ((IntKind.wrap .i64 (andK .u64 r44.1 (IntKind.wrap .u64 (s10 - (1 : Int))))) - s8)))).toNat v51).length = (y0.set s11.toNat v48).length := List.length_set
   obtain rfl := Option.some.inj h
   simp (maxSteps := 10000000) (implicitDefEqProofs := false) (disch := first | assumption | omega | exact rfl) only [bs, rs50, ls50_34, Nat.reduceAdd, ↓reduceIte, binD_and_k, binD_sub_k (k := .u64), loadD_pagg a39 z39, storeD_agg z39, storeD_int z87, hg, h42, ↓h43', h46, ↓h47', h50, h53, h54, h58]
   exact ⟨rfl, by simp only [List.length_set, cpL_len]; kernel_rfl⟩
  ·rw [if_neg h47] at h
   have h47' : decide (s8 ≤ (IntKind.wrap .i64 (andK .u64 r44.1 (IntKind.wrap .u64 (s10 - (1 : Int)))))) = false := decide_eq_false h47
   obtain ⟨v60, h61, h⟩ := bsm h
   obtain ⟨h61a, h61b, _⟩ := rd_some h61
   have h62 := lk_arr_39 h61
   obtain ⟨v63, h64, h⟩ := bsm h
   obtain ⟨h64a, h64b, _⟩ := rd_some h64
   have h65 := lk_arr_39 h64
   have h66 : ∀ (H : List Ob) (id : Nat), staOb H id (s11.toNat * 2) 2 [.v (.int .i64 v60.Old), .v (.int .i64 v60.New)] (some (.arr (encL en_Pair y0))) = some (H.set id (.arr (encL en_Pair (y0.set s11.toNat v60)))) := fun H id => by
       have := sta_arr (H := H) (id := id) (v := v60) en_Pair_len h64a h64b
       rw [en_Pair_eq] at this
       exact this
   have h67 : (y0.set s11.toNat v60).length = y0.length := List.length_set
   obtain ⟨v68, h69, h⟩ := bsm h
   obtain ⟨h69a, h69b, _⟩ := rd_some h69
   have h70 : ∀ (H : List Ob) (id : Nat), staOb H id ((w64 (s1 + (IntKind.wrap .i64 (andK .u64 r44.1 (IntKind.wrap .u64 (s10 - (1 : Int))))))).toNat * 2) 2 [.v (.int .i64 v63.Old), .v (.int .i64 v63.New)] (some (.arr (encL en_Pair (y0.set s11.toNat v60)))) = some (H.set id (.arr (encL en_Pair ((y0.set s11.toNat v60).set (w64 (s1 + (IntKind.wrap .i64 (andK .u64 r44.1 (IntKind.wrap .u64 (s10 - (1 : Int))))))).toNat v63)))) := fun H id => by
       have := sta_arr (H := H) (id := id) (v := v63) en_Pair_len h69a h69b
       rw [en_Pair_eq] at this
       exact this
   have h71 : ((y0.set s11.toNat v60).set (w64 (s1 + (IntKind.wrap .i64 (andK .u64 r44.1 (IntKind.wrap .u64 (s10 - (1 : Int))))))).toNat v63).length = (y0.set s11.toNat v60).length := List.length_set
   obtain rfl := Option.some.inj h
   simp (maxSteps := 10000000) (implicitDefEqProofs := false) (disch := first | assumption | omega | exact rfl) only [bs, rs50, ls50_34, Nat.reduceAdd, ↓reduceIte, binD_and_k, binD_sub_k (k := .u64), loadD_pagg a39 z39, storeD_agg z39, storeD_int z87, hg, h42, ↓h43', h46, ↓h47', h62, h65, h66, h70]
   exact ⟨rfl, by simp only [List.length_set, cpL_len]; kernel_rfl⟩
 ·rw [if_neg h43] at h
  have h43' : decide (s11 ≤ (w64 ((w64 (s1 + (w64 (q40 * (2 : Int))))) + (1 : Int)))) = false := decide_eq_false h43
  obtain rfl := Option.some.inj h
  simp (maxSteps := 10000000) (implicitDefEqProofs := false) (disch := first | assumption | omega | exact rfl) only [bs, rs50, ls50_34, Nat.reduceAdd, ↓reduceIte, binD_and_k, binD_sub_k (k := .u64), loadD_pagg a39 z39, storeD_agg z39, storeD_int z87, hg, h42, ↓h43']
  refine ⟨rfl, rfl, ?_⟩
  show _ = _
  kernel_rfl
theorem f50_34_ok  (x0 : (List Pair)) (x1 : Int) (x2 : Int) (r : (List Pair)) (h : slices_breakPatternsCmpFunc similar_Match_c2 x0 x1 x2 = some r) : callW Try.prog A0 50 [.ref 0 0 x0.length 2, iv x1, iv x2, .p (.fn (.func 34) [])] [.arr (encL en_Pair x0)] = some (.p (.tup []), [.arr (encL en_Pair r)]) := by
 refine call_ofH (fn := Try.f50) (c := bodyOf Try.f50) rfl rfl (by kernel_rfl) (by kernel_rfl) ?_
 rw [show initS Try.f50 [.ref 0 0 x0.length 2, iv x1, iv x2, .p (.fn (.func 34) [])] [.arr (encL en_Pair x0)] = ⟨.ref 0 0 x0.length 2 :: iv x1 :: iv x2 :: .p (.fn (.func 34) []) :: List.replicate 63 undefD, [.arr (encL en_Pair x0)], 1⟩ from by kernel_rfl]
 unfold slices_breakPatternsCmpFunc at h
 unfold bodyOf Try.f50; simp only [Option.getD_some, loopsOf, List.append_nil, List.nil_append, List.cons_append, List.getD_cons_zero, List.getD_cons_succ]
 simp only [List.replicate]
 by_cases h1 : (8 : Int) ≤ (w64 (x2 - x1))
 ·rw [if_pos h1] at h
  have h1' : decide ((8 : Int) ≤ (w64 (x2 - x1))) = true := decide_eq_true h1
  obtain ⟨r2, h3, h⟩ := bsm h
  have h4 : ∀ H, callD (callW Try.prog A0) A0 H 59 [iv (w64 (x2 - x1))] = some (.p (.v (.int .u64 r2)), none) := fun H => slices_nextPowerOfTwo_call h3
  obtain ⟨q5, h6, h⟩ := bsm h
  have h7 : ∀ xo yo, binD Try.prog .quo 3 xo yo (.p (.v (.int .i64 (w64 (x2 - x1))))) (.p (.v (.int .i64 (4 : Int)))) = some (.p (.v (.int .i64 q5))) := fun xo yo => binD_quo_k h6
  obtain ⟨o, h72, h⟩ := bsm h
  simp (maxSteps := 10000000) (implicitDefEqProofs := false) (disch := first | assumption | omega | exact rfl) only [bs, rs50, ls50_34, Nat.reduceAdd, ↓reduceIte, binD_and_k, binD_sub_k (k := .u64), loadD_pagg a39 z39, storeD_agg z39, storeD_int z87, ↓h1', h4, h7]
  refine Wp.ctx (fun x => blockW _ (x)) (L50_34_0_ok x1 (w64 (x2 - x1)) r2 (w64 ((w64 (x1 + (w64 (q5 * (2 : Int))))) - (1 : Int)), x0, IntKind.wrap .u64 (w64 (x2 - x1))) _ o (by kernel_rfl) h72) ?_
  intro e st hq
  cases o with
  | next _ => (first | cases h | (simp at h))
  | jmp n_ s_ =>
   obtain ⟨rfl, rfl, hq⟩ := hq
   obtain ⟨s11_73, y0_73, w1_0_73⟩ := s_
   obtain rfl := Option.some.inj h
   simp (maxSteps := 10000000) (implicitDefEqProofs := false) (disch := first | assumption | omega | exact rfl) only [bs, rs50, ls50_34, Nat.reduceAdd, ↓reduceIte, binD_and_k, binD_sub_k (k := .u64), loadD_pagg a39 z39, storeD_agg z39, storeD_int z87]
   exact ⟨by first | exact .inl trivial | exact .inr trivial | simp, hq⟩
  | ret _ => (first | cases h | (simp at h))
 ·rw [if_neg h1] at h
  have h1' : decide ((8 : Int) ≤ (w64 (x2 - x1))) = false := decide_eq_false h1
  obtain rfl := Option.some.inj h
  simp (maxSteps := 10000000) (implicitDefEqProofs := false) (disch := first | assumption | omega | exact rfl) only [bs, rs50, ls50_34, Nat.reduceAdd, ↓reduceIte, binD_and_k, binD_sub_k (k := .u64), loadD_pagg a39 z39, storeD_agg z39, storeD_int z87, ↓h1']
  refine ⟨by first | exact .inl trivial | exact .inr trivial | simp, ?_⟩
  show _ = _
  kernel_rfl
theorem slices_breakPatternsCmpFunc_34_call {x0 : (List Pair)} {x1 : Int} {x2 : Int} {r : (List Pair)} (h : slices_breakPatternsCmpFunc similar_Match_c2 x0 x1 x2 = some r) : callW Try.prog A0 50 [.ref 0 0 x0.length 2, iv x1, iv x2, .p (.fn (.func 34) [])] [.arr (encL en_Pair x0)] = some (.p (.tup []), [.arr (encL en_Pair r)]) := f50_34_ok x0 x1 x2 _ h
def ls45_34 := And.intro @ex_2_0 (And.intro @ex_2_1 (@idxR_26))
theorem slices_pdqsortCmpFunc_rcall {rec : (List Pair) → Int → Int → Int → Option (List Pair)} (hrec : ∀ x0 x1 x2 x3 r, rec x0 x1 x2 x3 = some r → callW Try.prog A0 45 [.ref 0 0 x0.length 2, iv x1, iv x2, iv x3, .p (.fn (.func 34) [])] [.arr (encL en_Pair x0)] = some (.p (.tup []), [.arr (encL en_Pair r)])) {x0 : (List Pair)} {x1 : Int} {x2 : Int} {x3 : Int} {r : (List Pair)} (h : rec x0 x1 x2 x3 = some r) : callW Try.prog A0 45 [.ref 0 0 x0.length 2, iv x1, iv x2, iv x3, .p (.fn (.func 34) [])] [.arr (encL en_Pair x0)] = some (.p (.tup []), [.arr (encL en_Pair r)]) := hrec x0 x1 x2 x3 _ h
noncomputable def L45_0 : Code := (loopsOf (bodyOf Try.f45)).getD 0 .skip
def g45_0 : List Ghost := [.keep [0, 1, 2, 3, 4, 10, 11]]
def F45_34_0 : (Int × Int × Int × Bool × Bool × (List Pair)) → St := fun (s1, s2, s3, s10, s11, y0) => ⟨[.ref 0 0 y0.length 2, iv s1, iv s2, iv s3, .p (.fn (.func 34) []), .junk, .junk, .junk, .junk, .junk, bv s10, bv s11, .junk, .junk, .junk, .junk, .junk, .junk, .junk, .junk, .junk, .junk, .junk, .junk, .junk, .junk, .junk, .junk, .junk, .junk, .junk, .junk, .junk, .junk, .junk, .junk, .junk, .junk, .junk, .junk, .junk, .junk, .junk, .junk, .junk, .junk, .junk, .junk, .junk, .junk, .junk, .junk, .junk, .junk, .junk, .junk, .junk, .junk, .junk, .junk, .junk, .junk, .junk, .junk, .junk, .junk, .junk, .junk, .junk, .junk, .junk, .junk, .junk, .junk, .junk, .junk, .junk, .junk, .junk, .junk, .junk, .junk, .junk, .junk, .junk, .junk, .junk, .junk, .junk, .junk, .junk, .junk, .junk, .junk, .junk, .junk, .junk, .junk, .junk, .junk, .junk, .junk, .junk, .junk, .junk, .junk, .junk, .junk, .junk, .junk, .junk, .junk, .junk, .junk, .junk, .junk, .junk, .junk, .junk, .junk, .junk, .junk, .junk, .junk, .junk, .junk, .junk, .junk, .junk, .junk, .junk, .junk, .junk, .junk, .junk, .junk, .junk, .junk, .junk, .junk, .junk, .junk, .junk, .junk, .junk, .junk, .junk, .junk], [.arr (encL en_Pair y0)], 1⟩
theorem L45_34_0_ok {rec : (List Pair) → Int → Int → Int → Option (List Pair)} (hrec : ∀ x0 x1 x2 x3 r, rec x0 x1 x2 x3 = some r → callW Try.prog A0 45 [.ref 0 0 x0.length 2, iv x1, iv x2, iv x3, .p (.fn (.func 34) [])] [.arr (encL en_Pair x0)] = some (.p (.tup []), [.arr (encL en_Pair r)])) : ∀ s st o, ghostsD g45_0 st = some (F45_34_0 s) → iter (slices_pdqsortCmpFunc_L0 rec similar_Match_c2) s = some o →
    Wp (evW Try.prog A0 45 (.loop L45_0) st) (OutQ (F45_34_0) g45_0 (fun n s st => False) (fun r st => finishD Try.prog A0 45 Try.f45 st = some (.p (.tup []), [.arr (encL en_Pair r)])) o) := by
 refine Wp.iter ?_
 intro s st o hg h
 obtain ⟨s1, s2, s3, s10, s11, y0⟩ := s
 unfold slices_pdqsortCmpFunc_L0 at h
 unfold g45_0 F45_34_0 at hg ⊢
 (try simp only [] at h hg)
 unfold L45_0 bodyOf Try.f45; simp only [Option.getD_some, loopsOf, List.append_nil, List.nil_append, List.cons_append, List.getD_cons_zero, List.getD_cons_succ]
 by_cases h376 : (w64 (s2 - s1)) ≤ (12 : Int)
 ·rw [if_pos h376] at h
  have h376' : decide ((w64 (s2 - s1)) ≤ (12 : Int)) = true := decide_eq_true h376
  obtain ⟨r377, h378, h⟩ := bsm h
  have h379 : callD (callW Try.prog A0) A0 [.arr (encL en_Pair y0)] 48 [.ref 0 0 y0.length 2, iv s1, iv s2, .p (.fn (.func 34) [])] = some (.p (.tup []), some [.arr (encL en_Pair r377)]) := (callD_put (dsw := [.ref 0 0 y0.length 2, iv s1, iv s2, .p (.fn (.func 34) [])]) (ds' := [.ref 0 0 y0.length 2, iv s1, iv s2, .p (.fn (.func 34) [])]) (i := 0) (ids := []) (o := .arr (encL en_Pair y0)) (os := []) (o' := .arr (encL en_Pair r377)) (os' := []) rfl (by kernel_rfl) (by kernel_rfl) (by kernel_rfl) (by kernel_rfl) (by kernel_rfl) (slices_insertionSortCmpFunc_34_call h378) rfl rfl).trans (by kernel_rfl)
  by_cases hw_ : r377.length = y0.length
  case neg => rw [if_neg hw_] at h; cases h
  rw [if_pos hw_] at h
  have h380 := hw_
  obtain rfl := Option.some.inj h
  simp (maxSteps := 10000000) (implicitDefEqProofs := false) (disch := first | assumption | omega | exact rfl) only [bs, rs45, ls45_34, Nat.reduceAdd, ↓reduceIte, Int.reduceEq, Int.reduceLE, Int.reduceLT, loadD_pagg a39 z39, hg, ↓h376', h379]
  refine ⟨rfl, ?_⟩
  show _ = _
  kernel_rfl
 ·rw [if_neg h376] at h
  have h376' : decide ((w64 (s2 - s1)) ≤ (12 : Int)) = false := decide_eq_false h376
  by_cases h381 : s3 = (0 : Int)
  ·rw [if_pos h381] at h
   have h381' : decide (s3 = (0 : Int)) = true := decide_eq_true h381
   obtain ⟨r382, h383, h⟩ := bsm h
   have h384 : callD (callW Try.prog A0) A0 [.arr (encL en_Pair y0)] 49 [.ref 0 0 y0.length 2, iv s1, iv s2, .p (.fn (.func 34) [])] = some (.p (.tup []), some [.arr (encL en_Pair r382)]) := (callD_put (dsw := [.ref 0 0 y0.length 2, iv s1, iv s2, .p (.fn (.func 34) [])]) (ds' := [.ref 0 0 y0.length 2, iv s1, iv s2, .p (.fn (.func 34) [])]) (i := 0) (ids := []) (o := .arr (encL en_Pair y0)) (os := []) (o' := .arr (encL en_Pair r382)) (os' := []) rfl (by kernel_rfl) (by kernel_rfl) (by kernel_rfl) (by kernel_rfl) (by kernel_rfl) (slices_heapSortCmpFunc_34_call h383) rfl rfl).trans (by kernel_rfl)
   by_cases hw_ : r382.length = y0.length
   case neg => rw [if_neg hw_] at h; cases h
   rw [if_pos hw_] at h
   have h385 := hw_
   obtain rfl := Option.some.inj h
   simp (maxSteps := 10000000) (implicitDefEqProofs := false) (disch := first | assumption | omega | exact rfl) only [bs, rs45, ls45_34, Nat.reduceAdd, ↓reduceIte, Int.reduceEq, Int.reduceLE, Int.reduceLT, loadD_pagg a39 z39, hg, ↓h376', ↓h381', h384]
   refine ⟨rfl, ?_⟩
   show _ = _
   kernel_rfl
  ·rw [if_neg h381] at h
   have h381' : decide (s3 = (0 : Int)) = false := decide_eq_false h381
   by_cases h386 : s10 = true
   ·rw [if_pos h386] at h
    obtain ⟨r387, h388, h⟩ := bsm h
    have h389 : callD (callW Try.prog A0) A0 [.arr (encL en_Pair y0)] 51 [.ref 0 0 y0.length 2, iv s1, iv s2, .p (.fn (.func 34) [])] = some (.p (.tup [.v (.int .i64 r387.1), .v (.int .i64 r387.2.1)]), some [.arr (encL en_Pair r387.2.2)]) := (callD_put (dsw := [.ref 0 0 y0.length 2, iv s1, iv s2, .p (.fn (.func 34) [])]) (ds' := [.ref 0 0 y0.length 2, iv s1, iv s2, .p (.fn (.func 34) [])]) (i := 0) (ids := []) (o := .arr (encL en_Pair y0)) (os := []) (o' := .arr (encL en_Pair r387.2.2)) (os' := []) rfl (by kernel_rfl) (by kernel_rfl) (by kernel_rfl) (by kernel_rfl) (by kernel_rfl) (slices_choosePivotCmpFunc_34_call h388) rfl rfl).trans (by kernel_rfl)
    by_cases hw_ : r387.2.2.length = y0.length
    case neg => rw [if_neg hw_] at h; cases h
    rw [if_pos hw_] at h
    have h390 := hw_
    by_cases h391 : r387.2.1 = (2 : Int)
    ·rw [if_pos h391] at h
     have h391' : decide (r387.2.1 = (2 : Int)) = true := decide_eq_true h391
     obtain ⟨r392, h393, h⟩ := bsm h
     have h394 : callD (callW Try.prog A0) A0 [.arr (encL en_Pair r387.2.2)] 52 [.ref 0 0 y0.length 2, iv s1, iv s2, .p (.fn (.func 34) [])] = some (.p (.tup []), some [.arr (encL en_Pair r392)]) := by
         rw [show y0.length = r387.2.2.length from by omega]; exact (callD_put (dsw := [.ref 0 0 r387.2.2.length 2, iv s1, iv s2, .p (.fn (.func 34) [])]) (ds' := [.ref 0 0 r387.2.2.length 2, iv s1, iv s2, .p (.fn (.func 34) [])]) (i := 0) (ids := []) (o := .arr (encL en_Pair r387.2.2)) (os := []) (o' := .arr (encL en_Pair r392)) (os' := []) rfl (by kernel_rfl) (by kernel_rfl) (by kernel_rfl) (by kernel_rfl) (by kernel_rfl) (slices_reverseRangeCmpFunc_34_call h393) rfl rfl).trans (by kernel_rfl)
     by_cases hw_ : r392.length = r387.2.2.length
     case neg => rw [if_neg hw_] at h; cases h
     rw [if_pos hw_] at h
     have h395 := hw_
     by_cases h396 : s11 = true
     ·rw [if_pos h396] at h
      obtain ⟨r397, h398, h⟩ := bsm h
      have h399 : callD (callW Try.prog A0) A0 [.arr (encL en_Pair r392)] 53 [.ref 0 0 y0.length 2, iv s1, iv s2, .p (.fn (.func 34) [])] = some (.p (.v (.bool r397.1)), some [.arr (encL en_Pair r397.2)]) := by
          rw [show y0.length = r392.length from by omega]; exact (callD_put (dsw := [.ref 0 0 r392.length 2, iv s1, iv s2, .p (.fn (.func 34) [])]) (ds' := [.ref 0 0 r392.length 2, iv s1, iv s2, .p (.fn (.func 34) [])]) (i := 0) (ids := []) (o := .arr (encL en_Pair r392)) (os := []) (o' := .arr (encL en_Pair r397.2)) (os' := []) rfl (by kernel_rfl) (by kernel_rfl) (by kernel_rfl) (by kernel_rfl) (by kernel_rfl) (slices_partialInsertionSortCmpFunc_34_call h398) rfl rfl).trans (by kernel_rfl)
      by_cases hw_ : r397.2.length = r392.length
      case neg => rw [if_neg hw_] at h; cases h
      rw [if_pos hw_] at h
      have h400 := hw_
      by_cases h401 : r397.1 = true
      ·rw [if_pos h401] at h
       obtain rfl := Option.some.inj h
       simp (maxSteps := 10000000) (implicitDefEqProofs := false) (disch := first | assumption | omega | exact rfl) only [bs, rs45, ls45_34, Nat.reduceAdd, ↓reduceIte, Int.reduceEq, Int.reduceLE, Int.reduceLT, loadD_pagg a39 z39, hg, ↓h376', ↓h381', h386, h389, ↓h391', h394, h396, h399, h401]
       refine ⟨rfl, ?_⟩
       show _ = _
       kernel_rfl
      ·rw [if_neg h401] at h
       replace h401 := Bool.eq_false_iff.2 h401
       by_cases h402 : (0 : Int) < s1
       ·rw [if_pos h402] at h
        have h402' : decide ((0 : Int) < s1) = true := decide_eq_true h402
        obtain ⟨v403, h404, h⟩ := bsm h
        obtain ⟨h404a, h404b, _⟩ := rd_some h404
        have h405 := lk_arr_39 h404
        obtain ⟨v406, h407, h⟩ := bsm h
        obtain ⟨h407a, h407b, _⟩ := rd_some h407
        have h408 := lk_arr_39 h407
        obtain ⟨r409, h410, h⟩ := bsm h
        have h411 : ∀ H, callD (callW Try.prog A0) A0 H 34 [.p (.agg [.v (.int .i64 v403.Old), .v (.int .i64 v403.New)]), .p (.agg [.v (.int .i64 v406.Old), .v (.int .i64 v406.New)])] = some (.p (.v (.int .i64 r409)), none) := fun H => similar_Match_c2_call h410
        by_cases h412 : r409 < (0 : Int)
        ·rw [if_pos h412] at h
         have h412' : decide (r409 < (0 : Int)) = true := decide_eq_true h412
         obtain ⟨r413, h414, h⟩ := bsm h
         have h415 : callD (callW Try.prog A0) A0 [.arr (encL en_Pair r397.2)] 55 [.ref 0 0 y0.length 2, iv s1, iv s2, iv (w64 ((w64 (s2 - (1 : Int))) - (w64 (r387.1 - s1)))), .p (.fn (.func 34) [])] = some (.p (.tup [.v (.int .i64 r413.1), .v (.bool r413.2.1)]), some [.arr (encL en_Pair r413.2.2)]) := by
             rw [show y0.length = r397.2.length from by omega]; exact (callD_put (dsw := [.ref 0 0 r397.2.length 2, iv s1, iv s2, iv (w64 ((w64 (s2 - (1 : Int))) - (w64 (r387.1 - s1)))), .p (.fn (.func 34) [])]) (ds' := [.ref 0 0 r397.2.length 2, iv s1, iv s2, iv (w64 ((w64 (s2 - (1 : Int))) - (w64 (r387.1 - s1)))), .p (.fn (.func 34) [])]) (i := 0) (ids := []) (o := .arr (encL en_Pair r397.2)) (os := []) (o' := .arr (encL en_Pair r413.2.2)) (os' := []) rfl (by kernel_rfl) (by kernel_rfl) (by kernel_rfl) (by kernel_rfl) (by kernel_rfl) (slices_partitionCmpFunc_34_call h414) rfl rfl).trans (by kernel_rfl)
         by_cases hw_ : r413.2.2.length = r397.2.length
         case neg => rw [if_neg hw_] at h; cases h
         rw [if_pos hw_] at h
         have h416 := hw_
         obtain ⟨q417, h418, h⟩ := bsm h
         have h419 : ∀ xo yo, binD Try.prog .quo 3 xo yo (.p (.v (.int .i64 (w64 (s2 - s1))))) (.p (.v (.int .i64 (8 : Int)))) = some (.p (.v (.int .i64 q417))) := fun xo yo => binD_quo_k h418
         by_cases h420 : (w64 (r413.1 - s1)) < (w64 (s2 - r413.1))
         ·rw [if_pos h420] at h
          have h420' : decide ((w64 (r413.1 - s1)) < (w64 (s2 - r413.1))) = true := decide_eq_true h420
          obtain ⟨r421, h422, h⟩ := bsm h
          have h423 : callD (callW Try.prog A0) A0 [.arr (encL en_Pair r413.2.2)] 45 [.ref 0 0 y0.length 2, iv s1, iv r413.1, iv s3, .p (.fn (.func 34) [])] = some (.p (.tup []), some [.arr (encL en_Pair r421)]) := by
              rw [show y0.length = r413.2.2.length from by omega]; exact (callD_put (dsw := [.ref 0 0 r413.2.2.length 2, iv s1, iv r413.1, iv s3, .p (.fn (.func 34) [])]) (ds' := [.ref 0 0 r413.2.2.length 2, iv s1, iv r413.1, iv s3, .p (.fn (.func 34) [])]) (i := 0) (ids := []) (o := .arr (encL en_Pair r413.2.2)) (os := []) (o' := .arr (encL en_Pair r421)) (os' := []) rfl (by kernel_rfl) (by kernel_rfl) (by kernel_rfl) (by kernel_rfl) (by kernel_rfl) (slices_pdqsortCmpFunc_rcall hrec h422) rfl rfl).trans (by kernel_rfl)
          by_cases hw_ : r421.length = r413.2.2.length
          case neg => rw [if_neg hw_] at h; cases h
          rw [if_pos hw_] at h
          have h424 := hw_
          obtain rfl := Option.some.inj h
          simp (maxSteps := 10000000) (implicitDefEqProofs := false) (disch := first | assumption | omega | exact rfl) only [bs, rs45, ls45_34, Nat.reduceAdd, ↓reduceIte, Int.reduceEq, Int.reduceLE, Int.reduceLT, loadD_pagg a39 z39, hg, ↓h376', ↓h381', h386, h389, ↓h391', h394, h396, h399, h401, ↓h402', h405, h408, h411, ↓h412', h415, h419, ↓h420', h423]
          exact ⟨rfl, by simp only [List.length_set, cpL_len, h390, h395, h400, h416, h424]; kernel_rfl⟩
         ·rw [if_neg h420] at h
          have h420' : decide ((w64 (r413.1 - s1)) < (w64 (s2 - r413.1))) = false := decide_eq_false h420
          obtain ⟨r425, h426, h⟩ := bsm h
          have h427 : callD (callW Try.prog A0) A0 [.arr (encL en_Pair r413.2.2)] 45 [.ref 0 0 y0.length 2, iv (w64 (r413.1 + (1 : Int))), iv s2, iv s3, .p (.fn (.func 34) [])] = some (.p (.tup []), some [.arr (encL en_Pair r425)]) := by
              rw [show y0.length = r413.2.2.length from by omega]; exact (callD_put (dsw := [.ref 0 0 r413.2.2.length 2, iv (w64 (r413.1 + (1 : Int))), iv s2, iv s3, .p (.fn (.func 34) [])]) (ds' := [.ref 0 0 r413.2.2.length 2, iv (w64 (r413.1 + (1 : Int))), iv s2, iv s3, .p (.fn (.func 34) [])]) (i := 0) (ids := []) (o := .arr (encL en_Pair r413.2.2)) (os := []) (o' := .arr (encL en_Pair r425)) (os' := []) rfl (by kernel_rfl) (by kernel_rfl) (by kernel_rfl) (by kernel_rfl) (by kernel_rfl) (slices_pdqsortCmpFunc_rcall hrec h426) rfl rfl).trans (by kernel_rfl)
          by_cases hw_ : r425.length = r413.2.2.length
          case neg => rw [if_neg hw_] at h; cases h
          rw [if_pos hw_] at h
          have h428 := hw_
          obtain rfl := Option.some.inj h
          simp (maxSteps := 10000000) (implicitDefEqProofs := false) (disch := first | assumption | omega | exact rfl) only [bs, rs45, ls45_34, Nat.reduceAdd, ↓reduceIte, Int.reduceEq, Int.reduceLE, Int.reduceLT, loadD_pagg a39 z39, hg, ↓h376', ↓h381', h386, h389, ↓h391', h394, h396, h399, h401, ↓h402', h405, h408, h411, ↓h412', h415, h419, ↓h420', h427]
          exact ⟨rfl, by simp only [List.length_set, cpL_len, h390, h395, h400, h416, h428]; kernel_rfl⟩
        ·rw [if_neg h412] at h
         have h412' : decide (r409 < (0 : Int)) = false := decide_eq_false h412
         obtain ⟨r429, h430, h⟩ := bsm h
         have h431 : callD (callW Try.prog A0) A0 [.arr (encL en_Pair r397.2)] 54 [.ref 0 0 y0.length 2, iv s1, iv s2, iv (w64 ((w64 (s2 - (1 : Int))) - (w64 (r387.1 - s1)))), .p (.fn (.func 34) [])] = some (.p (.v (.int .i64 r429.1)), some [.arr (encL en_Pair r429.2)]) := by
             rw [show y0.length = r397.2.length from by omega]; exact (callD_put (dsw := [.ref 0 0 r397.2.length 2, iv s1, iv s2, iv (w64 ((w64 (s2 - (1 : Int))) - (w64 (r387.1 - s1)))), .p (.fn (.func 34) [])]) (ds' := [.ref 0 0 r397.2.length 2, iv s1, iv s2, iv (w64 ((w64 (s2 - (1 : Int))) - (w64 (r387.1 - s1)))), .p (.fn (.func 34) [])]) (i := 0) (ids := []) (o := .arr (encL en_Pair r397.2)) (os := []) (o' := .arr (encL en_Pair r429.2)) (os' := []) rfl (by kernel_rfl) (by kernel_rfl) (by kernel_rfl) (by kernel_rfl) (by kernel_rfl) (slices_partitionEqualCmpFunc_34_call h430) rfl rfl).trans (by kernel_rfl)
         by_cases hw_ : r429.2.length = r397.2.length
         case neg => rw [if_neg hw_] at h; cases h
         rw [if_pos hw_] at h
         have h432 := hw_
         obtain rfl := Option.some.inj h
         simp (maxSteps := 10000000) (implicitDefEqProofs := false) (disch := first | assumption | omega | exact rfl) only [bs, rs45, ls45_34, Nat.reduceAdd, ↓reduceIte, Int.reduceEq, Int.reduceLE, Int.reduceLT, loadD_pagg a39 z39, hg, ↓h376', ↓h381', h386, h389, ↓h391', h394, h396, h399, h401, ↓h402', h405, h408, h411, ↓h412', h431]
         exact ⟨rfl, by simp only [List.length_set, cpL_len, h390, h395, h400, h432]; kernel_rfl⟩
       ·rw [if_neg h402] at h
        have h402' : decide ((0 : Int) < s1) = false := decide_eq_false h402
        obtain ⟨r433, h434, h⟩ := bsm h
        have h435 : callD (callW Try.prog A0) A0 [.arr (encL en_Pair r397.2)] 55 [.ref 0 0 y0.length 2, iv s1, iv s2, iv (w64 ((w64 (s2 - (1 : Int))) - (w64 (r387.1 - s1)))), .p (.fn (.func 34) [])] = some (.p (.tup [.v (.int .i64 r433.1), .v (.bool r433.2.1)]), some [.arr (encL en_Pair r433.2.2)]) := by
            rw [show y0.length = r397.2.length from by omega]; exact (callD_put (dsw := [.ref 0 0 r397.2.length 2, iv s1, iv s2, iv (w64 ((w64 (s2 - (1 : Int))) - (w64 (r387.1 - s1)))), .p (.fn (.func 34) [])]) (ds' := [.ref 0 0 r397.2.length 2, iv s1, iv s2, iv (w64 ((w64 (s2 - (1 : Int))) - (w64 (r387.1 - s1)))), .p (.fn (.func 34) [])]) (i := 0) (ids := []) (o := .arr (encL en_Pair r397.2)) (os := []) (o' := .arr (encL en_Pair r433.2.2)) (os' := []) rfl (by kernel_rfl) (by kernel_rfl) (by kernel_rfl) (by kernel_rfl) (by kernel_rfl) (slices_partitionCmpFunc_34_call h434) rfl rfl).trans (by kernel_rfl)
        by_cases hw_ : r433.2.2.length = r397.2.length
        case neg => rw [if_neg hw_] at h; cases h
        rw [if_pos hw_] at h
        have h436 := hw_
        obtain ⟨q437, h438, h⟩ := bsm h
        have h439 : ∀ xo yo, binD Try.prog .quo 3 xo yo (.p (.v (.int .i64 (w64 (s2 - s1))))) (.p (.v (.int .i64 (8 : Int)))) = some (.p (.v (.int .i64 q437))) := fun xo yo => binD_quo_k h438
        by_cases h440 : (w64 (r433.1 - s1)) < (w64 (s2 - r433.1))
        ·rw [if_pos h440] at h
         have h440' : decide ((w64 (r433.1 - s1)) < (w64 (s2 - r433.1))) = true := decide_eq_true h440
         obtain ⟨r441, h442, h⟩ := bsm h
         have h443 : callD (callW Try.prog A0) A0 [.arr (encL en_Pair r433.2.2)] 45 [.ref 0 0 y0.length 2, iv s1, iv r433.1, iv s3, .p (.fn (.func 34) [])] = some (.p (.tup []), some [.arr (encL en_Pair r441)]) := by
             rw [show y0.length = r433.2.2.length from by omega]; exact (callD_put (dsw := [.ref 0 0 r433.2.2.length 2, iv s1, iv r433.1, iv s3, .p (.fn (.func 34) [])]) (ds' := [.ref 0 0 r433.2.2.length 2, iv s1, iv r433.1, iv s3, .p (.fn (.func 34) [])]) (i := 0) (ids := []) (o := .arr (encL en_Pair r433.2.2)) (os := []) (o' := .arr (encL en_Pair r441)) (os' := []) rfl (by kernel_rfl) (by kernel_rfl) (by kernel_rfl) (by kernel_rfl) (by kernel_rfl) (slices_pdqsortCmpFunc_rcall hrec h442) rfl rfl).trans (by kernel_rfl)
         by_cases hw_ : r441.length = r433.2.2.length
         case neg => rw [if_neg hw_] at h; cases h
         rw [if_pos hw_] at h
         have h444 := hw_
         obtain rfl := Option.some.inj h
         simp (maxSteps := 10000000) (implicitDefEqProofs := false) (disch := first | assumption | omega | exact rfl) only [bs, rs45, ls45_34, Nat.reduceAdd, ↓reduceIte, Int.reduceEq, Int.reduceLE, Int.reduceLT, loadD_pagg a39 z39, hg, ↓h376', ↓h381', h386, h389, ↓h391', h394, h396, h399, h401, ↓h402', h435, h439, ↓h440', h443]
         exact ⟨rfl, by simp only [List.length_set, cpL_len, h390, h395, h400, h436, h444]; kernel_rfl⟩
        ·rw [if_neg h440] at h
         have h440' : decide ((w64 (r433.1 - s1)) < (w64 (s2 - r433.1))) = false := decide_eq_false h440
         obtain ⟨r445, h446, h⟩ := bsm h
         have h447 : callD (callW Try.prog A0) A0 [.arr (encL en_Pair r433.2.2)] 45 [.ref 0 0 y0.length 2, iv (w64 (r433.1 + (1 : Int))), iv s2, iv s3, .p (.fn (.func 34) [])] = some (.p (.tup []), some [.arr (encL en_Pair r445)]) := by
             rw [show y0.length = r433.2.2.length from by omega]; exact (callD_put (dsw := [.ref 0 0 r433.2.2.length 2, iv (w64 (r433.1 + (1 : Int))), iv s2, iv s3, .p (.fn (.func 34) [])]) (ds' := [.ref 0 0 r433.2.2.length 2, iv (w64 (r433.1 + (1 : Int))), iv s2, iv s3, .p (.fn (.func 34) [])]) (i := 0) (ids := []) (o := .arr (encL en_Pair r433.2.2)) (os := []) (o' := .arr (encL en_Pair r445)) (os' := []) rfl (by kernel_rfl) (by kernel_rfl) (by kernel_rfl) (by kernel_rfl) (by kernel_rfl) (slices_pdqsortCmpFunc_rcall hrec h446) rfl rfl).trans (by kernel_rfl)
         by_cases hw_ : r445.length = r433.2.2.length
         case neg => rw [if_neg hw_] at h; cases h
         rw [if_pos hw_] at h
         have h448 := hw_
         obtain rfl := Option.some.inj h
         simp (maxSteps := 10000000) (implicitDefEqProofs := false) (disch := first | assumption | omega | exact rfl) only [bs, rs45, ls45_34, Nat.reduceAdd, ↓reduceIte, Int.reduceEq, Int.reduceLE, Int.reduceLT, loadD_pagg a39 z39, hg, ↓h376', ↓h381', h386, h389, ↓h391', h394, h396, h399, h401, ↓h402', h435, h439, ↓h440', h447]
         exact ⟨rfl, by simp only [List.length_set, cpL_len, h390, h395, h400, h436, h448]; kernel_rfl⟩
     ·rw [if_neg h396] at h
      replace h396 := Bool.eq_false_iff.2 h396
      by_cases h449 : (0 : Int) < s1
      ·rw [if_pos h449] at h
       have h449' : decide ((0 : Int) < s1) = true := decide_eq_true h449
       obtain ⟨v450, h451, h⟩ := bsm h
       obtain ⟨h451a, h451b, _⟩ := rd_some h451
       have h452 := lk_arr_39 h451
       obtain ⟨v453, h454, h⟩ := bsm h
       obtain ⟨h454a, h454b, _⟩ := rd_some h454
       have h455 := lk_arr_39 h454
       obtain ⟨r456, h457, h⟩ := bsm h
       have h458 : ∀ H, callD (callW Try.prog A0) A0 H 34 [.p (.agg [.v (.int .i64 v450.Old), .v (.int .i64 v450.New)]), .p (.agg [.v (.int .i64 v453.Old), .v (.int .i64 v453.New)])] = some (.p (.v (.int .i64 r456)), none) := fun H => similar_Match_c2_call h457
       by_cases h459 : r456 < (0 : Int)
       ·rw [if_pos h459] at h
        have h459' : decide (r456 < (0 : Int)) = true := decide_eq_true h459
        obtain ⟨r460, h461, h⟩ := bsm h
        have h462 : callD (callW Try.prog A0) A0 [.arr (encL en_Pair r392)] 55 [.ref 0 0 y0.length 2, iv s1, iv s2, iv (w64 ((w64 (s2 - (1 : Int))) - (w64 (r387.1 - s1)))), .p (.fn (.func 34) [])] = some (.p (.tup [.v (.int .i64 r460.1), .v (.bool r460.2.1)]), some [.arr (encL en_Pair r460.2.2)]) := by
            rw [show y0.length = r392.length from by omega]; exact (callD_put (dsw := [.ref 0 0 r392.length 2, iv s1, iv s2, iv (w64 ((w64 (s2 - (1 : Int))) - (w64 (r387.1 - s1)))), .p (.fn (.func 34) [])]) (ds' := [.ref 0 0 r392.length 2, iv s1, iv s2, iv (w64 ((w64 (s2 - (1 : Int))) - (w64 (r387.1 - s1)))), .p (.fn (.func 34) [])]) (i := 0) (ids := []) (o := .arr (encL en_Pair r392)) (os := []) (o' := .arr (encL en_Pair r460.2.2)) (os' := []) rfl (by kernel_rfl) (by kernel_rfl) (by kernel_rfl) (by kernel_rfl) (by kernel_rfl) (slices_partitionCmpFunc_34_call h461) rfl rfl).trans (by kernel_rfl)
        by_cases hw_ : r460.2.2.length = r392.length
        case neg => rw [if_neg hw_] at h; cases h
        rw [if_pos hw_] at h
        have h463 := hw_
        obtain ⟨q464, h465, h⟩ := bsm h
        have h466 : ∀ xo yo, binD Try.prog .quo 3 xo yo (.p (.v (.int .i64 (w64 (s2 - s1))))) (.p (.v (.int .i64 (8 : Int)))) = some (.p (.v (.int .i64 q464))) := fun xo yo => binD_quo_k h465
        by_cases h467 : (w64 (r460.1 - s1)) < (w64 (s2 - r460.1))
        ·rw [if_pos h467] at h
         have h467' : decide ((w64 (r460.1 - s1)) < (w64 (s2 - r460.1))) = true := decide_eq_true h467
         obtain ⟨r468, h469, h⟩ := bsm h
         have h470 : callD (callW Try.prog A0) A0 [.arr (encL en_Pair r460.2.2)] 45 [.ref 0 0 y0.length 2, iv s1, iv r460.1, iv s3, .p (.fn (.func 34) [])] = some (.p (.tup []), some [.arr (encL en_Pair r468)]) := by
             rw [show y0.length = r460.2.2.length from by omega]; exact (callD_put (dsw := [.ref 0 0 r460.2.2.length 2, iv s1, iv r460.1, iv s3, .p (.fn (.func 34) [])]) (ds' := [.ref 0 0 r460.2.2.length 2, iv s1, iv r460.1, iv s3, .p (.fn (.func 34) [])]) (i := 0) (ids := []) (o := .arr (encL en_Pair r460.2.2)) (os := []) (o' := .arr (encL en_Pair r468)) (os' := []) rfl (by kernel_rfl) (by kernel_rfl) (by kernel_rfl) (by kernel_rfl) (by kernel_rfl) (slices_pdqsortCmpFunc_rcall hrec h469) rfl rfl).trans (by kernel_rfl)
         by_cases hw_ : r468.length = r460.2.2.length
         case neg => rw [if_neg hw_] at h; cases h
         rw [if_pos hw_] at h
         have h471 := hw_
         obtain rfl := Option.some.inj h
         simp (maxSteps := 10000000) (implicitDefEqProofs := false) (disch := first | assumption | omega | exact rfl) only [bs, rs45, ls45_34, Nat.reduceAdd, ↓reduceIte, Int.reduceEq, Int.reduceLE, Int.reduceLT, loadD_pagg a39 z39, hg, ↓h376', ↓h381', h386, h389, ↓h391', h394, h396, ↓h449', h452, h455, h458, ↓h459', h462, h466, ↓h467', h470]
         exact ⟨rfl, by simp only [List.length_set, cpL_len, h390, h395, h463, h471]; kernel_rfl⟩
        ·rw [if_neg h467] at h
         have h467' : decide ((w64 (r460.1 - s1)) < (w64 (s2 - r460.1))) = false := decide_eq_false h467
         obtain ⟨r472, h473, h⟩ := bsm h
         have h474 : callD (callW Try.prog A0) A0 [.arr (encL en_Pair r460.2.2)] 45 [.ref 0 0 y0.length 2, iv (w64 (r460.1 + (1 : Int))), iv s2, iv s3, .p (.fn (.func 34) [])] = some (.p (.tup []), some [.arr (encL en_Pair r472)]) := by
             rw [show y0.length = r460.2.2.length from by omega]; exact (callD_put (dsw := [.ref 0 0 r460.2.2.length 2, iv (w64 (r460.1 + (1 : Int))), iv s2, iv s3, .p (.fn (.func 34) [])]) (ds' := [.ref 0 0 r460.2.2.length 2, iv (w64 (r460.1 + (1 : Int))), iv s2, iv s3, .p (.fn (.func 34) [])]) (i := 0) (ids := []) (o := .arr (encL en_Pair r460.2.2)) (os := []) (o' := .arr (encL en_Pair r472)) (os' := []) rfl (by kernel_rfl) (by kernel_rfl) (by kernel_rfl) (by kernel_rfl) (by kernel_rfl) (slices_pdqsortCmpFunc_rcall hrec h473) rfl rfl).trans (by kernel_rfl)
         by_cases hw_ : r472.length = r460.2.2.length
         case neg => rw [if_neg hw_] at h; cases h
         rw [if_pos hw_] at h
         have h475 := hw_
         obtain rfl := Option.some.inj h
         simp (maxSteps := 10000000) (implicitDefEqProofs := false) (disch := first | assumption | omega | exact rfl) only [bs, rs45, ls45_34, Nat.reduceAdd, ↓reduceIte, Int.reduceEq, Int.reduceLE, Int.reduceLT, loadD_pagg a39 z39, hg, ↓h376', ↓h381', h386, h389, ↓h391', h394, h396, ↓h449', h452, h455, h458, ↓h459', h462, h466, ↓h467', h474]
         exact ⟨rfl, by simp only [List.length_set, cpL_len, h390, h395, h463, h475]; kernel_rfl⟩
       ·rw [if_neg h459] at h
        have h459' : decide (r456 < (0 : Int)) = false := decide_eq_false h459
        obtain ⟨r476, h477, h⟩ := bsm h
        have h478 : callD (callW Try.prog A0) A0 [.arr (encL en_Pair r392)] 54 [.ref 0 0 y0.length 2, iv s1, iv s2, iv (w64 ((w64 (s2 - (1 : Int))) - (w64 (r387.1 - s1)))), .p (.fn (.func 34) [])] = some (.p (.v (.int .i64 r476.1)), some [.arr (encL en_Pair r476.2)]) := by
            rw [show y0.length = r392.length from by omega]; exact (callD_put (dsw := [.ref 0 0 r392.length 2, iv s1, iv s2, iv (w64 ((w64 (s2 - (1 : Int))) - (w64 (r387.1 - s1)))), .p (.fn (.func 34) [])]) (ds' := [.ref 0 0 r392.length 2, iv s1, iv s2, iv (w64 ((w64 (s2 - (1 : Int))) - (w64 (r387.1 - s1)))), .p (.fn (.func 34) [])]) (i := 0) (ids := []) (o := .arr (encL en_Pair r392)) (os := []) (o' := .arr (encL en_Pair r476.2)) (os' := []) rfl (by kernel_rfl) (by kernel_rfl) (by kernel_rfl) (by kernel_rfl) (by kernel_rfl) (slices_partitionEqualCmpFunc_34_call h477) rfl rfl).trans (by kernel_rfl)
        by_cases hw_ : r476.2.length = r392.length
        case neg => rw [if_neg hw_] at h; cases h
        rw [if_pos hw_] at h
        have h479 := hw_
        obtain rfl := Option.some.inj h
        simp (maxSteps := 10000000) (implicitDefEqProofs := false) (disch := first | assumption | omega | exact rfl) only [bs, rs45, ls45_34, Nat.reduceAdd, ↓reduceIte, Int.reduceEq, Int.reduceLE, Int.reduceLT, loadD_pagg a39 z39, hg, ↓h376', ↓h381', h386, h389, ↓h391', h394, h396, ↓h449', h452, h455, h458, ↓h459', h478]
        exact ⟨rfl, by simp only [List.length_set, cpL_len, h390, h395, h479]; kernel_rfl⟩
      ·rw [if_neg h449] at h
       have h449' : decide ((0 : Int) < s1) = false := decide_eq_false h449
       obtain ⟨r480, h481, h⟩ := bsm h
       have h482 : callD (callW Try.prog A0) A0 [.arr (encL en_Pair r392)] 55 [.ref 0 0 y0.length 2, iv s1, iv s2, iv (w64 ((w64 (s2 - (1 : Int))) - (w64 (r387.1 - s1)))), .p (.fn (.func 34) [])] = some (.p (.tup [.v (.int .i64 r480.1), .v (.bool r480.2.1)]), some [.arr (encL en_Pair r480.2.2)]) := by
           rw [show y0.length = r392.length from by omega]; exact (callD_put (dsw := [.ref 0 0 r392.length 2, iv s1, iv s2, iv (w64 ((w64 (s2 - (1 : Int))) - (w64 (r387.1 - s1)))), .p (.fn (.func 34) [])]) (ds' := [.ref 0 0 r392.length 2, iv s1, iv s2, iv (w64 ((w64 (s2 - (1 : Int))) - (w64 (r387.1 - s1)))), .p (.fn (.func 34) [])]) (i := 0) (ids := []) (o := .arr (encL en_Pair r392)) (os := []) (o' := .arr (encL en_Pair r480.2.2)) (os' := []) rfl (by kernel_rfl) (by kernel_rfl) (by kernel_rfl) (by kernel_rfl) (by kernel_rfl) (slices_partitionCmpFunc_34_call h481) rfl rfl).trans (by kernel_rfl)
       by_cases hw_ : r480.2.2.length = r392.length
       case neg => rw [if_neg hw_] at h; cases h
       rw [if_pos hw_] at h
       have h483 := hw_
       obtain ⟨q484, h485, h⟩ := bsm h
       have h486 : ∀ xo yo, binD Try.prog .quo 3 xo yo (.p (.v (.int .i64 (w64 (s2 - s1))))) (.p (.v (.int .i64 (8 : Int)))) = some (.p (.v (.int .i64 q484))) := fun xo yo => binD_quo_k h485
       by_cases h487 : (w64 (r480.1 - s1)) < (w64 (s2 - r480.1))
       ·rw [if_pos h487] at h
        have h487' : decide ((w64 (r480.1 - s1)) < (w64 (s2 - r480.1))) = true := decide_eq_true h487
        obtain ⟨r488, h489, h⟩ := bsm h
        have h490 : callD (callW Try.prog A0) A0 [.arr (encL en_Pair r480.2.2)] 45 [.ref 0 0 y0.length 2, iv s1, iv r480.1, iv s3, .p (.fn (.func 34) [])] = some (.p (.tup []), some [.arr (encL en_Pair r488)]) := by
            rw [show y0.length = r480.2.2.length from by omega]; exact (callD_put (dsw := [.ref 0 0 r480.2.2.length 2, iv s1, iv r480.1, iv s3, .p (.fn (.func 34) [])]) (ds' := [.ref 0 0 r480.2.2.length 2, iv s1, iv r480.1, iv s3, .p (.fn (.func 34) [])]) (i := 0) (ids := []) (o := .arr (encL en_Pair r480.2.2)) (os := []) (o' := .arr (encL en_Pair r488)) (os' := []) rfl (by kernel_rfl) (by kernel_rfl) (by kernel_rfl) (by kernel_rfl) (by kernel_rfl) (slices_pdqsortCmpFunc_rcall hrec h489) rfl rfl).trans (by kernel_rfl)
        by_cases hw_ : r488.length = r480.2.2.length
        case neg => rw [if_neg hw_] at h; cases h
        rw [if_pos hw_] at h
        have h491 := hw_
        obtain rfl := Option.some.inj h
        simp (maxSteps := 10000000) (implicitDefEqProofs := false) (disch := first | assumption | omega | exact rfl) only [bs, rs45, ls45_34, Nat.reduceAdd, ↓reduceIte, Int.reduceEq, Int.reduceLE, Int.reduceLT, loadD_pagg a39 z39, hg, ↓h376', ↓h381', h386, h389, ↓h391', h394, h396, ↓h449', h482, h486, ↓h487', h490]
        exact ⟨rfl, by simp only [List.length_set, cpL_len, h390, h395, h483, h491]; kernel_rfl⟩
       ·rw [if_neg h487] at h
        have h487' : decide ((w64 (r480.1 - s1)) < (w64 (s2 - r480.1))) = false := decide_eq_false h487
        obtain ⟨r492, h493, h⟩ := bsm h
        have h494 : callD (callW Try.prog A0) A0 [.arr (encL en_Pair r480.2.2)] 45 [.ref 0 0 y0.length 2, iv (w64 (r480.1 + (1 : Int))), iv s2, iv s3, .p (.fn (.func 34) [])] = some (.p (.tup []), some [.arr (encL en_Pair r492)]) := by
            rw [show y0.length = r480.2.2.length from by omega]; exact (callD_put (dsw := [.ref 0 0 r480.2.2.length 2, iv (w64 (r480.1 + (1 : Int))), iv s2, iv s3, .p (.fn (.func 34) [])]) (ds' := [.ref 0 0 r480.2.2.length 2, iv (w64 (r480.1 + (1 : Int))), iv s2, iv s3, .p (.fn (.func 34) [])]) (i := 0) (ids := []) (o := .arr (encL en_Pair r480.2.2)) (os := []) (o' := .arr (encL en_Pair r492)) (os' := []) rfl (by kernel_rfl) (by kernel_rfl) (by kernel_rfl) (by kernel_rfl) (by kernel_rfl) (slices_pdqsortCmpFunc_rcall hrec h493) rfl rfl).trans (by kernel_rfl)
        by_cases hw_ : r492.length = r480.2.2.length
        case neg => rw [if_neg hw_] at h; cases h
        rw [if_pos hw_] at h
        have h495 := hw_
        obtain rfl := Option.some.inj h
        simp (maxSteps := 10000000) (implicitDefEqProofs := false) (disch := first | assumption | omega | exact rfl) only [bs, rs45, ls45_34, Nat.reduceAdd, ↓reduceIte, Int.reduceEq, Int.reduceLE, Int.reduceLT, loadD_pagg a39 z39, hg, ↓h376', ↓h381', h386, h389, ↓h391', h394, h396, ↓h449', h482, h486, ↓h487', h494]
        exact ⟨rfl, by simp only [List.length_set, cpL_len, h390, h395, h483, h495]; kernel_rfl⟩
    ·rw [if_neg h391] at h
     have h391' : decide (r387.2.1 = (2 : Int)) = false := decide_eq_false h391
     by_cases h496 : s11 = true
     ·rw [if_pos h496] at h
      by_cases h497 : r387.2.1 = (1 : Int)
      ·rw [if_pos h497] at h
       have h497' : decide (r387.2.1 = (1 : Int)) = true := decide_eq_true h497
       obtain ⟨r498, h499, h⟩ := bsm h
       have h500 : callD (callW Try.prog A0) A0 [.arr (encL en_Pair r387.2.2)] 53 [.ref 0 0 y0.length 2, iv s1, iv s2, .p (.fn (.func 34) [])] = some (.p (.v (.bool r498.1)), some [.arr (encL en_Pair r498.2)]) := by
           rw [show y0.length = r387.2.2.length from by omega]; exact (callD_put (dsw := [.ref 0 0 r387.2.2.length 2, iv s1, iv s2, .p (.fn (.func 34) [])]) (ds' := [.ref 0 0 r387.2.2.length 2, iv s1, iv s2, .p (.fn (.func 34) [])]) (i := 0) (ids := []) (o := .arr (encL en_Pair r387.2.2)) (os := []) (o' := .arr (encL en_Pair r498.2)) (os' := []) rfl (by kernel_rfl) (by kernel_rfl) (by kernel_rfl) (by kernel_rfl) (by kernel_rfl) (slices_partialInsertionSortCmpFunc_34_call h499) rfl rfl).trans (by kernel_rfl)
       by_cases hw_ : r498.2.length = r387.2.2.length
       case neg => rw [if_neg hw_] at h; cases h
       rw [if_pos hw_] at h
       have h501 := hw_
       by_cases h502 : r498.1 = true
       ·rw [if_pos h502] at h
        obtain rfl := Option.some.inj h
        simp (maxSteps := 10000000) (implicitDefEqProofs := false) (disch := first | assumption | omega | exact rfl) only [bs, rs45, ls45_34, Nat.reduceAdd, ↓reduceIte, Int.reduceEq, Int.reduceLE, Int.reduceLT, loadD_pagg a39 z39, hg, ↓h376', ↓h381', h386, h389, ↓h391', h496, ↓h497', h500, h502]
        refine ⟨rfl, ?_⟩
        show _ = _
        kernel_rfl
       ·rw [if_neg h502] at h
        replace h502 := Bool.eq_false_iff.2 h502
        by_cases h503 : (0 : Int) < s1
        ·rw [if_pos h503] at h
         have h503' : decide ((0 : Int) < s1) = true := decide_eq_true h503
         obtain ⟨v504, h505, h⟩ := bsm h
         obtain ⟨h505a, h505b, _⟩ := rd_some h505
         have h506 := lk_arr_39 h505
         obtain ⟨v507, h508, h⟩ := bsm h
         obtain ⟨h508a, h508b, _⟩ := rd_some h508
         have h509 := lk_arr_39 h508
         obtain ⟨r510, h511, h⟩ := bsm h
         have h512 : ∀ H, callD (callW Try.prog A0) A0 H 34 [.p (.agg [.v (.int .i64 v504.Old), .v (.int .i64 v504.New)]), .p (.agg [.v (.int .i64 v507.Old), .v (.int .i64 v507.New)])] = some (.p (.v (.int .i64 r510)), none) := fun H => similar_Match_c2_call h511
         by_cases h513 : r510 < (0 : Int)
         ·rw [if_pos h513] at h
          have h513' : decide (r510 < (0 : Int)) = true := decide_eq_true h513
          obtain ⟨r514, h515, h⟩ := bsm h
          have h516 : callD (callW Try.prog A0) A0 [.arr (encL en_Pair r498.2)] 55 [.ref 0 0 y0.length 2, iv s1, iv s2, iv r387.1, .p (.fn (.func 34) [])] = some (.p (.tup [.v (.int .i64 r514.1), .v (.bool r514.2.1)]), some [.arr (encL en_Pair r514.2.2)]) := by
              rw [show y0.length = r498.2.length from by omega]; exact (callD_put (dsw := [.ref 0 0 r498.2.length 2, iv s1, iv s2, iv r387.1, .p (.fn (.func 34) [])]) (ds' := [.ref 0 0 r498.2.length 2, iv s1, iv s2, iv r387.1, .p (.fn (.func 34) [])]) (i := 0) (ids := []) (o := .arr (encL en_Pair r498.2)) (os := []) (o' := .arr (encL en_Pair r514.2.2)) (os' := []) rfl (by kernel_rfl) (by kernel_rfl) (by kernel_rfl) (by kernel_rfl) (by kernel_rfl) (slices_partitionCmpFunc_34_call h515) rfl rfl).trans (by kernel_rfl)
          by_cases hw_ : r514.2.2.length = r498.2.length
          case neg => rw [if_neg hw_] at h; cases h
          rw [if_pos hw_] at h
          have h517 := hw_
          obtain ⟨q518, h519, h⟩ := bsm h
          have h520 : ∀ xo yo, binD Try.prog .quo 3 xo yo (.p (.v (.int .i64 (w64 (s2 - s1))))) (.p (.v (.int .i64 (8 : Int)))) = some (.p (.v (.int .i64 q518))) := fun xo yo => binD_quo_k h519
          by_cases h521 : (w64 (r514.1 - s1)) < (w64 (s2 - r514.1))
          ·rw [if_pos h521] at h
           have h521' : decide ((w64 (r514.1 - s1)) < (w64 (s2 - r514.1))) = true := decide_eq_true h521
           obtain ⟨r522, h523, h⟩ := bsm h
           have h524 : callD (callW Try.prog A0) A0 [.arr (encL en_Pair r514.2.2)] 45 [.ref 0 0 y0.length 2, iv s1, iv r514.1, iv s3, .p (.fn (.func 34) [])] = some (.p (.tup []), some [.arr (encL en_Pair r522)]) := by
               rw [show y0.length = r514.2.2.length from by omega]; exact (callD_put (dsw := [.ref 0 0 r514.2.2.length 2, iv s1, iv r514.1, iv s3, .p (.fn (.func 34) [])]) (ds' := [.ref 0 0 r514.2.2.length 2, iv s1, iv r514.1, iv s3, .p (.fn (.func 34) [])]) (i := 0) (ids := []) (o := .arr (encL en_Pair r514.2.2)) (os := []) (o' := .arr (encL en_Pair r522)) (os' := []) rfl (by kernel_rfl) (by kernel_rfl) (by kernel_rfl) (by kernel_rfl) (by kernel_rfl) (slices_pdqsortCmpFunc_rcall hrec h523) rfl rfl).trans (by kernel_rfl)
           by_cases hw_ : r522.length = r514.2.2.length
           case neg => rw [if_neg hw_] at h; cases h
           rw [if_pos hw_] at h
           have h525 := hw_
           obtain rfl := Option.some.inj h
           simp (maxSteps := 10000000) (implicitDefEqProofs := false) (disch := first | assumption | omega | exact rfl) only [bs, rs45, ls45_34, Nat.reduceAdd, ↓reduceIte, Int.reduceEq, Int.reduceLE, Int.reduceLT, loadD_pagg a39 z39, hg, ↓h376', ↓h381', h386, h389, ↓h391', h496, ↓h497', h500, h502, ↓h503', h506, h509, h512, ↓h513', h516, h520, ↓h521', h524]
           exact ⟨rfl, by simp only [List.length_set, cpL_len, h390, h501, h517, h525]; kernel_rfl⟩
          ·rw [if_neg h521] at h
           have h521' : decide ((w64 (r514.1 - s1)) < (w64 (s2 - r514.1))) = false := decide_eq_false h521
           obtain ⟨r526, h527, h⟩ := bsm h
           have h528 : callD (callW Try.prog A0) A0 [.arr (encL en_Pair r514.2.2)] 45 [.ref 0 0 y0.length 2, iv (w64 (r514.1 + (1 : Int))), iv s2, iv s3, .p (.fn (.func 34) [])] = some (.p (.tup []), some [.arr (encL en_Pair r526)]) := by
               rw [show y0.length = r514.2.2.length from by omega]; exact (callD_put (dsw := [.ref 0 0 r514.2.2.length 2, iv (w64 (r514.1 + (1 : Int))), iv s2, iv s3, .p (.fn (.func 34) [])]) (ds' := [.ref 0 0 r514.2.2.length 2, iv (w64 (r514.1 + (1 : Int))), iv s2, iv s3, .p (.fn (.func 34) [])]) (i := 0) (ids := []) (o := .arr (encL en_Pair r514.2.2)) (os := []) (o' := .arr (encL en_Pair r526)) (os' := []) rfl (by kernel_rfl) (by kernel_rfl) (by kernel_rfl) (by kernel_rfl) (by kernel_rfl) (slices_pdqsortCmpFunc_rcall hrec h527) rfl rfl).trans (by kernel_rfl)
           by_cases hw_ : r526.length = r514.2.2.length
           case neg => rw [if_neg hw_] at h; cases h
           rw [if_pos hw_] at h
           have h529 := hw_
           obtain rfl := Option.some.inj h
           simp (maxSteps := 10000000) (implicitDefEqProofs := false) (disch := first | assumption | omega | exact rfl) only [bs, rs45, ls45_34, Nat.reduceAdd, ↓reduceIte, Int.reduceEq, Int.reduceLE, Int.reduceLT, loadD_pagg a39 z39, hg, ↓h376', ↓h381', h386, h389, ↓h391', h496, ↓h497', h500, h502, ↓h503', h506, h509, h512, ↓h513', h516, h520, ↓h521', h528]
           exact ⟨rfl, by simp only [List.length_set, cpL_len, h390, h501, h517, h529]; kernel_rfl⟩
         ·rw [if_neg h513] at h
          have h513' : decide (r510 < (0 : Int)) = false := decide_eq_false h513
          obtain ⟨r530, h531, h⟩ := bsm h
          have h532 : callD (callW Try.prog A0) A0 [.arr (encL en_Pair r498.2)] 54 [.ref 0 0 y0.length 2, iv s1, iv s2, iv r387.1, .p (.fn (.func 34) [])] = some (.p (.v (.int .i64 r530.1)), some [.arr (encL en_Pair r530.2)]) := by
              rw [show y0.length = r498.2.length from by omega]; exact (callD_put (dsw := [.ref 0 0 r498.2.length 2, iv s1, iv s2, iv r387.1, .p (.fn (.func 34) [])]) (ds' := [.ref 0 0 r498.2.length 2, iv s1, iv s2, iv r387.1, .p (.fn (.func 34) [])]) (i := 0) (ids := []) (o := .arr (encL en_Pair r498.2)) (os := []) (o' := .arr (encL en_Pair r530.2)) (os' := []) rfl (by kernel_rfl) (by kernel_rfl) (by kernel_rfl) (by kernel_rfl) (by kernel_rfl) (slices_partitionEqualCmpFunc_34_call h531) rfl rfl).trans (by kernel_rfl)
          by_cases hw_ : r530.2.length = r498.2.length
          case neg => rw [if_neg hw_] at h; cases h
          rw [if_pos hw_] at h
          have h533 := hw_
          obtain rfl := Option.some.inj h
          simp (maxSteps := 10000000) (implicitDefEqProofs := false) (disch := first | assumption | omega | exact rfl) only [bs, rs45, ls45_34, Nat.reduceAdd, ↓reduceIte, Int.reduceEq, Int.reduceLE, Int.reduceLT, loadD_pagg a39 z39, hg, ↓h376', ↓h381', h386, h389, ↓h391', h496, ↓h497', h500, h502, ↓h503', h506, h509, h512, ↓h513', h532]
          exact ⟨rfl, by simp only [List.length_set, cpL_len, h390, h501, h533]; kernel_rfl⟩
        ·rw [if_neg h503] at h
         have h503' : decide ((0 : Int) < s1) = false := decide_eq_false h503
         obtain ⟨r534, h535, h⟩ := bsm h
         have h536 : callD (callW Try.prog A0) A0 [.arr (encL en_Pair r498.2)] 55 [.ref 0 0 y0.length 2, iv s1, iv s2, iv r387.1, .p (.fn (.func 34) [])] = some (.p (.tup [.v (.int .i64 r534.1), .v (.bool r534.2.1)]), some [.arr (encL en_Pair r534.2.2)]) := by
             rw [show y0.length = r498.2.length from by omega]; exact (callD_put (dsw := [.ref 0 0 r498.2.length 2, iv s1, iv s2, iv r387.1, .p (.fn (.func 34) [])]) (ds' := [.ref 0 0 r498.2.length 2, iv s1, iv s2, iv r387.1, .p (.fn (.func 34) [])]) (i := 0) (ids := []) (o := .arr (encL en_Pair r498.2)) (os := []) (o' := .arr (encL en_Pair r534.2.2)) (os' := []) rfl (by kernel_rfl) (by kernel_rfl) (by kernel_rfl) (by kernel_rfl) (by kernel_rfl) (slices_partitionCmpFunc_34_call h535) rfl rfl).trans (by kernel_rfl)
         by_cases hw_ : r534.2.2.length = r498.2.length
         case neg => rw [if_neg hw_] at h; cases h
         rw [if_pos hw_] at h
         have h537 := hw_
         obtain ⟨q538, h539, h⟩ := bsm h
         have h540 : ∀ xo yo, binD Try.prog .quo 3 xo yo (.p (.v (.int .i64 (w64 (s2 - s1))))) (.p (.v (.int .i64 (8 : Int)))) = some (.p (.v (.int .i64 q538))) := fun xo yo => binD_quo_k h539
         by_cases h541 : (w64 (r534.1 - s1)) < (w64 (s2 - r534.1))
         ·rw [if_pos h541] at h
          have h541' : decide ((w64 (r534.1 - s1)) < (w64 (s2 - r534.1))) = true := decide_eq_true h541
          obtain ⟨r542, h543, h⟩ := bsm h
          have h544 : callD (callW Try.prog A0) A0 [.arr (encL en_Pair r534.2.2)] 45 [.ref 0 0 y0.length 2, iv s1, iv r534.1, iv s3, .p (.fn (.func 34) [])] = some (.p (.tup []), some [.arr (encL en_Pair r542)]) := by
              rw [show y0.length = r534.2.2.length from by omega]; exact (callD_put (dsw := [.ref 0 0 r534.2.2.length 2, iv s1, iv r534.1, iv s3, .p (.fn (.func 34) [])]) (ds' := [.ref 0 0 r534.2.2.length 2, iv s1, iv r534.1, iv s3, .p (.fn (.func 34) [])]) (i := 0) (ids := []) (o := .arr (encL en_Pair r534.2.2)) (os := []) (o' := .arr (encL en_Pair r542)) (os' := []) rfl (by kernel_rfl) (by kernel_rfl) (by kernel_rfl) (by kernel_rfl) (by kernel_rfl) (slices_pdqsortCmpFunc_rcall hrec h543) rfl rfl).trans (by kernel_rfl)
          by_cases hw_ : r542.length = r534.2.2.length
          case neg => rw [if_neg hw_] at h; cases h
          rw [if_pos hw_] at h
          have h545 := hw_
          obtain rfl := Option.some.inj h
          simp (maxSteps := 10000000) (implicitDefEqProofs := false) (disch := first | assumption | omega | exact rfl) only [bs, rs45, ls45_34, Nat.reduceAdd, ↓reduceIte, Int.reduceEq, Int.reduceLE, Int.reduceLT, loadD_pagg a39 z39, hg, ↓h376', ↓h381', h386, h389, ↓h391', h496, ↓h497', h500, h502, ↓h503', h536, h540, ↓h541', h544]
          exact ⟨rfl, by simp only [List.length_set, cpL_len, h390, h501, h537, h545]; kernel_rfl⟩
         ·rw [if_neg h541] at h
          have h541' : decide ((w64 (r534.1 - s1)) < (w64 (s2 - r534.1))) = false := decide_eq_false h541
          obtain ⟨r546, h547, h⟩ := bsm h
          have h548 : callD (callW Try.prog A0) A0 [.arr (encL en_Pair r534.2.2)] 45 [.ref 0 0 y0.length 2, iv (w64 (r534.1 + (1 : Int))), iv s2, iv s3, .p (.fn (.func 34) [])] = some (.p (.tup []), some [.arr (encL en_Pair r546)]) := by
              rw [show y0.length = r534.2.2.length from by omega]; exact (callD_put (dsw := [.ref 0 0 r534.2.2.length 2, iv (w64 (r534.1 + (1 : Int))), iv s2, iv s3, .p (.fn (.func 34) [])]) (ds' := [.ref 0 0 r534.2.2.length 2, iv (w64 (r534.1 + (1 : Int))), iv s2, iv s3, .p (.fn (.func 34) [])]) (i := 0) (ids := []) (o := .arr (encL en_Pair r534.2.2)) (os := []) (o' := .arr (encL en_Pair r546)) (os' := []) rfl (by kernel_rfl) (by kernel_rfl) (by kernel_rfl) (by kernel_rfl) (by kernel_rfl) (slices_pdqsortCmpFunc_rcall hrec h547) rfl rfl).trans (by kernel_rfl)
          by_cases hw_ : r546.length = r534.2.2.length
          case neg => rw [if_neg hw_] at h; cases h
          rw [if_pos hw_] at h
          have h549 := hw_
          obtain rfl := Option.some.inj h
          simp (maxSteps := 10000000) (implicitDefEqProofs := false) (disch := first | assumption | omega | exact rfl) only [bs, rs45, ls45_34, Nat.reduceAdd, ↓reduceIte, Int.reduceEq, Int.reduceLE, Int.reduceLT, loadD_pagg a39 z39, hg, ↓h376', ↓h381', h386, h389, ↓h391', h496, ↓h497', h500, h502, ↓h503', h536, h540, ↓h541', h548]
          exact ⟨rfl, by simp only [List.length_set, cpL_len, h390, h501, h537, h549]; kernel_rfl⟩
      ·rw [if_neg h497] at h
       have h497' : decide (r387.2.1 = (1 : Int)) = false := decide_eq_false h497
       by_cases h550 : (0 : Int) < s1
       ·rw [if_pos h550] at h
        have h550' : decide ((0 : Int) < s1) = true := decide_eq_true h550
        obtain ⟨v551, h552, h⟩ := bsm h
        obtain ⟨h552a, h552b, _⟩ := rd_some h552
        have h553 := lk_arr_39 h552
        obtain ⟨v554, h555, h⟩ := bsm h
        obtain ⟨h555a, h555b, _⟩ := rd_some h555
        have h556 := lk_arr_39 h555
        obtain ⟨r557, h558, h⟩ := bsm h
        have h559 : ∀ H, callD (callW Try.prog A0) A0 H 34 [.p (.agg [.v (.int .i64 v551.Old), .v (.int .i64 v551.New)]), .p (.agg [.v (.int .i64 v554.Old), .v (.int .i64 v554.New)])] = some (.p (.v (.int .i64 r557)), none) := fun H => similar_Match_c2_call h558
        by_cases h560 : r557 < (0 : Int)
        ·rw [if_pos h560] at h
         have h560' : decide (r557 < (0 : Int)) = true := decide_eq_true h560
         obtain ⟨r561, h562, h⟩ := bsm h
         have h563 : callD (callW Try.prog A0) A0 [.arr (encL en_Pair r387.2.2)] 55 [.ref 0 0 y0.length 2, iv s1, iv s2, iv r387.1, .p (.fn (.func 34) [])] = some (.p (.tup [.v (.int .i64 r561.1), .v (.bool r561.2.1)]), some [.arr (encL en_Pair r561.2.2)]) := by
             rw [show y0.length = r387.2.2.length from by omega]; exact (callD_put (dsw := [.ref 0 0 r387.2.2.length 2, iv s1, iv s2, iv r387.1, .p (.fn (.func 34) [])]) (ds' := [.ref 0 0 r387.2.2.length 2, iv s1, iv s2, iv r387.1, .p (.fn (.func 34) [])]) (i := 0) (ids := []) (o := .arr (encL en_Pair r387.2.2)) (os := []) (o' := .arr (encL en_Pair r561.2.2)) (os' := []) rfl (by kernel_rfl) (by kernel_rfl) (by kernel_rfl) (by kernel_rfl) (by kernel_rfl) (slices_partitionCmpFunc_34_call h562) rfl rfl).trans (by kernel_rfl)
         by_cases hw_ : r561.2.2.length = r387.2.2.length
         case neg => rw [if_neg hw_] at h; cases h
         rw [if_pos hw_] at h
         have h564 := hw_
         obtain ⟨q565, h566, h⟩ := bsm h
         have h567 : ∀ xo yo, binD Try.prog .quo 3 xo yo (.p (.v (.int .i64 (w64 (s2 - s1))))) (.p (.v (.int .i64 (8 : Int)))) = some (.p (.v (.int .i64 q565))) := fun xo yo => binD_quo_k h566
         by_cases h568 : (w64 (r561.1 - s1)) < (w64 (s2 - r561.1))
         ·rw [if_pos h568] at h
          have h568' : decide ((w64 (r561.1 - s1)) < (w64 (s2 - r561.1))) = true := decide_eq_true h568
          obtain ⟨r569, h570, h⟩ := bsm h
          have h571 : callD (callW Try.prog A0) A0 [.arr (encL en_Pair r561.2.2)] 45 [.ref 0 0 y0.length 2, iv s1, iv r561.1, iv s3, .p (.fn (.func 34) [])] = some (.p (.tup []), some [.arr (encL en_Pair r569)]) := by
              rw [show y0.length = r561.2.2.length from by omega]; exact (callD_put (dsw := [.ref 0 0 r561.2.2.length 2, iv s1, iv r561.1, iv s3, .p (.fn (.func 34) [])]) (ds' := [.ref 0 0 r561.2.2.length 2, iv s1, iv r561.1, iv s3, .p (.fn (.func 34) [])]) (i := 0) (ids := []) (o := .arr (encL en_Pair r561.2.2)) (os := []) (o' := .arr (encL en_Pair r569)) (os' := []) rfl (by kernel_rfl) (by kernel_rfl) (by kernel_rfl) (by kernel_rfl) (by kernel_rfl) (slices_pdqsortCmpFunc_rcall hrec h570) rfl rfl).trans (by kernel_rfl)
          by_cases hw_ : r569.length = r561.2.2.length
          case neg => rw [if_neg hw_] at h; cases h
          rw [if_pos hw_] at h
          have h572 := hw_
          obtain rfl := Option.some.inj h
          simp (maxSteps := 10000000) (implicitDefEqProofs := false) (disch := first | assumption | omega | exact rfl) only [bs, rs45, ls45_34, Nat.reduceAdd, ↓reduceIte, Int.reduceEq, Int.reduceLE, Int.reduceLT, loadD_pagg a39 z39, hg, ↓h376', ↓h381', h386, h389, ↓h391', h496, ↓h497', ↓h550', h553, h556, h559, ↓h560', h563, h567, ↓h568', h571]
          exact ⟨rfl, by simp only [List.length_set, cpL_len, h390, h564, h572]; kernel_rfl⟩
         ·rw [if_neg h568] at h
          have h568' : decide ((w64 (r561.1 - s1)) < (w64 (s2 - r561.1))) = false := decide_eq_false h568
          obtain ⟨r573, h574, h⟩ := bsm h
          have h575 : callD (callW Try.prog A0) A0 [.arr (encL en_Pair r561.2.2)] 45 [.ref 0 0 y0.length 2, iv (w64 (r561.1 + (1 : Int))), iv s2, iv s3, .p (.fn (.func 34) [])] = some (.p (.tup []), some [.arr (encL en_Pair r573)]) := by
              rw [show y0.length = r561.2.2.length from by omega]; exact (callD_put (dsw := [.ref 0 0 r561.2.2.length 2, iv (w64 (r561.1 + (1 : Int))), iv s2, iv s3, .p (.fn (.func 34) [])]) (ds' := [.ref 0 0 r561.2.2.length 2, iv (w64 (r561.1 + (1 : Int))), iv s2, iv s3, .p (.fn (.func 34) [])]) (i := 0) (ids := []) (o := .arr (encL en_Pair r561.2.2)) (os := []) (o' := .arr (encL en_Pair r573)) (os' := []) rfl (by kernel_rfl) (by kernel_rfl) (by kernel_rfl) (by kernel_rfl) (by kernel_rfl) (slices_pdqsortCmpFunc_rcall hrec h574) rfl rfl).trans (by kernel_rfl)
          by_cases hw_ : r573.length = r561.2.2.length
          case neg => rw [if_neg hw_] at h; cases h
          rw [if_pos hw_] at h
          have h576 := hw_
          obtain rfl := Option.some.inj h
          simp (maxSteps := 10000000) (implicitDefEqProofs := false) (disch := first | assumption | omega | exact rfl) only [bs, rs45, ls45_34, Nat.reduceAdd, ↓reduceIte, Int.reduceEq, Int.reduceLE, Int.reduceLT, loadD_pagg a39 z39, hg, ↓h376', ↓h381', h386, h389, ↓h391', h496, ↓h497', ↓h550', h553, h556, h559, ↓h560', h563, h567, ↓h568', h575]
          exact ⟨rfl, by simp only [List.length_set, cpL_len, h390, h564, h576]; kernel_rfl⟩
        ·rw [if_neg h560] at h
         have h560' : decide (r557 < (0 : Int)) = false := decide_eq_false h560
         obtain ⟨r577, h578, h⟩ := bsm h
         have h579 : callD (callW Try.prog A0) A0 [.arr (encL en_Pair r387.2.2)] 54 [.ref 0 0 y0.length 2, iv s1, iv s2, iv r387.1, .p (.fn (.func 34) [])] = some (.p (.v (.int .i64 r577.1)), some [.arr (encL en_Pair r577.2)]) := by
             rw [show y0.length = r387.2.2.length from by omega]; exact (callD_put (dsw := [.ref 0 0 r387.2.2.length 2, iv s1, iv s2, iv r387.1, .p (.fn (.func 34) [])]) (ds' := [.ref 0 0 r387.2.2.length 2, iv s1, iv s2, iv r387.1, .p (.fn (.func 34) [])]) (i := 0) (ids := []) (o := .arr (encL en_Pair r387.2.2)) (os := []) (o' := .arr (encL en_Pair r577.2)) (os' := []) rfl (by kernel_rfl) (by kernel_rfl) (by kernel_rfl) (by kernel_rfl) (by kernel_rfl) (slices_partitionEqualCmpFunc_34_call h578) rfl rfl).trans (by kernel_rfl)
         by_cases hw_ : r577.2.length = r387.2.2.length
         case neg => rw [if_neg hw_] at h; cases h
         rw [if_pos hw_] at h
         have h580 := hw_
         obtain rfl := Option.some.inj h
         simp (maxSteps := 10000000) (implicitDefEqProofs := false) (disch := first | assumption | omega | exact rfl) only [bs, rs45, ls45_34, Nat.reduceAdd, ↓reduceIte, Int.reduceEq, Int.reduceLE, Int.reduceLT, loadD_pagg a39 z39, hg, ↓h376', ↓h381', h386, h389, ↓h391', h496, ↓h497', ↓h550', h553, h556, h559, ↓h560', h579]
         exact ⟨rfl, by simp only [List.length_set, cpL_len, h390, h580]; kernel_rfl⟩
       ·rw [if_neg h550] at h
        have h550' : decide ((0 : Int) < s1) = false := decide_eq_false h550
        obtain ⟨r581, h582, h⟩ := bsm h
        have h583 : callD (callW Try.prog A0) A0 [.arr (encL en_Pair r387.2.2)] 55 [.ref 0 0 y0.length 2, iv s1, iv s2, iv r387.1, .p (.fn (.func 34) [])] = some (.p (.tup [.v (.int .i64 r581.1), .v (.bool r581.2.1)]), some [.arr (encL en_Pair r581.2.2)]) := by
            rw [show y0.length = r387.2.2.length from by omega]; exact (callD_put (dsw := [.ref 0 0 r387.2.2.length 2, iv s1, iv s2, iv r387.1, .p (.fn (.func 34) [])]) (ds' := [.ref 0 0 r387.2.2.length 2, iv s1, iv s2, iv r387.1, .p (.fn (.func 34) [])]) (i := 0) (ids := []) (o := .arr (encL en_Pair r387.2.2)) (os := []) (o' := .arr (encL en_Pair r581.2.2)) (os' := []) rfl (by kernel_rfl) (by kernel_rfl) (by kernel_rfl) (by kernel_rfl) (by kernel_rfl) (slices_partitionCmpFunc_34_call h582) rfl rfl).trans (by kernel_rfl)
        by_cases hw_ : r581.2.2.length = r387.2.2.length
        case neg => rw [if_neg hw_] at h; cases h
        rw [if_pos hw_] at h
        have h584 := hw_
        obtain ⟨q585, h586, h⟩ := bsm h
        have h587 : ∀ xo yo, binD Try.prog .quo 3 xo yo (.p (.v (.int .i64 (w64 (s2 - s1))))) (.p (.v (.int .i64 (8 : Int)))) = some (.p (.v (.int .i64 q585))) := fun xo yo => binD_quo_k h586
        by_cases h588 : (w64 (r581.1 - s1)) < (w64 (s2 - r581.1))
        ·rw [if_pos h588] at h
         have h588' : decide ((w64 (r581.1 - s1)) < (w64 (s2 - r581.1))) = true := decide_eq_true h588
         obtain ⟨r589, h590, h⟩ := bsm h
         have h591 : callD (callW Try.prog A0) A0 [.arr (encL en_Pair r581.2.2)] 45 [.ref 0 0 y0.length 2, iv s1, iv r581.1, iv s3, .p (.fn (.func 34) [])] = some (.p (.tup []), some [.arr (encL en_Pair r589)]) := by
             rw [show y0.length = r581.2.2.length from by omega]; exact (callD_put (dsw := [.ref 0 0 r581.2.2.length 2, iv s1, iv r581.1, iv s3, .p (.fn (.func 34) [])]) (ds' := [.ref 0 0 r581.2.2.length 2, iv s1, iv r581.1, iv s3, .p (.fn (.func 34) [])]) (i := 0) (ids := []) (o := .arr (encL en_Pair r581.2.2)) (os := []) (o' := .arr (encL en_Pair r589)) (os' := []) rfl (by kernel_rfl) (by kernel_rfl) (by kernel_rfl) (by kernel_rfl) (by kernel_rfl) (slices_pdqsortCmpFunc_rcall hrec h590) rfl rfl).trans (by kernel_rfl)
         by_cases hw_ : r589.length = r581.2.2.length
         case neg => rw [if_neg hw_] at h; cases h
         rw [if_pos hw_] at h
         have h592 := hw_
         obtain rfl := Option.some.inj h
         simp (maxSteps := 10000000) (implicitDefEqProofs := false) (disch := first | assumption | omega | exact rfl) only [bs, rs45, ls45_34, Nat.reduceAdd, ↓reduceIte, Int.reduceEq, Int.reduceLE, Int.reduceLT, loadD_pagg a39 z39, hg, ↓h376', ↓h381', h386, h389, ↓h391', h496, ↓h497', ↓h550', h583, h587, ↓h588', h591]
         exact ⟨rfl, by simp only [List.length_set, cpL_len, h390, h584, h592]; kernel_rfl⟩
        ·rw [if_neg h588] at h
         have h588' : decide ((w64 (r581.1 - s1)) < (w64 (s2 - r581.1))) = false := decide_eq_false h588
         obtain ⟨r593, h594, h⟩ := bsm h
         have h595 : callD (callW Try.prog A0) A0 [.arr (encL en_Pair r581.2.2)] 45 [.ref 0 0 y0.length 2, iv (w64 (r581.1 + (1 : Int))), iv s2, iv s3, .p (.fn (.func 34) [])] = some (.p (.tup []), some [.arr (encL en_Pair r593)]) := by
             rw [show y0.length = r581.2.2.length from by omega]; exact (callD_put (dsw := [.ref 0 0 r581.2.2.length 2, iv (w64 (r581.1 + (1 : Int))), iv s2, iv s3, .p (.fn (.func 34) [])]) (ds' := [.ref 0 0 r581.2.2.length 2, iv (w64 (r581.1 + (1 : Int))), iv s2, iv s3, .p (.fn (.func 34) [])]) (i := 0) (ids := []) (o := .arr (encL en_Pair r581.2.2)) (os := []) (o' := .arr (encL en_Pair r593)) (os' := []) rfl (by kernel_rfl) (by kernel_rfl) (by kernel_rfl) (by kernel_rfl) (by kernel_rfl) (slices_pdqsortCmpFunc_rcall hrec h594) rfl rfl).trans (by kernel_rfl)
         by_cases hw_ : r593.length = r581.2.2.length
         case neg => rw [if_neg hw_] at h; cases h
         rw [if_pos hw_] at h
         have h596 := hw_
         obtain rfl := Option.some.inj h
         simp (maxSteps := 10000000) (implicitDefEqProofs := false) (disch := first | assumption | omega | exact rfl) only [bs, rs45, ls45_34, Nat.reduceAdd, ↓reduceIte, Int.reduceEq, Int.reduceLE, Int.reduceLT, loadD_pagg a39 z39, hg, ↓h376', ↓h381', h386, h389, ↓h391', h496, ↓h497', ↓h550', h583, h587, ↓h588', h595]
         exact ⟨rfl, by simp only [List.length_set, cpL_len, h390, h584, h596]; kernel_rfl⟩
     ·rw [if_neg h496] at h
      replace h496 := Bool.eq_false_iff.2 h496
      by_cases h597 : (0 : Int) < s1
      ·rw [if_pos h597] at h
       have h597' : decide ((0 : Int) < s1) = true := decide_eq_true h597
       obtain ⟨v598, h599, h⟩ := bsm h
       obtain ⟨h599a, h599b, _⟩ := rd_some h599
       have h600 := lk_arr_39 h599
       obtain ⟨v601, h602, h⟩ := bsm h
       obtain ⟨h602a, h602b, _⟩ := rd_some h602
       have h603 := lk_arr_39 h602
       obtain ⟨r604, h605, h⟩ := bsm h
       have h606 : ∀ H, callD (callW Try.prog A0) A0 H 34 [.p (.agg [.v (.int .i64 v598.Old), .v (.int .i64 v598.New)]), .p (.agg [.v (.int .i64 v601.Old), .v (.int .i64 v601.New)])] = some (.p (.v (.int .i64 r604)), none) := fun H => similar_Match_c2_call h605
       by_cases h607 : r604 < (0 : Int)
       ·rw [if_pos h607] at h
        have h607' : decide (r604 < (0 : Int)) = true := decide_eq_true h607
        obtain ⟨r608, h609, h⟩ := bsm h
        have h610 : callD (callW Try.prog A0) A0 [.arr (encL en_Pair r387.2.2)] 55 [.ref 0 0 y0.length 2, iv s1, iv s2, iv r387.1, .p (.fn (.func 34) [])] = some (.p (.tup [.v (.int .i64 r608.1), .v (.bool r608.2.1)]), some [.arr (encL en_Pair r608.2.2)]) := by
            rw [show y0.length = r387.2.2.length from by omega]; exact (callD_put (dsw := [.ref 0 0 r387.2.2.length 2, iv s1, iv s2, iv r387.1, .p (.fn (.func 34) [])]) (ds' := [.ref 0 0 r387.2.2.length 2, iv s1, iv s2, iv r387.1, .p (.fn (.func 34) [])]) (i := 0) (ids := []) (o := .arr (encL en_Pair r387.2.2)) (os := []) (o' := .arr (encL en_Pair r608.2.2)) (os' := []) rfl (by kernel_rfl) (by kernel_rfl) (by kernel_rfl) (by kernel_rfl) (by kernel_rfl) (slices_partitionCmpFunc_34_call h609) rfl rfl).trans (by kernel_rfl)
        by_cases hw_ : r608.2.2.length = r387.2.2.length
        case neg => rw [if_neg hw_] at h; cases h
        rw [if_pos hw_] at h
        have h611 := hw_
        obtain ⟨q612, h613, h⟩ := bsm h
        have h614 : ∀ xo yo, binD Try.prog .quo 3 xo yo (.p (.v (.int .i64 (w64 (s2 - s1))))) (.p (.v (.int .i64 (8 : Int)))) = some (.p (.v (.int .i64 q612))) := fun xo yo => binD_quo_k h613
        by_cases h615 : (w64 (r608.1 - s1)) < (w64 (s2 - r608.1))
        ·rw [if_pos h615] at h
         have h615' : decide ((w64 (r608.1 - s1)) < (w64 (s2 - r608.1))) = true := decide_eq_true h615
         obtain ⟨r616, h617, h⟩ := bsm h
         have h618 : callD (callW Try.prog A0) A0 [.arr (encL en_Pair r608.2.2)] 45 [.ref 0 0 y0.length 2, iv s1, iv r608.1, iv s3, .p (.fn (.func 34) [])] = some (.p (.tup []), some [.arr (encL en_Pair r616)]) := by
             rw [show y0.length = r608.2.2.length from by omega]; exact (callD_put (dsw := [.ref 0 0 r608.2.2.length 2, iv s1, iv r608.1, iv s3, .p (.fn (.func 34) [])]) (ds' := [.ref 0 0 r608.2.2.length 2, iv s1, iv r608.1, iv s3, .p (.fn (.func 34) [])]) (i := 0) (ids := []) (o := .arr (encL en_Pair r608.2.2)) (os := []) (o' := .arr (encL en_Pair r616)) (os' := []) rfl (by kernel_rfl) (by kernel_rfl) (by kernel_rfl) (by kernel_rfl) (by kernel_rfl) (slices_pdqsortCmpFunc_rcall hrec h617) rfl rfl).trans (by kernel_rfl)
         by_cases hw_ : r616.length = r608.2.2.length
         case neg => rw [if_neg hw_] at h; cases h
         rw [if_pos hw_] at h
         have h619 := hw_
         obtain rfl := Option.some.inj h
         simp (maxSteps := 10000000) (implicitDefEqProofs := false) (disch := first | assumption | omega | exact rfl) only [bs, rs45, ls45_34, Nat.reduceAdd, ↓reduceIte, Int.reduceEq, Int.reduceLE, Int.reduceLT, loadD_pagg a39 z39, hg, ↓h376', ↓h381', h386, h389, ↓h391', h496, ↓h597', h600, h603, h606, ↓h607', h610, h614, ↓h615', h618]
         exact ⟨rfl, by simp only [List.length_set, cpL_len, h390, h611, h619]; kernel_rfl⟩
        ·rw [if_neg h615] at h
         have h615' : decide ((w64 (r608.1 - s1)) < (w64 (s2 - r608.1))) = false := decide_eq_false h615
         obtain ⟨r620, h621, h⟩ := bsm h
         have h622 : callD (callW Try.prog A0) A0 [.arr (encL en_Pair r608.2.2)] 45 [.ref 0 0 y0.length 2, iv (w64 (r608.1 + (1 : Int))), iv s2, iv s3, .p (.fn (.func 34) [])] = some (.p (.tup []), some [.arr (encL en_Pair r620)]) := by
             rw [show y0.length = r608.2.2.length from by omega]; exact (callD_put (dsw := [.ref 0 0 r608.2.2.length 2, iv (w64 (r608.1 + (1 : Int))), iv s2, iv s3, .p (.fn (.func 34) [])]) (ds' := [.ref 0 0 r608.2.2.length 2, iv (w64 (r608.1 + (1 : Int))), iv s2, iv s3, .p (.fn (.func 34) [])]) (i := 0) (ids := []) (o := .arr (encL en_Pair r608.2.2)) (os := []) (o' := .arr (encL en_Pair r620)) (os' := []) rfl (by kernel_rfl) (by kernel_rfl) (by kernel_rfl) (by kernel_rfl) (by kernel_rfl) (slices_pdqsortCmpFunc_rcall hrec h621) rfl rfl).trans (by kernel_rfl)
         by_cases hw_ : r620.length = r608.2.2.length
         case neg => rw [if_neg hw_] at h; cases h
         rw [if_pos hw_] at h
         have h623 := hw_
         obtain rfl := Option.some.inj h
         simp (maxSteps := 10000000) (implicitDefEqProofs := false) (disch := first | assumption | omega | exact rfl) only [bs, rs45, ls45_34, Nat.reduceAdd, ↓reduceIte, Int.reduceEq, Int.reduceLE, Int.reduceLT, loadD_pagg a39 z39, hg, ↓h376', ↓h381', h386, h389, ↓h391', h496, ↓h597', h600, h603, h606, ↓h607', h610, h614, ↓h615', h622]
         exact ⟨rfl, by simp only [List.length_set, cpL_len, h390, h611, h623]; kernel_rfl⟩
       ·rw [if_neg h607] at h
        have h607' : decide (r604 < (0 : Int)) = false := decide_eq_false h607
        obtain ⟨r624, h625, h⟩ := bsm h
        have h626 : callD (callW Try.prog A0) A0 [.arr (encL en_Pair r387.2.2)] 54 [.ref 0 0 y0.length 2, iv s1, iv s2, iv r387.1, .p (.fn (.func 34) [])] = some (.p (.v (.int .i64 r624.1)), some [.arr (encL en_Pair r624.2)]) := by
            rw [show y0.length = r387.2.2.length from by omega]; exact (callD_put (dsw := [.ref 0 0 r387.2.2.length 2, iv s1, iv s2, iv r387.1, .p (.fn (.func 34) [])]) (ds' := [.ref 0 0 r387.2.2.length 2, iv s1, iv s2, iv r387.1, .p (.fn (.func 34) [])]) (i := 0) (ids := []) (o := .arr (encL en_Pair r387.2.2)) (os := []) (o' := .arr (encL en_Pair r624.2)) (os' := []) rfl (by kernel_rfl) (by kernel_rfl) (by kernel_rfl) (by kernel_rfl) (by kernel_rfl) (slices_partitionEqualCmpFunc_34_call h625) rfl rfl).trans (by kernel_rfl)
        by_cases hw_ : r624.2.length = r387.2.2.length
        case neg => rw [if_neg hw_] at h; cases h
        rw [if_pos hw_] at h
        have h627 := hw_
        obtain rfl := Option.some.inj h
        simp (maxSteps := 10000000) (implicitDefEqProofs := false) (disch := first | assumption | omega | exact rfl) only [bs, rs45, ls45_34, Nat.reduceAdd, ↓reduceIte, Int.reduceEq, Int.reduceLE, Int.reduceLT, loadD_pagg a39 z39, hg, ↓h376', ↓h381', h386, h389, ↓h391', h496, ↓h597', h600, h603, h606, ↓h607', h626]
        exact ⟨rfl, by simp only [List.length_set, cpL_len, h390, h627]; kernel_rfl⟩
      ·rw [if_neg h597] at h
       have h597' : decide ((0 : Int) < s1) = false := decide_eq_false h597
       obtain ⟨r628, h629, h⟩ := bsm h
       have h630 : callD (callW Try.prog A0) A0 [.arr (encL en_Pair r387.2.2)] 55 [.ref 0 0 y0.length 2, iv s1, iv s2, iv r387.1, .p (.fn (.func 34) [])] = some (.p (.tup [.v (.int .i64 r628.1), .v (.bool r628.2.1)]), some [.arr (encL en_Pair r628.2.2)]) := by
           rw [show y0.length = r387.2.2.length from by omega]; exact (callD_put (dsw := [.ref 0 0 r387.2.2.length 2, iv s1, iv s2, iv r387.1, .p (.fn (.func 34) [])]) (ds' := [.ref 0 0 r387.2.2.length 2, iv s1, iv s2, iv r387.1, .p (.fn (.func 34) [])]) (i := 0) (ids := []) (o := .arr (encL en_Pair r387.2.2)) (os := []) (o' := .arr (encL en_Pair r628.2.2)) (os' := []) rfl (by kernel_rfl) (by kernel_rfl) (by kernel_rfl) (by kernel_rfl) (by kernel_rfl) (slices_partitionCmpFunc_34_call h629) rfl rfl).trans (by kernel_rfl)
       by_cases hw_ : r628.2.2.length = r387.2.2.length
       case neg => rw [if_neg hw_] at h; cases h
       rw [if_pos hw_] at h
       have h631 := hw_
       obtain ⟨q632, h633, h⟩ := bsm h
       have h634 : ∀ xo yo, binD Try.prog .quo 3 xo yo (.p (.v (.int .i64 (w64 (s2 - s1))))) (.p (.v (.int .i64 (8 : Int)))) = some (.p (.v (.int .i64 q632))) := fun xo yo => binD_quo_k h633
       by_cases h635 : (w64 (r628.1 - s1)) < (w64 (s2 - r628.1))
       ·rw [if_pos h635] at h
        have h635' : decide ((w64 (r628.1 - s1)) < (w64 (s2 - r628.1))) = true := decide_eq_true h635
        obtain ⟨r636, h637, h⟩ := bsm h
        have h638 : callD (callW Try.prog A0) A0 [.arr (encL en_Pair r628.2.2)] 45 [.ref 0 0 y0.length 2, iv s1, iv r628.1, iv s3, .p (.fn (.func 34) [])] = some (.p (.tup []), some [.arr (encL en_Pair r636)]) := by
            rw [show y0.length = r628.2.2.length from by omega]; exact (callD_put (dsw := [.ref 0 0 r628.2.2.length 2, iv s1, iv r628.1, iv s3, .p (.fn (.func 34) [])]) (ds' := [.ref 0 0 r628.2.2.length 2, iv s1, iv r628.1, iv s3, .p (.fn (.func 34) [])]) (i := 0) (ids := []) (o := .arr (encL en_Pair r628.2.2)) (os := []) (o' := .arr (encL en_Pair r636)) (os' := []) rfl (by kernel_rfl) (by kernel_rfl) (by kernel_rfl) (by kernel_rfl) (by kernel_rfl) (slices_pdqsortCmpFunc_rcall hrec h637) rfl rfl).trans (by kernel_rfl)
        by_cases hw_ : r636.length = r628.2.2.length
        case neg => rw [if_neg hw_] at h; cases h
        rw [if_pos hw_] at h
        have h639 := hw_
        obtain rfl := Option.some.inj h
        simp (maxSteps := 10000000) (implicitDefEqProofs := false) (disch := first | assumption | omega | exact rfl) only [bs, rs45, ls45_34, Nat.reduceAdd, ↓reduceIte, Int.reduceEq, Int.reduceLE, Int.reduceLT, loadD_pagg a39 z39, hg, ↓h376', ↓h381', h386, h389, ↓h391', h496, ↓h597', h630, h634, ↓h635', h638]
        exact ⟨rfl, by simp only [List.length_set, cpL_len, h390, h631, h639]; kernel_rfl⟩
       ·rw [if_neg h635] at h
        have h635' : decide ((w64 (r628.1 - s1)) < (w64 (s2 - r628.1))) = false := decide_eq_false h635
        obtain ⟨r640, h641, h⟩ := bsm h
        have h642 : callD (callW Try.prog A0) A0 [.arr (encL en_Pair r628.2.2)] 45 [.ref 0 0 y0.length 2, iv (w64 (r628.1 + (1 : Int))), iv s2, iv s3, .p (.fn (.func 34) [])] = some (.p (.tup []), some [.arr (encL en_Pair r640)]) := by
            rw [show y0.length = r628.2.2.length from by omega]; exact (callD_put (dsw := [.ref 0 0 r628.2.2.length 2, iv (w64 (r628.1 + (1 : Int))), iv s2, iv s3, .p (.fn (.func 34) [])]) (ds' := [.ref 0 0 r628.2.2.length 2, iv (w64 (r628.1 + (1 : Int))), iv s2, iv s3, .p (.fn (.func 34) [])]) (i := 0) (ids := []) (o := .arr (encL en_Pair r628.2.2)) (os := []) (o' := .arr (encL en_Pair r640)) (os' := []) rfl (by kernel_rfl) (by kernel_rfl) (by kernel_rfl) (by kernel_rfl) (by kernel_rfl) (slices_pdqsortCmpFunc_rcall hrec h641) rfl rfl).trans (by kernel_rfl)
        by_cases hw_ : r640.length = r628.2.2.length
        case neg => rw [if_neg hw_] at h; cases h
        rw [if_pos hw_] at h
        have h643 := hw_
        obtain rfl := Option.some.inj h
        simp (maxSteps := 10000000) (implicitDefEqProofs := false) (disch := first | assumption | omega | exact rfl) only [bs, rs45, ls45_34, Nat.reduceAdd, ↓reduceIte, Int.reduceEq, Int.reduceLE, Int.reduceLT, loadD_pagg a39 z39, hg, ↓h376', ↓h381', h386, h389, ↓h391', h496, ↓h597', h630, h634, ↓h635', h642]
        exact ⟨rfl, by simp only [List.length_set, cpL_len, h390, h631, h643]; kernel_rfl⟩
   ·rw [if_neg h386] at h
    replace h386 := Bool.eq_false_iff.2 h386
    obtain ⟨r644, h645, h⟩ := bsm h
    have h646 : callD (callW Try.prog A0) A0 [.arr (encL en_Pair y0)] 50 [.ref 0 0 y0.length 2, iv s1, iv s2, .p (.fn (.func 34) [])] = some (.p (.tup []), some [.arr (encL en_Pair r644)]) := (callD_put (dsw := [.ref 0 0 y0.length 2, iv s1, iv s2, .p (.fn (.func 34) [])]) (ds' := [.ref 0 0 y0.length 2, iv s1, iv s2, .p (.fn (.func 34) [])]) (i := 0) (ids := []) (o := .arr (encL en_Pair y0)) (os := []) (o' := .arr (encL en_Pair r644)) (os' := []) rfl (by kernel_rfl) (by kernel_rfl) (by kernel_rfl) (by kernel_rfl) (by kernel_rfl) (slices_breakPatternsCmpFunc_34_call h645) rfl rfl).trans (by kernel_rfl)
    by_cases hw_ : r644.length = y0.length
    case neg => rw [if_neg hw_] at h; cases h
    rw [if_pos hw_] at h
    have h647 := hw_
    obtain ⟨r648, h649, h⟩ := bsm h
    have h650 : callD (callW Try.prog A0) A0 [.arr (encL en_Pair r644)] 51 [.ref 0 0 y0.length 2, iv s1, iv s2, .p (.fn (.func 34) [])] = some (.p (.tup [.v (.int .i64 r648.1), .v (.int .i64 r648.2.1)]), some [.arr (encL en_Pair r648.2.2)]) := by
        rw [show y0.length = r644.length from by omega]; exact (callD_put (dsw := [.ref 0 0 r644.length 2, iv s1, iv s2, .p (.fn (.func 34) [])]) (ds' := [.ref 0 0 r644.length 2, iv s1, iv s2, .p (.fn (.func 34) [])]) (i := 0) (ids := []) (o := .arr (encL en_Pair r644)) (os := []) (o' := .arr (encL en_Pair r648.2.2)) (os' := []) rfl (by kernel_rfl) (by kernel_rfl) (by kernel_rfl) (by kernel_rfl) (by kernel_rfl) (slices_choosePivotCmpFunc_34_call h649) rfl rfl).trans (by kernel_rfl)
    by_cases hw_ : r648.2.2.length = r644.length
    case neg => rw [if_neg hw_] at h; cases h
    rw [if_pos hw_] at h
    have h651 := hw_
    by_cases h652 : r648.2.1 = (2 : Int)
    ·rw [if_pos h652] at h
     have h652' : decide (r648.2.1 = (2 : Int)) = true := decide_eq_true h652
     obtain ⟨r653, h654, h⟩ := bsm h
     have h655 : callD (callW Try.prog A0) A0 [.arr (encL en_Pair r648.2.2)] 52 [.ref 0 0 y0.length 2, iv s1, iv s2, .p (.fn (.func 34) [])] = some (.p (.tup []), some [.arr (encL en_Pair r653)]) := by
         rw [show y0.length = r648.2.2.length from by omega]; exact (callD_put (dsw := [.ref 0 0 r648.2.2.length 2, iv s1, iv s2, .p (.fn (.func 34) [])]) (ds' := [.ref 0 0 r648.2.2.length 2, iv s1, iv s2, .p (.fn (.func 34) [])]) (i := 0) (ids := []) (o := .arr (encL en_Pair r648.2.2)) (os := []) (o' := .arr (encL en_Pair r653)) (os' := []) rfl (by kernel_rfl) (by kernel_rfl) (by kernel_rfl) (by kernel_rfl) (by kernel_rfl) (slices_reverseRangeCmpFunc_34_call h654) rfl rfl).trans (by kernel_rfl)
     by_cases hw_ : r653.length = r648.2.2.length
     case neg => rw [if_neg hw_] at h; cases h
     rw [if_pos hw_] at h
     have h656 := hw_
     by_cases h657 : (0 : Int) < s1
     ·rw [if_pos h657] at h
      have h657' : decide ((0 : Int) < s1) = true := decide_eq_true h657
      obtain ⟨v658, h659, h⟩ := bsm h
      obtain ⟨h659a, h659b, _⟩ := rd_some h659
      have h660 := lk_arr_39 h659
      obtain ⟨v661, h662, h⟩ := bsm h
      obtain ⟨h662a, h662b, _⟩ := rd_some h662
      have h663 := lk_arr_39 h662
      obtain ⟨r664, h665, h⟩ := bsm h
      have h666 : ∀ H, callD (callW Try.prog A0) A0 H 34 [.p (.agg [.v (.int .i64 v658.Old), .v (.int .i64 v658.New)]), .p (.agg [.v (.int .i64 v661.Old), .v (.int .i64 v661.New)])] = some (.p (.v (.int .i64 r664)), none) := fun H => similar_Match_c2_call h665
      by_cases h667 : r664 < (0 : Int)
      ·rw [if_pos h667] at h
       have h667' : decide (r664 < (0 : Int)) = true := decide_eq_true h667
       obtain ⟨r668, h669, h⟩ := bsm h
       have h670 : callD (callW Try.prog A0) A0 [.arr (encL en_Pair r653)] 55 [.ref 0 0 y0.length 2, iv s1, iv s2, iv (w64 ((w64 (s2 - (1 : Int))) - (w64 (r648.1 - s1)))), .p (.fn (.func 34) [])] = some (.p (.tup [.v (.int .i64 r668.1), .v (.bool r668.2.1)]), some [.arr (encL en_Pair r668.2.2)]) := by
           rw [show y0.length = r653.length from by omega]; exact (callD_put (dsw := [.ref 0 0 r653.length 2, iv s1, iv s2, iv (w64 ((w64 (s2 - (1 : Int))) - (w64 (r648.1 - s1)))), .p (.fn (.func 34) [])]) (ds' := [.ref 0 0 r653.length 2, iv s1, iv s2, iv (w64 ((w64 (s2 - (1 : Int))) - (w64 (r648.1 - s1)))), .p (.fn (.func 34) [])]) (i := 0) (ids := []) (o := .arr (encL en_Pair r653)) (os := []) (o' := .arr (encL en_Pair r668.2.2)) (os' := []) rfl (by kernel_rfl) (by kernel_rfl) (by kernel_rfl) (by kernel_rfl) (by kernel_rfl) (slices_partitionCmpFunc_34_call h669) rfl rfl).trans (by kernel_rfl)
       by_cases hw_ : r668.2.2.length = r653.length
       case neg => rw [if_neg hw_] at h; cases h
       rw [if_pos hw_] at h
       have h671 := hw_
       obtain ⟨q672, h673, h⟩ := bsm h
       have h674 : ∀ xo yo, binD Try.prog .quo 3 xo yo (.p (.v (.int .i64 (w64 (s2 - s1))))) (.p (.v (.int .i64 (8 : Int)))) = some (.p (.v (.int .i64 q672))) := fun xo yo => binD_quo_k h673
       by_cases h675 : (w64 (r668.1 - s1)) < (w64 (s2 - r668.1))
       ·rw [if_pos h675] at h
        have h675' : decide ((w64 (r668.1 - s1)) < (w64 (s2 - r668.1))) = true := decide_eq_true h675
        obtain ⟨r676, h677, h⟩ := bsm h
        have h678 : callD (callW Try.prog A0) A0 [.arr (encL en_Pair r668.2.2)] 45 [.ref 0 0 y0.length 2, iv s1, iv r668.1, iv (w64 (s3 - (1 : Int))), .p (.fn (.func 34) [])] = some (.p (.tup []), some [.arr (encL en_Pair r676)]) := by
            rw [show y0.length = r668.2.2.length from by omega]; exact (callD_put (dsw := [.ref 0 0 r668.2.2.length 2, iv s1, iv r668.1, iv (w64 (s3 - (1 : Int))), .p (.fn (.func 34) [])]) (ds' := [.ref 0 0 r668.2.2.length 2, iv s1, iv r668.1, iv (w64 (s3 - (1 : Int))), .p (.fn (.func 34) [])]) (i := 0) (ids := []) (o := .arr (encL en_Pair r668.2.2)) (os := []) (o' := .arr (encL en_Pair r676)) (os' := []) rfl (by kernel_rfl) (by kernel_rfl) (by kernel_rfl) (by kernel_rfl) (by kernel_rfl) (slices_pdqsortCmpFunc_rcall hrec h677) rfl rfl).trans (by kernel_rfl)
        by_cases hw_ : r676.length = r668.2.2.length
        case neg => rw [if_neg hw_] at h; cases h
        rw [if_pos hw_] at h
        have h679 := hw_
        obtain rfl := Option.some.inj h
        simp (maxSteps := 10000000) (implicitDefEqProofs := false) (disch := first | assumption | omega | exact rfl) only [bs, rs45, ls45_34, Nat.reduceAdd, ↓reduceIte, Int.reduceEq, Int.reduceLE, Int.reduceLT, loadD_pagg a39 z39, hg, ↓h376', ↓h381', h386, h646, h650, ↓h652', h655, ↓h657', h660, h663, h666, ↓h667', h670, h674, ↓h675', h678]
        exact ⟨rfl, by simp only [List.length_set, cpL_len, h647, h651, h656, h671, h679]; kernel_rfl⟩
       ·rw [if_neg h675] at h
        have h675' : decide ((w64 (r668.1 - s1)) < (w64 (s2 - r668.1))) = false := decide_eq_false h675
        obtain ⟨r680, h681, h⟩ := bsm h
        have h682 : callD (callW Try.prog A0) A0 [.arr (encL en_Pair r668.2.2)] 45 [.ref 0 0 y0.length 2, iv (w64 (r668.1 + (1 : Int))), iv s2, iv (w64 (s3 - (1 : Int))), .p (.fn (.func 34) [])] = some (.p (.tup []), some [.arr (encL en_Pair r680)]) := by
            rw [show y0.length = r668.2.2.length from by omega]; exact (callD_put (dsw := [.ref 0 0 r668.2.2.length 2, iv (w64 (r668.1 + (1 : Int))), iv s2, iv (w64 (s3 - (1 : Int))), .p (.fn (.func 34) [])]) (ds' := [.ref 0 0 r668.2.2.length 2, iv (w64 (r668.1 + (1 : Int))), iv s2, iv (w64 (s3 - (1 : Int))), .p (.fn (.func 34) [])]) (i := 0) (ids := []) (o := .arr (encL en_Pair r668.2.2)) (os := []) (o' := .arr (encL en_Pair r680)) (os' := []) rfl (by kernel_rfl) (by kernel_rfl) (by kernel_rfl) (by kernel_rfl) (by kernel_rfl) (slices_pdqsortCmpFunc_rcall hrec h681) rfl rfl).trans (by kernel_rfl)
        by_cases hw_ : r680.length = r668.2.2.length
        case neg => rw [if_neg hw_] at h; cases h
        rw [if_pos hw_] at h
        have h683 := hw_
        obtain rfl := Option.some.inj h
        simp (maxSteps := 10000000) (implicitDefEqProofs := false) (disch := first | assumption | omega | exact rfl) only [bs, rs45, ls45_34, Nat.reduceAdd, ↓reduceIte, Int.reduceEq, Int.reduceLE, Int.reduceLT, loadD_pagg a39 z39, hg, ↓h376', ↓h381', h386, h646, h650, ↓h652', h655, ↓h657', h660, h663, h666, ↓h667', h670, h674, ↓h675', h682]
        exact ⟨rfl, by simp only [List.length_set, cpL_len, h647, h651, h656, h671, h683]; kernel_rfl⟩
      ·rw [if_neg h667] at h
       have h667' : decide (r664 < (0 : Int)) = false := decide_eq_false h667
       obtain ⟨r684, h685, h⟩ := bsm h
       have h686 : callD (callW Try.prog A0) A0 [.arr (encL en_Pair r653)] 54 [.ref 0 0 y0.length 2, iv s1, iv s2, iv (w64 ((w64 (s2 - (1 : Int))) - (w64 (r648.1 - s1)))), .p (.fn (.func 34) [])] = some (.p (.v (.int .i64 r684.1)), some [.arr (encL en_Pair r684.2)]) := by
           rw [show y0.length = r653.length from by omega]; exact (callD_put (dsw := [.ref 0 0 r653.length 2, iv s1, iv s2, iv (w64 ((w64 (s2 - (1 : Int))) - (w64 (r648.1 - s1)))), .p (.fn (.func 34) [])]) (ds' := [.ref 0 0 r653.length 2, iv s1, iv s2, iv (w64 ((w64 (s2 - (1 : Int))) - (w64 (r648.1 - s1)))), .p (.fn (.func 34) [])]) (i := 0) (ids := []) (o := .arr (encL en_Pair r653)) (os := []) (o' := .arr (encL en_Pair r684.2)) (os' := []) rfl (by kernel_rfl) (by kernel_rfl) (by kernel_rfl) (by kernel_rfl) (by kernel_rfl) (slices_partitionEqualCmpFunc_34_call h685) rfl rfl).trans (by kernel_rfl)
       by_cases hw_ : r684.2.length = r653.length
       case neg => rw [if_neg hw_] at h; cases h
       rw [if_pos hw_] at h
       have h687 := hw_
       obtain rfl := Option.some.inj h
       simp (maxSteps := 10000000) (implicitDefEqProofs := false) (disch := first | assumption | omega | exact rfl) only [bs, rs45, ls45_34, Nat.reduceAdd, ↓reduceIte, Int.reduceEq, Int.reduceLE, Int.reduceLT, loadD_pagg a39 z39, hg, ↓h376', ↓h381', h386, h646, h650, ↓h652', h655, ↓h657', h660, h663, h666, ↓h667', h686]
       exact ⟨rfl, by simp only [List.length_set, cpL_len, h647, h651, h656, h687]; kernel_rfl⟩
     ·rw [if_neg h657] at h
      have h657' : decide ((0 : Int) < s1) = false := decide_eq_false h657
      obtain ⟨r688, h689, h⟩ := bsm h
      have h690 : callD (callW Try.prog A0) A0 [.arr (encL en_Pair r653)] 55 [.ref 0 0 y0.length 2, iv s1, iv s2, iv (w64 ((w64 (s2 - (1 : Int))) - (w64 (r648.1 - s1)))), .p (.fn (.func 34) [])] = some (.p (.tup [.v (.int .i64 r688.1), .v (.bool r688.2.1)]), some [.arr (encL en_Pair r688.2.2)]) := by
          rw [show y0.length = r653.length from by omega]; exact (callD_put (dsw := [.ref 0 0 r653.length 2, iv s1, iv s2, iv (w64 ((w64 (s2 - (1 : Int))) - (w64 (r648.1 - s1)))), .p (.fn (.func 34) [])]) (ds' := [.ref 0 0 r653.length 2, iv s1, iv s2, iv (w64 ((w64 (s2 - (1 : Int))) - (w64 (r648.1 - s1)))), .p (.fn (.func 34) [])]) (i := 0) (ids := []) (o := .arr (encL en_Pair r653)) (os := []) (o' := .arr (encL en_Pair r688.2.2)) (os' := []) rfl (by kernel_rfl) (by kernel_rfl) (by kernel_rfl) (by kernel_rfl) (by kernel_rfl) (slices_partitionCmpFunc_34_call h689) rfl rfl).trans (by kernel_rfl)
      by_cases hw_ : r688.2.2.length = r653.length
      case neg => rw [if_neg hw_] at h; cases h
      rw [if_pos hw_] at h
      have h691 := hw_
      obtain ⟨q692, h693, h⟩ := bsm h
      have h694 : ∀ xo yo, binD Try.prog .quo 3 xo yo (.p (.v (.int .i64 (w64 (s2 - s1))))) (.p (.v (.int .i64 (8 : Int)))) = some (.p (.v (.int .i64 q692))) := fun xo yo => binD_quo_k h693
      by_cases h695 : (w64 (r688.1 - s1)) < (w64 (s2 - r688.1))
      ·rw [if_pos h695] at h
       have h695' : decide ((w64 (r688.1 - s1)) < (w64 (s2 - r688.1))) = true := decide_eq_true h695
       obtain ⟨r696, h697, h⟩ := bsm h
       have h698 : callD (callW Try.prog A0) A0 [.arr (encL en_Pair r688.2.2)] 45 [.ref 0 0 y0.length 2, iv s1, iv r688.1, iv (w64 (s3 - (1 : Int))), .p (.fn (.func 34) [])] = some (.p (.tup []), some [.arr (encL en_Pair r696)]) := by
           rw [show y0.length = r688.2.2.length from by omega]; exact (callD_put (dsw := [.ref 0 0 r688.2.2.length 2, iv s1, iv r688.1, iv (w64 (s3 - (1 : Int))), .p (.fn (.func 34) [])]) (ds' := [.ref 0 0 r688.2.2.length 2, iv s1, iv r688.1, iv (w64 (s3 - (1 : Int))), .p (.fn (.func 34) [])]) (i := 0) (ids := []) (o := .arr (encL en_Pair r688.2.2)) (os := []) (o' := .arr (encL en_Pair r696)) (os' := []) rfl (by kernel_rfl) (by kernel_rfl) (by kernel_rfl) (by kernel_rfl) (by kernel_rfl) (slices_pdqsortCmpFunc_rcall hrec h697) rfl rfl).trans (by kernel_rfl)
       by_cases hw_ : r696.length = r688.2.2.length
       case neg => rw [if_neg hw_] at h; cases h
       rw [if_pos hw_] at h
       have h699 := hw_
       obtain rfl := Option.some.inj h
       simp (maxSteps := 10000000) (implicitDefEqProofs := false) (disch := first | assumption | omega | exact rfl) only [bs, rs45, ls45_34, Nat.reduceAdd, ↓reduceIte, Int.reduceEq, Int.reduceLE, Int.reduceLT, loadD_pagg a39 z39, hg, ↓h376', ↓h381', h386, h646, h650, ↓h652', h655, ↓h657', h690, h694, ↓h695', h698]
       exact ⟨rfl, by simp only [List.length_set, cpL_len, h647, h651, h656, h691, h699]; kernel_rfl⟩
      ·rw [if_neg h695] at h
       have h695' : decide ((w64 (r688.1 - s1)) < (w64 (s2 - r688.1))) = false := decide_eq_false h695
       obtain ⟨r700, h701, h⟩ := bsm h
       have h702 : callD (callW Try.prog A0) A0 [.arr (encL en_Pair r688.2.2)] 45 [.ref 0 0 y0.length 2, iv (w64 (r688.1 + (1 : Int))), iv s2, iv (w64 (s3 - (1 : Int))), .p (.fn (.func 34) [])] = some (.p (.tup []), some [.arr (encL en_Pair r700)]) := by
           rw [show y0.length = r688.2.2.length from by omega]; exact (callD_put (dsw := [.ref 0 0 r688.2.2.length 2, iv (w64 (r688.1 + (1 : Int))), iv s2, iv (w64 (s3 - (1 : Int))), .p (.fn (.func 34) [])]) (ds' := [.ref 0 0 r688.2.2.length 2, iv (w64 (r688.1 + (1 : Int))), iv s2, iv (w64 (s3 - (1 : Int))), .p (.fn (.func 34) [])]) (i := 0) (ids := []) (o := .arr (encL en_Pair r688.2.2)) (os := []) (o' := .arr (encL en_Pair r700)) (os' := []) rfl (by kernel_rfl) (by kernel_rfl) (by kernel_rfl) (by kernel_rfl) (by kernel_rfl) (slices_pdqsortCmpFunc_rcall hrec h701) rfl rfl).trans (by kernel_rfl)
       by_cases hw_ : r700.length = r688.2.2.length
       case neg => rw [if_neg hw_] at h; cases h
       rw [if_pos hw_] at h
       have h703 := hw_
       obtain rfl := Option.some.inj h
       simp (maxSteps := 10000000) (implicitDefEqProofs := false) (disch := first | assumption | omega | exact rfl) only [bs, rs45, ls45_34, Nat.reduceAdd, ↓reduceIte, Int.reduceEq, Int.reduceLE, Int.reduceLT, loadD_pagg a39 z39, hg, ↓h376', ↓h381', h386, h646, h650, ↓h652', h655, ↓h657', h690, h694, ↓h695', h702]
       exact ⟨rfl, by simp only [List.length_set, cpL_len, h647, h651, h656, h691, h703]; kernel_rfl⟩
    ·rw [if_neg h652] at h
     have h652' : decide (r648.2.1 = (2 : Int)) = false := decide_eq_false h652
     by_cases h704 : (0 : Int) < s1
     ·rw [if_pos h704] at h
      have h704' : decide ((0 : Int) < s1) = true := decide_eq_true h704
      obtain ⟨v705, h706, h⟩ := bsm h
      obtain ⟨h706a, h706b, _⟩ := rd_some h706
      have h707 := lk_arr_39 h706
      obtain ⟨v708, h709, h⟩ := bsm h
      obtain ⟨h709a, h709b, _⟩ := rd_some h709
      have h710 := lk_arr_39 h709
      obtain ⟨r711, h712, h⟩ := bsm h
      have h713 : ∀ H, callD (callW Try.prog A0) A0 H 34 [.p (.agg [.v (.int .i64 v705.Old), .v (.int .i64 v705.New)]), .p (.agg [.v (.int .i64 v708.Old), .v (.int .i64 v708.New)])] = some (.p (.v (.int .i64 r711)), none) := fun H => similar_Match_c2_call h712
      by_cases h714 : r711 < (0 : Int)
      ·rw [if_pos h714] at h
       have h714' : decide (r711 < (0 : Int)) = true := decide_eq_true h714
       obtain ⟨r715, h716, h⟩ := bsm h
       have h717 : callD (callW Try.prog A0) A0 [.arr (encL en_Pair r648.2.2)] 55 [.ref 0 0 y0.length 2, iv s1, iv s2, iv r648.1, .p (.fn (.func 34) [])] = some (.p (.tup [.v (.int .i64 r715.1), .v (.bool r715.2.1)]), some [.arr (encL en_Pair r715.2.2)]) := by
           rw [show y0.length = r648.2.2.length from by omega]; exact (callD_put (dsw := [.ref 0 0 r648.2.2.length 2, iv s1, iv s2, iv r648.1, .p (.fn (.func 34) [])]) (ds' := [.ref 0 0 r648.2.2.length 2, iv s1, iv s2, iv r648.1, .p (.fn (.func 34) [])]) (i := 0) (ids := []) (o := .arr (encL en_Pair r648.2.2)) (os := []) (o' := .arr (encL en_Pair r715.2.2)) (os' := []) rfl (by kernel_rfl) (by kernel_rfl) (by kernel_rfl) (by kernel_rfl) (by kernel_rfl) (slices_partitionCmpFunc_34_call h716) rfl rfl).trans (by kernel_rfl)
       by_cases hw_ : r715.2.2.length = r648.2.2.length
       case neg => rw [if_neg hw_] at h; cases h
       rw [if_pos hw_] at h
       have h718 := hw_
       obtain ⟨q719, h720, h⟩ := bsm h
       have h721 : ∀ xo yo, binD Try.prog .quo 3 xo yo (.p (.v (.int .i64 (w64 (s2 - s1))))) (.p (.v (.int .i64 (8 : Int)))) = some (.p (.v (.int .i64 q719))) := fun xo yo => binD_quo_k h720
       by_cases h722 : (w64 (r715.1 - s1)) < (w64 (s2 - r715.1))
       ·rw [if_pos h722] at h
        have h722' : decide ((w64 (r715.1 - s1)) < (w64 (s2 - r715.1))) = true := decide_eq_true h722
        obtain ⟨r723, h724, h⟩ := bsm h
        have h725 : callD (callW Try.prog A0) A0 [.arr (encL en_Pair r715.2.2)] 45 [.ref 0 0 y0.length 2, iv s1, iv r715.1, iv (w64 (s3 - (1 : Int))), .p (.fn (.func 34) [])] = some (.p (.tup []), some [.arr (encL en_Pair r723)]) := by
            rw [show y0.length = r715.2.2.length from by omega]; exact (callD_put (dsw := [.ref 0 0 r715.2.2.length 2, iv s1, iv r715.1, iv (w64 (s3 - (1 : Int))), .p (.fn (.func 34) [])]) (ds' := [.ref 0 0 r715.2.2.length 2, iv s1, iv r715.1, iv (w64 (s3 - (1 : Int))), .p (.fn (.func 34) [])]) (i := 0) (ids := []) (o := .arr (encL en_Pair r715.2.2)) (os := []) (o' := .arr (encL en_Pair r723)) (os' := []) rfl (by kernel_rfl) (by kernel_rfl) (by kernel_rfl) (by kernel_rfl) (by kernel_rfl) (slices_pdqsortCmpFunc_rcall hrec h724) rfl rfl).trans (by kernel_rfl)
        by_cases hw_ : r723.length = r715.2.2.length
        case neg => rw [if_neg hw_] at h; cases h
        rw [if_pos hw_] at h
        have h726 := hw_
        obtain rfl := Option.some.inj h
        simp (maxSteps := 10000000) (implicitDefEqProofs := false) (disch := first | assumption | omega | exact rfl) only [bs, rs45, ls45_34, Nat.reduceAdd, ↓reduceIte, Int.reduceEq, Int.reduceLE, Int.reduceLT, loadD_pagg a39 z39, hg, ↓h376', ↓h381', h386, h646, h650, ↓h652', ↓h704', h707, h710, h713, ↓h714', h717, h721, ↓h722', h725]
        exact ⟨rfl, by simp only [List.length_set, cpL_len, h647, h651, h718, h726]; kernel_rfl⟩
       ·rw [if_neg h722] at h
        have h722' : decide ((w64 (r715.1 - s1)) < (w64 (s2 - r715.1))) = false := decide_eq_false h722
        obtain ⟨r727, h728, h⟩ := bsm h
        have h729 : callD (callW Try.prog A0) A0 [.arr (encL en_Pair r715.2.2)] 45 [.ref 0 0 y0.length 2, iv (w64 (r715.1 + (1 : Int))), iv s2, iv (w64 (s3 - (1 : Int))), .p (.fn (.func 34) [])] = some (.p (.tup []), some [.arr (encL en_Pair r727)]) := by
            rw [show y0.length = r715.2.2.length from by omega]; exact (callD_put (dsw := [.ref 0 0 r715.2.2.length 2, iv (w64 (r715.1 + (1 : Int))), iv s2, iv (w64 (s3 - (1 : Int))), .p (.fn (.func 34) [])]) (ds' := [.ref 0 0 r715.2.2.length 2, iv (w64 (r715.1 + (1 : Int))), iv s2, iv (w64 (s3 - (1 : Int))), .p (.fn (.func 34) [])]) (i := 0) (ids := []) (o := .arr (encL en_Pair r715.2.2)) (os := []) (o' := .arr (encL en_Pair r727)) (os' := []) rfl (by kernel_rfl) (by kernel_rfl) (by kernel_rfl) (by kernel_rfl) (by kernel_rfl) (slices_pdqsortCmpFunc_rcall hrec h728) rfl rfl).trans (by kernel_rfl)
        by_cases hw_ : r727.length = r715.2.2.length
        case neg => rw [if_neg hw_] at h; cases h
        rw [if_pos hw_] at h
        have h730 := hw_
        obtain rfl := Option.some.inj h
        simp (maxSteps := 10000000) (implicitDefEqProofs := false) (disch := first | assumption | omega | exact rfl) only [bs, rs45, ls45_34, Nat.reduceAdd, ↓reduceIte, Int.reduceEq, Int.reduceLE, Int.reduceLT, loadD_pagg a39 z39, hg, ↓h376', ↓h381', h386, h646, h650, ↓h652', ↓h704', h707, h710, h713, ↓h714', h717, h721, ↓h722', h729]
        exact ⟨rfl, by simp only [List.length_set, cpL_len, h647, h651, h718, h730]; kernel_rfl⟩
      ·rw [if_neg h714] at h
       have h714' : decide (r711 < (0 : Int)) = false := decide_eq_false h714
       obtain ⟨r731, h732, h⟩ := bsm h
       have h733 : callD (callW Try.prog A0) A0 [.arr (encL en_Pair r648.2.2)] 54 [.ref 0 0 y0.length 2, iv s1, iv s2, iv r648.1, .p (.fn (.func 34) [])] = some (.p (.v (.int .i64 r731.1)), some [.arr (encL en_Pair r731.2)]) := by
           rw [show y0.length = r648.2.2.length from by omega]; exact (callD_put (dsw := [.ref 0 0 r648.2.2.length 2, iv s1, iv s2, iv r648.1, .p (.fn (.func 34) [])]) (ds' := [.ref 0 0 r648.2.2.length 2, iv s1, iv s2, iv r648.1, .p (.fn (.func 34) [])]) (i := 0) (ids := []) (o := .arr (encL en_Pair r648.2.2)) (os := []) (o' := .arr (encL en_Pair r731.2)) (os' := []) rfl (by kernel_rfl) (by kernel_rfl) (by kernel_rfl) (by kernel_rfl) (by kernel_rfl) (slices_partitionEqualCmpFunc_34_call h732) rfl rfl).trans (by kernel_rfl)
       by_cases hw_ : r731.2.length = r648.2.2.length
       case neg => rw [if_neg hw_] at h; cases h
       rw [if_pos hw_] at h
       have h734 := hw_
       obtain rfl := Option.some.inj h
       simp (maxSteps := 10000000) (implicitDefEqProofs := false) (disch := first | assumption | omega | exact rfl) only [bs, rs45, ls45_34, Nat.reduceAdd, ↓reduceIte, Int.reduceEq, Int.reduceLE, Int.reduceLT, loadD_pagg a39 z39, hg, ↓h376', ↓h381', h386, h646, h650, ↓h652', ↓h704', h707, h710, h713, ↓h714', h733]
       exact ⟨rfl, by simp only [List.length_set, cpL_len, h647, h651, h734]; kernel_rfl⟩
     ·rw [if_neg h704] at h
      have h704' : decide ((0 : Int) < s1) = false := decide_eq_false h704
      obtain ⟨r735, h736, h⟩ := bsm h
      have h737 : callD (callW Try.prog A0) A0 [.arr (encL en_Pair r648.2.2)] 55 [.ref 0 0 y0.length 2, iv s1, iv s2, iv r648.1, .p (.fn (.func 34) [])] = some (.p (.tup [.v (.int .i64 r735.1), .v (.bool r735.2.1)]), some [.arr (encL en_Pair r735.2.2)]) := by
          rw [show y0.length = r648.2.2.length from by omega]; exact (callD_put (dsw := [.ref 0 0 r648.2.2.length 2, iv s1, iv s2, iv r648.1, .p (.fn (.func 34) [])]) (ds' := [.ref 0 0 r648.2.2.length 2, iv s1, iv s2, iv r648.1, .p (.fn (.func 34) [])]) (i := 0) (ids := []) (o := .arr (encL en_Pair r648.2.2)) (os := []) (o' := .arr (encL en_Pair r735.2.2)) (os' := []) rfl (by kernel_rfl) (by kernel_rfl) (by kernel_rfl) (by kernel_rfl) (by kernel_rfl) (slices_partitionCmpFunc_34_call h736) rfl rfl).trans (by kernel_rfl)
      by_cases hw_ : r735.2.2.length = r648.2.2.length
      case neg => rw [if_neg hw_] at h; cases h
      rw [if_pos hw_] at h
      have h738 := hw_
      obtain ⟨q739, h740, h⟩ := bsm h
      have h741 : ∀ xo yo, binD Try.prog .quo 3 xo yo (.p (.v (.int .i64 (w64 (s2 - s1))))) (.p (.v (.int .i64 (8 : Int)))) = some (.p (.v (.int .i64 q739))) := fun xo yo => binD_quo_k h740
      by_cases h742 : (w64 (r735.1 - s1)) < (w64 (s2 - r735.1))
      ·rw [if_pos h742] at h
       have h742' : decide ((w64 (r735.1 - s1)) < (w64 (s2 - r735.1))) = true := decide_eq_true h742
       obtain ⟨r743, h744, h⟩ := bsm h
       have h745 : callD (callW Try.prog A0) A0 [.arr (encL en_Pair r735.2.2)] 45 [.ref 0 0 y0.length 2, iv s1, iv r735.1, iv (w64 (s3 - (1 : Int))), .p (.fn (.func 34) [])] = some (.p (.tup []), some [.arr (encL en_Pair r743)]) := by
           rw [show y0.length = r735.2.2.length from by omega]; exact (callD_put (dsw := [.ref 0 0 r735.2.2.length 2, iv s1, iv r735.1, iv (w64 (s3 - (1 : Int))), .p (.fn (.func 34) [])]) (ds' := [.ref 0 0 r735.2.2.length 2, iv s1, iv r735.1, iv (w64 (s3 - (1 : Int))), .p (.fn (.func 34) [])]) (i := 0) (ids := []) (o := .arr (encL en_Pair r735.2.2)) (os := []) (o' := .arr (encL en_Pair r743)) (os' := []) rfl (by kernel_rfl) (by kernel_rfl) (by kernel_rfl) (by kernel_rfl) (by kernel_rfl) (slices_pdqsortCmpFunc_rcall hrec h744) rfl rfl).trans (by kernel_rfl)
       by_cases hw_ : r743.length = r735.2.2.length
       case neg => rw [if_neg hw_] at h; cases h
       rw [if_pos hw_] at h
       have h746 := hw_
       obtain rfl := Option.some.inj h
       simp (maxSteps := 10000000) (implicitDefEqProofs := false) (disch := first | assumption | omega | exact rfl) only [bs, rs45, ls45_34, Nat.reduceAdd, ↓reduceIte, Int.reduceEq, Int.reduceLE, Int.reduceLT, loadD_pagg a39 z39, hg, ↓h376', ↓h381', h386, h646, h650, ↓h652', ↓h704', h737, h741, ↓h742', h745]
       exact ⟨rfl, by simp only [List.length_set, cpL_len, h647, h651, h738, h746]; kernel_rfl⟩
      ·rw [if_neg h742] at h
       have h742' : decide ((w64 (r735.1 - s1)) < (w64 (s2 - r735.1))) = false := decide_eq_false h742
       obtain ⟨r747, h748, h⟩ := bsm h
       have h749 : callD (callW Try.prog A0) A0 [.arr (encL en_Pair r735.2.2)] 45 [.ref 0 0 y0.length 2, iv (w64 (r735.1 + (1 : Int))), iv s2, iv (w64 (s3 - (1 : Int))), .p (.fn (.func 34) [])] = some (.p (.tup []), some [.arr (encL en_Pair r747)]) := by
           rw [show y0.length = r735.2.2.length from by omega]; exact (callD_put (dsw := [.ref 0 0 r735.2.2.length 2, iv (w64 (r735.1 + (1 : Int))), iv s2, iv (w64 (s3 - (1 : Int))), .p (.fn (.func 34) [])]) (ds' := [.ref 0 0 r735.2.2.length 2, iv (w64 (r735.1 + (1 : Int))), iv s2, iv (w64 (s3 - (1 : Int))), .p (.fn (.func 34) [])]) (i := 0) (ids := []) (o := .arr (encL en_Pair r735.2.2)) (os := []) (o' := .arr (encL en_Pair r747)) (os' := []) rfl (by kernel_rfl) (by kernel_rfl) (by kernel_rfl) (by kernel_rfl) (by kernel_rfl) (slices_pdqsortCmpFunc_rcall hrec h748) rfl rfl).trans (by kernel_rfl)
       by_cases hw_ : r747.length = r735.2.2.length
       case neg => rw [if_neg hw_] at h; cases h
       rw [if_pos hw_] at h
       have h750 := hw_
       obtain rfl := Option.some.inj h
       simp (maxSteps := 10000000) (implicitDefEqProofs := false) (disch := first | assumption | omega | exact rfl) only [bs, rs45, ls45_34, Nat.reduceAdd, ↓reduceIte, Int.reduceEq, Int.reduceLE, Int.reduceLT, loadD_pagg a39 z39, hg, ↓h376', ↓h381', h386, h646, h650, ↓h652', ↓h704', h737, h741, ↓h742', h749]
       exact ⟨rfl, by simp only [List.length_set, cpL_len, h647, h651, h738, h750]; kernel_rfl⟩
theorem f45_34_ok {rec : (List Pair) → Int → Int → Int → Option (List Pair)} (hrec : ∀ x0 x1 x2 x3 r, rec x0 x1 x2 x3 = some r → callW Try.prog A0 45 [.ref 0 0 x0.length 2, iv x1, iv x2, iv x3, .p (.fn (.func 34) [])] [.arr (encL en_Pair x0)] = some (.p (.tup []), [.arr (encL en_Pair r)]))  (x0 : (List Pair)) (x1 : Int) (x2 : Int) (x3 : Int) (r : (List Pair)) (h : slices_pdqsortCmpFunc.body rec similar_Match_c2 x0 x1 x2 x3 = some r) : callW Try.prog A0 45 [.ref 0 0 x0.length 2, iv x1, iv x2, iv x3, .p (.fn (.func 34) [])] [.arr (encL en_Pair x0)] = some (.p (.tup []), [.arr (encL en_Pair r)]) := by
 refine call_ofH (fn := Try.f45) (c := bodyOf Try.f45) rfl rfl (by kernel_rfl) (by kernel_rfl) ?_
 rw [show initS Try.f45 [.ref 0 0 x0.length 2, iv x1, iv x2, iv x3, .p (.fn (.func 34) [])] [.arr (encL en_Pair x0)] = ⟨.ref 0 0 x0.length 2 :: iv x1 :: iv x2 :: iv x3 :: .p (.fn (.func 34) []) :: List.replicate 143 undefD, [.arr (encL en_Pair x0)], 1⟩ from by kernel_rfl]
 unfold slices_pdqsortCmpFunc.body at h
 unfold bodyOf Try.f45; simp only [Option.getD_some, loopsOf, List.append_nil, List.nil_append, List.cons_append, List.getD_cons_zero, List.getD_cons_succ]
 simp only [List.replicate]
 obtain ⟨o, h751, h⟩ := bsm h
 simp (maxSteps := 10000000) (implicitDefEqProofs := false) (disch := first | assumption | omega | exact rfl) only [bs, rs45, ls45_34, Nat.reduceAdd, ↓reduceIte, Int.reduceEq, Int.reduceLE, Int.reduceLT, loadD_pagg a39 z39]
 refine Wp.ctx (fun x => blockW _ (x)) (L45_34_0_ok hrec (x1, x2, x3, true, true, x0) _ o (by kernel_rfl) h751) ?_
 intro e st hq
 cases o with
 | next _ => (first | cases h | (simp at h))
 | jmp n_ s_ => exact hq.2.elim
 | ret r753 =>
  obtain ⟨rfl, hq⟩ := hq
  obtain rfl := Option.some.inj h
  simp (maxSteps := 10000000) (implicitDefEqProofs := false) (disch := first | assumption | omega | exact rfl) only [bs, rs45, ls45_34, Nat.reduceAdd, ↓reduceIte, Int.reduceEq, Int.reduceLE, Int.reduceLT, loadD_pagg a39 z39]
  exact ⟨by first | exact .inl trivial | exact .inr trivial | simp, hq⟩
theorem f45_spec : ∀ (x0 : (List Pair)) (x1 : Int) (x2 : Int) (x3 : Int) r, pdqS similar_Match_c2 x0 x1 x2 x3 = some r → callW Try.prog A0 45 [.ref 0 0 x0.length 2, iv x1, iv x2, iv x3, .p (.fn (.func 34) [])] [.arr (encL en_Pair x0)] = some (.p (.tup []), [.arr (encL en_Pair r)]) := by
  have key : ∀ n (x0 : (List Pair)) (x1 : Int) (x2 : Int) (x3 : Int) r, pdqS_mu x0 x1 x2 x3 < n → pdqS similar_Match_c2 x0 x1 x2 x3 = some r → callW Try.prog A0 45 [.ref 0 0 x0.length 2, iv x1, iv x2, iv x3, .p (.fn (.func 34) [])] [.arr (encL en_Pair x0)] = some (.p (.tup []), [.arr (encL en_Pair r)]) := by
    intro n
    induction n with
    | zero => intro x0 x1 x2 x3 r h; omega
    | succ n ih =>
      intro x0 x1 x2 x3 r hn h
      refine f45_34_ok (rec := fun x0' x1' x2' x3' => if pdqS_mu x0' x1' x2' x3' < pdqS_mu x0 x1 x2 x3 then pdqS similar_Match_c2 x0' x1' x2' x3' else none) ?_ x0 x1 x2 x3 r (pdqS_body similar_Match_c2 x0 x1 x2 x3 r h)
      intro x0' x1' x2' x3' r' h'
      by_cases hm : pdqS_mu x0' x1' x2' x3' < pdqS_mu x0 x1 x2 x3
      · rw [if_pos hm] at h'; exact ih x0' x1' x2' x3' r' (by omega) h'
      · rw [if_neg hm] at h'; cases h'
  intro x0 x1 x2 x3 r h
  exact key _ x0 x1 x2 x3 r (Nat.lt_succ_self _) h
theorem slices_pdqsortCmpFunc_34_call {x0 : (List Pair)} {x1 : Int} {x2 : Int} {x3 : Int} {r : (List Pair)} (h : pdqS similar_Match_c2 x0 x1 x2 x3 = some r) : callW Try.prog A0 45 [.ref 0 0 x0.length 2, iv x1, iv x2, iv x3, .p (.fn (.func 34) [])] [.arr (encL en_Pair x0)] = some (.p (.tup []), [.arr (encL en_Pair r)]) := f45_spec x0 x1 x2 x3 _ h
def ls33_34 := @cv_3_73
theorem f33_34_ok  (x0 : (List Pair)) (r : (List Pair)) (h : slices_SortFunc similar_Match_c2 x0 = some r) : callW Try.prog A0 33 [.ref 0 0 x0.length 2, .p (.fn (.func 34) [])] [.arr (encL en_Pair x0)] = some (.p (.tup []), [.arr (encL en_Pair r)]) := by
 refine call_ofH (fn := Try.f33) (c := bodyOf Try.f33) rfl rfl (by kernel_rfl) (by kernel_rfl) ?_
 rw [show initS Try.f33 [.ref 0 0 x0.length 2, .p (.fn (.func 34) [])] [.arr (encL en_Pair x0)] = ⟨.ref 0 0 x0.length 2 :: .p (.fn (.func 34) []) :: List.replicate 12 undefD, [.arr (encL en_Pair x0)], 1⟩ from by kernel_rfl]
 unfold slices_SortFunc at h
 unfold bodyOf Try.f33; simp only [Option.getD_some, loopsOf, List.append_nil, List.nil_append, List.cons_append, List.getD_cons_zero, List.getD_cons_succ]
 simp only [List.replicate]
 obtain ⟨r1, h2, h⟩ := bsm h
 have h3 : ∀ H, callD (callW Try.prog A0) A0 H 46 [.p (.v (.int .u64 (IntKind.wrap .u64 (x0.length : Int))))] = some (.p (.v (.int .i64 r1)), none) := fun H => math_bits_Len_call h2
 obtain ⟨r4, h5, h⟩ := bsm h
 have h6 : callD (callW Try.prog A0) A0 [.arr (encL en_Pair x0)] 45 [.ref 0 0 x0.length 2, iv (0 : Int), iv (x0.length : Int), iv r1, .p (.fn (.func 34) [])] = some (.p (.tup []), some [.arr (encL en_Pair r4)]) := (callD_put (dsw := [.ref 0 0 x0.length 2, iv (0 : Int), iv (x0.length : Int), iv r1, .p (.fn (.func 34) [])]) (ds' := [.ref 0 0 x0.length 2, iv (0 : Int), iv (x0.length : Int), iv r1, .p (.fn (.func 34) [])]) (i := 0) (ids := []) (o := .arr (encL en_Pair x0)) (os := []) (o' := .arr (encL en_Pair r4)) (os' := []) rfl (by kernel_rfl) (by kernel_rfl) (by kernel_rfl) (by kernel_rfl) (by kernel_rfl) (slices_pdqsortCmpFunc_34_call h5) rfl rfl).trans (by kernel_rfl)
 by_cases hw_ : r4.length = x0.length
 case neg => rw [if_neg hw_] at h; cases h
 rw [if_pos hw_] at h
 have h7 := hw_
 obtain rfl := Option.some.inj h
 simp (maxSteps := 10000000) (implicitDefEqProofs := false) (disch := first | assumption | omega | exact rfl) only [bs, rs33, ls33_34, Nat.reduceAdd, ↓reduceIte, lenD_ref u26, h3, h6]
 refine ⟨by first | exact .inl trivial | exact .inr trivial | simp, ?_⟩
 show _ = _
 kernel_rfl
theorem slices_SortFunc_34_call {x0 : (List Pair)} {r : (List Pair)} (h : slices_SortFunc similar_Match_c2 x0 = some r) : callW Try.prog A0 33 [.ref 0 0 x0.length 2, .p (.fn (.func 34) [])] [.arr (encL en_Pair x0)] = some (.p (.tup []), [.arr (encL en_Pair r)]) := f33_34_ok x0 _ h
end Xn

