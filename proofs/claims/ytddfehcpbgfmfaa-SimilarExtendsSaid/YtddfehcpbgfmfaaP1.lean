/- A part of the proof: P1. No conditions of its own. -/
import Derived.Test.YtddfehcpbgfmfaaP0
namespace Xn
open Go Go.Ev Go.Proofs
set_option linter.unusedSimpArgs false
set_option linter.unusedVariables false
set_option linter.defProp false
set_option maxRecDepth 8000
set_option maxHeartbeats 40000000
def ls55_34 := @idxR_26
noncomputable def L55_4 : Code := (loopsOf (bodyOf Try.f55)).getD 4 .skip
def g55_4 : List Ghost := [.keep [0, 1, 4, 12, 13], .keep [0, 1, 4, 12, 13]]
def F55_34_4 (s1 : Int) (s12 : Int) (y0 : (List Pair)) : Int → St := fun s13 => ⟨[.ref 0 0 y0.length 2, iv s1, .junk, .junk, .p (.fn (.func 34) []), .junk, .junk, .junk, .junk, .junk, .junk, .junk, iv s12, iv s13, .junk, .junk, .junk, .junk, .junk, .junk, .junk, .junk, .junk, .junk, .junk, .junk, .junk, .junk, .junk, .junk, .junk, .junk, .junk, .junk, .junk, .junk, .junk, .junk, .junk, .junk, .junk, .junk, .junk, .junk, .junk, .junk, .junk, .junk, .junk, .junk, .junk, .junk, .junk, .junk, .junk, .junk, .junk, .junk, .junk, .junk, .junk, .junk, .junk, .junk, .junk, .junk, .junk, .junk, .junk, .junk, .junk, .junk, .junk, .junk, .junk, .junk, .junk, .junk, .junk, .junk, .junk, .junk, .junk, .junk, .junk, .junk, .junk, .junk, .junk, .junk, .junk, .junk, .junk, .junk, .junk, .junk, .junk, .junk, .junk, .junk, .junk, .junk, .junk, .junk, .junk, .junk, .junk, .junk, .junk, .junk, .junk, .junk, .junk, .junk, .junk, .junk, .junk, .junk, .junk, .junk, .junk, .junk, .junk, .junk, .junk, .junk, .junk, .junk, .junk, .junk, .junk, .junk, .junk, .junk, .junk, .junk, .junk, .junk, .junk, .junk, .junk, .junk, .junk, .junk, .junk, .junk, .junk, .junk, .junk, .junk, .junk, .junk, .junk, .junk, .junk, .junk, .junk, .junk, .junk, .junk, .junk, .junk, .junk, .junk, .junk, .junk, .junk, .junk, .junk, .junk, .junk, .junk, .junk, .junk, .junk, .junk, .junk, .junk], [.arr (encL en_Pair y0)], 1⟩
theorem L55_34_4_ok (s1 : Int) (s12 : Int) (y0 : (List Pair)) : ∀ s st o, ghostsD g55_4 st = some (F55_34_4 s1 s12 y0 s) → iter (slices_partitionCmpFunc_L4 similar_Match_c2 s1 s12 y0) s = some o →
    Wp (evW Try.prog A0 55 (.loop L55_4) st) (OutQ (F55_34_4 s1 s12 y0) g55_4 (fun n s st => n = 8 ∧ ghostsD [.keep [0, 1, 4, 12, 13]] st = some (F55_34_4 s1 s12 y0 s)) (fun r st => finishD Try.prog A0 55 Try.f55 st = some (.p (.tup [.v (.int .i64 r.1), .v (.bool r.2.1)]), [.arr (encL en_Pair r.2.2)])) o) := by
 refine Wp.iter ?_
 intro s st o hg h
 generalize s = s13 at hg h
 unfold slices_partitionCmpFunc_L4 at h
 unfold g55_4 F55_34_4 at hg ⊢
 (try simp only [] at h hg)
 unfold L55_4 bodyOf Try.f55; simp only [Option.getD_some, loopsOf, List.append_nil, List.nil_append, List.cons_append, List.getD_cons_zero, List.getD_cons_succ]
 by_cases h77 : s12 ≤ s13
 ·rw [if_pos h77] at h
  have h77' : decide (s12 ≤ s13) = true := decide_eq_true h77
  obtain ⟨v78, h79, h⟩ := bsm h
  obtain ⟨h79a, h79b, _⟩ := rd_some h79
  have h80 := lk_arr_39 h79
  obtain ⟨v81, h82, h⟩ := bsm h
  obtain ⟨h82a, h82b, _⟩ := rd_some h82
  have h83 := lk_arr_39 h82
  obtain ⟨r84, h85, h⟩ := bsm h
  have h86 : ∀ H, callD (callW Try.prog A0) A0 H 34 [.p (.agg [.v (.int .i64 v78.Old), .v (.int .i64 v78.New)]), .p (.agg [.v (.int .i64 v81.Old), .v (.int .i64 v81.New)])] = some (.p (.v (.int .i64 r84)), none) := fun H => similar_Match_c2_call h85
  by_cases h87 : r84 < (0 : Int)
  ·rw [if_pos h87] at h
   have h87' : decide (r84 < (0 : Int)) = true := decide_eq_true h87
   obtain rfl := Option.some.inj h
   simp (maxSteps := 10000000) (implicitDefEqProofs := false) (disch := first | assumption | omega | exact rfl) only [bs, rs55, ls55_34, Nat.reduceAdd, ↓reduceIte, loadD_pagg a39 z39, storeD_agg z39, hg, ↓h77', h80, h83, h86, ↓h87']
   exact ⟨rfl, rfl, by kernel_rfl⟩
  ·rw [if_neg h87] at h
   have h87' : decide (r84 < (0 : Int)) = false := decide_eq_false h87
   obtain rfl := Option.some.inj h
   simp (maxSteps := 10000000) (implicitDefEqProofs := false) (disch := first | assumption | omega | exact rfl) only [bs, rs55, ls55_34, Nat.reduceAdd, ↓reduceIte, loadD_pagg a39 z39, storeD_agg z39, hg, ↓h77', h80, h83, h86, ↓h87']
   exact ⟨rfl, by kernel_rfl⟩
 ·rw [if_neg h77] at h
  have h77' : decide (s12 ≤ s13) = false := decide_eq_false h77
  obtain rfl := Option.some.inj h
  simp (maxSteps := 10000000) (implicitDefEqProofs := false) (disch := first | assumption | omega | exact rfl) only [bs, rs55, ls55_34, Nat.reduceAdd, ↓reduceIte, loadD_pagg a39 z39, storeD_agg z39, hg, ↓h77']
  exact ⟨rfl, rfl, by kernel_rfl⟩
noncomputable def L55_3 : Code := (loopsOf (bodyOf Try.f55)).getD 3 .skip
def g55_3 : List Ghost := [.keep [0, 1, 4, 12, 13], .keep [0, 1, 4, 12, 13]]
def F55_34_3 (s1 : Int) (s13 : Int) (y0 : (List Pair)) : Int → St := fun s12 => ⟨[.ref 0 0 y0.length 2, iv s1, .junk, .junk, .p (.fn (.func 34) []), .junk, .junk, .junk, .junk, .junk, .junk, .junk, iv s12, iv s13, .junk, .junk, .junk, .junk, .junk, .junk, .junk, .junk, .junk, .junk, .junk, .junk, .junk, .junk, .junk, .junk, .junk, .junk, .junk, .junk, .junk, .junk, .junk, .junk, .junk, .junk, .junk, .junk, .junk, .junk, .junk, .junk, .junk, .junk, .junk, .junk, .junk, .junk, .junk, .junk, .junk, .junk, .junk, .junk, .junk, .junk, .junk, .junk, .junk, .junk, .junk, .junk, .junk, .junk, .junk, .junk, .junk, .junk, .junk, .junk, .junk, .junk, .junk, .junk, .junk, .junk, .junk, .junk, .junk, .junk, .junk, .junk, .junk, .junk, .junk, .junk, .junk, .junk, .junk, .junk, .junk, .junk, .junk, .junk, .junk, .junk, .junk, .junk, .junk, .junk, .junk, .junk, .junk, .junk, .junk, .junk, .junk, .junk, .junk, .junk, .junk, .junk, .junk, .junk, .junk, .junk, .junk, .junk, .junk, .junk, .junk, .junk, .junk, .junk, .junk, .junk, .junk, .junk, .junk, .junk, .junk, .junk, .junk, .junk, .junk, .junk, .junk, .junk, .junk, .junk, .junk, .junk, .junk, .junk, .junk, .junk, .junk, .junk, .junk, .junk, .junk, .junk, .junk, .junk, .junk, .junk, .junk, .junk, .junk, .junk, .junk, .junk, .junk, .junk, .junk, .junk, .junk, .junk, .junk, .junk, .junk, .junk, .junk, .junk], [.arr (encL en_Pair y0)], 1⟩
theorem L55_34_3_ok (s1 : Int) (s13 : Int) (y0 : (List Pair)) : ∀ s st o, ghostsD g55_3 st = some (F55_34_3 s1 s13 y0 s) → iter (slices_partitionCmpFunc_L3 similar_Match_c2 s1 s13 y0) s = some o →
    Wp (evW Try.prog A0 55 (.loop L55_3) st) (OutQ (F55_34_3 s1 s13 y0) g55_3 (fun n s st => n = 6 ∧ ghostsD [.keep [0, 1, 4, 12, 13]] st = some (F55_34_3 s1 s13 y0 s)) (fun r st => finishD Try.prog A0 55 Try.f55 st = some (.p (.tup [.v (.int .i64 r.1), .v (.bool r.2.1)]), [.arr (encL en_Pair r.2.2)])) o) := by
 refine Wp.iter ?_
 intro s st o hg h
 generalize s = s12 at hg h
 unfold slices_partitionCmpFunc_L3 at h
 unfold g55_3 F55_34_3 at hg ⊢
 (try simp only [] at h hg)
 unfold L55_3 bodyOf Try.f55; simp only [Option.getD_some, loopsOf, List.append_nil, List.nil_append, List.cons_append, List.getD_cons_zero, List.getD_cons_succ]
 by_cases h64 : s12 ≤ s13
 ·rw [if_pos h64] at h
  have h64' : decide (s12 ≤ s13) = true := decide_eq_true h64
  obtain ⟨v65, h66, h⟩ := bsm h
  obtain ⟨h66a, h66b, _⟩ := rd_some h66
  have h67 := lk_arr_39 h66
  obtain ⟨v68, h69, h⟩ := bsm h
  obtain ⟨h69a, h69b, _⟩ := rd_some h69
  have h70 := lk_arr_39 h69
  obtain ⟨r71, h72, h⟩ := bsm h
  have h73 : ∀ H, callD (callW Try.prog A0) A0 H 34 [.p (.agg [.v (.int .i64 v65.Old), .v (.int .i64 v65.New)]), .p (.agg [.v (.int .i64 v68.Old), .v (.int .i64 v68.New)])] = some (.p (.v (.int .i64 r71)), none) := fun H => similar_Match_c2_call h72
  by_cases h74 : r71 < (0 : Int)
  ·rw [if_pos h74] at h
   have h74' : decide (r71 < (0 : Int)) = true := decide_eq_true h74
   obtain rfl := Option.some.inj h
   simp (maxSteps := 10000000) (implicitDefEqProofs := false) (disch := first | assumption | omega | exact rfl) only [bs, rs55, ls55_34, Nat.reduceAdd, ↓reduceIte, loadD_pagg a39 z39, storeD_agg z39, hg, ↓h64', h67, h70, h73, ↓h74']
   exact ⟨rfl, by kernel_rfl⟩
  ·rw [if_neg h74] at h
   have h74' : decide (r71 < (0 : Int)) = false := decide_eq_false h74
   obtain rfl := Option.some.inj h
   simp (maxSteps := 10000000) (implicitDefEqProofs := false) (disch := first | assumption | omega | exact rfl) only [bs, rs55, ls55_34, Nat.reduceAdd, ↓reduceIte, loadD_pagg a39 z39, storeD_agg z39, hg, ↓h64', h67, h70, h73, ↓h74']
   exact ⟨rfl, rfl, by kernel_rfl⟩
 ·rw [if_neg h64] at h
  have h64' : decide (s12 ≤ s13) = false := decide_eq_false h64
  obtain rfl := Option.some.inj h
  simp (maxSteps := 10000000) (implicitDefEqProofs := false) (disch := first | assumption | omega | exact rfl) only [bs, rs55, ls55_34, Nat.reduceAdd, ↓reduceIte, loadD_pagg a39 z39, storeD_agg z39, hg, ↓h64']
  exact ⟨rfl, rfl, by kernel_rfl⟩
noncomputable def L55_2 : Code := (loopsOf (bodyOf Try.f55)).getD 2 .skip
def g55_2 : List Ghost := [.keep [0, 1, 4, 12, 13]]
def F55_34_2 (s1 : Int) : (Int × Int × (List Pair)) → St := fun (s12, s13, y0) => ⟨[.ref 0 0 y0.length 2, iv s1, .junk, .junk, .p (.fn (.func 34) []), .junk, .junk, .junk, .junk, .junk, .junk, .junk, iv s12, iv s13, .junk, .junk, .junk, .junk, .junk, .junk, .junk, .junk, .junk, .junk, .junk, .junk, .junk, .junk, .junk, .junk, .junk, .junk, .junk, .junk, .junk, .junk, .junk, .junk, .junk, .junk, .junk, .junk, .junk, .junk, .junk, .junk, .junk, .junk, .junk, .junk, .junk, .junk, .junk, .junk, .junk, .junk, .junk, .junk, .junk, .junk, .junk, .junk, .junk, .junk, .junk, .junk, .junk, .junk, .junk, .junk, .junk, .junk, .junk, .junk, .junk, .junk, .junk, .junk, .junk, .junk, .junk, .junk, .junk, .junk, .junk, .junk, .junk, .junk, .junk, .junk, .junk, .junk, .junk, .junk, .junk, .junk, .junk, .junk, .junk, .junk, .junk, .junk, .junk, .junk, .junk, .junk, .junk, .junk, .junk, .junk, .junk, .junk, .junk, .junk, .junk, .junk, .junk, .junk, .junk, .junk, .junk, .junk, .junk, .junk, .junk, .junk, .junk, .junk, .junk, .junk, .junk, .junk, .junk, .junk, .junk, .junk, .junk, .junk, .junk, .junk, .junk, .junk, .junk, .junk, .junk, .junk, .junk, .junk, .junk, .junk, .junk, .junk, .junk, .junk, .junk, .junk, .junk, .junk, .junk, .junk, .junk, .junk, .junk, .junk, .junk, .junk, .junk, .junk, .junk, .junk, .junk, .junk, .junk, .junk, .junk, .junk, .junk, .junk], [.arr (encL en_Pair y0)], 1⟩
theorem L55_34_2_ok (s1 : Int) : ∀ s st o, ghostsD g55_2 st = some (F55_34_2 s1 s) → iter (slices_partitionCmpFunc_L2 similar_Match_c2 s1) s = some o →
    Wp (evW Try.prog A0 55 (.loop L55_2) st) (OutQ (F55_34_2 s1) g55_2 (fun n s st => n = 4 ∧ ghostsD [.keep [0, 1, 4, 12, 13]] st = some (F55_34_2 s1 s)) (fun r st => finishD Try.prog A0 55 Try.f55 st = some (.p (.tup [.v (.int .i64 r.1), .v (.bool r.2.1)]), [.arr (encL en_Pair r.2.2)])) o) := by
 refine Wp.iter ?_
 intro s st o hg h
 obtain ⟨s12, s13, y0⟩ := s
 unfold slices_partitionCmpFunc_L2 at h
 unfold g55_2 F55_34_2 at hg ⊢
 (try simp only [] at h hg)
 unfold L55_2 bodyOf Try.f55; simp only [Option.getD_some, loopsOf, List.append_nil, List.nil_append, List.cons_append, List.getD_cons_zero, List.getD_cons_succ]
 obtain ⟨o, h75, h⟩ := bsm h
 simp (maxSteps := 10000000) (implicitDefEqProofs := false) (disch := first | assumption | omega | exact rfl) only [bs, rs55, ls55_34, Nat.reduceAdd, ↓reduceIte, loadD_pagg a39 z39, storeD_agg z39, hg]
 refine Wp.ctx (fun x => blockW _ (seqW _ _ _ _ (blockW _ (x)))) (L55_34_3_ok s1 s13 y0 s12 _ o (show ghostsD g55_3 _ = some _ from ghosts_app (a := [.keep [0, 1, 4, 12, 13]]) (b := [.keep [0, 1, 4, 12, 13]]) hg (by kernel_rfl)) h75) ?_
 intro e st hq
 cases o with
 | next _ => (first | cases h | (simp at h))
 | jmp n_ s_ =>
  obtain ⟨rfl, rfl, hq⟩ := hq
  generalize s_ = s12_76 at h hq
  unfold F55_34_3 at hq
  (try simp only [] at h hq)
  obtain ⟨o, h88, h⟩ := bsm h
  simp (maxSteps := 10000000) (implicitDefEqProofs := false) (disch := first | assumption | omega | exact rfl) only [bs, rs55, ls55_34, Nat.reduceAdd, ↓reduceIte, loadD_pagg a39 z39, storeD_agg z39, hg, hq]
  refine Wp.ctx (fun x => blockW _ (seqW _ _ _ _ (blockW _ (x)))) (L55_34_4_ok s1 s12_76 y0 s13 _ o (show ghostsD g55_4 _ = some _ from ghosts_app (a := [.keep [0, 1, 4, 12, 13]]) (b := [.keep [0, 1, 4, 12, 13]]) hq (by kernel_rfl)) h88) ?_
  intro e st hq
  cases o with
  | next _ => (first | cases h | (simp at h))
  | jmp n_ s_ =>
   obtain ⟨rfl, rfl, hq⟩ := hq
   generalize s_ = s13_89 at h hq
   unfold F55_34_4 at hq
   (try simp only [] at h hq)
   by_cases h90 : s13_89 < s12_76
   ·rw [if_pos h90] at h
    have h90' : decide (s13_89 < s12_76) = true := decide_eq_true h90
    obtain rfl := Option.some.inj h
    simp (maxSteps := 10000000) (implicitDefEqProofs := false) (disch := first | assumption | omega | exact rfl) only [bs, rs55, ls55_34, Nat.reduceAdd, ↓reduceIte, loadD_pagg a39 z39, storeD_agg z39, hg, hq, hq, ↓h90']
    exact ⟨rfl, rfl, by kernel_rfl⟩
   ·rw [if_neg h90] at h
    have h90' : decide (s13_89 < s12_76) = false := decide_eq_false h90
    obtain ⟨v91, h92, h⟩ := bsm h
    obtain ⟨h92a, h92b, _⟩ := rd_some h92
    have h93 := lk_arr_39 h92
    obtain ⟨v94, h95, h⟩ := bsm h
    obtain ⟨h95a, h95b, _⟩ := rd_some h95
    have h96 := lk_arr_39 h95
    have h97 : ∀ (H : List Ob) (id : Nat), staOb H id (s12_76.toNat * 2) 2 [.v (.int .i64 v91.Old), .v (.int .i64 v91.New)] (some (.arr (encL en_Pair y0))) = some (H.set id (.arr (encL en_Pair (y0.set s12_76.toNat v91)))) := fun H id => by
        have := sta_arr (H := H) (id := id) (v := v91) en_Pair_len h95a h95b
        rw [en_Pair_eq] at this
        exact this
    have h98 : (y0.set s12_76.toNat v91).length = y0.length := List.length_set
    obtain ⟨v99, h100, h⟩ := bsm h
    obtain ⟨h100a, h100b, _⟩ := rd_some h100
    have h101 : ∀ (H : List Ob) (id : Nat), staOb H id (s13_89.toNat * 2) 2 [.v (.int .i64 v94.Old), .v (.int .i64 v94.New)] (some (.arr (encL en_Pair (y0.set s12_76.toNat v91)))) = some (H.set id (.arr (encL en_Pair ((y0.set s12_76.toNat v91).set s13_89.toNat v94)))) := fun H id => by
        have := sta_arr (H := H) (id := id) (v := v94) en_Pair_len h100a h100b
        rw [en_Pair_eq] at this
        exact this
    have h102 : ((y0.set s12_76.toNat v91).set s13_89.toNat v94).length = (y0.set s12_76.toNat v91).length := List.length_set
    obtain rfl := Option.some.inj h
    simp (maxSteps := 10000000) (implicitDefEqProofs := false) (disch := first | assumption | omega | exact rfl) only [bs, rs55, ls55_34, Nat.reduceAdd, ↓reduceIte, loadD_pagg a39 z39, storeD_agg z39, hg, hq, hq, ↓h90', h93, h96, h97, h101]
    exact ⟨rfl, by simp only [List.length_set, cpL_len]; kernel_rfl⟩
  | ret _ => (first | cases h | (simp at h))
 | ret _ => (first | cases h | (simp at h))
noncomputable def L55_1 : Code := (loopsOf (bodyOf Try.f55)).getD 1 .skip
def g55_1 : List Ghost := [.keep [0, 1, 4, 12, 13], .keep [0, 1, 4, 12, 13]]
def F55_34_1 (s1 : Int) (s12 : Int) (y0 : (List Pair)) : Int → St := fun s13 => ⟨[.ref 0 0 y0.length 2, iv s1, .junk, .junk, .p (.fn (.func 34) []), .junk, .junk, .junk, .junk, .junk, .junk, .junk, iv s12, iv s13, .junk, .junk, .junk, .junk, .junk, .junk, .junk, .junk, .junk, .junk, .junk, .junk, .junk, .junk, .junk, .junk, .junk, .junk, .junk, .junk, .junk, .junk, .junk, .junk, .junk, .junk, .junk, .junk, .junk, .junk, .junk, .junk, .junk, .junk, .junk, .junk, .junk, .junk, .junk, .junk, .junk, .junk, .junk, .junk, .junk, .junk, .junk, .junk, .junk, .junk, .junk, .junk, .junk, .junk, .junk, .junk, .junk, .junk, .junk, .junk, .junk, .junk, .junk, .junk, .junk, .junk, .junk, .junk, .junk, .junk, .junk, .junk, .junk, .junk, .junk, .junk, .junk, .junk, .junk, .junk, .junk, .junk, .junk, .junk, .junk, .junk, .junk, .junk, .junk, .junk, .junk, .junk, .junk, .junk, .junk, .junk, .junk, .junk, .junk, .junk, .junk, .junk, .junk, .junk, .junk, .junk, .junk, .junk, .junk, .junk, .junk, .junk, .junk, .junk, .junk, .junk, .junk, .junk, .junk, .junk, .junk, .junk, .junk, .junk, .junk, .junk, .junk, .junk, .junk, .junk, .junk, .junk, .junk, .junk, .junk, .junk, .junk, .junk, .junk, .junk, .junk, .junk, .junk, .junk, .junk, .junk, .junk, .junk, .junk, .junk, .junk, .junk, .junk, .junk, .junk, .junk, .junk, .junk, .junk, .junk, .junk, .junk, .junk, .junk], [.arr (encL en_Pair y0)], 1⟩
theorem L55_34_1_ok (s1 : Int) (s12 : Int) (y0 : (List Pair)) : ∀ s st o, ghostsD g55_1 st = some (F55_34_1 s1 s12 y0 s) → iter (slices_partitionCmpFunc_L1 similar_Match_c2 s1 s12 y0) s = some o →
    Wp (evW Try.prog A0 55 (.loop L55_1) st) (OutQ (F55_34_1 s1 s12 y0) g55_1 (fun n s st => n = 2 ∧ ghostsD [.keep [0, 1, 4, 12, 13]] st = some (F55_34_1 s1 s12 y0 s)) (fun r st => finishD Try.prog A0 55 Try.f55 st = some (.p (.tup [.v (.int .i64 r.1), .v (.bool r.2.1)]), [.arr (encL en_Pair r.2.2)])) o) := by
 refine Wp.iter ?_
 intro s st o hg h
 generalize s = s13 at hg h
 unfold slices_partitionCmpFunc_L1 at h
 unfold g55_1 F55_34_1 at hg ⊢
 (try simp only [] at h hg)
 unfold L55_1 bodyOf Try.f55; simp only [Option.getD_some, loopsOf, List.append_nil, List.nil_append, List.cons_append, List.getD_cons_zero, List.getD_cons_succ]
 by_cases h26 : s12 ≤ s13
 ·rw [if_pos h26] at h
  have h26' : decide (s12 ≤ s13) = true := decide_eq_true h26
  obtain ⟨v27, h28, h⟩ := bsm h
  obtain ⟨h28a, h28b, _⟩ := rd_some h28
  have h29 := lk_arr_39 h28
  obtain ⟨v30, h31, h⟩ := bsm h
  obtain ⟨h31a, h31b, _⟩ := rd_some h31
  have h32 := lk_arr_39 h31
  obtain ⟨r33, h34, h⟩ := bsm h
  have h35 : ∀ H, callD (callW Try.prog A0) A0 H 34 [.p (.agg [.v (.int .i64 v27.Old), .v (.int .i64 v27.New)]), .p (.agg [.v (.int .i64 v30.Old), .v (.int .i64 v30.New)])] = some (.p (.v (.int .i64 r33)), none) := fun H => similar_Match_c2_call h34
  by_cases h36 : r33 < (0 : Int)
  ·rw [if_pos h36] at h
   have h36' : decide (r33 < (0 : Int)) = true := decide_eq_true h36
   obtain rfl := Option.some.inj h
   simp (maxSteps := 10000000) (implicitDefEqProofs := false) (disch := first | assumption | omega | exact rfl) only [bs, rs55, ls55_34, Nat.reduceAdd, ↓reduceIte, loadD_pagg a39 z39, storeD_agg z39, hg, ↓h26', h29, h32, h35, ↓h36']
   exact ⟨rfl, rfl, by kernel_rfl⟩
  ·rw [if_neg h36] at h
   have h36' : decide (r33 < (0 : Int)) = false := decide_eq_false h36
   obtain rfl := Option.some.inj h
   simp (maxSteps := 10000000) (implicitDefEqProofs := false) (disch := first | assumption | omega | exact rfl) only [bs, rs55, ls55_34, Nat.reduceAdd, ↓reduceIte, loadD_pagg a39 z39, storeD_agg z39, hg, ↓h26', h29, h32, h35, ↓h36']
   exact ⟨rfl, by kernel_rfl⟩
 ·rw [if_neg h26] at h
  have h26' : decide (s12 ≤ s13) = false := decide_eq_false h26
  obtain rfl := Option.some.inj h
  simp (maxSteps := 10000000) (implicitDefEqProofs := false) (disch := first | assumption | omega | exact rfl) only [bs, rs55, ls55_34, Nat.reduceAdd, ↓reduceIte, loadD_pagg a39 z39, storeD_agg z39, hg, ↓h26']
  exact ⟨rfl, rfl, by kernel_rfl⟩
noncomputable def L55_0 : Code := (loopsOf (bodyOf Try.f55)).getD 0 .skip
def g55_0 : List Ghost := [.keep [0, 1, 4, 12, 13]]
def F55_34_0 (s1 : Int) (s13 : Int) (y0 : (List Pair)) : Int → St := fun s12 => ⟨[.ref 0 0 y0.length 2, iv s1, .junk, .junk, .p (.fn (.func 34) []), .junk, .junk, .junk, .junk, .junk, .junk, .junk, iv s12, iv s13, .junk, .junk, .junk, .junk, .junk, .junk, .junk, .junk, .junk, .junk, .junk, .junk, .junk, .junk, .junk, .junk, .junk, .junk, .junk, .junk, .junk, .junk, .junk, .junk, .junk, .junk, .junk, .junk, .junk, .junk, .junk, .junk, .junk, .junk, .junk, .junk, .junk, .junk, .junk, .junk, .junk, .junk, .junk, .junk, .junk, .junk, .junk, .junk, .junk, .junk, .junk, .junk, .junk, .junk, .junk, .junk, .junk, .junk, .junk, .junk, .junk, .junk, .junk, .junk, .junk, .junk, .junk, .junk, .junk, .junk, .junk, .junk, .junk, .junk, .junk, .junk, .junk, .junk, .junk, .junk, .junk, .junk, .junk, .junk, .junk, .junk, .junk, .junk, .junk, .junk, .junk, .junk, .junk, .junk, .junk, .junk, .junk, .junk, .junk, .junk, .junk, .junk, .junk, .junk, .junk, .junk, .junk, .junk, .junk, .junk, .junk, .junk, .junk, .junk, .junk, .junk, .junk, .junk, .junk, .junk, .junk, .junk, .junk, .junk, .junk, .junk, .junk, .junk, .junk, .junk, .junk, .junk, .junk, .junk, .junk, .junk, .junk, .junk, .junk, .junk, .junk, .junk, .junk, .junk, .junk, .junk, .junk, .junk, .junk, .junk, .junk, .junk, .junk, .junk, .junk, .junk, .junk, .junk, .junk, .junk, .junk, .junk, .junk, .junk], [.arr (encL en_Pair y0)], 1⟩
theorem L55_34_0_ok (s1 : Int) (s13 : Int) (y0 : (List Pair)) : ∀ s st o, ghostsD g55_0 st = some (F55_34_0 s1 s13 y0 s) → iter (slices_partitionCmpFunc_L0 similar_Match_c2 s1 s13 y0) s = some o →
    Wp (evW Try.prog A0 55 (.loop L55_0) st) (OutQ (F55_34_0 s1 s13 y0) g55_0 (fun n s st => n = 0 ∧ ghostsD [.keep [0, 1, 4, 12, 13]] st = some (F55_34_0 s1 s13 y0 s)) (fun r st => finishD Try.prog A0 55 Try.f55 st = some (.p (.tup [.v (.int .i64 r.1), .v (.bool r.2.1)]), [.arr (encL en_Pair r.2.2)])) o) := by
 refine Wp.iter ?_
 intro s st o hg h
 generalize s = s12 at hg h
 unfold slices_partitionCmpFunc_L0 at h
 unfold g55_0 F55_34_0 at hg ⊢
 (try simp only [] at h hg)
 unfold L55_0 bodyOf Try.f55; simp only [Option.getD_some, loopsOf, List.append_nil, List.nil_append, List.cons_append, List.getD_cons_zero, List.getD_cons_succ]
 by_cases h13 : s12 ≤ s13
 ·rw [if_pos h13] at h
  have h13' : decide (s12 ≤ s13) = true := decide_eq_true h13
  obtain ⟨v14, h15, h⟩ := bsm h
  obtain ⟨h15a, h15b, _⟩ := rd_some h15
  have h16 := lk_arr_39 h15
  obtain ⟨v17, h18, h⟩ := bsm h
  obtain ⟨h18a, h18b, _⟩ := rd_some h18
  have h19 := lk_arr_39 h18
  obtain ⟨r20, h21, h⟩ := bsm h
  have h22 : ∀ H, callD (callW Try.prog A0) A0 H 34 [.p (.agg [.v (.int .i64 v14.Old), .v (.int .i64 v14.New)]), .p (.agg [.v (.int .i64 v17.Old), .v (.int .i64 v17.New)])] = some (.p (.v (.int .i64 r20)), none) := fun H => similar_Match_c2_call h21
  by_cases h23 : r20 < (0 : Int)
  ·rw [if_pos h23] at h
   have h23' : decide (r20 < (0 : Int)) = true := decide_eq_true h23
   obtain rfl := Option.some.inj h
   simp (maxSteps := 10000000) (implicitDefEqProofs := false) (disch := first | assumption | omega | exact rfl) only [bs, rs55, ls55_34, Nat.reduceAdd, ↓reduceIte, loadD_pagg a39 z39, storeD_agg z39, hg, ↓h13', h16, h19, h22, ↓h23']
   exact ⟨rfl, by kernel_rfl⟩
  ·rw [if_neg h23] at h
   have h23' : decide (r20 < (0 : Int)) = false := decide_eq_false h23
   obtain rfl := Option.some.inj h
   simp (maxSteps := 10000000) (implicitDefEqProofs := false) (disch := first | assumption | omega | exact rfl) only [bs, rs55, ls55_34, Nat.reduceAdd, ↓reduceIte, loadD_pagg a39 z39, storeD_agg z39, hg, ↓h13', h16, h19, h22, ↓h23']
   exact ⟨rfl, rfl, by kernel_rfl⟩
 ·rw [if_neg h13] at h
  have h13' : decide (s12 ≤ s13) = false := decide_eq_false h13
  obtain rfl := Option.some.inj h
  simp (maxSteps := 10000000) (implicitDefEqProofs := false) (disch := first | assumption | omega | exact rfl) only [bs, rs55, ls55_34, Nat.reduceAdd, ↓reduceIte, loadD_pagg a39 z39, storeD_agg z39, hg, ↓h13']
  exact ⟨rfl, rfl, by kernel_rfl⟩
theorem f55_34_ok  (x0 : (List Pair)) (x1 : Int) (x2 : Int) (x3 : Int) (r : (Int × Bool × (List Pair))) (h : slices_partitionCmpFunc similar_Match_c2 x0 x1 x2 x3 = some r) : callW Try.prog A0 55 [.ref 0 0 x0.length 2, iv x1, iv x2, iv x3, .p (.fn (.func 34) [])] [.arr (encL en_Pair x0)] = some (.p (.tup [.v (.int .i64 r.1), .v (.bool r.2.1)]), [.arr (encL en_Pair r.2.2)]) := by
 refine call_ofH (fn := Try.f55) (c := bodyOf Try.f55) rfl rfl (by kernel_rfl) (by kernel_rfl) ?_
 rw [show initS Try.f55 [.ref 0 0 x0.length 2, iv x1, iv x2, iv x3, .p (.fn (.func 34) [])] [.arr (encL en_Pair x0)] = ⟨.ref 0 0 x0.length 2 :: iv x1 :: iv x2 :: iv x3 :: .p (.fn (.func 34) []) :: List.replicate 173 undefD, [.arr (encL en_Pair x0)], 1⟩ from by kernel_rfl]
 unfold slices_partitionCmpFunc at h
 unfold bodyOf Try.f55; simp only [Option.getD_some, loopsOf, List.append_nil, List.nil_append, List.cons_append, List.getD_cons_zero, List.getD_cons_succ]
 simp only [List.replicate]
 obtain ⟨v1, h2, h⟩ := bsm h
 obtain ⟨h2a, h2b, _⟩ := rd_some h2
 have h3 := lk_arr_39 h2
 obtain ⟨v4, h5, h⟩ := bsm h
 obtain ⟨h5a, h5b, _⟩ := rd_some h5
 have h6 := lk_arr_39 h5
 have h7 : ∀ (H : List Ob) (id : Nat), staOb H id (x1.toNat * 2) 2 [.v (.int .i64 v1.Old), .v (.int .i64 v1.New)] (some (.arr (encL en_Pair x0))) = some (H.set id (.arr (encL en_Pair (x0.set x1.toNat v1)))) := fun H id => by
     have := sta_arr (H := H) (id := id) (v := v1) en_Pair_len h5a h5b
     rw [en_Pair_eq] at this
     exact this
 have h8 : (x0.set x1.toNat v1).length = x0.length := List.length_set
 obtain ⟨v9, h10, h⟩ := bsm h
 obtain ⟨h10a, h10b, _⟩ := rd_some h10
 have h11 : ∀ (H : List Ob) (id : Nat), staOb H id (x3.toNat * 2) 2 [.v (.int .i64 v4.Old), .v (.int .i64 v4.New)] (some (.arr (encL en_Pair (x0.set x1.toNat v1)))) = some (H.set id (.arr (encL en_Pair ((x0.set x1.toNat v1).set x3.toNat v4)))) := fun H id => by
     have := sta_arr (H := H) (id := id) (v := v4) en_Pair_len h10a h10b
     rw [en_Pair_eq] at this
     exact this
 have h12 : ((x0.set x1.toNat v1).set x3.toNat v4).length = (x0.set x1.toNat v1).length := List.length_set
 obtain ⟨o, h24, h⟩ := bsm h
 simp (maxSteps := 10000000) (implicitDefEqProofs := false) (disch := first | assumption | omega | exact rfl) only [bs, rs55, ls55_34, Nat.reduceAdd, ↓reduceIte, loadD_pagg a39 z39, storeD_agg z39, h3, h6, h7, h11]
 refine Wp.ctx (fun x => seqW _ _ _ _ (blockW _ (x))) (L55_34_0_ok x1 (w64 (x2 - (1 : Int))) ((x0.set x1.toNat v1).set x3.toNat v4) (w64 (x1 + (1 : Int))) _ o (by unfold F55_34_0; simp only [List.length_set, cpL_len]; kernel_rfl) h24) ?_
 intro e st hq
 cases o with
 | next _ => (first | cases h | (simp at h))
 | jmp n_ s_ =>
  obtain ⟨rfl, rfl, hq⟩ := hq
  generalize s_ = s12_25 at h hq
  unfold F55_34_0 at hq
  (try simp only [] at h hq)
  obtain ⟨o, h37, h⟩ := bsm h
  simp (maxSteps := 10000000) (implicitDefEqProofs := false) (disch := first | assumption | omega | exact rfl) only [bs, rs55, ls55_34, Nat.reduceAdd, ↓reduceIte, loadD_pagg a39 z39, storeD_agg z39, h3, h6, h7, h11, hq]
  refine Wp.ctx (fun x => seqW _ _ _ _ (blockW _ (x))) (L55_34_1_ok x1 s12_25 ((x0.set x1.toNat v1).set x3.toNat v4) (w64 (x2 - (1 : Int))) _ o (show ghostsD g55_1 _ = some _ from ghosts_app (a := [.keep [0, 1, 4, 12, 13]]) (b := [.keep [0, 1, 4, 12, 13]]) hq (by kernel_rfl)) h37) ?_
  intro e st hq
  cases o with
  | next _ => (first | cases h | (simp at h))
  | jmp n_ s_ =>
   obtain ⟨rfl, rfl, hq⟩ := hq
   generalize s_ = s13_38 at h hq
   unfold F55_34_1 at hq
   (try simp only [] at h hq)
   by_cases h39 : s13_38 < s12_25
   ·rw [if_pos h39] at h
    have h39' : decide (s13_38 < s12_25) = true := decide_eq_true h39
    obtain ⟨v40, h41, h⟩ := bsm h
    obtain ⟨h41a, h41b, _⟩ := rd_some h41
    have h42 := lk_arr_39 h41
    obtain ⟨v43, h44, h⟩ := bsm h
    obtain ⟨h44a, h44b, _⟩ := rd_some h44
    have h45 := lk_arr_39 h44
    have h46 : ∀ (H : List Ob) (id : Nat), staOb H id (s13_38.toNat * 2) 2 [.v (.int .i64 v40.Old), .v (.int .i64 v40.New)] (some (.arr (encL en_Pair ((x0.set x1.toNat v1).set x3.toNat v4)))) = some (H.set id (.arr (encL en_Pair (((x0.set x1.toNat v1).set x3.toNat v4).set s13_38.toNat v40)))) := fun H id => by
        have := sta_arr (H := H) (id := id) (v := v40) en_Pair_len h44a h44b
        rw [en_Pair_eq] at this
        exact this
    have h47 : (((x0.set x1.toNat v1).set x3.toNat v4).set s13_38.toNat v40).length = ((x0.set x1.toNat v1).set x3.toNat v4).length := List.length_set
    obtain ⟨v48, h49, h⟩ := bsm h
    obtain ⟨h49a, h49b, _⟩ := rd_some h49
    have h50 : ∀ (H : List Ob) (id : Nat), staOb H id (x1.toNat * 2) 2 [.v (.int .i64 v43.Old), .v (.int .i64 v43.New)] (some (.arr (encL en_Pair (((x0.set x1.toNat v1).set x3.toNat v4).set s13_38.toNat v40)))) = some (H.set id (.arr (encL en_Pair ((((x0.set x1.toNat v1).set x3.toNat v4).set s13_38.toNat v40).set x1.toNat v43)))) := fun H id => by
        have := sta_arr (H := H) (id := id) (v := v43) en_Pair_len h49a h49b
        rw [en_Pair_eq] at this
        exact this
    have h51 : ((((x0.set x1.toNat v1).set x3.toNat v4).set s13_38.toNat v40).set x1.toNat v43).length = (((x0.set x1.toNat v1).set x3.toNat v4).set s13_38.toNat v40).length := List.length_set
    obtain rfl := Option.some.inj h
    simp (maxSteps := 10000000) (implicitDefEqProofs := false) (disch := first | assumption | omega | exact rfl) only [bs, rs55, ls55_34, Nat.reduceAdd, ↓reduceIte, loadD_pagg a39 z39, storeD_agg z39, h3, h6, h7, h11, hq, hq, ↓h39', h42, h45, h46, h50]
    refine ⟨by first | exact .inl trivial | exact .inr trivial | simp, ?_⟩
    show _ = _
    kernel_rfl
   ·rw [if_neg h39] at h
    have h39' : decide (s13_38 < s12_25) = false := decide_eq_false h39
    obtain ⟨v52, h53, h⟩ := bsm h
    obtain ⟨h53a, h53b, _⟩ := rd_some h53
    have h54 := lk_arr_39 h53
    obtain ⟨v55, h56, h⟩ := bsm h
    obtain ⟨h56a, h56b, _⟩ := rd_some h56
    have h57 := lk_arr_39 h56
    have h58 : ∀ (H : List Ob) (id : Nat), staOb H id (s12_25.toNat * 2) 2 [.v (.int .i64 v52.Old), .v (.int .i64 v52.New)] (some (.arr (encL en_Pair ((x0.set x1.toNat v1).set x3.toNat v4)))) = some (H.set id (.arr (encL en_Pair (((x0.set x1.toNat v1).set x3.toNat v4).set s12_25.toNat v52)))) := fun H id => by
        have := sta_arr (H := H) (id := id) (v := v52) en_Pair_len h56a h56b
        rw [en_Pair_eq] at this
        exact this
    have h59 : (((x0.set x1.toNat v1).set x3.toNat v4).set s12_25.toNat v52).length = ((x0.set x1.toNat v1).set x3.toNat v4).length := List.length_set
    obtain ⟨v60, h61, h⟩ := bsm h
    obtain ⟨h61a, h61b, _⟩ := rd_some h61
    have h62 : ∀ (H : List Ob) (id : Nat), staOb H id (s13_38.toNat * 2) 2 [.v (.int .i64 v55.Old), .v (.int .i64 v55.New)] (some (.arr (encL en_Pair (((x0.set x1.toNat v1).set x3.toNat v4).set s12_25.toNat v52)))) = some (H.set id (.arr (encL en_Pair ((((x0.set x1.toNat v1).set x3.toNat v4).set s12_25.toNat v52).set s13_38.toNat v55)))) := fun H id => by
        have := sta_arr (H := H) (id := id) (v := v55) en_Pair_len h61a h61b
        rw [en_Pair_eq] at this
        exact this
    have h63 : ((((x0.set x1.toNat v1).set x3.toNat v4).set s12_25.toNat v52).set s13_38.toNat v55).length = (((x0.set x1.toNat v1).set x3.toNat v4).set s12_25.toNat v52).length := List.length_set
    obtain ⟨o, h103, h⟩ := bsm h
    simp (maxSteps := 10000000) (implicitDefEqProofs := false) (disch := first | assumption | omega | exact rfl) only [bs, rs55, ls55_34, Nat.reduceAdd, ↓reduceIte, loadD_pagg a39 z39, storeD_agg z39, h3, h6, h7, h11, hq, hq, ↓h39', h54, h57, h58, h62]
    refine Wp.ctx (fun x => seqW _ _ _ _ (blockW _ (x))) (L55_34_2_ok x1 (w64 (s12_25 + (1 : Int)), w64 (s13_38 - (1 : Int)), ((((x0.set x1.toNat v1).set x3.toNat v4).set s12_25.toNat v52).set s13_38.toNat v55)) _ o (by unfold F55_34_2; simp only [List.length_set, cpL_len]; kernel_rfl) h103) ?_
    intro e st hq
    cases o with
    | next _ => (first | cases h | (simp at h))
    | jmp n_ s_ =>
     obtain ⟨rfl, rfl, hq⟩ := hq
     obtain ⟨s12_104, s13_104, y0_104⟩ := s_
     unfold F55_34_2 at hq
     (try simp only [] at h hq)
     obtain ⟨v105, h106, h⟩ := bsm h
     obtain ⟨h106a, h106b, _⟩ := rd_some h106
     have h107 := lk_arr_39 h106
     obtain ⟨v108, h109, h⟩ := bsm h
     obtain ⟨h109a, h109b, _⟩ := rd_some h109
     have h110 := lk_arr_39 h109
     have h111 : ∀ (H : List Ob) (id : Nat), staOb H id (s13_104.toNat * 2) 2 [.v (.int .i64 v105.Old), .v (.int .i64 v105.New)] (some (.arr (encL en_Pair y0_104))) = some (H.set id (.arr (encL en_Pair (y0_104.set s13_104.toNat v105)))) := fun H id => by
         have := sta_arr (H := H) (id := id) (v := v105) en_Pair_len h109a h109b
         rw [en_Pair_eq] at this
         exact this
     have h112 : (y0_104.set s13_104.toNat v105).length = y0_104.length := List.length_set
     obtain ⟨v113, h114, h⟩ := bsm h
     obtain ⟨h114a, h114b, _⟩ := rd_some h114
     have h115 : ∀ (H : List Ob) (id : Nat), staOb H id (x1.toNat * 2) 2 [.v (.int .i64 v108.Old), .v (.int .i64 v108.New)] (some (.arr (encL en_Pair (y0_104.set s13_104.toNat v105)))) = some (H.set id (.arr (encL en_Pair ((y0_104.set s13_104.toNat v105).set x1.toNat v108)))) := fun H id => by
         have := sta_arr (H := H) (id := id) (v := v108) en_Pair_len h114a h114b
         rw [en_Pair_eq] at this
         exact this
     have h116 : ((y0_104.set s13_104.toNat v105).set x1.toNat v108).length = (y0_104.set s13_104.toNat v105).length := List.length_set
     obtain rfl := Option.some.inj h
     simp (maxSteps := 10000000) (implicitDefEqProofs := false) (disch := first | assumption | omega | exact rfl) only [bs, rs55, ls55_34, Nat.reduceAdd, ↓reduceIte, loadD_pagg a39 z39, storeD_agg z39, h3, h6, h7, h11, hq, hq, ↓h39', h54, h57, h58, h62, hq, h107, h110, h111, h115]
     refine ⟨by first | exact .inl trivial | exact .inr trivial | simp, ?_⟩
     show _ = _
     kernel_rfl
    | ret _ => (first | cases h | (simp at h))
  | ret _ => (first | cases h | (simp at h))
 | ret _ => (first | cases h | (simp at h))
theorem slices_partitionCmpFunc_34_call {x0 : (List Pair)} {x1 : Int} {x2 : Int} {x3 : Int} {r : (Int × Bool × (List Pair))} (h : slices_partitionCmpFunc similar_Match_c2 x0 x1 x2 x3 = some r) : callW Try.prog A0 55 [.ref 0 0 x0.length 2, iv x1, iv x2, iv x3, .p (.fn (.func 34) [])] [.arr (encL en_Pair x0)] = some (.p (.tup [.v (.int .i64 r.1), .v (.bool r.2.1)]), [.arr (encL en_Pair r.2.2)]) := f55_34_ok x0 x1 x2 x3 _ h
def ls54_34 := @idxR_26
noncomputable def L54_2 : Code := (loopsOf (bodyOf Try.f54)).getD 2 .skip
def g54_2 : List Ghost := [.keep [0, 1, 4, 11, 12], .keep [0, 1, 4, 11, 12]]
def F54_34_2 (s1 : Int) (s11 : Int) (y0 : (List Pair)) : Int → St := fun s12 => ⟨[.ref 0 0 y0.length 2, iv s1, .junk, .junk, .p (.fn (.func 34) []), .junk, .junk, .junk, .junk, .junk, .junk, iv s11, iv s12, .junk, .junk, .junk, .junk, .junk, .junk, .junk, .junk, .junk, .junk, .junk, .junk, .junk, .junk, .junk, .junk, .junk, .junk, .junk, .junk, .junk, .junk, .junk, .junk, .junk, .junk, .junk, .junk, .junk, .junk, .junk, .junk, .junk, .junk, .junk, .junk, .junk, .junk, .junk, .junk, .junk, .junk, .junk, .junk, .junk, .junk, .junk, .junk, .junk, .junk, .junk, .junk, .junk, .junk, .junk, .junk, .junk, .junk, .junk, .junk, .junk, .junk, .junk, .junk, .junk, .junk, .junk, .junk, .junk, .junk, .junk, .junk, .junk, .junk, .junk, .junk, .junk], [.arr (encL en_Pair y0)], 1⟩
theorem L54_34_2_ok (s1 : Int) (s11 : Int) (y0 : (List Pair)) : ∀ s st o, ghostsD g54_2 st = some (F54_34_2 s1 s11 y0 s) → iter (slices_partitionEqualCmpFunc_L2 similar_Match_c2 s1 s11 y0) s = some o →
    Wp (evW Try.prog A0 54 (.loop L54_2) st) (OutQ (F54_34_2 s1 s11 y0) g54_2 (fun n s st => n = 4 ∧ ghostsD [.keep [0, 1, 4, 11, 12]] st = some (F54_34_2 s1 s11 y0 s)) (fun r st => finishD Try.prog A0 54 Try.f54 st = some (.p (.v (.int .i64 r.1)), [.arr (encL en_Pair r.2)])) o) := by
 refine Wp.iter ?_
 intro s st o hg h
 generalize s = s12 at hg h
 unfold slices_partitionEqualCmpFunc_L2 at h
 unfold g54_2 F54_34_2 at hg ⊢
 (try simp only [] at h hg)
 unfold L54_2 bodyOf Try.f54; simp only [Option.getD_some, loopsOf, List.append_nil, List.nil_append, List.cons_append, List.getD_cons_zero, List.getD_cons_succ]
 by_cases h26 : s11 ≤ s12
 ·rw [if_pos h26] at h
  have h26' : decide (s11 ≤ s12) = true := decide_eq_true h26
  obtain ⟨v27, h28, h⟩ := bsm h
  obtain ⟨h28a, h28b, _⟩ := rd_some h28
  have h29 := lk_arr_39 h28
  obtain ⟨v30, h31, h⟩ := bsm h
  obtain ⟨h31a, h31b, _⟩ := rd_some h31
  have h32 := lk_arr_39 h31
  obtain ⟨r33, h34, h⟩ := bsm h
  have h35 : ∀ H, callD (callW Try.prog A0) A0 H 34 [.p (.agg [.v (.int .i64 v27.Old), .v (.int .i64 v27.New)]), .p (.agg [.v (.int .i64 v30.Old), .v (.int .i64 v30.New)])] = some (.p (.v (.int .i64 r33)), none) := fun H => similar_Match_c2_call h34
  by_cases h36 : r33 < (0 : Int)
  ·rw [if_pos h36] at h
   have h36' : decide (r33 < (0 : Int)) = true := decide_eq_true h36
   obtain rfl := Option.some.inj h
   simp (maxSteps := 10000000) (implicitDefEqProofs := false) (disch := first | assumption | omega | exact rfl) only [bs, rs54, ls54_34, Nat.reduceAdd, ↓reduceIte, loadD_pagg a39 z39, storeD_agg z39, hg, ↓h26', h29, h32, h35, ↓h36']
   exact ⟨rfl, by kernel_rfl⟩
  ·rw [if_neg h36] at h
   have h36' : decide (r33 < (0 : Int)) = false := decide_eq_false h36
   obtain rfl := Option.some.inj h
   simp (maxSteps := 10000000) (implicitDefEqProofs := false) (disch := first | assumption | omega | exact rfl) only [bs, rs54, ls54_34, Nat.reduceAdd, ↓reduceIte, loadD_pagg a39 z39, storeD_agg z39, hg, ↓h26', h29, h32, h35, ↓h36']
   exact ⟨rfl, rfl, by kernel_rfl⟩
 ·rw [if_neg h26] at h
  have h26' : decide (s11 ≤ s12) = false := decide_eq_false h26
  obtain rfl := Option.some.inj h
  simp (maxSteps := 10000000) (implicitDefEqProofs := false) (disch := first | assumption | omega | exact rfl) only [bs, rs54, ls54_34, Nat.reduceAdd, ↓reduceIte, loadD_pagg a39 z39, storeD_agg z39, hg, ↓h26']
  exact ⟨rfl, rfl, by kernel_rfl⟩
noncomputable def L54_1 : Code := (loopsOf (bodyOf Try.f54)).getD 1 .skip
def g54_1 : List Ghost := [.keep [0, 1, 4, 11, 12], .keep [0, 1, 4, 11, 12]]
def F54_34_1 (s1 : Int) (s12 : Int) (y0 : (List Pair)) : Int → St := fun s11 => ⟨[.ref 0 0 y0.length 2, iv s1, .junk, .junk, .p (.fn (.func 34) []), .junk, .junk, .junk, .junk, .junk, .junk, iv s11, iv s12, .junk, .junk, .junk, .junk, .junk, .junk, .junk, .junk, .junk, .junk, .junk, .junk, .junk, .junk, .junk, .junk, .junk, .junk, .junk, .junk, .junk, .junk, .junk, .junk, .junk, .junk, .junk, .junk, .junk, .junk, .junk, .junk, .junk, .junk, .junk, .junk, .junk, .junk, .junk, .junk, .junk, .junk, .junk, .junk, .junk, .junk, .junk, .junk, .junk, .junk, .junk, .junk, .junk, .junk, .junk, .junk, .junk, .junk, .junk, .junk, .junk, .junk, .junk, .junk, .junk, .junk, .junk, .junk, .junk, .junk, .junk, .junk, .junk, .junk, .junk, .junk, .junk], [.arr (encL en_Pair y0)], 1⟩
theorem L54_34_1_ok (s1 : Int) (s12 : Int) (y0 : (List Pair)) : ∀ s st o, ghostsD g54_1 st = some (F54_34_1 s1 s12 y0 s) → iter (slices_partitionEqualCmpFunc_L1 similar_Match_c2 s1 s12 y0) s = some o →
    Wp (evW Try.prog A0 54 (.loop L54_1) st) (OutQ (F54_34_1 s1 s12 y0) g54_1 (fun n s st => n = 2 ∧ ghostsD [.keep [0, 1, 4, 11, 12]] st = some (F54_34_1 s1 s12 y0 s)) (fun r st => finishD Try.prog A0 54 Try.f54 st = some (.p (.v (.int .i64 r.1)), [.arr (encL en_Pair r.2)])) o) := by
 refine Wp.iter ?_
 intro s st o hg h
 generalize s = s11 at hg h
 unfold slices_partitionEqualCmpFunc_L1 at h
 unfold g54_1 F54_34_1 at hg ⊢
 (try simp only [] at h hg)
 unfold L54_1 bodyOf Try.f54; simp only [Option.getD_some, loopsOf, List.append_nil, List.nil_append, List.cons_append, List.getD_cons_zero, List.getD_cons_succ]
 by_cases h13 : s11 ≤ s12
 ·rw [if_pos h13] at h
  have h13' : decide (s11 ≤ s12) = true := decide_eq_true h13
  obtain ⟨v14, h15, h⟩ := bsm h
  obtain ⟨h15a, h15b, _⟩ := rd_some h15
  have h16 := lk_arr_39 h15
  obtain ⟨v17, h18, h⟩ := bsm h
  obtain ⟨h18a, h18b, _⟩ := rd_some h18
  have h19 := lk_arr_39 h18
  obtain ⟨r20, h21, h⟩ := bsm h
  have h22 : ∀ H, callD (callW Try.prog A0) A0 H 34 [.p (.agg [.v (.int .i64 v14.Old), .v (.int .i64 v14.New)]), .p (.agg [.v (.int .i64 v17.Old), .v (.int .i64 v17.New)])] = some (.p (.v (.int .i64 r20)), none) := fun H => similar_Match_c2_call h21
  by_cases h23 : r20 < (0 : Int)
  ·rw [if_pos h23] at h
   have h23' : decide (r20 < (0 : Int)) = true := decide_eq_true h23
   obtain rfl := Option.some.inj h
   simp (maxSteps := 10000000) (implicitDefEqProofs := false) (disch := first | assumption | omega | exact rfl) only [bs, rs54, ls54_34, Nat.reduceAdd, ↓reduceIte, loadD_pagg a39 z39, storeD_agg z39, hg, ↓h13', h16, h19, h22, ↓h23']
   exact ⟨rfl, rfl, by kernel_rfl⟩
  ·rw [if_neg h23] at h
   have h23' : decide (r20 < (0 : Int)) = false := decide_eq_false h23
   obtain rfl := Option.some.inj h
   simp (maxSteps := 10000000) (implicitDefEqProofs := false) (disch := first | assumption | omega | exact rfl) only [bs, rs54, ls54_34, Nat.reduceAdd, ↓reduceIte, loadD_pagg a39 z39, storeD_agg z39, hg, ↓h13', h16, h19, h22, ↓h23']
   exact ⟨rfl, by kernel_rfl⟩
 ·rw [if_neg h13] at h
  have h13' : decide (s11 ≤ s12) = false := decide_eq_false h13
  obtain rfl := Option.some.inj h
  simp (maxSteps := 10000000) (implicitDefEqProofs := false) (disch := first | assumption | omega | exact rfl) only [bs, rs54, ls54_34, Nat.reduceAdd, ↓reduceIte, loadD_pagg a39 z39, storeD_agg z39, hg, ↓h13']
  exact ⟨rfl, rfl, by kernel_rfl⟩
noncomputable def L54_0 : Code := (loopsOf (bodyOf Try.f54)).getD 0 .skip
def g54_0 : List Ghost := [.keep [0, 1, 4, 11, 12]]
def F54_34_0 (s1 : Int) : (Int × Int × (List Pair)) → St := fun (s11, s12, y0) => ⟨[.ref 0 0 y0.length 2, iv s1, .junk, .junk, .p (.fn (.func 34) []), .junk, .junk, .junk, .junk, .junk, .junk, iv s11, iv s12, .junk, .junk, .junk, .junk, .junk, .junk, .junk, .junk, .junk, .junk, .junk, .junk, .junk, .junk, .junk, .junk, .junk, .junk, .junk, .junk, .junk, .junk, .junk, .junk, .junk, .junk, .junk, .junk, .junk, .junk, .junk, .junk, .junk, .junk, .junk, .junk, .junk, .junk, .junk, .junk, .junk, .junk, .junk, .junk, .junk, .junk, .junk, .junk, .junk, .junk, .junk, .junk, .junk, .junk, .junk, .junk, .junk, .junk, .junk, .junk, .junk, .junk, .junk, .junk, .junk, .junk, .junk, .junk, .junk, .junk, .junk, .junk, .junk, .junk, .junk, .junk, .junk], [.arr (encL en_Pair y0)], 1⟩
theorem L54_34_0_ok (s1 : Int) : ∀ s st o, ghostsD g54_0 st = some (F54_34_0 s1 s) → iter (slices_partitionEqualCmpFunc_L0 similar_Match_c2 s1) s = some o →
    Wp (evW Try.prog A0 54 (.loop L54_0) st) (OutQ (F54_34_0 s1) g54_0 (fun n s st => n = 0 ∧ ghostsD [.keep [0, 1, 4, 11, 12]] st = some (F54_34_0 s1 s)) (fun r st => finishD Try.prog A0 54 Try.f54 st = some (.p (.v (.int .i64 r.1)), [.arr (encL en_Pair r.2)])) o) := by
 refine Wp.iter ?_
 intro s st o hg h
 obtain ⟨s11, s12, y0⟩ := s
 unfold slices_partitionEqualCmpFunc_L0 at h
 unfold g54_0 F54_34_0 at hg ⊢
 (try simp only [] at h hg)
 unfold L54_0 bodyOf Try.f54; simp only [Option.getD_some, loopsOf, List.append_nil, List.nil_append, List.cons_append, List.getD_cons_zero, List.getD_cons_succ]
 obtain ⟨o, h24, h⟩ := bsm h
 simp (maxSteps := 10000000) (implicitDefEqProofs := false) (disch := first | assumption | omega | exact rfl) only [bs, rs54, ls54_34, Nat.reduceAdd, ↓reduceIte, loadD_pagg a39 z39, storeD_agg z39, hg]
 refine Wp.ctx (fun x => blockW _ (seqW _ _ _ _ (blockW _ (x)))) (L54_34_1_ok s1 s12 y0 s11 _ o (show ghostsD g54_1 _ = some _ from ghosts_app (a := [.keep [0, 1, 4, 11, 12]]) (b := [.keep [0, 1, 4, 11, 12]]) hg (by kernel_rfl)) h24) ?_
 intro e st hq
 cases o with
 | next _ => (first | cases h | (simp at h))
 | jmp n_ s_ =>
  obtain ⟨rfl, rfl, hq⟩ := hq
  generalize s_ = s11_25 at h hq
  unfold F54_34_1 at hq
  (try simp only [] at h hq)
  obtain ⟨o, h37, h⟩ := bsm h
  simp (maxSteps := 10000000) (implicitDefEqProofs := false) (disch := first | assumption | omega | exact rfl) only [bs, rs54, ls54_34, Nat.reduceAdd, ↓reduceIte, loadD_pagg a39 z39, storeD_agg z39, hg, hq]
  refine Wp.ctx (fun x => blockW _ (seqW _ _ _ _ (blockW _ (x)))) (L54_34_2_ok s1 s11_25 y0 s12 _ o (show ghostsD g54_2 _ = some _ from ghosts_app (a := [.keep [0, 1, 4, 11, 12]]) (b := [.keep [0, 1, 4, 11, 12]]) hq (by kernel_rfl)) h37) ?_
  intro e st hq
  cases o with
  | next _ => (first | cases h | (simp at h))
  | jmp n_ s_ =>
   obtain ⟨rfl, rfl, hq⟩ := hq
   generalize s_ = s12_38 at h hq
   unfold F54_34_2 at hq
   (try simp only [] at h hq)
   by_cases h39 : s12_38 < s11_25
   ·rw [if_pos h39] at h
    have h39' : decide (s12_38 < s11_25) = true := decide_eq_true h39
    obtain rfl := Option.some.inj h
    simp (maxSteps := 10000000) (implicitDefEqProofs := false) (disch := first | assumption | omega | exact rfl) only [bs, rs54, ls54_34, Nat.reduceAdd, ↓reduceIte, loadD_pagg a39 z39, storeD_agg z39, hg, hq, hq, ↓h39']
    exact ⟨rfl, rfl, by kernel_rfl⟩
   ·rw [if_neg h39] at h
    have h39' : decide (s12_38 < s11_25) = false := decide_eq_false h39
    obtain ⟨v40, h41, h⟩ := bsm h
    obtain ⟨h41a, h41b, _⟩ := rd_some h41
    have h42 := lk_arr_39 h41
    obtain ⟨v43, h44, h⟩ := bsm h
    obtain ⟨h44a, h44b, _⟩ := rd_some h44
    have h45 := lk_arr_39 h44
    have h46 : ∀ (H : List Ob) (id : Nat), staOb H id (s11_25.toNat * 2) 2 [.v (.int .i64 v40.Old), .v (.int .i64 v40.New)] (some (.arr (encL en_Pair y0))) = some (H.set id (.arr (encL en_Pair (y0.set s11_25.toNat v40)))) := fun H id => by
        have := sta_arr (H := H) (id := id) (v := v40) en_Pair_len h44a h44b
        rw [en_Pair_eq] at this
        exact this
    have h47 : (y0.set s11_25.toNat v40).length = y0.length := List.length_set
    obtain ⟨v48, h49, h⟩ := bsm h
    obtain ⟨h49a, h49b, _⟩ := rd_some h49
    have h50 : ∀ (H : List Ob) (id : Nat), staOb H id (s12_38.toNat * 2) 2 [.v (.int .i64 v43.Old), .v (.int .i64 v43.New)] (some (.arr (encL en_Pair (y0.set s11_25.toNat v40)))) = some (H.set id (.arr (encL en_Pair ((y0.set s11_25.toNat v40).set s12_38.toNat v43)))) := fun H id => by
        have := sta_arr (H := H) (id := id) (v := v43) en_Pair_len h49a h49b
        rw [en_Pair_eq] at this
        exact this
    have h51 : ((y0.set s11_25.toNat v40).set s12_38.toNat v43).length = (y0.set s11_25.toNat v40).length := List.length_set
    obtain rfl := Option.some.inj h
    simp (maxSteps := 10000000) (implicitDefEqProofs := false) (disch := first | assumption | omega | exact rfl) only [bs, rs54, ls54_34, Nat.reduceAdd, ↓reduceIte, loadD_pagg a39 z39, storeD_agg z39, hg, hq, hq, ↓h39', h42, h45, h46, h50]
    exact ⟨rfl, by simp only [List.length_set, cpL_len]; kernel_rfl⟩
  | ret _ => (first | cases h | (simp at h))
 | ret _ => (first | cases h | (simp at h))
theorem f54_34_ok  (x0 : (List Pair)) (x1 : Int) (x2 : Int) (x3 : Int) (r : (Int × (List Pair))) (h : slices_partitionEqualCmpFunc similar_Match_c2 x0 x1 x2 x3 = some r) : callW Try.prog A0 54 [.ref 0 0 x0.length 2, iv x1, iv x2, iv x3, .p (.fn (.func 34) [])] [.arr (encL en_Pair x0)] = some (.p (.v (.int .i64 r.1)), [.arr (encL en_Pair r.2)]) := by
 refine call_ofH (fn := Try.f54) (c := bodyOf Try.f54) rfl rfl (by kernel_rfl) (by kernel_rfl) ?_
 rw [show initS Try.f54 [.ref 0 0 x0.length 2, iv x1, iv x2, iv x3, .p (.fn (.func 34) [])] [.arr (encL en_Pair x0)] = ⟨.ref 0 0 x0.length 2 :: iv x1 :: iv x2 :: iv x3 :: .p (.fn (.func 34) []) :: List.replicate 85 undefD, [.arr (encL en_Pair x0)], 1⟩ from by kernel_rfl]
 unfold slices_partitionEqualCmpFunc at h
 unfold bodyOf Try.f54; simp only [Option.getD_some, loopsOf, List.append_nil, List.nil_append, List.cons_append, List.getD_cons_zero, List.getD_cons_succ]
 simp only [List.replicate]
 obtain ⟨v1, h2, h⟩ := bsm h
 obtain ⟨h2a, h2b, _⟩ := rd_some h2
 have h3 := lk_arr_39 h2
 obtain ⟨v4, h5, h⟩ := bsm h
 obtain ⟨h5a, h5b, _⟩ := rd_some h5
 have h6 := lk_arr_39 h5
 have h7 : ∀ (H : List Ob) (id : Nat), staOb H id (x1.toNat * 2) 2 [.v (.int .i64 v1.Old), .v (.int .i64 v1.New)] (some (.arr (encL en_Pair x0))) = some (H.set id (.arr (encL en_Pair (x0.set x1.toNat v1)))) := fun H id => by
     have := sta_arr (H := H) (id := id) (v := v1) en_Pair_len h5a h5b
     rw [en_Pair_eq] at this
     exact this
 have h8 : (x0.set x1.toNat v1).length = x0.length := List.length_set
 obtain ⟨v9, h10, h⟩ := bsm h
 obtain ⟨h10a, h10b, _⟩ := rd_some h10
 have h11 : ∀ (H : List Ob) (id : Nat), staOb H id (x3.toNat * 2) 2 [.v (.int .i64 v4.Old), .v (.int .i64 v4.New)] (some (.arr (encL en_Pair (x0.set x1.toNat v1)))) = some (H.set id (.arr (encL en_Pair ((x0.set x1.toNat v1).set x3.toNat v4)))) := fun H id => by
     have := sta_arr (H := H) (id := id) (v := v4) en_Pair_len h10a h10b
     rw [en_Pair_eq] at this
     exact this
 have h12 : ((x0.set x1.toNat v1).set x3.toNat v4).length = (x0.set x1.toNat v1).length := List.length_set
 obtain ⟨o, h52, h⟩ := bsm h
 simp (maxSteps := 10000000) (implicitDefEqProofs := false) (disch := first | assumption | omega | exact rfl) only [bs, rs54, ls54_34, Nat.reduceAdd, ↓reduceIte, loadD_pagg a39 z39, storeD_agg z39, h3, h6, h7, h11]
 refine Wp.ctx (fun x => seqW _ _ _ _ (blockW _ (x))) (L54_34_0_ok x1 (w64 (x1 + (1 : Int)), w64 (x2 - (1 : Int)), ((x0.set x1.toNat v1).set x3.toNat v4)) _ o (by unfold F54_34_0; simp only [List.length_set, cpL_len]; kernel_rfl) h52) ?_
 intro e st hq
 cases o with
 | next _ => (first | cases h | (simp at h))
 | jmp n_ s_ =>
  obtain ⟨rfl, rfl, hq⟩ := hq
  obtain ⟨s11_53, s12_53, y0_53⟩ := s_
  unfold F54_34_0 at hq
  (try simp only [] at h hq)
  obtain rfl := Option.some.inj h
  simp (maxSteps := 10000000) (implicitDefEqProofs := false) (disch := first | assumption | omega | exact rfl) only [bs, rs54, ls54_34, Nat.reduceAdd, ↓reduceIte, loadD_pagg a39 z39, storeD_agg z39, h3, h6, h7, h11, hq]
  refine ⟨by first | exact .inl trivial | exact .inr trivial | simp, ?_⟩
  show _ = _
  kernel_rfl
 | ret _ => (first | cases h | (simp at h))
theorem slices_partitionEqualCmpFunc_34_call {x0 : (List Pair)} {x1 : Int} {x2 : Int} {x3 : Int} {r : (Int × (List Pair))} (h : slices_partitionEqualCmpFunc similar_Match_c2 x0 x1 x2 x3 = some r) : callW Try.prog A0 54 [.ref 0 0 x0.length 2, iv x1, iv x2, iv x3, .p (.fn (.func 34) [])] [.arr (encL en_Pair x0)] = some (.p (.v (.int .i64 r.1)), [.arr (encL en_Pair r.2)]) := f54_34_ok x0 x1 x2 x3 _ h
def ls59 := @cv_3_73
theorem f59_ok  (x0 : Int) (r : Int) (h : slices_nextPowerOfTwo x0 = some r) : callW Try.prog A0 59 [iv x0] [] = some (.p (.v (.int .u64 r)), []) := by
 refine call_ofH (fn := Try.f59) (c := bodyOf Try.f59) rfl rfl (by kernel_rfl) (by kernel_rfl) ?_
 rw [show initS Try.f59 [iv x0] [] = ⟨iv x0 :: List.replicate 6 undefD, [], 0⟩ from by kernel_rfl]
 unfold slices_nextPowerOfTwo at h
 unfold bodyOf Try.f59; simp only [Option.getD_some, loopsOf, List.append_nil, List.nil_append, List.cons_append, List.getD_cons_zero, List.getD_cons_succ]
 simp only [List.replicate]
 obtain ⟨r1, h2, h⟩ := bsm h
 have h3 : ∀ H, callD (callW Try.prog A0) A0 H 46 [.p (.v (.int .u64 (IntKind.wrap .u64 x0)))] = some (.p (.v (.int .i64 r1)), none) := fun H => math_bits_Len_call h2
 obtain ⟨q4, h5, h⟩ := bsm h
 have h6 : ∀ xo yo, binD Try.prog .shl 73 xo yo (.p (.v (.int .u64 (1 : Int)))) (.p (.v (.int .i64 r1))) = some (.p (.v (.int .u64 q4))) := fun xo yo => binD_shl_k h5
 obtain rfl := Option.some.inj h
 simp (maxSteps := 10000000) (implicitDefEqProofs := false) (disch := first | assumption | omega | exact rfl) only [bs, rs59, ls59, Nat.reduceAdd, ↓reduceIte, h3, h6]
 refine ⟨by first | exact .inl trivial | exact .inr trivial | simp, ?_⟩
 exact finish_is (ds := [.p (.v (.int .u64 q4))]) (x := .v (.int .u64 q4)) (y := .v (.int .u64 q4)) (l := []) rfl rfl rfl rfl (by first | rfl | (simp only [wk, wks, wkL]; first | done | rfl))
theorem slices_nextPowerOfTwo_call {H : List Ob} {x0 : Int} {r : Int} (h : slices_nextPowerOfTwo x0 = some r) : callD (callW Try.prog A0) A0 H 59 [iv x0] = some (.p (.v (.int .u64 r)), none) :=
  callD_fun (args := [.v (.int .i64 x0)]) rfl rfl rfl (by simp only [List.map_cons, List.map_nil, wk, wks, wkL]; exact f59_ok x0 _ h)
def ls60 := And.intro @sv_1_0_1 (@varld_1_0)
theorem f60_ok  (x0 : Int) (r : (Int × Int)) (h : slices_xorshift_Next x0 = some r) : callW Try.prog A0 60 [.ptr 0 0] [.var [.p (.v (.int .u64 x0))]] = some (.p (.v (.int .u64 r.1)), [.var [.p (.v (.int .u64 r.2))]]) := by
 refine call_ofH (fn := Try.f60) (c := bodyOf Try.f60) rfl rfl (by kernel_rfl) (by kernel_rfl) ?_
 rw [show initS Try.f60 [.ptr 0 0] [.var [.p (.v (.int .u64 x0))]] = ⟨.ptr 0 0 :: List.replicate 32 undefD, [.var [.p (.v (.int .u64 x0))]], 1⟩ from by kernel_rfl]
 unfold slices_xorshift_Next at h
 unfold bodyOf Try.f60; simp only [Option.getD_some, loopsOf, List.append_nil, List.nil_append, List.cons_append, List.getD_cons_zero, List.getD_cons_succ]
 simp only [List.replicate]
 obtain ⟨q1, h2, h⟩ := bsm h
 have h3 : ∀ xo yo, binD Try.prog .shl 87 xo yo (.p (.v (.int .u64 x0))) (.p (.v (.int .u64 (13 : Int)))) = some (.p (.v (.int .u64 q1))) := fun xo yo => binD_shl_k h2
 obtain ⟨q4, h5, h⟩ := bsm h
 have h6 : ∀ xo yo, binD Try.prog .shr 87 xo yo (.p (.v (.int .u64 (xorK .u64 x0 q1)))) (.p (.v (.int .u64 (7 : Int)))) = some (.p (.v (.int .u64 q4))) := fun xo yo => binD_shr_k h5
 obtain ⟨q7, h8, h⟩ := bsm h
 have h9 : ∀ xo yo, binD Try.prog .shl 87 xo yo (.p (.v (.int .u64 (xorK .u64 (xorK .u64 x0 q1) q4)))) (.p (.v (.int .u64 (17 : Int)))) = some (.p (.v (.int .u64 q7))) := fun xo yo => binD_shl_k h8
 obtain rfl := Option.some.inj h
 simp (maxSteps := 10000000) (implicitDefEqProofs := false) (disch := first | assumption | omega | exact rfl) only [bs, rs60, ls60, Nat.reduceAdd, ↓reduceIte, binD_xor_k, loadD_ptr a87, nilCheckD_ptr, ops_nilCheck, storeD_int z87, h3, h6, h9]
 refine ⟨by first | exact .inl trivial | exact .inr trivial | simp, ?_⟩
 show _ = _
 kernel_rfl
theorem slices_xorshift_Next_call {x0 : Int} {r : (Int × Int)} (h : slices_xorshift_Next x0 = some r) : callW Try.prog A0 60 [.ptr 0 0] [.var [.p (.v (.int .u64 x0))]] = some (.p (.v (.int .u64 r.1)), [.var [.p (.v (.int .u64 r.2))]]) := f60_ok x0 _ h
def ls50_34 := And.intro @al_87 (And.intro @cv_3_87 (And.intro @cv_73_3 (And.intro @idxR_26 (@sv_1_0_1))))
noncomputable def L50_0 : Code := (loopsOf (bodyOf Try.f50)).getD 0 .skip
def g50_0 : List Ghost := [.keep [0, 1, 8, 9, 10, 11]]
def F50_34_0 (s1 : Int) (s8 : Int) (s10 : Int) : (Int × (List Pair) × Int) → St := fun (s11, y0, w1_0) => ⟨[.ref 0 0 y0.length 2, iv s1, .junk, .junk, .junk, .junk, .junk, .junk, iv s8, .ptr 1 0, .p (.v (.int .u64 s10)), iv s11, .junk, .junk, .junk, .junk, .junk, .junk, .junk, .junk, .junk, .junk, .junk, .junk, .junk, .junk, .junk, .junk, .junk, .junk, .junk, .junk, .junk, .junk, .junk, .junk, .junk, .junk, .junk, .junk, .junk, .junk, .junk, .junk, .junk, .junk, .junk, .junk, .junk, .junk, .junk, .junk, .junk, .junk, .junk, .junk, .junk, .junk, .junk, .junk, .junk, .junk, .junk, .junk, .junk, .junk, .junk], [.arr (encL en_Pair y0), .var [.p (.v (.int .u64 w1_0))]], 1⟩
theorem L50_34_0_ok (s1 : Int) (s8 : Int) (s10 : Int) : ∀ s st o, ghostsD g50_0 st = some (F50_34_0 s1 s8 s10 s) → iter (slices_breakPatternsCmpFunc_L0 similar_Match_c2 s1 s8 s10) s = some o →
    Wp (evW Try.prog A0 50 (.loop L50_0) st) (OutQ (F50_34_0 s1 s8 s10) g50_0 (fun n s st => n = 0 ∧ (match s with | (s11, y0, w1_0) => finishD Try.prog A0 50 Try.f50 st = some (.p (.tup []), [.arr (encL en_Pair y0)]))) (fun r st => finishD Try.prog A0 50 Try.f50 st = some (.p (.tup []), [.arr (encL en_Pair r)])) o) := by
 refine Wp.iter ?_
 intro s st o hg h
 obtain ⟨s11, y0, w1_0⟩ := s
 unfold slices_breakPatternsCmpFunc_L0 at h
 unfold g50_0 F50_34_0 at hg ⊢
 (try simp only [] at h hg)
 unfold L50_0 bodyOf Try.f50; simp only [Option.getD_some, loopsOf, List.append_nil, List.nil_append, List.cons_append, List.getD_cons_zero, List.getD_cons_succ]
 obtain ⟨q40, h41, h⟩ := bsm h
 have h42 : ∀ xo yo, binD Try.prog .quo 3 xo yo (.p (.v (.int .i64 s8))) (.p (.v (.int .i64 (4 : Int)))) = some (.p (.v (.int .i64 q40))) := fun xo yo => binD_quo_k h41
 by_cases h43 : s11 ≤ (w64 ((w64 (s1 + (w64 (q40 * (2 : Int))))) + (1 : Int)))
 ·rw [if_pos h43] at h
  have h43' : decide (s11 ≤ (w64 ((w64 (s1 + (w64 (q40 * (2 : Int))))) + (1 : Int)))) = true := decide_eq_true h43
  obtain ⟨r44, h45, h⟩ := bsm h
  have h46 : callD (callW Try.prog A0) A0 [.arr (encL en_Pair y0), .var [.p (.v (.int .u64 w1_0))]] 60 [.ptr 1 0] = some (.p (.v (.int .u64 r44.1)), some [.arr (encL en_Pair y0), .var [.p (.v (.int .u64 r44.2))]]) := (callD_put (dsw := [.ptr 1 0]) (ds' := [.ptr 0 0]) (i := 1) (ids := []) (o := .var [.p (.v (.int .u64 w1_0))]) (os := []) (o' := .var [.p (.v (.int .u64 r44.2))]) (os' := []) rfl (by kernel_rfl) (by kernel_rfl) (by kernel_rfl) (by kernel_rfl) (by kernel_rfl) (slices_xorshift_Next_call h45) rfl rfl).trans (by kernel_rfl)
  by_cases h47 : s8 ≤ (IntKind.wrap .i64 (andK .u64 r44.1 (IntKind.wrap .u64 (s10 - (1 : Int)))))
  ·rw [if_pos h47] at h
   have h47' : decide (s8 ≤ (IntKind.wrap .i64 (andK .u64 r44.1 (IntKind.wrap .u64 (s10 - (1 : Int)))))) = true := decide_eq_true h47
   obtain ⟨v48, h49, h⟩ := bsm h
   obtain ⟨h49a, h49b, _⟩ := rd_some h49
   have h50 := lk_arr_39 h49
   obtain ⟨v51, h52, h⟩ := bsm h
   obtain ⟨h52a, h52b, _⟩ := rd_some h52
   have h53 := lk_arr_39 h52
   have h54 : ∀ (H : List Ob) (id : Nat), staOb H id (s11.toNat * 2) 2 [.v (.int .i64 v48.Old), .v (.int .i64 v48.New)] (some (.arr (encL en_Pair y0))) = some (H.set id (.arr (encL en_Pair (y0.set s11.toNat v48)))) := fun H id => by
       have := sta_arr (H := H) (id := id) (v := v48) en_Pair_len h52a h52b
       rw [en_Pair_eq] at this
       exact this
   have h55 : (y0.set s11.toNat v48).length = y0.length := List.length_set
   obtain ⟨v56, h57, h⟩ := bsm h
   obtain ⟨h57a, h57b, _⟩ := rd_some h57
   have h58 : ∀ (H : List Ob) (id : Nat), staOb H id ((w64 (s1 + (w64 ((IntKind.wrap .i64 (andK .u64 r44.1 (IntKind.wrap .u64 (s10 - (1 : Int))))) - s8)))).toNat * 2) 2 [.v (.int .i64 v51.Old), .v (.int .i64 v51.New)] (some (.arr (encL en_Pair (y0.set s11.toNat v48)))) = some (H.set id (.arr (encL en_Pair ((y0.set s11.toNat v48).set (w64 (s1 + (w64 ((IntKind.wrap .i64 (andK .u64 r44.1 (IntKind.wrap .u64 (s10 - (1 : Int))))) - s8)))).toNat v51)))) := fun H id => by
       have := sta_arr (H := H) (id := id) (v := v51) en_Pair_len h57a h57b
       rw [en_Pair_eq] at this
       exact this
   have h59 : ((y0.set s11.toNat v48).set (w64 (s1 + (w64 ((IntKind.wrap .i64 (andK .u64 r44.1 (IntKind.wrap .u64 (s10 - (1 : Int))))) - s8)))).toNat v51).length = (y0.set s11.toNat v48).length := List.length_set
   obtain rfl := Option.some.inj h
   simp (maxSteps := 10000000) (implicitDefEqProofs := false) (disch := first | assumption | omega | exact rfl) only [bs, rs50, ls50_34, Nat.reduceAdd, ↓reduceIte, binD_and_k, binD_sub_k (k := .u64), loadD_pagg a39 z39, storeD_agg z39, storeD_int z87, hg, h42, ↓h43', h46, ↓h47', h50, h53, h54, h58]
   exact ⟨rfl, by simp only [List.length_set, cpL_len]; kernel_rfl⟩
  ·rw [if_neg h47] at h
   have h47' : decide (s8 ≤ (IntKind.wrap .i64 (andK .u64 r44.1 (IntKind.wrap .u64 (s10 - (1 : Int)))))) = false := decide_eq_false h47
   obtain ⟨v60, h61, h⟩ := bsm h
   obtain ⟨h61a, h61b, _⟩ := rd_some h61
   have h62 := lk_arr_39 h61
   obtain ⟨v63, h64, h⟩ := bsm h
   obtain ⟨h64a, h64b, _⟩ := rd_some h64
   have h65 := lk_arr_39 h64
   have h66 : ∀ (H : List Ob) (id : Nat), staOb H id (s11.toNat * 2) 2 [.v (.int .i64 v60.Old), .v (.int .i64 v60.New)] (some (.arr (encL en_Pair y0))) = some (H.set id (.arr (encL en_Pair (y0.set s11.toNat v60)))) := fun H id => by
       have := sta_arr (H := H) (id := id) (v := v60) en_Pair_len h64a h64b
       rw [en_Pair_eq] at this
       exact this
   have h67 : (y0.set s11.toNat v60).length = y0.length := List.length_set
   obtain ⟨v68, h69, h⟩ := bsm h
   obtain ⟨h69a, h69b, _⟩ := rd_some h69
   have h70 : ∀ (H : List Ob) (id : Nat), staOb H id ((w64 (s1 + (IntKind.wrap .i64 (andK .u64 r44.1 (IntKind.wrap .u64 (s10 - (1 : Int))))))).toNat * 2) 2 [.v (.int .i64 v63.Old), .v (.int .i64 v63.New)] (some (.arr (encL en_Pair (y0.set s11.toNat v60)))) = some (H.set id (.arr (encL en_Pair ((y0.set s11.toNat v60).set (w64 (s1 + (IntKind.wrap .i64 (andK .u64 r44.1 (IntKind.wrap .u64 (s10 - (1 : Int))))))).toNat v63)))) := fun H id => by
       have := sta_arr (H := H) (id := id) (v := v63) en_Pair_len h69a h69b
       rw [en_Pair_eq] at this
       exact this
   have h71 : ((y0.set s11.toNat v60).set (w64 (s1 + (IntKind.wrap .i64 (andK .u64 r44.1 (IntKind.wrap .u64 (s10 - (1 : Int))))))).toNat v63).length = (y0.set s11.toNat v60).length := List.length_set
   obtain rfl := Option.some.inj h
   simp (maxSteps := 10000000) (implicitDefEqProofs := false) (disch := first | assumption | omega | exact rfl) only [bs, rs50, ls50_34, Nat.reduceAdd, ↓reduceIte, binD_and_k, binD_sub_k (k := .u64), loadD_pagg a39 z39, storeD_agg z39, storeD_int z87, hg, h42, ↓h43', h46, ↓h47', h62, h65, h66, h70]
   exact ⟨rfl, by simp only [List.length_set, cpL_len]; kernel_rfl⟩
 ·rw [if_neg h43] at h
  have h43' : decide (s11 ≤ (w64 ((w64 (s1 + (w64 (q40 * (2 : Int))))) + (1 : Int)))) = false := decide_eq_false h43
  obtain rfl := Option.some.inj h
  simp (maxSteps := 10000000) (implicitDefEqProofs := false) (disch := first | assumption | omega | exact rfl) only [bs, rs50, ls50_34, Nat.reduceAdd, ↓reduceIte, binD_and_k, binD_sub_k (k := .u64), loadD_pagg a39 z39, storeD_agg z39, storeD_int z87, hg, h42, ↓h43']
  refine ⟨rfl, rfl, ?_⟩
  show _ = _
  kernel_rfl
theorem f50_34_ok  (x0 : (List Pair)) (x1 : Int) (x2 : Int) (r : (List Pair)) (h : slices_breakPatternsCmpFunc similar_Match_c2 x0 x1 x2 = some r) : callW Try.prog A0 50 [.ref 0 0 x0.length 2, iv x1, iv x2, .p (.fn (.func 34) [])] [.arr (encL en_Pair x0)] = some (.p (.tup []), [.arr (encL en_Pair r)]) := by
 refine call_ofH (fn := Try.f50) (c := bodyOf Try.f50) rfl rfl (by kernel_rfl) (by kernel_rfl) ?_
 rw [show initS Try.f50 [.ref 0 0 x0.length 2, iv x1, iv x2, .p (.fn (.func 34) [])] [.arr (encL en_Pair x0)] = ⟨.ref 0 0 x0.length 2 :: iv x1 :: iv x2 :: .p (.fn (.func 34) []) :: List.replicate 63 undefD, [.arr (encL en_Pair x0)], 1⟩ from by kernel_rfl]
 unfold slices_breakPatternsCmpFunc at h
 unfold bodyOf Try.f50; simp only [Option.getD_some, loopsOf, List.append_nil, List.nil_append, List.cons_append, List.getD_cons_zero, List.getD_cons_succ]
 simp only [List.replicate]
 by_cases h1 : (8 : Int) ≤ (w64 (x2 - x1))
 ·rw [if_pos h1] at h
  have h1' : decide ((8 : Int) ≤ (w64 (x2 - x1))) = true := decide_eq_true h1
  obtain ⟨r2, h3, h⟩ := bsm h
  have h4 : ∀ H, callD (callW Try.prog A0) A0 H 59 [iv (w64 (x2 - x1))] = some (.p (.v (.int .u64 r2)), none) := fun H => slices_nextPowerOfTwo_call h3
  obtain ⟨q5, h6, h⟩ := bsm h
  have h7 : ∀ xo yo, binD Try.prog .quo 3 xo yo (.p (.v (.int .i64 (w64 (x2 - x1))))) (.p (.v (.int .i64 (4 : Int)))) = some (.p (.v (.int .i64 q5))) := fun xo yo => binD_quo_k h6
  obtain ⟨o, h72, h⟩ := bsm h
  simp (maxSteps := 10000000) (implicitDefEqProofs := false) (disch := first | assumption | omega | exact rfl) only [bs, rs50, ls50_34, Nat.reduceAdd, ↓reduceIte, binD_and_k, binD_sub_k (k := .u64), loadD_pagg a39 z39, storeD_agg z39, storeD_int z87, ↓h1', h4, h7]
  refine Wp.ctx (fun x => blockW _ (x)) (L50_34_0_ok x1 (w64 (x2 - x1)) r2 (w64 ((w64 (x1 + (w64 (q5 * (2 : Int))))) - (1 : Int)), x0, IntKind.wrap .u64 (w64 (x2 - x1))) _ o (by kernel_rfl) h72) ?_
  intro e st hq
  cases o with
  | next _ => (first | cases h | (simp at h))
  | jmp n_ s_ =>
   obtain ⟨rfl, rfl, hq⟩ := hq
   obtain ⟨s11_73, y0_73, w1_0_73⟩ := s_
   obtain rfl := Option.some.inj h
   simp (maxSteps := 10000000) (implicitDefEqProofs := false) (disch := first | assumption | omega | exact rfl) only [bs, rs50, ls50_34, Nat.reduceAdd, ↓reduceIte, binD_and_k, binD_sub_k (k := .u64), loadD_pagg a39 z39, storeD_agg z39, storeD_int z87]
   exact ⟨by first | exact .inl trivial | exact .inr trivial | simp, hq⟩
  | ret _ => (first | cases h | (simp at h))
 ·rw [if_neg h1] at h
  have h1' : decide ((8 : Int) ≤ (w64 (x2 - x1))) = false := decide_eq_false h1
  obtain rfl := Option.some.inj h
  simp (maxSteps := 10000000) (implicitDefEqProofs := false) (disch := first | assumption | omega | exact rfl) only [bs, rs50, ls50_34, Nat.reduceAdd, ↓reduceIte, binD_and_k, binD_sub_k (k := .u64), loadD_pagg a39 z39, storeD_agg z39, storeD_int z87, ↓h1']
  refine ⟨by first | exact .inl trivial | exact .inr trivial | simp, ?_⟩
  show _ = _
  kernel_rfl
theorem slices_breakPatternsCmpFunc_34_call {x0 : (List Pair)} {x1 : Int} {x2 : Int} {r : (List Pair)} (h : slices_breakPatternsCmpFunc similar_Match_c2 x0 x1 x2 = some r) : callW Try.prog A0 50 [.ref 0 0 x0.length 2, iv x1, iv x2, .p (.fn (.func 34) [])] [.arr (encL en_Pair x0)] = some (.p (.tup []), [.arr (encL en_Pair r)]) := f50_34_ok x0 x1 x2 _ h
def ls45_34 := And.intro @ex_2_0 (And.intro @ex_2_1 (@idxR_26))
theorem slices_pdqsortCmpFunc_rcall {rec : (List Pair) → Int → Int → Int → Option (List Pair)} (hrec : ∀ x0 x1 x2 x3 r, rec x0 x1 x2 x3 = some r → callW Try.prog A0 45 [.ref 0 0 x0.length 2, iv x1, iv x2, iv x3, .p (.fn (.func 34) [])] [.arr (encL en_Pair x0)] = some (.p (.tup []), [.arr (encL en_Pair r)])) {x0 : (List Pair)} {x1 : Int} {x2 : Int} {x3 : Int} {r : (List Pair)} (h : rec x0 x1 x2 x3 = some r) : callW Try.prog A0 45 [.ref 0 0 x0.length 2, iv x1, iv x2, iv x3, .p (.fn (.func 34) [])] [.arr (encL en_Pair x0)] = some (.p (.tup []), [.arr (encL en_Pair r)]) := hrec x0 x1 x2 x3 _ h
noncomputable def L45_0 : Code := (loopsOf (bodyOf Try.f45)).getD 0 .skip
def g45_0 : List Ghost := [.keep [0, 1, 2, 3, 4, 10, 11]]
def F45_34_0 : (Int × Int × Int × Bool × Bool × (List Pair)) → St := fun (s1, s2, s3, s10, s11, y0) => ⟨[.ref 0 0 y0.length 2, iv s1, iv s2, iv s3, .p (.fn (.func 34) []), .junk, .junk, .junk, .junk, .junk, bv s10, bv s11, .junk, .junk, .junk, .junk, .junk, .junk, .junk, .junk, .junk, .junk, .junk, .junk, .junk, .junk, .junk, .junk, .junk, .junk, .junk, .junk, .junk, .junk, .junk, .junk, .junk, .junk, .junk, .junk, .junk, .junk, .junk, .junk, .junk, .junk, .junk, .junk, .junk, .junk, .junk, .junk, .junk, .junk, .junk, .junk, .junk, .junk, .junk, .junk, .junk, .junk, .junk, .junk, .junk, .junk, .junk, .junk, .junk, .junk, .junk, .junk, .junk, .junk, .junk, .junk, .junk, .junk, .junk, .junk, .junk, .junk, .junk, .junk, .junk, .junk, .junk, .junk, .junk, .junk, .junk, .junk, .junk, .junk, .junk, .junk, .junk, .junk, .junk, .junk, .junk, .junk, .junk, .junk, .junk, .junk, .junk, .junk, .junk, .junk, .junk, .junk, .junk, .junk, .junk, .junk, .junk, .junk, .junk, .junk, .junk, .junk, .junk, .junk, .junk, .junk, .junk, .junk, .junk, .junk, .junk, .junk, .junk, .junk, .junk, .junk, .junk, .junk, .junk, .junk, .junk, .junk, .junk, .junk, .junk, .junk, .junk, .junk], [.arr (encL en_Pair y0)], 1⟩
theorem L45_34_0_ok {rec : (List Pair) → Int → Int → Int → Option (List Pair)} (hrec : ∀ x0 x1 x2 x3 r, rec x0 x1 x2 x3 = some r → callW Try.prog A0 45 [.ref 0 0 x0.length 2, iv x1, iv x2, iv x3, .p (.fn (.func 34) [])] [.arr (encL en_Pair x0)] = some (.p (.tup []), [.arr (encL en_Pair r)])) : ∀ s st o, ghostsD g45_0 st = some (F45_34_0 s) → iter (slices_pdqsortCmpFunc_L0 rec similar_Match_c2) s = some o →
    Wp (evW Try.prog A0 45 (.loop L45_0) st) (OutQ (F45_34_0) g45_0 (fun n s st => False) (fun r st => finishD Try.prog A0 45 Try.f45 st = some (.p (.tup []), [.arr (encL en_Pair r)])) o) := by
 refine Wp.iter ?_
 intro s st o hg h
 obtain ⟨s1, s2, s3, s10, s11, y0⟩ := s
 unfold slices_pdqsortCmpFunc_L0 at h
 unfold g45_0 F45_34_0 at hg ⊢
 (try simp only [] at h hg)
 unfold L45_0 bodyOf Try.f45; simp only [Option.getD_some, loopsOf, List.append_nil, List.nil_append, List.cons_append, List.getD_cons_zero, List.getD_cons_succ]
 by_cases h376 : (w64 (s2 - s1)) ≤ (12 : Int)
 ·rw [if_pos h376] at h
  have h376' : decide ((w64 (s2 - s1)) ≤ (12 : Int)) = true := decide_eq_true h376
  obtain ⟨r377, h378, h⟩ := bsm h
  have h379 : callD (callW Try.prog A0) A0 [.arr (encL en_Pair y0)] 48 [.ref 0 0 y0.length 2, iv s1, iv s2, .p (.fn (.func 34) [])] = some (.p (.tup []), some [.arr (encL en_Pair r377)]) := (callD_put (dsw := [.ref 0 0 y0.length 2, iv s1, iv s2, .p (.fn (.func 34) [])]) (ds' := [.ref 0 0 y0.length 2, iv s1, iv s2, .p (.fn (.func 34) [])]) (i := 0) (ids := []) (o := .arr (encL en_Pair y0)) (os := []) (o' := .arr (encL en_Pair r377)) (os' := []) rfl (by kernel_rfl) (by kernel_rfl) (by kernel_rfl) (by kernel_rfl) (by kernel_rfl) (slices_insertionSortCmpFunc_34_call h378) rfl rfl).trans (by kernel_rfl)
  by_cases hw_ : r377.length = y0.length
  case neg => rw [if_neg hw_] at h; cases h
  rw [if_pos hw_] at h
  have h380 := hw_
  obtain rfl := Option.some.inj h
  simp (maxSteps := 10000000) (implicitDefEqProofs := false) (disch := first | assumption | omega | exact rfl) only [bs, rs45, ls45_34, Nat.reduceAdd, ↓reduceIte, Int.reduceEq, Int.reduceLE, Int.reduceLT, loadD_pagg a39 z39, hg, ↓h376', h379]
  refine ⟨rfl, ?_⟩
  show _ = _
  kernel_rfl
 ·rw [if_neg h376] at h
  have h376' : decide ((w64 (s2 - s1)) ≤ (12 : Int)) = false := decide_eq_false h376
  by_cases h381 : s3 = (0 : Int)
  ·rw [if_pos h381] at h
   have h381' : decide (s3 = (0 : Int)) = true := decide_eq_true h381
   obtain ⟨r382, h383, h⟩ := bsm h
   have h384 : callD (callW Try.prog A0) A0 [.arr (encL en_Pair y0)] 49 [.ref 0 0 y0.length 2, iv s1, iv s2, .p (.fn (.func 34) [])] = some (.p (.tup []), some [.arr (encL en_Pair r382)]) := (callD_put (dsw := [.ref 0 0 y0.length 2, iv s1, iv s2, .p (.fn (.func 34) [])]) (ds' := [.ref 0 0 y0.length 2, iv s1, iv s2, .p (.fn (.func 34) [])]) (i := 0) (ids := []) (o := .arr (encL en_Pair y0)) (os := []) (o' := .arr (encL en_Pair r382)) (os' := []) rfl (by kernel_rfl) (by kernel_rfl) (by kernel_rfl) (by kernel_rfl) (by kernel_rfl) (slices_heapSortCmpFunc_34_call h383) rfl rfl).trans (by kernel_rfl)
   by_cases hw_ : r382.length = y0.length
   case neg => rw [if_neg hw_] at h; cases h
   rw [if_pos hw_] at h
   have h385 := hw_
   obtain rfl := Option.some.inj h
   simp (maxSteps := 10000000) (implicitDefEqProofs := false) (disch := first | assumption | omega | exact rfl) only [bs, rs45, ls45_34, Nat.reduceAdd, ↓reduceIte, Int.reduceEq, Int.reduceLE, Int.reduceLT, loadD_pagg a39 z39, hg, ↓h376', ↓h381', h384]
   refine ⟨rfl, ?_⟩
   show _ = _
   kernel_rfl
  ·rw [if_neg h381] at h
   have h381' : decide (s3 = (0 : Int)) = false := decide_eq_false h381
   by_cases h386 : s10 = true
   ·rw [if_pos h386] at h
    obtain ⟨r387, h388, h⟩ := bsm h
    have h389 : callD (callW Try.prog A0) A0 [.arr (encL en_Pair y0)] 51 [.ref 0 0 y0.length 2, iv s1, iv s2, .p (.fn (.func 34) [])] = some (.p (.tup [.v (.int .i64 r387.1), .v (.int .i64 r387.2.1)]), some [.arr (encL en_Pair r387.2.2)]) := (callD_put (dsw := [.ref 0 0 y0.length 2, iv s1, iv s2, .p (.fn (.func 34) [])]) (ds' := [.ref 0 0 y0.length 2, iv s1, iv s2, .p (.fn (.func 34) [])]) (i := 0) (ids := []) (o := .arr (encL en_Pair y0)) (os := []) (o' := .arr (encL en_Pair r387.2.2)) (os' := []) rfl (by kernel_rfl) (by kernel_rfl) (by kernel_rfl) (by kernel_rfl) (by kernel_rfl) (slices_choosePivotCmpFunc_34_call h388) rfl rfl).trans (by kernel_rfl)
    by_cases hw_ : r387.2.2.length = y0.length
    case neg => rw [if_neg hw_] at h; cases h
    rw [if_pos hw_] at h
    have h390 := hw_
    by_cases h391 : r387.2.1 = (2 : Int)
    ·rw [if_pos h391] at h
     have h391' : decide (r387.2.1 = (2 : Int)) = true := decide_eq_true h391
     obtain ⟨r392, h393, h⟩ := bsm h
     have h394 : callD (callW Try.prog A0) A0 [.arr (encL en_Pair r387.2.2)] 52 [.ref 0 0 y0.length 2, iv s1, iv s2, .p (.fn (.func 34) [])] = some (.p (.tup []), some [.arr (encL en_Pair r392)]) := by
         rw [show y0.length = r387.2.2.length from by omega]; exact (callD_put (dsw := [.ref 0 0 r387.2.2.length 2, iv s1, iv s2, .p (.fn (.func 34) [])]) (ds' := [.ref 0 0 r387.2.2.length 2, iv s1, iv s2, .p (.fn (.func 34) [])]) (i := 0) (ids := []) (o := .arr (encL en_Pair r387.2.2)) (os := []) (o' := .arr (encL en_Pair r392)) (os' := []) rfl (by kernel_rfl) (by kernel_rfl) (by kernel_rfl) (by kernel_rfl) (by kernel_rfl) (slices_reverseRangeCmpFunc_34_call h393) rfl rfl).trans (by kernel_rfl)
     by_cases hw_ : r392.length = r387.2.2.length
     case neg => rw [if_neg hw_] at h; cases h
     rw [if_pos hw_] at h
     have h395 := hw_
     by_cases h396 : s11 = true
     ·rw [if_pos h396] at h
      obtain ⟨r397, h398, h⟩ := bsm h
      have h399 : callD (callW Try.prog A0) A0 [.arr (encL en_Pair r392)] 53 [.ref 0 0 y0.length 2, iv s1, iv s2, .p (.fn (.func 34) [])] = some (.p (.v (.bool r397.1)), some [.arr (encL en_Pair r397.2)]) := by
          rw [show y0.length = r392.length from by omega]; exact (callD_put (dsw := [.ref 0 0 r392.length 2, iv s1, iv s2, .p (.fn (.func 34) [])]) (ds' := [.ref 0 0 r392.length 2, iv s1, iv s2, .p (.fn (.func 34) [])]) (i := 0) (ids := []) (o := .arr (encL en_Pair r392)) (os := []) (o' := .arr (encL en_Pair r397.2)) (os' := []) rfl (by kernel_rfl) (by kernel_rfl) (by kernel_rfl) (by kernel_rfl) (by kernel_rfl) (slices_partialInsertionSortCmpFunc_34_call h398) rfl rfl).trans (by kernel_rfl)
      by_cases hw_ : r397.2.length = r392.length
      case neg => rw [if_neg hw_] at h; cases h
      rw [if_pos hw_] at h
      have h400 := hw_
      by_cases h401 : r397.1 = true
      ·rw [if_pos h401] at h
       obtain rfl := Option.some.inj h
       simp (maxSteps := 10000000) (implicitDefEqProofs := false) (disch := first | assumption | omega | exact rfl) only [bs, rs45, ls45_34, Nat.reduceAdd, ↓reduceIte, Int.reduceEq, Int.reduceLE, Int.reduceLT, loadD_pagg a39 z39, hg, ↓h376', ↓h381', h386, h389, ↓h391', h394, h396, h399, h401]
       refine ⟨rfl, ?_⟩
       show _ = _
       kernel_rfl
      ·rw [if_neg h401] at h
       replace h401 := Bool.eq_false_iff.2 h401
       by_cases h402 : (0 : Int) < s1
       ·rw [if_pos h402] at h
        have h402' : decide ((0 : Int) < s1) = true := decide_eq_true h402
        obtain ⟨v403, h404, h⟩ := bsm h
        obtain ⟨h404a, h404b, _⟩ := rd_some h404
        have h405 := lk_arr_39 h404
        obtain ⟨v406, h407, h⟩ := bsm h
        obtain ⟨h407a, h407b, _⟩ := rd_some h407
        have h408 := lk_arr_39 h407
        obtain ⟨r409, h410, h⟩ := bsm h
        have h411 : ∀ H, callD (callW Try.prog A0) A0 H 34 [.p (.agg [.v (.int .i64 v403.Old), .v (.int .i64 v403.New)]), .p (.agg [.v (.int .i64 v406.Old), .v (.int .i64 v406.New)])] = some (.p (.v (.int .i64 r409)), none) := fun H => similar_Match_c2_call h410
        by_cases h412 : r409 < (0 : Int)
        ·rw [if_pos h412] at h
         have h412' : decide (r409 < (0 : Int)) = true := decide_eq_true h412
         obtain ⟨r413, h414, h⟩ := bsm h
         have h415 : callD (callW Try.prog A0) A0 [.arr (encL en_Pair r397.2)] 55 [.ref 0 0 y0.length 2, iv s1, iv s2, iv (w64 ((w64 (s2 - (1 : Int))) - (w64 (r387.1 - s1)))), .p (.fn (.func 34) [])] = some (.p (.tup [.v (.int .i64 r413.1), .v (.bool r413.2.1)]), some [.arr (encL en_Pair r413.2.2)]) := by
             rw [show y0.length = r397.2.length from by omega]; exact (callD_put (dsw := [.ref 0 0 r397.2.length 2, iv s1, iv s2, iv (w64 ((w64 (s2 - (1 : Int))) - (w64 (r387.1 - s1)))), .p (.fn (.func 34) [])]) (ds' := [.ref 0 0 r397.2.length 2, iv s1, iv s2, iv (w64 ((w64 (s2 - (1 : Int))) - (w64 (r387.1 - s1)))), .p (.fn (.func 34) [])]) (i := 0) (ids := []) (o := .arr (encL en_Pair r397.2)) (os := []) (o' := .arr (encL en_Pair r413.2.2)) (os' := []) rfl (by kernel_rfl) (by kernel_rfl) (by kernel_rfl) (by kernel_rfl) (by kernel_rfl) (slices_partitionCmpFunc_34_call h414) rfl rfl).trans (by kernel_rfl)
         by_cases hw_ : r413.2.2.length = r397.2.length
         case neg => rw [if_neg hw_] at h; cases h
         rw [if_pos hw_] at h
         have h416 := hw_
         obtain ⟨q417, h418, h⟩ := bsm h
         have h419 : ∀ xo yo, binD Try.prog .quo 3 xo yo (.p (.v (.int .i64 (w64 (s2 - s1))))) (.p (.v (.int .i64 (8 : Int)))) = some (.p (.v (.int .i64 q417))) := fun xo yo => binD_quo_k h418
         by_cases h420 : (w64 (r413.1 - s1)) < (w64 (s2 - r413.1))
         ·rw [if_pos h420] at h
          have h420' : decide ((w64 (r413.1 - s1)) < (w64 (s2 - r413.1))) = true := decide_eq_true h420
          obtain ⟨r421, h422, h⟩ := bsm h
          have h423 : callD (callW Try.prog A0) A0 [.arr (encL en_Pair r413.2.2)] 45 [.ref 0 0 y0.length 2, iv s1, iv r413.1, iv s3, .p (.fn (.func 34) [])] = some (.p (.tup []), some [.arr (encL en_Pair r421)]) := by
              rw [show y0.length = r413.2.2.length from by omega]; exact (callD_put (dsw := [.ref 0 0 r413.2.2.length 2, iv s1, iv r413.1, iv s3, .p (.fn (.func 34) [])]) (ds' := [.ref 0 0 r413.2.2.length 2, iv s1, iv r413.1, iv s3, .p (.fn (.func 34) [])]) (i := 0) (ids := []) (o := .arr (encL en_Pair r413.2.2)) (os := []) (o' := .arr (encL en_Pair r421)) (os' := []) rfl (by kernel_rfl) (by kernel_rfl) (by kernel_rfl) (by kernel_rfl) (by kernel_rfl) (slices_pdqsortCmpFunc_rcall hrec h422) rfl rfl).trans (by kernel_rfl)
          by_cases hw_ : r421.length = r413.2.2.length
          case neg => rw [if_neg hw_] at h; cases h
          rw [if_pos hw_] at h
          have h424 := hw_
          obtain rfl := Option.some.inj h
          simp (maxSteps := 10000000) (implicitDefEqProofs := false) (disch := first | assumption | omega | exact rfl) only [bs, rs45, ls45_34, Nat.reduceAdd, ↓reduceIte, Int.reduceEq, Int.reduceLE, Int.reduceLT, loadD_pagg a39 z39, hg, ↓h376', ↓h381', h386, h389, ↓h391', h394, h396, h399, h401, ↓h402', h405, h408, h411, ↓h412', h415, h419, ↓h420', h423]
          exact ⟨rfl, by simp only [List.length_set, cpL_len, h390, h395, h400, h416, h424]; kernel_rfl⟩
         ·rw [if_neg h420] at h
          have h420' : decide ((w64 (r413.1 - s1)) < (w64 (s2 - r413.1))) = false := decide_eq_false h420
          obtain ⟨r425, h426, h⟩ := bsm h
          have h427 : callD (callW Try.prog A0) A0 [.arr (encL en_Pair r413.2.2)] 45 [.ref 0 0 y0.length 2, iv (w64 (r413.1 + (1 : Int))), iv s2, iv s3, .p (.fn (.func 34) [])] = some (.p (.tup []), some [.arr (encL en_Pair r425)]) := by
              rw [show y0.length = r413.2.2.length from by omega]; exact (callD_put (dsw := [.ref 0 0 r413.2.2.length 2, iv (w64 (r413.1 + (1 : Int))), iv s2, iv s3, .p (.fn (.func 34) [])]) (ds' := [.ref 0 0 r413.2.2.length 2, iv (w64 (r413.1 + (1 : Int))), iv s2, iv s3, .p (.fn (.func 34) [])]) (i := 0) (ids := []) (o := .arr (encL en_Pair r413.2.2)) (os := []) (o' := .arr (encL en_Pair r425)) (os' := []) rfl (by kernel_rfl) (by kernel_rfl) (by kernel_rfl) (by kernel_rfl) (by kernel_rfl) (slices_pdqsortCmpFunc_rcall hrec h426) rfl rfl).trans (by kernel_rfl)
          by_cases hw_ : r425.length = r413.2.2.length
          case neg => rw [if_neg hw_] at h; cases h
          rw [if_pos hw_] at h
          have h428 := hw_
          obtain rfl := Option.some.inj h
          simp (maxSteps := 10000000) (implicitDefEqProofs := false) (disch := first | assumption | omega | exact rfl) only [bs, rs45, ls45_34, Nat.reduceAdd, ↓reduceIte, Int.reduceEq, Int.reduceLE, Int.reduceLT, loadD_pagg a39 z39, hg, ↓h376', ↓h381', h386, h389, ↓h391', h394, h396, h399, h401, ↓h402', h405, h408, h411, ↓h412', h415, h419, ↓h420', h427]
          exact ⟨rfl, by simp only [List.length_set, cpL_len, h390, h395, h400, h416, h428]; kernel_rfl⟩
        ·rw [if_neg h412] at h
         have h412' : decide (r409 < (0 : Int)) = false := decide_eq_false h412
         obtain ⟨r429, h430, h⟩ := bsm h
         have h431 : callD (callW Try.prog A0) A0 [.arr (encL en_Pair r397.2)] 54 [.ref 0 0 y0.length 2, iv s1, iv s2, iv (w64 ((w64 (s2 - (1 : Int))) - (w64 (r387.1 - s1)))), .p (.fn (.func 34) [])] = some (.p (.v (.int .i64 r429.1)), some [.arr (encL en_Pair r429.2)]) := by
             rw [show y0.length = r397.2.length from by omega]; exact (callD_put (dsw := [.ref 0 0 r397.2.length 2, iv s1, iv s2, iv (w64 ((w64 (s2 - (1 : Int))) - (w64 (r387.1 - s1)))), .p (.fn (.func 34) [])]) (ds' := [.ref 0 0 r397.2.length 2, iv s1, iv s2, iv (w64 ((w64 (s2 - (1 : Int))) - (w64 (r387.1 - s1)))), .p (.fn (.func 34) [])]) (i := 0) (ids := []) (o := .arr (encL en_Pair r397.2)) (os := []) (o' := .arr (encL en_Pair r429.2)) (os' := []) rfl (by kernel_rfl) (by kernel_rfl) (by kernel_rfl) (by kernel_rfl) (by kernel_rfl) (slices_partitionEqualCmpFunc_34_call h430) rfl rfl).trans (by kernel_rfl)
         by_cases hw_ : r429.2.length = r397.2.length
         case neg => rw [if_neg hw_] at h; cases h
         rw [if_pos hw_] at h
         have h432 := hw_
         obtain rfl := Option.some.inj h
         simp (maxSteps := 10000000) (implicitDefEqProofs := false) (disch := first | assumption | omega | exact rfl) only [bs, rs45, ls45_34, Nat.reduceAdd, ↓reduceIte, Int.reduceEq, Int.reduceLE, Int.reduceLT, loadD_pagg a39 z39, hg, ↓h376', ↓h381', h386, h389, ↓h391', h394, h396, h399, h401, ↓h402', h405, h408, h411, ↓h412', h431]
         exact ⟨rfl, by simp only [List.length_set, cpL_len, h390, h395, h400, h432]; kernel_rfl⟩
       ·rw [if_neg h402] at h
        have h402' : decide ((0 : Int) < s1) = false := decide_eq_false h402
        obtain ⟨r433, h434, h⟩ := bsm h
        have h435 : callD (callW Try.prog A0) A0 [.arr (encL en_Pair r397.2)] 55 [.ref 0 0 y0.length 2, iv s1, iv s2, iv (w64 ((w64 (s2 - (1 : Int))) - (w64 (r387.1 - s1)))), .p (.fn (.func 34) [])] = some (.p (.tup [.v (.int .i64 r433.1), .v (.bool r433.2.1)]), some [.arr (encL en_Pair r433.2.2)]) := by
            rw [show y0.length = r397.2.length from by omega]; exact (callD_put (dsw := [.ref 0 0 r397.2.length 2, iv s1, iv s2, iv (w64 ((w64 (s2 - (1 : Int))) - (w64 (r387.1 - s1)))), .p (.fn (.func 34) [])]) (ds' := [.ref 0 0 r397.2.length 2, iv s1, iv s2, iv (w64 ((w64 (s2 - (1 : Int))) - (w64 (r387.1 - s1)))), .p (.fn (.func 34) [])]) (i := 0) (ids := []) (o := .arr (encL en_Pair r397.2)) (os := []) (o' := .arr (encL en_Pair r433.2.2)) (os' := []) rfl (by kernel_rfl) (by kernel_rfl) (by kernel_rfl) (by kernel_rfl) (by kernel_rfl) (slices_partitionCmpFunc_34_call h434) rfl rfl).trans (by kernel_rfl)
        by_cases hw_ : r433.2.2.length = r397.2.length
        case neg => rw [if_neg hw_] at h; cases h
        rw [if_pos hw_] at h
        have h436 := hw_
        obtain ⟨q437, h438, h⟩ := bsm h
        have h439 : ∀ xo yo, binD Try.prog .quo 3 xo yo (.p (.v (.int .i64 (w64 (s2 - s1))))) (.p (.v (.int .i64 (8 : Int)))) = some (.p (.v (.int .i64 q437))) := fun xo yo => binD_quo_k h438
        by_cases h440 : (w64 (r433.1 - s1)) < (w64 (s2 - r433.1))
        ·rw [if_pos h440] at h
         have h440' : decide ((w64 (r433.1 - s1)) < (w64 (s2 - r433.1))) = true := decide_eq_true h440
         obtain ⟨r441, h442, h⟩ := bsm h
         have h443 : callD (callW Try.prog A0) A0 [.arr (encL en_Pair r433.2.2)] 45 [.ref 0 0 y0.length 2, iv s1, iv r433.1, iv s3, .p (.fn (.func 34) [])] = some (.p (.tup []), some [.arr (encL en_Pair r441)]) := by
             rw [show y0.length = r433.2.2.length from by omega]; exact (callD_put (dsw := [.ref 0 0 r433.2.2.length 2, iv s1, iv r433.1, iv s3, .p (.fn (.func 34) [])]) (ds' := [.ref 0 0 r433.2.2.length 2, iv s1, iv r433.1, iv s3, .p (.fn (.func 34) [])]) (i := 0) (ids := []) (o := .arr (encL en_Pair r433.2.2)) (os := []) (o' := .arr (encL en_Pair r441)) (os' := []) rfl (by kernel_rfl) (by kernel_rfl) (by kernel_rfl) (by kernel_rfl) (by kernel_rfl) (slices_pdqsortCmpFunc_rcall hrec h442) rfl rfl).trans (by kernel_rfl)
         by_cases hw_ : r441.length = r433.2.2.length
         case neg => rw [if_neg hw_] at h; cases h
         rw [if_pos hw_] at h
         have h444 := hw_
         obtain rfl := Option.some.inj h
         simp (maxSteps := 10000000) (implicitDefEqProofs := false) (disch := first | assumption | omega | exact rfl) only [bs, rs45, ls45_34, Nat.reduceAdd, ↓reduceIte, Int.reduceEq, Int.reduceLE, Int.reduceLT, loadD_pagg a39 z39, hg, ↓h376', ↓h381', h386, h389, ↓h391', h394, h396, h399, h401, ↓h402', h435, h439, ↓h440', h443]
         exact ⟨rfl, by simp only [List.length_set, cpL_len, h390, h395, h400, h436, h444]; kernel_rfl⟩
        ·rw [if_neg h440] at h
         have h440' : decide ((w64 (r433.1 - s1)) < (w64 (s2 - r433.1))) = false := decide_eq_false h440
         obtain ⟨r445, h446, h⟩ := bsm h
         have h447 : callD (callW Try.prog A0) A0 [.arr (encL en_Pair r433.2.2)] 45 [.ref 0 0 y0.length 2, iv (w64 (r433.1 + (1 : Int))), iv s2, iv s3, .p (.fn (.func 34) [])] = some (.p (.tup []), some [.arr (encL en_Pair r445)]) := by
             rw [show y0.length = r433.2.2.length from by omega]; exact (callD_put (dsw := [.ref 0 0 r433.2.2.length 2, iv (w64 (r433.1 + (1 : Int))), iv s2, iv s3, .p (.fn (.func 34) [])]) (ds' := [.ref 0 0 r433.2.2.length 2, iv (w64 (r433.1 + (1 : Int))), iv s2, iv s3, .p (.fn (.func 34) [])]) (i := 0) (ids := []) (o := .arr (encL en_Pair r433.2.2)) (os := []) (o' := .arr (encL en_Pair r445)) (os' := []) rfl (by kernel_rfl) (by kernel_rfl) (by kernel_rfl) (by kernel_rfl) (by kernel_rfl) (slices_pdqsortCmpFunc_rcall hrec h446) rfl rfl).trans (by kernel_rfl)
         by_cases hw_ : r445.length = r433.2.2.length
         case neg => rw [if_neg hw_] at h; cases h
         rw [if_pos hw_] at h
         have h448 := hw_
         obtain rfl := Option.some.inj h
         simp (maxSteps := 10000000) (implicitDefEqProofs := false) (disch := first | assumption | omega | exact rfl) only [bs, rs45, ls45_34, Nat.reduceAdd, ↓reduceIte, Int.reduceEq, Int.reduceLE, Int.reduceLT, loadD_pagg a39 z39, hg, ↓h376', ↓h381', h386, h389, ↓h391', h394, h396, h399, h401, ↓h402', h435, h439, ↓h440', h447]
         exact ⟨rfl, by simp only [List.length_set, cpL_len, h390, h395, h400, h436, h448]; kernel_rfl⟩
     ·rw [if_neg h396] at h
      replace h396 := Bool.eq_false_iff.2 h396
      by_cases h449 : (0 : Int) < s1
      ·rw [if_pos h449] at h
       have h449' : decide ((0 : Int) < s1) = true := decide_eq_true h449
       obtain ⟨v450, h451, h⟩ := bsm h
       obtain ⟨h451a, h451b, _⟩ := rd_some h451
       have h452 := lk_arr_39 h451
       obtain ⟨v453, h454, h⟩ := bsm h
       obtain ⟨h454a, h454b, _⟩ := rd_some h454
       have h455 := lk_arr_39 h454
       obtain ⟨r456, h457, h⟩ := bsm h
       have h458 : ∀ H, callD (callW Try.prog A0) A0 H 34 [.p (.agg [.v (.int .i64 v450.Old), .v (.int .i64 v450.New)]), .p (.agg [.v (.int .i64 v453.Old), .v (.int .i64 v453.New)])] = some (.p (.v (.int .i64 r456)), none) := fun H => similar_Match_c2_call h457
       by_cases h459 : r456 < (0 : Int)
       ·rw [if_pos h459] at h
        have h459' : decide (r456 < (0 : Int)) = true := decide_eq_true h459
        obtain ⟨r460, h461, h⟩ := bsm h
        have h462 : callD (callW Try.prog A0) A0 [.arr (encL en_Pair r392)] 55 [.ref 0 0 y0.length 2, iv s1, iv s2, iv (w64 ((w64 (s2 - (1 : Int))) - (w64 (r387.1 - s1)))), .p (.fn (.func 34) [])] = some (.p (.tup [.v (.int .i64 r460.1), .v (.bool r460.2.1)]), some [.arr (encL en_Pair r460.2.2)]) := by
            rw [show y0.length = r392.length from by omega]; exact (callD_put (dsw := [.ref 0 0 r392.length 2, iv s1, iv s2, iv (w64 ((w64 (s2 - (1 : Int))) - (w64 (r387.1 - s1)))), .p (.fn (.func 34) [])]) (ds' := [.ref 0 0 r392.length 2, iv s1, iv s2, iv (w64 ((w64 (s2 - (1 : Int))) - (w64 (r387.1 - s1)))), .p (.fn (.func 34) [])]) (i := 0) (ids := []) (o := .arr (encL en_Pair r392)) (os := []) (o' := .arr (encL en_Pair r460.2.2)) (os' := []) rfl (by kernel_rfl) (by kernel_rfl) (by kernel_rfl) (by kernel_rfl) (by kernel_rfl) (slices_partitionCmpFunc_34_call h461) rfl rfl).trans (by kernel_rfl)
        by_cases hw_ : r460.2.2.length = r392.length
        case neg => rw [if_neg hw_] at h; cases h
        rw [if_pos hw_] at h
        have h463 := hw_
        obtain ⟨q464, h465, h⟩ := bsm h
        have h466 : ∀ xo yo, binD Try.prog .quo 3 xo yo (.p (.v (.int .i64 (w64 (s2 - s1))))) (.p (.v (.int .i64 (8 : Int)))) = some (.p (.v (.int .i64 q464))) := fun xo yo => binD_quo_k h465
        by_cases h467 : (w64 (r460.1 - s1)) < (w64 (s2 - r460.1))
        ·rw [if_pos h467] at h
         have h467' : decide ((w64 (r460.1 - s1)) < (w64 (s2 - r460.1))) = true := decide_eq_true h467
         obtain ⟨r468, h469, h⟩ := bsm h
         have h470 : callD (callW Try.prog A0) A0 [.arr (encL en_Pair r460.2.2)] 45 [.ref 0 0 y0.length 2, iv s1, iv r460.1, iv s3, .p (.fn (.func 34) [])] = some (.p (.tup []), some [.arr (encL en_Pair r468)]) := by
             rw [show y0.length = r460.2.2.length from by omega]; exact (callD_put (dsw := [.ref 0 0 r460.2.2.length 2, iv s1, iv r460.1, iv s3, .p (.fn (.func 34) [])]) (ds' := [.ref 0 0 r460.2.2.length 2, iv s1, iv r460.1, iv s3, .p (.fn (.func 34) [])]) (i := 0) (ids := []) (o := .arr (encL en_Pair r460.2.2)) (os := []) (o' := .arr (encL en_Pair r468)) (os' := []) rfl (by kernel_rfl) (by kernel_rfl) (by kernel_rfl) (by kernel_rfl) (by kernel_rfl) (slices_pdqsortCmpFunc_rcall hrec h469) rfl rfl).trans (by kernel_rfl)
         by_cases hw_ : r468.length = r460.2.2.length
         case neg => rw [if_neg hw_] at h; cases h
         rw [if_pos hw_] at h
         have h471 := hw_
         obtain rfl := Option.some.inj h
         simp (maxSteps := 10000000) (implicitDefEqProofs := false) (disch := first | assumption | omega | exact rfl) only [bs, rs45, ls45_34, Nat.reduceAdd, ↓reduceIte, Int.reduceEq, Int.reduceLE, Int.reduceLT, loadD_pagg a39 z39, hg, ↓h376', ↓h381', h386, h389, ↓h391', h394, h396, ↓h449', h452, h455, h458, ↓h459', h462, h466, ↓h467', h470]
         exact ⟨rfl, by simp only [List.length_set, cpL_len, h390, h395, h463, h471]; kernel_rfl⟩
        ·rw [if_neg h467] at h
         have h467' : decide ((w64 (r460.1 - s1)) < (w64 (s2 - r460.1))) = false := decide_eq_false h467
         obtain ⟨r472, h473, h⟩ := bsm h
         have h474 : callD (callW Try.prog A0) A0 [.arr (encL en_Pair r460.2.2)] 45 [.ref 0 0 y0.length 2, iv (w64 (r460.1 + (1 : Int))), iv s2, iv s3, .p (.fn (.func 34) [])] = some (.p (.tup []), some [.arr (encL en_Pair r472)]) := by
             rw [show y0.length = r460.2.2.length from by omega]; exact (callD_put (dsw := [.ref 0 0 r460.2.2.length 2, iv (w64 (r460.1 + (1 : Int))), iv s2, iv s3, .p (.fn (.func 34) [])]) (ds' := [.ref 0 0 r460.2.2.length 2, iv (w64 (r460.1 + (1 : Int))), iv s2, iv s3, .p (.fn (.func 34) [])]) (i := 0) (ids := []) (o := .arr (encL en_Pair r460.2.2)) (os := []) (o' := .arr (encL en_Pair r472)) (os' := []) rfl (by kernel_rfl) (by kernel_rfl) (by kernel_rfl) (by kernel_rfl) (by kernel_rfl) (slices_pdqsortCmpFunc_rcall hrec h473) rfl rfl).trans (by kernel_rfl)
         by_cases hw_ : r472.length = r460.2.2.length
         case neg => rw [if_neg hw_] at h; cases h
         rw [if_pos hw_] at h
         have h475 := hw_
         obtain rfl := Option.some.inj h
         simp (maxSteps := 10000000) (implicitDefEqProofs := false) (disch := first | assumption | omega | exact rfl) only [bs, rs45, ls45_34, Nat.reduceAdd, ↓reduceIte, Int.reduceEq, Int.reduceLE, Int.reduceLT, loadD_pagg a39 z39, hg, ↓h376', ↓h381', h386, h389, ↓h391', h394, h396, ↓h449', h452, h455, h458, ↓h459', h462, h466, ↓h467', h474]
         exact ⟨rfl, by simp only [List.length_set, cpL_len, h390, h395, h463, h475]; kernel_rfl⟩
       ·rw [if_neg h459] at h
        have h459' : decide (r456 < (0 : Int)) = false := decide_eq_false h459
        obtain ⟨r476, h477, h⟩ := bsm h
        have h478 : callD (callW Try.prog A0) A0 [.arr (encL en_Pair r392)] 54 [.ref 0 0 y0.length 2, iv s1, iv s2, iv (w64 ((w64 (s2 - (1 : Int))) - (w64 (r387.1 - s1)))), .p (.fn (.func 34) [])] = some (.p (.v (.int .i64 r476.1)), some [.arr (encL en_Pair r476.2)]) := by
            rw [show y0.length = r392.length from by omega]; exact (callD_put (dsw := [.ref 0 0 r392.length 2, iv s1, iv s2, iv (w64 ((w64 (s2 - (1 : Int))) - (w64 (r387.1 - s1)))), .p (.fn (.func 34) [])]) (ds' := [.ref 0 0 r392.length 2, iv s1, iv s2, iv (w64 ((w64 (s2 - (1 : Int))) - (w64 (r387.1 - s1)))), .p (.fn (.func 34) [])]) (i := 0) (ids := []) (o := .arr (encL en_Pair r392)) (os := []) (o' := .arr (encL en_Pair r476.2)) (os' := []) rfl (by kernel_rfl) (by kernel_rfl) (by kernel_rfl) (by kernel_rfl) (by kernel_rfl) (slices_partitionEqualCmpFunc_34_call h477) rfl rfl).trans (by kernel_rfl)
        by_cases hw_ : r476.2.length = r392.length
        case neg => rw [if_neg hw_] at h; cases h
        rw [if_pos hw_] at h
        have h479 := hw_
        obtain rfl := Option.some.inj h
        simp (maxSteps := 10000000) (implicitDefEqProofs := false) (disch := first | assumption | omega | exact rfl) only [bs, rs45, ls45_34, Nat.reduceAdd, ↓reduceIte, Int.reduceEq, Int.reduceLE, Int.reduceLT, loadD_pagg a39 z39, hg, ↓h376', ↓h381', h386, h389, ↓h391', h394, h396, ↓h449', h452, h455, h458, ↓h459', h478]
        exact ⟨rfl, by simp only [List.length_set, cpL_len, h390, h395, h479]; kernel_rfl⟩
      ·rw [if_neg h449] at h
       have h449' : decide ((0 : Int) < s1) = false := decide_eq_false h449
       obtain ⟨r480, h481, h⟩ := bsm h
       have h482 : callD (callW Try.prog A0) A0 [.arr (encL en_Pair r392)] 55 [.ref 0 0 y0.length 2, iv s1, iv s2, iv (w64 ((w64 (s2 - (1 : Int))) - (w64 (r387.1 - s1)))), .p (.fn (.func 34) [])] = some (.p (.tup [.v (.int .i64 r480.1), .v (.bool r480.2.1)]), some [.arr (encL en_Pair r480.2.2)]) := by
           rw [show y0.length = r392.length from by omega]; exact (callD_put (dsw := [.ref 0 0 r392.length 2, iv s1, iv s2, iv (w64 ((w64 (s2 - (1 : Int))) - (w64 (r387.1 - s1)))), .p (.fn (.func 34) [])]) (ds' := [.ref 0 0 r392.length 2, iv s1, iv s2, iv (w64 ((w64 (s2 - (1 : Int))) - (w64 (r387.1 - s1)))), .p (.fn (.func 34) [])]) (i := 0) (ids := []) (o := .arr (encL en_Pair r392)) (os := []) (o' := .arr (encL en_Pair r480.2.2)) (os' := []) rfl (by kernel_rfl) (by kernel_rfl) (by kernel_rfl) (by kernel_rfl) (by kernel_rfl) (slices_partitionCmpFunc_34_call h481) rfl rfl).trans (by kernel_rfl)
       by_cases hw_ : r480.2.2.length = r392.length
       case neg => rw [if_neg hw_] at h; cases h
       rw [if_pos hw_] at h
       have h483 := hw_
       obtain ⟨q484, h485, h⟩ := bsm h
       have h486 : ∀ xo yo, binD Try.prog .quo 3 xo yo (.p (.v (.int .i64 (w64 (s2 - s1))))) (.p (.v (.int .i64 (8 : Int)))) = some (.p (.v (.int .i64 q484))) := fun xo yo => binD_quo_k h485
       by_cases h487 : (w64 (r480.1 - s1)) < (w64 (s2 - r480.1))
       ·rw [if_pos h487] at h
        have h487' : decide ((w64 (r480.1 - s1)) < (w64 (s2 - r480.1))) = true := decide_eq_true h487
        obtain ⟨r488, h489, h⟩ := bsm h
        have h490 : callD (callW Try.prog A0) A0 [.arr (encL en_Pair r480.2.2)] 45 [.ref 0 0 y0.length 2, iv s1, iv r480.1, iv s3, .p (.fn (.func 34) [])] = some (.p (.tup []), some [.arr (encL en_Pair r488)]) := by
            rw [show y0.length = r480.2.2.length from by omega]; exact (callD_put (dsw := [.ref 0 0 r480.2.2.length 2, iv s1, iv r480.1, iv s3, .p (.fn (.func 34) [])]) (ds' := [.ref 0 0 r480.2.2.length 2, iv s1, iv r480.1, iv s3, .p (.fn (.func 34) [])]) (i := 0) (ids := []) (o := .arr (encL en_Pair r480.2.2)) (os := []) (o' := .arr (encL en_Pair r488)) (os' := []) rfl (by kernel_rfl) (by kernel_rfl) (by kernel_rfl) (by kernel_rfl) (by kernel_rfl) (slices_pdqsortCmpFunc_rcall hrec h489) rfl rfl).trans (by kernel_rfl)
        by_cases hw_ : r488.length = r480.2.2.length
        case neg => rw [if_neg hw_] at h; cases h
        rw [if_pos hw_] at h
        have h491 := hw_
        obtain rfl := Option.some.inj h
        simp (maxSteps := 10000000) (implicitDefEqProofs := false) (disch := first | assumption | omega | exact rfl) only [bs, rs45, ls45_34, Nat.reduceAdd, ↓reduceIte, Int.reduceEq, Int.reduceLE, Int.reduceLT, loadD_pagg a39 z39, hg, ↓h376', ↓h381', h386, h389, ↓h391', h394, h396, ↓h449', h482, h486, ↓h487', h490]
        exact ⟨rfl, by simp only [List.length_set, cpL_len, h390, h395, h483, h491]; kernel_rfl⟩
       ·rw [if_neg h487] at h
        have h487' : decide ((w64 (r480.1 - s1)) < (w64 (s2 - r480.1))) = false := decide_eq_false h487
        obtain ⟨r492, h493, h⟩ := bsm h
        have h494 : callD (callW Try.prog A0) A0 [.arr (encL en_Pair r480.2.2)] 45 [.ref 0 0 y0.length 2, iv (w64 (r480.1 + (1 : Int))), iv s2, iv s3, .p (.fn (.func 34) [])] = some (.p (.tup []), some [.arr (encL en_Pair r492)]) := by
            rw [show y0.length = r480.2.2.length from by omega]; exact (callD_put (dsw := [.ref 0 0 r480.2.2.length 2, iv (w64 (r480.1 + (1 : Int))), iv s2, iv s3, .p (.fn (.func 34) [])]) (ds' := [.ref 0 0 r480.2.2.length 2, iv (w64 (r480.1 + (1 : Int))), iv s2, iv s3, .p (.fn (.func 34) [])]) (i := 0) (ids := []) (o := .arr (encL en_Pair r480.2.2)) (os := []) (o' := .arr (encL en_Pair r492)) (os' := []) rfl (by kernel_rfl) (by kernel_rfl) (by kernel_rfl) (by kernel_rfl) (by kernel_rfl) (slices_pdqsortCmpFunc_rcall hrec h493) rfl rfl).trans (by kernel_rfl)
        by_cases hw_ : r492.length = r480.2.2.length
        case neg => rw [if_neg hw_] at h; cases h
        rw [if_pos hw_] at h
        have h495 := hw_
        obtain rfl := Option.some.inj h
        simp (maxSteps := 10000000) (implicitDefEqProofs := false) (disch := first | assumption | omega | exact rfl) only [bs, rs45, ls45_34, Nat.reduceAdd, ↓reduceIte, Int.reduceEq, Int.reduceLE, Int.reduceLT, loadD_pagg a39 z39, hg, ↓h376', ↓h381', h386, h389, ↓h391', h394, h396, ↓h449', h482, h486, ↓h487', h494]
        exact ⟨rfl, by simp only [List.length_set, cpL_len, h390, h395, h483, h495]; kernel_rfl⟩
    ·rw [if_neg h391] at h
     have h391' : decide (r387.2.1 = (2 : Int)) = false := decide_eq_false h391
     by_cases h496 : s11 = true
     ·rw [if_pos h496] at h
      by_cases h497 : r387.2.1 = (1 : Int)
      ·rw [if_pos h497] at h
       have h497' : decide (r387.2.1 = (1 : Int)) = true := decide_eq_true h497
       obtain ⟨r498, h499, h⟩ := bsm h
       have h500 : callD (callW Try.prog A0) A0 [.arr (encL en_Pair r387.2.2)] 53 [.ref 0 0 y0.length 2, iv s1, iv s2, .p (.fn (.func 34) [])] = some (.p (.v (.bool r498.1)), some [.arr (encL en_Pair r498.2)]) := by
           rw [show y0.length = r387.2.2.length from by omega]; exact (callD_put (dsw := [.ref 0 0 r387.2.2.length 2, iv s1, iv s2, .p (.fn (.func 34) [])]) (ds' := [.ref 0 0 r387.2.2.length 2, iv s1, iv s2, .p (.fn (.func 34) [])]) (i := 0) (ids := []) (o := .arr (encL en_Pair r387.2.2)) (os := []) (o' := .arr (encL en_Pair r498.2)) (os' := []) rfl (by kernel_rfl) (by kernel_rfl) (by kernel_rfl) (by kernel_rfl) (by kernel_rfl) (slices_partialInsertionSortCmpFunc_34_call h499) rfl rfl).trans (by kernel_rfl)
       by_cases hw_ : r498.2.length = r387.2.2.length
       case neg => rw [if_neg hw_] at h; cases h
       rw [if_pos hw_] at h
       have h501 := hw_
       by_cases h502 : r498.1 = true
       ·rw [if_pos h502] at h
        obtain rfl := Option.some.inj h
        simp (maxSteps := 10000000) (implicitDefEqProofs := false) (disch := first | assumption | omega | exact rfl) only [bs, rs45, ls45_34, Nat.reduceAdd, ↓reduceIte, Int.reduceEq, Int.reduceLE, Int.reduceLT, loadD_pagg a39 z39, hg, ↓h376', ↓h381', h386, h389, ↓h391', h496, ↓h497', h500, h502]
        refine ⟨rfl, ?_⟩
        show _ = _
        kernel_rfl
       ·rw [if_neg h502] at h
        replace h502 := Bool.eq_false_iff.2 h502
        by_cases h503 : (0 : Int) < s1
        ·rw [if_pos h503] at h
         have h503' : decide ((0 : Int) < s1) = true := decide_eq_true h503
         obtain ⟨v504, h505, h⟩ := bsm h
         obtain ⟨h505a, h505b, _⟩ := rd_some h505
         have h506 := lk_arr_39 h505
         obtain ⟨v507, h508, h⟩ := bsm h
         obtain ⟨h508a, h508b, _⟩ := rd_some h508
         have h509 := lk_arr_39 h508
         obtain ⟨r510, h511, h⟩ := bsm h
         have h512 : ∀ H, callD (callW Try.prog A0) A0 H 34 [.p (.agg [.v (.int .i64 v504.Old), .v (.int .i64 v504.New)]), .p (.agg [.v (.int .i64 v507.Old), .v (.int .i64 v507.New)])] = some (.p (.v (.int .i64 r510)), none) := fun H => similar_Match_c2_call h511
         by_cases h513 : r510 < (0 : Int)
         ·rw [if_pos h513] at h
          have h513' : decide (r510 < (0 : Int)) = true := decide_eq_true h513
          obtain ⟨r514, h515, h⟩ := bsm h
          have h516 : callD (callW Try.prog A0) A0 [.arr (encL en_Pair r498.2)] 55 [.ref 0 0 y0.length 2, iv s1, iv s2, iv r387.1, .p (.fn (.func 34) [])] = some (.p (.tup [.v (.int .i64 r514.1), .v (.bool r514.2.1)]), some [.arr (encL en_Pair r514.2.2)]) := by
              rw [show y0.length = r498.2.length from by omega]; exact (callD_put (dsw := [.ref 0 0 r498.2.length 2, iv s1, iv s2, iv r387.1, .p (.fn (.func 34) [])]) (ds' := [.ref 0 0 r498.2.length 2, iv s1, iv s2, iv r387.1, .p (.fn (.func 34) [])]) (i := 0) (ids := []) (o := .arr (encL en_Pair r498.2)) (os := []) (o' := .arr (encL en_Pair r514.2.2)) (os' := []) rfl (by kernel_rfl) (by kernel_rfl) (by kernel_rfl) (by kernel_rfl) (by kernel_rfl) (slices_partitionCmpFunc_34_call h515) rfl rfl).trans (by kernel_rfl)
          by_cases hw_ : r514.2.2.length = r498.2.length
          case neg => rw [if_neg hw_] at h; cases h
          rw [if_pos hw_] at h
          have h517 := hw_
          obtain ⟨q518, h519, h⟩ := bsm h
          have h520 : ∀ xo yo, binD Try.prog .quo 3 xo yo (.p (.v (.int .i64 (w64 (s2 - s1))))) (.p (.v (.int .i64 (8 : Int)))) = some (.p (.v (.int .i64 q518))) := fun xo yo => binD_quo_k h519
          by_cases h521 : (w64 (r514.1 - s1)) < (w64 (s2 - r514.1))
          ·rw [if_pos h521] at h
           have h521' : decide ((w64 (r514.1 - s1)) < (w64 (s2 - r514.1))) = true := decide_eq_true h521
           obtain ⟨r522, h523, h⟩ := bsm h
           have h524 : callD (callW Try.prog A0) A0 [.arr (encL en_Pair r514.2.2)] 45 [.ref 0 0 y0.length 2, iv s1, iv r514.1, iv s3, .p (.fn (.func 34) [])] = some (.p (.tup []), some [.arr (encL en_Pair r522)]) := by
               rw [show y0.length = r514.2.2.length from by omega]; exact (callD_put (dsw := [.ref 0 0 r514.2.2.length 2, iv s1, iv r514.1, iv s3, .p (.fn (.func 34) [])]) (ds' := [.ref 0 0 r514.2.2.length 2, iv s1, iv r514.1, iv s3, .p (.fn (.func 34) [])]) (i := 0) (ids := []) (o := .arr (encL en_Pair r514.2.2)) (os := []) (o' := .arr (encL en_Pair r522)) (os' := []) rfl (by kernel_rfl) (by kernel_rfl) (by kernel_rfl) (by kernel_rfl) (by kernel_rfl) (slices_pdqsortCmpFunc_rcall hrec h523) rfl rfl).trans (by kernel_rfl)
           by_cases hw_ : r522.length = r514.2.2.length
           case neg => rw [if_neg hw_] at h; cases h
           rw [if_pos hw_] at h
           have h525 := hw_
           obtain rfl := Option.some.inj h
           simp (maxSteps := 10000000) (implicitDefEqProofs := false) (disch := first | assumption | omega | exact rfl) only [bs, rs45, ls45_34, Nat.reduceAdd, ↓reduceIte, Int.reduceEq, Int.reduceLE, Int.reduceLT, loadD_pagg a39 z39, hg, ↓h376', ↓h381', h386, h389, ↓h391', h496, ↓h497', h500, h502, ↓h503', h506, h509, h512, ↓h513', h516, h520, ↓h521', h524]
           exact ⟨rfl, by simp only [List.length_set, cpL_len, h390, h501, h517, h525]; kernel_rfl⟩
          ·rw [if_neg h521] at h
           have h521' : decide ((w64 (r514.1 - s1)) < (w64 (s2 - r514.1))) = false := decide_eq_false h521
           obtain ⟨r526, h527, h⟩ := bsm h
           have h528 : callD (callW Try.prog A0) A0 [.arr (encL en_Pair r514.2.2)] 45 [.ref 0 0 y0.length 2, iv (w64 (r514.1 + (1 : Int))), iv s2, iv s3, .p (.fn (.func 34) [])] = some (.p (.tup []), some [.arr (encL en_Pair r526)]) := by
               rw [show y0.length = r514.2.2.length from by omega]; exact (callD_put (dsw := [.ref 0 0 r514.2.2.length 2, iv (w64 (r514.1 + (1 : Int))), iv s2, iv s3, .p (.fn (.func 34) [])]) (ds' := [.ref 0 0 r514.2.2.length 2, iv (w64 (r514.1 + (1 : Int))), iv s2, iv s3, .p (.fn (.func 34) [])]) (i := 0) (ids := []) (o := .arr (encL en_Pair r514.2.2)) (os := []) (o' := .arr (encL en_Pair r526)) (os' := []) rfl (by kernel_rfl) (by kernel_rfl) (by kernel_rfl) (by kernel_rfl) (by kernel_rfl) (slices_pdqsortCmpFunc_rcall hrec h527) rfl rfl).trans (by kernel_rfl)
           by_cases hw_ : r526.length = r514.2.2.length
           case neg => rw [if_neg hw_] at h; cases h
           rw [if_pos hw_] at h
           have h529 := hw_
           obtain rfl := Option.some.inj h
           simp (maxSteps := 10000000) (implicitDefEqProofs := false) (disch := first | assumption | omega | exact rfl) only [bs, rs45, ls45_34, Nat.reduceAdd, ↓reduceIte, Int.reduceEq, Int.reduceLE, Int.reduceLT, loadD_pagg a39 z39, hg, ↓h376', ↓h381', h386, h389, ↓h391', h496, ↓h497', h500, h502, ↓h503', h506, h509, h512, ↓h513', h516, h520, ↓h521', h528]
           exact ⟨rfl, by simp only [List.length_set, cpL_len, h390, h501, h517, h529]; kernel_rfl⟩
         ·rw [if_neg h513] at h
          have h513' : decide (r510 < (0 : Int)) = false := decide_eq_false h513
          obtain ⟨r530, h531, h⟩ := bsm h
          have h532 : callD (callW Try.prog A0) A0 [.arr (encL en_Pair r498.2)] 54 [.ref 0 0 y0.length 2, iv s1, iv s2, iv r387.1, .p (.fn (.func 34) [])] = some (.p (.v (.int .i64 r530.1)), some [.arr (encL en_Pair r530.2)]) := by
              rw [show y0.length = r498.2.length from by omega]; exact (callD_put (dsw := [.ref 0 0 r498.2.length 2, iv s1, iv s2, iv r387.1, .p (.fn (.func 34) [])]) (ds' := [.ref 0 0 r498.2.length 2, iv s1, iv s2, iv r387.1, .p (.fn (.func 34) [])]) (i := 0) (ids := []) (o := .arr (encL en_Pair r498.2)) (os := []) (o' := .arr (encL en_Pair r530.2)) (os' := []) rfl (by kernel_rfl) (by kernel_rfl) (by kernel_rfl) (by kernel_rfl) (by kernel_rfl) (slices_partitionEqualCmpFunc_34_call h531) rfl rfl).trans (by kernel_rfl)
          by_cases hw_ : r530.2.length = r498.2.length
          case neg => rw [if_neg hw_] at h; cases h
          rw [if_pos hw_] at h
          have h533 := hw_
          obtain rfl := Option.some.inj h
          simp (maxSteps := 10000000) (implicitDefEqProofs := false) (disch := first | assumption | omega | exact rfl) only [bs, rs45, ls45_34, Nat.reduceAdd, ↓reduceIte, Int.reduceEq, Int.reduceLE, Int.reduceLT, loadD_pagg a39 z39, hg, ↓h376', ↓h381', h386, h389, ↓h391', h496, ↓h497', h500, h502, ↓h503', h506, h509, h512, ↓h513', h532]
          exact ⟨rfl, by simp only [List.length_set, cpL_len, h390, h501, h533]; kernel_rfl⟩
        ·rw [if_neg h503] at h
         have h503' : decide ((0 : Int) < s1) = false := decide_eq_false h503
         obtain ⟨r534, h535, h⟩ := bsm h
         have h536 : callD (callW Try.prog A0) A0 [.arr (encL en_Pair r498.2)] 55 [.ref 0 0 y0.length 2, iv s1, iv s2, iv r387.1, .p (.fn (.func 34) [])] = some (.p (.tup [.v (.int .i64 r534.1), .v (.bool r534.2.1)]), some [.arr (encL en_Pair r534.2.2)]) := by
             rw [show y0.length = r498.2.length from by omega]; exact (callD_put (dsw := [.ref 0 0 r498.2.length 2, iv s1, iv s2, iv r387.1, .p (.fn (.func 34) [])]) (ds' := [.ref 0 0 r498.2.length 2, iv s1, iv s2, iv r387.1, .p (.fn (.func 34) [])]) (i := 0) (ids := []) (o := .arr (encL en_Pair r498.2)) (os := []) (o' := .arr (encL en_Pair r534.2.2)) (os' := []) rfl (by kernel_rfl) (by kernel_rfl) (by kernel_rfl) (by kernel_rfl) (by kernel_rfl) (slices_partitionCmpFunc_34_call h535) rfl rfl).trans (by kernel_rfl)
         by_cases hw_ : r534.2.2.length = r498.2.length
         case neg => rw [if_neg hw_] at h; cases h
         rw [if_pos hw_] at h
         have h537 := hw_
         obtain ⟨q538, h539, h⟩ := bsm h
         have h540 : ∀ xo yo, binD Try.prog .quo 3 xo yo (.p (.v (.int .i64 (w64 (s2 - s1))))) (.p (.v (.int .i64 (8 : Int)))) = some (.p (.v (.int .i64 q538))) := fun xo yo => binD_quo_k h539
         by_cases h541 : (w64 (r534.1 - s1)) < (w64 (s2 - r534.1))
         ·rw [if_pos h541] at h
          have h541' : decide ((w64 (r534.1 - s1)) < (w64 (s2 - r534.1))) = true := decide_eq_true h541
          obtain ⟨r542, h543, h⟩ := bsm h
          have h544 : callD (callW Try.prog A0) A0 [.arr (encL en_Pair r534.2.2)] 45 [.ref 0 0 y0.length 2, iv s1, iv r534.1, iv s3, .p (.fn (.func 34) [])] = some (.p (.tup []), some [.arr (encL en_Pair r542)]) := by
              rw [show y0.length = r534.2.2.length from by omega]; exact (callD_put (dsw := [.ref 0 0 r534.2.2.length 2, iv s1, iv r534.1, iv s3, .p (.fn (.func 34) [])]) (ds' := [.ref 0 0 r534.2.2.length 2, iv s1, iv r534.1, iv s3, .p (.fn (.func 34) [])]) (i := 0) (ids := []) (o := .arr (encL en_Pair r534.2.2)) (os := []) (o' := .arr (encL en_Pair r542)) (os' := []) rfl (by kernel_rfl) (by kernel_rfl) (by kernel_rfl) (by kernel_rfl) (by kernel_rfl) (slices_pdqsortCmpFunc_rcall hrec h543) rfl rfl).trans (by kernel_rfl)
          by_cases hw_ : r542.length = r534.2.2.length
          case neg => rw [if_neg hw_] at h; cases h
          rw [if_pos hw_] at h
          have h545 := hw_
          obtain rfl := Option.some.inj h
          simp (maxSteps := 10000000) (implicitDefEqProofs := false) (disch := first | assumption | omega | exact rfl) only [bs, rs45, ls45_34, Nat.reduceAdd, ↓reduceIte, Int.reduceEq, Int.reduceLE, Int.reduceLT, loadD_pagg a39 z39, hg, ↓h376', ↓h381', h386, h389, ↓h391', h496, ↓h497', h500, h502, ↓h503', h536, h540, ↓h541', h544]
          exact ⟨rfl, by simp only [List.length_set, cpL_len, h390, h501, h537, h545]; kernel_rfl⟩
         ·rw [if_neg h541] at h
          have h541' : decide ((w64 (r534.1 - s1)) < (w64 (s2 - r534.1))) = false := decide_eq_false h541
          obtain ⟨r546, h547, h⟩ := bsm h
          have h548 : callD (callW Try.prog A0) A0 [.arr (encL en_Pair r534.2.2)] 45 [.ref 0 0 y0.length 2, iv (w64 (r534.1 + (1 : Int))), iv s2, iv s3, .p (.fn (.func 34) [])] = some (.p (.tup []), some [.arr (encL en_Pair r546)]) := by
              rw [show y0.length = r534.2.2.length from by omega]; exact (callD_put (dsw := [.ref 0 0 r534.2.2.length 2, iv (w64 (r534.1 + (1 : Int))), iv s2, iv s3, .p (.fn (.func 34) [])]) (ds' := [.ref 0 0 r534.2.2.length 2, iv (w64 (r534.1 + (1 : Int))), iv s2, iv s3, .p (.fn (.func 34) [])]) (i := 0) (ids := []) (o := .arr (encL en_Pair r534.2.2)) (os := []) (o' := .arr (encL en_Pair r546)) (os' := []) rfl (by kernel_rfl) (by kernel_rfl) (by kernel_rfl) (by kernel_rfl) (by kernel_rfl) (slices_pdqsortCmpFunc_rcall hrec h547) rfl rfl).trans (by kernel_rfl)
          by_cases hw_ : r546.length = r534.2.2.length
          case neg => rw [if_neg hw_] at h; cases h
          rw [if_pos hw_] at h
          have h549 := hw_
          obtain rfl := Option.some.inj h
          simp (maxSteps := 10000000) (implicitDefEqProofs := false) (disch := first | assumption | omega | exact rfl) only [bs, rs45, ls45_34, Nat.reduceAdd, ↓reduceIte, Int.reduceEq, Int.reduceLE, Int.reduceLT, loadD_pagg a39 z39, hg, ↓h376', ↓h381', h386, h389, ↓h391', h496, ↓h497', h500, h502, ↓h503', h536, h540, ↓h541', h548]
          exact ⟨rfl, by simp only [List.length_set, cpL_len, h390, h501, h537, h549]; kernel_rfl⟩
      ·rw [if_neg h497] at h
       have h497' : decide (r387.2.1 = (1 : Int)) = false := decide_eq_false h497
       by_cases h550 : (0 : Int) < s1
       ·rw [if_pos h550] at h
        have h550' : decide ((0 : Int) < s1) = true := decide_eq_true h550
        obtain ⟨v551, h552, h⟩ := bsm h
        obtain ⟨h552a, h552b, _⟩ := rd_some h552
        have h553 := lk_arr_39 h552
        obtain ⟨v554, h555, h⟩ := bsm h
        obtain ⟨h555a, h555b, _⟩ := rd_some h555
        have h556 := lk_arr_39 h555
        obtain ⟨r557, h558, h⟩ := bsm h
        have h559 : ∀ H, callD (callW Try.prog A0) A0 H 34 [.p (.agg [.v (.int .i64 v551.Old), .v (.int .i64 v551.New)]), .p (.agg [.v (.int .i64 v554.Old), .v (.int .i64 v554.New)])] = some (.p (.v (.int .i64 r557)), none) := fun H => similar_Match_c2_call h558
        by_cases h560 : r557 < (0 : Int)
        ·rw [if_pos h560] at h
         have h560' : decide (r557 < (0 : Int)) = true := decide_eq_true h560
         obtain ⟨r561, h562, h⟩ := bsm h
         have h563 : callD (callW Try.prog A0) A0 [.arr (encL en_Pair r387.2.2)] 55 [.ref 0 0 y0.length 2, iv s1, iv s2, iv r387.1, .p (.fn (.func 34) [])] = some (.p (.tup [.v (.int .i64 r561.1), .v (.bool r561.2.1)]), some [.arr (encL en_Pair r561.2.2)]) := by
             rw [show y0.length = r387.2.2.length from by omega]; exact (callD_put (dsw := [.ref 0 0 r387.2.2.length 2, iv s1, iv s2, iv r387.1, .p (.fn (.func 34) [])]) (ds' := [.ref 0 0 r387.2.2.length 2, iv s1, iv s2, iv r387.1, .p (.fn (.func 34) [])]) (i := 0) (ids := []) (o := .arr (encL en_Pair r387.2.2)) (os := []) (o' := .arr (encL en_Pair r561.2.2)) (os' := []) rfl (by kernel_rfl) (by kernel_rfl) (by kernel_rfl) (by kernel_rfl) (by kernel_rfl) (slices_partitionCmpFunc_34_call h562) rfl rfl).trans (by kernel_rfl)
         by_cases hw_ : r561.2.2.length = r387.2.2.length
         case neg => rw [if_neg hw_] at h; cases h
         rw [if_pos hw_] at h
         have h564 := hw_
         obtain ⟨q565, h566, h⟩ := bsm h
         have h567 : ∀ xo yo, binD Try.prog .quo 3 xo yo (.p (.v (.int .i64 (w64 (s2 - s1))))) (.p (.v (.int .i64 (8 : Int)))) = some (.p (.v (.int .i64 q565))) := fun xo yo => binD_quo_k h566
         by_cases h568 : (w64 (r561.1 - s1)) < (w64 (s2 - r561.1))
         ·rw [if_pos h568] at h
          have h568' : decide ((w64 (r561.1 - s1)) < (w64 (s2 - r561.1))) = true := decide_eq_true h568
          obtain ⟨r569, h570, h⟩ := bsm h
          have h571 : callD (callW Try.prog A0) A0 [.arr (encL en_Pair r561.2.2)] 45 [.ref 0 0 y0.length 2, iv s1, iv r561.1, iv s3, .p (.fn (.func 34) [])] = some (.p (.tup []), some [.arr (encL en_Pair r569)]) := by
              rw [show y0.length = r561.2.2.length from by omega]; exact (callD_put (dsw := [.ref 0 0 r561.2.2.length 2, iv s1, iv r561.1, iv s3, .p (.fn (.func 34) [])]) (ds' := [.ref 0 0 r561.2.2.length 2, iv s1, iv r561.1, iv s3, .p (.fn (.func 34) [])]) (i := 0) (ids := []) (o := .arr (encL en_Pair r561.2.2)) (os := []) (o' := .arr (encL en_Pair r569)) (os' := []) rfl (by kernel_rfl) (by kernel_rfl) (by kernel_rfl) (by kernel_rfl) (by kernel_rfl) (slices_pdqsortCmpFunc_rcall hrec h570) rfl rfl).trans (by kernel_rfl)
          by_cases hw_ : r569.length = r561.2.2.length
          case neg => rw [if_neg hw_] at h; cases h
          rw [if_pos hw_] at h
          have h572 := hw_
          obtain rfl := Option.some.inj h
          simp (maxSteps := 10000000) (implicitDefEqProofs := false) (disch := first | assumption | omega | exact rfl) only [bs, rs45, ls45_34, Nat.reduceAdd, ↓reduceIte, Int.reduceEq, Int.reduceLE, Int.reduceLT, loadD_pagg a39 z39, hg, ↓h376', ↓h381', h386, h389, ↓h391', h496, ↓h497', ↓h550', h553, h556, h559, ↓h560', h563, h567, ↓h568', h571]
          exact ⟨rfl, by simp only [List.length_set, cpL_len, h390, h564, h572]; kernel_rfl⟩
         ·rw [if_neg h568] at h
          have h568' : decide ((w64 (r561.1 - s1)) < (w64 (s2 - r561.1))) = false := decide_eq_false h568
          obtain ⟨r573, h574, h⟩ := bsm h
          have h575 : callD (callW Try.prog A0) A0 [.arr (encL en_Pair r561.2.2)] 45 [.ref 0 0 y0.length 2, iv (w64 (r561.1 + (1 : Int))), iv s2, iv s3, .p (.fn (.func 34) [])] = some (.p (.tup []), some [.arr (encL en_Pair r573)]) := by
              rw [show y0.length = r561.2.2.length from by omega]; exact (callD_put (dsw := [.ref 0 0 r561.2.2.length 2, iv (w64 (r561.1 + (1 : Int))), iv s2, iv s3, .p (.fn (.func 34) [])]) (ds' := [.ref 0 0 r561.2.2.length 2, iv (w64 (r561.1 + (1 : Int))), iv s2, iv s3, .p (.fn (.func 34) [])]) (i := 0) (ids := []) (o := .arr (encL en_Pair r561.2.2)) (os := []) (o' := .arr (encL en_Pair r573)) (os' := []) rfl (by kernel_rfl) (by kernel_rfl) (by kernel_rfl) (by kernel_rfl) (by kernel_rfl) (slices_pdqsortCmpFunc_rcall hrec h574) rfl rfl).trans (by kernel_rfl)
          by_cases hw_ : r573.length = r561.2.2.length
          case neg => rw [if_neg hw_] at h; cases h
          rw [if_pos hw_] at h
          have h576 := hw_
          obtain rfl := Option.some.inj h
          simp (maxSteps := 10000000) (implicitDefEqProofs := false) (disch := first | assumption | omega | exact rfl) only [bs, rs45, ls45_34, Nat.reduceAdd, ↓reduceIte, Int.reduceEq, Int.reduceLE, Int.reduceLT, loadD_pagg a39 z39, hg, ↓h376', ↓h381', h386, h389, ↓h391', h496, ↓h497', ↓h550', h553, h556, h559, ↓h560', h563, h567, ↓h568', h575]
          exact ⟨rfl, by simp only [List.length_set, cpL_len, h390, h564, h576]; kernel_rfl⟩
        ·rw [if_neg h560] at h
         have h560' : decide (r557 < (0 : Int)) = false := decide_eq_false h560
         obtain ⟨r577, h578, h⟩ := bsm h
         have h579 : callD (callW Try.prog A0) A0 [.arr (encL en_Pair r387.2.2)] 54 [.ref 0 0 y0.length 2, iv s1, iv s2, iv r387.1, .p (.fn (.func 34) [])] = some (.p (.v (.int .i64 r577.1)), some [.arr (encL en_Pair r577.2)]) := by
             rw [show y0.length = r387.2.2.length from by omega]; exact (callD_put (dsw := [.ref 0 0 r387.2.2.length 2, iv s1, iv s2, iv r387.1, .p (.fn (.func 34) [])]) (ds' := [.ref 0 0 r387.2.2.length 2, iv s1, iv s2, iv r387.1, .p (.fn (.func 34) [])]) (i := 0) (ids := []) (o := .arr (encL en_Pair r387.2.2)) (os := []) (o' := .arr (encL en_Pair r577.2)) (os' := []) rfl (by kernel_rfl) (by kernel_rfl) (by kernel_rfl) (by kernel_rfl) (by kernel_rfl) (slices_partitionEqualCmpFunc_34_call h578) rfl rfl).trans (by kernel_rfl)
         by_cases hw_ : r577.2.length = r387.2.2.length
         case neg => rw [if_neg hw_] at h; cases h
         rw [if_pos hw_] at h
         have h580 := hw_
         obtain rfl := Option.some.inj h
         simp (maxSteps := 10000000) (implicitDefEqProofs := false) (disch := first | assumption | omega | exact rfl) only [bs, rs45, ls45_34, Nat.reduceAdd, ↓reduceIte, Int.reduceEq, Int.reduceLE, Int.reduceLT, loadD_pagg a39 z39, hg, ↓h376', ↓h381', h386, h389, ↓h391', h496, ↓h497', ↓h550', h553, h556, h559, ↓h560', h579]
         exact ⟨rfl, by simp only [List.length_set, cpL_len, h390, h580]; kernel_rfl⟩
       ·rw [if_neg h550] at h
        have h550' : decide ((0 : Int) < s1) = false := decide_eq_false h550
        obtain ⟨r581, h582, h⟩ := bsm h
        have h583 : callD (callW Try.prog A0) A0 [.arr (encL en_Pair r387.2.2)] 55 [.ref 0 0 y0.length 2, iv s1, iv s2, iv r387.1, .p (.fn (.func 34) [])] = some (.p (.tup [.v (.int .i64 r581.1), .v (.bool r581.2.1)]), some [.arr (encL en_Pair r581.2.2)]) := by
            rw [show y0.length = r387.2.2.length from by omega]; exact (callD_put (dsw := [.ref 0 0 r387.2.2.length 2, iv s1, iv s2, iv r387.1, .p (.fn (.func 34) [])]) (ds' := [.ref 0 0 r387.2.2.length 2, iv s1, iv s2, iv r387.1, .p (.fn (.func 34) [])]) (i := 0) (ids := []) (o := .arr (encL en_Pair r387.2.2)) (os := []) (o' := .arr (encL en_Pair r581.2.2)) (os' := []) rfl (by kernel_rfl) (by kernel_rfl) (by kernel_rfl) (by kernel_rfl) (by kernel_rfl) (slices_partitionCmpFunc_34_call h582) rfl rfl).trans (by kernel_rfl)
        by_cases hw_ : r581.2.2.length = r387.2.2.length
        case neg => rw [if_neg hw_] at h; cases h
        rw [if_pos hw_] at h
        have h584 := hw_
        obtain ⟨q585, h586, h⟩ := bsm h
        have h587 : ∀ xo yo, binD Try.prog .quo 3 xo yo (.p (.v (.int .i64 (w64 (s2 - s1))))) (.p (.v (.int .i64 (8 : Int)))) = some (.p (.v (.int .i64 q585))) := fun xo yo => binD_quo_k h586
        by_cases h588 : (w64 (r581.1 - s1)) < (w64 (s2 - r581.1))
        ·rw [if_pos h588] at h
         have h588' : decide ((w64 (r581.1 - s1)) < (w64 (s2 - r581.1))) = true := decide_eq_true h588
         obtain ⟨r589, h590, h⟩ := bsm h
         have h591 : callD (callW Try.prog A0) A0 [.arr (encL en_Pair r581.2.2)] 45 [.ref 0 0 y0.length 2, iv s1, iv r581.1, iv s3, .p (.fn (.func 34) [])] = some (.p (.tup []), some [.arr (encL en_Pair r589)]) := by
             rw [show y0.length = r581.2.2.length from by omega]; exact (callD_put (dsw := [.ref 0 0 r581.2.2.length 2, iv s1, iv r581.1, iv s3, .p (.fn (.func 34) [])]) (ds' := [.ref 0 0 r581.2.2.length 2, iv s1, iv r581.1, iv s3, .p (.fn (.func 34) [])]) (i := 0) (ids := []) (o := .arr (encL en_Pair r581.2.2)) (os := []) (o' := .arr (encL en_Pair r589)) (os' := []) rfl (by kernel_rfl) (by kernel_rfl) (by kernel_rfl) (by kernel_rfl) (by kernel_rfl) (slices_pdqsortCmpFunc_rcall hrec h590) rfl rfl).trans (by kernel_rfl)
         by_cases hw_ : r589.length = r581.2.2.length
         case neg => rw [if_neg hw_] at h; cases h
         rw [if_pos hw_] at h
         have h592 := hw_
         obtain rfl := Option.some.inj h
         simp (maxSteps := 10000000) (implicitDefEqProofs := false) (disch := first | assumption | omega | exact rfl) only [bs, rs45, ls45_34, Nat.reduceAdd, ↓reduceIte, Int.reduceEq, Int.reduceLE, Int.reduceLT, loadD_pagg a39 z39, hg, ↓h376', ↓h381', h386, h389, ↓h391', h496, ↓h497', ↓h550', h583, h587, ↓h588', h591]
         exact ⟨rfl, by simp only [List.length_set, cpL_len, h390, h584, h592]; kernel_rfl⟩
        ·rw [if_neg h588] at h
         have h588' : decide ((w64 (r581.1 - s1)) < (w64 (s2 - r581.1))) = false := decide_eq_false h588
         obtain ⟨r593, h594, h⟩ := bsm h
         have h595 : callD (callW Try.prog A0) A0 [.arr (encL en_Pair r581.2.2)] 45 [.ref 0 0 y0.length 2, iv (w64 (r581.1 + (1 : Int))), iv s2, iv s3, .p (.fn (.func 34) [])] = some (.p (.tup []), some [.arr (encL en_Pair r593)]) := by
             rw [show y0.length = r581.2.2.length from by omega]; exact (callD_put (dsw := [.ref 0 0 r581.2.2.length 2, iv (w64 (r581.1 + (1 : Int))), iv s2, iv s3, .p (.fn (.func 34) [])]) (ds' := [.ref 0 0 r581.2.2.length 2, iv (w64 (r581.1 + (1 : Int))), iv s2, iv s3, .p (.fn (.func 34) [])]) (i := 0) (ids := []) (o := .arr (encL en_Pair r581.2.2)) (os := []) (o' := .arr (encL en_Pair r593)) (os' := []) rfl (by kernel_rfl) (by kernel_rfl) (by kernel_rfl) (by kernel_rfl) (by kernel_rfl) (slices_pdqsortCmpFunc_rcall hrec h594) rfl rfl).trans (by kernel_rfl)
         by_cases hw_ : r593.length = r581.2.2.length
         case neg => rw [if_neg hw_] at h; cases h
         rw [if_pos hw_] at h
         have h596 := hw_
         obtain rfl := Option.some.inj h
         simp (maxSteps := 10000000) (implicitDefEqProofs := false) (disch := first | assumption | omega | exact rfl) only [bs, rs45, ls45_34, Nat.reduceAdd, ↓reduceIte, Int.reduceEq, Int.reduceLE, Int.reduceLT, loadD_pagg a39 z39, hg, ↓h376', ↓h381', h386, h389, ↓h391', h496, ↓h497', ↓h550', h583, h587, ↓h588', h595]
         exact ⟨rfl, by simp only [List.length_set, cpL_len, h390, h584, h596]; kernel_rfl⟩
     ·rw [if_neg h496] at h
      replace h496 := Bool.eq_false_iff.2 h496
      by_cases h597 : (0 : Int) < s1
      ·rw [if_pos h597] at h
       have h597' : decide ((0 : Int) < s1) = true := decide_eq_true h597
       obtain ⟨v598, h599, h⟩ := bsm h
       obtain ⟨h599a, h599b, _⟩ := rd_some h599
       have h600 := lk_arr_39 h599
       obtain ⟨v601, h602, h⟩ := bsm h
       obtain ⟨h602a, h602b, _⟩ := rd_some h602
       have h603 := lk_arr_39 h602
       obtain ⟨r604, h605, h⟩ := bsm h
       have h606 : ∀ H, callD (callW Try.prog A0) A0 H 34 [.p (.agg [.v (.int .i64 v598.Old), .v (.int .i64 v598.New)]), .p (.agg [.v (.int .i64 v601.Old), .v (.int .i64 v601.New)])] = some (.p (.v (.int .i64 r604)), none) := fun H => similar_Match_c2_call h605
       by_cases h607 : r604 < (0 : Int)
       ·rw [if_pos h607] at h
        have h607' : decide (r604 < (0 : Int)) = true := decide_eq_true h607
        obtain ⟨r608, h609, h⟩ := bsm h
        have h610 : callD (callW Try.prog A0) A0 [.arr (encL en_Pair r387.2.2)] 55 [.ref 0 0 y0.length 2, iv s1, iv s2, iv r387.1, .p (.fn (.func 34) [])] = some (.p (.tup [.v (.int .i64 r608.1), .v (.bool r608.2.1)]), some [.arr (encL en_Pair r608.2.2)]) := by
            rw [show y0.length = r387.2.2.length from by omega]; exact (callD_put (dsw := [.ref 0 0 r387.2.2.length 2, iv s1, iv s2, iv r387.1, .p (.fn (.func 34) [])]) (ds' := [.ref 0 0 r387.2.2.length 2, iv s1, iv s2, iv r387.1, .p (.fn (.func 34) [])]) (i := 0) (ids := []) (o := .arr (encL en_Pair r387.2.2)) (os := []) (o' := .arr (encL en_Pair r608.2.2)) (os' := []) rfl (by kernel_rfl) (by kernel_rfl) (by kernel_rfl) (by kernel_rfl) (by kernel_rfl) (slices_partitionCmpFunc_34_call h609) rfl rfl).trans (by kernel_rfl)
        by_cases hw_ : r608.2.2.length = r387.2.2.length
        case neg => rw [if_neg hw_] at h; cases h
        rw [if_pos hw_] at h
        have h611 := hw_
        obtain ⟨q612, h613, h⟩ := bsm h
        have h614 : ∀ xo yo, binD Try.prog .quo 3 xo yo (.p (.v (.int .i64 (w64 (s2 - s1))))) (.p (.v (.int .i64 (8 : Int)))) = some (.p (.v (.int .i64 q612))) := fun xo yo => binD_quo_k h613
        by_cases h615 : (w64 (r608.1 - s1)) < (w64 (s2 - r608.1))
        ·rw [if_pos h615] at h
         have h615' : decide ((w64 (r608.1 - s1)) < (w64 (s2 - r608.1))) = true := decide_eq_true h615
         obtain ⟨r616, h617, h⟩ := bsm h
         have h618 : callD (callW Try.prog A0) A0 [.arr (encL en_Pair r608.2.2)] 45 [.ref 0 0 y0.length 2, iv s1, iv r608.1, iv s3, .p (.fn (.func 34) [])] = some (.p (.tup []), some [.arr (encL en_Pair r616)]) := by
             rw [show y0.length = r608.2.2.length from by omega]; exact (callD_put (dsw := [.ref 0 0 r608.2.2.length 2, iv s1, iv r608.1, iv s3, .p (.fn (.func 34) [])]) (ds' := [.ref 0 0 r608.2.2.length 2, iv s1, iv r608.1, iv s3, .p (.fn (.func 34) [])]) (i := 0) (ids := []) (o := .arr (encL en_Pair r608.2.2)) (os := []) (o' := .arr (encL en_Pair r616)) (os' := []) rfl (by kernel_rfl) (by kernel_rfl) (by kernel_rfl) (by kernel_rfl) (by kernel_rfl) (slices_pdqsortCmpFunc_rcall hrec h617) rfl rfl).trans (by kernel_rfl)
         by_cases hw_ : r616.length = r608.2.2.length
         case neg => rw [if_neg hw_] at h; cases h
         rw [if_pos hw_] at h
         have h619 := hw_
         obtain rfl := Option.some.inj h
         simp (maxSteps := 10000000) (implicitDefEqProofs := false) (disch := first | assumption | omega | exact rfl) only [bs, rs45, ls45_34, Nat.reduceAdd, ↓reduceIte, Int.reduceEq, Int.reduceLE, Int.reduceLT, loadD_pagg a39 z39, hg, ↓h376', ↓h381', h386, h389, ↓h391', h496, ↓h597', h600, h603, h606, ↓h607', h610, h614, ↓h615', h618]
         exact ⟨rfl, by simp only [List.length_set, cpL_len, h390, h611, h619]; kernel_rfl⟩
        ·rw [if_neg h615] at h
         have h615' : decide ((w64 (r608.1 - s1)) < (w64 (s2 - r608.1))) = false := decide_eq_false h615
         obtain ⟨r620, h621, h⟩ := bsm h
         have h622 : callD (callW Try.prog A0) A0 [.arr (encL en_Pair r608.2.2)] 45 [.ref 0 0 y0.length 2, iv (w64 (r608.1 + (1 : Int))), iv s2, iv s3, .p (.fn (.func 34) [])] = some (.p (.tup []), some [.arr (encL en_Pair r620)]) := by
             rw [show y0.length = r608.2.2.length from by omega]; exact (callD_put (dsw := [.ref 0 0 r608.2.2.length 2, iv (w64 (r608.1 + (1 : Int))), iv s2, iv s3, .p (.fn (.func 34) [])]) (ds' := [.ref 0 0 r608.2.2.length 2, iv (w64 (r608.1 + (1 : Int))), iv s2, iv s3, .p (.fn (.func 34) [])]) (i := 0) (ids := []) (o := .arr (encL en_Pair r608.2.2)) (os := []) (o' := .arr (encL en_Pair r620)) (os' := []) rfl (by kernel_rfl) (by kernel_rfl) (by kernel_rfl) (by kernel_rfl) (by kernel_rfl) (slices_pdqsortCmpFunc_rcall hrec h621) rfl rfl).trans (by kernel_rfl)
         by_cases hw_ : r620.length = r608.2.2.length
         case neg => rw [if_neg hw_] at h; cases h
         rw [if_pos hw_] at h
         have h623 := hw_
         obtain rfl := Option.some.inj h
         simp (maxSteps := 10000000) (implicitDefEqProofs := false) (disch := first | assumption | omega | exact rfl) only [bs, rs45, ls45_34, Nat.reduceAdd, ↓reduceIte, Int.reduceEq, Int.reduceLE, Int.reduceLT, loadD_pagg a39 z39, hg, ↓h376', ↓h381', h386, h389, ↓h391', h496, ↓h597', h600, h603, h606, ↓h607', h610, h614, ↓h615', h622]
         exact ⟨rfl, by simp only [List.length_set, cpL_len, h390, h611, h623]; kernel_rfl⟩
       ·rw [if_neg h607] at h
        have h607' : decide (r604 < (0 : Int)) = false := decide_eq_false h607
        obtain ⟨r624, h625, h⟩ := bsm h
        have h626 : callD (callW Try.prog A0) A0 [.arr (encL en_Pair r387.2.2)] 54 [.ref 0 0 y0.length 2, iv s1, iv s2, iv r387.1, .p (.fn (.func 34) [])] = some (.p (.v (.int .i64 r624.1)), some [.arr (encL en_Pair r624.2)]) := by
            rw [show y0.length = r387.2.2.length from by omega]; exact (callD_put (dsw := [.ref 0 0 r387.2.2.length 2, iv s1, iv s2, iv r387.1, .p (.fn (.func 34) [])]) (ds' := [.ref 0 0 r387.2.2.length 2, iv s1, iv s2, iv r387.1, .p (.fn (.func 34) [])]) (i := 0) (ids := []) (o := .arr (encL en_Pair r387.2.2)) (os := []) (o' := .arr (encL en_Pair r624.2)) (os' := []) rfl (by kernel_rfl) (by kernel_rfl) (by kernel_rfl) (by kernel_rfl) (by kernel_rfl) (slices_partitionEqualCmpFunc_34_call h625) rfl rfl).trans (by kernel_rfl)
        by_cases hw_ : r624.2.length = r387.2.2.length
        case neg => rw [if_neg hw_] at h; cases h
        rw [if_pos hw_] at h
        have h627 := hw_
        obtain rfl := Option.some.inj h
        simp (maxSteps := 10000000) (implicitDefEqProofs := false) (disch := first | assumption | omega | exact rfl) only [bs, rs45, ls45_34, Nat.reduceAdd, ↓reduceIte, Int.reduceEq, Int.reduceLE, Int.reduceLT, loadD_pagg a39 z39, hg, ↓h376', ↓h381', h386, h389, ↓h391', h496, ↓h597', h600, h603, h606, ↓h607', h626]
        exact ⟨rfl, by simp only [List.length_set, cpL_len, h390, h627]; kernel_rfl⟩
      ·rw [if_neg h597] at h
       have h597' : decide ((0 : Int) < s1) = false := decide_eq_false h597
       obtain ⟨r628, h629, h⟩ := bsm h
       have h630 : callD (callW Try.prog A0) A0 [.arr (encL en_Pair r387.2.2)] 55 [.ref 0 0 y0.length 2, iv s1, iv s2, iv r387.1, .p (.fn (.func 34) [])] = some (.p (.tup [.v (.int .i64 r628.1), .v (.bool r628.2.1)]), some [.arr (encL en_Pair r628.2.2)]) := by
           rw [show y0.length = r387.2.2.length from by omega]; exact (callD_put (dsw := [.ref 0 0 r387.2.2.length 2, iv s1, iv s2, iv r387.1, .p (.fn (.func 34) [])]) (ds' := [.ref 0 0 r387.2.2.length 2, iv s1, iv s2, iv r387.1, .p (.fn (.func 34) [])]) (i := 0) (ids := []) (o := .arr (encL en_Pair r387.2.2)) (os := []) (o' := .arr (encL en_Pair r628.2.2)) (os' := []) rfl (by kernel_rfl) (by kernel_rfl) (by kernel_rfl) (by kernel_rfl) (by kernel_rfl) (slices_partitionCmpFunc_34_call h629) rfl rfl).trans (by kernel_rfl)
       by_cases hw_ : r628.2.2.length = r387.2.2.length
       case neg => rw [if_neg hw_] at h; cases h
       rw [if_pos hw_] at h
       have h631 := hw_
       obtain ⟨q632, h633, h⟩ := bsm h
       have h634 : ∀ xo yo, binD Try.prog .quo 3 xo yo (.p (.v (.int .i64 (w64 (s2 - s1))))) (.p (.v (.int .i64 (8 : Int)))) = some (.p (.v (.int .i64 q632))) := fun xo yo => binD_quo_k h633
       by_cases h635 : (w64 (r628.1 - s1)) < (w64 (s2 - r628.1))
       ·rw [if_pos h635] at h
        have h635' : decide ((w64 (r628.1 - s1)) < (w64 (s2 - r628.1))) = true := decide_eq_true h635
        obtain ⟨r636, h637, h⟩ := bsm h
        have h638 : callD (callW Try.prog A0) A0 [.arr (encL en_Pair r628.2.2)] 45 [.ref 0 0 y0.length 2, iv s1, iv r628.1, iv s3, .p (.fn (.func 34) [])] = some (.p (.tup []), some [.arr (encL en_Pair r636)]) := by
            rw [show y0.length = r628.2.2.length from by omega]; exact (callD_put (dsw := [.ref 0 0 r628.2.2.length 2, iv s1, iv r628.1, iv s3, .p (.fn (.func 34) [])]) (ds' := [.ref 0 0 r628.2.2.length 2, iv s1, iv r628.1, iv s3, .p (.fn (.func 34) [])]) (i := 0) (ids := []) (o := .arr (encL en_Pair r628.2.2)) (os := []) (o' := .arr (encL en_Pair r636)) (os' := []) rfl (by kernel_rfl) (by kernel_rfl) (by kernel_rfl) (by kernel_rfl) (by kernel_rfl) (slices_pdqsortCmpFunc_rcall hrec h637) rfl rfl).trans (by kernel_rfl)
        by_cases hw_ : r636.length = r628.2.2.length
        case neg => rw [if_neg hw_] at h; cases h
        rw [if_pos hw_] at h
        have h639 := hw_
        obtain rfl := Option.some.inj h
        simp (maxSteps := 10000000) (implicitDefEqProofs := false) (disch := first | assumption | omega | exact rfl) only [bs, rs45, ls45_34, Nat.reduceAdd, ↓reduceIte, Int.reduceEq, Int.reduceLE, Int.reduceLT, loadD_pagg a39 z39, hg, ↓h376', ↓h381', h386, h389, ↓h391', h496, ↓h597', h630, h634, ↓h635', h638]
        exact ⟨rfl, by simp only [List.length_set, cpL_len, h390, h631, h639]; kernel_rfl⟩
       ·rw [if_neg h635] at h
        have h635' : decide ((w64 (r628.1 - s1)) < (w64 (s2 - r628.1))) = false := decide_eq_false h635
        obtain ⟨r640, h641, h⟩ := bsm h
        have h642 : callD (callW Try.prog A0) A0 [.arr (encL en_Pair r628.2.2)] 45 [.ref 0 0 y0.length 2, iv (w64 (r628.1 + (1 : Int))), iv s2, iv s3, .p (.fn (.func 34) [])] = some (.p (.tup []), some [.arr (encL en_Pair r640)]) := by
            rw [show y0.length = r628.2.2.length from by omega]; exact (callD_put (dsw := [.ref 0 0 r628.2.2.length 2, iv (w64 (r628.1 + (1 : Int))), iv s2, iv s3, .p (.fn (.func 34) [])]) (ds' := [.ref 0 0 r628.2.2.length 2, iv (w64 (r628.1 + (1 : Int))), iv s2, iv s3, .p (.fn (.func 34) [])]) (i := 0) (ids := []) (o := .arr (encL en_Pair r628.2.2)) (os := []) (o' := .arr (encL en_Pair r640)) (os' := []) rfl (by kernel_rfl) (by kernel_rfl) (by kernel_rfl) (by kernel_rfl) (by kernel_rfl) (slices_pdqsortCmpFunc_rcall hrec h641) rfl rfl).trans (by kernel_rfl)
        by_cases hw_ : r640.length = r628.2.2.length
        case neg => rw [if_neg hw_] at h; cases h
        rw [if_pos hw_] at h
        have h643 := hw_
        obtain rfl := Option.some.inj h
        simp (maxSteps := 10000000) (implicitDefEqProofs := false) (disch := first | assumption | omega | exact rfl) only [bs, rs45, ls45_34, Nat.reduceAdd, ↓reduceIte, Int.reduceEq, Int.reduceLE, Int.reduceLT, loadD_pagg a39 z39, hg, ↓h376', ↓h381', h386, h389, ↓h391', h496, ↓h597', h630, h634, ↓h635', h642]
        exact ⟨rfl, by simp only [List.length_set, cpL_len, h390, h631, h643]; kernel_rfl⟩
   ·rw [if_neg h386] at h
    replace h386 := Bool.eq_false_iff.2 h386
    obtain ⟨r644, h645, h⟩ := bsm h
    have h646 : callD (callW Try.prog A0) A0 [.arr (encL en_Pair y0)] 50 [.ref 0 0 y0.length 2, iv s1, iv s2, .p (.fn (.func 34) [])] = some (.p (.tup []), some [.arr (encL en_Pair r644)]) := (callD_put (dsw := [.ref 0 0 y0.length 2, iv s1, iv s2, .p (.fn (.func 34) [])]) (ds' := [.ref 0 0 y0.length 2, iv s1, iv s2, .p (.fn (.func 34) [])]) (i := 0) (ids := []) (o := .arr (encL en_Pair y0)) (os := []) (o' := .arr (encL en_Pair r644)) (os' := []) rfl (by kernel_rfl) (by kernel_rfl) (by kernel_rfl) (by kernel_rfl) (by kernel_rfl) (slices_breakPatternsCmpFunc_34_call h645) rfl rfl).trans (by kernel_rfl)
    by_cases hw_ : r644.length = y0.length
    case neg => rw [if_neg hw_] at h; cases h
    rw [if_pos hw_] at h
    have h647 := hw_
    obtain ⟨r648, h649, h⟩ := bsm h
    have h650 : callD (callW Try.prog A0) A0 [.arr (encL en_Pair r644)] 51 [.ref 0 0 y0.length 2, iv s1, iv s2, .p (.fn (.func 34) [])] = some (.p (.tup [.v (.int .i64 r648.1), .v (.int .i64 r648.2.1)]), some [.arr (encL en_Pair r648.2.2)]) := by
        rw [show y0.length = r644.length from by omega]; exact (callD_put (dsw := [.ref 0 0 r644.length 2, iv s1, iv s2, .p (.fn (.func 34) [])]) (ds' := [.ref 0 0 r644.length 2, iv s1, iv s2, .p (.fn (.func 34) [])]) (i := 0) (ids := []) (o := .arr (encL en_Pair r644)) (os := []) (o' := .arr (encL en_Pair r648.2.2)) (os' := []) rfl (by kernel_rfl) (by kernel_rfl) (by kernel_rfl) (by kernel_rfl) (by kernel_rfl) (slices_choosePivotCmpFunc_34_call h649) rfl rfl).trans (by kernel_rfl)
    by_cases hw_ : r648.2.2.length = r644.length
    case neg => rw [if_neg hw_] at h; cases h
    rw [if_pos hw_] at h
    have h651 := hw_
    by_cases h652 : r648.2.1 = (2 : Int)
    ·rw [if_pos h652] at h
     have h652' : decide (r648.2.1 = (2 : Int)) = true := decide_eq_true h652
     obtain ⟨r653, h654, h⟩ := bsm h
     have h655 : callD (callW Try.prog A0) A0 [.arr (encL en_Pair r648.2.2)] 52 [.ref 0 0 y0.length 2, iv s1, iv s2, .p (.fn (.func 34) [])] = some (.p (.tup []), some [.arr (encL en_Pair r653)]) := by
         rw [show y0.length = r648.2.2.length from by omega]; exact (callD_put (dsw := [.ref 0 0 r648.2.2.length 2, iv s1, iv s2, .p (.fn (.func 34) [])]) (ds' := [.ref 0 0 r648.2.2.length 2, iv s1, iv s2, .p (.fn (.func 34) [])]) (i := 0) (ids := []) (o := .arr (encL en_Pair r648.2.2)) (os := []) (o' := .arr (encL en_Pair r653)) (os' := []) rfl (by kernel_rfl) (by kernel_rfl) (by kernel_rfl) (by kernel_rfl) (by kernel_rfl) (slices_reverseRangeCmpFunc_34_call h654) rfl rfl).trans (by kernel_rfl)
     by_cases hw_ : r653.length = r648.2.2.length
     case neg => rw [if_neg hw_] at h; cases h
     rw [if_pos hw_] at h
     have h656 := hw_
     by_cases h657 : (0 : Int) < s1
     ·rw [if_pos h657] at h
      have h657' : decide ((0 : Int) < s1) = true := decide_eq_true h657
      obtain ⟨v658, h659, h⟩ := bsm h
      obtain ⟨h659a, h659b, _⟩ := rd_some h659
      have h660 := lk_arr_39 h659
      obtain ⟨v661, h662, h⟩ := bsm h
      obtain ⟨h662a, h662b, _⟩ := rd_some h662
      have h663 := lk_arr_39 h662
      obtain ⟨r664, h665, h⟩ := bsm h
      have h666 : ∀ H, callD (callW Try.prog A0) A0 H 34 [.p (.agg [.v (.int .i64 v658.Old), .v (.int .i64 v658.New)]), .p (.agg [.v (.int .i64 v661.Old), .v (.int .i64 v661.New)])] = some (.p (.v (.int .i64 r664)), none) := fun H => similar_Match_c2_call h665
      by_cases h667 : r664 < (0 : Int)
      ·rw [if_pos h667] at h
       have h667' : decide (r664 < (0 : Int)) = true := decide_eq_true h667
       obtain ⟨r668, h669, h⟩ := bsm h
       have h670 : callD (callW Try.prog A0) A0 [.arr (encL en_Pair r653)] 55 [.ref 0 0 y0.length 2, iv s1, iv s2, iv (w64 ((w64 (s2 - (1 : Int))) - (w64 (r648.1 - s1)))), .p (.fn (.func 34) [])] = some (.p (.tup [.v (.int .i64 r668.1), .v (.bool r668.2.1)]), some [.arr (encL en_Pair r668.2.2)]) := by
           rw [show y0.length = r653.length from by omega]; exact (callD_put (dsw := [.ref 0 0 r653.length 2, iv s1, iv s2, iv (w64 ((w64 (s2 - (1 : Int))) - (w64 (r648.1 - s1)))), .p (.fn (.func 34) [])]) (ds' := [.ref 0 0 r653.length 2, iv s1, iv s2, iv (w64 ((w64 (s2 - (1 : Int))) - (w64 (r648.1 - s1)))), .p (.fn (.func 34) [])]) (i := 0) (ids := []) (o := .arr (encL en_Pair r653)) (os := []) (o' := .arr (encL en_Pair r668.2.2)) (os' := []) rfl (by kernel_rfl) (by kernel_rfl) (by kernel_rfl) (by kernel_rfl) (by kernel_rfl) (slices_partitionCmpFunc_34_call h669) rfl rfl).trans (by kernel_rfl)
       by_cases hw_ : r668.2.2.length = r653.length
       case neg => rw [if_neg hw_] at h; cases h
       rw [if_pos hw_] at h
       have h671 := hw_
       obtain ⟨q672, h673, h⟩ := bsm h
       have h674 : ∀ xo yo, binD Try.prog .quo 3 xo yo (.p (.v (.int .i64 (w64 (s2 - s1))))) (.p (.v (.int .i64 (8 : Int)))) = some (.p (.v (.int .i64 q672))) := fun xo yo => binD_quo_k h673
       by_cases h675 : (w64 (r668.1 - s1)) < (w64 (s2 - r668.1))
       ·rw [if_pos h675] at h
        have h675' : decide ((w64 (r668.1 - s1)) < (w64 (s2 - r668.1))) = true := decide_eq_true h675
        obtain ⟨r676, h677, h⟩ := bsm h
        have h678 : callD (callW Try.prog A0) A0 [.arr (encL en_Pair r668.2.2)] 45 [.ref 0 0 y0.length 2, iv s1, iv r668.1, iv (w64 (s3 - (1 : Int))), .p (.fn (.func 34) [])] = some (.p (.tup []), some [.arr (encL en_Pair r676)]) := by
            rw [show y0.length = r668.2.2.length from by omega]; exact (callD_put (dsw := [.ref 0 0 r668.2.2.length 2, iv s1, iv r668.1, iv (w64 (s3 - (1 : Int))), .p (.fn (.func 34) [])]) (ds' := [.ref 0 0 r668.2.2.length 2, iv s1, iv r668.1, iv (w64 (s3 - (1 : Int))), .p (.fn (.func 34) [])]) (i := 0) (ids := []) (o := .arr (encL en_Pair r668.2.2)) (os := []) (o' := .arr (encL en_Pair r676)) (os' := []) rfl (by kernel_rfl) (by kernel_rfl) (by kernel_rfl) (by kernel_rfl) (by kernel_rfl) (slices_pdqsortCmpFunc_rcall hrec h677) rfl rfl).trans (by kernel_rfl)
        by_cases hw_ : r676.length = r668.2.2.length
        case neg => rw [if_neg hw_] at h; cases h
        rw [if_pos hw_] at h
        have h679 := hw_
        obtain rfl := Option.some.inj h
        simp (maxSteps := 10000000) (implicitDefEqProofs := false) (disch := first | assumption | omega | exact rfl) only [bs, rs45, ls45_34, Nat.reduceAdd, ↓reduceIte, Int.reduceEq, Int.reduceLE, Int.reduceLT, loadD_pagg a39 z39, hg, ↓h376', ↓h381', h386, h646, h650, ↓h652', h655, ↓h657', h660, h663, h666, ↓h667', h670, h674, ↓h675', h678]
        exact ⟨rfl, by simp only [List.length_set, cpL_len, h647, h651, h656, h671, h679]; kernel_rfl⟩
       ·rw [if_neg h675] at h
        have h675' : decide ((w64 (r668.1 - s1)) < (w64 (s2 - r668.1))) = false := decide_eq_false h675
        obtain ⟨r680, h681, h⟩ := bsm h
        have h682 : callD (callW Try.prog A0) A0 [.arr (encL en_Pair r668.2.2)] 45 [.ref 0 0 y0.length 2, iv (w64 (r668.1 + (1 : Int))), iv s2, iv (w64 (s3 - (1 : Int))), .p (.fn (.func 34) [])] = some (.p (.tup []), some [.arr (encL en_Pair r680)]) := by
            rw [show y0.length = r668.2.2.length from by omega]; exact (callD_put (dsw := [.ref 0 0 r668.2.2.length 2, iv (w64 (r668.1 + (1 : Int))), iv s2, iv (w64 (s3 - (1 : Int))), .p (.fn (.func 34) [])]) (ds' := [.ref 0 0 r668.2.2.length 2, iv (w64 (r668.1 + (1 : Int))), iv s2, iv (w64 (s3 - (1 : Int))), .p (.fn (.func 34) [])]) (i := 0) (ids := []) (o := .arr (encL en_Pair r668.2.2)) (os := []) (o' := .arr (encL en_Pair r680)) (os' := []) rfl (by kernel_rfl) (by kernel_rfl) (by kernel_rfl) (by kernel_rfl) (by kernel_rfl) (slices_pdqsortCmpFunc_rcall hrec h681) rfl rfl).trans (by kernel_rfl)
        by_cases hw_ : r680.length = r668.2.2.length
        case neg => rw [if_neg hw_] at h; cases h
        rw [if_pos hw_] at h
        have h683 := hw_
        obtain rfl := Option.some.inj h
        simp (maxSteps := 10000000) (implicitDefEqProofs := false) (disch := first | assumption | omega | exact rfl) only [bs, rs45, ls45_34, Nat.reduceAdd, ↓reduceIte, Int.reduceEq, Int.reduceLE, Int.reduceLT, loadD_pagg a39 z39, hg, ↓h376', ↓h381', h386, h646, h650, ↓h652', h655, ↓h657', h660, h663, h666, ↓h667', h670, h674, ↓h675', h682]
        exact ⟨rfl, by simp only [List.length_set, cpL_len, h647, h651, h656, h671, h683]; kernel_rfl⟩
      ·rw [if_neg h667] at h
       have h667' : decide (r664 < (0 : Int)) = false := decide_eq_false h667
       obtain ⟨r684, h685, h⟩ := bsm h
       have h686 : callD (callW Try.prog A0) A0 [.arr (encL en_Pair r653)] 54 [.ref 0 0 y0.length 2, iv s1, iv s2, iv (w64 ((w64 (s2 - (1 : Int))) - (w64 (r648.1 - s1)))), .p (.fn (.func 34) [])] = some (.p (.v (.int .i64 r684.1)), some [.arr (encL en_Pair r684.2)]) := by
           rw [show y0.length = r653.length from by omega]; exact (callD_put (dsw := [.ref 0 0 r653.length 2, iv s1, iv s2, iv (w64 ((w64 (s2 - (1 : Int))) - (w64 (r648.1 - s1)))), .p (.fn (.func 34) [])]) (ds' := [.ref 0 0 r653.length 2, iv s1, iv s2, iv (w64 ((w64 (s2 - (1 : Int))) - (w64 (r648.1 - s1)))), .p (.fn (.func 34) [])]) (i := 0) (ids := []) (o := .arr (encL en_Pair r653)) (os := []) (o' := .arr (encL en_Pair r684.2)) (os' := []) rfl (by kernel_rfl) (by kernel_rfl) (by kernel_rfl) (by kernel_rfl) (by kernel_rfl) (slices_partitionEqualCmpFunc_34_call h685) rfl rfl).trans (by kernel_rfl)
       by_cases hw_ : r684.2.length = r653.length
       case neg => rw [if_neg hw_] at h; cases h
       rw [if_pos hw_] at h
       have h687 := hw_
       obtain rfl := Option.some.inj h
       simp (maxSteps := 10000000) (implicitDefEqProofs := false) (disch := first | assumption | omega | exact rfl) only [bs, rs45, ls45_34, Nat.reduceAdd, ↓reduceIte, Int.reduceEq, Int.reduceLE, Int.reduceLT, loadD_pagg a39 z39, hg, ↓h376', ↓h381', h386, h646, h650, ↓h652', h655, ↓h657', h660, h663, h666, ↓h667', h686]
       exact ⟨rfl, by simp only [List.length_set, cpL_len, h647, h651, h656, h687]; kernel_rfl⟩
     ·rw [if_neg h657] at h
      have h657' : decide ((0 : Int) < s1) = false := decide_eq_false h657
      obtain ⟨r688, h689, h⟩ := bsm h
      have h690 : callD (callW Try.prog A0) A0 [.arr (encL en_Pair r653)] 55 [.ref 0 0 y0.length 2, iv s1, iv s2, iv (w64 ((w64 (s2 - (1 : Int))) - (w64 (r648.1 - s1)))), .p (.fn (.func 34) [])] = some (.p (.tup [.v (.int .i64 r688.1), .v (.bool r688.2.1)]), some [.arr (encL en_Pair r688.2.2)]) := by
          rw [show y0.length = r653.length from by omega]; exact (callD_put (dsw := [.ref 0 0 r653.length 2, iv s1, iv s2, iv (w64 ((w64 (s2 - (1 : Int))) - (w64 (r648.1 - s1)))), .p (.fn (.func 34) [])]) (ds' := [.ref 0 0 r653.length 2, iv s1, iv s2, iv (w64 ((w64 (s2 - (1 : Int))) - (w64 (r648.1 - s1)))), .p (.fn (.func 34) [])]) (i := 0) (ids := []) (o := .arr (encL en_Pair r653)) (os := []) (o' := .arr (encL en_Pair r688.2.2)) (os' := []) rfl (by kernel_rfl) (by kernel_rfl) (by kernel_rfl) (by kernel_rfl) (by kernel_rfl) (slices_partitionCmpFunc_34_call h689) rfl rfl).trans (by kernel_rfl)
      by_cases hw_ : r688.2.2.length = r653.length
      case neg => rw [if_neg hw_] at h; cases h
      rw [if_pos hw_] at h
      have h691 := hw_
      obtain ⟨q692, h693, h⟩ := bsm h
      have h694 : ∀ xo yo, binD Try.prog .quo 3 xo yo (.p (.v (.int .i64 (w64 (s2 - s1))))) (.p (.v (.int .i64 (8 : Int)))) = some (.p (.v (.int .i64 q692))) := fun xo yo => binD_quo_k h693
      by_cases h695 : (w64 (r688.1 - s1)) < (w64 (s2 - r688.1))
      ·rw [if_pos h695] at h
       have h695' : decide ((w64 (r688.1 - s1)) < (w64 (s2 - r688.1))) = true := decide_eq_true h695
       obtain ⟨r696, h697, h⟩ := bsm h
       have h698 : callD (callW Try.prog A0) A0 [.arr (encL en_Pair r688.2.2)] 45 [.ref 0 0 y0.length 2, iv s1, iv r688.1, iv (w64 (s3 - (1 : Int))), .p (.fn (.func 34) [])] = some (.p (.tup []), some [.arr (encL en_Pair r696)]) := by
           rw [show y0.length = r688.2.2.length from by omega]; exact (callD_put (dsw := [.ref 0 0 r688.2.2.length 2, iv s1, iv r688.1, iv (w64 (s3 - (1 : Int))), .p (.fn (.func 34) [])]) (ds' := [.ref 0 0 r688.2.2.length 2, iv s1, iv r688.1, iv (w64 (s3 - (1 : Int))), .p (.fn (.func 34) [])]) (i := 0) (ids := []) (o := .arr (encL en_Pair r688.2.2)) (os := []) (o' := .arr (encL en_Pair r696)) (os' := []) rfl (by kernel_rfl) (by kernel_rfl) (by kernel_rfl) (by kernel_rfl) (by kernel_rfl) (slices_pdqsortCmpFunc_rcall hrec h697) rfl rfl).trans (by kernel_rfl)
       by_cases hw_ : r696.length = r688.2.2.length
       case neg => rw [if_neg hw_] at h; cases h
       rw [if_pos hw_] at h
       have h699 := hw_
       obtain rfl := Option.some.inj h
       simp (maxSteps := 10000000) (implicitDefEqProofs := false) (disch := first | assumption | omega | exact rfl) only [bs, rs45, ls45_34, Nat.reduceAdd, ↓reduceIte, Int.reduceEq, Int.reduceLE, Int.reduceLT, loadD_pagg a39 z39, hg, ↓h376', ↓h381', h386, h646, h650, ↓h652', h655, ↓h657', h690, h694, ↓h695', h698]
       exact ⟨rfl, by simp only [List.length_set, cpL_len, h647, h651, h656, h691, h699]; kernel_rfl⟩
      ·rw [if_neg h695] at h
       have h695' : decide ((w64 (r688.1 - s1)) < (w64 (s2 - r688.1))) = false := decide_eq_false h695
       obtain ⟨r700, h701, h⟩ := bsm h
       have h702 : callD (callW Try.prog A0) A0 [.arr (encL en_Pair r688.2.2)] 45 [.ref 0 0 y0.length 2, iv (w64 (r688.1 + (1 : Int))), iv s2, iv (w64 (s3 - (1 : Int))), .p (.fn (.func 34) [])] = some (.p (.tup []), some [.arr (encL en_Pair r700)]) := by
           rw [show y0.length = r688.2.2.length from by omega]; exact (callD_put (dsw := [.ref 0 0 r688.2.2.length 2, iv (w64 (r688.1 + (1 : Int))), iv s2, iv (w64 (s3 - (1 : Int))), .p (.fn (.func 34) [])]) (ds' := [.ref 0 0 r688.2.2.length 2, iv (w64 (r688.1 + (1 : Int))), iv s2, iv (w64 (s3 - (1 : Int))), .p (.fn (.func 34) [])]) (i := 0) (ids := []) (o := .arr (encL en_Pair r688.2.2)) (os := []) (o' := .arr (encL en_Pair r700)) (os' := []) rfl (by kernel_rfl) (by kernel_rfl) (by kernel_rfl) (by kernel_rfl) (by kernel_rfl) (slices_pdqsortCmpFunc_rcall hrec h701) rfl rfl).trans (by kernel_rfl)
       by_cases hw_ : r700.length = r688.2.2.length
       case neg => rw [if_neg hw_] at h; cases h
       rw [if_pos hw_] at h
       have h703 := hw_
       obtain rfl := Option.some.inj h
       simp (maxSteps := 10000000) (implicitDefEqProofs := false) (disch := first | assumption | omega | exact rfl) only [bs, rs45, ls45_34, Nat.reduceAdd, ↓reduceIte, Int.reduceEq, Int.reduceLE, Int.reduceLT, loadD_pagg a39 z39, hg, ↓h376', ↓h381', h386, h646, h650, ↓h652', h655, ↓h657', h690, h694, ↓h695', h702]
       exact ⟨rfl, by simp only [List.length_set, cpL_len, h647, h651, h656, h691, h703]; kernel_rfl⟩
    ·rw [if_neg h652] at h
     have h652' : decide (r648.2.1 = (2 : Int)) = false := decide_eq_false h652
     by_cases h704 : (0 : Int) < s1
     ·rw [if_pos h704] at h
      have h704' : decide ((0 : Int) < s1) = true := decide_eq_true h704
      obtain ⟨v705, h706, h⟩ := bsm h
      obtain ⟨h706a, h706b, _⟩ := rd_some h706
      have h707 := lk_arr_39 h706
      obtain ⟨v708, h709, h⟩ := bsm h
      obtain ⟨h709a, h709b, _⟩ := rd_some h709
      have h710 := lk_arr_39 h709
      obtain ⟨r711, h712, h⟩ := bsm h
      have h713 : ∀ H, callD (callW Try.prog A0) A0 H 34 [.p (.agg [.v (.int .i64 v705.Old), .v (.int .i64 v705.New)]), .p (.agg [.v (.int .i64 v708.Old), .v (.int .i64 v708.New)])] = some (.p (.v (.int .i64 r711)), none) := fun H => similar_Match_c2_call h712
      by_cases h714 : r711 < (0 : Int)
      ·rw [if_pos h714] at h
       have h714' : decide (r711 < (0 : Int)) = true := decide_eq_true h714
       obtain ⟨r715, h716, h⟩ := bsm h
       have h717 : callD (callW Try.prog A0) A0 [.arr (encL en_Pair r648.2.2)] 55 [.ref 0 0 y0.length 2, iv s1, iv s2, iv r648.1, .p (.fn (.func 34) [])] = some (.p (.tup [.v (.int .i64 r715.1), .v (.bool r715.2.1)]), some [.arr (encL en_Pair r715.2.2)]) := by
           rw [show y0.length = r648.2.2.length from by omega]; exact (callD_put (dsw := [.ref 0 0 r648.2.2.length 2, iv s1, iv s2, iv r648.1, .p (.fn (.func 34) [])]) (ds' := [.ref 0 0 r648.2.2.length 2, iv s1, iv s2, iv r648.1, .p (.fn (.func 34) [])]) (i := 0) (ids := []) (o := .arr (encL en_Pair r648.2.2)) (os := []) (o' := .arr (encL en_Pair r715.2.2)) (os' := []) rfl (by kernel_rfl) (by kernel_rfl) (by kernel_rfl) (by kernel_rfl) (by kernel_rfl) (slices_partitionCmpFunc_34_call h716) rfl rfl).trans (by kernel_rfl)
       by_cases hw_ : r715.2.2.length = r648.2.2.length
       case neg => rw [if_neg hw_] at h; cases h
       rw [if_pos hw_] at h
       have h718 := hw_
       obtain ⟨q719, h720, h⟩ := bsm h
       have h721 : ∀ xo yo, binD Try.prog .quo 3 xo yo (.p (.v (.int .i64 (w64 (s2 - s1))))) (.p (.v (.int .i64 (8 : Int)))) = some (.p (.v (.int .i64 q719))) := fun xo yo => binD_quo_k h720
       by_cases h722 : (w64 (r715.1 - s1)) < (w64 (s2 - r715.1))
       ·rw [if_pos h722] at h
        have h722' : decide ((w64 (r715.1 - s1)) < (w64 (s2 - r715.1))) = true := decide_eq_true h722
        obtain ⟨r723, h724, h⟩ := bsm h
        have h725 : callD (callW Try.prog A0) A0 [.arr (encL en_Pair r715.2.2)] 45 [.ref 0 0 y0.length 2, iv s1, iv r715.1, iv (w64 (s3 - (1 : Int))), .p (.fn (.func 34) [])] = some (.p (.tup []), some [.arr (encL en_Pair r723)]) := by
            rw [show y0.length = r715.2.2.length from by omega]; exact (callD_put (dsw := [.ref 0 0 r715.2.2.length 2, iv s1, iv r715.1, iv (w64 (s3 - (1 : Int))), .p (.fn (.func 34) [])]) (ds' := [.ref 0 0 r715.2.2.length 2, iv s1, iv r715.1, iv (w64 (s3 - (1 : Int))), .p (.fn (.func 34) [])]) (i := 0) (ids := []) (o := .arr (encL en_Pair r715.2.2)) (os := []) (o' := .arr (encL en_Pair r723)) (os' := []) rfl (by kernel_rfl) (by kernel_rfl) (by kernel_rfl) (by kernel_rfl) (by kernel_rfl) (slices_pdqsortCmpFunc_rcall hrec h724) rfl rfl).trans (by kernel_rfl)
        by_cases hw_ : r723.length = r715.2.2.length
        case neg => rw [if_neg hw_] at h; cases h
        rw [if_pos hw_] at h
        have h726 := hw_
        obtain rfl := Option.some.inj h
        simp (maxSteps := 10000000) (implicitDefEqProofs := false) (disch := first | assumption | omega | exact rfl) only [bs, rs45, ls45_34, Nat.reduceAdd, ↓reduceIte, Int.reduceEq, Int.reduceLE, Int.reduceLT, loadD_pagg a39 z39, hg, ↓h376', ↓h381', h386, h646, h650, ↓h652', ↓h704', h707, h710, h713, ↓h714', h717, h721, ↓h722', h725]
        exact ⟨rfl, by simp only [List.length_set, cpL_len, h647, h651, h718, h726]; kernel_rfl⟩
       ·rw [if_neg h722] at h
        have h722' : decide ((w64 (r715.1 - s1)) < (w64 (s2 - r715.1))) = false := decide_eq_false h722
        obtain ⟨r727, h728, h⟩ := bsm h
        have h729 : callD (callW Try.prog A0) A0 [.arr (encL en_Pair r715.2.2)] 45 [.ref 0 0 y0.length 2, iv (w64 (r715.1 + (1 : Int))), iv s2, iv (w64 (s3 - (1 : Int))), .p (.fn (.func 34) [])] = some (.p (.tup []), some [.arr (encL en_Pair r727)]) := by
            rw [show y0.length = r715.2.2.length from by omega]; exact (callD_put (dsw := [.ref 0 0 r715.2.2.length 2, iv (w64 (r715.1 + (1 : Int))), iv s2, iv (w64 (s3 - (1 : Int))), .p (.fn (.func 34) [])]) (ds' := [.ref 0 0 r715.2.2.length 2, iv (w64 (r715.1 + (1 : Int))), iv s2, iv (w64 (s3 - (1 : Int))), .p (.fn (.func 34) [])]) (i := 0) (ids := []) (o := .arr (encL en_Pair r715.2.2)) (os := []) (o' := .arr (encL en_Pair r727)) (os' := []) rfl (by kernel_rfl) (by kernel_rfl) (by kernel_rfl) (by kernel_rfl) (by kernel_rfl) (slices_pdqsortCmpFunc_rcall hrec h728) rfl rfl).trans (by kernel_rfl)
        by_cases hw_ : r727.length = r715.2.2.length
        case neg => rw [if_neg hw_] at h; cases h
        rw [if_pos hw_] at h
        have h730 := hw_
        obtain rfl := Option.some.inj h
        simp (maxSteps := 10000000) (implicitDefEqProofs := false) (disch := first | assumption | omega | exact rfl) only [bs, rs45, ls45_34, Nat.reduceAdd, ↓reduceIte, Int.reduceEq, Int.reduceLE, Int.reduceLT, loadD_pagg a39 z39, hg, ↓h376', ↓h381', h386, h646, h650, ↓h652', ↓h704', h707, h710, h713, ↓h714', h717, h721, ↓h722', h729]
        exact ⟨rfl, by simp only [List.length_set, cpL_len, h647, h651, h718, h730]; kernel_rfl⟩
      ·rw [if_neg h714] at h
       have h714' : decide (r711 < (0 : Int)) = false := decide_eq_false h714
       obtain ⟨r731, h732, h⟩ := bsm h
       have h733 : callD (callW Try.prog A0) A0 [.arr (encL en_Pair r648.2.2)] 54 [.ref 0 0 y0.length 2, iv s1, iv s2, iv r648.1, .p (.fn (.func 34) [])] = some (.p (.v (.int .i64 r731.1)), some [.arr (encL en_Pair r731.2)]) := by
           rw [show y0.length = r648.2.2.length from by omega]; exact (callD_put (dsw := [.ref 0 0 r648.2.2.length 2, iv s1, iv s2, iv r648.1, .p (.fn (.func 34) [])]) (ds' := [.ref 0 0 r648.2.2.length 2, iv s1, iv s2, iv r648.1, .p (.fn (.func 34) [])]) (i := 0) (ids := []) (o := .arr (encL en_Pair r648.2.2)) (os := []) (o' := .arr (encL en_Pair r731.2)) (os' := []) rfl (by kernel_rfl) (by kernel_rfl) (by kernel_rfl) (by kernel_rfl) (by kernel_rfl) (slices_partitionEqualCmpFunc_34_call h732) rfl rfl).trans (by kernel_rfl)
       by_cases hw_ : r731.2.length = r648.2.2.length
       case neg => rw [if_neg hw_] at h; cases h
       rw [if_pos hw_] at h
       have h734 := hw_
       obtain rfl := Option.some.inj h
       simp (maxSteps := 10000000) (implicitDefEqProofs := false) (disch := first | assumption | omega | exact rfl) only [bs, rs45, ls45_34, Nat.reduceAdd, ↓reduceIte, Int.reduceEq, Int.reduceLE, Int.reduceLT, loadD_pagg a39 z39, hg, ↓h376', ↓h381', h386, h646, h650, ↓h652', ↓h704', h707, h710, h713, ↓h714', h733]
       exact ⟨rfl, by simp only [List.length_set, cpL_len, h647, h651, h734]; kernel_rfl⟩
     ·rw [if_neg h704] at h
      have h704' : decide ((0 : Int) < s1) = false := decide_eq_false h704
      obtain ⟨r735, h736, h⟩ := bsm h
      have h737 : callD (callW Try.prog A0) A0 [.arr (encL en_Pair r648.2.2)] 55 [.ref 0 0 y0.length 2, iv s1, iv s2, iv r648.1, .p (.fn (.func 34) [])] = some (.p (.tup [.v (.int .i64 r735.1), .v (.bool r735.2.1)]), some [.arr (encL en_Pair r735.2.2)]) := by
          rw [show y0.length = r648.2.2.length from by omega]; exact (callD_put (dsw := [.ref 0 0 r648.2.2.length 2, iv s1, iv s2, iv r648.1, .p (.fn (.func 34) [])]) (ds' := [.ref 0 0 r648.2.2.length 2, iv s1, iv s2, iv r648.1, .p (.fn (.func 34) [])]) (i := 0) (ids := []) (o := .arr (encL en_Pair r648.2.2)) (os := []) (o' := .arr (encL en_Pair r735.2.2)) (os' := []) rfl (by kernel_rfl) (by kernel_rfl) (by kernel_rfl) (by kernel_rfl) (by kernel_rfl) (slices_partitionCmpFunc_34_call h736) rfl rfl).trans (by kernel_rfl)
      by_cases hw_ : r735.2.2.length = r648.2.2.length
      case neg => rw [if_neg hw_] at h; cases h
      rw [if_pos hw_] at h
      have h738 := hw_
      obtain ⟨q739, h740, h⟩ := bsm h
      have h741 : ∀ xo yo, binD Try.prog .quo 3 xo yo (.p (.v (.int .i64 (w64 (s2 - s1))))) (.p (.v (.int .i64 (8 : Int)))) = some (.p (.v (.int .i64 q739))) := fun xo yo => binD_quo_k h740
      by_cases h742 : (w64 (r735.1 - s1)) < (w64 (s2 - r735.1))
      ·rw [if_pos h742] at h
       have h742' : decide ((w64 (r735.1 - s1)) < (w64 (s2 - r735.1))) = true := decide_eq_true h742
       obtain ⟨r743, h744, h⟩ := bsm h
       have h745 : callD (callW Try.prog A0) A0 [.arr (encL en_Pair r735.2.2)] 45 [.ref 0 0 y0.length 2, iv s1, iv r735.1, iv (w64 (s3 - (1 : Int))), .p (.fn (.func 34) [])] = some (.p (.tup []), some [.arr (encL en_Pair r743)]) := by
           rw [show y0.length = r735.2.2.length from by omega]; exact (callD_put (dsw := [.ref 0 0 r735.2.2.length 2, iv s1, iv r735.1, iv (w64 (s3 - (1 : Int))), .p (.fn (.func 34) [])]) (ds' := [.ref 0 0 r735.2.2.length 2, iv s1, iv r735.1, iv (w64 (s3 - (1 : Int))), .p (.fn (.func 34) [])]) (i := 0) (ids := []) (o := .arr (encL en_Pair r735.2.2)) (os := []) (o' := .arr (encL en_Pair r743)) (os' := []) rfl (by kernel_rfl) (by kernel_rfl) (by kernel_rfl) (by kernel_rfl) (by kernel_rfl) (slices_pdqsortCmpFunc_rcall hrec h744) rfl rfl).trans (by kernel_rfl)
       by_cases hw_ : r743.length = r735.2.2.length
       case neg => rw [if_neg hw_] at h; cases h
       rw [if_pos hw_] at h
       have h746 := hw_
       obtain rfl := Option.some.inj h
       simp (maxSteps := 10000000) (implicitDefEqProofs := false) (disch := first | assumption | omega | exact rfl) only [bs, rs45, ls45_34, Nat.reduceAdd, ↓reduceIte, Int.reduceEq, Int.reduceLE, Int.reduceLT, loadD_pagg a39 z39, hg, ↓h376', ↓h381', h386, h646, h650, ↓h652', ↓h704', h737, h741, ↓h742', h745]
       exact ⟨rfl, by simp only [List.length_set, cpL_len, h647, h651, h738, h746]; kernel_rfl⟩
      ·rw [if_neg h742] at h
       have h742' : decide ((w64 (r735.1 - s1)) < (w64 (s2 - r735.1))) = false := decide_eq_false h742
       obtain ⟨r747, h748, h⟩ := bsm h
       have h749 : callD (callW Try.prog A0) A0 [.arr (encL en_Pair r735.2.2)] 45 [.ref 0 0 y0.length 2, iv (w64 (r735.1 + (1 : Int))), iv s2, iv (w64 (s3 - (1 : Int))), .p (.fn (.func 34) [])] = some (.p (.tup []), some [.arr (encL en_Pair r747)]) := by
           rw [show y0.length = r735.2.2.length from by omega]; exact (callD_put (dsw := [.ref 0 0 r735.2.2.length 2, iv (w64 (r735.1 + (1 : Int))), iv s2, iv (w64 (s3 - (1 : Int))), .p (.fn (.func 34) [])]) (ds' := [.ref 0 0 r735.2.2.length 2, iv (w64 (r735.1 + (1 : Int))), iv s2, iv (w64 (s3 - (1 : Int))), .p (.fn (.func 34) [])]) (i := 0) (ids := []) (o := .arr (encL en_Pair r735.2.2)) (os := []) (o' := .arr (encL en_Pair r747)) (os' := []) rfl (by kernel_rfl) (by kernel_rfl) (by kernel_rfl) (by kernel_rfl) (by kernel_rfl) (slices_pdqsortCmpFunc_rcall hrec h748) rfl rfl).trans (by kernel_rfl)
       by_cases hw_ : r747.length = r735.2.2.length
       case neg => rw [if_neg hw_] at h; cases h
       rw [if_pos hw_] at h
       have h750 := hw_
       obtain rfl := Option.some.inj h
       simp (maxSteps := 10000000) (implicitDefEqProofs := false) (disch := first | assumption | omega | exact rfl) only [bs, rs45, ls45_34, Nat.reduceAdd, ↓reduceIte, Int.reduceEq, Int.reduceLE, Int.reduceLT, loadD_pagg a39 z39, hg, ↓h376', ↓h381', h386, h646, h650, ↓h652', ↓h704', h737, h741, ↓h742', h749]
       exact ⟨rfl, by simp only [List.length_set, cpL_len, h647, h651, h738, h750]; kernel_rfl⟩
theorem f45_34_ok {rec : (List Pair) → Int → Int → Int → Option (List Pair)} (hrec : ∀ x0 x1 x2 x3 r, rec x0 x1 x2 x3 = some r → callW Try.prog A0 45 [.ref 0 0 x0.length 2, iv x1, iv x2, iv x3, .p (.fn (.func 34) [])] [.arr (encL en_Pair x0)] = some (.p (.tup []), [.arr (encL en_Pair r)]))  (x0 : (List Pair)) (x1 : Int) (x2 : Int) (x3 : Int) (r : (List Pair)) (h : slices_pdqsortCmpFunc.body rec similar_Match_c2 x0 x1 x2 x3 = some r) : callW Try.prog A0 45 [.ref 0 0 x0.length 2, iv x1, iv x2, iv x3, .p (.fn (.func 34) [])] [.arr (encL en_Pair x0)] = some (.p (.tup []), [.arr (encL en_Pair r)]) := by
 refine call_ofH (fn := Try.f45) (c := bodyOf Try.f45) rfl rfl (by kernel_rfl) (by kernel_rfl) ?_
 rw [show initS Try.f45 [.ref 0 0 x0.length 2, iv x1, iv x2, iv x3, .p (.fn (.func 34) [])] [.arr (encL en_Pair x0)] = ⟨.ref 0 0 x0.length 2 :: iv x1 :: iv x2 :: iv x3 :: .p (.fn (.func 34) []) :: List.replicate 143 undefD, [.arr (encL en_Pair x0)], 1⟩ from by kernel_rfl]
 unfold slices_pdqsortCmpFunc.body at h
 unfold bodyOf Try.f45; simp only [Option.getD_some, loopsOf, List.append_nil, List.nil_append, List.cons_append, List.getD_cons_zero, List.getD_cons_succ]
 simp only [List.replicate]
 obtain ⟨o, h751, h⟩ := bsm h
 simp (maxSteps := 10000000) (implicitDefEqProofs := false) (disch := first | assumption | omega | exact rfl) only [bs, rs45, ls45_34, Nat.reduceAdd, ↓reduceIte, Int.reduceEq, Int.reduceLE, Int.reduceLT, loadD_pagg a39 z39]
 refine Wp.ctx (fun x => blockW _ (x)) (L45_34_0_ok hrec (x1, x2, x3, true, true, x0) _ o (by kernel_rfl) h751) ?_
 intro e st hq
 cases o with
 | next _ => (first | cases h | (simp at h))
 | jmp n_ s_ => exact hq.2.elim
 | ret r753 =>
  obtain ⟨rfl, hq⟩ := hq
  obtain rfl := Option.some.inj h
  simp (maxSteps := 10000000) (implicitDefEqProofs := false) (disch := first | assumption | omega | exact rfl) only [bs, rs45, ls45_34, Nat.reduceAdd, ↓reduceIte, Int.reduceEq, Int.reduceLE, Int.reduceLT, loadD_pagg a39 z39]
  exact ⟨by first | exact .inl trivial | exact .inr trivial | simp, hq⟩
theorem f45_spec : ∀ (x0 : (List Pair)) (x1 : Int) (x2 : Int) (x3 : Int) r, pdqS similar_Match_c2 x0 x1 x2 x3 = some r → callW Try.prog A0 45 [.ref 0 0 x0.length 2, iv x1, iv x2, iv x3, .p (.fn (.func 34) [])] [.arr (encL en_Pair x0)] = some (.p (.tup []), [.arr (encL en_Pair r)]) := by
  have key : ∀ n (x0 : (List Pair)) (x1 : Int) (x2 : Int) (x3 : Int) r, pdqS_mu x0 x1 x2 x3 < n → pdqS similar_Match_c2 x0 x1 x2 x3 = some r → callW Try.prog A0 45 [.ref 0 0 x0.length 2, iv x1, iv x2, iv x3, .p (.fn (.func 34) [])] [.arr (encL en_Pair x0)] = some (.p (.tup []), [.arr (encL en_Pair r)]) := by
    intro n
    induction n with
    | zero => intro x0 x1 x2 x3 r h; omega
    | succ n ih =>
      intro x0 x1 x2 x3 r hn h
      refine f45_34_ok (rec := fun x0' x1' x2' x3' => if pdqS_mu x0' x1' x2' x3' < pdqS_mu x0 x1 x2 x3 then pdqS similar_Match_c2 x0' x1' x2' x3' else none) ?_ x0 x1 x2 x3 r (pdqS_body similar_Match_c2 x0 x1 x2 x3 r h)
      intro x0' x1' x2' x3' r' h'
      by_cases hm : pdqS_mu x0' x1' x2' x3' < pdqS_mu x0 x1 x2 x3
      · rw [if_pos hm] at h'; exact ih x0' x1' x2' x3' r' (by omega) h'
      · rw [if_neg hm] at h'; cases h'
  intro x0 x1 x2 x3 r h
  exact key _ x0 x1 x2 x3 r (Nat.lt_succ_self _) h
theorem slices_pdqsortCmpFunc_34_call {x0 : (List Pair)} {x1 : Int} {x2 : Int} {x3 : Int} {r : (List Pair)} (h : pdqS similar_Match_c2 x0 x1 x2 x3 = some r) : callW Try.prog A0 45 [.ref 0 0 x0.length 2, iv x1, iv x2, iv x3, .p (.fn (.func 34) [])] [.arr (encL en_Pair x0)] = some (.p (.tup []), [.arr (encL en_Pair r)]) := f45_spec x0 x1 x2 x3 _ h
def ls33_34 := @cv_3_73
theorem f33_34_ok  (x0 : (List Pair)) (r : (List Pair)) (h : slices_SortFunc similar_Match_c2 x0 = some r) : callW Try.prog A0 33 [.ref 0 0 x0.length 2, .p (.fn (.func 34) [])] [.arr (encL en_Pair x0)] = some (.p (.tup []), [.arr (encL en_Pair r)]) := by
 refine call_ofH (fn := Try.f33) (c := bodyOf Try.f33) rfl rfl (by kernel_rfl) (by kernel_rfl) ?_
 rw [show initS Try.f33 [.ref 0 0 x0.length 2, .p (.fn (.func 34) [])] [.arr (encL en_Pair x0)] = ⟨.ref 0 0 x0.length 2 :: .p (.fn (.func 34) []) :: List.replicate 12 undefD, [.arr (encL en_Pair x0)], 1⟩ from by kernel_rfl]
 unfold slices_SortFunc at h
 unfold bodyOf Try.f33; simp only [Option.getD_some, loopsOf, List.append_nil, List.nil_append, List.cons_append, List.getD_cons_zero, List.getD_cons_succ]
 simp only [List.replicate]
 obtain ⟨r1, h2, h⟩ := bsm h
 have h3 : ∀ H, callD (callW Try.prog A0) A0 H 46 [.p (.v (.int .u64 (IntKind.wrap .u64 (x0.length : Int))))] = some (.p (.v (.int .i64 r1)), none) := fun H => math_bits_Len_call h2
 obtain ⟨r4, h5, h⟩ := bsm h
 have h6 : callD (callW Try.prog A0) A0 [.arr (encL en_Pair x0)] 45 [.ref 0 0 x0.length 2, iv (0 : Int), iv (x0.length : Int), iv r1, .p (.fn (.func 34) [])] = some (.p (.tup []), some [.arr (encL en_Pair r4)]) := (callD_put (dsw := [.ref 0 0 x0.length 2, iv (0 : Int), iv (x0.length : Int), iv r1, .p (.fn (.func 34) [])]) (ds' := [.ref 0 0 x0.length 2, iv (0 : Int), iv (x0.length : Int), iv r1, .p (.fn (.func 34) [])]) (i := 0) (ids := []) (o := .arr (encL en_Pair x0)) (os := []) (o' := .arr (encL en_Pair r4)) (os' := []) rfl (by kernel_rfl) (by kernel_rfl) (by kernel_rfl) (by kernel_rfl) (by kernel_rfl) (slices_pdqsortCmpFunc_34_call h5) rfl rfl).trans (by kernel_rfl)
 by_cases hw_ : r4.length = x0.length
 case neg => rw [if_neg hw_] at h; cases h
 rw [if_pos hw_] at h
 have h7 := hw_
 obtain rfl := Option.some.inj h
 simp (maxSteps := 10000000) (implicitDefEqProofs := false) (disch := first | assumption | omega | exact rfl) only [bs, rs33, ls33_34, Nat.reduceAdd, ↓reduceIte, lenD_ref u26, h3, h6]
 refine ⟨by first | exact .inl trivial | exact .inr trivial | simp, ?_⟩
 show _ = _
 kernel_rfl
theorem slices_SortFunc_34_call {x0 : (List Pair)} {r : (List Pair)} (h : slices_SortFunc similar_Match_c2 x0 = some r) : callW Try.prog A0 33 [.ref 0 0 x0.length 2, .p (.fn (.func 34) [])] [.arr (encL en_Pair x0)] = some (.p (.tup []), [.arr (encL en_Pair r)]) := f33_34_ok x0 _ h
def ls12 := And.intro @al_26 (And.intro @al_39 (And.intro @al_54 (And.intro @faI_58_1 (And.intro @faI_58_4 (And.intro @faP_39_0 (And.intro @faP_39_1 (And.intro @idxL_26 (And.intro @idxL_49 (And.intro @idxL_52 (And.intro @idxR_54 (And.intro @mk_54 (And.intro @sa_2_0_2 (And.intro @sg_1_0_r (And.intro @varld_1_0 (And.intro @varld_2_0_0 (And.intro @varld_2_0_1 (@varlv_4_0_4)))))))))))))))))
noncomputable def L12_2 : Code := (loopsOf (bodyOf Try.f12)).getD 2 .skip
def g12_2 : List Ghost := [.weak [8, 9, 10, 11, 22], .keep [8, 9, 10, 11, 12, 13, 14, 15, 18, 19, 20, 21, 22, 23]]
def F12_2 (s8 : (List Row)) (s9 : (List Row)) (s10 : (List Int)) (s11 : (List Int)) (s18 : Int) (s22 : (List Int)) (y3 : (List Bool)) (y4 : (List Bool)) (y5 : (List Pair)) : (Int × Int × Int × Int) → St := fun (s19, s20, s21, s23) => ⟨[.junk, .junk, .junk, .junk, .junk, .junk, .junk, .junk, .p (.lst false s8.length (encL en_Row s8)), .p (.lst false s9.length (encL en_Row s9)), .p (.lst false s10.length (encL en_i64 s10)), .p (.lst false s11.length (encL en_i64 s11)), .ptr 0 0, .ptr 1 0, .ptr 2 0, .fn (.func 31) [.ptr 2 0, .ptr 0 0, .ptr 1 0], .junk, .junk, iv s18, iv s19, iv s20, iv s21, .p (.lst false s22.length (encL en_i64 s22)), iv s23, .junk, .junk, .junk, .junk, .junk, .junk, .junk, .junk, .junk, .junk, .junk, .junk, .junk, .junk, .junk, .junk, .junk, .junk, .junk, .junk, .junk, .junk, .junk, .junk, .junk, .junk, .junk, .junk, .junk, .junk, .junk, .junk, .junk, .junk, .junk, .junk, .junk, .junk, .junk, .junk, .junk, .junk, .junk, .junk, .junk, .junk, .junk, .junk, .junk, .junk, .junk, .junk, .junk, .junk, .junk, .junk, .junk, .junk, .junk, .junk, .junk, .junk, .junk, .junk, .junk, .junk, .junk, .junk, .junk, .junk, .junk, .junk, .junk, .junk, .junk, .junk, .junk, .junk, .junk, .junk, .junk, .junk, .junk, .junk, .junk, .junk, .junk, .junk, .junk, .junk, .junk, .junk, .junk, .junk, .junk, .junk, .junk, .junk, .junk, .junk, .junk, .junk, .junk, .junk, .junk, .junk, .junk, .junk, .junk, .junk, .junk, .junk, .junk, .junk, .junk, .junk, .junk, .junk, .junk, .junk, .junk, .junk, .junk, .junk, .junk, .junk, .junk, .junk, .junk, .junk, .junk, .junk, .junk, .junk, .junk, .junk, .junk, .junk, .junk, .junk, .junk, .junk, .junk, .junk, .junk, .junk, .junk, .junk, .junk, .junk, .junk, .junk, .junk, .junk, .junk, .junk, .junk, .junk, .junk], [.var [.ref 3 0 y3.length 1], .var [.ref 4 0 y4.length 1], .var [.ref 5 0 y5.length 2], .arr (encL en_bool y3), .arr (encL en_bool y4), .arr (encL en_Pair y5)], 0⟩
theorem L12_2_ok (s8 : (List Row)) (s9 : (List Row)) (s10 : (List Int)) (s11 : (List Int)) (s18 : Int) (s22 : (List Int)) (y3 : (List Bool)) (y4 : (List Bool)) (y5 : (List Pair)) : ∀ s st o, ghostsD g12_2 st = some (F12_2 s8 s9 s10 s11 s18 s22 y3 y4 y5 s) → iter (similar_Match_L2 s8 s9 s10 s11 s18 s22 y3 y4 y5) s = some o →
    Wp (evW Try.prog A0 12 (.loop L12_2) st) (OutQ (F12_2 s8 s9 s10 s11 s18 s22 y3 y4 y5) g12_2 (fun n s st => n = 4 ∧ ghostsD [.keep [8, 9, 10, 11, 12, 13, 14, 15, 18, 19, 20, 21, 22, 23]] st = some (F12_2 s8 s9 s10 s11 s18 s22 y3 y4 y5 s)) (fun r st => finishD Try.prog A0 12 Try.f12 st = some (.p (.tup [.lst false r.1.length (encL en_Pair r.1), .v (.int .i64 r.2)]), [])) o) := by
 refine Wp.iter ?_
 intro s st o hg h
 obtain ⟨s19, s20, s21, s23⟩ := s
 unfold similar_Match_L2 at h
 unfold g12_2 F12_2 at hg ⊢
 (try simp only [] at h hg)
 unfold L12_2 bodyOf Try.f12; simp only [Option.getD_some, loopsOf, List.append_nil, List.nil_append, List.cons_append, List.getD_cons_zero, List.getD_cons_succ]
 by_cases h179 : s23 < (s9.length : Int)
 ·rw [if_pos h179] at h
  have h179' : decide (s23 < (s9.length : Int)) = true := decide_eq_true h179
  obtain ⟨v180, h181, h⟩ := bsm h
  obtain ⟨h181a, h181b, _⟩ := rd_some h181
  have h182 := ce_4_x h181
  by_cases h183 : v180 = true
  ·rw [if_pos h183] at h
   obtain rfl := Option.some.inj h
   simp (maxSteps := 10000000) (implicitDefEqProofs := false) (disch := first | assumption | omega | exact rfl | (refine dynT ?_; kernel_rfl)) only [bs, rs12, ls12, Nat.reduceAdd, ↓reduceIte, allP, lenD_lst u26, lenD_lst u49, lenD_lst u52, loadD_iagg a39 z39, loadD_iptr a3, loadD_iptr a52, loadD_pagg a25 z25, loadD_ptr a26, loadD_ptr a3, loadD_ptr a4, loadD_ptr a54, mkFn, ops_makeFunc_, storeD_agg z39, storeD_bool z4, storeD_gref z26, storeD_gref z54, hg, ↓h179', h182, h183]
   exact ⟨rfl, by kernel_rfl⟩
  ·rw [if_neg h183] at h
   replace h183 := Bool.eq_false_iff.2 h183
   obtain ⟨v184, h185, h⟩ := bsm h
   obtain ⟨h185a, h185b, _⟩ := rd_some h185
   have h186 := ce_58__4 h185
   by_cases h187 : (v184.Kids.length : Int) = (0 : Int)
   ·rw [if_pos h187] at h
    have h187' : decide ((v184.Kids.length : Int) = (0 : Int)) = true := decide_eq_true h187
    obtain rfl := Option.some.inj h
    simp (maxSteps := 10000000) (implicitDefEqProofs := false) (disch := first | assumption | omega | exact rfl | (refine dynT ?_; kernel_rfl)) only [bs, rs12, ls12, Nat.reduceAdd, ↓reduceIte, allP, lenD_lst u26, lenD_lst u49, lenD_lst u52, loadD_iagg a39 z39, loadD_iptr a3, loadD_iptr a52, loadD_pagg a25 z25, loadD_ptr a26, loadD_ptr a3, loadD_ptr a4, loadD_ptr a54, mkFn, ops_makeFunc_, storeD_agg z39, storeD_bool z4, storeD_gref z26, storeD_gref z54, hg, ↓h179', h182, h183, h186, ↓h187']
    exact ⟨rfl, by kernel_rfl⟩
   ·rw [if_neg h187] at h
    have h187' : decide ((v184.Kids.length : Int) = (0 : Int)) = false := decide_eq_false h187
    obtain ⟨v188, h189, h⟩ := bsm h
    obtain ⟨h189a, h189b, _⟩ := rd_some h189
    have h190 := ce_58__1 h189
    have h191 := ce_58__1 h185
    by_cases h192 : v188.Kind = v184.Kind
    ·rw [if_pos h192] at h
     have h192' : decide (v188.Kind = v184.Kind) = true := decide_eq_true h192
     obtain ⟨v193, h194, h⟩ := bsm h
     obtain ⟨h194a, h194b, _⟩ := rd_some h194
     have h195 := ce_3_x h194
     obtain ⟨v196, h197, h⟩ := bsm h
     obtain ⟨h197a, h197b, _⟩ := rd_some h197
     have h198 := ce_3_x h197
     obtain ⟨v199, h200, h⟩ := bsm h
     obtain ⟨h200a, h200b, _⟩ := rd_some h200
     have h201 := ce_3_x h200
     by_cases h202 : (w64 ((w64 (v196 + v199)) - (2 : Int))) < (w64 ((4 : Int) * v193))
     ·rw [if_pos h202] at h
      have h202' : decide ((w64 ((w64 (v196 + v199)) - (2 : Int))) < (w64 ((4 : Int) * v193))) = true := decide_eq_true h202
      by_cases h203 : s19 < (0 : Int)
      ·rw [if_pos h203] at h
       have h203' : decide (s19 < (0 : Int)) = true := decide_eq_true h203
       obtain rfl := Option.some.inj h
       simp (maxSteps := 10000000) (implicitDefEqProofs := false) (disch := first | assumption | omega | exact rfl | (refine dynT ?_; kernel_rfl)) only [bs, rs12, ls12, Nat.reduceAdd, ↓reduceIte, allP, lenD_lst u26, lenD_lst u49, lenD_lst u52, loadD_iagg a39 z39, loadD_iptr a3, loadD_iptr a52, loadD_pagg a25 z25, loadD_ptr a26, loadD_ptr a3, loadD_ptr a4, loadD_ptr a54, mkFn, ops_makeFunc_, storeD_agg z39, storeD_bool z4, storeD_gref z26, storeD_gref z54, hg, ↓h179', h182, h183, h186, ↓h187', h190, h191, ↓h192', h195, h198, h201, ↓h202', ↓h203']
       exact ⟨rfl, by kernel_rfl⟩
      ·rw [if_neg h203] at h
       have h203' : decide (s19 < (0 : Int)) = false := decide_eq_false h203
       by_cases h204 : (w64 (s20 * (w64 ((w64 (v196 + v199)) - (2 : Int))))) < (w64 (v193 * s21))
       ·rw [if_pos h204] at h
        have h204' : decide ((w64 (s20 * (w64 ((w64 (v196 + v199)) - (2 : Int))))) < (w64 (v193 * s21))) = true := decide_eq_true h204
        obtain rfl := Option.some.inj h
        simp (maxSteps := 10000000) (implicitDefEqProofs := false) (disch := first | assumption | omega | exact rfl | (refine dynT ?_; kernel_rfl)) only [bs, rs12, ls12, Nat.reduceAdd, ↓reduceIte, allP, lenD_lst u26, lenD_lst u49, lenD_lst u52, loadD_iagg a39 z39, loadD_iptr a3, loadD_iptr a52, loadD_pagg a25 z25, loadD_ptr a26, loadD_ptr a3, loadD_ptr a4, loadD_ptr a54, mkFn, ops_makeFunc_, storeD_agg z39, storeD_bool z4, storeD_gref z26, storeD_gref z54, hg, ↓h179', h182, h183, h186, ↓h187', h190, h191, ↓h192', h195, h198, h201, ↓h202', ↓h203', ↓h204']
        exact ⟨rfl, by kernel_rfl⟩
       ·rw [if_neg h204] at h
        have h204' : decide ((w64 (s20 * (w64 ((w64 (v196 + v199)) - (2 : Int))))) < (w64 (v193 * s21))) = false := decide_eq_false h204
        obtain rfl := Option.some.inj h
        simp (maxSteps := 10000000) (implicitDefEqProofs := false) (disch := first | assumption | omega | exact rfl | (refine dynT ?_; kernel_rfl)) only [bs, rs12, ls12, Nat.reduceAdd, ↓reduceIte, allP, lenD_lst u26, lenD_lst u49, lenD_lst u52, loadD_iagg a39 z39, loadD_iptr a3, loadD_iptr a52, loadD_pagg a25 z25, loadD_ptr a26, loadD_ptr a3, loadD_ptr a4, loadD_ptr a54, mkFn, ops_makeFunc_, storeD_agg z39, storeD_bool z4, storeD_gref z26, storeD_gref z54, hg, ↓h179', h182, h183, h186, ↓h187', h190, h191, ↓h192', h195, h198, h201, ↓h202', ↓h203', ↓h204']
        exact ⟨rfl, by kernel_rfl⟩
     ·rw [if_neg h202] at h
      have h202' : decide ((w64 ((w64 (v196 + v199)) - (2 : Int))) < (w64 ((4 : Int) * v193))) = false := decide_eq_false h202
      obtain rfl := Option.some.inj h
      simp (maxSteps := 10000000) (implicitDefEqProofs := false) (disch := first | assumption | omega | exact rfl | (refine dynT ?_; kernel_rfl)) only [bs, rs12, ls12, Nat.reduceAdd, ↓reduceIte, allP, lenD_lst u26, lenD_lst u49, lenD_lst u52, loadD_iagg a39 z39, loadD_iptr a3, loadD_iptr a52, loadD_pagg a25 z25, loadD_ptr a26, loadD_ptr a3, loadD_ptr a4, loadD_ptr a54, mkFn, ops_makeFunc_, storeD_agg z39, storeD_bool z4, storeD_gref z26, storeD_gref z54, hg, ↓h179', h182, h183, h186, ↓h187', h190, h191, ↓h192', h195, h198, h201, ↓h202']
      exact ⟨rfl, by kernel_rfl⟩
    ·rw [if_neg h192] at h
     have h192' : decide (v188.Kind = v184.Kind) = false := decide_eq_false h192
     obtain rfl := Option.some.inj h
     simp (maxSteps := 10000000) (implicitDefEqProofs := false) (disch := first | assumption | omega | exact rfl | (refine dynT ?_; kernel_rfl)) only [bs, rs12, ls12, Nat.reduceAdd, ↓reduceIte, allP, lenD_lst u26, lenD_lst u49, lenD_lst u52, loadD_iagg a39 z39, loadD_iptr a3, loadD_iptr a52, loadD_pagg a25 z25, loadD_ptr a26, loadD_ptr a3, loadD_ptr a4, loadD_ptr a54, mkFn, ops_makeFunc_, storeD_agg z39, storeD_bool z4, storeD_gref z26, storeD_gref z54, hg, ↓h179', h182, h183, h186, ↓h187', h190, h191, ↓h192']
     exact ⟨rfl, by kernel_rfl⟩
 ·rw [if_neg h179] at h
  have h179' : decide (s23 < (s9.length : Int)) = false := decide_eq_false h179
  obtain rfl := Option.some.inj h
  simp (maxSteps := 10000000) (implicitDefEqProofs := false) (disch := first | assumption | omega | exact rfl | (refine dynT ?_; kernel_rfl)) only [bs, rs12, ls12, Nat.reduceAdd, ↓reduceIte, allP, lenD_lst u26, lenD_lst u49, lenD_lst u52, loadD_iagg a39 z39, loadD_iptr a3, loadD_iptr a52, loadD_pagg a25 z25, loadD_ptr a26, loadD_ptr a3, loadD_ptr a4, loadD_ptr a54, mkFn, ops_makeFunc_, storeD_agg z39, storeD_bool z4, storeD_gref z26, storeD_gref z54, hg, ↓h179']
  exact ⟨rfl, rfl, by kernel_rfl⟩
noncomputable def L12_1 : Code := (loopsOf (bodyOf Try.f12)).getD 1 .skip
def g12_1 : List Ghost := [.weak [8, 9, 10, 11], .keep [8, 9, 10, 11, 12, 13, 14, 15, 18]]
def F12_1 (s8 : (List Row)) (s9 : (List Row)) (s10 : (List Int)) (s11 : (List Int)) : (Int × (List Bool) × (List Bool) × (List Pair)) → St := fun (s18, y3, y4, y5) => ⟨[.junk, .junk, .junk, .junk, .junk, .junk, .junk, .junk, .p (.lst false s8.length (encL en_Row s8)), .p (.lst false s9.length (encL en_Row s9)), .p (.lst false s10.length (encL en_i64 s10)), .p (.lst false s11.length (encL en_i64 s11)), .ptr 0 0, .ptr 1 0, .ptr 2 0, .fn (.func 31) [.ptr 2 0, .ptr 0 0, .ptr 1 0], .junk, .junk, iv s18, .junk, .junk, .junk, .junk, .junk, .junk, .junk, .junk, .junk, .junk, .junk, .junk, .junk, .junk, .junk, .junk, .junk, .junk, .junk, .junk, .junk, .junk, .junk, .junk, .junk, .junk, .junk, .junk, .junk, .junk, .junk, .junk, .junk, .junk, .junk, .junk, .junk, .junk, .junk, .junk, .junk, .junk, .junk, .junk, .junk, .junk, .junk, .junk, .junk, .junk, .junk, .junk, .junk, .junk, .junk, .junk, .junk, .junk, .junk, .junk, .junk, .junk, .junk, .junk, .junk, .junk, .junk, .junk, .junk, .junk, .junk, .junk, .junk, .junk, .junk, .junk, .junk, .junk, .junk, .junk, .junk, .junk, .junk, .junk, .junk, .junk, .junk, .junk, .junk, .junk, .junk, .junk, .junk, .junk, .junk, .junk, .junk, .junk, .junk, .junk, .junk, .junk, .junk, .junk, .junk, .junk, .junk, .junk, .junk, .junk, .junk, .junk, .junk, .junk, .junk, .junk, .junk, .junk, .junk, .junk, .junk, .junk, .junk, .junk, .junk, .junk, .junk, .junk, .junk, .junk, .junk, .junk, .junk, .junk, .junk, .junk, .junk, .junk, .junk, .junk, .junk, .junk, .junk, .junk, .junk, .junk, .junk, .junk, .junk, .junk, .junk, .junk, .junk, .junk, .junk, .junk, .junk, .junk, .junk, .junk, .junk, .junk, .junk, .junk], [.var [.ref 3 0 y3.length 1], .var [.ref 4 0 y4.length 1], .var [.ref 5 0 y5.length 2], .arr (encL en_bool y3), .arr (encL en_bool y4), .arr (encL en_Pair y5)], 0⟩
theorem L12_1_ok (s8 : (List Row)) (s9 : (List Row)) (s10 : (List Int)) (s11 : (List Int)) : ∀ s st o, ghostsD g12_1 st = some (F12_1 s8 s9 s10 s11 s) → iter (similar_Match_L1 s8 s9 s10 s11) s = some o →
    Wp (evW Try.prog A0 12 (.loop L12_1) st) (OutQ (F12_1 s8 s9 s10 s11) g12_1 (fun n s st => n = 2 ∧ ghostsD [.keep [8, 9, 10, 11, 12, 13, 14, 15, 18]] st = some (F12_1 s8 s9 s10 s11 s)) (fun r st => finishD Try.prog A0 12 Try.f12 st = some (.p (.tup [.lst false r.1.length (encL en_Pair r.1), .v (.int .i64 r.2)]), [])) o) := by
 refine Wp.iter ?_
 intro s st o hg h
 obtain ⟨s18, y3, y4, y5⟩ := s
 unfold similar_Match_L1 at h
 unfold g12_1 F12_1 at hg ⊢
 (try simp only [] at h hg)
 unfold L12_1 bodyOf Try.f12; simp only [Option.getD_some, loopsOf, List.append_nil, List.nil_append, List.cons_append, List.getD_cons_zero, List.getD_cons_succ]
 by_cases h164 : (0 : Int) < s18
 ·rw [if_pos h164] at h
  have h164' : decide ((0 : Int) < s18) = true := decide_eq_true h164
  obtain ⟨v165, h166, h⟩ := bsm h
  obtain ⟨h166a, h166b, _⟩ := rd_some h166
  have h167 := ce_4_x h166
  by_cases h168 : v165 = true
  ·rw [if_pos h168] at h
   obtain rfl := Option.some.inj h
   simp (maxSteps := 10000000) (implicitDefEqProofs := false) (disch := first | assumption | omega | exact rfl | (refine dynT ?_; kernel_rfl)) only [bs, rs12, ls12, Nat.reduceAdd, ↓reduceIte, allP, lenD_lst u26, lenD_lst u49, lenD_lst u52, loadD_iagg a39 z39, loadD_iptr a3, loadD_iptr a52, loadD_pagg a25 z25, loadD_ptr a26, loadD_ptr a3, loadD_ptr a4, loadD_ptr a54, mkFn, ops_makeFunc_, storeD_agg z39, storeD_bool z4, storeD_gref z26, storeD_gref z54, hg, ↓h164', h167, h168]
   exact ⟨rfl, by kernel_rfl⟩
  ·rw [if_neg h168] at h
   replace h168 := Bool.eq_false_iff.2 h168
   obtain ⟨v169, h170, h⟩ := bsm h
   obtain ⟨h170a, h170b, _⟩ := rd_some h170
   have h171 := ce_58__4 h170
   by_cases h172 : (v169.Kids.length : Int) = (0 : Int)
   ·rw [if_pos h172] at h
    have h172' : decide ((v169.Kids.length : Int) = (0 : Int)) = true := decide_eq_true h172
    obtain rfl := Option.some.inj h
    simp (maxSteps := 10000000) (implicitDefEqProofs := false) (disch := first | assumption | omega | exact rfl | (refine dynT ?_; kernel_rfl)) only [bs, rs12, ls12, Nat.reduceAdd, ↓reduceIte, allP, lenD_lst u26, lenD_lst u49, lenD_lst u52, loadD_iagg a39 z39, loadD_iptr a3, loadD_iptr a52, loadD_pagg a25 z25, loadD_ptr a26, loadD_ptr a3, loadD_ptr a4, loadD_ptr a54, mkFn, ops_makeFunc_, storeD_agg z39, storeD_bool z4, storeD_gref z26, storeD_gref z54, hg, ↓h164', h167, h168, h171, ↓h172']
    exact ⟨rfl, by kernel_rfl⟩
   ·rw [if_neg h172] at h
    have h172' : decide ((v169.Kids.length : Int) = (0 : Int)) = false := decide_eq_false h172
    obtain ⟨v173, h174, h⟩ := bsm h
    obtain ⟨h174a, h174b, _⟩ := rd_some h174
    have h175 := ce_3_x h174
    obtain ⟨r176, h177, h⟩ := bsm h
    have h178 : callD (callW Try.prog A0) A0 [.var [.ref 3 0 y3.length 1], .var [.ref 4 0 y4.length 1], .var [.ref 5 0 y5.length 2], .arr (encL en_bool y3), .arr (encL en_bool y4), .arr (encL en_Pair y5)] 32 [.p (.lst false s9.length (encL en_Row s9)), .ref 5 0 y5.length 2, iv s18, iv v173] = some (.p (.lst false r176.length (encL en_i64 r176)), none) := (callD_lend (dsw := [.p (.lst false s9.length (encL en_Row s9)), .ref 5 0 y5.length 2, iv s18, iv v173]) (ds' := [.p (.lst false s9.length (encL en_Row s9)), .ref 0 0 y5.length 2, iv s18, iv v173]) (i := 5) (ids := []) (os := [.roa (encL en_Pair y5)]) rfl rfl (by first | rfl | (simp only [List.map_cons, List.map_nil, wkDv, wk, wks, wkL]; first | done | rfl)) (by kernel_rfl) (by kernel_rfl) (by kernel_rfl) (by kernel_rfl) (similar_above_callg h177))
    obtain ⟨o, h205, h⟩ := bsm h
    simp (maxSteps := 10000000) (implicitDefEqProofs := false) (disch := first | assumption | omega | exact rfl | (refine dynT ?_; kernel_rfl)) only [bs, rs12, ls12, Nat.reduceAdd, ↓reduceIte, allP, lenD_lst u26, lenD_lst u49, lenD_lst u52, loadD_iagg a39 z39, loadD_iptr a3, loadD_iptr a52, loadD_pagg a25 z25, loadD_ptr a26, loadD_ptr a3, loadD_ptr a4, loadD_ptr a54, mkFn, ops_makeFunc_, storeD_agg z39, storeD_bool z4, storeD_gref z26, storeD_gref z54, hg, ↓h164', h167, h168, h171, ↓h172', h175, h178]
    refine Wp.ctx (fun x => seqW _ _ _ _ (blockW _ (seqW _ _ _ _ (blockW _ (x))))) (L12_2_ok s8 s9 s10 s11 s18 r176 y3 y4 y5 ((-1 : Int), (0 : Int), (1 : Int), (1 : Int)) _ o (by kernel_rfl) h205) ?_
    intro e st hq
    cases o with
    | next _ => (first | cases h | (simp at h))
    | jmp n_ s_ =>
     obtain ⟨rfl, rfl, hq⟩ := hq
     obtain ⟨s19_206, s20_206, s21_206, s23_206⟩ := s_
     unfold F12_2 at hq
     (try simp only [] at h hq)
     by_cases h207 : (0 : Int) < s19_206
     ·rw [if_pos h207] at h
      have h207' : decide ((0 : Int) < s19_206) = true := decide_eq_true h207
      obtain ⟨r208, h209, h⟩ := bsm h
      have h210 : callD (callW Try.prog A0) A0 [.var [.ref 3 0 y3.length 1], .var [.ref 4 0 y4.length 1], .var [.ref 5 0 y5.length 2], .arr (encL en_bool y3), .arr (encL en_bool y4), .arr (encL en_Pair y5)] 31 [iv s18, iv s19_206, .ptr 2 0, .ptr 0 0, .ptr 1 0] = some (.p (.tup []), some [.var [.ref 3 0 y3.length 1], .var [.ref 4 0 y4.length 1], .var [.ref 6 0 r208.2.2.length 2], .arr (encL en_bool r208.1), .arr (encL en_bool r208.2.1), .dead, .arr (encL en_Pair r208.2.2)]) := (callD_put (dsw := [iv s18, iv s19_206, .ptr 2 0, .ptr 0 0, .ptr 1 0]) (ds' := [iv s18, iv s19_206, .ptr 0 0, .ptr 1 0, .ptr 2 0]) (i := 2) (ids := [0, 1, 5, 3, 4]) (o := .var [.ref 3 0 y5.length 2]) (os := [.var [.ref 4 0 y3.length 1], .var [.ref 5 0 y4.length 1], .arr (encL en_Pair y5), .arr (encL en_bool y3), .arr (encL en_bool y4)]) (o' := .var [.ref 6 0 r208.2.2.length 2]) (os' := [.var [.ref 4 0 y3.length 1], .var [.ref 5 0 y4.length 1], .dead, .arr (encL en_bool r208.1), .arr (encL en_bool r208.2.1), .arr (encL en_Pair r208.2.2)]) rfl (by kernel_rfl) (by kernel_rfl) (by kernel_rfl) (by kernel_rfl) (by kernel_rfl) (similar_Match_c1_callg h209) rfl rfl).trans (by kernel_rfl)
      by_cases hw_ : r208.1.length = y3.length ∧ r208.2.1.length = y4.length
      case neg => rw [if_neg hw_] at h; cases h
      rw [if_pos hw_] at h
      obtain ⟨h211, h212⟩ := hw_
      obtain rfl := Option.some.inj h
      simp (maxSteps := 10000000) (implicitDefEqProofs := false) (disch := first | assumption | omega | exact rfl | (refine dynT ?_; kernel_rfl)) only [bs, rs12, ls12, Nat.reduceAdd, ↓reduceIte, allP, lenD_lst u26, lenD_lst u49, lenD_lst u52, loadD_iagg a39 z39, loadD_iptr a3, loadD_iptr a52, loadD_pagg a25 z25, loadD_ptr a26, loadD_ptr a3, loadD_ptr a4, loadD_ptr a54, mkFn, ops_makeFunc_, storeD_agg z39, storeD_bool z4, storeD_gref z26, storeD_gref z54, hg, ↓h164', h167, h168, h171, ↓h172', h175, h178, hq, ↓h207', h210]
      exact ⟨rfl, by simp only [List.length_set, cpL_len, h211, h212]; kernel_rfl⟩
     ·rw [if_neg h207] at h
      have h207' : decide ((0 : Int) < s19_206) = false := decide_eq_false h207
      obtain rfl := Option.some.inj h
      simp (maxSteps := 10000000) (implicitDefEqProofs := false) (disch := first | assumption | omega | exact rfl | (refine dynT ?_; kernel_rfl)) only [bs, rs12, ls12, Nat.reduceAdd, ↓reduceIte, allP, lenD_lst u26, lenD_lst u49, lenD_lst u52, loadD_iagg a39 z39, loadD_iptr a3, loadD_iptr a52, loadD_pagg a25 z25, loadD_ptr a26, loadD_ptr a3, loadD_ptr a4, loadD_ptr a54, mkFn, ops_makeFunc_, storeD_agg z39, storeD_bool z4, storeD_gref z26, storeD_gref z54, hg, ↓h164', h167, h168, h171, ↓h172', h175, h178, hq, ↓h207']
      exact ⟨rfl, by kernel_rfl⟩
    | ret _ => (first | cases h | (simp at h))
 ·rw [if_neg h164] at h
  have h164' : decide ((0 : Int) < s18) = false := decide_eq_false h164
  obtain rfl := Option.some.inj h
  simp (maxSteps := 10000000) (implicitDefEqProofs := false) (disch := first | assumption | omega | exact rfl | (refine dynT ?_; kernel_rfl)) only [bs, rs12, ls12, Nat.reduceAdd, ↓reduceIte, allP, lenD_lst u26, lenD_lst u49, lenD_lst u52, loadD_iagg a39 z39, loadD_iptr a3, loadD_iptr a52, loadD_pagg a25 z25, loadD_ptr a26, loadD_ptr a3, loadD_ptr a4, loadD_ptr a54, mkFn, ops_makeFunc_, storeD_agg z39, storeD_bool z4, storeD_gref z26, storeD_gref z54, hg, ↓h164']
  exact ⟨rfl, rfl, by kernel_rfl⟩
noncomputable def L12_0 : Code := (loopsOf (bodyOf Try.f12)).getD 0 .skip
def g12_0 : List Ghost := [.weak [8, 9, 10, 11, 48], .keep [8, 9, 10, 11, 12, 13, 14, 15, 48, 49, 50]]
def F12_0 (s8 : (List Row)) (s9 : (List Row)) (s10 : (List Int)) (s11 : (List Int)) (s48 : (List Pair)) (s49 : Int) (y5 : (List Pair)) : (Int × (List Bool) × (List Bool)) → St := fun (s50, y3, y4) => ⟨[.junk, .junk, .junk, .junk, .junk, .junk, .junk, .junk, .p (.lst false s8.length (encL en_Row s8)), .p (.lst false s9.length (encL en_Row s9)), .p (.lst false s10.length (encL en_i64 s10)), .p (.lst false s11.length (encL en_i64 s11)), .ptr 0 0, .ptr 1 0, .ptr 2 0, .fn (.func 31) [.ptr 2 0, .ptr 0 0, .ptr 1 0], .junk, .junk, .junk, .junk, .junk, .junk, .junk, .junk, .junk, .junk, .junk, .junk, .junk, .junk, .junk, .junk, .junk, .junk, .junk, .junk, .junk, .junk, .junk, .junk, .junk, .junk, .junk, .junk, .junk, .junk, .junk, .junk, .p (.lst false s48.length (encL en_Pair s48)), iv s49, iv s50, .junk, .junk, .junk, .junk, .junk, .junk, .junk, .junk, .junk, .junk, .junk, .junk, .junk, .junk, .junk, .junk, .junk, .junk, .junk, .junk, .junk, .junk, .junk, .junk, .junk, .junk, .junk, .junk, .junk, .junk, .junk, .junk, .junk, .junk, .junk, .junk, .junk, .junk, .junk, .junk, .junk, .junk, .junk, .junk, .junk, .junk, .junk, .junk, .junk, .junk, .junk, .junk, .junk, .junk, .junk, .junk, .junk, .junk, .junk, .junk, .junk, .junk, .junk, .junk, .junk, .junk, .junk, .junk, .junk, .junk, .junk, .junk, .junk, .junk, .junk, .junk, .junk, .junk, .junk, .junk, .junk, .junk, .junk, .junk, .junk, .junk, .junk, .junk, .junk, .junk, .junk, .junk, .junk, .junk, .junk, .junk, .junk, .junk, .junk, .junk, .junk, .junk, .junk, .junk, .junk, .junk, .junk, .junk, .junk, .junk, .junk, .junk, .junk, .junk, .junk, .junk, .junk, .junk, .junk, .junk, .junk, .junk, .junk, .junk, .junk, .junk, .junk, .junk, .junk, .junk, .junk, .junk], [.var [.ref 3 0 y3.length 1], .var [.ref 4 0 y4.length 1], .var [.ref 5 0 y5.length 2], .arr (encL en_bool y3), .arr (encL en_bool y4), .arr (encL en_Pair y5)], 0⟩
theorem L12_0_ok (s8 : (List Row)) (s9 : (List Row)) (s10 : (List Int)) (s11 : (List Int)) (s48 : (List Pair)) (s49 : Int) (y5 : (List Pair)) : ∀ s st o, ghostsD g12_0 st = some (F12_0 s8 s9 s10 s11 s48 s49 y5 s) → iter (similar_Match_L0 s8 s9 s10 s11 s48 s49 y5) s = some o →
    Wp (evW Try.prog A0 12 (.loop L12_0) st) (OutQ (F12_0 s8 s9 s10 s11 s48 s49 y5) g12_0 (fun n s st => n = 0 ∧ ghostsD [.keep [8, 9, 10, 11, 12, 13, 14, 15, 48, 49, 50]] st = some (F12_0 s8 s9 s10 s11 s48 s49 y5 s)) (fun r st => finishD Try.prog A0 12 Try.f12 st = some (.p (.tup [.lst false r.1.length (encL en_Pair r.1), .v (.int .i64 r.2)]), [])) o) := by
 refine Wp.iter ?_
 intro s st o hg h
 obtain ⟨s50, y3, y4⟩ := s
 unfold similar_Match_L0 at h
 unfold g12_0 F12_0 at hg ⊢
 (try simp only [] at h hg)
 unfold L12_0 bodyOf Try.f12; simp only [Option.getD_some, loopsOf, List.append_nil, List.nil_append, List.cons_append, List.getD_cons_zero, List.getD_cons_succ]
 by_cases h24 : s50 < s49
 ·rw [if_pos h24] at h
  have h24' : decide (s50 < s49) = true := decide_eq_true h24
  obtain ⟨v25, h26, h⟩ := bsm h
  obtain ⟨h26a, h26b, _⟩ := rd_some h26
  have h27 := lk_frz_39 h26
  obtain ⟨v28, h29, h⟩ := bsm h
  obtain ⟨h29a, h29b, _⟩ := rd_some h29
  have h30 : ∀ (H : List Ob) (id : Nat), stdOb H id (v25.Old.toNat * 1) (.p (.v (.bool true))) (some (.arr (encL en_bool y3))) = some (H.set id (.arr (encL en_bool (y3.set v25.Old.toNat true)))) := fun H id => std_enc0 en_bool_len h29 (by decide) (by rw [en_bool_eq, en_bool_eq]; rfl)
  have h31 : (y3.set v25.Old.toNat true).length = y3.length := List.length_set
  obtain ⟨v32, h33, h⟩ := bsm h
  obtain ⟨h33a, h33b, _⟩ := rd_some h33
  have h34 : ∀ (H : List Ob) (id : Nat), stdOb H id (v25.New.toNat * 1) (.p (.v (.bool true))) (some (.arr (encL en_bool y4))) = some (H.set id (.arr (encL en_bool (y4.set v25.New.toNat true)))) := fun H id => std_enc0 en_bool_len h33 (by decide) (by rw [en_bool_eq, en_bool_eq]; rfl)
  have h35 : (y4.set v25.New.toNat true).length = y4.length := List.length_set
  obtain rfl := Option.some.inj h
  simp (maxSteps := 10000000) (implicitDefEqProofs := false) (disch := first | assumption | omega | exact rfl | (refine dynT ?_; kernel_rfl)) only [bs, rs12, ls12, Nat.reduceAdd, ↓reduceIte, allP, lenD_lst u26, lenD_lst u49, lenD_lst u52, loadD_iagg a39 z39, loadD_iptr a3, loadD_iptr a52, loadD_pagg a25 z25, loadD_ptr a26, loadD_ptr a3, loadD_ptr a4, loadD_ptr a54, mkFn, ops_makeFunc_, storeD_agg z39, storeD_bool z4, storeD_gref z26, storeD_gref z54, hg, ↓h24', h27, h30, h34]
  exact ⟨rfl, by simp only [List.length_set, cpL_len]; kernel_rfl⟩
 ·rw [if_neg h24] at h
  have h24' : decide (s50 < s49) = false := decide_eq_false h24
  obtain rfl := Option.some.inj h
  simp (maxSteps := 10000000) (implicitDefEqProofs := false) (disch := first | assumption | omega | exact rfl | (refine dynT ?_; kernel_rfl)) only [bs, rs12, ls12, Nat.reduceAdd, ↓reduceIte, allP, lenD_lst u26, lenD_lst u49, lenD_lst u52, loadD_iagg a39 z39, loadD_iptr a3, loadD_iptr a52, loadD_pagg a25 z25, loadD_ptr a26, loadD_ptr a3, loadD_ptr a4, loadD_ptr a54, mkFn, ops_makeFunc_, storeD_agg z39, storeD_bool z4, storeD_gref z26, storeD_gref z54, hg, ↓h24']
  exact ⟨rfl, rfl, by kernel_rfl⟩
theorem f12_ok  (x0 : Node) (x1 : Node) (x2 : (List Pair)) (r : ((List Pair) × Int)) (h : similar_Match x0 x1 x2 = some r) : callW Try.prog A0 12 [.p (.agg [.v (.int .i64 x0.Kind), .v (.string x0.Text), .lst false x0.Gaps.length (encL en_str x0.Gaps), .lst false x0.Kids.length (encL en_Node x0.Kids)]), .p (.agg [.v (.int .i64 x1.Kind), .v (.string x1.Text), .lst false x1.Gaps.length (encL en_str x1.Gaps), .lst false x1.Kids.length (encL en_Node x1.Kids)]), .p (.lst false x2.length (encL en_Pair x2))] [] = some (.p (.tup [.lst false r.1.length (encL en_Pair r.1), .v (.int .i64 r.2)]), []) := by
 refine call_ofH (fn := Try.f12) (c := bodyOf Try.f12) rfl rfl (by kernel_rfl) (by kernel_rfl) ?_
 rw [show initS Try.f12 [.p (.agg [.v (.int .i64 x0.Kind), .v (.string x0.Text), .lst false x0.Gaps.length (encL en_str x0.Gaps), .lst false x0.Kids.length (encL en_Node x0.Kids)]), .p (.agg [.v (.int .i64 x1.Kind), .v (.string x1.Text), .lst false x1.Gaps.length (encL en_str x1.Gaps), .lst false x1.Kids.length (encL en_Node x1.Kids)]), .p (.lst false x2.length (encL en_Pair x2))] [] = ⟨.p (.agg [.v (.int .i64 x0.Kind), .v (.string x0.Text), .lst false x0.Gaps.length (encL en_str x0.Gaps), .lst false x0.Kids.length (encL en_Node x0.Kids)]) :: .p (.agg [.v (.int .i64 x1.Kind), .v (.string x1.Text), .lst false x1.Gaps.length (encL en_str x1.Gaps), .lst false x1.Kids.length (encL en_Node x1.Kids)]) :: .p (.lst false x2.length (encL en_Pair x2)) :: List.replicate 180 undefD, [], 0⟩ from by kernel_rfl]
 unfold similar_Match at h
 unfold bodyOf Try.f12; simp only [Option.getD_some, loopsOf, List.append_nil, List.nil_append, List.cons_append, List.getD_cons_zero, List.getD_cons_succ]
 simp only [List.replicate]
 obtain ⟨r1, h2, h⟩ := bsm h
 have h3 : ∀ H, callD (callW Try.prog A0) A0 H 27 [.p (.agg [.v (.int .i64 x0.Kind), .v (.string x0.Text), .lst false x0.Gaps.length (encL en_str x0.Gaps), .lst false x0.Kids.length (encL en_Node x0.Kids)])] = some (.p (.lst false r1.length (encL en_Row r1)), none) := fun H => tree_Rows_call h2
 obtain ⟨r4, h5, h⟩ := bsm h
 have h6 : ∀ H, callD (callW Try.prog A0) A0 H 27 [.p (.agg [.v (.int .i64 x1.Kind), .v (.string x1.Text), .lst false x1.Gaps.length (encL en_str x1.Gaps), .lst false x1.Kids.length (encL en_Node x1.Kids)])] = some (.p (.lst false r4.length (encL en_Row r4)), none) := fun H => tree_Rows_call h5
 obtain ⟨r7, h8, h⟩ := bsm h
 have h9 : ∀ H, callD (callW Try.prog A0) A0 H 28 [.p (.lst false r1.length (encL en_Row r1)), .p (.lst false r4.length (encL en_Row r4)), .p (.lst false x2.length (encL en_Pair x2))] = some (.p (.v (.bool r7)), none) := fun H => similar_partial_call h8
 by_cases h10 : r7 = true
 ·rw [if_pos h10] at h
  obtain ⟨r11, h12, h⟩ := bsm h
  have h13 : ∀ H, callD (callW Try.prog A0) A0 H 29 [.p (.agg [.v (.int .i64 x0.Kind), .v (.string x0.Text), .lst false x0.Gaps.length (encL en_str x0.Gaps), .lst false x0.Kids.length (encL en_Node x0.Kids)])] = some (.p (.lst false r11.length (encL en_i64 r11)), none) := fun H => similar_sizes_call h12
  obtain ⟨r14, h15, h⟩ := bsm h
  have h16 : ∀ H, callD (callW Try.prog A0) A0 H 29 [.p (.agg [.v (.int .i64 x1.Kind), .v (.string x1.Text), .lst false x1.Gaps.length (encL en_str x1.Gaps), .lst false x1.Kids.length (encL en_Node x1.Kids)])] = some (.p (.lst false r14.length (encL en_i64 r14)), none) := fun H => similar_sizes_call h15
  by_cases hw_ : 0 ≤ (r1.length : Int) ∧ (r1.length : Int) * 1 ≤ 140737488355328
  case neg => rw [if_neg hw_] at h; cases h
  rw [if_pos hw_] at h
  obtain ⟨h17, h18⟩ := hw_
  by_cases hw_ : 0 ≤ (r4.length : Int) ∧ (r4.length : Int) * 1 ≤ 140737488355328
  case neg => rw [if_neg hw_] at h; cases h
  rw [if_pos hw_] at h
  obtain ⟨h19, h20⟩ := hw_
  obtain ⟨r21, h22, h⟩ := bsm h
  have h23 : ∀ H, callD (callW Try.prog A0) A0 H 30 [.p (.lst false x2.length (encL en_Pair x2))] = some (.ref H.length 0 r21.length 2, some (H ++ [.arr (encL en_Pair r21)])) := fun H => slices_Clone_call h22
  obtain ⟨o, h36, h⟩ := bsm h
  simp (maxSteps := 10000000) (implicitDefEqProofs := false) (disch := first | assumption | omega | exact rfl | (refine dynT ?_; kernel_rfl)) only [bs, rs12, ls12, Nat.reduceAdd, ↓reduceIte, allP, lenD_lst u26, lenD_lst u49, lenD_lst u52, loadD_iagg a39 z39, loadD_iptr a3, loadD_iptr a52, loadD_pagg a25 z25, loadD_ptr a26, loadD_ptr a3, loadD_ptr a4, loadD_ptr a54, mkFn, ops_makeFunc_, storeD_agg z39, storeD_bool z4, storeD_gref z26, storeD_gref z54, h3, h6, h9, h10, h13, h16, h23]
  refine Wp.ctx (fun x => seqW _ _ _ _ (blockW _ (x))) (L12_0_ok r1 r4 r11 r14 x2 (x2.length : Int) r21 ((0 : Int), (List.replicate (r1.length : Int).toNat false), (List.replicate (r4.length : Int).toNat false)) _ o (by kernel_rfl) h36) ?_
  intro e st hq
  cases o with
  | next _ => (first | cases h | (simp at h))
  | jmp n_ s_ =>
   obtain ⟨rfl, rfl, hq⟩ := hq
   obtain ⟨s50_37, y3_37, y4_37⟩ := s_
   unfold F12_0 at hq
   (try simp only [] at h hq)
   obtain ⟨v38, h39, h⟩ := bsm h
   obtain ⟨h39a, h39b, _⟩ := rd_some h39
   have h40 := ce_58__1 h39
   obtain ⟨v41, h42, h⟩ := bsm h
   obtain ⟨h42a, h42b, _⟩ := rd_some h42
   have h43 := ce_58__1 h42
   by_cases h44 : v38.Kind = v41.Kind
   ·rw [if_pos h44] at h
    have h44' : decide (v38.Kind = v41.Kind) = true := decide_eq_true h44
    obtain ⟨v45, h46, h⟩ := bsm h
    obtain ⟨h46a, h46b, _⟩ := rd_some h46
    have h47 := ce_4_x h46
    by_cases h48 : v45 = true
    ·rw [if_pos h48] at h
     obtain ⟨o, h98, h⟩ := bsm h
     simp (maxSteps := 10000000) (implicitDefEqProofs := false) (disch := first | assumption | omega | exact rfl | (refine dynT ?_; kernel_rfl)) only [bs, rs12, ls12, Nat.reduceAdd, ↓reduceIte, allP, lenD_lst u26, lenD_lst u49, lenD_lst u52, loadD_iagg a39 z39, loadD_iptr a3, loadD_iptr a52, loadD_pagg a25 z25, loadD_ptr a26, loadD_ptr a3, loadD_ptr a4, loadD_ptr a54, mkFn, ops_makeFunc_, storeD_agg z39, storeD_bool z4, storeD_gref z26, storeD_gref z54, h3, h6, h9, h10, h13, h16, h23, hq, h40, h43, ↓h44', h47, h48]
     refine Wp.ctx (fun x => seqW _ _ _ _ (blockW _ (x))) (L12_1_ok r1 r4 r11 r14 (w64 ((r1.length : Int) - (1 : Int)), y3_37, y4_37, r21) _ o (by kernel_rfl) h98) ?_
     intro e st hq
     cases o with
     | next _ => (first | cases h | (simp at h))
     | jmp n_ s_ =>
      obtain ⟨rfl, rfl, hq⟩ := hq
      obtain ⟨s18_99, y3_99, y4_99, y5_99⟩ := s_
      unfold F12_1 at hq
      (try simp only [] at h hq)
      obtain ⟨r100, h101, h⟩ := bsm h
      have h102 : callD (callW Try.prog A0) A0 [.var [.ref 3 0 y3_99.length 1], .var [.ref 4 0 y4_99.length 1], .var [.ref 5 0 y5_99.length 2], .arr (encL en_bool y3_99), .arr (encL en_bool y4_99), .arr (encL en_Pair y5_99)] 33 [.ref 5 0 y5_99.length 2, .p (.fn (.func 34) [])] = some (.p (.tup []), some [.var [.ref 3 0 y3_99.length 1], .var [.ref 4 0 y4_99.length 1], .var [.ref 5 0 y5_99.length 2], .arr (encL en_bool y3_99), .arr (encL en_bool y4_99), .arr (encL en_Pair r100)]) := (callD_put (dsw := [.ref 5 0 y5_99.length 2, .p (.fn (.func 34) [])]) (ds' := [.ref 0 0 y5_99.length 2, .p (.fn (.func 34) [])]) (i := 5) (ids := []) (o := .arr (encL en_Pair y5_99)) (os := []) (o' := .arr (encL en_Pair r100)) (os' := []) rfl (by kernel_rfl) (by kernel_rfl) (by kernel_rfl) (by kernel_rfl) (by kernel_rfl) (slices_SortFunc_34_call h101) rfl rfl).trans (by kernel_rfl)
      by_cases hw_ : r100.length = y5_99.length
      case neg => rw [if_neg hw_] at h; cases h
      rw [if_pos hw_] at h
      have h103 := hw_
      obtain rfl := Option.some.inj h
      simp (maxSteps := 10000000) (implicitDefEqProofs := false) (disch := first | assumption | omega | exact rfl | (refine dynT ?_; kernel_rfl)) only [bs, rs12, ls12, Nat.reduceAdd, ↓reduceIte, allP, lenD_lst u26, lenD_lst u49, lenD_lst u52, loadD_iagg a39 z39, loadD_iptr a3, loadD_iptr a52, loadD_pagg a25 z25, loadD_ptr a26, loadD_ptr a3, loadD_ptr a4, loadD_ptr a54, mkFn, ops_makeFunc_, storeD_agg z39, storeD_bool z4, storeD_gref z26, storeD_gref z54, h3, h6, h9, h10, h13, h16, h23, hq, h40, h43, ↓h44', h47, h48, hq, h102]
      refine ⟨by first | exact .inl trivial | exact .inr trivial | simp, ?_⟩
      exact finish_is (ds := [.ref 5 0 y5_99.length 2, iv (0 : Int)]) (x := .tup [.lst false r100.length (encL en_Pair r100), .v (.int .i64 (0 : Int))]) (y := .tup [.lst false r100.length (encL en_Pair r100), .v (.int .i64 (0 : Int))]) (l := [5]) rfl rfl rfl (purifyT_rp en_Pair_len rfl (by first | rfl | omega)) (by first | rfl | (simp only [wk, wks, wkL]; first | done | rfl))
     | ret _ => (first | cases h | (simp at h))
    ·rw [if_neg h48] at h
     replace h48 := Bool.eq_false_iff.2 h48
     obtain ⟨r104, h105, h⟩ := bsm h
     have h106 : callD (callW Try.prog A0) A0 [.var [.ref 3 0 y3_37.length 1], .var [.ref 4 0 y4_37.length 1], .var [.ref 5 0 r21.length 2], .arr (encL en_bool y3_37), .arr (encL en_bool y4_37), .arr (encL en_Pair r21)] 31 [iv (0 : Int), iv (0 : Int), .ptr 2 0, .ptr 0 0, .ptr 1 0] = some (.p (.tup []), some [.var [.ref 3 0 y3_37.length 1], .var [.ref 4 0 y4_37.length 1], .var [.ref 6 0 r104.2.2.length 2], .arr (encL en_bool r104.1), .arr (encL en_bool r104.2.1), .dead, .arr (encL en_Pair r104.2.2)]) := (callD_put (dsw := [iv (0 : Int), iv (0 : Int), .ptr 2 0, .ptr 0 0, .ptr 1 0]) (ds' := [iv (0 : Int), iv (0 : Int), .ptr 0 0, .ptr 1 0, .ptr 2 0]) (i := 2) (ids := [0, 1, 5, 3, 4]) (o := .var [.ref 3 0 r21.length 2]) (os := [.var [.ref 4 0 y3_37.length 1], .var [.ref 5 0 y4_37.length 1], .arr (encL en_Pair r21), .arr (encL en_bool y3_37), .arr (encL en_bool y4_37)]) (o' := .var [.ref 6 0 r104.2.2.length 2]) (os' := [.var [.ref 4 0 y3_37.length 1], .var [.ref 5 0 y4_37.length 1], .dead, .arr (encL en_bool r104.1), .arr (encL en_bool r104.2.1), .arr (encL en_Pair r104.2.2)]) rfl (by kernel_rfl) (by kernel_rfl) (by kernel_rfl) (by kernel_rfl) (by kernel_rfl) (similar_Match_c1_callg h105) rfl rfl).trans (by kernel_rfl)
     by_cases hw_ : r104.1.length = y3_37.length ∧ r104.2.1.length = y4_37.length
     case neg => rw [if_neg hw_] at h; cases h
     rw [if_pos hw_] at h
     obtain ⟨h107, h108⟩ := hw_
     obtain ⟨o, h158, h⟩ := bsm h
     simp (maxSteps := 10000000) (implicitDefEqProofs := false) (disch := first | assumption | omega | exact rfl | (refine dynT ?_; kernel_rfl)) only [bs, rs12, ls12, Nat.reduceAdd, ↓reduceIte, allP, lenD_lst u26, lenD_lst u49, lenD_lst u52, loadD_iagg a39 z39, loadD_iptr a3, loadD_iptr a52, loadD_pagg a25 z25, loadD_ptr a26, loadD_ptr a3, loadD_ptr a4, loadD_ptr a54, mkFn, ops_makeFunc_, storeD_agg z39, storeD_bool z4, storeD_gref z26, storeD_gref z54, h3, h6, h9, h10, h13, h16, h23, hq, h40, h43, ↓h44', h47, h48, h106]
     refine Wp.ctx (fun x => seqW _ _ _ _ (blockW _ (x))) (L12_1_ok r1 r4 r11 r14 (w64 ((r1.length : Int) - (1 : Int)), r104.1, r104.2.1, r104.2.2) _ o (by unfold F12_1; simp only [List.length_set, cpL_len, h107, h108]; kernel_rfl) h158) ?_
     intro e st hq
     cases o with
     | next _ => (first | cases h | (simp at h))
     | jmp n_ s_ =>
      obtain ⟨rfl, rfl, hq⟩ := hq
      obtain ⟨s18_159, y3_159, y4_159, y5_159⟩ := s_
      unfold F12_1 at hq
      (try simp only [] at h hq)
      obtain ⟨r160, h161, h⟩ := bsm h
      have h162 : callD (callW Try.prog A0) A0 [.var [.ref 3 0 y3_159.length 1], .var [.ref 4 0 y4_159.length 1], .var [.ref 5 0 y5_159.length 2], .arr (encL en_bool y3_159), .arr (encL en_bool y4_159), .arr (encL en_Pair y5_159)] 33 [.ref 5 0 y5_159.length 2, .p (.fn (.func 34) [])] = some (.p (.tup []), some [.var [.ref 3 0 y3_159.length 1], .var [.ref 4 0 y4_159.length 1], .var [.ref 5 0 y5_159.length 2], .arr (encL en_bool y3_159), .arr (encL en_bool y4_159), .arr (encL en_Pair r160)]) := (callD_put (dsw := [.ref 5 0 y5_159.length 2, .p (.fn (.func 34) [])]) (ds' := [.ref 0 0 y5_159.length 2, .p (.fn (.func 34) [])]) (i := 5) (ids := []) (o := .arr (encL en_Pair y5_159)) (os := []) (o' := .arr (encL en_Pair r160)) (os' := []) rfl (by kernel_rfl) (by kernel_rfl) (by kernel_rfl) (by kernel_rfl) (by kernel_rfl) (slices_SortFunc_34_call h161) rfl rfl).trans (by kernel_rfl)
      by_cases hw_ : r160.length = y5_159.length
      case neg => rw [if_neg hw_] at h; cases h
      rw [if_pos hw_] at h
      have h163 := hw_
      obtain rfl := Option.some.inj h
      simp (maxSteps := 10000000) (implicitDefEqProofs := false) (disch := first | assumption | omega | exact rfl | (refine dynT ?_; kernel_rfl)) only [bs, rs12, ls12, Nat.reduceAdd, ↓reduceIte, allP, lenD_lst u26, lenD_lst u49, lenD_lst u52, loadD_iagg a39 z39, loadD_iptr a3, loadD_iptr a52, loadD_pagg a25 z25, loadD_ptr a26, loadD_ptr a3, loadD_ptr a4, loadD_ptr a54, mkFn, ops_makeFunc_, storeD_agg z39, storeD_bool z4, storeD_gref z26, storeD_gref z54, h3, h6, h9, h10, h13, h16, h23, hq, h40, h43, ↓h44', h47, h48, h106, hq, h162]
      refine ⟨by first | exact .inl trivial | exact .inr trivial | simp, ?_⟩
      exact finish_is (ds := [.ref 5 0 y5_159.length 2, iv (0 : Int)]) (x := .tup [.lst false r160.length (encL en_Pair r160), .v (.int .i64 (0 : Int))]) (y := .tup [.lst false r160.length (encL en_Pair r160), .v (.int .i64 (0 : Int))]) (l := [5]) rfl rfl rfl (purifyT_rp en_Pair_len rfl (by first | rfl | omega)) (by first | rfl | (simp only [wk, wks, wkL]; first | done | rfl))
     | ret _ => (first | cases h | (simp at h))
   ·rw [if_neg h44] at h
    have h44' : decide (v38.Kind = v41.Kind) = false := decide_eq_false h44
    obtain ⟨o, h213, h⟩ := bsm h
    simp (maxSteps := 10000000) (implicitDefEqProofs := false) (disch := first | assumption | omega | exact rfl | (refine dynT ?_; kernel_rfl)) only [bs, rs12, ls12, Nat.reduceAdd, ↓reduceIte, allP, lenD_lst u26, lenD_lst u49, lenD_lst u52, loadD_iagg a39 z39, loadD_iptr a3, loadD_iptr a52, loadD_pagg a25 z25, loadD_ptr a26, loadD_ptr a3, loadD_ptr a4, loadD_ptr a54, mkFn, ops_makeFunc_, storeD_agg z39, storeD_bool z4, storeD_gref z26, storeD_gref z54, h3, h6, h9, h10, h13, h16, h23, hq, h40, h43, ↓h44']
    refine Wp.ctx (fun x => seqW _ _ _ _ (blockW _ (x))) (L12_1_ok r1 r4 r11 r14 (w64 ((r1.length : Int) - (1 : Int)), y3_37, y4_37, r21) _ o (by kernel_rfl) h213) ?_
    intro e st hq
    cases o with
    | next _ => (first | cases h | (simp at h))
    | jmp n_ s_ =>
     obtain ⟨rfl, rfl, hq⟩ := hq
     obtain ⟨s18_214, y3_214, y4_214, y5_214⟩ := s_
     unfold F12_1 at hq
     (try simp only [] at h hq)
     obtain ⟨r215, h216, h⟩ := bsm h
     have h217 : callD (callW Try.prog A0) A0 [.var [.ref 3 0 y3_214.length 1], .var [.ref 4 0 y4_214.length 1], .var [.ref 5 0 y5_214.length 2], .arr (encL en_bool y3_214), .arr (encL en_bool y4_214), .arr (encL en_Pair y5_214)] 33 [.ref 5 0 y5_214.length 2, .p (.fn (.func 34) [])] = some (.p (.tup []), some [.var [.ref 3 0 y3_214.length 1], .var [.ref 4 0 y4_214.length 1], .var [.ref 5 0 y5_214.length 2], .arr (encL en_bool y3_214), .arr (encL en_bool y4_214), .arr (encL en_Pair r215)]) := (callD_put (dsw := [.ref 5 0 y5_214.length 2, .p (.fn (.func 34) [])]) (ds' := [.ref 0 0 y5_214.length 2, .p (.fn (.func 34) [])]) (i := 5) (ids := []) (o := .arr (encL en_Pair y5_214)) (os := []) (o' := .arr (encL en_Pair r215)) (os' := []) rfl (by kernel_rfl) (by kernel_rfl) (by kernel_rfl) (by kernel_rfl) (by kernel_rfl) (slices_SortFunc_34_call h216) rfl rfl).trans (by kernel_rfl)
     by_cases hw_ : r215.length = y5_214.length
     case neg => rw [if_neg hw_] at h; cases h
     rw [if_pos hw_] at h
     have h218 := hw_
     obtain rfl := Option.some.inj h
     simp (maxSteps := 10000000) (implicitDefEqProofs := false) (disch := first | assumption | omega | exact rfl | (refine dynT ?_; kernel_rfl)) only [bs, rs12, ls12, Nat.reduceAdd, ↓reduceIte, allP, lenD_lst u26, lenD_lst u49, lenD_lst u52, loadD_iagg a39 z39, loadD_iptr a3, loadD_iptr a52, loadD_pagg a25 z25, loadD_ptr a26, loadD_ptr a3, loadD_ptr a4, loadD_ptr a54, mkFn, ops_makeFunc_, storeD_agg z39, storeD_bool z4, storeD_gref z26, storeD_gref z54, h3, h6, h9, h10, h13, h16, h23, hq, h40, h43, ↓h44', hq, h217]
     refine ⟨by first | exact .inl trivial | exact .inr trivial | simp, ?_⟩
     exact finish_is (ds := [.ref 5 0 y5_214.length 2, iv (0 : Int)]) (x := .tup [.lst false r215.length (encL en_Pair r215), .v (.int .i64 (0 : Int))]) (y := .tup [.lst false r215.length (encL en_Pair r215), .v (.int .i64 (0 : Int))]) (l := [5]) rfl rfl rfl (purifyT_rp en_Pair_len rfl (by first | rfl | omega)) (by first | rfl | (simp only [wk, wks, wkL]; first | done | rfl))
    | ret _ => (first | cases h | (simp at h))
  | ret _ => (first | cases h | (simp at h))
 ·rw [if_neg h10] at h
  replace h10 := Bool.eq_false_iff.2 h10
  obtain rfl := Option.some.inj h
  simp (maxSteps := 10000000) (implicitDefEqProofs := false) (disch := first | assumption | omega | exact rfl | (refine dynT ?_; kernel_rfl)) only [bs, rs12, ls12, Nat.reduceAdd, ↓reduceIte, allP, lenD_lst u26, lenD_lst u49, lenD_lst u52, loadD_iagg a39 z39, loadD_iptr a3, loadD_iptr a52, loadD_pagg a25 z25, loadD_ptr a26, loadD_ptr a3, loadD_ptr a4, loadD_ptr a54, mkFn, ops_makeFunc_, storeD_agg z39, storeD_bool z4, storeD_gref z26, storeD_gref z54, h3, h6, h9, h10]
  refine ⟨by first | exact .inl trivial | exact .inr trivial | simp, ?_⟩
  exact finish_is (ds := [.p (.lst true 0 []), iv (15 : Int)]) (x := .tup [.lst true 0 [], .v (.int .i64 (15 : Int))]) (y := .tup [.lst false ([] : List Pair).length (encL en_Pair ([] : List Pair)), .v (.int .i64 (15 : Int))]) (l := []) rfl rfl rfl rfl (by first | rfl | (simp only [wk, wks, wkL]; first | done | rfl))
theorem similar_Match_call {b1 b2 b3 b4 b5 : Bool} {H : List Ob} {x0 : Node} {x1 : Node} {x2 : (List Pair)} {r : ((List Pair) × Int)} (h : similar_Match x0 x1 x2 = some r) : callD (callW Try.prog A0) A0 H 12 [.p (.agg [.v (.int .i64 x0.Kind), .v (.string x0.Text), .lst b1 x0.Gaps.length (encL en_str x0.Gaps), .lst b2 x0.Kids.length (encL en_Node x0.Kids)]), .p (.agg [.v (.int .i64 x1.Kind), .v (.string x1.Text), .lst b3 x1.Gaps.length (encL en_str x1.Gaps), .lst b4 x1.Kids.length (encL en_Node x1.Kids)]), .p (.lst b5 x2.length (encL en_Pair x2))] = some (.p (.tup [.lst false r.1.length (encL en_Pair r.1), .v (.int .i64 r.2)]), none) :=
  callD_fun (args := [.agg [.v (.int .i64 x0.Kind), .v (.string x0.Text), .lst b1 x0.Gaps.length (encL en_str x0.Gaps), .lst b2 x0.Kids.length (encL en_Node x0.Kids)], .agg [.v (.int .i64 x1.Kind), .v (.string x1.Text), .lst b3 x1.Gaps.length (encL en_str x1.Gaps), .lst b4 x1.Kids.length (encL en_Node x1.Kids)], .lst b5 x2.length (encL en_Pair x2)]) rfl rfl rfl (by simp only [List.map_cons, List.map_nil, wk, wks, wkL]; exact f12_ok x0 x1 x2 _ h)
end Xn

