/- A part of the proof: M3. -/
import Derived.Test.YtgjhagehbfhioaaM2
namespace Mv
open Go Go.Ev Go.Proofs
set_option linter.unusedSimpArgs false
set_option linter.unusedVariables false
set_option maxRecDepth 8000
set_option maxHeartbeats 2000000
-- TYPES: lenD_lst u38, lenD_ref u38, idxD_lst u38 z3, idxD_ref u38 z3, loadD_iptr a3, loadD_ptr a3, storeD_ptr z3 cells_int
theorem fold_bound {x : Int} {B : Int} : ∀ (l : List (Int × Int)) (m : Int), (∀ p ∈ l, p.2 ≤ B) → 1 ≤ m → m ≤ B + 1 → 1 ≤ l.foldl (up1 x) m ∧ l.foldl (up1 x) m ≤ B + 1
  | [], m, _, h1, h2 => ⟨h1, h2⟩
  | p :: l, m, h, h1, h2 => by
    rw [List.foldl_cons]
    have hp := h p (by simp)
    refine fold_bound l _ (fun q hq => h q (by simp [hq])) ?_ ?_ <;> (unfold up1; split <;> omega)
theorem best_eq (x : Int) (l ls : List Int) : best x l ls = (l.zip ls).foldl (up1 x) 1 := rfl
theorem lngs_bound : ∀ (l : List Int) (v : Int), v ∈ lngs l → 1 ≤ v ∧ v ≤ l.length
  | [], v, h => by simp [lngs] at h
  | x :: l, v, h => by
    simp only [lngs, List.mem_cons] at h
    rcases h with rfl | h
    · have hb : ∀ p ∈ l.zip (lngs l), p.2 ≤ (l.length : Int) := fun p hp => (lngs_bound l p.2 (List.of_mem_zip (a := p.1) (b := p.2) hp).2).2
      have := fold_bound (x := x) (l.zip (lngs l)) 1 hb (by omega) (by omega)
      rw [best_eq]; simp only [List.length_cons]; omega
    · have := lngs_bound l v h
      simp only [List.length_cons]; omega
theorem lngs_drop {l : List Int} {i : Nat} (h : i < l.length) : lngs (l.drop i) = best l[i] (l.drop (i + 1)) (lngs (l.drop (i + 1))) :: lngs (l.drop (i + 1)) := by
  rw [List.drop_eq_getElem_cons h, lngs]
theorem mostOf_bound : ∀ (ls : List Int) (B : Int), 0 ≤ B → (∀ v ∈ ls, v ≤ B) → 0 ≤ mostOf ls ∧ mostOf ls ≤ B
  | [], B, hB, _ => ⟨Int.le_refl _, hB⟩
  | v :: ls, B, hB, h => by
    have h1 := mostOf_bound ls B hB fun w hw => h w (by simp [hw])
    have h2 := h v (by simp)
    simp only [mostOf, List.foldr_cons] at h1 ⊢
    omega

/-! ### R19.Rising: the outer loop -/
def S20_0 (l a : List Int) (most i : Int) : St := ⟨[il l, .junk, .junk, .ref 0 0 a.length 1, iv most, iv i, .junk, .junk, .junk, .junk, .junk, .junk, .junk, .junk, .junk, .junk, .junk, .junk, .junk, .junk, .junk, .junk, .junk, .junk, .junk, .junk, .junk, .junk, .junk, .junk, .junk, .junk, .junk, .junk, .junk, .junk, .junk, .junk, .junk, .junk, .junk, .junk, .junk, .junk, .junk, .junk, .junk, .junk, .junk, .junk, .junk, .junk, .junk, .junk, .junk, .junk, .junk, .junk, .junk, .junk, .junk, .junk, .junk, .junk, .junk, .junk, .junk, .junk, .junk, .junk, .junk, .junk, .junk, .junk, .junk, .junk, .junk, .junk, .junk, .junk, .junk, .junk, .junk, .junk, .junk, .junk, .junk, .junk, .junk, .junk, .junk, .junk, .junk, .junk, .junk, .junk, .junk, .junk], [.arr (ints a)], 0⟩
def mo (l : List Int) (j : Nat) : Int := mostOf (lngs (l.drop j))
theorem L20_0_ok (l : List Int) (hl : l.length < 2 ^ 39) :
   ∀ (x : Nat × List Int) s, (x.1 ≤ l.length ∧ x.2.length = l.length ∧ x.2.drop x.1 = lngs (l.drop x.1) ∧ ∀ j (h : j < x.2.length), 0 ≤ x.2[j] ∧ x.2[j] ≤ l.length) → ghostsD g20_0 s = some (S20_0 l x.2 (mo l x.1) ((x.1 : Int) - 1)) →
   Wp (evW Try.prog A0 20 (.loop L20_0) s) fun e s' => e = .exit 0 ∧ ghostsD g20_0 s' = some (S20_0 l (lngs l) (mostOf (lngs l)) (-1)) := by
  refine Wp.loop _ _ _ (fun x => x.1) ?_
  intro ⟨j, a⟩ s ⟨hj, hal, had, hab⟩ hg
  simp only at hj hal had hab hg ⊢
  unfold g20_0 at hg ⊢
  unfold L20_0 bodyOf Try.f20; simp only [Option.getD_some, loopsOf, List.append_nil, List.nil_append, List.cons_append, List.getD_cons_zero, List.getD_cons_succ]
  cases j with
  | zero =>
    have e0 : ((0 : Nat) : Int) - 1 = -1 := by omega
    have hneg : ¬ (0 : Int) ≤ -1 := by omega
    rw [e0] at hg
    simp (maxSteps := 1000000) (implicitDefEqProofs := false) (disch := first | omega | (simp only [ints_len, List.length_cons, List.length_nil, List.length_append, List.length_set] <;> omega) | exact rfl | assumption) only [w_seq, ghosts_nil, regW_some, ops_move, ops_assign, ops_bin, ops_load, ops_indexAddr, ops_len, ops_store, ops_call, opsP_some, opsQ_none, opsQ_some, opsQ_loud, ops_nil, doneW_some, seqW_normal, seqW_ret, seqW_exit, w_cond, w_block, condW_true, condW_false, evalO_tmp, evalO_const, evalO_func, ofVal_int, ofVal_bool, ofVal_nil, set8, getD8, List.set_cons_succ, List.set_cons_zero, List.getD_cons_succ, List.getD_cons_zero, binD_add, binD_sub, binD_mul, binD_lss, binD_leq, binD_gtr, binD_geq, binD_eql, binD_neq, boolD_bv, Int.toNat_natCast, Nat.mul_one, Nat.zero_add, Option.map_some, blockW_normal, blockW_ret, blockW_exit, blockW_other, Bool.false_and, Bool.and_false, Bool.and_true, Bool.true_and, ops_guard, opsG_true, opsG_false, opsG_prop, opsG_not, wantT_some, yield_bv, yield_undef, putD_some, putD_none, beq_true', beq_false', List.getElem?_toArray, List.getElem?_cons_succ, List.getElem?_cons_zero, Option.bind_some, Option.bind_none, ops_pick, appOb_arr, List.length_cons, List.length_nil, List.cons_append, List.nil_append, ldOb_arr, ldOb_frz, ldOb_var, stOb_arr, stOb_var, pickD_true, pickD_false, pickD_prop, ops_un, unD_not, ops_max, ops_min, maxD_int, minD_int, ops_bs, ops_append, ops_make, condW_prop, condW_not, ↓reduceIte, if_true, if_false, evW_skip, evW_exit, evW_ret, callV_func, List.map_cons, List.map_nil, Wp_some, lenD_lst u38, lenD_ref u38, idxD_lst u38 z3, idxD_ref u38 z3, loadD_iptr a3, loadD_ptr a3, storeD_ptr z3 cells_int, r20_0, r20_1, r20_2, r20_3, r20_4, r20_6, r20_7, r20_8, r20_10, r20_11, r20_9, r20_12, r20_5, r20_13, r20_14, r20_15, r20_17, r20_18, r20_19, r20_16, r20_20, hg, S20_0, mo, hneg]
    simp only [List.drop_zero] at had
    exact ⟨trivial, by rw [had]; kernel_rfl⟩
  | succ i =>
    have hi : i < l.length := by omega
    have hia : i < a.length := by omega
    have e1 : ((i + 1 : Nat) : Int) - 1 = i := by omega
    have h0 : (0 : Int) ≤ i := by omega
    rw [e1] at hg
    simp (maxSteps := 1000000) (implicitDefEqProofs := false) (disch := first | omega | (simp only [ints_len, List.length_cons, List.length_nil, List.length_append, List.length_set] <;> omega) | exact rfl | assumption) only [w_seq, ghosts_nil, regW_some, ops_move, ops_assign, ops_bin, ops_load, ops_indexAddr, ops_len, ops_store, ops_call, opsP_some, opsQ_none, opsQ_some, opsQ_loud, ops_nil, doneW_some, seqW_normal, seqW_ret, seqW_exit, w_cond, w_block, condW_true, condW_false, evalO_tmp, evalO_const, evalO_func, ofVal_int, ofVal_bool, ofVal_nil, set8, getD8, List.set_cons_succ, List.set_cons_zero, List.getD_cons_succ, List.getD_cons_zero, binD_add, binD_sub, binD_mul, binD_lss, binD_leq, binD_gtr, binD_geq, binD_eql, binD_neq, boolD_bv, Int.toNat_natCast, Nat.mul_one, Nat.zero_add, Option.map_some, blockW_normal, blockW_ret, blockW_exit, blockW_other, Bool.false_and, Bool.and_false, Bool.and_true, Bool.true_and, ops_guard, opsG_true, opsG_false, opsG_prop, opsG_not, wantT_some, yield_bv, yield_undef, putD_some, putD_none, beq_true', beq_false', List.getElem?_toArray, List.getElem?_cons_succ, List.getElem?_cons_zero, Option.bind_some, Option.bind_none, ops_pick, appOb_arr, List.length_cons, List.length_nil, List.cons_append, List.nil_append, ldOb_arr, ldOb_frz, ldOb_var, stOb_arr, stOb_var, pickD_true, pickD_false, pickD_prop, ops_un, unD_not, ops_max, ops_min, maxD_int, minD_int, ops_bs, ops_append, ops_make, condW_prop, condW_not, ↓reduceIte, if_true, if_false, evW_skip, evW_exit, evW_ret, callV_func, List.map_cons, List.map_nil, Wp_some, lenD_lst u38, lenD_ref u38, idxD_lst u38 z3, idxD_ref u38 z3, loadD_iptr a3, loadD_ptr a3, storeD_ptr z3 cells_int, r20_0, r20_1, r20_2, r20_3, r20_4, r20_6, r20_7, r20_8, r20_10, r20_11, r20_9, r20_12, r20_5, r20_13, r20_14, r20_15, r20_17, r20_18, r20_19, r20_16, r20_20, hg, S20_0, ints_set, ints_len, w64_id, h0]
    have hb : ∀ j (h : j < (a.set i 1).length), 0 ≤ (a.set i 1)[j] ∧ (a.set i 1)[j] ≤ 2 ^ 40 := by
      intro j h
      rw [List.getElem_set]
      split
      · omega
      · have := hab j (by simpa using h); omega
    have hi1 : i < (a.set i 1).length := by simpa using hia
    have hz : ((l.zip (a.set i 1)).drop (i + 1)).foldl (up1 l[i]) (a.set i 1)[i] = best l[i] (l.drop (i + 1)) (lngs (l.drop (i + 1))) := by
      rw [show l.zip (a.set i 1) = List.zipWith Prod.mk l (a.set i 1) from rfl, List.drop_zipWith, List.drop_set_of_lt (by omega), had, best_eq]; simp [List.zip]
    refine Wp.ctx (fun x => seqW _ _ _ _ (blockW _ (seqW _ _ _ _ (blockW _ x)))) (L20_1_ok l (a.set i 1) (mo l (i + 1)) i hi (by omega) (by simp [hal]) hb (i + 1, a.set i 1) _ ⟨by simp, by simp; omega, by simp [mid_start]⟩ (by unfold S20_1; simp only [List.length_set]; kernel_rfl)) ?_
    intro e s2 ⟨he, hg2⟩
    subst he
    rw [mid_end (by simp [hal]), hz] at hg2
    generalize hv : best l[i] (l.drop (i + 1)) (lngs (l.drop (i + 1))) = v at *
    unfold g20_1 S20_1 at hg2
    have ha2 : (a.set i 1).set i v = a.set i v := by simp [List.set_set]
    rw [ha2] at hg2
    have hia2 : i < (a.set i v).length := by simpa using hia
    have hget : (a.set i v)[i] = v := by simp
    simp (maxSteps := 1000000) (implicitDefEqProofs := false) (disch := first | omega | (simp only [ints_len, List.length_cons, List.length_nil, List.length_append, List.length_set] <;> omega) | exact rfl | assumption) only [w_seq, ghosts_nil, regW_some, ops_move, ops_assign, ops_bin, ops_load, ops_indexAddr, ops_len, ops_store, ops_call, opsP_some, opsQ_none, opsQ_some, opsQ_loud, ops_nil, doneW_some, seqW_normal, seqW_ret, seqW_exit, w_cond, w_block, condW_true, condW_false, evalO_tmp, evalO_const, evalO_func, ofVal_int, ofVal_bool, ofVal_nil, set8, getD8, List.set_cons_succ, List.set_cons_zero, List.getD_cons_succ, List.getD_cons_zero, binD_add, binD_sub, binD_mul, binD_lss, binD_leq, binD_gtr, binD_geq, binD_eql, binD_neq, boolD_bv, Int.toNat_natCast, Nat.mul_one, Nat.zero_add, Option.map_some, blockW_normal, blockW_ret, blockW_exit, blockW_other, Bool.false_and, Bool.and_false, Bool.and_true, Bool.true_and, ops_guard, opsG_true, opsG_false, opsG_prop, opsG_not, wantT_some, yield_bv, yield_undef, putD_some, putD_none, beq_true', beq_false', List.getElem?_toArray, List.getElem?_cons_succ, List.getElem?_cons_zero, Option.bind_some, Option.bind_none, ops_pick, appOb_arr, List.length_cons, List.length_nil, List.cons_append, List.nil_append, ldOb_arr, ldOb_frz, ldOb_var, stOb_arr, stOb_var, pickD_true, pickD_false, pickD_prop, ops_un, unD_not, ops_max, ops_min, maxD_int, minD_int, ops_bs, ops_append, ops_make, condW_prop, condW_not, ↓reduceIte, if_true, if_false, evW_skip, evW_exit, evW_ret, callV_func, List.map_cons, List.map_nil, Wp_some, lenD_lst u38, lenD_ref u38, idxD_lst u38 z3, idxD_ref u38 z3, loadD_iptr a3, loadD_ptr a3, storeD_ptr z3 cells_int, r20_0, r20_1, r20_2, r20_3, r20_4, r20_6, r20_7, r20_8, r20_10, r20_11, r20_9, r20_12, r20_5, r20_13, r20_14, r20_15, r20_17, r20_18, r20_19, r20_16, r20_20, hg2, ints_at, w64_id, hget, maxD_int]
    have hdr : (a.set i v).drop i = lngs (l.drop i) := by
      rw [List.drop_eq_getElem_cons hia2, hget, lngs_drop hi, hv, List.drop_set_of_lt (by omega), had]
    have hvb : 1 ≤ v ∧ v ≤ l.length := by
      have := lngs_bound (l.drop i) v (by rw [lngs_drop hi, hv]; simp)
      simp only [List.length_drop] at this
      omega
    have hmo : mo l i = max (mo l (i + 1)) v := by
      unfold mo; rw [lngs_drop hi, hv]; simp [mostOf]
    refine ⟨(i, a.set i v), ⟨by simp only; omega, by simpa using hal, hdr, ?_⟩, by simp only; omega, ?_⟩
    · intro j h
      simp only [List.getElem_set]
      split
      · omega
      · exact hab j (by simpa using h)
    · simp only [hmo, S20_0]; kernel_rfl
