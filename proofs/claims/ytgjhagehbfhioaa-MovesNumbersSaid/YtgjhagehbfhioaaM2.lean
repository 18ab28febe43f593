/- A part of the proof: M2. -/
import Derived.Test.YtgjhagehbfhioaaM1
namespace Mv
open Go Go.Ev Go.Proofs
set_option linter.unusedSimpArgs false
set_option linter.unusedVariables false
set_option maxRecDepth 8000
set_option maxHeartbeats 2000000
-- TYPES: lenD_lst u38, lenD_ref u38, idxD_lst u38 z3, idxD_ref u38 z3, loadD_iptr a3, loadD_ptr a3, storeD_ptr z3 cells_int
theorem ints_set (l : List Int) (i : Nat) (x : Int) : (ints l).set i (.v (.int .i64 x)) = ints (l.set i x) := by simp [ints, List.map_set]
theorem ints_app (l m : List Int) : ints l ++ ints m = ints (l ++ m) := by simp [ints]
theorem ints_one (x : Int) : [Pv.v (.int .i64 x)] = ints [x] := rfl
theorem repl_ints : ∀ n, repl n [Pv.v (.int .i64 0)] = ints (List.replicate n 0)
  | 0 => rfl
  | n + 1 => by simp [repl, repl_ints n, List.replicate_succ, ints]

/-! ### R19.Rising: the inner loop -/
def S20_1 (l a : List Int) (most i k : Int) : St := ⟨[il l, .junk, .junk, .ref 0 0 a.length 1, iv most, iv i, iv k, .junk, .junk, .junk, .junk, .junk, .junk, .junk, .junk, .junk, .junk, .junk, .junk, .junk, .junk, .junk, .junk, .junk, .junk, .junk, .junk, .junk, .junk, .junk, .junk, .junk, .junk, .junk, .junk, .junk, .junk, .junk, .junk, .junk, .junk, .junk, .junk, .junk, .junk, .junk, .junk, .junk, .junk, .junk, .junk, .junk, .junk, .junk, .junk, .junk, .junk, .junk, .junk, .junk, .junk, .junk, .junk, .junk, .junk, .junk, .junk, .junk, .junk, .junk, .junk, .junk, .junk, .junk, .junk, .junk, .junk, .junk, .junk, .junk, .junk, .junk, .junk, .junk, .junk, .junk, .junk, .junk, .junk, .junk, .junk, .junk, .junk, .junk, .junk, .junk, .junk, .junk], [.arr (ints a)], 0⟩
/-- One step of the inner loop. -/
def up1 (x : Int) (m : Int) (p : Int × Int) : Int := if p.1 > x then max m (p.2 + 1) else m
/-- The value at the index i after the elements from i + 1 to k. -/
def mid (l a : List Int) (i : Nat) (x m : Int) (k : Nat) : Int := (((l.zip a).drop (i + 1)).take (k - (i + 1))).foldl (up1 x) m
theorem mid_start (l a : List Int) (i : Nat) (x m : Int) : mid l a i x m (i + 1) = m := by simp [mid]
theorem mid_step {l a : List Int} {i k : Nat} {x m : Int} (hk : i < k) (hl : k < l.length) (ha : a.length = l.length) : mid l a i x m (k + 1) = up1 x (mid l a i x m k) (l[k], a[k]) := by
  unfold mid
  have e : k + 1 - (i + 1) = (k - (i + 1)) + 1 := by omega
  have hlt : k - (i + 1) < ((l.zip a).drop (i + 1)).length := by simp [List.length_zip]; omega
  rw [e, List.take_add_one, List.foldl_append, List.getElem?_eq_getElem hlt]
  have e2 : ((l.zip a).drop (i + 1))[k - (i + 1)] = (l[k], a[k]) := by
    simp only [List.getElem_drop, List.getElem_zip]
    have e3 : i + 1 + (k - (i + 1)) = k := by omega
    simp only [e3]
  rw [e2]; rfl
theorem mid_end {l a : List Int} {i : Nat} {x m : Int} (ha : a.length = l.length) : mid l a i x m l.length = ((l.zip a).drop (i + 1)).foldl (up1 x) m := by
  unfold mid
  rw [List.take_of_length_le (by simp [List.length_zip]; omega)]
theorem L20_1_ok (l a0 : List Int) (most : Int) (i : Nat) (hi : i < l.length) (hl : l.length < 2 ^ 40) (ha : a0.length = l.length) (hb : ∀ j (h : j < a0.length), 0 ≤ a0[j] ∧ a0[j] ≤ 2 ^ 40) :
   ∀ (x : Nat × List Int) s, (i < x.1 ∧ x.1 ≤ l.length ∧ x.2 = a0.set i (mid l a0 i l[i] a0[i] x.1)) → ghostsD g20_1 s = some (S20_1 l x.2 most i x.1) →
   Wp (evW Try.prog A0 20 (.loop L20_1) s) fun e s' => e = .exit 2 ∧ ghostsD g20_1 s' = some (S20_1 l (a0.set i (mid l a0 i l[i] a0[i] l.length)) most i l.length) := by
  refine Wp.loop _ _ _ (fun x => l.length - x.1) ?_
  intro ⟨k, a⟩ s ⟨hk, hkl, hae⟩ hg
  simp only at hk hkl hae hg ⊢
  unfold g20_1 at hg ⊢
  unfold L20_1 bodyOf Try.f20; simp only [Option.getD_some, loopsOf, List.append_nil, List.nil_append, List.cons_append, List.getD_cons_zero, List.getD_cons_succ]
  have hal : a.length = l.length := by rw [hae]; simp [ha]
  by_cases h2 : k < l.length
  · have h2a : k < a.length := by omega
    have hia : i < a.length := by omega
    have hak : a[k] = a0[k] := by simp only [hae]; rw [List.getElem_set_ne (by omega)]
    have hai : a[i] = mid l a0 i l[i] a0[i] k := by simp only [hae]; rw [List.getElem_set_self]
    have hbk := hb k (by omega)
    by_cases h3 : l[i] < l[k]
    · simp (maxSteps := 1000000) (implicitDefEqProofs := false) (disch := first | omega | (simp only [ints_len, List.length_cons, List.length_nil, List.length_append, List.length_set] <;> omega) | exact rfl | assumption) only [w_seq, ghosts_nil, regW_some, ops_move, ops_assign, ops_bin, ops_load, ops_indexAddr, ops_len, ops_store, ops_call, opsP_some, opsQ_none, opsQ_some, opsQ_loud, ops_nil, doneW_some, seqW_normal, seqW_ret, seqW_exit, w_cond, w_block, condW_true, condW_false, evalO_tmp, evalO_const, evalO_func, ofVal_int, ofVal_bool, ofVal_nil, set8, getD8, List.set_cons_succ, List.set_cons_zero, List.getD_cons_succ, List.getD_cons_zero, binD_add, binD_sub, binD_mul, binD_lss, binD_leq, binD_gtr, binD_geq, binD_eql, binD_neq, boolD_bv, Int.toNat_natCast, Nat.mul_one, Nat.zero_add, Option.map_some, blockW_normal, blockW_ret, blockW_exit, blockW_other, Bool.false_and, Bool.and_false, Bool.and_true, Bool.true_and, ops_guard, opsG_true, opsG_false, opsG_prop, opsG_not, wantT_some, yield_bv, yield_undef, putD_some, putD_none, beq_true', beq_false', List.getElem?_toArray, List.getElem?_cons_succ, List.getElem?_cons_zero, Option.bind_some, Option.bind_none, ops_pick, appOb_arr, List.length_cons, List.length_nil, List.cons_append, List.nil_append, ldOb_arr, ldOb_frz, ldOb_var, stOb_arr, stOb_var, pickD_true, pickD_false, pickD_prop, ops_un, unD_not, ops_max, ops_min, maxD_int, minD_int, ops_bs, ops_append, ops_make, condW_prop, condW_not, ↓reduceIte, if_true, if_false, evW_skip, evW_exit, evW_ret, callV_func, List.map_cons, List.map_nil, Wp_some, lenD_lst u38, lenD_ref u38, idxD_lst u38 z3, idxD_ref u38 z3, loadD_iptr a3, loadD_ptr a3, storeD_ptr z3 cells_int, r20_0, r20_1, r20_2, r20_3, r20_4, r20_6, r20_7, r20_8, r20_10, r20_11, r20_9, r20_12, r20_5, r20_13, r20_14, r20_15, r20_17, r20_18, r20_19, r20_16, r20_20, hg, S20_1, ints_at, ints_set, Int.ofNat_lt, h2, h3, w64_id, hak, hai]
      refine ⟨(k + 1, a.set i (max (mid l a0 i l[i] a0[i] k) (a0[k] + 1))), ⟨by omega, by omega, ?_⟩, by simp only; omega, ?_⟩
      · simp only [hae, List.set_set]
        rw [mid_step hk h2 ha, up1, if_pos h3]
      · simp only [List.length_set]; kernel_rfl
    · simp (maxSteps := 1000000) (implicitDefEqProofs := false) (disch := first | omega | (simp only [ints_len, List.length_cons, List.length_nil, List.length_append, List.length_set] <;> omega) | exact rfl | assumption) only [w_seq, ghosts_nil, regW_some, ops_move, ops_assign, ops_bin, ops_load, ops_indexAddr, ops_len, ops_store, ops_call, opsP_some, opsQ_none, opsQ_some, opsQ_loud, ops_nil, doneW_some, seqW_normal, seqW_ret, seqW_exit, w_cond, w_block, condW_true, condW_false, evalO_tmp, evalO_const, evalO_func, ofVal_int, ofVal_bool, ofVal_nil, set8, getD8, List.set_cons_succ, List.set_cons_zero, List.getD_cons_succ, List.getD_cons_zero, binD_add, binD_sub, binD_mul, binD_lss, binD_leq, binD_gtr, binD_geq, binD_eql, binD_neq, boolD_bv, Int.toNat_natCast, Nat.mul_one, Nat.zero_add, Option.map_some, blockW_normal, blockW_ret, blockW_exit, blockW_other, Bool.false_and, Bool.and_false, Bool.and_true, Bool.true_and, ops_guard, opsG_true, opsG_false, opsG_prop, opsG_not, wantT_some, yield_bv, yield_undef, putD_some, putD_none, beq_true', beq_false', List.getElem?_toArray, List.getElem?_cons_succ, List.getElem?_cons_zero, Option.bind_some, Option.bind_none, ops_pick, appOb_arr, List.length_cons, List.length_nil, List.cons_append, List.nil_append, ldOb_arr, ldOb_frz, ldOb_var, stOb_arr, stOb_var, pickD_true, pickD_false, pickD_prop, ops_un, unD_not, ops_max, ops_min, maxD_int, minD_int, ops_bs, ops_append, ops_make, condW_prop, condW_not, ↓reduceIte, if_true, if_false, evW_skip, evW_exit, evW_ret, callV_func, List.map_cons, List.map_nil, Wp_some, lenD_lst u38, lenD_ref u38, idxD_lst u38 z3, idxD_ref u38 z3, loadD_iptr a3, loadD_ptr a3, storeD_ptr z3 cells_int, r20_0, r20_1, r20_2, r20_3, r20_4, r20_6, r20_7, r20_8, r20_10, r20_11, r20_9, r20_12, r20_5, r20_13, r20_14, r20_15, r20_17, r20_18, r20_19, r20_16, r20_20, hg, S20_1, ints_at, ints_set, Int.ofNat_lt, h2, h3, w64_id, hak, hai]
      refine ⟨(k + 1, a), ⟨by omega, by omega, ?_⟩, by simp only; omega, by kernel_rfl⟩
      simp only
      rw [mid_step hk h2 ha, up1, if_neg h3]; exact hae
  · have hk' : k = l.length := by omega
    subst hk'
    simp (maxSteps := 1000000) (implicitDefEqProofs := false) (disch := first | omega | (simp only [ints_len, List.length_cons, List.length_nil, List.length_append, List.length_set] <;> omega) | exact rfl | assumption) only [w_seq, ghosts_nil, regW_some, ops_move, ops_assign, ops_bin, ops_load, ops_indexAddr, ops_len, ops_store, ops_call, opsP_some, opsQ_none, opsQ_some, opsQ_loud, ops_nil, doneW_some, seqW_normal, seqW_ret, seqW_exit, w_cond, w_block, condW_true, condW_false, evalO_tmp, evalO_const, evalO_func, ofVal_int, ofVal_bool, ofVal_nil, set8, getD8, List.set_cons_succ, List.set_cons_zero, List.getD_cons_succ, List.getD_cons_zero, binD_add, binD_sub, binD_mul, binD_lss, binD_leq, binD_gtr, binD_geq, binD_eql, binD_neq, boolD_bv, Int.toNat_natCast, Nat.mul_one, Nat.zero_add, Option.map_some, blockW_normal, blockW_ret, blockW_exit, blockW_other, Bool.false_and, Bool.and_false, Bool.and_true, Bool.true_and, ops_guard, opsG_true, opsG_false, opsG_prop, opsG_not, wantT_some, yield_bv, yield_undef, putD_some, putD_none, beq_true', beq_false', List.getElem?_toArray, List.getElem?_cons_succ, List.getElem?_cons_zero, Option.bind_some, Option.bind_none, ops_pick, appOb_arr, List.length_cons, List.length_nil, List.cons_append, List.nil_append, ldOb_arr, ldOb_frz, ldOb_var, stOb_arr, stOb_var, pickD_true, pickD_false, pickD_prop, ops_un, unD_not, ops_max, ops_min, maxD_int, minD_int, ops_bs, ops_append, ops_make, condW_prop, condW_not, ↓reduceIte, if_true, if_false, evW_skip, evW_exit, evW_ret, callV_func, List.map_cons, List.map_nil, Wp_some, lenD_lst u38, lenD_ref u38, idxD_lst u38 z3, idxD_ref u38 z3, loadD_iptr a3, loadD_ptr a3, storeD_ptr z3 cells_int, r20_0, r20_1, r20_2, r20_3, r20_4, r20_6, r20_7, r20_8, r20_10, r20_11, r20_9, r20_12, r20_5, r20_13, r20_14, r20_15, r20_17, r20_18, r20_19, r20_16, r20_20, hg, S20_1, Int.ofNat_lt, h2]
    exact ⟨trivial, by rw [← hae]; kernel_rfl⟩
