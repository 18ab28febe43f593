/- A part of the proof: M12. -/
import Derived.Test.YtgjhagehbfhioaaM11
namespace Mv
open Go Go.Ev Go.Proofs
set_option linter.unusedSimpArgs false
set_option linter.unusedVariables false
set_option maxRecDepth 8000
set_option maxHeartbeats 2000000
-- TYPES: lenD_lst u38, lenD_ref u38, idxD_lst u38 z3, idxD_ref u38 z3, loadD_iptr a3, loadD_ptr a3, storeD_ptr z3 cells_int, bsD_one u38 z3 zc3 cells_int, appendD_ref u38 u38 z3 b3 zc3 t3, makeD_ok u38 z3 b3 zc3 t3, ops_slice, Option.map_none, slice_lo u38 z3
/-! ### MovesLeast: the plain law -/
theorem outs_split (r : List Int) : ∀ n i, i ≤ n → ∃ suf, outs r n = outs r i ++ suf ∧ ∀ v ∈ suf, (i : Int) ≤ v ∧ v ∉ r
  | 0, i, h => by obtain rfl : i = 0 := by omega
                  exact ⟨[], by simp, by simp⟩
  | n + 1, i, h => by
    by_cases hi : i = n + 1
    · subst hi; exact ⟨[], by simp, by simp⟩
    · obtain ⟨suf, h1, h2⟩ := outs_split r n i (by omega)
      by_cases hr : (n : Int) ∈ r
      · exact ⟨suf, by rw [outs, if_pos hr, h1], h2⟩
      · refine ⟨suf ++ [(n : Int)], by rw [outs, if_neg hr, h1, List.append_assoc], fun v hv => ?_⟩
        rcases List.mem_append.1 hv with hv | hv
        · exact h2 v hv
        · obtain rfl : v = n := by simpa using hv
          exact ⟨by omega, hr⟩
theorem outs_at {r : List Int} {n i : Nat} (h : i < n) (hr : (i : Int) ∉ r) : (outs r n)[(outs r i).length]? = some (i : Int) := by
  obtain ⟨suf, h1, h2⟩ := outs_split r n (i + 1) (by omega)
  rw [h1, outs, if_neg hr, List.append_assoc, List.getElem?_append_right (Nat.le_refl _)]
  simp
theorem outs_not {r : List Int} {n i : Nat} (h : i ≤ n) (hr : (i : Int) ∈ r) : (outs r n)[(outs r i).length]? ≠ some (i : Int) := by
  obtain ⟨suf, h1, h2⟩ := outs_split r n i h
  rw [h1, List.getElem?_append_right (Nat.le_refl _), Nat.sub_self]
  intro e
  exact (h2 i (List.mem_of_getElem? e)).2 hr
structure UpL (l : List Int) (i : Nat) (v : Int) (cnt : Nat) (pre : List Int) (m : Int) (last : Option Int) : Prop where
  eq : rising l = pre ++ takeUp ((l.zip (lngs l)).drop i) i m last
  lt : ∀ x ∈ pre, x < (i : Int)
  hc : cnt = pre.length
  hn : last = none → cnt = 0
  hs : ∀ y, last = some y → v = y ∧ 0 < cnt
  le : cnt ≤ i
theorem upL_zero (l : List Int) : UpL l 0 0 0 [] (mostOf (lngs l)) none where
  eq := by simp [rising]
  lt := by simp
  hc := rfl
  hn := fun _ => rfl
  hs := fun y h => by cases h
  le := Nat.le_refl _
theorem zip_drop {l : List Int} {i : Nat} (h : i < l.length) : (l.zip (lngs l)).drop i = (l[i], (lngs l)[i]'(by rw [lngs_len]; exact h)) :: (l.zip (lngs l)).drop (i + 1) := by
  rw [List.drop_eq_getElem_cons (by simp [List.length_zip, lngs_len]; omega)]; simp
/-- One step. -/
theorem upL_step {l : List Int} {i : Nat} {v : Int} {cnt : Nat} {pre : List Int} {m : Int} {last : Option Int} (h : UpL l i v cnt pre m last) (hi : i < l.length) :
    ((i : Int) ∈ rising l ∧ (0 < cnt → v < l[i]) ∧ ∃ m', UpL l (i + 1) l[i] (cnt + 1) (pre ++ [(i : Int)]) m' (some l[i])) ∨ ((i : Int) ∉ rising l ∧ UpL l (i + 1) v cnt pre m last) := by
  obtain ⟨eq, lt, hc, hn, hs, hle⟩ := h
  rw [zip_drop hi, takeUp] at eq
  by_cases ht : (lngs l)[i]'(by rw [lngs_len]; exact hi) = m ∧ ∀ y ∈ last, l[i] > y
  · rw [if_pos ht] at eq
    refine .inl ⟨by rw [eq]; simp, fun h0 => ?_, m - 1, ?_, ?_, ?_, ?_, ?_, by omega⟩
    · cases last with
      | none => have := hn rfl; omega
      | some y =>
        have h1 := ht.2 y rfl
        have h2 := (hs y rfl).1
        omega
    · rw [eq]; simp
    · intro x hx
      rcases List.mem_append.1 hx with hx | hx
      · have := lt x hx; omega
      · obtain rfl : x = i := by simpa using hx
        omega
    · simp [hc]
    · intro e; cases e
    · intro y e; cases e; exact ⟨rfl, by omega⟩
  · rw [if_neg ht] at eq
    refine .inr ⟨?_, eq, fun x hx => by have := lt x hx; omega, hc, hn, hs, by omega⟩
    rw [eq]
    intro hm
    rcases List.mem_append.1 hm with hm | hm
    · have := lt _ hm; omega
    · have := takeUp_mem _ _ _ _ _ hm; omega
theorem upL_end {l : List Int} {v : Int} {cnt : Nat} {pre : List Int} {m : Int} {last : Option Int} (h : UpL l l.length v cnt pre m last) : cnt = (rising l).length := by
  have := h.eq
  rw [List.drop_eq_nil_of_le (by simp [List.length_zip]; omega), takeUp, List.append_nil] at this
  rw [this, h.hc]
/-! ### MovesLeast: the walk -/
def S5 (l out : List Int) (k : Int) (v : Int) (cnt : Int) (i : Int) : St := ⟨[il l, .junk, .junk, il out, iv k, iv v, iv cnt, iv i, .junk, .junk, .junk, .junk, .junk, .junk, .junk, .junk, .junk, .junk, .junk, .junk, .junk, .junk, .junk, .junk, .junk, .junk, .junk, .junk, .junk, .junk, .junk, .junk, .junk, .junk, .junk, .junk, .junk, .junk, .junk, .junk, .junk, .junk, .junk, .junk, .junk, .junk, .junk, .junk, .junk, .junk, .junk, .junk, .junk, .junk, .junk, .junk, .junk, .junk, .junk, .junk, .junk, .junk, .junk, .junk], [], 0⟩
theorem L5_0_ok (l : List Int) (hl : l.length < 2 ^ 39) :
   ∀ (x : Nat × Int × Nat) s, (x.1 ≤ l.length ∧ ∃ pre m last, UpL l x.1 x.2.1 x.2.2 pre m last) → ghostsD g5_0 s = some (S5 l (outs (rising l) l.length) (outs (rising l) x.1).length x.2.1 x.2.2 x.1) →
   Wp (evW Try.prog A0 5 (.loop L5_0) s) fun e s' => e = .exit 0 ∧ ∃ v, ghostsD g5_0 s' = some (S5 l (outs (rising l) l.length) (outs (rising l) l.length).length v (rising l).length l.length) := by
  refine Wp.loop _ _ _ (fun x => l.length - x.1) ?_
  intro ⟨i, v, cnt⟩ s ⟨hi, pre, m, last, hu⟩ hg
  simp only at hi hu hg ⊢
  unfold g5_0 at hg ⊢
  unfold L5_0 bodyOf Try.f5; simp only [Option.getD_some, loopsOf, List.append_nil, List.nil_append, List.cons_append, List.getD_cons_zero, List.getD_cons_succ]
  have hol := outs_len (rising l) i
  have hln := outs_len (rising l) l.length
  have hcl := hu.le
  by_cases h2 : i < l.length
  · rcases upL_step hu h2 with ⟨h3, h4, m', h5⟩ | ⟨h3, h5⟩
    · have hn := outs_not (Nat.le_of_lt h2) h3
      have hoe : outs (rising l) (i + 1) = outs (rising l) i := by rw [outs, if_pos h3]
      by_cases h6 : (outs (rising l) i).length < (outs (rising l) l.length).length
      · have h7 : ¬ (outs (rising l) l.length)[(outs (rising l) i).length] = (i : Int) := fun e => hn (by rw [List.getElem?_eq_getElem h6, e])
        by_cases h8 : 0 < cnt
        · have h9 : ¬ l[i] ≤ v := by have := h4 h8; omega
          simp (maxSteps := 1000000) (implicitDefEqProofs := false) (disch := first | omega | (simp only [ints_len, List.length_cons, List.length_nil, List.length_append, List.length_set] <;> omega) | exact rfl | assumption) only [w_seq, ghosts_nil, regW_some, ops_move, ops_assign, ops_bin, ops_load, ops_indexAddr, ops_len, ops_store, ops_call, opsP_some, opsQ_none, opsQ_some, opsQ_loud, ops_nil, doneW_some, seqW_normal, seqW_ret, seqW_exit, w_cond, w_block, condW_true, condW_false, evalO_tmp, evalO_const, evalO_func, ofVal_int, ofVal_bool, ofVal_nil, set8, getD8, List.set_cons_succ, List.set_cons_zero, List.getD_cons_succ, List.getD_cons_zero, binD_add, binD_sub, binD_mul, binD_lss, binD_leq, binD_gtr, binD_geq, binD_eql, binD_neq, boolD_bv, Int.toNat_natCast, Nat.mul_one, Nat.zero_add, Option.map_some, blockW_normal, blockW_ret, blockW_exit, blockW_other, Bool.false_and, Bool.and_false, Bool.and_true, Bool.true_and, ops_guard, opsG_true, opsG_false, opsG_prop, opsG_not, wantT_some, yield_bv, yield_undef, putD_some, putD_none, beq_true', beq_false', List.getElem?_toArray, List.getElem?_cons_succ, List.getElem?_cons_zero, Option.bind_some, Option.bind_none, ops_pick, appOb_arr, List.length_cons, List.length_nil, List.cons_append, List.nil_append, ldOb_arr, ldOb_frz, ldOb_var, stOb_arr, stOb_var, pickD_true, pickD_false, pickD_prop, ops_un, unD_not, ops_max, ops_min, maxD_int, minD_int, ops_bs, ops_append, ops_make, condW_prop, condW_not, ↓reduceIte, if_true, if_false, evW_skip, evW_exit, evW_ret, callV_func, List.map_cons, List.map_nil, Wp_some, lenD_lst u38, lenD_ref u38, idxD_lst u38 z3, idxD_ref u38 z3, loadD_iptr a3, loadD_ptr a3, storeD_ptr z3 cells_int, bsD_one u38 z3 zc3 cells_int, appendD_ref u38 u38 z3 b3 zc3 t3, makeD_ok u38 z3 b3 zc3 t3, ops_slice, Option.map_none, slice_lo u38 z3, r5_0, r5_1, r5_2, r5_3, r5_4, r5_5, r5_6, r5_7, r5_8, r5_10, r5_11, r5_12, r5_13, r5_14, r5_15, r5_9, r5_16, hg, S5, Int.ofNat_lt, ints_at, h2, h6, h7, h8, h9, Int.natCast_pos, w64_id]
          refine ⟨(i + 1, l[i], cnt + 1), ⟨by simp only; omega, _, _, _, h5⟩, by simp only; omega, ?_⟩
          simp only [hoe]; kernel_rfl
        · simp (maxSteps := 1000000) (implicitDefEqProofs := false) (disch := first | omega | (simp only [ints_len, List.length_cons, List.length_nil, List.length_append, List.length_set] <;> omega) | exact rfl | assumption) only [w_seq, ghosts_nil, regW_some, ops_move, ops_assign, ops_bin, ops_load, ops_indexAddr, ops_len, ops_store, ops_call, opsP_some, opsQ_none, opsQ_some, opsQ_loud, ops_nil, doneW_some, seqW_normal, seqW_ret, seqW_exit, w_cond, w_block, condW_true, condW_false, evalO_tmp, evalO_const, evalO_func, ofVal_int, ofVal_bool, ofVal_nil, set8, getD8, List.set_cons_succ, List.set_cons_zero, List.getD_cons_succ, List.getD_cons_zero, binD_add, binD_sub, binD_mul, binD_lss, binD_leq, binD_gtr, binD_geq, binD_eql, binD_neq, boolD_bv, Int.toNat_natCast, Nat.mul_one, Nat.zero_add, Option.map_some, blockW_normal, blockW_ret, blockW_exit, blockW_other, Bool.false_and, Bool.and_false, Bool.and_true, Bool.true_and, ops_guard, opsG_true, opsG_false, opsG_prop, opsG_not, wantT_some, yield_bv, yield_undef, putD_some, putD_none, beq_true', beq_false', List.getElem?_toArray, List.getElem?_cons_succ, List.getElem?_cons_zero, Option.bind_some, Option.bind_none, ops_pick, appOb_arr, List.length_cons, List.length_nil, List.cons_append, List.nil_append, ldOb_arr, ldOb_frz, ldOb_var, stOb_arr, stOb_var, pickD_true, pickD_false, pickD_prop, ops_un, unD_not, ops_max, ops_min, maxD_int, minD_int, ops_bs, ops_append, ops_make, condW_prop, condW_not, ↓reduceIte, if_true, if_false, evW_skip, evW_exit, evW_ret, callV_func, List.map_cons, List.map_nil, Wp_some, lenD_lst u38, lenD_ref u38, idxD_lst u38 z3, idxD_ref u38 z3, loadD_iptr a3, loadD_ptr a3, storeD_ptr z3 cells_int, bsD_one u38 z3 zc3 cells_int, appendD_ref u38 u38 z3 b3 zc3 t3, makeD_ok u38 z3 b3 zc3 t3, ops_slice, Option.map_none, slice_lo u38 z3, r5_0, r5_1, r5_2, r5_3, r5_4, r5_5, r5_6, r5_7, r5_8, r5_10, r5_11, r5_12, r5_13, r5_14, r5_15, r5_9, r5_16, hg, S5, Int.ofNat_lt, ints_at, h2, h6, h7, h8, Int.natCast_pos, w64_id]
          refine ⟨(i + 1, l[i], cnt + 1), ⟨by simp only; omega, _, _, _, h5⟩, by simp only; omega, ?_⟩
          simp only [hoe]; kernel_rfl
      · by_cases h8 : 0 < cnt
        · have h9 : ¬ l[i] ≤ v := by have := h4 h8; omega
          simp (maxSteps := 1000000) (implicitDefEqProofs := false) (disch := first | omega | (simp only [ints_len, List.length_cons, List.length_nil, List.length_append, List.length_set] <;> omega) | exact rfl | assumption) only [w_seq, ghosts_nil, regW_some, ops_move, ops_assign, ops_bin, ops_load, ops_indexAddr, ops_len, ops_store, ops_call, opsP_some, opsQ_none, opsQ_some, opsQ_loud, ops_nil, doneW_some, seqW_normal, seqW_ret, seqW_exit, w_cond, w_block, condW_true, condW_false, evalO_tmp, evalO_const, evalO_func, ofVal_int, ofVal_bool, ofVal_nil, set8, getD8, List.set_cons_succ, List.set_cons_zero, List.getD_cons_succ, List.getD_cons_zero, binD_add, binD_sub, binD_mul, binD_lss, binD_leq, binD_gtr, binD_geq, binD_eql, binD_neq, boolD_bv, Int.toNat_natCast, Nat.mul_one, Nat.zero_add, Option.map_some, blockW_normal, blockW_ret, blockW_exit, blockW_other, Bool.false_and, Bool.and_false, Bool.and_true, Bool.true_and, ops_guard, opsG_true, opsG_false, opsG_prop, opsG_not, wantT_some, yield_bv, yield_undef, putD_some, putD_none, beq_true', beq_false', List.getElem?_toArray, List.getElem?_cons_succ, List.getElem?_cons_zero, Option.bind_some, Option.bind_none, ops_pick, appOb_arr, List.length_cons, List.length_nil, List.cons_append, List.nil_append, ldOb_arr, ldOb_frz, ldOb_var, stOb_arr, stOb_var, pickD_true, pickD_false, pickD_prop, ops_un, unD_not, ops_max, ops_min, maxD_int, minD_int, ops_bs, ops_append, ops_make, condW_prop, condW_not, ↓reduceIte, if_true, if_false, evW_skip, evW_exit, evW_ret, callV_func, List.map_cons, List.map_nil, Wp_some, lenD_lst u38, lenD_ref u38, idxD_lst u38 z3, idxD_ref u38 z3, loadD_iptr a3, loadD_ptr a3, storeD_ptr z3 cells_int, bsD_one u38 z3 zc3 cells_int, appendD_ref u38 u38 z3 b3 zc3 t3, makeD_ok u38 z3 b3 zc3 t3, ops_slice, Option.map_none, slice_lo u38 z3, r5_0, r5_1, r5_2, r5_3, r5_4, r5_5, r5_6, r5_7, r5_8, r5_10, r5_11, r5_12, r5_13, r5_14, r5_15, r5_9, r5_16, hg, S5, Int.ofNat_lt, ints_at, h2, h6, h8, h9, Int.natCast_pos, w64_id]
          refine ⟨(i + 1, l[i], cnt + 1), ⟨by simp only; omega, _, _, _, h5⟩, by simp only; omega, ?_⟩
          simp only [hoe]; kernel_rfl
        · simp (maxSteps := 1000000) (implicitDefEqProofs := false) (disch := first | omega | (simp only [ints_len, List.length_cons, List.length_nil, List.length_append, List.length_set] <;> omega) | exact rfl | assumption) only [w_seq, ghosts_nil, regW_some, ops_move, ops_assign, ops_bin, ops_load, ops_indexAddr, ops_len, ops_store, ops_call, opsP_some, opsQ_none, opsQ_some, opsQ_loud, ops_nil, doneW_some, seqW_normal, seqW_ret, seqW_exit, w_cond, w_block, condW_true, condW_false, evalO_tmp, evalO_const, evalO_func, ofVal_int, ofVal_bool, ofVal_nil, set8, getD8, List.set_cons_succ, List.set_cons_zero, List.getD_cons_succ, List.getD_cons_zero, binD_add, binD_sub, binD_mul, binD_lss, binD_leq, binD_gtr, binD_geq, binD_eql, binD_neq, boolD_bv, Int.toNat_natCast, Nat.mul_one, Nat.zero_add, Option.map_some, blockW_normal, blockW_ret, blockW_exit, blockW_other, Bool.false_and, Bool.and_false, Bool.and_true, Bool.true_and, ops_guard, opsG_true, opsG_false, opsG_prop, opsG_not, wantT_some, yield_bv, yield_undef, putD_some, putD_none, beq_true', beq_false', List.getElem?_toArray, List.getElem?_cons_succ, List.getElem?_cons_zero, Option.bind_some, Option.bind_none, ops_pick, appOb_arr, List.length_cons, List.length_nil, List.cons_append, List.nil_append, ldOb_arr, ldOb_frz, ldOb_var, stOb_arr, stOb_var, pickD_true, pickD_false, pickD_prop, ops_un, unD_not, ops_max, ops_min, maxD_int, minD_int, ops_bs, ops_append, ops_make, condW_prop, condW_not, ↓reduceIte, if_true, if_false, evW_skip, evW_exit, evW_ret, callV_func, List.map_cons, List.map_nil, Wp_some, lenD_lst u38, lenD_ref u38, idxD_lst u38 z3, idxD_ref u38 z3, loadD_iptr a3, loadD_ptr a3, storeD_ptr z3 cells_int, bsD_one u38 z3 zc3 cells_int, appendD_ref u38 u38 z3 b3 zc3 t3, makeD_ok u38 z3 b3 zc3 t3, ops_slice, Option.map_none, slice_lo u38 z3, r5_0, r5_1, r5_2, r5_3, r5_4, r5_5, r5_6, r5_7, r5_8, r5_10, r5_11, r5_12, r5_13, r5_14, r5_15, r5_9, r5_16, hg, S5, Int.ofNat_lt, ints_at, h2, h6, h8, Int.natCast_pos, w64_id]
          refine ⟨(i + 1, l[i], cnt + 1), ⟨by simp only; omega, _, _, _, h5⟩, by simp only; omega, ?_⟩
          simp only [hoe]; kernel_rfl
    · have hn := outs_at h2 h3
      have h6 : (outs (rising l) i).length < (outs (rising l) l.length).length := by
        rcases Nat.lt_or_ge (outs (rising l) i).length (outs (rising l) l.length).length with h | h
        · exact h
        · rw [List.getElem?_eq_none h] at hn; cases hn
      have h7 : (outs (rising l) l.length)[(outs (rising l) i).length] = (i : Int) := by
        rw [List.getElem?_eq_getElem h6] at hn; exact Option.some.inj hn
      have hoe : (outs (rising l) (i + 1)).length = (outs (rising l) i).length + 1 := by rw [outs, if_neg h3]; simp
      simp (maxSteps := 1000000) (implicitDefEqProofs := false) (disch := first | omega | (simp only [ints_len, List.length_cons, List.length_nil, List.length_append, List.length_set] <;> omega) | exact rfl | assumption) only [w_seq, ghosts_nil, regW_some, ops_move, ops_assign, ops_bin, ops_load, ops_indexAddr, ops_len, ops_store, ops_call, opsP_some, opsQ_none, opsQ_some, opsQ_loud, ops_nil, doneW_some, seqW_normal, seqW_ret, seqW_exit, w_cond, w_block, condW_true, condW_false, evalO_tmp, evalO_const, evalO_func, ofVal_int, ofVal_bool, ofVal_nil, set8, getD8, List.set_cons_succ, List.set_cons_zero, List.getD_cons_succ, List.getD_cons_zero, binD_add, binD_sub, binD_mul, binD_lss, binD_leq, binD_gtr, binD_geq, binD_eql, binD_neq, boolD_bv, Int.toNat_natCast, Nat.mul_one, Nat.zero_add, Option.map_some, blockW_normal, blockW_ret, blockW_exit, blockW_other, Bool.false_and, Bool.and_false, Bool.and_true, Bool.true_and, ops_guard, opsG_true, opsG_false, opsG_prop, opsG_not, wantT_some, yield_bv, yield_undef, putD_some, putD_none, beq_true', beq_false', List.getElem?_toArray, List.getElem?_cons_succ, List.getElem?_cons_zero, Option.bind_some, Option.bind_none, ops_pick, appOb_arr, List.length_cons, List.length_nil, List.cons_append, List.nil_append, ldOb_arr, ldOb_frz, ldOb_var, stOb_arr, stOb_var, pickD_true, pickD_false, pickD_prop, ops_un, unD_not, ops_max, ops_min, maxD_int, minD_int, ops_bs, ops_append, ops_make, condW_prop, condW_not, ↓reduceIte, if_true, if_false, evW_skip, evW_exit, evW_ret, callV_func, List.map_cons, List.map_nil, Wp_some, lenD_lst u38, lenD_ref u38, idxD_lst u38 z3, idxD_ref u38 z3, loadD_iptr a3, loadD_ptr a3, storeD_ptr z3 cells_int, bsD_one u38 z3 zc3 cells_int, appendD_ref u38 u38 z3 b3 zc3 t3, makeD_ok u38 z3 b3 zc3 t3, ops_slice, Option.map_none, slice_lo u38 z3, r5_0, r5_1, r5_2, r5_3, r5_4, r5_5, r5_6, r5_7, r5_8, r5_10, r5_11, r5_12, r5_13, r5_14, r5_15, r5_9, r5_16, hg, S5, Int.ofNat_lt, ints_at, h2, h6, h7, w64_id]
      refine ⟨(i + 1, v, cnt), ⟨by simp only; omega, _, _, _, h5⟩, by simp only; omega, ?_⟩
      simp only [hoe]; kernel_rfl
  · have hi' : i = l.length := by omega
    subst hi'
    simp (maxSteps := 1000000) (implicitDefEqProofs := false) (disch := first | omega | (simp only [ints_len, List.length_cons, List.length_nil, List.length_append, List.length_set] <;> omega) | exact rfl | assumption) only [w_seq, ghosts_nil, regW_some, ops_move, ops_assign, ops_bin, ops_load, ops_indexAddr, ops_len, ops_store, ops_call, opsP_some, opsQ_none, opsQ_some, opsQ_loud, ops_nil, doneW_some, seqW_normal, seqW_ret, seqW_exit, w_cond, w_block, condW_true, condW_false, evalO_tmp, evalO_const, evalO_func, ofVal_int, ofVal_bool, ofVal_nil, set8, getD8, List.set_cons_succ, List.set_cons_zero, List.getD_cons_succ, List.getD_cons_zero, binD_add, binD_sub, binD_mul, binD_lss, binD_leq, binD_gtr, binD_geq, binD_eql, binD_neq, boolD_bv, Int.toNat_natCast, Nat.mul_one, Nat.zero_add, Option.map_some, blockW_normal, blockW_ret, blockW_exit, blockW_other, Bool.false_and, Bool.and_false, Bool.and_true, Bool.true_and, ops_guard, opsG_true, opsG_false, opsG_prop, opsG_not, wantT_some, yield_bv, yield_undef, putD_some, putD_none, beq_true', beq_false', List.getElem?_toArray, List.getElem?_cons_succ, List.getElem?_cons_zero, Option.bind_some, Option.bind_none, ops_pick, appOb_arr, List.length_cons, List.length_nil, List.cons_append, List.nil_append, ldOb_arr, ldOb_frz, ldOb_var, stOb_arr, stOb_var, pickD_true, pickD_false, pickD_prop, ops_un, unD_not, ops_max, ops_min, maxD_int, minD_int, ops_bs, ops_append, ops_make, condW_prop, condW_not, ↓reduceIte, if_true, if_false, evW_skip, evW_exit, evW_ret, callV_func, List.map_cons, List.map_nil, Wp_some, lenD_lst u38, lenD_ref u38, idxD_lst u38 z3, idxD_ref u38 z3, loadD_iptr a3, loadD_ptr a3, storeD_ptr z3 cells_int, bsD_one u38 z3 zc3 cells_int, appendD_ref u38 u38 z3 b3 zc3 t3, makeD_ok u38 z3 b3 zc3 t3, ops_slice, Option.map_none, slice_lo u38 z3, r5_0, r5_1, r5_2, r5_3, r5_4, r5_5, r5_6, r5_7, r5_8, r5_10, r5_11, r5_12, r5_13, r5_14, r5_15, r5_9, r5_16, hg, S5, Int.ofNat_lt, h2]
    have := upL_end hu
    subst this
    exact ⟨trivial, v, by kernel_rfl⟩
theorem f20_call' {b : Bool} {H : List Ob} {l : List Int} (hl : l.length < 2 ^ 39) : callD (callW Try.prog A0) A0 H 20 [.p (.lst b l.length (ints l))] = some (il (rising l), none) := f20_call hl
theorem f5_ok (l : List Int) : callW Try.prog A0 5 [il l] [] = some (bv true, []) := by
  refine call_of (fn := Try.f5) (c := bodyOf Try.f5) rfl (by kernel_rfl) (by kernel_rfl) ?_
  rw [show initS Try.f5 [il l] [] = ⟨il l :: List.replicate 63 undefD, [], 0⟩ from by kernel_rfl]
  unfold bodyOf Try.f5; simp only [Option.getD_some, loopsOf, List.append_nil, List.nil_append, List.cons_append, List.getD_cons_zero, List.getD_cons_succ]
  simp only [List.replicate]
  by_cases h : (60 : Int) < l.length
  · simp (maxSteps := 1000000) (implicitDefEqProofs := false) (disch := first | omega | (simp only [ints_len, List.length_cons, List.length_nil, List.length_append, List.length_set] <;> omega) | exact rfl | assumption) only [w_seq, ghosts_nil, regW_some, ops_move, ops_assign, ops_bin, ops_load, ops_indexAddr, ops_len, ops_store, ops_call, opsP_some, opsQ_none, opsQ_some, opsQ_loud, ops_nil, doneW_some, seqW_normal, seqW_ret, seqW_exit, w_cond, w_block, condW_true, condW_false, evalO_tmp, evalO_const, evalO_func, ofVal_int, ofVal_bool, ofVal_nil, set8, getD8, List.set_cons_succ, List.set_cons_zero, List.getD_cons_succ, List.getD_cons_zero, binD_add, binD_sub, binD_mul, binD_lss, binD_leq, binD_gtr, binD_geq, binD_eql, binD_neq, boolD_bv, Int.toNat_natCast, Nat.mul_one, Nat.zero_add, Option.map_some, blockW_normal, blockW_ret, blockW_exit, blockW_other, Bool.false_and, Bool.and_false, Bool.and_true, Bool.true_and, ops_guard, opsG_true, opsG_false, opsG_prop, opsG_not, wantT_some, yield_bv, yield_undef, putD_some, putD_none, beq_true', beq_false', List.getElem?_toArray, List.getElem?_cons_succ, List.getElem?_cons_zero, Option.bind_some, Option.bind_none, ops_pick, appOb_arr, List.length_cons, List.length_nil, List.cons_append, List.nil_append, ldOb_arr, ldOb_frz, ldOb_var, stOb_arr, stOb_var, pickD_true, pickD_false, pickD_prop, ops_un, unD_not, ops_max, ops_min, maxD_int, minD_int, ops_bs, ops_append, ops_make, condW_prop, condW_not, ↓reduceIte, if_true, if_false, evW_skip, evW_exit, evW_ret, callV_func, List.map_cons, List.map_nil, Wp_some, lenD_lst u38, lenD_ref u38, idxD_lst u38 z3, idxD_ref u38 z3, loadD_iptr a3, loadD_ptr a3, storeD_ptr z3 cells_int, bsD_one u38 z3 zc3 cells_int, appendD_ref u38 u38 z3 b3 zc3 t3, makeD_ok u38 z3 b3 zc3 t3, ops_slice, Option.map_none, slice_lo u38 z3, r5_0, r5_1, r5_2, r5_3, r5_4, r5_5, r5_6, r5_7, r5_8, r5_10, r5_11, r5_12, r5_13, r5_14, r5_15, r5_9, r5_16, h, f10_call]
    exact ⟨.inr trivial, by rw [finish_pure (ds := [bv true]) (x := .v (.bool true)) (l := []) rfl rfl rfl rfl]; simp [wk]⟩
  · have hl : l.length < 2 ^ 39 := by omega
    simp (maxSteps := 1000000) (implicitDefEqProofs := false) (disch := first | omega | (simp only [ints_len, List.length_cons, List.length_nil, List.length_append, List.length_set] <;> omega) | exact rfl | assumption) only [w_seq, ghosts_nil, regW_some, ops_move, ops_assign, ops_bin, ops_load, ops_indexAddr, ops_len, ops_store, ops_call, opsP_some, opsQ_none, opsQ_some, opsQ_loud, ops_nil, doneW_some, seqW_normal, seqW_ret, seqW_exit, w_cond, w_block, condW_true, condW_false, evalO_tmp, evalO_const, evalO_func, ofVal_int, ofVal_bool, ofVal_nil, set8, getD8, List.set_cons_succ, List.set_cons_zero, List.getD_cons_succ, List.getD_cons_zero, binD_add, binD_sub, binD_mul, binD_lss, binD_leq, binD_gtr, binD_geq, binD_eql, binD_neq, boolD_bv, Int.toNat_natCast, Nat.mul_one, Nat.zero_add, Option.map_some, blockW_normal, blockW_ret, blockW_exit, blockW_other, Bool.false_and, Bool.and_false, Bool.and_true, Bool.true_and, ops_guard, opsG_true, opsG_false, opsG_prop, opsG_not, wantT_some, yield_bv, yield_undef, putD_some, putD_none, beq_true', beq_false', List.getElem?_toArray, List.getElem?_cons_succ, List.getElem?_cons_zero, Option.bind_some, Option.bind_none, ops_pick, appOb_arr, List.length_cons, List.length_nil, List.cons_append, List.nil_append, ldOb_arr, ldOb_frz, ldOb_var, stOb_arr, stOb_var, pickD_true, pickD_false, pickD_prop, ops_un, unD_not, ops_max, ops_min, maxD_int, minD_int, ops_bs, ops_append, ops_make, condW_prop, condW_not, ↓reduceIte, if_true, if_false, evW_skip, evW_exit, evW_ret, callV_func, List.map_cons, List.map_nil, Wp_some, lenD_lst u38, lenD_ref u38, idxD_lst u38 z3, idxD_ref u38 z3, loadD_iptr a3, loadD_ptr a3, storeD_ptr z3 cells_int, bsD_one u38 z3 zc3 cells_int, appendD_ref u38 u38 z3 b3 zc3 t3, makeD_ok u38 z3 b3 zc3 t3, ops_slice, Option.map_none, slice_lo u38 z3, r5_0, r5_1, r5_2, r5_3, r5_4, r5_5, r5_6, r5_7, r5_8, r5_10, r5_11, r5_12, r5_13, r5_14, r5_15, r5_9, r5_16, h, f18_call]
    refine Wp.ctx (fun x => seqW _ _ _ _ (blockW _ x)) (L5_0_ok l hl (0, 0, 0) _ ⟨by simp only; omega, _, _, _, upL_zero l⟩ (by simp only [outs, List.length_nil]; unfold S5; kernel_rfl)) ?_
    intro e s ⟨he, v, hg⟩
    subst he
    unfold g5_0 S5 at hg
    simp (maxSteps := 1000000) (implicitDefEqProofs := false) (disch := first | omega | (simp only [ints_len, List.length_cons, List.length_nil, List.length_append, List.length_set] <;> omega) | exact rfl | assumption) only [w_seq, ghosts_nil, regW_some, ops_move, ops_assign, ops_bin, ops_load, ops_indexAddr, ops_len, ops_store, ops_call, opsP_some, opsQ_none, opsQ_some, opsQ_loud, ops_nil, doneW_some, seqW_normal, seqW_ret, seqW_exit, w_cond, w_block, condW_true, condW_false, evalO_tmp, evalO_const, evalO_func, ofVal_int, ofVal_bool, ofVal_nil, set8, getD8, List.set_cons_succ, List.set_cons_zero, List.getD_cons_succ, List.getD_cons_zero, binD_add, binD_sub, binD_mul, binD_lss, binD_leq, binD_gtr, binD_geq, binD_eql, binD_neq, boolD_bv, Int.toNat_natCast, Nat.mul_one, Nat.zero_add, Option.map_some, blockW_normal, blockW_ret, blockW_exit, blockW_other, Bool.false_and, Bool.and_false, Bool.and_true, Bool.true_and, ops_guard, opsG_true, opsG_false, opsG_prop, opsG_not, wantT_some, yield_bv, yield_undef, putD_some, putD_none, beq_true', beq_false', List.getElem?_toArray, List.getElem?_cons_succ, List.getElem?_cons_zero, Option.bind_some, Option.bind_none, ops_pick, appOb_arr, List.length_cons, List.length_nil, List.cons_append, List.nil_append, ldOb_arr, ldOb_frz, ldOb_var, stOb_arr, stOb_var, pickD_true, pickD_false, pickD_prop, ops_un, unD_not, ops_max, ops_min, maxD_int, minD_int, ops_bs, ops_append, ops_make, condW_prop, condW_not, ↓reduceIte, if_true, if_false, evW_skip, evW_exit, evW_ret, callV_func, List.map_cons, List.map_nil, Wp_some, lenD_lst u38, lenD_ref u38, idxD_lst u38 z3, idxD_ref u38 z3, loadD_iptr a3, loadD_ptr a3, storeD_ptr z3 cells_int, bsD_one u38 z3 zc3 cells_int, appendD_ref u38 u38 z3 b3 zc3 t3, makeD_ok u38 z3 b3 zc3 t3, ops_slice, Option.map_none, slice_lo u38 z3, r5_0, r5_1, r5_2, r5_3, r5_4, r5_5, r5_6, r5_7, r5_8, r5_10, r5_11, r5_12, r5_13, r5_14, r5_15, r5_9, r5_16, hg, f20_call, f10_call, Int.natCast_inj, decide_true]
    exact ⟨.inr trivial, by rw [finish_pure (ds := [bv true]) (x := .v (.bool true)) (l := []) rfl rfl rfl rfl]; simp [wk]⟩
