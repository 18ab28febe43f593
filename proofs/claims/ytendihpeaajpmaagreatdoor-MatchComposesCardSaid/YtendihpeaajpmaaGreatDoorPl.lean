/- A part of the proof: Pl. No conditions of its own. -/
import Derived.Test.YtendihpeaajpmaaGreatDoorT
import Derived.Test.YtendihpeaajpmaaGreatDoorE5
set_option linter.unusedVariables false
namespace Xr
open Go Go.Ev
def sw (p : Pair) : Pair := ⟨p.New, p.Old⟩
def pk (p : Pair) : Int := p.Old * 18446744073709551616 + p.New
def okP (p : Pair) : Prop := (-9223372036854775808 ≤ p.Old ∧ p.Old < 9223372036854775808) ∧ -9223372036854775808 ≤ p.New ∧ p.New < 9223372036854775808
theorem pk_inj {x y : Pair} (hx : okP x) (hy : okP y) (h : pk x = pk y) : x = y := by
 obtain ⟨a, b⟩ := x
 obtain ⟨c, d⟩ := y
 unfold pk at h
 unfold okP at hx hy
 simp only at h hx hy
 have h1 : a = c := by omega
 have h2 : b = d := by omega
 rw [h1, h2]
theorem pk_lt {x y : Pair} (hx : okP x) (hy : okP y) : pk x < pk y ↔ x.Old < y.Old ∨ (x.Old = y.Old ∧ x.New < y.New) := by
 unfold pk
 unfold okP at hx hy
 omega
structure Can (r : List Pair) (S : Pair → Prop) : Prop where
 asc : r.Pairwise fun p q => pk p < pk q
 mem : ∀ p, p ∈ r ↔ S p
theorem Can.nodup {r : List Pair} {S : Pair → Prop} (h : Can r S) : r.Nodup := h.asc.imp fun h e => by rw [e] at h; omega
theorem can_unique {r r' : List Pair} {S : Pair → Prop} (h : Can r S) (h' : Can r' S) : r = r' :=
 List.Perm.eq_of_pairwise (le := fun p q : Pair => pk p < pk q) (fun a b _ _ h1 h2 => by omega) h.asc h'.asc ((List.perm_ext_iff_of_nodup h.nodup h'.nodup).2 fun p => (h.mem p).trans (h'.mem p).symm)
theorem Can.congr {r : List Pair} {S S' : Pair → Prop} (h : Can r S) (e : ∀ p, S p ↔ S' p) : Can r S' := ⟨h.asc, fun p => (h.mem p).trans (e p)⟩
theorem keyed_pk {l : List Pair} (ho : ∀ p ∈ l, okP p) : Keyed cmpT pk l := by
 intro x hx y hy
 refine ⟨_, rfl, ?_⟩
 rw [neg_iff, pk_lt (ho x hx) (ho y hy)]
 unfold lessV
 simp
theorem slice_can {l : List Pair} (hl : l.length < 65536) (ho : ∀ p ∈ l, okP p) : ∃ t, sort_SliceS l = some t ∧ t.Perm l ∧ t.Pairwise fun x y => pk x ≤ pk y := by
 unfold sort_SliceS
 by_cases h2 : l.length < 2
 ·rw [if_pos h2]
  refine ⟨l, rfl, List.Perm.refl _, ?_⟩
  match l, h2 with
  | [], _ => exact List.Pairwise.nil
  | [x], _ => exact List.pairwise_singleton _ _
  | _ :: _ :: _, h => simp at h; omega
 ·rw [if_neg h2]
  unfold sort_Slice
  rw [if_pos (by omega)]
  obtain ⟨k, hk⟩ := len_some l.length hl
  have hw : IntKind.wrap .u64 (l.length : Int) = l.length := wrapu_small (by omega) (by omega)
  rw [hw, hk, Option.bind_some]
  obtain ⟨t, ht, hp, hs⟩ := pdqS_all (p := cmpT) (key := pk) (keyed_pk ho) (fun x hx y hy e => pk_inj (ho x hx) (ho y hy) e) hl k
  unfold pdqF
  rw [ht, Option.bind_some, if_pos hp.length_eq]
  exact ⟨t, rfl, hp, hs⟩
def dd (t : List Pair) : Nat → List Pair
 | 0 => []
 | i + 1 => dd t i ++ match t[i]? with | some v => if i = 0 then [v] else if t[i - 1]? = some v then [] else [v] | none => []
theorem dd_len (t : List Pair) : ∀ i, (dd t i).length ≤ i
 | 0 => by simp [dd]
 | i + 1 => by
  have := dd_len t i
  unfold dd
  rw [List.length_append]
  split
  ·split
   ·simp; omega
   ·split <;> simp <;> omega
  ·simp; omega
theorem dd_can {t : List Pair} (ho : ∀ p ∈ t, okP p) (hs : t.Pairwise fun x y => pk x ≤ pk y) : ∀ i, i ≤ t.length → Can (dd t i) (· ∈ t.take i)
 | 0, _ => ⟨by simp [dd], fun p => by simp [dd]⟩
 | i + 1, hi => by
  have ih := dd_can ho hs i (by omega)
  have hil : i < t.length := by omega
  have hv : t[i]? = some t[i] := List.getElem?_eq_getElem hil
  have hw := List.pairwise_iff_getElem.1 hs
  have htk : t.take (i + 1) = t.take i ++ [t[i]] := by rw [List.take_add_one, hv]; rfl
  have hbig : ∀ q ∈ t.take i, ∃ j, ∃ hj : j < i, t[j]'(by omega) = q := by
   intro q hq
   obtain ⟨j, hj, e⟩ := List.getElem_of_mem hq
   rw [List.length_take] at hj
   exact ⟨j, by omega, by rw [← e, List.getElem_take]⟩
  unfold dd
  rw [hv]
  simp only
  by_cases h0 : i = 0
  ·subst h0
   rw [if_pos rfl]
   refine ⟨by simp [dd], fun p => by rw [htk]; simp [dd]⟩
  rw [if_neg h0]
  have hpv : t[i - 1]? = some (t[i - 1]'(by omega)) := List.getElem?_eq_getElem (by omega)
  by_cases he : t[i - 1]? = some t[i]
  ·rw [if_pos he, List.append_nil]
   refine ih.congr fun p => ?_
   rw [htk, List.mem_append]
   constructor
   ·intro h; exact .inl h
   ·rintro (h | h)
    ·exact h
    ·obtain rfl : p = t[i] := by simpa using h
     have : t[i] ∈ t.take i := List.mem_of_getElem? (i := i - 1) (by rw [List.getElem?_take, if_pos (by omega)]; exact he)
     exact this
  ·rw [if_neg he]
   have hlt : ∀ q ∈ t.take i, pk q < pk t[i] := by
    intro q hq
    obtain ⟨j, hj, rfl⟩ := hbig q hq
    have h1 : pk t[i - 1] < pk t[i] := by
     have h2 := hw (i - 1) i (by omega) hil (by omega)
     have h3 : pk t[i - 1] ≠ pk t[i] := fun e => he (by rw [hpv, pk_inj (ho _ (List.getElem_mem _)) (ho _ (List.getElem_mem _)) e])
     omega
    by_cases hji : j = i - 1
    ·subst hji; exact h1
    ·have := hw j (i - 1) (by omega) (by omega) (by omega)
     omega
   refine ⟨?_, fun p => ?_⟩
   ·rw [List.pairwise_append]
    refine ⟨ih.asc, by simp, fun a ha b hb => ?_⟩
    obtain rfl : b = t[i] := by simpa using hb
    exact hlt a ((ih.mem a).1 ha)
   ·rw [htk, List.mem_append, List.mem_append, ih.mem]
theorem tidy_can {l : List Pair} (hl : l.length < 65536) (ho : ∀ p ∈ l, okP p) : ∃ t r, match_tidy l = some (r, t) ∧ t.length = l.length ∧ Can r (· ∈ l) ∧ r.length ≤ l.length := by
 obtain ⟨t, ht, hp, hs⟩ := slice_can hl ho
 have hot : ∀ p ∈ t, okP p := fun p h => ho p (hp.mem_iff.1 h)
 have hlen := hp.length_eq
 refine ⟨t, dd t t.length, ?_, hlen, (dd_can hot hs t.length (Nat.le_refl _)).congr fun p => by rw [List.take_length]; exact hp.mem_iff, hlen ▸ dd_len t t.length⟩
 unfold match_tidy
 rw [ht, Option.bind_some, if_pos hlen]
 have h1 := iter_to (step := match_tidy_L0 (t.length : Int) t) (fun i => ((i : Int), dd t i)) t.length (fun i hi => by
  have hv : t[i]? = some t[i] := List.getElem?_eq_getElem hi
  have hdl := dd_len t i
  have hd : dd t (i + 1) = dd t i ++ if i = 0 then [t[i]] else if t[i - 1]? = some t[i] then [] else [t[i]] := by
   conv => lhs; unfold dd
   rw [hv]
  simp only [match_tidy_L0, rd_nat, hv, Option.bind_some]
  rw [if_pos (by omega), hd]
  by_cases h0 : i = 0
  ·rw [if_pos (by omega), if_pos (by omega), if_pos h0, w64_succ (by omega)]
  ·have hv' : t[i - 1]? = some (t[i - 1]'(by omega)) := List.getElem?_eq_getElem (by omega)
   rw [if_neg (by omega), if_neg h0, w64_id (x := (i : Int) - 1) (by omega) (by omega), show (i : Int) - 1 = ((i - 1 : Nat) : Int) from by omega, rd_nat, hv', Option.bind_some]
   by_cases he : t[i].Old = t[i - 1].Old ∧ t[i].New = t[i - 1].New
   ·have e2 : t[i - 1] = t[i] := by
     generalize t[i] = x at he
     generalize t[i - 1] = y at he
     cases x; cases y; simp_all
    rw [if_pos he, if_pos (by rw [e2]), List.append_nil, w64_succ (by omega)]
   ·rw [if_neg he, if_pos (by omega), if_neg (fun e => he (by rw [Option.some.inj e]; exact ⟨rfl, rfl⟩)), w64_succ (by omega)])
 have e0 : (((0 : Nat) : Int), dd t 0) = ((0 : Int), ([] : List Pair)) := rfl
 rw [← e0, h1, iter_jmp (n := 0) (s' := ((t.length : Int), dd t t.length))]
 ·rfl
 ·simp only [match_tidy_L0]
  rw [if_neg (by omega)]
def SC (m n : List Pair) (p : Pair) : Prop := ∃ y, (⟨p.Old, y⟩ : Pair) ∈ m ∧ (⟨y, p.New⟩ : Pair) ∈ n
theorem mem_nexts {n : List Pair} {k z : Int} : z ∈ nexts n k ↔ (⟨k, z⟩ : Pair) ∈ n := by
 unfold nexts
 rw [List.mem_map]
 constructor
 ·rintro ⟨p, hp, rfl⟩
  obtain ⟨h1, h2⟩ := List.mem_filter.1 hp
  have : p.Old = k := by simpa using h2
  subst this; exact h1
 ·intro h
  exact ⟨_, List.mem_filter.2 ⟨h, by simp⟩, rfl⟩
theorem mem_compL {m n : List Pair} {p : Pair} : p ∈ compL m n ↔ SC m n p := by
 unfold compL SC
 rw [List.mem_flatMap]
 constructor
 ·rintro ⟨q, hq, hp⟩
  obtain ⟨z, hz, rfl⟩ := List.mem_map.1 hp
  exact ⟨q.New, hq, mem_nexts.1 hz⟩
 ·rintro ⟨y, h1, h2⟩
  exact ⟨_, h1, List.mem_map.2 ⟨p.New, mem_nexts.2 h2, rfl⟩⟩
theorem compL_le (m n : List Pair) : (compL m n).length ≤ m.length * n.length := by
 induction m with
 | nil => simp [compL]
 | cons p m ih =>
  have e : compL (p :: m) n = ((nexts n p.New).map fun z => (⟨p.Old, z⟩ : Pair)) ++ compL m n := by simp [compL]
  have h2 : (nexts n p.New).length ≤ n.length := by unfold nexts; rw [List.length_map]; exact List.length_filter_le _ _
  rw [e, List.length_append, List.length_map, List.length_cons, Nat.succ_mul]
  omega
theorem SC.ok {m n : List Pair} (hm : ∀ p ∈ m, okP p) (hn : ∀ p ∈ n, okP p) {p : Pair} (h : SC m n p) : okP p := by
 obtain ⟨y, h1, h2⟩ := h
 exact ⟨(hm _ h1).1, (hn _ h2).2⟩
theorem compose_can {m n : List Pair} (hm : m.length ≤ 2 ^ 15) (hn : n.length ≤ 2 ^ 15) (hb : m.length * n.length < 65536) (om : ∀ p ∈ m, okP p) (on : ∀ p ∈ n, okP p) : ∃ r, match_Compose m n = some r ∧ Can r (SC m n) ∧ r.length ≤ m.length * n.length := by
 have hl := compL_le m n
 obtain ⟨t, r, h1, _, h2, h3⟩ := tidy_can (l := compL m n) (by omega) (fun p h => (mem_compL.1 h).ok om on)
 refine ⟨r, ?_, h2.congr fun p => mem_compL, by omega⟩
 unfold match_Compose
 rw [if_pos ⟨by omega, by omega⟩, h1]
 rfl
theorem invert_can {m : List Pair} (hl : m.length < 65536) (om : ∀ p ∈ m, okP p) : ∃ r, match_Invert m = some r ∧ Can r (fun p => sw p ∈ m) ∧ r.length ≤ m.length := by
 have h1 := iter_to (step := match_Invert_L0 m (m.length : Int)) (fun i => ((i : Int), (m.take i).map sw)) m.length (fun i hi => by
  have hv : m[i]? = some m[i] := List.getElem?_eq_getElem hi
  simp only [match_Invert_L0, rd_nat, hv, Option.bind_some, List.length_map, List.length_take]
  rw [if_pos (by omega), if_pos (by omega), w64_succ (by omega), List.take_add_one, hv, List.map_append]
  rfl)
 simp only [List.take_zero, List.map_nil, List.take_length] at h1
 have h2 : iter (match_Invert_L0 m (m.length : Int)) ((0 : Int), ([] : List Pair)) = some (.jmp 0 ((m.length : Int), m.map sw)) := by
  refine Eq.trans h1 (iter_jmp ?_)
  simp only [match_Invert_L0]
  rw [if_neg (by omega)]
 obtain ⟨t, r, g1, g2, g3, g4⟩ := tidy_can (l := m.map sw) (by rw [List.length_map]; exact hl) (fun p h => by
  obtain ⟨q, hq, rfl⟩ := List.mem_map.1 h
  exact ⟨(om q hq).2, (om q hq).1⟩)
 refine ⟨r, ?_, g3.congr fun p => ?_, by rw [List.length_map] at g4; exact g4⟩
 ·unfold match_Invert
  rw [h2, Option.bind_some]
  simp only [g1, Option.bind_some]
  rw [if_pos g2]
 ·rw [List.mem_map]
  constructor
  ·rintro ⟨q, hq, rfl⟩; exact hq
  ·intro h; exact ⟨sw p, h, rfl⟩
theorem same_refl (m : List Pair) (h : m.length < 2 ^ 60) : R24_Same m m = some true := by
 unfold R24_Same
 rw [if_pos rfl]
 have h1 := iter_to (step := R24_Same_L0 m m) (fun i => (i : Int)) m.length (fun i hi => by
  have hv : m[i]? = some m[i] := List.getElem?_eq_getElem hi
  simp only [R24_Same_L0, rd_nat, hv, Option.bind_some]
  rw [if_pos (by omega), if_pos (by simp), w64_succ (by omega)])
 have h2 : iter (R24_Same_L0 m m) (0 : Int) = some (.jmp 0 (m.length : Int)) := by
  refine Eq.trans h1 (iter_jmp ?_)
  simp only [R24_Same_L0]
  rw [if_neg (by omega)]
 rw [h2]; rfl
theorem int_hi {x : Int} (h : wfInt .i64 x) : -2 ^ 63 ≤ x ∧ x < 2 ^ 63 := by
 unfold wfInt Lit.wf at h
 rw [Bool.and_eq_true, decide_eq_true_eq, decide_eq_true_eq] at h
 have e1 : IntKind.min .i64 = -2 ^ 63 := by decide
 have e2 : IntKind.max .i64 = 2 ^ 63 - 1 := by decide
 rw [e1, e2] at h
 omega
theorem wf_i64 {x : Int} (h : wfInt .i64 x) : -9223372036854775808 ≤ x ∧ x < 9223372036854775808 := by have := int_hi h; omega
theorem wf_okP {l : List Pair} (h : WfL 16 Wf_Pair l) : ∀ p ∈ l, okP p := by
 intro p hp
 have := h.2 p hp
 exact ⟨wf_i64 this.fOld, wf_i64 this.fNew⟩
end Xr

set_option linter.unusedVariables false
namespace Xr
open Go Go.Ev
theorem plain_composes (x0 : List Pair) (w0 : WfL 16 Wf_Pair x0) (x1 : List Pair) (w1 : WfL 16 Wf_Pair x1) (x2 : List Pair) (w2 : WfL 16 Wf_Pair x2) : law24_MatchComposes x0 x1 x2 = some true := by
 unfold law24_MatchComposes
 by_cases h0 : (30 : Int) < (x0.length : Int)
 ·rw [if_pos h0]; rfl
 rw [if_neg h0]
 by_cases h1 : (30 : Int) < (x1.length : Int)
 ·rw [if_pos h1]; rfl
 rw [if_neg h1]
 by_cases h2 : (30 : Int) < (x2.length : Int)
 ·rw [if_pos h2]; rfl
 rw [if_neg h2]
 have o0 := wf_okP w0
 have o1 := wf_okP w1
 have o2 := wf_okP w2
 have b01 : x0.length * x1.length ≤ 30 * 30 := Nat.mul_le_mul (by omega) (by omega)
 have b12 : x1.length * x2.length ≤ 30 * 30 := Nat.mul_le_mul (by omega) (by omega)
 obtain ⟨a, ha, ca, la⟩ := compose_can (m := x0) (n := x1) (by omega) (by omega) (by omega) o0 o1
 have oa : ∀ p ∈ a, okP p := fun p h => ((ca.mem p).1 h).ok o0 o1
 have ba : a.length * x2.length ≤ 900 * 30 := Nat.mul_le_mul (by omega) (by omega)
 obtain ⟨b, hb, cb, lb⟩ := compose_can (m := a) (n := x2) (by omega) (by omega) (by omega) oa o2
 obtain ⟨c, hc, cc, lc⟩ := compose_can (m := x1) (n := x2) (by omega) (by omega) (by omega) o1 o2
 have oc : ∀ p ∈ c, okP p := fun p h => ((cc.mem p).1 h).ok o1 o2
 have bc : x0.length * c.length ≤ 30 * 900 := Nat.mul_le_mul (by omega) (by omega)
 obtain ⟨d, hd, cd, ld⟩ := compose_can (m := x0) (n := c) (by omega) (by omega) (by omega) o0 oc
 have e1 : b = d := can_unique cb (cd.congr fun p => by
  unfold SC
  constructor
  ·rintro ⟨y, g1, g2⟩
   obtain ⟨z, g3, g4⟩ := (cc.mem _).1 g2
   exact ⟨z, (ca.mem _).2 ⟨y, g1, g3⟩, g4⟩
  ·rintro ⟨z, g1, g2⟩
   obtain ⟨y, g3, g4⟩ := (ca.mem _).1 g1
   exact ⟨y, g3, (cc.mem _).2 ⟨z, g4, g2⟩⟩)
 obtain ⟨i, hi, ci, li⟩ := invert_can (m := a) (by omega) oa
 obtain ⟨i1, hi1, ci1, li1⟩ := invert_can (m := x1) (by omega) o1
 obtain ⟨i0, hi0, ci0, li0⟩ := invert_can (m := x0) (by omega) o0
 have oi1 : ∀ p ∈ i1, okP p := fun p h => ⟨(o1 _ ((ci1.mem p).1 h)).2, (o1 _ ((ci1.mem p).1 h)).1⟩
 have oi0 : ∀ p ∈ i0, okP p := fun p h => ⟨(o0 _ ((ci0.mem p).1 h)).2, (o0 _ ((ci0.mem p).1 h)).1⟩
 have bi : i1.length * i0.length ≤ 30 * 30 := Nat.mul_le_mul (by omega) (by omega)
 obtain ⟨j, hj, cj, lj⟩ := compose_can (m := i1) (n := i0) (by omega) (by omega) (by omega) oi1 oi0
 have e2 : i = j := can_unique ci (cj.congr fun p => by
  constructor
  ·rintro ⟨y, g1, g2⟩
   exact (ca.mem _).2 ⟨y, (ci0.mem _).1 g2, (ci1.mem _).1 g1⟩
  ·intro h
   obtain ⟨y, g1, g2⟩ := (ca.mem _).1 h
   exact ⟨y, (ci1.mem _).2 g2, (ci0.mem _).2 g1⟩)
 subst e1 e2
 rw [ha, Option.bind_some, hb, Option.bind_some, hc, Option.bind_some, hd, Option.bind_some, same_refl b (by omega), Option.bind_some, if_pos rfl,
  hi, Option.bind_some, hi1, Option.bind_some, hi0, Option.bind_some, hj, Option.bind_some, same_refl i (by omega), Option.bind_some, if_pos rfl]
 rfl
end Xr

