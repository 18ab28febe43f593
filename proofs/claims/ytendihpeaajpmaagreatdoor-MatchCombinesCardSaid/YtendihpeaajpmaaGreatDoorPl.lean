/- A part of the proof: Pl. No conditions of its own. -/
import Derived.Test.YtendihpeaajpmaaGreatDoorT
import Derived.Test.YtendihpeaajpmaaGreatDoorE5
set_option linter.unusedVariables false
namespace Xr
open Go Go.Ev
def sw (p : Pair) : Pair := ⟨p.New, p.Old⟩
def pk (p : Pair) : Int := p.Old * 18446744073709551616 + p.New
def okP (p : Pair) : Prop := (-9223372036854775808 ≤ p.Old ∧ p.Old < 9223372036854775808) ∧ -9223372036854775808 ≤ p.New ∧ p.New < 9223372036854775808
theorem pk_inj {x y : Pair} (hx : okP x) (hy : okP y) (h : pk x = pk y) : x = y := by
 obtain ⟨a, b⟩ := x
 obtain ⟨c, d⟩ := y
 unfold pk at h
 unfold okP at hx hy
 simp only at h hx hy
 have h1 : a = c := by omega
 have h2 : b = d := by omega
 rw [h1, h2]
theorem pk_lt {x y : Pair} (hx : okP x) (hy : okP y) : pk x < pk y ↔ x.Old < y.Old ∨ (x.Old = y.Old ∧ x.New < y.New) := by
 unfold pk
 unfold okP at hx hy
 omega
structure Can (r : List Pair) (S : Pair → Prop) : Prop where
 asc : r.Pairwise fun p q => pk p < pk q
 mem : ∀ p, p ∈ r ↔ S p
theorem Can.nodup {r : List Pair} {S : Pair → Prop} (h : Can r S) : r.Nodup := h.asc.imp fun h e => by rw [e] at h; omega
theorem can_unique {r r' : List Pair} {S : Pair → Prop} (h : Can r S) (h' : Can r' S) : r = r' :=
 List.Perm.eq_of_pairwise (le := fun p q : Pair => pk p < pk q) (fun a b _ _ h1 h2 => by omega) h.asc h'.asc ((List.perm_ext_iff_of_nodup h.nodup h'.nodup).2 fun p => (h.mem p).trans (h'.mem p).symm)
theorem Can.congr {r : List Pair} {S S' : Pair → Prop} (h : Can r S) (e : ∀ p, S p ↔ S' p) : Can r S' := ⟨h.asc, fun p => (h.mem p).trans (e p)⟩
theorem keyed_pk {l : List Pair} (ho : ∀ p ∈ l, okP p) : Keyed cmpT pk l := by
 intro x hx y hy
 refine ⟨_, rfl, ?_⟩
 rw [neg_iff, pk_lt (ho x hx) (ho y hy)]
 unfold lessV
 simp
theorem slice_can {l : List Pair} (hl : l.length < 65536) (ho : ∀ p ∈ l, okP p) : ∃ t, sort_SliceS l = some t ∧ t.Perm l ∧ t.Pairwise fun x y => pk x ≤ pk y := by
 unfold sort_SliceS
 by_cases h2 : l.length < 2
 ·rw [if_pos h2]
  refine ⟨l, rfl, List.Perm.refl _, ?_⟩
  match l, h2 with
  | [], _ => exact List.Pairwise.nil
  | [x], _ => exact List.pairwise_singleton _ _
  | _ :: _ :: _, h => simp at h; omega
 ·rw [if_neg h2]
  unfold sort_Slice
  rw [if_pos (by omega)]
  obtain ⟨k, hk⟩ := len_some l.length hl
  have hw : IntKind.wrap .u64 (l.length : Int) = l.length := wrapu_small (by omega) (by omega)
  rw [hw, hk, Option.bind_some]
  obtain ⟨t, ht, hp, hs⟩ := pdqS_all (p := cmpT) (key := pk) (keyed_pk ho) (fun x hx y hy e => pk_inj (ho x hx) (ho y hy) e) hl k
  unfold pdqF
  rw [ht, Option.bind_some, if_pos hp.length_eq]
  exact ⟨t, rfl, hp, hs⟩
def dd (t : List Pair) : Nat → List Pair
 | 0 => []
 | i + 1 => dd t i ++ match t[i]? with | some v => if i = 0 then [v] else if t[i - 1]? = some v then [] else [v] | none => []
theorem dd_len (t : List Pair) : ∀ i, (dd t i).length ≤ i
 | 0 => by simp [dd]
 | i + 1 => by
  have := dd_len t i
  unfold dd
  rw [List.length_append]
  split
  ·split
   ·simp; omega
   ·split <;> simp <;> omega
  ·simp; omega
theorem dd_can {t : List Pair} (ho : ∀ p ∈ t, okP p) (hs : t.Pairwise fun x y => pk x ≤ pk y) : ∀ i, i ≤ t.length → Can (dd t i) (· ∈ t.take i)
 | 0, _ => ⟨by simp [dd], fun p => by simp [dd]⟩
 | i + 1, hi => by
  have ih := dd_can ho hs i (by omega)
  have hil : i < t.length := by omega
  have hv : t[i]? = some t[i] := List.getElem?_eq_getElem hil
  have hw := List.pairwise_iff_getElem.1 hs
  have htk : t.take (i + 1) = t.take i ++ [t[i]] := by rw [List.take_add_one, hv]; rfl
  have hbig : ∀ q ∈ t.take i, ∃ j, ∃ hj : j < i, t[j]'(by omega) = q := by
   intro q hq
   obtain ⟨j, hj, e⟩ := List.getElem_of_mem hq
   rw [List.length_take] at hj
   exact ⟨j, by omega, by rw [← e, List.getElem_take]⟩
  unfold dd
  rw [hv]
  simp only
  by_cases h0 : i = 0
  ·subst h0
   rw [if_pos rfl]
   refine ⟨by simp [dd], fun p => by rw [htk]; simp [dd]⟩
  rw [if_neg h0]
  have hpv : t[i - 1]? = some (t[i - 1]'(by omega)) := List.getElem?_eq_getElem (by omega)
  by_cases he : t[i - 1]? = some t[i]
  ·rw [if_pos he, List.append_nil]
   refine ih.congr fun p => ?_
   rw [htk, List.mem_append]
   constructor
   ·intro h; exact .inl h
   ·rintro (h | h)
    ·exact h
    ·obtain rfl : p = t[i] := by simpa using h
     have : t[i] ∈ t.take i := List.mem_of_getElem? (i := i - 1) (by rw [List.getElem?_take, if_pos (by omega)]; exact he)
     exact this
  ·rw [if_neg he]
   have hlt : ∀ q ∈ t.take i, pk q < pk t[i] := by
    intro q hq
    obtain ⟨j, hj, rfl⟩ := hbig q hq
    have h1 : pk t[i - 1] < pk t[i] := by
     have h2 := hw (i - 1) i (by omega) hil (by omega)
     have h3 : pk t[i - 1] ≠ pk t[i] := fun e => he (by rw [hpv, pk_inj (ho _ (List.getElem_mem _)) (ho _ (List.getElem_mem _)) e])
     omega
    by_cases hji : j = i - 1
    ·subst hji; exact h1
    ·have := hw j (i - 1) (by omega) (by omega) (by omega)
     omega
   refine ⟨?_, fun p => ?_⟩
   ·rw [List.pairwise_append]
    refine ⟨ih.asc, by simp, fun a ha b hb => ?_⟩
    obtain rfl : b = t[i] := by simpa using hb
    exact hlt a ((ih.mem a).1 ha)
   ·rw [htk, List.mem_append, List.mem_append, ih.mem]
theorem tidy_can {l : List Pair} (hl : l.length < 65536) (ho : ∀ p ∈ l, okP p) : ∃ t r, match_tidy l = some (r, t) ∧ t.length = l.length ∧ Can r (· ∈ l) ∧ r.length ≤ l.length := by
 obtain ⟨t, ht, hp, hs⟩ := slice_can hl ho
 have hot : ∀ p ∈ t, okP p := fun p h => ho p (hp.mem_iff.1 h)
 have hlen := hp.length_eq
 refine ⟨t, dd t t.length, ?_, hlen, (dd_can hot hs t.length (Nat.le_refl _)).congr fun p => by rw [List.take_length]; exact hp.mem_iff, hlen ▸ dd_len t t.length⟩
 unfold match_tidy
 rw [ht, Option.bind_some, if_pos hlen]
 have h1 := iter_to (step := match_tidy_L0 (t.length : Int) t) (fun i => ((i : Int), dd t i)) t.length (fun i hi => by
  have hv : t[i]? = some t[i] := List.getElem?_eq_getElem hi
  have hdl := dd_len t i
  have hd : dd t (i + 1) = dd t i ++ if i = 0 then [t[i]] else if t[i - 1]? = some t[i] then [] else [t[i]] := by
   conv => lhs; unfold dd
   rw [hv]
  simp only [match_tidy_L0, rd_nat, hv, Option.bind_some]
  rw [if_pos (by omega), hd]
  by_cases h0 : i = 0
  ·rw [if_pos (by omega), if_pos (by omega), if_pos h0, w64_succ (by omega)]
  ·have hv' : t[i - 1]? = some (t[i - 1]'(by omega)) := List.getElem?_eq_getElem (by omega)
   rw [if_neg (by omega), if_neg h0, w64_id (x := (i : Int) - 1) (by omega) (by omega), show (i : Int) - 1 = ((i - 1 : Nat) : Int) from by omega, rd_nat, hv', Option.bind_some]
   by_cases he : t[i].Old = t[i - 1].Old ∧ t[i].New = t[i - 1].New
   ·have e2 : t[i - 1] = t[i] := by
     generalize t[i] = x at he
     generalize t[i - 1] = y at he
     cases x; cases y; simp_all
    rw [if_pos he, if_pos (by rw [e2]), List.append_nil, w64_succ (by omega)]
   ·rw [if_neg he, if_pos (by omega), if_neg (fun e => he (by rw [Option.some.inj e]; exact ⟨rfl, rfl⟩)), w64_succ (by omega)])
 have e0 : (((0 : Nat) : Int), dd t 0) = ((0 : Int), ([] : List Pair)) := rfl
 rw [← e0, h1, iter_jmp (n := 0) (s' := ((t.length : Int), dd t t.length))]
 ·rfl
 ·simp only [match_tidy_L0]
  rw [if_neg (by omega)]
def SC (m n : List Pair) (p : Pair) : Prop := ∃ y, (⟨p.Old, y⟩ : Pair) ∈ m ∧ (⟨y, p.New⟩ : Pair) ∈ n
theorem mem_nexts {n : List Pair} {k z : Int} : z ∈ nexts n k ↔ (⟨k, z⟩ : Pair) ∈ n := by
 unfold nexts
 rw [List.mem_map]
 constructor
 ·rintro ⟨p, hp, rfl⟩
  obtain ⟨h1, h2⟩ := List.mem_filter.1 hp
  have : p.Old = k := by simpa using h2
  subst this; exact h1
 ·intro h
  exact ⟨_, List.mem_filter.2 ⟨h, by simp⟩, rfl⟩
theorem mem_compL {m n : List Pair} {p : Pair} : p ∈ compL m n ↔ SC m n p := by
 unfold compL SC
 rw [List.mem_flatMap]
 constructor
 ·rintro ⟨q, hq, hp⟩
  obtain ⟨z, hz, rfl⟩ := List.mem_map.1 hp
  exact ⟨q.New, hq, mem_nexts.1 hz⟩
 ·rintro ⟨y, h1, h2⟩
  exact ⟨_, h1, List.mem_map.2 ⟨p.New, mem_nexts.2 h2, rfl⟩⟩
theorem compL_le (m n : List Pair) : (compL m n).length ≤ m.length * n.length := by
 induction m with
 | nil => simp [compL]
 | cons p m ih =>
  have e : compL (p :: m) n = ((nexts n p.New).map fun z => (⟨p.Old, z⟩ : Pair)) ++ compL m n := by simp [compL]
  have h2 : (nexts n p.New).length ≤ n.length := by unfold nexts; rw [List.length_map]; exact List.length_filter_le _ _
  rw [e, List.length_append, List.length_map, List.length_cons, Nat.succ_mul]
  omega
theorem SC.ok {m n : List Pair} (hm : ∀ p ∈ m, okP p) (hn : ∀ p ∈ n, okP p) {p : Pair} (h : SC m n p) : okP p := by
 obtain ⟨y, h1, h2⟩ := h
 exact ⟨(hm _ h1).1, (hn _ h2).2⟩
theorem compose_can {m n : List Pair} (hm : m.length ≤ 2 ^ 15) (hn : n.length ≤ 2 ^ 15) (hb : m.length * n.length < 65536) (om : ∀ p ∈ m, okP p) (on : ∀ p ∈ n, okP p) : ∃ r, match_Compose m n = some r ∧ Can r (SC m n) ∧ r.length ≤ m.length * n.length := by
 have hl := compL_le m n
 obtain ⟨t, r, h1, _, h2, h3⟩ := tidy_can (l := compL m n) (by omega) (fun p h => (mem_compL.1 h).ok om on)
 refine ⟨r, ?_, h2.congr fun p => mem_compL, by omega⟩
 unfold match_Compose
 rw [if_pos ⟨by omega, by omega⟩, h1]
 rfl
theorem invert_can {m : List Pair} (hl : m.length < 65536) (om : ∀ p ∈ m, okP p) : ∃ r, match_Invert m = some r ∧ Can r (fun p => sw p ∈ m) ∧ r.length ≤ m.length := by
 have h1 := iter_to (step := match_Invert_L0 m (m.length : Int)) (fun i => ((i : Int), (m.take i).map sw)) m.length (fun i hi => by
  have hv : m[i]? = some m[i] := List.getElem?_eq_getElem hi
  simp only [match_Invert_L0, rd_nat, hv, Option.bind_some, List.length_map, List.length_take]
  rw [if_pos (by omega), if_pos (by omega), w64_succ (by omega), List.take_add_one, hv, List.map_append]
  rfl)
 simp only [List.take_zero, List.map_nil, List.take_length] at h1
 have h2 : iter (match_Invert_L0 m (m.length : Int)) ((0 : Int), ([] : List Pair)) = some (.jmp 0 ((m.length : Int), m.map sw)) := by
  refine Eq.trans h1 (iter_jmp ?_)
  simp only [match_Invert_L0]
  rw [if_neg (by omega)]
 obtain ⟨t, r, g1, g2, g3, g4⟩ := tidy_can (l := m.map sw) (by rw [List.length_map]; exact hl) (fun p h => by
  obtain ⟨q, hq, rfl⟩ := List.mem_map.1 h
  exact ⟨(om q hq).2, (om q hq).1⟩)
 refine ⟨r, ?_, g3.congr fun p => ?_, by rw [List.length_map] at g4; exact g4⟩
 ·unfold match_Invert
  rw [h2, Option.bind_some]
  simp only [g1, Option.bind_some]
  rw [if_pos g2]
 ·rw [List.mem_map]
  constructor
  ·rintro ⟨q, hq, rfl⟩; exact hq
  ·intro h; exact ⟨sw p, h, rfl⟩
theorem same_refl (m : List Pair) (h : m.length < 2 ^ 60) : R24_Same m m = some true := by
 unfold R24_Same
 rw [if_pos rfl]
 have h1 := iter_to (step := R24_Same_L0 m m) (fun i => (i : Int)) m.length (fun i hi => by
  have hv : m[i]? = some m[i] := List.getElem?_eq_getElem hi
  simp only [R24_Same_L0, rd_nat, hv, Option.bind_some]
  rw [if_pos (by omega), if_pos (by simp), w64_succ (by omega)])
 have h2 : iter (R24_Same_L0 m m) (0 : Int) = some (.jmp 0 (m.length : Int)) := by
  refine Eq.trans h1 (iter_jmp ?_)
  simp only [R24_Same_L0]
  rw [if_neg (by omega)]
 rw [h2]; rfl
theorem int_hi {x : Int} (h : wfInt .i64 x) : -2 ^ 63 ≤ x ∧ x < 2 ^ 63 := by
 unfold wfInt Lit.wf at h
 rw [Bool.and_eq_true, decide_eq_true_eq, decide_eq_true_eq] at h
 have e1 : IntKind.min .i64 = -2 ^ 63 := by decide
 have e2 : IntKind.max .i64 = 2 ^ 63 - 1 := by decide
 rw [e1, e2] at h
 omega
theorem wf_i64 {x : Int} (h : wfInt .i64 x) : -9223372036854775808 ≤ x ∧ x < 9223372036854775808 := by have := int_hi h; omega
theorem wf_okP {l : List Pair} (h : WfL 16 Wf_Pair l) : ∀ p ∈ l, okP p := by
 intro p hp
 have := h.2 p hp
 exact ⟨wf_i64 this.fOld, wf_i64 this.fNew⟩
end Xr

set_option linter.unusedVariables false
namespace Xr
open Go Go.Ev
def insAt (m : List Pair) (p : Pair) (i : Nat) : Bool × Int × List Pair :=
 if (∀ q ∈ m.take i, pk q < pk p) then (false, (i : Int), m.take i)
 else (true, (i : Int), (m.take i).filter (fun q => decide (pk q < pk p)) ++ [p] ++ (m.take i).filter (fun q => decide (pk p < pk q)))
theorem filter_all {l : List Pair} {p : Pair} (h : ∀ q ∈ l, pk q < pk p) : l.filter (fun q => decide (pk q < pk p)) = l ∧ l.filter (fun q => decide (pk p < pk q)) = [] := by
 refine ⟨List.filter_eq_self.2 fun q hq => by simpa using h q hq, ?_⟩
 rw [List.filter_eq_nil_iff]
 intro q hq e
 have := h q hq
 simp at e; omega
theorem insert_can {m : List Pair} {S : Pair → Prop} {p : Pair} (h : Can m S) (om : ∀ q ∈ m, okP q) (op : okP p) (hl : m.length ≤ 2 ^ 30) : ∃ r, R24_Insert m p = some r ∧ Can r (fun q => S q ∨ q = p) ∧ r.length ≤ m.length + 1 := by
 have hasc := List.pairwise_iff_getElem.1 h.asc
 have h1 := iter_to (step := R24_Insert_L0 m p.Old p.New) (insAt m p) m.length (fun i hi => by
  have hv : m[i]? = some m[i] := List.getElem?_eq_getElem hi
  have htk : m.take (i + 1) = m.take i ++ [m[i]] := by rw [List.take_add_one, hv]; rfl
  have hbig : ∀ q ∈ m.take i, pk q < pk m[i] := by
   intro q hq
   obtain ⟨j, hj, e⟩ := List.getElem_of_mem hq
   rw [List.length_take] at hj
   rw [List.getElem_take] at e
   rw [← e]
   exact hasc j i (by omega) hi (by omega)
  have ov := om _ (List.getElem_mem hi)
  have hlen : (m.take i).length = i := by rw [List.length_take]; omega
  have f1 := List.length_filter_le (fun q => decide (pk q < pk p)) (m.take i)
  have f2 := List.length_filter_le (fun q => decide (pk p < pk q)) (m.take i)
  generalize m[i] = v at *
  have hlt : pk v < pk p ↔ v.Old < p.Old ∨ (v.Old = p.Old ∧ v.New < p.New) := pk_lt ov op
  have hgt : pk p < pk v ↔ p.Old < v.Old ∨ (p.Old = v.Old ∧ p.New < v.New) := pk_lt op ov
  by_cases hall : ∀ q ∈ m.take i, pk q < pk p
  ·have e0 : insAt m p i = (false, (i : Int), m.take i) := if_pos hall
   obtain ⟨g1, g2⟩ := filter_all hall
   rw [e0]
   simp only [R24_Insert_L0, rd_nat, hv, Option.bind_some]
   rw [if_pos (by omega)]
   by_cases he : v.Old = p.Old ∧ v.New = p.New
   ·have hvp : v = p := by cases v; cases p; simp_all
    have e1 : insAt m p (i + 1) = (true, ((i + 1 : Nat) : Int), m.take i ++ [p]) := by
     unfold insAt
     rw [if_neg (fun hh => by have := hh v (by rw [htk]; simp); rw [hvp] at this; omega), htk, List.filter_append, List.filter_append, g1, g2, hvp]
     simp
    rw [if_pos he, if_pos (by omega), e1, w64_succ (by omega), hvp]
   ·rw [if_neg he, if_neg (by simp)]
    by_cases hpv : pk p < pk v
    ·have e1 : insAt m p (i + 1) = (true, ((i + 1 : Nat) : Int), m.take i ++ [p] ++ [v]) := by
      unfold insAt
      rw [if_neg (fun hh => by have := hh v (by rw [htk]; simp); omega), htk, List.filter_append, List.filter_append, g1, g2]
      have n1 : ¬ pk v < pk p := by omega
      simp [n1, hpv]
     have hle : (m.take i ++ [p]).length = i + 1 := by rw [List.length_append, hlen]; rfl
     rw [e1, w64_succ (by omega)]
     have hle' : (m.take i ++ [Pair.mk p.Old p.New]).length = i + 1 := by rw [List.length_append, hlen]; rfl
     by_cases hO : p.Old < v.Old
     ·rw [if_pos hO, if_pos (by omega), if_pos (by omega)]
     ·rw [if_neg hO, if_pos (by rcases hgt.1 hpv with h | h <;> omega), if_pos (by rcases hgt.1 hpv with h | h <;> omega), if_pos (by omega), if_pos (by omega)]
    ·have hne : pk v ≠ pk p := fun e => he (by rw [pk_inj ov op e]; exact ⟨rfl, rfl⟩)
     have hvp : pk v < pk p := by omega
     have e1 : insAt m p (i + 1) = (false, ((i + 1 : Nat) : Int), m.take i ++ [v]) := by
      unfold insAt
      rw [if_pos (fun q hq => by
       rw [htk] at hq
       rcases List.mem_append.1 hq with hq | hq
       ·exact hall q hq
       ·obtain rfl : q = v := by simpa using hq
        exact hvp), htk]
     rw [e1, w64_succ (by omega)]
     have n1 : ¬ p.Old < v.Old := by have := hlt.1 hvp; omega
     rw [if_neg n1]
     by_cases hO : v.Old = p.Old
     ·rw [if_pos hO, if_neg (by have := hlt.1 hvp; omega), if_pos (by omega)]
     ·rw [if_neg hO, if_pos (by omega)]
  ·have e0 : insAt m p i = (true, (i : Int), (m.take i).filter (fun q => decide (pk q < pk p)) ++ [p] ++ (m.take i).filter (fun q => decide (pk p < pk q))) := if_neg hall
   have hpv : pk p < pk v := by
    have : ∃ q ∈ m.take i, ¬ pk q < pk p := Classical.byContradiction fun hn => hall fun q hq => Classical.byContradiction fun hn' => hn ⟨q, hq, hn'⟩
    obtain ⟨q, hq, hn⟩ := this
    have := hbig q hq
    omega
   have n1 : ¬ pk v < pk p := by omega
   have e1 : insAt m p (i + 1) = (true, ((i + 1 : Nat) : Int), ((m.take i).filter (fun q => decide (pk q < pk p)) ++ [p] ++ (m.take i).filter (fun q => decide (pk p < pk q))) ++ [v]) := by
    unfold insAt
    rw [if_neg (fun hh => hall fun q hq => hh q (by rw [htk]; exact List.mem_append_left _ hq)), htk, List.filter_append, List.filter_append]
    simp [n1, hpv]
   have hle : ((m.take i).filter (fun q => decide (pk q < pk p)) ++ [p] ++ (m.take i).filter (fun q => decide (pk p < pk q))).length ≤ 2 * i + 1 := by
    rw [List.length_append, List.length_append]; simp only [List.length_cons, List.length_nil]; omega
   rw [e0, e1]
   simp only [R24_Insert_L0, rd_nat, hv, Option.bind_some]
   rw [if_pos (by omega), if_neg (fun e => by
    have : v = p := by cases v; cases p; simp_all
    rw [this] at hpv; omega), if_pos trivial, if_pos (by omega), w64_succ (by omega)])
 have e0 : insAt m p 0 = (false, (0 : Int), ([] : List Pair)) := by
  unfold insAt
  rw [if_pos (fun q hq => by simp at hq)]
  rfl
 rw [e0] at h1
 have hend : R24_Insert_L0 m p.Old p.New (insAt m p m.length) = some (.jmp 0 (insAt m p m.length)) := by
  unfold insAt
  split
  ·simp only [R24_Insert_L0]; rw [if_neg (by omega)]
  ·simp only [R24_Insert_L0]; rw [if_neg (by omega)]
 have h2 := h1.trans (iter_jmp hend)
 unfold R24_Insert
 rw [h2]
 by_cases hall : ∀ q ∈ m, pk q < pk p
 ·have e1 : insAt m p m.length = (false, (m.length : Int), m) := by unfold insAt; rw [List.take_length, if_pos hall]
  rw [e1, Option.bind_some]
  refine ⟨m ++ [p], ?_, ⟨?_, fun q => ?_⟩, by simp⟩
  ·simp only []
   rw [if_neg (by simp), if_pos (by omega)]
  ·rw [List.pairwise_append]
   refine ⟨h.asc, by simp, fun a ha b hb => ?_⟩
   obtain rfl : b = p := by simpa using hb
   exact hall a ha
  ·rw [List.mem_append, h.mem]; simp
 ·have e1 : insAt m p m.length = (true, (m.length : Int), m.filter (fun q => decide (pk q < pk p)) ++ [p] ++ m.filter (fun q => decide (pk p < pk q))) := by unfold insAt; rw [List.take_length, if_neg hall]
  rw [e1, Option.bind_some]
  refine ⟨_, rfl, ⟨?_, fun q => ?_⟩, ?_⟩
  ·rw [List.append_assoc, List.pairwise_append]
   refine ⟨h.asc.filter _, ?_, fun a ha b hb => ?_⟩
   ·rw [List.singleton_append, List.pairwise_cons]
    refine ⟨fun b hb => by simpa using (List.mem_filter.1 hb).2, h.asc.filter _⟩
   ·have h3 : pk a < pk p := by simpa using (List.mem_filter.1 ha).2
    rcases List.mem_append.1 hb with hb | hb
    ·obtain rfl : b = p := by simpa using hb
     exact h3
    ·have h4 : pk p < pk b := by simpa using (List.mem_filter.1 hb).2
     omega
  ·rw [List.mem_append, List.mem_append, List.mem_filter, List.mem_filter, ← h.mem]
   constructor
   ·rintro ((⟨h3, _⟩ | h3) | ⟨h3, _⟩)
    ·exact .inl h3
    ·exact .inr (by simpa using h3)
    ·exact .inl h3
   ·rintro (h3 | rfl)
    ·rcases Int.lt_trichotomy (pk q) (pk p) with h4 | h4 | h4
     ·exact .inl (.inl ⟨h3, by simpa using h4⟩)
     ·exact .inl (.inr (by rw [pk_inj (om q h3) op h4]; simp))
     ·exact .inr ⟨h3, by simpa using h4⟩
    ·exact .inl (.inr (by simp))
  ·have hsplit : ∀ l : List Pair, (l.filter (fun q => decide (pk q < pk p))).length + (l.filter (fun q => decide (pk p < pk q))).length ≤ l.length := by
    intro l
    induction l with
    | nil => simp
    | cons a l ih =>
     simp only [List.filter_cons, List.length_cons]
     by_cases h3 : pk a < pk p
     ·have : ¬ pk p < pk a := by omega
      simp [h3, this]; omega
     ·by_cases h4 : pk p < pk a
      ·simp [h3, h4]; omega
      ·simp [h3, h4]; omega
   have := hsplit m
   simp only [List.length_append, List.length_cons, List.length_nil]
   omega
theorem r_invert_can {m : List Pair} (hl : m.length ≤ 2 ^ 20) (om : ∀ p ∈ m, okP p) : ∃ r, R24_Invert m = some r ∧ Can r (fun p => sw p ∈ m) ∧ r.length ≤ m.length := by
 obtain ⟨o, h1, h2⟩ := iter_rule (step := R24_Invert_L0 m) (fun s => ∃ i : Nat, s.2 = (i : Int) ∧ i ≤ m.length ∧ Can s.1 (fun p => sw p ∈ m.take i) ∧ s.1.length ≤ i) (fun s => (m.length : Int).toNat - s.2.toNat)
  (fun o => match o with | .jmp _ s => Can s.1 (fun p => sw p ∈ m) ∧ s.1.length ≤ m.length | _ => False)
  (by
   rintro ⟨y, s⟩ ⟨i, rfl, hi, hc, hy⟩
   simp only at hc hy
   by_cases hil : i < m.length
   ·have hv : m[i]? = some m[i] := List.getElem?_eq_getElem hil
    have hm := om _ (List.getElem_mem hil)
    generalize m[i] = v at *
    obtain ⟨r, g1, g2, g3⟩ := insert_can (p := ⟨v.New, v.Old⟩) hc (fun q hq => by
     have := om _ (List.mem_of_mem_take ((hc.mem q).1 hq))
     exact ⟨this.2, this.1⟩) ⟨hm.2, hm.1⟩ (by omega)
    refine ⟨.next (r, ((i + 1 : Nat) : Int)), ?_, ⟨i + 1, rfl, hil, g2.congr fun q => ?_, by simp only; omega⟩, by simp only; omega⟩
    ·simp only [R24_Invert_L0, rd_nat, hv, Option.bind_some, g1]
     rw [if_pos (by omega), w64_succ (by omega)]
    ·rw [List.take_add_one, hv, List.mem_append]
     constructor
     ·rintro (h | rfl)
      ·exact .inl h
      ·exact .inr (by simp [sw])
     ·rintro (h | h)
      ·exact .inl h
      ·have h' : sw q = v := by simpa using h
       exact .inr (by rw [← h']; rfl)
   ·obtain rfl : i = m.length := by omega
    refine ⟨.jmp 0 (y, (m.length : Int)), ?_, ?_, hy⟩
    ·simp only [R24_Invert_L0]; rw [if_neg (by omega)]
    ·rw [List.take_length] at hc; exact hc)
  (([] : List Pair), (0 : Int)) ⟨0, rfl, by omega, ⟨List.Pairwise.nil, fun p => by simp⟩, Nat.le_refl _⟩
 unfold R24_Invert
 rw [h1]
 match o, h2 with
 | .jmp _ s, ⟨g1, g2⟩ => exact ⟨_, rfl, g1, g2⟩
theorem r_compose_can {m n : List Pair} (hm : m.length ≤ 60) (hn : n.length ≤ 60) (om : ∀ p ∈ m, okP p) (on : ∀ p ∈ n, okP p) : ∃ r, R24_Compose m n = some r ∧ Can r (SC m n) ∧ r.length ≤ m.length * n.length := by
 obtain ⟨o, h1, h2⟩ := iter_rule (step := R24_Compose_L0 m n) (fun s => ∃ i : Nat, s.2 = (i : Int) ∧ i ≤ m.length ∧ Can s.1 (SC (m.take i) n) ∧ s.1.length ≤ i * n.length) (fun s => (m.length : Int).toNat - s.2.toNat)
  (fun o => match o with | .jmp _ s => Can s.1 (SC m n) ∧ s.1.length ≤ m.length * n.length | _ => False)
  (by
   rintro ⟨y, s⟩ ⟨i, rfl, hi, hc, hy⟩
   simp only at hc hy
   by_cases hil : i < m.length
   ·have hv : m[i]? = some m[i] := List.getElem?_eq_getElem hil
    have hmv := List.getElem_mem hil
    generalize m[i] = v at *
    have hsq : i * n.length ≤ 60 * 60 := Nat.mul_le_mul (by omega) hn
    obtain ⟨o, k1, k2⟩ := iter_rule (step := R24_Compose_L1 m n (i : Int)) (fun s => ∃ j : Nat, s.2 = (j : Int) ∧ j ≤ n.length ∧ Can s.1 (fun p => SC (m.take i) n p ∨ (p.Old = v.Old ∧ (⟨v.New, p.New⟩ : Pair) ∈ n.take j)) ∧ s.1.length ≤ i * n.length + j) (fun s => (n.length : Int).toNat - s.2.toNat)
     (fun o => match o with | .jmp _ s => Can s.1 (fun p => SC (m.take i) n p ∨ (p.Old = v.Old ∧ (⟨v.New, p.New⟩ : Pair) ∈ n)) ∧ s.1.length ≤ i * n.length + n.length | _ => False)
     (by
      rintro ⟨z, s⟩ ⟨j, rfl, hj, hcz, hz⟩
      simp only at hcz hz
      have oz : ∀ q ∈ z, okP q := by
       intro q hq
       rcases (hcz.mem q).1 hq with h | ⟨h3, h4⟩
       ·exact h.ok (fun p hp => om p (List.mem_of_mem_take hp)) on
       ·exact ⟨h3 ▸ (om v hmv).1, (on _ (List.mem_of_mem_take h4)).2⟩
      by_cases hjl : j < n.length
      ·have hw : n[j]? = some n[j] := List.getElem?_eq_getElem hjl
       have hnw := List.getElem_mem hjl
       generalize n[j] = w at *
       by_cases he : v.New = w.Old
       ·obtain ⟨r, g1, g2, g3⟩ := insert_can (p := ⟨v.Old, w.New⟩) hcz oz ⟨(om v hmv).1, (on w hnw).2⟩ (by omega)
        refine ⟨.next (r, ((j + 1 : Nat) : Int)), ?_, ⟨j + 1, rfl, hjl, g2.congr fun q => ?_, by simp only; omega⟩, by simp only; omega⟩
        ·simp only [R24_Compose_L1, rd_nat, hv, hw, Option.bind_some]
         rw [if_pos (by omega), if_pos he, g1, Option.bind_some, w64_succ (by omega)]
        ·rw [List.take_add_one, hw, List.mem_append]
         constructor
         ·rintro ((h | ⟨h3, h4⟩) | rfl)
          ·exact .inl h
          ·exact .inr ⟨h3, .inl h4⟩
          ·exact .inr ⟨rfl, .inr (by rw [he]; simp)⟩
         ·rintro (h | ⟨h3, h4 | h4⟩)
          ·exact .inl (.inl h)
          ·exact .inl (.inr ⟨h3, h4⟩)
          ·have h5 : (⟨v.New, q.New⟩ : Pair) = w := by simpa using h4
           refine .inr ?_
           have : q.New = w.New := by rw [← h5]
           cases q; simp_all
       ·refine ⟨.next (z, ((j + 1 : Nat) : Int)), ?_, ⟨j + 1, rfl, hjl, hcz.congr fun q => ?_, by simp only; omega⟩, by simp only; omega⟩
        ·simp only [R24_Compose_L1, rd_nat, hv, hw, Option.bind_some]
         rw [if_pos (by omega), if_neg he, w64_succ (by omega)]
        ·rw [List.take_add_one, hw, List.mem_append]
         constructor
         ·rintro (h | ⟨h3, h4⟩)
          ·exact .inl h
          ·exact .inr ⟨h3, .inl h4⟩
         ·rintro (h | ⟨h3, h4 | h4⟩)
          ·exact .inl h
          ·exact .inr ⟨h3, h4⟩
          ·have h5 : (⟨v.New, q.New⟩ : Pair) = w := by simpa using h4
           exact absurd (by rw [← h5]) he
      ·obtain rfl : j = n.length := by omega
       refine ⟨.jmp 2 (z, (n.length : Int)), ?_, ?_, hz⟩
       ·simp only [R24_Compose_L1]; rw [if_neg (by omega)]
       ·rw [List.take_length] at hcz; exact hcz)
     (y, (0 : Int)) ⟨0, rfl, by omega, hc.congr fun q => by simp, by simp only; omega⟩
    match o, k2 with
    | .jmp nj s, ⟨k3, k4⟩ =>
     refine ⟨.next (s.1, ((i + 1 : Nat) : Int)), ?_, ⟨i + 1, rfl, hil, k3.congr fun q => ?_, by simp only; rw [Nat.succ_mul]; omega⟩, by simp only; omega⟩
     ·simp only [R24_Compose_L0]
      rw [if_pos (by omega), k1, Option.bind_some, w64_succ (by omega)]
     ·unfold SC
      rw [List.take_add_one, hv]
      constructor
      ·rintro (⟨x, h3, h4⟩ | ⟨h3, h4⟩)
       ·exact ⟨x, List.mem_append_left _ h3, h4⟩
       ·exact ⟨v.New, List.mem_append_right _ (by rw [h3]; simp), h4⟩
      ·rintro ⟨x, h3, h4⟩
       rcases List.mem_append.1 h3 with h3 | h3
       ·exact .inl ⟨x, h3, h4⟩
       ·have h5 : (⟨q.Old, x⟩ : Pair) = v := by simpa using h3
        refine .inr ⟨by rw [← h5], ?_⟩
        have : v.New = x := by rw [← h5]
        rw [this]; exact h4
   ·obtain rfl : i = m.length := by omega
    refine ⟨.jmp 0 (y, (m.length : Int)), ?_, ?_, hy⟩
    ·simp only [R24_Compose_L0]; rw [if_neg (by omega)]
    ·rw [List.take_length] at hc; exact hc)
  (([] : List Pair), (0 : Int)) ⟨0, rfl, by omega, ⟨List.Pairwise.nil, fun p => by simp [SC]⟩, by simp⟩
 unfold R24_Compose
 rw [h1]
 match o, h2 with
 | .jmp _ s, ⟨g1, g2⟩ => exact ⟨_, rfl, g1, g2⟩
theorem plain_combines (x0 : List Pair) (w0 : WfL 16 Wf_Pair x0) (x1 : List Pair) (w1 : WfL 16 Wf_Pair x1) : law24_MatchCombines x0 x1 = some true := by
 unfold law24_MatchCombines
 by_cases h0 : (60 : Int) < (x0.length : Int)
 ·rw [if_pos h0]; rfl
 rw [if_neg h0]
 by_cases h1 : (60 : Int) < (x1.length : Int)
 ·rw [if_pos h1]; rfl
 rw [if_neg h1]
 have o0 := wf_okP w0
 have o1 := wf_okP w1
 have b01 : x0.length * x1.length ≤ 60 * 60 := Nat.mul_le_mul (by omega) (by omega)
 obtain ⟨a, ha, ca, la⟩ := invert_can (m := x0) (by omega) o0
 obtain ⟨a', ha', ca', la'⟩ := r_invert_can (m := x0) (by omega) o0
 obtain ⟨b, hb, cb, lb⟩ := compose_can (m := x0) (n := x1) (by omega) (by omega) (by omega) o0 o1
 obtain ⟨b', hb', cb', lb'⟩ := r_compose_can (m := x0) (n := x1) (by omega) (by omega) o0 o1
 obtain rfl := can_unique ca ca'
 obtain rfl := can_unique cb cb'
 rw [ha, Option.bind_some, ha', Option.bind_some, same_refl a (by omega), Option.bind_some, if_pos rfl, hb, Option.bind_some, hb', Option.bind_some, same_refl b (by omega), Option.bind_some, if_pos rfl]
 rfl
end Xr

