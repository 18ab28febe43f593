/- A part of the proof: M9. -/
import Derived.Test.YtgjhagehbfhioaaM8
namespace Mv
open Go Go.Ev Go.Proofs
set_option linter.unusedSimpArgs false
set_option linter.unusedVariables false
/-! ### The plain law of Least -/
theorem filt_head {r : List Int} (hs : r.Pairwise (· < ·)) (i : Int) : (r.filter fun v => decide (i ≤ v)).head? = some i ↔ i ∈ r := by
  induction r with
  | nil => simp
  | cons x r ih =>
    obtain ⟨h1, h2⟩ := List.pairwise_cons.1 hs
    by_cases h : i ≤ x
    · rw [List.filter_cons_of_pos (by simpa using h)]
      simp only [List.head?_cons, Option.some.injEq, List.mem_cons]
      constructor
      · intro e; exact .inl e.symm
      · rintro (e | e)
        · exact e.symm
        · have := h1 i e; omega
    · rw [List.filter_cons_of_neg (by simpa using h), ih h2, List.mem_cons]
      constructor
      · exact .inr
      · rintro (e | e)
        · omega
        · exact e
theorem filt_same {r : List Int} {i : Int} (h : i ∉ r) : (r.filter fun v => decide (i ≤ v)) = r.filter fun v => decide (i + 1 ≤ v) := by
  apply List.filter_congr
  intro x hx
  have : x ≠ i := fun e => h (e ▸ hx)
  simp only [decide_eq_decide]
  omega
theorem filt_tail {r : List Int} (hs : r.Pairwise (· < ·)) {i : Int} (h : i ∈ r) : (r.filter fun v => decide (i ≤ v)).tail = r.filter fun v => decide (i + 1 ≤ v) := by
  induction r with
  | nil => simp at h
  | cons x r ih =>
    obtain ⟨h1, h2⟩ := List.pairwise_cons.1 hs
    rcases List.mem_cons.1 h with e | e
    · subst e
      rw [List.filter_cons_of_pos (by simp), List.tail_cons, List.filter_cons_of_neg (by simp; omega)]
      exact filt_same fun hm => by have := h1 i hm; omega
    · have := h1 i e
      rw [List.filter_cons_of_neg (by simp; omega), ih h2 e, List.filter_cons_of_neg (by simp; omega)]
theorem walk_eq {r : List Int} (hs : r.Pairwise (· < ·)) (h0 : ∀ v ∈ r, 0 ≤ v) : ∀ n, (walk r n).1 = (r.filter fun v => decide ((n : Int) ≤ v)) ∧ (walk r n).2 = outs r n
  | 0 => by
    refine ⟨?_, rfl⟩
    rw [walk]
    exact (List.filter_eq_self.2 fun v hv => by simpa using h0 v hv).symm
  | n + 1 => by
    obtain ⟨h1, h2⟩ := walk_eq hs h0 n
    have hc : ((n + 1 : Nat) : Int) = (n : Int) + 1 := by omega
    rw [walk, outs, h1, h2, hc]
    by_cases h : (n : Int) ∈ r
    · rw [if_pos ((filt_head hs _).2 h), if_pos h]
      exact ⟨filt_tail hs h, rfl⟩
    · rw [if_neg (fun e => h ((filt_head hs _).1 e)), if_neg h]
      exact ⟨filt_same h, rfl⟩
theorem takeUp_mem : ∀ (L : List (Int × Int)) (i : Nat) (m : Int) (last : Option Int) (v : Int), v ∈ takeUp L i m last → (i : Int) ≤ v ∧ v < i + L.length
  | [], i, m, last, v, h => by simp [takeUp] at h
  | (x, n) :: L, i, m, last, v, h => by
    rw [takeUp] at h
    simp only [List.length_cons]
    split at h
    · rcases List.mem_cons.1 h with e | e
      · omega
      · have := takeUp_mem L _ _ _ v e; omega
    · have := takeUp_mem L _ _ _ v h; omega
theorem takeUp_sorted : ∀ (L : List (Int × Int)) (i : Nat) (m : Int) (last : Option Int), (takeUp L i m last).Pairwise (· < ·)
  | [], i, m, last => by simp [takeUp]
  | (x, n) :: L, i, m, last => by
    rw [takeUp]
    split
    · refine List.pairwise_cons.2 ⟨fun v hv => ?_, takeUp_sorted L _ _ _⟩
      have := takeUp_mem L _ _ _ v hv; omega
    · exact takeUp_sorted L _ _ _
theorem takeUp_len : ∀ (L : List (Int × Int)) (i : Nat) (m : Int) (last : Option Int), (takeUp L i m last).length ≤ L.length
  | [], i, m, last => by simp [takeUp]
  | (x, n) :: L, i, m, last => by
    rw [takeUp]
    split
    · have := takeUp_len L (i + 1) (m - 1) (some x); simp only [List.length_cons]; omega
    · have := takeUp_len L (i + 1) m last; simp only [List.length_cons]; omega
theorem rising_len (l : List Int) : (rising l).length ≤ l.length := by
  have := takeUp_len (l.zip (lngs l)) 0 (mostOf (lngs l)) none
  simp only [List.length_zip, lngs_len] at this
  unfold rising; omega
theorem rising_sorted (l : List Int) : (rising l).Pairwise (· < ·) := takeUp_sorted _ _ _ _
theorem rising_mem {l : List Int} {v : Int} (h : v ∈ rising l) : 0 ≤ v ∧ v < l.length := by
  have := takeUp_mem _ _ _ _ v h
  simp only [List.length_zip, lngs_len] at this
  omega
/-- The program's Least gives what the reference's gives. -/
theorem least_same (l : List Int) : (walk (rising l) l.length).2 = outs (rising l) l.length := (walk_eq (rising_sorted l) (fun v hv => (rising_mem hv).1) l.length).2
