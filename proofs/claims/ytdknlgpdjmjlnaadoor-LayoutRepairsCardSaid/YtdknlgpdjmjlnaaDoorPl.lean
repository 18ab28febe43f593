/- A part of the proof: Pl. No conditions of its own. -/
import Derived.Test.YtdknlgpdjmjlnaaDoorT
set_option linter.unusedVariables false
namespace Xr
open Go Go.Ev
theorem wf_ok : ∀ (n : Nat) (x : Node), size x < n → Wf_Node x → okN x
  | 0, x, h, _ => by omega
  | n + 1, x, h, w => by
    cases w with
    | mk y0 y1 y2 y3 h0 h1 h2 h3 h4 =>
      have hr : reachBytes = 140737488351232 := rfl
      simp only [okN]
      refine ⟨⟨by have := h2.1.2; omega, fun t ht => ?_⟩, by omega, all_oks _ fun k hk => ?_⟩
      · have : t.size ≤ maxLen := h2.2 t ht
        have hm : maxLen < 2 ^ 63 := by decide
        unfold okT; omega
      · obtain ⟨i, hi⟩ := List.mem_iff_getElem?.1 hk
        have := kid_lt (n := ⟨y0, y1, y2, y3⟩) hi
        exact wf_ok n k (by omega) (h4 k hk)
theorem awake_eq : law33_awake = some true := rfl
theorem small_eq (x : Node) : law33_small x = some (decide (0 ≤ leftV x 60 30)) := by
  unfold law33_small R06_Fits R06_leftS
  rw [if_pos (by omega)]
  rfl
theorem plain_repairs (x0 : Node) (w0 : Wf_Node x0) : law33_LayoutRepairs x0 = some true := by
  classical
  unfold law33_LayoutRepairs
  rw [small_eq, Option.bind_some, awake_eq]
  by_cases hs : 0 ≤ leftV x0 60 30
  case neg => rw [decide_eq_false hs, if_neg (by simp)]; rfl
  rw [decide_eq_true hs, if_pos rfl]
  have hz : (size x0 : Int) ≤ 60 := by
    unfold leftV at hs
    by_cases h : (size x0 : Int) ≤ 60 ∧ (height x0 : Int) ≤ 30
    · exact h.1
    · rw [if_neg h] at hs; omega
  have hok := wf_ok _ x0 (Nat.lt_succ_self _) w0
  have e1 : layout_Repair x0 = some (repV x0) := by
    unfold layout_Repair layout_mapped mappedS
    rw [if_pos ⟨hok, by omega, by omega, by omega⟩]
    rfl
  have e2 : R33_RepairS x0 = some (repV x0) := by
    unfold R33_RepairS
    rw [if_pos hok]
  have e3 : R06_EqualS (repV x0) (repV x0) = some true := by
    unfold R06_EqualS
    rw [if_pos (okN_rep x0 hok), decide_eq_true rfl]
  rw [e1, e2, Option.bind_some, Option.bind_some, e3]
  rfl
end Xr

