/- A part of the proof: O. No conditions of its own. -/
import Derived.Test.YtendihpeaajpmaaGreatDoorE4
import Derived.Test.YtendihpeaajpmaaGreatDoorP0
namespace Xr
open Go Go.Ev Go.Proofs
section
variable {w : World} {H : Type} {enc : TypeId × Value → H}
theorem open_3 : ∀ fuel, Opens enc Tryz.prog w fuel 3 (wfInt .i64) (fun x => [.v (.int .i64 x)]) := fun _ => Opens.int Tryz.underlying3
theorem open_43 : ∀ fuel, Opens enc Tryz.prog w fuel 43 (Wf_Pair) en_Pair := by
 intro fuel
 induction fuel using Nat.strongRecOn with
 | ind fuel ih =>
  cases fuel with
  | zero => exact Opens.zero
  | succ fuel =>
   refine Opens.struct Tryz.underlying43 (n := 1 + (1 + 0)) (wf := fun (x : Int × Int × Unit) => (wfInt .i64) x.1 ∧ ((wfInt .i64) x.2.1 ∧ True)) (e := fun (x : Int × Int × Unit) => ((fun x => [.v (.int .i64 x)])) x.1 ++ (((fun x => [.v (.int .i64 x)])) x.2.1 ++ [])) (by kernel_rfl) ?_ (fun x => (⟨x.1, x.2.1⟩ : Pair)) (fun x h => ⟨h.1, h.2.1⟩) (fun x => (en_Pair_eq _).trans rfl)
   refine OpensF.cons (wa := wfInt .i64) (ea := (fun x => [.v (.int .i64 x)])) (wb := fun (x : Int × Unit) => (wfInt .i64) x.1 ∧ True) (eb := fun (x : Int × Unit) => ((fun x => [.v (.int .i64 x)])) x.1 ++ []) ?_ ?_ ?_ ?_
   ·rfl
   ·kernel_rfl
   ·exact (open_3 fuel)
   refine OpensF.cons (wa := wfInt .i64) (ea := (fun x => [.v (.int .i64 x)])) (wb := fun (x : Unit) => True) (eb := fun (x : Unit) => []) ?_ ?_ ?_ ?_
   ·rfl
   ·kernel_rfl
   ·exact (open_3 fuel)
   exact OpensF.nil
theorem open_29 : ∀ fuel, Opens enc Tryz.prog w fuel 29 (WfL 16 Wf_Pair) (fun x => [.lst false x.length (x.flatMap en_Pair)]) := fun fuel => Opens.sliceLt Tryz.underlying29 (sz := 2) (b := 16) (by kernel_rfl) (by kernel_rfl) (by decide) fun f _ => open_43 f
theorem law6 (plain : ∀ (x0 : (List Pair)) (_ : WfL 16 Wf_Pair x0) (x1 : (List Pair)) (_ : WfL 16 Wf_Pair x1), law24_MatchCombines x0 x1 = some true) (x0 : (List Pair)) (w0 : WfL 16 Wf_Pair x0) (x1 : (List Pair)) (w1 : WfL 16 Wf_Pair x1) : callW Tryz.prog A0 6 ([.lst false x0.length (encL en_Pair x0), .lst false x1.length (encL en_Pair x1)].map .p) [] = some (bv true, []) := by
 simp only [List.map_cons, List.map_nil]
 exact f6_ok x0 x1 true (plain x0 w0 x1 w1)
end
end Xr

