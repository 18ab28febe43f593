/- A part of the proof: O. No conditions of its own. -/
import Derived.Test.YtdknlgpdjmjlnaaDoorE4
import Derived.Test.YtdknlgpdjmjlnaaDoorP0
namespace Xl
open Go Go.Ev Go.Proofs
section
variable {w : World} {H : Type} {enc : TypeId × Value → H}
theorem open_9 : ∀ fuel, Opens enc Tryd.prog w fuel 9 (wfStr) (fun x => [.v (.string x)]) := fun _ => Opens.string Tryd.underlying9
theorem open_22 : ∀ fuel, Opens enc Tryd.prog w fuel 22 (WfL 16 wfStr) (fun x => [.lst false x.length (x.flatMap (fun x => [.v (.string x)]))]) := fun fuel => Opens.sliceLt Tryd.underlying22 (sz := 1) (b := 16) (by kernel_rfl) (by kernel_rfl) (by decide) fun f _ => open_9 f
theorem law6 (plain : ∀ (x0 : (List ByteArray)) (_ : WfL 16 wfStr x0) (x1 : (List ByteArray)) (_ : WfL 16 wfStr x1) (x2 : (List ByteArray)) (_ : WfL 16 wfStr x2) (x3 : Int) (_ : wfInt .i64 x3), law33_LayoutKeeps x0 x1 x2 x3 = some true) (x0 : (List ByteArray)) (w0 : WfL 16 wfStr x0) (x1 : (List ByteArray)) (w1 : WfL 16 wfStr x1) (x2 : (List ByteArray)) (w2 : WfL 16 wfStr x2) (x3 : Int) (w3 : wfInt .i64 x3) : callW Tryd.prog A0 6 ([.lst false x0.length (encL en_str x0), .lst false x1.length (encL en_str x1), .lst false x2.length (encL en_str x2), .v (.int .i64 x3)].map .p) [] = some (bv true, []) := by
  simp only [List.map_cons, List.map_nil]
  exact f6_ok x0 x1 x2 x3 true (plain x0 w0 x1 w1 x2 w2 x3 w3)
end
end Xl

