/- A part of the proof: MT. -/
import Derived.Test.YtgjhagehbfhioaaM12
namespace Mv
open Go Go.Ev Go.Proofs
/-! Openers of the seat's types. -/
section
variable {w : World} {H : Type} {enc : TypeId × Value → H}
theorem open_il : ∀ fuel, Opens enc Try.prog w fuel 38 (fun l : List Int => l.length ≤ maxLen ∧ ∀ x ∈ l, wfInt .i64 x) (fun l => [.lst false l.length (l.flatMap fun x => [.v (.int .i64 x)])])
  | 0 => Opens.zero
  | fuel + 1 => Opens.slice Try.underlying38 (sz := 1) (by kernel_rfl) (by decide) (Opens.int Try.underlying3)
end
theorem ints_flat (l : List Int) : (l.flatMap fun x => [Pv.v (.int .i64 x)]) = ints l := by
  induction l with
  | nil => rfl
  | cons x l ih => simp only [List.flatMap_cons, ih, ints, List.map_cons]; rfl
theorem law4 (l : List Int) (_ : l.length ≤ maxLen ∧ ∀ x ∈ l, wfInt .i64 x) : callW Try.prog A0 4 ([Pv.lst false l.length (l.flatMap fun x => [.v (.int .i64 x)])].map .p) [] = some (bv true, []) := by
  have := f4_ok l
  rw [ints_flat]
  exact this
theorem law5 (l : List Int) (_ : l.length ≤ maxLen ∧ ∀ x ∈ l, wfInt .i64 x) : callW Try.prog A0 5 ([Pv.lst false l.length (l.flatMap fun x => [.v (.int .i64 x)])].map .p) [] = some (bv true, []) := by
  have := f5_ok l
  rw [ints_flat]
  exact this
