/- A part of the proof: M10. -/
import Derived.Test.YtgjhagehbfhioaaMA
namespace Mv
open Go Go.Ev Go.Proofs
set_option maxRecDepth 8000
/-- The examples of the chapter are as they should be. -/
theorem awakeN : callN Try.prog A0 200 10 [] [] = some (bv true, []) := by kernel_rfl
theorem awake_ok : callW Try.prog A0 10 [] [] = some (bv true, []) := callW_some.2 ⟨200, awakeN⟩
