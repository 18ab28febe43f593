/- What is asked of a program, as truth values that the kernel computes. -/
import Derived.Test.YtgjhagehbfhioaaEv23
set_option linter.unusedVariables false
namespace Go.Ev
def bodiesB (P : Program) (A : Ann) : Bool := P.funcs.toList.zipIdx.all fun (fn, f) => !A.okf f || match fn.body with | some c => codeOk A f c | none => true
theorem bodies_of {P : Program} {A : Ann} (h : bodiesB P A = true) : BodiesOk P A := by
  intro f fn c ho hf hb
  have h1 : (fn, f) ∈ P.funcs.toList.zipIdx := by
    rw [List.mem_zipIdx_iff_getElem?]
    simpa using hf
  have := List.all_eq_true.1 h _ h1
  simp only [ho, hb, Bool.not_true, Bool.false_or] at this
  exact this
def namesB (P : Program) : Bool := P.funcs.toList.all fun fn => !(fn.name == "runtime.NumGoroutine")
theorem names_of {P : Program} (h : namesB P = true) : Names P := by
  intro g fn hf
  have h1 : fn ∈ P.funcs.toList := by
    have := Array.mem_of_getElem? hf
    simpa using this
  have := List.all_eq_true.1 h _ h1
  simpa using this
end Go.Ev
