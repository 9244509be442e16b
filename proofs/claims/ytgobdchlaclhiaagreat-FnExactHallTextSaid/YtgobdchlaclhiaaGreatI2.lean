/- Plain laws. -/
import Derived.Test.YtgobdchlaclhiaaGreatWm
set_option linter.unusedVariables false
set_option linter.unusedSimpArgs false
namespace Go.Vm
open Go
/-- Equal or not, whatever the type. -/
noncomputable def eqd {α : Type} (a b : α) : Bool := @decide (a = b) (Classical.propDecidable _)
theorem eqd_iff {α : Type} {a b : α} : eqd a b = true ↔ a = b := by unfold eqd; exact @decide_eq_true_iff _ (Classical.propDecidable _)
theorem eqd_of {α : Type} {a b : α} (h : a = b) : eqd a b = true := eqd_iff.2 h
theorem eqd_ne {α : Type} {a b : α} (h : a ≠ b) : eqd a b = false := by
  cases e : eqd a b with
  | false => rfl
  | true => exact absurd (eqd_iff.1 e) h
end Go.Vm
