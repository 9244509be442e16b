/- Plain laws. -/
import Derived.Test.YtgkcajcpnlkdfaaKA2
set_option linter.unusedVariables false
set_option linter.unusedSimpArgs false
namespace Go.Vm
open Go
/-! ### Right halls -/
theorem i_isGood_eq (r : TRoom) (i : Nat) (k : Nat) : i_isGood k r (i : Int) = some (rd false r.2.2.1 i) := by
  unfold i_isGood
  by_cases q2 : (i : Int) < (r.2.2.1.length : Int)
  · rw [decide_eq_true q2, decide_eq_true (by omega)]
    simp [Int.toNat_natCast]
  · rw [decide_eq_false q2]
    have : rd false r.2.2.1 i = false := by simp [rd, List.getElem?_eq_none (show r.2.2.1.length ≤ i by omega)]
    rw [this]; rfl
end Go.Vm
