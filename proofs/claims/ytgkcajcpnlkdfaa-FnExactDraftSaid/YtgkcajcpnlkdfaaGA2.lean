/- Plain laws. -/
import Derived.Test.YtgkcajcpnlkdfaaC2
import Derived.Test.YtgkcajcpnlkdfaaZ2
set_option linter.unusedVariables false
set_option linter.unusedSimpArgs false
namespace Go.Vm
open Go
/-! ### What the program puts into a state -/
theorem StP.asc {s : List TItem} (h : StP s) : ∀ i j, i < j → j < s.length → (rd dTItem s i).1 < (rd dTItem s j).1 := by
  intro i j
  induction j with
  | zero => intro h1; omega
  | succ j ih =>
    intro h1 h2
    have := (h.2 (j + 1) h2).2.2 (by omega)
    rw [Nat.add_sub_cancel] at this
    by_cases q : i = j
    · rw [q]; exact this
    · have := ih (by omega) (by omega); omega
end Go.Vm
