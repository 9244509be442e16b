/- A new hall: both functions make the same. -/
import Derived.Test.YtmmgjbjmmipobaaE2
set_option linter.unusedVariables false
namespace Go.Vm
open Go
def newH : THall := ([], ([], [], [], ()), [(1, 0, [], ()), (2, 0, [], ())], ())
theorem same_HallNew : ∃ v : THall, m_Hall v ≤ 1048576 ∧ Ev (fun k => s_HallNew k) v ∧ Ev (fun k => i_HallNew k) v := by
  refine ⟨newH, by decide, ⟨3, fun k hk => ?_⟩, ⟨3, fun k hk => ?_⟩⟩
  · obtain ⟨m, rfl⟩ : ∃ m, k = m + 3 := ⟨k - 3, by omega⟩
    rfl
  · obtain ⟨m, rfl⟩ : ∃ m, k = m + 3 := ⟨k - 3, by omega⟩
    rfl
end Go.Vm
