/- Data: measures, copies, likeness. -/
import Derived.Test.YtpcdgghbhgjgfaaWm
import Derived.Test.YtpcdgghbhgjgfaaG3
set_option linter.unusedVariables false
set_option linter.unusedSimpArgs false
namespace Go.Vm
open Go
def m_IntS (x : List Int) : Nat := x.length
def W_IntS (x : List Int) : Prop := x.length ≤ 9223372036854775807
def m_Event (x : TEvent) : Nat := m_IntS x.2.2.2.2.2.1 + (x.2.2.2.2.2.2.1.size + (m_IntS x.2.2.2.2.2.2.2.1 + (0)))
def W_Event (x : TEvent) : Prop := W_IntS x.2.2.2.2.2.1 ∧ x.2.2.2.2.2.2.1.size ≤ 9223372036854775807 ∧ W_IntS x.2.2.2.2.2.2.2.1
end Go.Vm
