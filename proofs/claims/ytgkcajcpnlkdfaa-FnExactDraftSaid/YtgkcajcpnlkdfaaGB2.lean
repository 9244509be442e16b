/- Plain laws. -/
import Derived.Test.YtgkcajcpnlkdfaaBI2
set_option linter.unusedVariables false
set_option linter.unusedSimpArgs false
namespace Go.Vm
open Go
/-! ### Drawn lists and states -/
end Go.Vm
