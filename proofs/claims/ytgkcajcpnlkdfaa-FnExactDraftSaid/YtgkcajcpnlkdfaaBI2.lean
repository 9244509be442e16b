/- Plain laws. -/
import Derived.Test.YtgkcajcpnlkdfaaAI2
set_option linter.unusedVariables false
set_option linter.unusedSimpArgs false
namespace Go.Vm
open Go
end Go.Vm
