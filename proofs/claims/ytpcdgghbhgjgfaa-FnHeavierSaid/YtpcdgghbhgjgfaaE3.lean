/- Exact laws: out of both giving the same. -/
import Derived.Test.YtpcdgghbhgjgfaaD3
set_option linter.unusedVariables false
set_option linter.unusedSimpArgs false
namespace Go.Vm
open Go

end Go.Vm
