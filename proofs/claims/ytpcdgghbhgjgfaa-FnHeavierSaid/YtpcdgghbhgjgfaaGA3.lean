/- Plain laws. -/
import Derived.Test.YtpcdgghbhgjgfaaC3
import Derived.Test.YtpcdgghbhgjgfaaZ3
set_option linter.unusedVariables false
set_option linter.unusedSimpArgs false
namespace Go.Vm
open Go
/-! ### What the program puts into a state -/
end Go.Vm
