/- Plain laws. -/
import Derived.Test.YtpcdgghbhgjgfaaWm
set_option linter.unusedVariables false
set_option linter.unusedSimpArgs false
namespace Go.Vm
open Go
end Go.Vm
