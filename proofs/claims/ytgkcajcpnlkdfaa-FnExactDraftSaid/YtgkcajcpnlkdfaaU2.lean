/- Plain laws. -/
import Derived.Test.YtgkcajcpnlkdfaaP2
import Derived.Test.YtgkcajcpnlkdfaaI2
import Derived.Test.YtgkcajcpnlkdfaaWm
set_option linter.unusedVariables false
set_option linter.unusedSimpArgs false
namespace Go.Vm
open Go
theorem Re.some {ι R : Type} [Fuel ι] {v w : R} (h : v = w) : Re (fun _ : ι => some v) (fun a => a = w) := Re.ret h
end Go.Vm
