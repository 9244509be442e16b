/- Plain laws. -/
import Derived.Test.YtgobdchlaclhiaaGreatAI2
set_option linter.unusedVariables false
set_option linter.unusedSimpArgs false
namespace Go.Vm
open Go
theorem RoomD.noZ {r : TRoom} (h : RoomD r) : NoZ r.1 := fun e he => by have := h.2.2 e he; omega
end Go.Vm
