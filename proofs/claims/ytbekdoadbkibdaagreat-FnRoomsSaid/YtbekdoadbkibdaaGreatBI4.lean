/- Plain laws. -/
import Derived.Test.YtbekdoadbkibdaaGreatAI4
set_option linter.unusedVariables false
set_option linter.unusedSimpArgs false
namespace Go.Vm
open Go
theorem RoomD.noZ {r : TRoom} (h : RoomD r) : NoZ r.1 := fun e he => by have := h.2.2 e he; omega
noncomputable def stateL (r : TRoom) : List TItem := (beforeL r (endsL r.1)).1
theorem endsL_length (r : TRoom) (h : RoomI r) : (endsL r.1).length ≤ 40 := by
  have := endStep_length r.1 r.1 []
  have := h.len
  unfold endsL; simp at *; omega
theorem stateL_length {r : TRoom} (h : RoomI r) : (stateL r).length ≤ 16 := beforeL_length h (by have := endsL_length r h; omega)
end Go.Vm
