/- Plain laws. -/
import Derived.Test.YtbekdoadbkibdaaGreatAI3
set_option linter.unusedVariables false
set_option linter.unusedSimpArgs false
namespace Go.Vm
open Go
theorem RoomD.noZ {r : TRoom} (h : RoomD r) : NoZ r.1 := fun e he => by have := h.2.2 e he; omega
theorem drawNextEvent_re (a : List Int) (h : a.length ≤ 1048576) : Re (fun k => s_DrawNextEvent k a) (fun q => RoomD q.1 ∧ NextP q.1 90 q.2) :=
  new_re (l := fun k n v i => l0_s_DrawNextEvent k n a v i) (C := fun k c => (bd (s_l12Room k (a, 0, c, ()) a) fun r1 => (bd (s_l12Next k r1.2.1 r1.1 90) fun r2 => (some (r1.1, r2.1))))) a h (fun k n v1 v2 => rfl) (fun c hc => Re.b1 (l12Room_re _ hc a h) fun r hr => Re.b1 (l12Next_re _ hr.2 _ hr.1.1 90) fun r2 h2 => Re.ret ⟨hr.1, h2.1⟩) _
theorem endsL_length (r : TRoom) (h : RoomI r) : (endsL r.1).length ≤ 40 := by
  have := endStep_length r.1 r.1 []
  have := h.len
  unfold endsL; simp at *; omega
end Go.Vm
