/- Exact laws: out of both giving the same. -/
import Derived.Test.YtbekdoadbkibdaaGreatD5
set_option linter.unusedVariables false
set_option linter.unusedSimpArgs false
namespace Go.Vm
open Go
theorem FnExactRoomOk_ev (a0 : TRoom) (w0 : W_Room a0) (h : m_Room a0 ≤ 1048576 → ∃ v : Bool, Ev (fun k => s_RoomOk k a0) v ∧ Ev (fun k => i_RoomOk k a0) v) : Ev (fun k => l_FnExactRoomOk k a0) true := by
  unfold l_FnExactRoomOk
  refine ex_sz (szRoom_ev a0 w0 (1048576) (by omega) (by omega)) (fun c0 => ?_)
  have c0 : m_Room a0 ≤ 1048576 := by omega
  obtain ⟨v, hs, hi⟩ := h c0
  refine (toRoom_ev a0 c0).bd ?_
  refine hs.bd ?_
  refine (toRoom_ev a0 c0).bd ?_
  refine hi.bd ?_
  try simp
  refine (toRoom_ev a0 c0).bd ?_
  refine (eqRoom_ev a0 c0).bd ?_
  try simp
  exact .of fun _ => rfl
end Go.Vm
