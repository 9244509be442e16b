/- Exact laws: out of both giving the same. -/
import Derived.Test.YtgobdchlaclhiaaGreatD2
set_option linter.unusedVariables false
set_option linter.unusedSimpArgs false
namespace Go.Vm
open Go
theorem FnExactHallText_ev (a0 : THall) (w0 : W_Hall a0) (h : m_Hall a0 ≤ 1048576 → ∃ v : ByteArray × Bool, Ev (fun k => s_HallText k a0) v ∧ Ev (fun k => i_HallText k a0) v) : Ev (fun k => l_FnExactHallText k a0) true := by
  unfold l_FnExactHallText
  refine ex_sz (szHall_ev a0 w0 (1048576) (by omega) (by omega)) (fun c0 => ?_)
  have c0 : m_Hall a0 ≤ 1048576 := by omega
  obtain ⟨v, hs, hi⟩ := h c0
  refine (toHall_ev a0 c0).bd ?_
  refine hs.bd ?_
  refine (toHall_ev a0 c0).bd ?_
  refine hi.bd ?_
  try simp
  try simp
  refine (toHall_ev a0 c0).bd ?_
  refine (eqHall_ev a0 c0).bd ?_
  try simp
  exact .of fun _ => rfl
end Go.Vm
