/- Exact laws: out of both giving the same. -/
import Derived.Test.YtnkkafeaaogffaaD2
set_option linter.unusedVariables false
set_option linter.unusedSimpArgs false
namespace Go.Vm
open Go
theorem FnExactReadCommand_ev (a0 : ByteArray) (h : a0.size ≤ 1048576 → ∃ v : TCommand × Bool, m_Command v.1 ≤ 1048576 ∧ Ev (fun k => s_ReadCommand k a0) v ∧ Ev (fun k => i_ReadCommand k a0) v) : Ev (fun k => l_FnExactReadCommand k a0) true := by
  unfold l_FnExactReadCommand
  refine ex_len (fun c0 => ?_)
  obtain ⟨v, r0, hs, hi⟩ := h c0
  refine hs.bd ?_
  refine hi.bd ?_
  refine (eqCommand_ev v.1 r0).bd ?_
  try simp
  try simp
  have e_r4 : ct_IntS (v.1.2.2.2.1.2.2.2.2.2.1) = 1 * (v.1.2.2.2.1.2.2.2.2.2.1).length := ctL_const _ _
  have f_r4 := r0
  unfold m_Command at f_r4
  try unfold m_Item at f_r4
  try unfold m_Hall at f_r4
  try unfold m_OutS at f_r4
  try unfold m_Out at f_r4
  try unfold m_SessionS at f_r4
  try unfold m_Session at f_r4
  try unfold m_Room at f_r4
  try unfold m_BoolS at f_r4
  try unfold m_EventS at f_r4
  try unfold m_ItemSS at f_r4
  try unfold m_ItemS at f_r4
  try unfold m_Event at f_r4
  try unfold m_IntS at f_r4
  refine (markIntS_ev _ _ (by first | omega | (dsimp only; omega)) (by first | omega | (dsimp only; omega)) (by first | omega | (dsimp only; omega))).bd ?_
  refine .gd (lenB (mkL_length _ _ _ _)) ?_
  have e_r5 : ct_IntS (v.1.2.2.2.1.2.2.2.2.2.2.2.1) = 1 * (v.1.2.2.2.1.2.2.2.2.2.2.2.1).length := ctL_const _ _
  have f_r5 := r0
  unfold m_Command at f_r5
  try unfold m_Item at f_r5
  try unfold m_Hall at f_r5
  try unfold m_OutS at f_r5
  try unfold m_Out at f_r5
  try unfold m_SessionS at f_r5
  try unfold m_Session at f_r5
  try unfold m_Room at f_r5
  try unfold m_BoolS at f_r5
  try unfold m_EventS at f_r5
  try unfold m_ItemSS at f_r5
  try unfold m_ItemS at f_r5
  try unfold m_Event at f_r5
  try unfold m_IntS at f_r5
  refine (markIntS_ev _ _ (by first | omega | (dsimp only; omega)) (by first | omega | (dsimp only; omega)) (by first | omega | (dsimp only; omega))).bd ?_
  refine .gd (lenB (mkL_length _ _ _ _)) ?_
  refine (heldCommand_ev (v.1) _ (by omega) (by omega) (by first | assumption | omega)).bd ?_
  refine ex_neg (by omega) ?_
  refine ex_ne (by first | rfl | (simp [Int.add_assoc]; done) | omega) ?_
  refine hi.bd ?_
  refine (eqCommand_ev v.1 r0).bd ?_
  try simp
  try simp
  refine (heldCommand_ev (v.1) _ (by omega) (by omega) (by first | assumption | omega)).bd ?_
  refine ex_neg (by omega) ?_
  refine ex_ne (by first | rfl | (simp [Int.add_assoc]; done) | omega) ?_
  exact .of fun _ => rfl
theorem FnExactSameHall_ev (a0 : THall) (a1 : THall) (w0 : W_Hall a0) (w1 : W_Hall a1) (h : m_Hall a0 ≤ 1048576 → m_Hall a1 ≤ 1048576 → ∃ v : Bool, Ev (fun k => s_SameHall k a0 a1) v ∧ Ev (fun k => i_SameHall k a0 a1) v) : Ev (fun k => l_FnExactSameHall k a0 a1) true := by
  unfold l_FnExactSameHall
  refine ex_sz (szHall_ev a0 w0 (1048576) (by omega) (by omega)) (fun c0 => ?_)
  have c0 : m_Hall a0 ≤ 1048576 := by omega
  refine ex_sz (szHall_ev a1 w1 (1048576 - (m_Hall a0 : Int)) (by omega) (by omega)) (fun c1 => ?_)
  have c1 : m_Hall a1 ≤ 1048576 := by omega
  obtain ⟨v, hs, hi⟩ := h c0 c1
  refine (toHall_ev a0 c0).bd ?_
  refine (toHall_ev a1 c1).bd ?_
  refine hs.bd ?_
  refine (toHall_ev a0 c0).bd ?_
  refine (toHall_ev a1 c1).bd ?_
  refine hi.bd ?_
  try simp
  refine (toHall_ev a0 c0).bd ?_
  refine (eqHall_ev a0 c0).bd ?_
  try simp
  refine (toHall_ev a1 c1).bd ?_
  refine (eqHall_ev a1 c1).bd ?_
  try simp
  exact .of fun _ => rfl
end Go.Vm
