/- Exact laws: out of both giving the same. -/
import Derived.Test.YtdpbokpmionoeaaD2
set_option linter.unusedVariables false
set_option linter.unusedSimpArgs false
namespace Go.Vm
open Go
theorem FnExactAt_ev (a0 : List TItem) (a1 : Int) (w0 : W_ItemS a0) (h : m_ItemS a0 ≤ 1048576 → ∃ v : Int, Ev (fun k => s_At k a0 a1) v ∧ Ev (fun k => i_At k a0 a1) v) : Ev (fun k => l_FnExactAt k a0 a1) true := by
  unfold l_FnExactAt
  refine ex_sz (szItemS_ev a0 w0 (1048576) (by omega) (by omega)) (fun c0 => ?_)
  have c0 : m_ItemS a0 ≤ 1048576 := by omega
  obtain ⟨v, hs, hi⟩ := h c0
  refine (toItemS_ev a0 c0).bd ?_
  refine hs.bd ?_
  refine (toItemS_ev a0 c0).bd ?_
  refine hi.bd ?_
  try simp
  refine (toItemS_ev a0 c0).bd ?_
  refine (eqItemS_ev a0 c0).bd ?_
  try simp
  exact .of fun _ => rfl
theorem FnExactStateOk_ev (a0 : List TItem) (w0 : W_ItemS a0) (h : m_ItemS a0 ≤ 1048576 → ∃ v : Bool, Ev (fun k => s_StateOk k a0) v ∧ Ev (fun k => i_StateOk k a0) v) : Ev (fun k => l_FnExactStateOk k a0) true := by
  unfold l_FnExactStateOk
  refine ex_sz (szItemS_ev a0 w0 (1048576) (by omega) (by omega)) (fun c0 => ?_)
  have c0 : m_ItemS a0 ≤ 1048576 := by omega
  obtain ⟨v, hs, hi⟩ := h c0
  refine (toItemS_ev a0 c0).bd ?_
  refine hs.bd ?_
  refine (toItemS_ev a0 c0).bd ?_
  refine hi.bd ?_
  try simp
  refine (toItemS_ev a0 c0).bd ?_
  refine (eqItemS_ev a0 c0).bd ?_
  try simp
  exact .of fun _ => rfl
theorem FnExactEventOk_ev (a0 : TEvent) (w0 : W_Event a0) (h : m_Event a0 ≤ 1048576 → ∃ v : Bool, Ev (fun k => s_EventOk k a0) v ∧ Ev (fun k => i_EventOk k a0) v) : Ev (fun k => l_FnExactEventOk k a0) true := by
  unfold l_FnExactEventOk
  refine ex_sz (szEvent_ev a0 w0 (1048576) (by omega) (by omega)) (fun c0 => ?_)
  have c0 : m_Event a0 ≤ 1048576 := by omega
  obtain ⟨v, hs, hi⟩ := h c0
  refine (toEvent_ev a0 c0).bd ?_
  refine hs.bd ?_
  refine (toEvent_ev a0 c0).bd ?_
  refine hi.bd ?_
  try simp
  refine (toEvent_ev a0 c0).bd ?_
  refine (eqEvent_ev a0 c0).bd ?_
  try simp
  exact .of fun _ => rfl
theorem FnExactEventText_ev (a0 : TEvent) (w0 : W_Event a0) (h : m_Event a0 ≤ 1048576 → ∃ v : ByteArray × Bool, Ev (fun k => s_EventText k a0) v ∧ Ev (fun k => i_EventText k a0) v) : Ev (fun k => l_FnExactEventText k a0) true := by
  unfold l_FnExactEventText
  refine ex_sz (szEvent_ev a0 w0 (1048576) (by omega) (by omega)) (fun c0 => ?_)
  have c0 : m_Event a0 ≤ 1048576 := by omega
  obtain ⟨v, hs, hi⟩ := h c0
  refine (toEvent_ev a0 c0).bd ?_
  refine hs.bd ?_
  refine (toEvent_ev a0 c0).bd ?_
  refine hi.bd ?_
  try simp
  try simp
  refine (toEvent_ev a0 c0).bd ?_
  refine (eqEvent_ev a0 c0).bd ?_
  try simp
  exact .of fun _ => rfl
theorem FnExactCommandOk_ev (a0 : TCommand) (w0 : W_Command a0) (h : m_Command a0 ≤ 1048576 → ∃ v : Bool, Ev (fun k => s_CommandOk k a0) v ∧ Ev (fun k => i_CommandOk k a0) v) : Ev (fun k => l_FnExactCommandOk k a0) true := by
  unfold l_FnExactCommandOk
  refine ex_sz (szCommand_ev a0 w0 (1048576) (by omega) (by omega)) (fun c0 => ?_)
  have c0 : m_Command a0 ≤ 1048576 := by omega
  obtain ⟨v, hs, hi⟩ := h c0
  refine (toCommand_ev a0 c0).bd ?_
  refine hs.bd ?_
  refine (toCommand_ev a0 c0).bd ?_
  refine hi.bd ?_
  try simp
  refine (toCommand_ev a0 c0).bd ?_
  refine (eqCommand_ev a0 c0).bd ?_
  try simp
  exact .of fun _ => rfl
theorem FnExactDepthOf_ev (a0 : TRoom) (a1 : List Int) (w0 : W_Room a0) (h : m_Room a0 ≤ 1048576 → m_IntS a1 ≤ 1048576 → ∃ v : Int, Ev (fun k => s_DepthOf k a0 a1) v ∧ Ev (fun k => i_DepthOf k a0 a1) v) : Ev (fun k => l_FnExactDepthOf k a0 a1) true := by
  unfold l_FnExactDepthOf
  refine ex_len (fun c1 => ?_)
  refine ex_sz (szRoom_ev a0 w0 (1048576) (by omega) (by omega)) (fun c0 => ?_)
  have c0 : m_Room a0 ≤ 1048576 := by omega
  obtain ⟨v, hs, hi⟩ := h c0 c1
  refine (toRoom_ev a0 c0).bd ?_
  refine (toIntS_ev a1 c1).bd ?_
  refine hs.bd ?_
  refine (toRoom_ev a0 c0).bd ?_
  refine (toIntS_ev a1 c1).bd ?_
  refine hi.bd ?_
  try simp
  refine (toRoom_ev a0 c0).bd ?_
  refine (eqRoom_ev a0 c0).bd ?_
  try simp
  refine (toIntS_ev a1 c1).bd ?_
  refine (eqIntS_ev a1 c1).bd ?_
  try simp
  exact .of fun _ => rfl
theorem FnExactReadEvent_ev (a0 : ByteArray) (h : a0.size ≤ 1048576 → ∃ v : TEvent × Bool, m_Event v.1 ≤ 1048576 ∧ Ev (fun k => s_ReadEvent k a0) v ∧ Ev (fun k => i_ReadEvent k a0) v) : Ev (fun k => l_FnExactReadEvent k a0) true := by
  unfold l_FnExactReadEvent
  refine ex_len (fun c0 => ?_)
  obtain ⟨v, r0, hs, hi⟩ := h c0
  refine hs.bd ?_
  refine hi.bd ?_
  refine (eqEvent_ev v.1 r0).bd ?_
  try simp
  try simp
  have e_r4 : ct_IntS (v.1.2.2.2.2.2.1) = 1 * (v.1.2.2.2.2.2.1).length := ctL_const _ _
  have f_r4 := r0
  unfold m_Event at f_r4
  try unfold m_IntS at f_r4
  refine (markIntS_ev _ _ (by first | omega | (dsimp only; omega)) (by first | omega | (dsimp only; omega)) (by first | omega | (dsimp only; omega))).bd ?_
  refine .gd (lenB (mkL_length _ _ _ _)) ?_
  have e_r5 : ct_IntS (v.1.2.2.2.2.2.2.2.1) = 1 * (v.1.2.2.2.2.2.2.2.1).length := ctL_const _ _
  have f_r5 := r0
  unfold m_Event at f_r5
  try unfold m_IntS at f_r5
  refine (markIntS_ev _ _ (by first | omega | (dsimp only; omega)) (by first | omega | (dsimp only; omega)) (by first | omega | (dsimp only; omega))).bd ?_
  refine .gd (lenB (mkL_length _ _ _ _)) ?_
  refine (heldEvent_ev (v.1) _ (by omega) (by omega) (by first | assumption | omega)).bd ?_
  refine ex_neg (by omega) ?_
  refine ex_ne (by first | rfl | (simp [Int.add_assoc]; done) | omega) ?_
  refine hi.bd ?_
  refine (eqEvent_ev v.1 r0).bd ?_
  try simp
  try simp
  refine (heldEvent_ev (v.1) _ (by omega) (by omega) (by first | assumption | omega)).bd ?_
  refine ex_neg (by omega) ?_
  refine ex_ne (by first | rfl | (simp [Int.add_assoc]; done) | omega) ?_
  exact .of fun _ => rfl
theorem FnExactCommandText_ev (a0 : TCommand) (w0 : W_Command a0) (h : m_Command a0 ≤ 1048576 → ∃ v : ByteArray × Bool, Ev (fun k => s_CommandText k a0) v ∧ Ev (fun k => i_CommandText k a0) v) : Ev (fun k => l_FnExactCommandText k a0) true := by
  unfold l_FnExactCommandText
  refine ex_sz (szCommand_ev a0 w0 (1048576) (by omega) (by omega)) (fun c0 => ?_)
  have c0 : m_Command a0 ≤ 1048576 := by omega
  obtain ⟨v, hs, hi⟩ := h c0
  refine (toCommand_ev a0 c0).bd ?_
  refine hs.bd ?_
  refine (toCommand_ev a0 c0).bd ?_
  refine hi.bd ?_
  try simp
  try simp
  refine (toCommand_ev a0 c0).bd ?_
  refine (eqCommand_ev a0 c0).bd ?_
  try simp
  exact .of fun _ => rfl
end Go.Vm
