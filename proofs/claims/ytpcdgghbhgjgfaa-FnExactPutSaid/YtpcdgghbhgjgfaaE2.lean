/- Exact laws: out of both giving the same. -/
import Derived.Test.YtpcdgghbhgjgfaaD2
set_option linter.unusedVariables false
set_option linter.unusedSimpArgs false
namespace Go.Vm
open Go
theorem FnExactPut_ev (a0 : List TItem) (a1 : Int) (a2 : Int) (w0 : W_ItemS a0) (h : m_ItemS a0 ≤ 1048576 → ∃ v : List TItem, m_ItemS v ≤ 1048576 ∧ Ev (fun k => s_Put k a0 a1 a2) v ∧ Ev (fun k => i_Put k a0 a1 a2) v) : Ev (fun k => l_FnExactPut k a0 a1 a2) true := by
  unfold l_FnExactPut
  refine ex_sz (szItemS_ev a0 w0 (1048576) (by omega) (by omega)) (fun c0 => ?_)
  have c0 : m_ItemS a0 ≤ 1048576 := by omega
  obtain ⟨v, r0, hs, hi⟩ := h c0
  refine (toItemS_ev a0 c0).bd ?_
  refine hs.bd ?_
  refine (toItemS_ev a0 c0).bd ?_
  refine hi.bd ?_
  refine (eqItemS_ev v r0).bd ?_
  try simp
  refine (toItemS_ev a0 c0).bd ?_
  refine (eqItemS_ev a0 c0).bd ?_
  try simp
  have e_r9 : ct_ItemS (a0) = 2 * (a0).length := ctL_const _ _
  have f_r9 := c0
  unfold m_ItemS at f_r9
  try unfold m_Item at f_r9
  refine (markItemS_ev _ _ (by first | omega | (dsimp only; omega)) (by first | omega | (dsimp only; omega)) (by first | omega | (dsimp only; omega))).bd ?_
  refine .gd (lenB (mkL_length _ _ _ _)) ?_
  try simp
  refine (eqItemS_ev v r0).bd ?_
  try simp
  have e_r11 : ct_ItemS (v) = 2 * (v).length := ctL_const _ _
  have f_r11 := r0
  unfold m_ItemS at f_r11
  try unfold m_Item at f_r11
  refine (markItemS_ev _ _ (by first | omega | (dsimp only; omega)) (by first | omega | (dsimp only; omega)) (by first | omega | (dsimp only; omega))).bd ?_
  refine .gd (lenB (mkL_length _ _ _ _)) ?_
  refine (heldItemS_ev (v) _ (by omega) (by omega) (by first | assumption | omega)).bd ?_
  refine ex_neg (by omega) ?_
  refine ex_ne (by first | rfl | (simp [Int.add_assoc]; done) | omega) ?_
  refine (toItemS_ev a0 c0).bd ?_
  refine hi.bd ?_
  refine (eqItemS_ev v r0).bd ?_
  try simp
  refine (heldItemS_ev (v) _ (by omega) (by omega) (by first | assumption | omega)).bd ?_
  refine ex_neg (by omega) ?_
  refine ex_ne (by first | rfl | (simp [Int.add_assoc]; done) | omega) ?_
  exact .of fun _ => rfl
end Go.Vm
