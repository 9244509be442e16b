/- Exact laws: out of both giving the same. -/
import Derived.Test.YtmmgjbjmmipobaaD2
set_option linter.unusedVariables false
set_option linter.unusedSimpArgs false
namespace Go.Vm
open Go
theorem FnExactHallNew_ev (h : ∃ v : THall, m_Hall v ≤ 1048576 ∧ Ev (fun k => s_HallNew k) v ∧ Ev (fun k => i_HallNew k) v) : Ev (fun k => l_FnExactHallNew k) true := by
  unfold l_FnExactHallNew
  obtain ⟨v, r0, hs, hi⟩ := h 
  refine hs.bd ?_
  refine hi.bd ?_
  refine (eqHall_ev v r0).bd ?_
  try simp
  have f_r4 := ctle_SessionS ((v.1) : List TSession)
  have g_r4 := r0
  unfold m_Hall m_Room at g_r4
  refine (mrkSessionS_ev _ _ (by omega) (by omega) (by omega)).bd ?_
  refine .gd (lenB (mkL_length _ _ _ _)) ?_
  have f_r5 := ctle_EventS ((v.2.1.1) : List TEvent)
  refine (mrkEventS_ev _ _ (by omega) (by omega) (by omega)).bd ?_
  refine .gd (lenB (mkL_length _ _ _ _)) ?_
  have f_r6 := ctle_ItemSS ((v.2.1.2.1) : List (List TItem))
  refine (mrkItemSS_ev _ _ (by omega) (by omega) (by omega)).bd ?_
  refine .gd (lenB (mkL_length _ _ _ _)) ?_
  have f_r7 := ctle_BoolS ((v.2.1.2.2.1) : List Bool)
  refine (mrkBoolS_ev _ _ (by omega) (by omega) (by omega)).bd ?_
  refine .gd (lenB (mkL_length _ _ _ _)) ?_
  have f_r8 := ctle_OutS ((v.2.2.1) : List TOut)
  refine (mrkOutS_ev _ _ (by omega) (by omega) (by omega)).bd ?_
  refine .gd (lenB (mkL_length _ _ _ _)) ?_
  refine (Ev.congr (heldHall_ev (v) 1 (by omega) (by omega) (by first | assumption | omega)) (fun n => by simp [mk_Hall, mk_Room, ct_Room, Int.natCast_add, Int.add_assoc])).bd ?_
  refine ex_neg (by omega) ?_
  refine ex_ne (by first | rfl | (simp [Int.add_assoc]; done) | omega) ?_
  refine hi.bd ?_
  refine (eqHall_ev v r0).bd ?_
  try simp
  refine (Ev.congr (heldHall_ev (v) 1 (by omega) (by omega) (by first | assumption | omega)) (fun n => by simp [mk_Hall, mk_Room, ct_Room, Int.natCast_add, Int.add_assoc])).bd ?_
  refine ex_neg (by omega) ?_
  refine ex_ne (by first | rfl | (simp [Int.add_assoc]; done) | omega) ?_
  exact .of fun _ => rfl
end Go.Vm
