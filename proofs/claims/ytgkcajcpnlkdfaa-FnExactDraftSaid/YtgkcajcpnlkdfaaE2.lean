/- Exact laws: out of both giving the same. -/
import Derived.Test.YtgkcajcpnlkdfaaD2
set_option linter.unusedVariables false
set_option linter.unusedSimpArgs false
namespace Go.Vm
open Go
theorem FnExactKnown_ev (a0 : List TEvent) (a1 : Int) (w0 : W_EventS a0) (h : m_EventS a0 ≤ 1048576 → ∃ v : TEvent × Bool, m_Event v.1 ≤ 1048576 ∧ Ev (fun k => s_Known k a0 a1) v ∧ Ev (fun k => i_Known k a0 a1) v) : Ev (fun k => l_FnExactKnown k a0 a1) true := by
  unfold l_FnExactKnown
  refine ex_sz (szEventS_ev a0 w0 (1048576) (by omega) (by omega)) (fun c0 => ?_)
  have c0 : m_EventS a0 ≤ 1048576 := by omega
  obtain ⟨v, r0, hs, hi⟩ := h c0
  refine (toEventS_ev a0 c0).bd ?_
  refine hs.bd ?_
  refine (toEventS_ev a0 c0).bd ?_
  refine hi.bd ?_
  refine (eqEvent_ev v.1 r0).bd ?_
  try simp
  try simp
  refine (toEventS_ev a0 c0).bd ?_
  refine (eqEventS_ev a0 c0).bd ?_
  try simp
  have f_r9 := ctle_EventS ((a0) : List TEvent)
  refine (mrkEventS_ev _ _ (by omega) (by omega) (by omega)).bd ?_
  refine .gd (lenB (mkL_length _ _ _ _)) ?_
  try simp
  refine (eqEvent_ev v.1 r0).bd ?_
  try simp
  try simp
  have f_r11 := ctle_IntS ((v.1.2.2.2.2.2.1) : List Int)
  have g_r11 := r0
  unfold m_Event at g_r11
  refine (mrkIntS_ev _ _ (by omega) (by omega) (by omega)).bd ?_
  refine .gd (lenB (mkL_length _ _ _ _)) ?_
  have f_r12 := ctle_IntS ((v.1.2.2.2.2.2.2.2.1) : List Int)
  refine (mrkIntS_ev _ _ (by omega) (by omega) (by omega)).bd ?_
  refine .gd (lenB (mkL_length _ _ _ _)) ?_
  refine (heldEvent_ev (v.1) _ (by omega) (by omega) (by first | assumption | omega)).bd ?_
  refine ex_neg (by omega) ?_
  refine ex_ne (by first | rfl | (simp [Int.add_assoc]; done) | omega) ?_
  refine (toEventS_ev a0 c0).bd ?_
  refine hi.bd ?_
  refine (eqEvent_ev v.1 r0).bd ?_
  try simp
  try simp
  refine (heldEvent_ev (v.1) _ (by omega) (by omega) (by first | assumption | omega)).bd ?_
  refine ex_neg (by omega) ?_
  refine ex_ne (by first | rfl | (simp [Int.add_assoc]; done) | omega) ?_
  exact .of fun _ => rfl
theorem FnExactSaid_ev (a0 : TRoom) (w0 : W_Room a0) (h : m_Room a0 ≤ 1048576 → ∃ v : List ByteArray, m_StringS v ≤ 1048576 ∧ Ev (fun k => s_Said k a0) v ∧ Ev (fun k => i_Said k a0) v) : Ev (fun k => l_FnExactSaid k a0) true := by
  unfold l_FnExactSaid
  refine ex_sz (szRoom_ev a0 w0 (1048576) (by omega) (by omega)) (fun c0 => ?_)
  have c0 : m_Room a0 ≤ 1048576 := by omega
  obtain ⟨v, r0, hs, hi⟩ := h c0
  refine (toRoom_ev a0 c0).bd ?_
  refine hs.bd ?_
  refine (toRoom_ev a0 c0).bd ?_
  refine hi.bd ?_
  refine (eqStringS_ev v r0).bd ?_
  try simp
  refine (toRoom_ev a0 c0).bd ?_
  refine (eqRoom_ev a0 c0).bd ?_
  try simp
  have f_r9 := ctle_EventS ((a0.1) : List TEvent)
  have g_r9 := c0
  unfold m_Room at g_r9
  refine (mrkEventS_ev _ _ (by omega) (by omega) (by omega)).bd ?_
  refine .gd (lenB (mkL_length _ _ _ _)) ?_
  have f_r10 := ctle_ItemSS ((a0.2.1) : List (List TItem))
  refine (mrkItemSS_ev _ _ (by omega) (by omega) (by omega)).bd ?_
  refine .gd (lenB (mkL_length _ _ _ _)) ?_
  have f_r11 := ctle_BoolS ((a0.2.2.1) : List Bool)
  refine (mrkBoolS_ev _ _ (by omega) (by omega) (by omega)).bd ?_
  refine .gd (lenB (mkL_length _ _ _ _)) ?_
  try simp
  refine (eqStringS_ev v r0).bd ?_
  try simp
  have f_r13 := ctle_StringS ((v) : List ByteArray)
  refine (mrkStringS_ev _ _ (by omega) (by omega) (by omega)).bd ?_
  refine .gd (lenB (mkL_length _ _ _ _)) ?_
  refine (hldStringS_ev (v) _ (by omega) (by omega) (by first | assumption | omega)).bd ?_
  refine ex_neg (by omega) ?_
  refine ex_ne (by first | rfl | (simp [Int.add_assoc]; done) | omega) ?_
  refine (toRoom_ev a0 c0).bd ?_
  refine hi.bd ?_
  refine (eqStringS_ev v r0).bd ?_
  try simp
  refine (hldStringS_ev (v) _ (by omega) (by omega) (by first | assumption | omega)).bd ?_
  refine ex_neg (by omega) ?_
  refine ex_ne (by first | rfl | (simp [Int.add_assoc]; done) | omega) ?_
  exact .of fun _ => rfl
theorem FnExactAgreed_ev (a0 : List (List TItem)) (w0 : W_ItemSS a0) (h : m_ItemSS a0 ≤ 1048576 → ∃ v : List TItem, m_ItemS v ≤ 1048576 ∧ Ev (fun k => s_Agreed k a0) v ∧ Ev (fun k => i_Agreed k a0) v) : Ev (fun k => l_FnExactAgreed k a0) true := by
  unfold l_FnExactAgreed
  refine ex_sz (szItemSS_ev a0 w0 (1048576) (by omega) (by omega)) (fun c0 => ?_)
  have c0 : m_ItemSS a0 ≤ 1048576 := by omega
  obtain ⟨v, r0, hs, hi⟩ := h c0
  refine (toItemSS_ev a0 c0).bd ?_
  refine hs.bd ?_
  refine (toItemSS_ev a0 c0).bd ?_
  refine hi.bd ?_
  refine (eqItemS_ev v r0).bd ?_
  try simp
  refine (toItemSS_ev a0 c0).bd ?_
  refine (eqItemSS_ev a0 c0).bd ?_
  try simp
  have f_r9 := ctle_ItemSS ((a0) : List (List TItem))
  refine (mrkItemSS_ev _ _ (by omega) (by omega) (by omega)).bd ?_
  refine .gd (lenB (mkL_length _ _ _ _)) ?_
  try simp
  refine (eqItemS_ev v r0).bd ?_
  try simp
  have f_r11 := ctle_ItemS ((v) : List TItem)
  refine (mrkItemS_ev _ _ (by omega) (by omega) (by omega)).bd ?_
  refine .gd (lenB (mkL_length _ _ _ _)) ?_
  refine (hldItemS_ev (v) _ (by omega) (by omega) (by first | assumption | omega)).bd ?_
  refine ex_neg (by omega) ?_
  refine ex_ne (by first | rfl | (simp [Int.add_assoc]; done) | omega) ?_
  refine (toItemSS_ev a0 c0).bd ?_
  refine hi.bd ?_
  refine (eqItemS_ev v r0).bd ?_
  try simp
  refine (hldItemS_ev (v) _ (by omega) (by omega) (by first | assumption | omega)).bd ?_
  refine ex_neg (by omega) ?_
  refine ex_ne (by first | rfl | (simp [Int.add_assoc]; done) | omega) ?_
  exact .of fun _ => rfl
theorem FnExactClash_ev (a0 : List (List TItem)) (w0 : W_ItemSS a0) (h : m_ItemSS a0 ≤ 1048576 → ∃ v : List Int, m_IntS v ≤ 1048576 ∧ Ev (fun k => s_Clash k a0) v ∧ Ev (fun k => i_Clash k a0) v) : Ev (fun k => l_FnExactClash k a0) true := by
  unfold l_FnExactClash
  refine ex_sz (szItemSS_ev a0 w0 (1048576) (by omega) (by omega)) (fun c0 => ?_)
  have c0 : m_ItemSS a0 ≤ 1048576 := by omega
  obtain ⟨v, r0, hs, hi⟩ := h c0
  refine (toItemSS_ev a0 c0).bd ?_
  refine hs.bd ?_
  refine (toItemSS_ev a0 c0).bd ?_
  refine hi.bd ?_
  refine (eqIntS_ev v r0).bd ?_
  try simp
  refine (toItemSS_ev a0 c0).bd ?_
  refine (eqItemSS_ev a0 c0).bd ?_
  try simp
  have f_r9 := ctle_ItemSS ((a0) : List (List TItem))
  refine (mrkItemSS_ev _ _ (by omega) (by omega) (by omega)).bd ?_
  refine .gd (lenB (mkL_length _ _ _ _)) ?_
  try simp
  refine (eqIntS_ev v r0).bd ?_
  try simp
  have f_r11 := ctle_IntS ((v) : List Int)
  refine (mrkIntS_ev _ _ (by omega) (by omega) (by omega)).bd ?_
  refine .gd (lenB (mkL_length _ _ _ _)) ?_
  refine (hldIntS_ev (v) _ (by omega) (by omega) (by first | assumption | omega)).bd ?_
  refine ex_neg (by omega) ?_
  refine ex_ne (by first | rfl | (simp [Int.add_assoc]; done) | omega) ?_
  refine (toItemSS_ev a0 c0).bd ?_
  refine hi.bd ?_
  refine (eqIntS_ev v r0).bd ?_
  try simp
  refine (hldIntS_ev (v) _ (by omega) (by omega) (by first | assumption | omega)).bd ?_
  refine ex_neg (by omega) ?_
  refine ex_ne (by first | rfl | (simp [Int.add_assoc]; done) | omega) ?_
  exact .of fun _ => rfl
theorem FnExactAuthOf_ev (a0 : List TEvent) (a1 : List TItem) (a2 : TEvent) (w0 : W_EventS a0) (w1 : W_ItemS a1) (w2 : W_Event a2) (h : m_EventS a0 ≤ 1048576 → m_ItemS a1 ≤ 1048576 → m_Event a2 ≤ 1048576 → m_EventS a0 + m_ItemS a1 + m_Event a2 ≤ 1048576 → ∃ v : List Int, m_IntS v ≤ 1048576 ∧ Ev (fun k => s_AuthOf k a0 a1 a2) v ∧ Ev (fun k => i_AuthOf k a0 a1 a2) v) : Ev (fun k => l_FnExactAuthOf k a0 a1 a2) true := by
  unfold l_FnExactAuthOf
  refine ex_sz (szEventS_ev a0 w0 (1048576) (by omega) (by omega)) (fun c0 => ?_)
  have c0 : m_EventS a0 ≤ 1048576 := by omega
  refine ex_sz (szItemS_ev a1 w1 (1048576 - (m_EventS a0 : Int)) (by omega) (by omega)) (fun c1 => ?_)
  have c1 : m_ItemS a1 ≤ 1048576 := by omega
  refine ex_sz (szEvent_ev a2 w2 (1048576 - (m_EventS a0 : Int) - (m_ItemS a1 : Int)) (by omega) (by omega)) (fun c2 => ?_)
  have c2 : m_Event a2 ≤ 1048576 := by omega
  have cs : m_EventS a0 + m_ItemS a1 + m_Event a2 ≤ 1048576 := by omega
  obtain ⟨v, r0, hs, hi⟩ := h c0 c1 c2 cs
  refine (toEventS_ev a0 c0).bd ?_
  refine (toItemS_ev a1 c1).bd ?_
  refine (toEvent_ev a2 c2).bd ?_
  refine hs.bd ?_
  refine (toEventS_ev a0 c0).bd ?_
  refine (toItemS_ev a1 c1).bd ?_
  refine (toEvent_ev a2 c2).bd ?_
  refine hi.bd ?_
  refine (eqIntS_ev v r0).bd ?_
  try simp
  refine (toEventS_ev a0 c0).bd ?_
  refine (eqEventS_ev a0 c0).bd ?_
  try simp
  refine (toItemS_ev a1 c1).bd ?_
  refine (eqItemS_ev a1 c1).bd ?_
  try simp
  refine (toEvent_ev a2 c2).bd ?_
  refine (eqEvent_ev a2 c2).bd ?_
  try simp
  have f_r19 := ctle_EventS ((a0) : List TEvent)
  refine (mrkEventS_ev _ _ (by omega) (by omega) (by omega)).bd ?_
  refine .gd (lenB (mkL_length _ _ _ _)) ?_
  have f_r20 := ctle_ItemS ((a1) : List TItem)
  refine (mrkItemS_ev _ _ (by omega) (by omega) (by omega)).bd ?_
  refine .gd (lenB (mkL_length _ _ _ _)) ?_
  have f_r21 := ctle_IntS ((a2.2.2.2.2.2.1) : List Int)
  have g_r21 := c2
  unfold m_Event at g_r21
  refine (mrkIntS_ev _ _ (by omega) (by omega) (by omega)).bd ?_
  refine .gd (lenB (mkL_length _ _ _ _)) ?_
  have f_r22 := ctle_IntS ((a2.2.2.2.2.2.2.2.1) : List Int)
  refine (mrkIntS_ev _ _ (by omega) (by omega) (by omega)).bd ?_
  refine .gd (lenB (mkL_length _ _ _ _)) ?_
  try simp
  refine (eqIntS_ev v r0).bd ?_
  try simp
  have f_r24 := ctle_IntS ((v) : List Int)
  refine (mrkIntS_ev _ _ (by omega) (by omega) (by omega)).bd ?_
  refine .gd (lenB (mkL_length _ _ _ _)) ?_
  refine (hldIntS_ev (v) _ (by omega) (by omega) (by first | assumption | omega)).bd ?_
  refine ex_neg (by omega) ?_
  refine ex_ne (by first | rfl | (simp [Int.add_assoc]; done) | omega) ?_
  refine (toEventS_ev a0 c0).bd ?_
  refine (toItemS_ev a1 c1).bd ?_
  refine (toEvent_ev a2 c2).bd ?_
  refine hi.bd ?_
  refine (eqIntS_ev v r0).bd ?_
  try simp
  refine (hldIntS_ev (v) _ (by omega) (by omega) (by first | assumption | omega)).bd ?_
  refine ex_neg (by omega) ?_
  refine ex_ne (by first | rfl | (simp [Int.add_assoc]; done) | omega) ?_
  exact .of fun _ => rfl
theorem FnExactEndsOf_ev (a0 : TRoom) (w0 : W_Room a0) (h : m_Room a0 ≤ 1048576 → ∃ v : List Int, m_IntS v ≤ 1048576 ∧ Ev (fun k => s_EndsOf k a0) v ∧ Ev (fun k => i_EndsOf k a0) v) : Ev (fun k => l_FnExactEndsOf k a0) true := by
  unfold l_FnExactEndsOf
  refine ex_sz (szRoom_ev a0 w0 (1048576) (by omega) (by omega)) (fun c0 => ?_)
  have c0 : m_Room a0 ≤ 1048576 := by omega
  obtain ⟨v, r0, hs, hi⟩ := h c0
  refine (toRoom_ev a0 c0).bd ?_
  refine hs.bd ?_
  refine (toRoom_ev a0 c0).bd ?_
  refine hi.bd ?_
  refine (eqIntS_ev v r0).bd ?_
  try simp
  refine (toRoom_ev a0 c0).bd ?_
  refine (eqRoom_ev a0 c0).bd ?_
  try simp
  have f_r9 := ctle_EventS ((a0.1) : List TEvent)
  have g_r9 := c0
  unfold m_Room at g_r9
  refine (mrkEventS_ev _ _ (by omega) (by omega) (by omega)).bd ?_
  refine .gd (lenB (mkL_length _ _ _ _)) ?_
  have f_r10 := ctle_ItemSS ((a0.2.1) : List (List TItem))
  refine (mrkItemSS_ev _ _ (by omega) (by omega) (by omega)).bd ?_
  refine .gd (lenB (mkL_length _ _ _ _)) ?_
  have f_r11 := ctle_BoolS ((a0.2.2.1) : List Bool)
  refine (mrkBoolS_ev _ _ (by omega) (by omega) (by omega)).bd ?_
  refine .gd (lenB (mkL_length _ _ _ _)) ?_
  try simp
  refine (eqIntS_ev v r0).bd ?_
  try simp
  have f_r13 := ctle_IntS ((v) : List Int)
  refine (mrkIntS_ev _ _ (by omega) (by omega) (by omega)).bd ?_
  refine .gd (lenB (mkL_length _ _ _ _)) ?_
  refine (hldIntS_ev (v) _ (by omega) (by omega) (by first | assumption | omega)).bd ?_
  refine ex_neg (by omega) ?_
  refine ex_ne (by first | rfl | (simp [Int.add_assoc]; done) | omega) ?_
  refine (toRoom_ev a0 c0).bd ?_
  refine hi.bd ?_
  refine (eqIntS_ev v r0).bd ?_
  try simp
  refine (hldIntS_ev (v) _ (by omega) (by omega) (by first | assumption | omega)).bd ?_
  refine ex_neg (by omega) ?_
  refine ex_ne (by first | rfl | (simp [Int.add_assoc]; done) | omega) ?_
  exact .of fun _ => rfl
theorem FnExactDraft_ev (a0 : TRoom) (a1 : Int) (a2 : TEvent) (w0 : W_Room a0) (w2 : W_Event a2) (h : m_Room a0 ≤ 1048576 → m_Event a2 ≤ 1048576 → m_Room a0 + m_Event a2 ≤ 1048576 → ∃ v : TEvent, m_Event v ≤ 1048576 ∧ Ev (fun k => s_Draft k a0 a1 a2) v ∧ Ev (fun k => i_Draft k a0 a1 a2) v) : Ev (fun k => l_FnExactDraft k a0 a1 a2) true := by
  unfold l_FnExactDraft
  refine ex_sz (szRoom_ev a0 w0 (1048576) (by omega) (by omega)) (fun c0 => ?_)
  have c0 : m_Room a0 ≤ 1048576 := by omega
  refine ex_sz (szEvent_ev a2 w2 (1048576 - (m_Room a0 : Int)) (by omega) (by omega)) (fun c2 => ?_)
  have c2 : m_Event a2 ≤ 1048576 := by omega
  have cs : m_Room a0 + m_Event a2 ≤ 1048576 := by omega
  obtain ⟨v, r0, hs, hi⟩ := h c0 c2 cs
  refine (toRoom_ev a0 c0).bd ?_
  refine (toEvent_ev a2 c2).bd ?_
  refine hs.bd ?_
  refine (toRoom_ev a0 c0).bd ?_
  refine (toEvent_ev a2 c2).bd ?_
  refine hi.bd ?_
  refine (eqEvent_ev v r0).bd ?_
  try simp
  refine (toRoom_ev a0 c0).bd ?_
  refine (eqRoom_ev a0 c0).bd ?_
  try simp
  refine (toEvent_ev a2 c2).bd ?_
  refine (eqEvent_ev a2 c2).bd ?_
  try simp
  have f_r14 := ctle_EventS ((a0.1) : List TEvent)
  have g_r14 := c0
  unfold m_Room at g_r14
  refine (mrkEventS_ev _ _ (by omega) (by omega) (by omega)).bd ?_
  refine .gd (lenB (mkL_length _ _ _ _)) ?_
  have f_r15 := ctle_ItemSS ((a0.2.1) : List (List TItem))
  refine (mrkItemSS_ev _ _ (by omega) (by omega) (by omega)).bd ?_
  refine .gd (lenB (mkL_length _ _ _ _)) ?_
  have f_r16 := ctle_BoolS ((a0.2.2.1) : List Bool)
  refine (mrkBoolS_ev _ _ (by omega) (by omega) (by omega)).bd ?_
  refine .gd (lenB (mkL_length _ _ _ _)) ?_
  have f_r17 := ctle_IntS ((a2.2.2.2.2.2.1) : List Int)
  have g_r17 := c2
  unfold m_Event at g_r17
  refine (mrkIntS_ev _ _ (by omega) (by omega) (by omega)).bd ?_
  refine .gd (lenB (mkL_length _ _ _ _)) ?_
  have f_r18 := ctle_IntS ((a2.2.2.2.2.2.2.2.1) : List Int)
  refine (mrkIntS_ev _ _ (by omega) (by omega) (by omega)).bd ?_
  refine .gd (lenB (mkL_length _ _ _ _)) ?_
  try simp
  refine (eqEvent_ev v r0).bd ?_
  try simp
  have f_r20 := ctle_IntS ((v.2.2.2.2.2.1) : List Int)
  have g_r20 := r0
  unfold m_Event at g_r20
  refine (mrkIntS_ev _ _ (by omega) (by omega) (by omega)).bd ?_
  refine .gd (lenB (mkL_length _ _ _ _)) ?_
  have f_r21 := ctle_IntS ((v.2.2.2.2.2.2.2.1) : List Int)
  refine (mrkIntS_ev _ _ (by omega) (by omega) (by omega)).bd ?_
  refine .gd (lenB (mkL_length _ _ _ _)) ?_
  refine (heldEvent_ev (v) _ (by omega) (by omega) (by first | assumption | omega)).bd ?_
  refine ex_neg (by omega) ?_
  refine ex_ne (by first | rfl | (simp [Int.add_assoc]; done) | omega) ?_
  refine (toRoom_ev a0 c0).bd ?_
  refine (toEvent_ev a2 c2).bd ?_
  refine hi.bd ?_
  refine (eqEvent_ev v r0).bd ?_
  try simp
  refine (heldEvent_ev (v) _ (by omega) (by omega) (by first | assumption | omega)).bd ?_
  refine ex_neg (by omega) ?_
  refine ex_ne (by first | rfl | (simp [Int.add_assoc]; done) | omega) ?_
  exact .of fun _ => rfl
end Go.Vm
