/- Data: measures, copies, likeness. -/
import Derived.Test.YtgobdchlaclhiaaGreatWm
import Derived.Test.YtgobdchlaclhiaaGreatG2
set_option linter.unusedVariables false
set_option linter.unusedSimpArgs false
namespace Go.Vm
open Go
def m_Session (x : TSession) : Nat := x.2.2.1.size + (0)
def W_Session (x : TSession) : Prop := x.2.2.1.size ≤ 9223372036854775807
theorem szSession_ev (x : TSession) (w : W_Session x) (left : Int) (h0 : 0 ≤ left) (h1 : left ≤ 1048576) : Ev (fun k => l_szSession k x left) (lft (m_Session x) left) := by
  unfold l_szSession m_Session
  refine sz_in h0 h1 w (fun hc => ?_)
  rw [lft_sub h0 h1 w]
  have k0 : 0 ≤ left - (x.2.2.1.size : Int) := by omega
  have k1 : left - (x.2.2.1.size : Int) ≤ 1048576 := by omega
  generalize left - (x.2.2.1.size : Int) = left at *
  clear h0 h1; rename_i left0; clear hc; have h0 := k0; have h1 := k1; clear k0 k1
  exact sz_end h0
def m_SessionS (x : List TSession) : Nat := x.length + (x.map m_Session).sum
def W_SessionS (x : List TSession) : Prop := x.length ≤ 9223372036854775807 ∧ ∀ y ∈ x, W_Session y
theorem szSessionS_ev (x : List TSession) (w : W_SessionS x) (left : Int) (h0 : 0 ≤ left) (h1 : left ≤ 1048576) : Ev (fun k => l_szSessionS k x left) (lft (m_SessionS x) left) := szS_ev dTSession m_Session (fun k y q => l_szSession k y q) x w.1 (fun y hy q h0 h1 => szSession_ev y (w.2 y hy) q h0 h1) (fun k n q i => l0_l_szSessionS k n x q i) (fun _ _ _ _ => rfl) left h0 h1
def m_IntS (x : List Int) : Nat := x.length
def W_IntS (x : List Int) : Prop := x.length ≤ 9223372036854775807
theorem szIntS_ev (x : List Int) (w : W_IntS x) (left : Int) (h0 : 0 ≤ left) (h1 : left ≤ 1048576) : Ev (fun k => l_szIntS k x left) (lft (m_IntS x) left) := .of fun k => szS0 h0 h1 w
def m_Event (x : TEvent) : Nat := m_IntS x.2.2.2.2.2.1 + (x.2.2.2.2.2.2.1.size + (m_IntS x.2.2.2.2.2.2.2.1 + (0)))
def W_Event (x : TEvent) : Prop := W_IntS x.2.2.2.2.2.1 ∧ x.2.2.2.2.2.2.1.size ≤ 9223372036854775807 ∧ W_IntS x.2.2.2.2.2.2.2.1
theorem szEvent_ev (x : TEvent) (w : W_Event x) (left : Int) (h0 : 0 ≤ left) (h1 : left ≤ 1048576) : Ev (fun k => l_szEvent k x left) (lft (m_Event x) left) := by
  unfold l_szEvent m_Event
  refine sz_bd h0 (szIntS_ev x.2.2.2.2.2.1 w.1 left h0 h1) (fun left h0 h1 => ?_) h1
  refine sz_in h0 h1 w.2.1 (fun hc => ?_)
  rw [lft_sub h0 h1 w.2.1]
  have k0 : 0 ≤ left - (x.2.2.2.2.2.2.1.size : Int) := by omega
  have k1 : left - (x.2.2.2.2.2.2.1.size : Int) ≤ 1048576 := by omega
  generalize left - (x.2.2.2.2.2.2.1.size : Int) = left at *
  clear h0 h1; rename_i left0; clear hc; have h0 := k0; have h1 := k1; clear k0 k1
  refine sz_bd h0 (szIntS_ev x.2.2.2.2.2.2.2.1 w.2.2 left h0 h1) (fun left h0 h1 => ?_) h1
  exact sz_end h0
def m_EventS (x : List TEvent) : Nat := x.length + (x.map m_Event).sum
def W_EventS (x : List TEvent) : Prop := x.length ≤ 9223372036854775807 ∧ ∀ y ∈ x, W_Event y
theorem szEventS_ev (x : List TEvent) (w : W_EventS x) (left : Int) (h0 : 0 ≤ left) (h1 : left ≤ 1048576) : Ev (fun k => l_szEventS k x left) (lft (m_EventS x) left) := szS_ev dTEvent m_Event (fun k y q => l_szEvent k y q) x w.1 (fun y hy q h0 h1 => szEvent_ev y (w.2 y hy) q h0 h1) (fun k n q i => l0_l_szEventS k n x q i) (fun _ _ _ _ => rfl) left h0 h1
def m_ItemS (x : List TItem) : Nat := x.length
def W_ItemS (x : List TItem) : Prop := x.length ≤ 9223372036854775807
theorem szItemS_ev (x : List TItem) (w : W_ItemS x) (left : Int) (h0 : 0 ≤ left) (h1 : left ≤ 1048576) : Ev (fun k => l_szItemS k x left) (lft (m_ItemS x) left) := .of fun k => szS0 h0 h1 w
def m_ItemSS (x : List (List TItem)) : Nat := x.length + (x.map m_ItemS).sum
def W_ItemSS (x : List (List TItem)) : Prop := x.length ≤ 9223372036854775807 ∧ ∀ y ∈ x, W_ItemS y
theorem szItemSS_ev (x : List (List TItem)) (w : W_ItemSS x) (left : Int) (h0 : 0 ≤ left) (h1 : left ≤ 1048576) : Ev (fun k => l_szItemSS k x left) (lft (m_ItemSS x) left) := szS_ev [] m_ItemS (fun k y q => l_szItemS k y q) x w.1 (fun y hy q h0 h1 => szItemS_ev y (w.2 y hy) q h0 h1) (fun k n q i => l0_l_szItemSS k n x q i) (fun _ _ _ _ => rfl) left h0 h1
def m_BoolS (x : List Bool) : Nat := x.length
def W_BoolS (x : List Bool) : Prop := x.length ≤ 9223372036854775807
theorem szBoolS_ev (x : List Bool) (w : W_BoolS x) (left : Int) (h0 : 0 ≤ left) (h1 : left ≤ 1048576) : Ev (fun k => l_szBoolS k x left) (lft (m_BoolS x) left) := .of fun k => szS0 h0 h1 w
def m_Room (x : TRoom) : Nat := m_EventS x.1 + (m_ItemSS x.2.1 + (m_BoolS x.2.2.1 + (0)))
def W_Room (x : TRoom) : Prop := W_EventS x.1 ∧ W_ItemSS x.2.1 ∧ W_BoolS x.2.2.1
theorem szRoom_ev (x : TRoom) (w : W_Room x) (left : Int) (h0 : 0 ≤ left) (h1 : left ≤ 1048576) : Ev (fun k => l_szRoom k x left) (lft (m_Room x) left) := by
  unfold l_szRoom m_Room
  refine sz_bd h0 (szEventS_ev x.1 w.1 left h0 h1) (fun left h0 h1 => ?_) h1
  refine sz_bd h0 (szItemSS_ev x.2.1 w.2.1 left h0 h1) (fun left h0 h1 => ?_) h1
  refine sz_bd h0 (szBoolS_ev x.2.2.1 w.2.2 left h0 h1) (fun left h0 h1 => ?_) h1
  exact sz_end h0
def m_Out (x : TOut) : Nat := m_IntS x.2.2.1 + (0)
def W_Out (x : TOut) : Prop := W_IntS x.2.2.1
theorem szOut_ev (x : TOut) (w : W_Out x) (left : Int) (h0 : 0 ≤ left) (h1 : left ≤ 1048576) : Ev (fun k => l_szOut k x left) (lft (m_Out x) left) := by
  unfold l_szOut m_Out
  refine sz_bd h0 (szIntS_ev x.2.2.1 w left h0 h1) (fun left h0 h1 => ?_) h1
  exact sz_end h0
def m_OutS (x : List TOut) : Nat := x.length + (x.map m_Out).sum
def W_OutS (x : List TOut) : Prop := x.length ≤ 9223372036854775807 ∧ ∀ y ∈ x, W_Out y
theorem szOutS_ev (x : List TOut) (w : W_OutS x) (left : Int) (h0 : 0 ≤ left) (h1 : left ≤ 1048576) : Ev (fun k => l_szOutS k x left) (lft (m_OutS x) left) := szS_ev dTOut m_Out (fun k y q => l_szOut k y q) x w.1 (fun y hy q h0 h1 => szOut_ev y (w.2 y hy) q h0 h1) (fun k n q i => l0_l_szOutS k n x q i) (fun _ _ _ _ => rfl) left h0 h1
def m_Hall (x : THall) : Nat := m_SessionS x.1 + (m_Room x.2.1 + (m_OutS x.2.2.1 + (0)))
def W_Hall (x : THall) : Prop := W_SessionS x.1 ∧ W_Room x.2.1 ∧ W_OutS x.2.2.1
theorem szHall_ev (x : THall) (w : W_Hall x) (left : Int) (h0 : 0 ≤ left) (h1 : left ≤ 1048576) : Ev (fun k => l_szHall k x left) (lft (m_Hall x) left) := by
  unfold l_szHall m_Hall
  refine sz_bd h0 (szSessionS_ev x.1 w.1 left h0 h1) (fun left h0 h1 => ?_) h1
  refine sz_bd h0 (szRoom_ev x.2.1 w.2.1 left h0 h1) (fun left h0 h1 => ?_) h1
  refine sz_bd h0 (szOutS_ev x.2.2.1 w.2.2 left h0 h1) (fun left h0 h1 => ?_) h1
  exact sz_end h0
theorem toSession_ev (x : TSession) (h : m_Session x ≤ 1048576) : Ev (fun k => l_toSession k x) x := by
  unfold m_Session at h
  unfold l_toSession
  exact .of fun _ => rfl
theorem toSessionS_ev (x : List TSession) (h : m_SessionS x ≤ 1048576) : Ev (fun k => l_toSessionS k x) x := toS_ev dTSession (fun k y => l_toSession k y) x (by unfold m_SessionS at h; omega) (fun y hy => toSession_ev y (by have := mem_sum m_Session hy; unfold m_SessionS at h; omega)) (fun k n i ys => l0_l_toSessionS k n x i ys) (fun _ _ _ _ => rfl)
theorem toIntS_ev (x : List Int) (h : m_IntS x ≤ 1048576) : Ev (fun k => l_toIntS k x) x := toS_ev 0 (fun _ y => some y) x (by unfold m_IntS at h; omega) (fun y hy => .of fun _ => rfl) (fun k n i ys => l0_l_toIntS k n x i ys) (fun _ _ _ _ => rfl)
theorem toEvent_ev (x : TEvent) (h : m_Event x ≤ 1048576) : Ev (fun k => l_toEvent k x) x := by
  unfold m_Event at h
  unfold l_toEvent
  refine (toIntS_ev x.2.2.2.2.2.1 (by omega)).bd ?_
  refine (toIntS_ev x.2.2.2.2.2.2.2.1 (by omega)).bd ?_
  exact .of fun _ => rfl
theorem toEventS_ev (x : List TEvent) (h : m_EventS x ≤ 1048576) : Ev (fun k => l_toEventS k x) x := toS_ev dTEvent (fun k y => l_toEvent k y) x (by unfold m_EventS at h; omega) (fun y hy => toEvent_ev y (by have := mem_sum m_Event hy; unfold m_EventS at h; omega)) (fun k n i ys => l0_l_toEventS k n x i ys) (fun _ _ _ _ => rfl)
def m_Item (x : TItem) : Nat := 0
def W_Item (x : TItem) : Prop := True
theorem toItem_ev (x : TItem) (h : m_Item x ≤ 1048576) : Ev (fun k => l_toItem k x) x := by
  unfold m_Item at h
  unfold l_toItem
  exact .of fun _ => rfl
theorem toItemS_ev (x : List TItem) (h : m_ItemS x ≤ 1048576) : Ev (fun k => l_toItemS k x) x := toS_ev dTItem (fun k y => l_toItem k y) x (by unfold m_ItemS at h; omega) (fun y hy => toItem_ev y (by unfold m_Item; omega)) (fun k n i ys => l0_l_toItemS k n x i ys) (fun _ _ _ _ => rfl)
theorem toItemSS_ev (x : List (List TItem)) (h : m_ItemSS x ≤ 1048576) : Ev (fun k => l_toItemSS k x) x := toS_ev [] (fun k y => l_toItemS k y) x (by unfold m_ItemSS at h; omega) (fun y hy => toItemS_ev y (by have := mem_sum m_ItemS hy; unfold m_ItemSS at h; omega)) (fun k n i ys => l0_l_toItemSS k n x i ys) (fun _ _ _ _ => rfl)
theorem toBoolS_ev (x : List Bool) (h : m_BoolS x ≤ 1048576) : Ev (fun k => l_toBoolS k x) x := toS_ev false (fun _ y => some y) x (by unfold m_BoolS at h; omega) (fun y hy => .of fun _ => rfl) (fun k n i ys => l0_l_toBoolS k n x i ys) (fun _ _ _ _ => rfl)
theorem toRoom_ev (x : TRoom) (h : m_Room x ≤ 1048576) : Ev (fun k => l_toRoom k x) x := by
  unfold m_Room at h
  unfold l_toRoom
  refine (toEventS_ev x.1 (by omega)).bd ?_
  refine (toItemSS_ev x.2.1 (by omega)).bd ?_
  refine (toBoolS_ev x.2.2.1 (by omega)).bd ?_
  exact .of fun _ => rfl
theorem toOut_ev (x : TOut) (h : m_Out x ≤ 1048576) : Ev (fun k => l_toOut k x) x := by
  unfold m_Out at h
  unfold l_toOut
  refine (toIntS_ev x.2.2.1 (by omega)).bd ?_
  exact .of fun _ => rfl
theorem toOutS_ev (x : List TOut) (h : m_OutS x ≤ 1048576) : Ev (fun k => l_toOutS k x) x := toS_ev dTOut (fun k y => l_toOut k y) x (by unfold m_OutS at h; omega) (fun y hy => toOut_ev y (by have := mem_sum m_Out hy; unfold m_OutS at h; omega)) (fun k n i ys => l0_l_toOutS k n x i ys) (fun _ _ _ _ => rfl)
theorem toHall_ev (x : THall) (h : m_Hall x ≤ 1048576) : Ev (fun k => l_toHall k x) x := by
  unfold m_Hall at h
  unfold l_toHall
  refine (toSessionS_ev x.1 (by omega)).bd ?_
  refine (toRoom_ev x.2.1 (by omega)).bd ?_
  refine (toOutS_ev x.2.2.1 (by omega)).bd ?_
  exact .of fun _ => rfl
theorem eqSession_ev (x : TSession) (h : m_Session x ≤ 1048576) : Ev (fun k => l_eqSession k x x) true := by
  unfold m_Session at h
  unfold l_eqSession
  try simp
  exact .of fun _ => rfl
theorem eqSessionS_ev (x : List TSession) (h : m_SessionS x ≤ 1048576) : Ev (fun k => l_eqSessionS k x x) true := eqS_ev dTSession (fun k y z => l_eqSession k y z) x (by unfold m_SessionS at h; omega) (fun y hy => eqSession_ev y (by have := mem_sum m_Session hy; unfold m_SessionS at h; omega)) (fun k n i => l0_l_eqSessionS k n x x i) (fun _ _ _ => rfl)
theorem eqIntS_ev (x : List Int) (h : m_IntS x ≤ 1048576) : Ev (fun k => l_eqIntS k x x) true := eqS_self 0 x (by unfold m_IntS at h; omega) (fun k n i => l0_l_eqIntS k n x x i) (fun k n i h0 h1 => by simp [l0_l_eqIntS, b0_l_eqIntS, h0, h1])  (fun k n => by simp [l0_l_eqIntS, b0_l_eqIntS])
theorem eqEvent_ev (x : TEvent) (h : m_Event x ≤ 1048576) : Ev (fun k => l_eqEvent k x x) true := by
  unfold m_Event at h
  unfold l_eqEvent
  try simp
  refine (eqIntS_ev x.2.2.2.2.2.1 (by omega)).bd ?_
  try simp
  refine (eqIntS_ev x.2.2.2.2.2.2.2.1 (by omega)).bd ?_
  try simp
  exact .of fun _ => rfl
theorem eqEventS_ev (x : List TEvent) (h : m_EventS x ≤ 1048576) : Ev (fun k => l_eqEventS k x x) true := eqS_ev dTEvent (fun k y z => l_eqEvent k y z) x (by unfold m_EventS at h; omega) (fun y hy => eqEvent_ev y (by have := mem_sum m_Event hy; unfold m_EventS at h; omega)) (fun k n i => l0_l_eqEventS k n x x i) (fun _ _ _ => rfl)
theorem eqItem_ev (x : TItem) (h : m_Item x ≤ 1048576) : Ev (fun k => l_eqItem k x x) true := by
  unfold m_Item at h
  unfold l_eqItem
  try simp
  exact .of fun _ => rfl
theorem eqItemS_ev (x : List TItem) (h : m_ItemS x ≤ 1048576) : Ev (fun k => l_eqItemS k x x) true := eqS_ev dTItem (fun k y z => l_eqItem k y z) x (by unfold m_ItemS at h; omega) (fun y hy => eqItem_ev y (by unfold m_Item; omega)) (fun k n i => l0_l_eqItemS k n x x i) (fun _ _ _ => rfl)
theorem eqItemSS_ev (x : List (List TItem)) (h : m_ItemSS x ≤ 1048576) : Ev (fun k => l_eqItemSS k x x) true := eqS_ev [] (fun k y z => l_eqItemS k y z) x (by unfold m_ItemSS at h; omega) (fun y hy => eqItemS_ev y (by have := mem_sum m_ItemS hy; unfold m_ItemSS at h; omega)) (fun k n i => l0_l_eqItemSS k n x x i) (fun _ _ _ => rfl)
theorem eqBoolS_ev (x : List Bool) (h : m_BoolS x ≤ 1048576) : Ev (fun k => l_eqBoolS k x x) true := eqS_self false x (by unfold m_BoolS at h; omega) (fun k n i => l0_l_eqBoolS k n x x i) (fun k n i h0 h1 => by simp [l0_l_eqBoolS, b0_l_eqBoolS, h0, h1])  (fun k n => by simp [l0_l_eqBoolS, b0_l_eqBoolS])
theorem eqRoom_ev (x : TRoom) (h : m_Room x ≤ 1048576) : Ev (fun k => l_eqRoom k x x) true := by
  unfold m_Room at h
  unfold l_eqRoom
  try simp
  refine (eqEventS_ev x.1 (by omega)).bd ?_
  try simp
  refine (eqItemSS_ev x.2.1 (by omega)).bd ?_
  try simp
  refine (eqBoolS_ev x.2.2.1 (by omega)).bd ?_
  try simp
  exact .of fun _ => rfl
theorem eqOut_ev (x : TOut) (h : m_Out x ≤ 1048576) : Ev (fun k => l_eqOut k x x) true := by
  unfold m_Out at h
  unfold l_eqOut
  try simp
  refine (eqIntS_ev x.2.2.1 (by omega)).bd ?_
  try simp
  exact .of fun _ => rfl
theorem eqOutS_ev (x : List TOut) (h : m_OutS x ≤ 1048576) : Ev (fun k => l_eqOutS k x x) true := eqS_ev dTOut (fun k y z => l_eqOut k y z) x (by unfold m_OutS at h; omega) (fun y hy => eqOut_ev y (by have := mem_sum m_Out hy; unfold m_OutS at h; omega)) (fun k n i => l0_l_eqOutS k n x x i) (fun _ _ _ => rfl)
theorem eqHall_ev (x : THall) (h : m_Hall x ≤ 1048576) : Ev (fun k => l_eqHall k x x) true := by
  unfold m_Hall at h
  unfold l_eqHall
  try simp
  refine (eqSessionS_ev x.1 (by omega)).bd ?_
  try simp
  refine (eqRoom_ev x.2.1 (by omega)).bd ?_
  try simp
  refine (eqOutS_ev x.2.2.1 (by omega)).bd ?_
  try simp
  exact .of fun _ => rfl
end Go.Vm
