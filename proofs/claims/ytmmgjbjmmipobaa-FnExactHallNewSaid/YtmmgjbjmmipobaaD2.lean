/- Data: measures, copies, likeness. -/
import Derived.Test.YtmmgjbjmmipobaaWm
import Derived.Test.YtmmgjbjmmipobaaG2
set_option linter.unusedVariables false
set_option linter.unusedSimpArgs false
namespace Go.Vm
open Go
def m_Session (x : TSession) : Nat := x.2.2.1.size + (0)
def W_Session (x : TSession) : Prop := x.2.2.1.size ≤ 9223372036854775807
theorem eqSession_ev (x : TSession) (h : m_Session x ≤ 1048576) : Ev (fun k => l_eqSession k x x) true := by
  unfold m_Session at h
  unfold l_eqSession
  try simp
  exact .of fun _ => rfl
def m_SessionS (x : List TSession) : Nat := x.length + (x.map m_Session).sum
def W_SessionS (x : List TSession) : Prop := x.length ≤ 9223372036854775807 ∧ ∀ y ∈ x, W_Session y
theorem eqSessionS_ev (x : List TSession) (h : m_SessionS x ≤ 1048576) : Ev (fun k => l_eqSessionS k x x) true := eqS_ev dTSession (fun k y z => l_eqSession k y z) x (by unfold m_SessionS at h; omega) (fun y hy => eqSession_ev y (by have := mem_sum m_Session hy; unfold m_SessionS at h; omega)) (fun k n i => l0_l_eqSessionS k n x x i) (fun _ _ _ => rfl)
def m_IntS (x : List Int) : Nat := x.length
def W_IntS (x : List Int) : Prop := x.length ≤ 9223372036854775807
theorem eqIntS_ev (x : List Int) (h : m_IntS x ≤ 1048576) : Ev (fun k => l_eqIntS k x x) true := eqS_self 0 x (by unfold m_IntS at h; omega) (fun k n i => l0_l_eqIntS k n x x i) (fun k n i h0 h1 => by simp [l0_l_eqIntS, b0_l_eqIntS, h0, h1])  (fun k n => by simp [l0_l_eqIntS, b0_l_eqIntS])
def m_Event (x : TEvent) : Nat := m_IntS x.2.2.2.2.2.1 + (x.2.2.2.2.2.2.1.size + (m_IntS x.2.2.2.2.2.2.2.1 + (0)))
def W_Event (x : TEvent) : Prop := W_IntS x.2.2.2.2.2.1 ∧ x.2.2.2.2.2.2.1.size ≤ 9223372036854775807 ∧ W_IntS x.2.2.2.2.2.2.2.1
theorem eqEvent_ev (x : TEvent) (h : m_Event x ≤ 1048576) : Ev (fun k => l_eqEvent k x x) true := by
  unfold m_Event at h
  unfold l_eqEvent
  try simp
  refine (eqIntS_ev x.2.2.2.2.2.1 (by omega)).bd ?_
  try simp
  refine (eqIntS_ev x.2.2.2.2.2.2.2.1 (by omega)).bd ?_
  try simp
  exact .of fun _ => rfl
def m_EventS (x : List TEvent) : Nat := x.length + (x.map m_Event).sum
def W_EventS (x : List TEvent) : Prop := x.length ≤ 9223372036854775807 ∧ ∀ y ∈ x, W_Event y
theorem eqEventS_ev (x : List TEvent) (h : m_EventS x ≤ 1048576) : Ev (fun k => l_eqEventS k x x) true := eqS_ev dTEvent (fun k y z => l_eqEvent k y z) x (by unfold m_EventS at h; omega) (fun y hy => eqEvent_ev y (by have := mem_sum m_Event hy; unfold m_EventS at h; omega)) (fun k n i => l0_l_eqEventS k n x x i) (fun _ _ _ => rfl)
def m_Item (x : TItem) : Nat := 0
def W_Item (x : TItem) : Prop := True
theorem eqItem_ev (x : TItem) (h : m_Item x ≤ 1048576) : Ev (fun k => l_eqItem k x x) true := by
  unfold m_Item at h
  unfold l_eqItem
  try simp
  exact .of fun _ => rfl
def m_ItemS (x : List TItem) : Nat := x.length
def W_ItemS (x : List TItem) : Prop := x.length ≤ 9223372036854775807
theorem eqItemS_ev (x : List TItem) (h : m_ItemS x ≤ 1048576) : Ev (fun k => l_eqItemS k x x) true := eqS_ev dTItem (fun k y z => l_eqItem k y z) x (by unfold m_ItemS at h; omega) (fun y hy => eqItem_ev y (by unfold m_Item; omega)) (fun k n i => l0_l_eqItemS k n x x i) (fun _ _ _ => rfl)
def m_ItemSS (x : List (List TItem)) : Nat := x.length + (x.map m_ItemS).sum
def W_ItemSS (x : List (List TItem)) : Prop := x.length ≤ 9223372036854775807 ∧ ∀ y ∈ x, W_ItemS y
theorem eqItemSS_ev (x : List (List TItem)) (h : m_ItemSS x ≤ 1048576) : Ev (fun k => l_eqItemSS k x x) true := eqS_ev [] (fun k y z => l_eqItemS k y z) x (by unfold m_ItemSS at h; omega) (fun y hy => eqItemS_ev y (by have := mem_sum m_ItemS hy; unfold m_ItemSS at h; omega)) (fun k n i => l0_l_eqItemSS k n x x i) (fun _ _ _ => rfl)
def m_BoolS (x : List Bool) : Nat := x.length
def W_BoolS (x : List Bool) : Prop := x.length ≤ 9223372036854775807
theorem eqBoolS_ev (x : List Bool) (h : m_BoolS x ≤ 1048576) : Ev (fun k => l_eqBoolS k x x) true := eqS_self false x (by unfold m_BoolS at h; omega) (fun k n i => l0_l_eqBoolS k n x x i) (fun k n i h0 h1 => by simp [l0_l_eqBoolS, b0_l_eqBoolS, h0, h1])  (fun k n => by simp [l0_l_eqBoolS, b0_l_eqBoolS])
def m_Room (x : TRoom) : Nat := m_EventS x.1 + (m_ItemSS x.2.1 + (m_BoolS x.2.2.1 + (0)))
def W_Room (x : TRoom) : Prop := W_EventS x.1 ∧ W_ItemSS x.2.1 ∧ W_BoolS x.2.2.1
theorem eqRoom_ev (x : TRoom) (h : m_Room x ≤ 1048576) : Ev (fun k => l_eqRoom k x x) true := by
  unfold m_Room at h
  unfold l_eqRoom
  try simp
  refine (eqEventS_ev x.1 (by omega)).bd ?_
  try simp
  refine (eqItemSS_ev x.2.1 (by omega)).bd ?_
  try simp
  refine (eqBoolS_ev x.2.2.1 (by omega)).bd ?_
  try simp
  exact .of fun _ => rfl
def m_Out (x : TOut) : Nat := m_IntS x.2.2.1 + (0)
def W_Out (x : TOut) : Prop := W_IntS x.2.2.1
theorem eqOut_ev (x : TOut) (h : m_Out x ≤ 1048576) : Ev (fun k => l_eqOut k x x) true := by
  unfold m_Out at h
  unfold l_eqOut
  try simp
  refine (eqIntS_ev x.2.2.1 (by omega)).bd ?_
  try simp
  exact .of fun _ => rfl
def m_OutS (x : List TOut) : Nat := x.length + (x.map m_Out).sum
def W_OutS (x : List TOut) : Prop := x.length ≤ 9223372036854775807 ∧ ∀ y ∈ x, W_Out y
theorem eqOutS_ev (x : List TOut) (h : m_OutS x ≤ 1048576) : Ev (fun k => l_eqOutS k x x) true := eqS_ev dTOut (fun k y z => l_eqOut k y z) x (by unfold m_OutS at h; omega) (fun y hy => eqOut_ev y (by have := mem_sum m_Out hy; unfold m_OutS at h; omega)) (fun k n i => l0_l_eqOutS k n x x i) (fun _ _ _ => rfl)
def m_Hall (x : THall) : Nat := m_SessionS x.1 + (m_Room x.2.1 + (m_OutS x.2.2.1 + (0)))
def W_Hall (x : THall) : Prop := W_SessionS x.1 ∧ W_Room x.2.1 ∧ W_OutS x.2.2.1
theorem eqHall_ev (x : THall) (h : m_Hall x ≤ 1048576) : Ev (fun k => l_eqHall k x x) true := by
  unfold m_Hall at h
  unfold l_eqHall
  try simp
  refine (eqSessionS_ev x.1 (by omega)).bd ?_
  try simp
  refine (eqRoom_ev x.2.1 (by omega)).bd ?_
  try simp
  refine (eqOutS_ev x.2.2.1 (by omega)).bd ?_
  try simp
  exact .of fun _ => rfl
/-- A mark's text. -/
theorem markText_some (k : Int) (h0 : 0 ≤ k) (h1 : k ≤ 274877906944) : ∃ v, Ev (fun n => l_markText n k) v := by
  unfold l_markText g_l_markText
  by_cases hk : k ≤ 0
  · exact ⟨_, .of fun n => by rw [show decide (k ≤ 0) = true by simpa using hk]; rfl⟩
  · have hr : Re (fun x : Nat × Nat => l0_l_markText x.1 x.2 k (⟨#[]⟩ : ByteArray)) (fun _ => True) := by
      refine Re.loop (l := fun x n (s : Int × ByteArray) => l0_l_markText x n s.1 s.2) (I := fun s => 0 ≤ s.1 ∧ s.1 ≤ 274877906944 ∧ s.2.size + s.1.toNat ≤ 274877906945) (fun s => s.1.toNat) (Q := fun _ _ => True) (fun s hs ih => ?_) (k, (⟨#[]⟩ : ByteArray)) ⟨h0, h1, by show 0 + k.toNat ≤ _; omega⟩
      obtain ⟨a, b⟩ := s
      obtain ⟨g0, g1, g2⟩ := hs
      show Re (fun x : Nat × Nat => b0_l_markText x.1 (l0_l_markText x.1 x.2) a b) _
      unfold b0_l_markText
      dsimp only at g0 g1 g2 ih ⊢
      have hsz : ∀ n : Int, (strOfNums [n]).size = 1 := fun n => rfl
      have hsz2 : ∀ n : Int, ((strOfNums [n]) ++ b).size = 1 + b.size := fun n => by rw [ByteArray.size_append]; rfl
      refine Re.br (fun hp => ?_) (fun hp => ?_)
      · have hp : a > 0 := of_decide_eq_true hp
        refine Re.ng (by simp) ?_
        refine Re.gd (decide_eq_true (by rw [hsz]; unfold maxRow; omega)) ?_
        refine Re.ng (by simp) ?_
        have hq : Int.tdiv a 10 = a / 10 := Int.tdiv_eq_ediv_of_nonneg g0
        have hw : w64 (Int.tdiv a 10) = a / 10 := by rw [hq]; exact w64_eq (by omega) (by omega)
        rw [hw]
        exact ih (a / 10, _) ⟨by dsimp only; omega, by dsimp only; omega, by dsimp only; rw [hsz2]; omega⟩ (by dsimp only; omega)
      · have h4 : (⟨#[109]⟩ : ByteArray).size = 1 := rfl
        refine Re.gd (decide_eq_true (by rw [h4]; unfold maxRow; omega)) (Re.ret trivial)
    obtain ⟨v, _, K, hK⟩ := Re.enter (f := fun x n => l0_l_markText x n k (⟨#[]⟩ : ByteArray)) (κ := fun k : Nat => k) among_nat hr
    exact ⟨v, K, fun n hn => by
      rw [show decide (k ≤ 0) = false by simpa using hk]
      exact hK n hn⟩
open Classical in
noncomputable def mkText (k : Int) : ByteArray := if h : ∃ v, Ev (fun n => l_markText n k) v then h.choose else ByteArray.empty
theorem mkText_ev (k : Int) (h0 : 0 ≤ k) (h1 : k ≤ 274877906944) : Ev (fun n => l_markText n k) (mkText k) := by
  have h := markText_some k h0 h1
  unfold mkText
  rw [dif_pos h]
  exact h.choose_spec
noncomputable def mkE_SessionS (y : TSession) (k : Int) : TSession := (k, (k + 1), mkText (k + 1 + 1), ())
def ctE_SessionS (y : TSession) : Nat := 3
noncomputable def mk_SessionS (x : List TSession) (k : Int) : List TSession := mkL mkE_SessionS ctE_SessionS x k
abbrev ct_SessionS (x : List TSession) : Nat := ctL ctE_SessionS x
theorem ctle_SessionS (x : List TSession) : ct_SessionS x ≤ 1000 * m_SessionS x := by
  refine ctL_le_sum ctE_SessionS m_Session (fun y => ?_) x
  unfold ctE_SessionS m_Session
  omega
theorem mrkSessionS_ev (x : List TSession) (k : Int) (h0 : 0 ≤ k) (h1 : k + 1000 * m_SessionS x ≤ 274877906944) (h2 : m_SessionS x ≤ 1048576) : Ev (fun n => l_markSessionS n x k) (k + (ct_SessionS x : Int), mk_SessionS x k, ()) := by
  have hct : ctL ctE_SessionS x ≤ 1000 * m_SessionS x := ctle_SessionS x
  have hlen : x.length ≤ 1048576 := by unfold m_SessionS at h2; omega
  refine markS_ev (l := fun k n a i ys => l0_l_markSessionS k n a (i : Int) ys) mkE_SessionS ctE_SessionS x k (fun i hi a ys ha hl hy => ?_) (fun a ys hl k n => by simp [l0_l_markSessionS, b0_l_markSessionS, hl])
  have hb := ctL_lt ctE_SessionS hi
  have hrd : ∀ (d w : TSession), rd d (ys.set i w) i = w := fun d w => rd_set (by omega)
  have e2 := idx_succ hi (by omega)
  have hm := mem_sum m_Session (List.getElem_mem hi)
  have h3 := h2
  unfold m_SessionS at h3
  have hc : ctE_SessionS x[i] = 3 := rfl
  have hm2 : m_Session x[i] = x[i].2.2.1.size + (0) := rfl
  have w0 : w64 (a + 1) = a + 1 := w64_eq (by omega) (by omega)
  have w1 : w64 (a + 1 + 1) = a + 1 + 1 := w64_eq (by omega) (by omega)
  obtain ⟨K2, q2⟩ := mkText_ev (a + 1 + 1) (by omega) (by omega)
  have w2 : w64 (a + 1 + 1 + 1) = a + 1 + 1 + 1 := w64_eq (by omega) (by omega)
  refine ⟨K2, fun k hk n => ?_⟩
  have pq2 := q2 k (by omega)
  show b0_l_markSessionS k (l0_l_markSessionS k n) a (i : Int) ys = _
  unfold b0_l_markSessionS
  simp only [hl, hy, hrd, List.length_set, List.set_set, e2, hi, Int.ofNat_lt, Int.natCast_nonneg, decide_true, br_true, gd_true, bd_some, Int.toNat_natCast, Nat.beq_refl, w0, w1, w2, pq2]
  repeat (rw [lt_eq]; try simp only [hl, hy, hrd, List.length_set, List.set_set, e2, hi, Int.ofNat_lt, Int.natCast_nonneg, decide_true, br_true, gd_true, bd_some, Int.toNat_natCast, Nat.beq_refl, w0, w1, w2, pq2])
  simp only [mkE_SessionS, ctE_SessionS]
  try congr 1
  all_goals (try simp)
  all_goals (try omega)
def mk_IntS (x : List Int) (k : Int) : List Int := mkL (fun (y : Int) k => k) (fun _ => 1) x k
abbrev ct_IntS (x : List Int) : Nat := ctL (fun _ => 1) x
theorem mkln_IntS (x : List Int) (k : Int) : (mk_IntS x k).length = x.length := mkL_length _ _ _ _
theorem ctle_IntS (x : List Int) : ct_IntS x ≤ 1000 * m_IntS x := by
  have e : ct_IntS x = 1 * x.length := ctL_const _ _
  unfold m_IntS
  omega
noncomputable def mkE_EventS (y : TEvent) (k : Int) : TEvent := (k, (k + 1), (k + 1 + 1), (k + 1 + 1 + 1), (k + 1 + 1 + 1 + 1), mk_IntS y.2.2.2.2.2.1 (k + 1 + 1 + 1 + 1 + 1), mkText (k + 1 + 1 + 1 + 1 + 1 + (ct_IntS y.2.2.2.2.2.1 : Int)), mk_IntS y.2.2.2.2.2.2.2.1 (k + 1 + 1 + 1 + 1 + 1 + (ct_IntS y.2.2.2.2.2.1 : Int) + 1), (k + 1 + 1 + 1 + 1 + 1 + (ct_IntS y.2.2.2.2.2.1 : Int) + 1 + (ct_IntS y.2.2.2.2.2.2.2.1 : Int)), ())
def ctE_EventS (y : TEvent) : Nat := ct_IntS y.2.2.2.2.2.1 + (ct_IntS y.2.2.2.2.2.2.2.1 + (7))
noncomputable def mk_EventS (x : List TEvent) (k : Int) : List TEvent := mkL mkE_EventS ctE_EventS x k
abbrev ct_EventS (x : List TEvent) : Nat := ctL ctE_EventS x
theorem ctle_EventS (x : List TEvent) : ct_EventS x ≤ 1000 * m_EventS x := by
  refine ctL_le_sum ctE_EventS m_Event (fun y => ?_) x
  have h5 := ctle_IntS y.2.2.2.2.2.1
  have h7 := ctle_IntS y.2.2.2.2.2.2.2.1
  unfold ctE_EventS m_Event
  omega
theorem markIntS_ev (x : List Int) (k : Int) (h0 : 0 ≤ k) (h1 : k + ct_IntS x ≤ 1099511627776) (h2 : x.length ≤ 1048576) : Ev (fun n => l_markIntS n x k) (k + (ct_IntS x : Int), mk_IntS x k, ()) := by
  refine markS_ev (l := fun k n a i ys => l0_l_markIntS k n a (i : Int) ys) (fun (y : Int) k => k) (fun _ => 1) x k (fun i hi a ys ha hl hy => ⟨0, fun k _ n => ?_⟩) (fun a ys hl k n => by simp [l0_l_markIntS, b0_l_markIntS, hl])
  unfold ct_IntS at h1
  have hb := ctL_lt (fun _ : Int => 1) hi
  have e2 := idx_succ hi (by omega)
  have w0 : w64 (a + 1) = a + 1 := w64_eq (by omega) (by omega)
  simp only [l0_l_markIntS, b0_l_markIntS, List.length_set, hl, hi, hy, e2, rd_set, Int.ofNat_lt, Int.natCast_nonneg, decide_true, br_true, gd_true, Int.toNat_natCast, List.set_set, w0]
  try simp [Int.add_assoc]
theorem mrkIntS_ev (x : List Int) (k : Int) (h0 : 0 ≤ k) (h1 : k + 1000 * m_IntS x ≤ 1099511627776) (h2 : m_IntS x ≤ 1048576) : Ev (fun n => l_markIntS n x k) (k + (ct_IntS x : Int), mk_IntS x k, ()) := by
  have e := ctle_IntS x
  exact markIntS_ev x k h0 (by omega) (by unfold m_IntS at h2; omega)
theorem mrkEventS_ev (x : List TEvent) (k : Int) (h0 : 0 ≤ k) (h1 : k + 1000 * m_EventS x ≤ 274877906944) (h2 : m_EventS x ≤ 1048576) : Ev (fun n => l_markEventS n x k) (k + (ct_EventS x : Int), mk_EventS x k, ()) := by
  have hct : ctL ctE_EventS x ≤ 1000 * m_EventS x := ctle_EventS x
  have hlen : x.length ≤ 1048576 := by unfold m_EventS at h2; omega
  refine markS_ev (l := fun k n a i ys => l0_l_markEventS k n a (i : Int) ys) mkE_EventS ctE_EventS x k (fun i hi a ys ha hl hy => ?_) (fun a ys hl k n => by simp [l0_l_markEventS, b0_l_markEventS, hl])
  have hb := ctL_lt ctE_EventS hi
  have hrd : ∀ (d w : TEvent), rd d (ys.set i w) i = w := fun d w => rd_set (by omega)
  have e2 := idx_succ hi (by omega)
  have hm := mem_sum m_Event (List.getElem_mem hi)
  have h3 := h2
  unfold m_EventS at h3
  have hc : ctE_EventS x[i] = ct_IntS x[i].2.2.2.2.2.1 + (ct_IntS x[i].2.2.2.2.2.2.2.1 + (7)) := rfl
  have hm2 : m_Event x[i] = m_IntS x[i].2.2.2.2.2.1 + (x[i].2.2.2.2.2.2.1.size + (m_IntS x[i].2.2.2.2.2.2.2.1 + (0))) := rfl
  have c0 := ctle_IntS (x[i].2.2.2.2.2.1)
  have c1 := ctle_IntS (x[i].2.2.2.2.2.2.2.1)
  have w0 : w64 (a + 1) = a + 1 := w64_eq (by omega) (by omega)
  have w1 : w64 (a + 1 + 1) = a + 1 + 1 := w64_eq (by omega) (by omega)
  have w2 : w64 (a + 1 + 1 + 1) = a + 1 + 1 + 1 := w64_eq (by omega) (by omega)
  have w3 : w64 (a + 1 + 1 + 1 + 1) = a + 1 + 1 + 1 + 1 := w64_eq (by omega) (by omega)
  have w4 : w64 (a + 1 + 1 + 1 + 1 + 1) = a + 1 + 1 + 1 + 1 + 1 := w64_eq (by omega) (by omega)
  obtain ⟨K5, q5⟩ := mrkIntS_ev (x[i].2.2.2.2.2.1) (a + 1 + 1 + 1 + 1 + 1) (by omega) (by omega) (by omega)
  obtain ⟨K6, q6⟩ := mkText_ev (a + 1 + 1 + 1 + 1 + 1 + (ct_IntS x[i].2.2.2.2.2.1 : Int)) (by omega) (by omega)
  have w6 : w64 (a + 1 + 1 + 1 + 1 + 1 + (ct_IntS x[i].2.2.2.2.2.1 : Int) + 1) = a + 1 + 1 + 1 + 1 + 1 + (ct_IntS x[i].2.2.2.2.2.1 : Int) + 1 := w64_eq (by omega) (by omega)
  obtain ⟨K7, q7⟩ := mrkIntS_ev (x[i].2.2.2.2.2.2.2.1) (a + 1 + 1 + 1 + 1 + 1 + (ct_IntS x[i].2.2.2.2.2.1 : Int) + 1) (by omega) (by omega) (by omega)
  have w8 : w64 (a + 1 + 1 + 1 + 1 + 1 + (ct_IntS x[i].2.2.2.2.2.1 : Int) + 1 + (ct_IntS x[i].2.2.2.2.2.2.2.1 : Int) + 1) = a + 1 + 1 + 1 + 1 + 1 + (ct_IntS x[i].2.2.2.2.2.1 : Int) + 1 + (ct_IntS x[i].2.2.2.2.2.2.2.1 : Int) + 1 := w64_eq (by omega) (by omega)
  refine ⟨K5 + K6 + K7, fun k hk n => ?_⟩
  have pq5 := q5 k (by omega)
  have pq6 := q6 k (by omega)
  have pq7 := q7 k (by omega)
  show b0_l_markEventS k (l0_l_markEventS k n) a (i : Int) ys = _
  unfold b0_l_markEventS
  simp only [hl, hy, hrd, List.length_set, List.set_set, e2, hi, Int.ofNat_lt, Int.natCast_nonneg, decide_true, br_true, gd_true, bd_some, Int.toNat_natCast, Nat.beq_refl, mkln_IntS, mkln_IntS, w0, w1, w2, w3, w4, w6, w8, pq5, pq6, pq7]
  repeat (rw [lt_eq]; try simp only [hl, hy, hrd, List.length_set, List.set_set, e2, hi, Int.ofNat_lt, Int.natCast_nonneg, decide_true, br_true, gd_true, bd_some, Int.toNat_natCast, Nat.beq_refl, mkln_IntS, mkln_IntS, w0, w1, w2, w3, w4, w6, w8, pq5, pq6, pq7])
  simp only [mkE_EventS, ctE_EventS]
  try congr 1
  all_goals (try simp)
  all_goals (try omega)
def mk_ItemS (x : List TItem) (k : Int) : List TItem := mkL (fun (y : TItem) k => (k, (k + 1), ())) (fun _ => 2) x k
abbrev ct_ItemS (x : List TItem) : Nat := ctL (fun _ => 2) x
theorem mkln_ItemS (x : List TItem) (k : Int) : (mk_ItemS x k).length = x.length := mkL_length _ _ _ _
theorem ctle_ItemS (x : List TItem) : ct_ItemS x ≤ 1000 * m_ItemS x := by
  have e : ct_ItemS x = 2 * x.length := ctL_const _ _
  unfold m_ItemS
  omega
noncomputable def mkE_ItemSS (y : List TItem) (k : Int) : List TItem := mk_ItemS y k
def ctE_ItemSS (y : List TItem) : Nat := ct_ItemS y + (0)
noncomputable def mk_ItemSS (x : List (List TItem)) (k : Int) : List (List TItem) := mkL mkE_ItemSS ctE_ItemSS x k
abbrev ct_ItemSS (x : List (List TItem)) : Nat := ctL ctE_ItemSS x
theorem ctle_ItemSS (x : List (List TItem)) : ct_ItemSS x ≤ 1000 * m_ItemSS x := by
  refine ctL_le_sum ctE_ItemSS m_ItemS (fun y => ?_) x
  have h0 := ctle_ItemS y
  unfold ctE_ItemSS
  omega
theorem markItemS_ev (x : List TItem) (k : Int) (h0 : 0 ≤ k) (h1 : k + ct_ItemS x ≤ 1099511627776) (h2 : x.length ≤ 1048576) : Ev (fun n => l_markItemS n x k) (k + (ct_ItemS x : Int), mk_ItemS x k, ()) := by
  refine markS_ev (l := fun k n a i ys => l0_l_markItemS k n a (i : Int) ys) (fun (y : TItem) k => (k, (k + 1), ())) (fun _ => 2) x k (fun i hi a ys ha hl hy => ⟨0, fun k _ n => ?_⟩) (fun a ys hl k n => by simp [l0_l_markItemS, b0_l_markItemS, hl])
  unfold ct_ItemS at h1
  have hb := ctL_lt (fun _ : TItem => 2) hi
  have e2 := idx_succ hi (by omega)
  have w0 : w64 (a + 1) = a + 1 := w64_eq (by omega) (by omega)
  have w1 : w64 (a + 1 + 1) = a + 1 + 1 := w64_eq (by omega) (by omega)
  simp only [l0_l_markItemS, b0_l_markItemS, List.length_set, hl, hi, hy, e2, rd_set, Int.ofNat_lt, Int.natCast_nonneg, decide_true, br_true, gd_true, Int.toNat_natCast, List.set_set, w0, w1]
  try simp [Int.add_assoc]
theorem mrkItemS_ev (x : List TItem) (k : Int) (h0 : 0 ≤ k) (h1 : k + 1000 * m_ItemS x ≤ 1099511627776) (h2 : m_ItemS x ≤ 1048576) : Ev (fun n => l_markItemS n x k) (k + (ct_ItemS x : Int), mk_ItemS x k, ()) := by
  have e := ctle_ItemS x
  exact markItemS_ev x k h0 (by omega) (by unfold m_ItemS at h2; omega)
theorem mrkItemSS_ev (x : List (List TItem)) (k : Int) (h0 : 0 ≤ k) (h1 : k + 1000 * m_ItemSS x ≤ 274877906944) (h2 : m_ItemSS x ≤ 1048576) : Ev (fun n => l_markItemSS n x k) (k + (ct_ItemSS x : Int), mk_ItemSS x k, ()) := by
  have hct : ctL ctE_ItemSS x ≤ 1000 * m_ItemSS x := ctle_ItemSS x
  have hlen : x.length ≤ 1048576 := by unfold m_ItemSS at h2; omega
  refine markS_ev (l := fun k n a i ys => l0_l_markItemSS k n a (i : Int) ys) mkE_ItemSS ctE_ItemSS x k (fun i hi a ys ha hl hy => ?_) (fun a ys hl k n => by simp [l0_l_markItemSS, b0_l_markItemSS, hl])
  have hb := ctL_lt ctE_ItemSS hi
  have hrd : ∀ (d w : List TItem), rd d (ys.set i w) i = w := fun d w => rd_set (by omega)
  have e2 := idx_succ hi (by omega)
  have hm := mem_sum m_ItemS (List.getElem_mem hi)
  have h3 := h2
  unfold m_ItemSS at h3
  have hc : ctE_ItemSS x[i] = ct_ItemS x[i] + (0) := rfl
  have c0 := ctle_ItemS (x[i])
  obtain ⟨K0, q0⟩ := mrkItemS_ev (x[i]) (a) (by omega) (by omega) (by omega)
  refine ⟨K0, fun k hk n => ?_⟩
  have pq0 := q0 k (by omega)
  show b0_l_markItemSS k (l0_l_markItemSS k n) a (i : Int) ys = _
  unfold b0_l_markItemSS
  simp only [hl, hy, hrd, List.length_set, List.set_set, e2, hi, Int.ofNat_lt, Int.natCast_nonneg, decide_true, br_true, gd_true, bd_some, Int.toNat_natCast, Nat.beq_refl, mkln_ItemS, pq0]
  repeat (rw [lt_eq]; try simp only [hl, hy, hrd, List.length_set, List.set_set, e2, hi, Int.ofNat_lt, Int.natCast_nonneg, decide_true, br_true, gd_true, bd_some, Int.toNat_natCast, Nat.beq_refl, mkln_ItemS, pq0])
  simp only [mkE_ItemSS, ctE_ItemSS]
  try congr 1
  all_goals (try simp)
  all_goals (try omega)
def mk_BoolS (x : List Bool) (k : Int) : List Bool := mkL (fun (y : Bool) k => (Int.tmod k 3 == 0)) (fun _ => 1) x k
abbrev ct_BoolS (x : List Bool) : Nat := ctL (fun _ => 1) x
theorem mkln_BoolS (x : List Bool) (k : Int) : (mk_BoolS x k).length = x.length := mkL_length _ _ _ _
theorem ctle_BoolS (x : List Bool) : ct_BoolS x ≤ 1000 * m_BoolS x := by
  have e : ct_BoolS x = 1 * x.length := ctL_const _ _
  unfold m_BoolS
  omega
theorem markBoolS_ev (x : List Bool) (k : Int) (h0 : 0 ≤ k) (h1 : k + ct_BoolS x ≤ 1099511627776) (h2 : x.length ≤ 1048576) : Ev (fun n => l_markBoolS n x k) (k + (ct_BoolS x : Int), mk_BoolS x k, ()) := by
  refine markS_ev (l := fun k n a i ys => l0_l_markBoolS k n a (i : Int) ys) (fun (y : Bool) k => (Int.tmod k 3 == 0)) (fun _ => 1) x k (fun i hi a ys ha hl hy => ⟨0, fun k _ n => ?_⟩) (fun a ys hl k n => by simp [l0_l_markBoolS, b0_l_markBoolS, hl])
  unfold ct_BoolS at h1
  have hb := ctL_lt (fun _ : Bool => 1) hi
  have e2 := idx_succ hi (by omega)
  have w0 : w64 (a + 1) = a + 1 := w64_eq (by omega) (by omega)
  simp only [l0_l_markBoolS, b0_l_markBoolS, List.length_set, hl, hi, hy, e2, rd_set, Int.ofNat_lt, Int.natCast_nonneg, decide_true, br_true, gd_true, Int.toNat_natCast, List.set_set, w0]
  try simp [Int.add_assoc]
theorem mrkBoolS_ev (x : List Bool) (k : Int) (h0 : 0 ≤ k) (h1 : k + 1000 * m_BoolS x ≤ 1099511627776) (h2 : m_BoolS x ≤ 1048576) : Ev (fun n => l_markBoolS n x k) (k + (ct_BoolS x : Int), mk_BoolS x k, ()) := by
  have e := ctle_BoolS x
  exact markBoolS_ev x k h0 (by omega) (by unfold m_BoolS at h2; omega)
noncomputable def mkE_OutS (y : TOut) (k : Int) : TOut := (k, (k + 1), mk_IntS y.2.2.1 (k + 1 + 1), ())
def ctE_OutS (y : TOut) : Nat := ct_IntS y.2.2.1 + (2)
noncomputable def mk_OutS (x : List TOut) (k : Int) : List TOut := mkL mkE_OutS ctE_OutS x k
abbrev ct_OutS (x : List TOut) : Nat := ctL ctE_OutS x
theorem ctle_OutS (x : List TOut) : ct_OutS x ≤ 1000 * m_OutS x := by
  refine ctL_le_sum ctE_OutS m_Out (fun y => ?_) x
  have h2 := ctle_IntS y.2.2.1
  unfold ctE_OutS m_Out
  omega
theorem mrkOutS_ev (x : List TOut) (k : Int) (h0 : 0 ≤ k) (h1 : k + 1000 * m_OutS x ≤ 274877906944) (h2 : m_OutS x ≤ 1048576) : Ev (fun n => l_markOutS n x k) (k + (ct_OutS x : Int), mk_OutS x k, ()) := by
  have hct : ctL ctE_OutS x ≤ 1000 * m_OutS x := ctle_OutS x
  have hlen : x.length ≤ 1048576 := by unfold m_OutS at h2; omega
  refine markS_ev (l := fun k n a i ys => l0_l_markOutS k n a (i : Int) ys) mkE_OutS ctE_OutS x k (fun i hi a ys ha hl hy => ?_) (fun a ys hl k n => by simp [l0_l_markOutS, b0_l_markOutS, hl])
  have hb := ctL_lt ctE_OutS hi
  have hrd : ∀ (d w : TOut), rd d (ys.set i w) i = w := fun d w => rd_set (by omega)
  have e2 := idx_succ hi (by omega)
  have hm := mem_sum m_Out (List.getElem_mem hi)
  have h3 := h2
  unfold m_OutS at h3
  have hc : ctE_OutS x[i] = ct_IntS x[i].2.2.1 + (2) := rfl
  have hm2 : m_Out x[i] = m_IntS x[i].2.2.1 + (0) := rfl
  have c0 := ctle_IntS (x[i].2.2.1)
  have w0 : w64 (a + 1) = a + 1 := w64_eq (by omega) (by omega)
  have w1 : w64 (a + 1 + 1) = a + 1 + 1 := w64_eq (by omega) (by omega)
  obtain ⟨K2, q2⟩ := mrkIntS_ev (x[i].2.2.1) (a + 1 + 1) (by omega) (by omega) (by omega)
  refine ⟨K2, fun k hk n => ?_⟩
  have pq2 := q2 k (by omega)
  show b0_l_markOutS k (l0_l_markOutS k n) a (i : Int) ys = _
  unfold b0_l_markOutS
  simp only [hl, hy, hrd, List.length_set, List.set_set, e2, hi, Int.ofNat_lt, Int.natCast_nonneg, decide_true, br_true, gd_true, bd_some, Int.toNat_natCast, Nat.beq_refl, mkln_IntS, w0, w1, pq2]
  repeat (rw [lt_eq]; try simp only [hl, hy, hrd, List.length_set, List.set_set, e2, hi, Int.ofNat_lt, Int.natCast_nonneg, decide_true, br_true, gd_true, bd_some, Int.toNat_natCast, Nat.beq_refl, mkln_IntS, w0, w1, pq2])
  simp only [mkE_OutS, ctE_OutS]
  try congr 1
  all_goals (try simp)
  all_goals (try omega)
noncomputable abbrev mk_Room (x : TRoom) (k : Int) : TRoom := (mk_EventS x.1 k, mk_ItemSS x.2.1 (k + (ct_EventS x.1 : Int)), mk_BoolS x.2.2.1 (k + (ct_EventS x.1 : Int) + (ct_ItemSS x.2.1 : Int)), ())
abbrev ct_Room (x : TRoom) : Nat := ct_EventS x.1 + ct_ItemSS x.2.1 + ct_BoolS x.2.2.1
noncomputable abbrev mk_Hall (x : THall) (k : Int) : THall := (mk_SessionS x.1 k, mk_Room x.2.1 (k + (ct_SessionS x.1 : Int)), mk_OutS x.2.2.1 (k + (ct_SessionS x.1 : Int) + (ct_Room x.2.1 : Int)), ())
abbrev ct_Hall (x : THall) : Nat := ct_SessionS x.1 + ct_Room x.2.1 + ct_OutS x.2.2.1
theorem hldSessionS_ev (x : List TSession) (k0 : Int) (h0 : 0 ≤ k0) (h1 : k0 + 1000 * m_SessionS x ≤ 274877906944) (h2 : m_SessionS x ≤ 1048576) : Ev (fun n => l_heldSessionS n (mk_SessionS x k0) k0) (k0 + (ct_SessionS x : Int)) := by
  have hct : ctL ctE_SessionS x ≤ 1000 * m_SessionS x := ctle_SessionS x
  have hlen : x.length ≤ 1048576 := by unfold m_SessionS at h2; omega
  have hl : (mk_SessionS x k0).length = x.length := mkL_length _ _ _ _
  refine heldS_ev (l := fun k n a i => l0_l_heldSessionS k n (mk_SessionS x k0) a (i : Int)) mkE_SessionS ctE_SessionS x k0 (fun i hi a ha hy => ?_) (fun a k n => by simp [l0_l_heldSessionS, b0_l_heldSessionS, hl])
  have hb := ctL_lt ctE_SessionS hi
  have e2 := idx_succ hi (by omega)
  have hm := mem_sum m_Session (List.getElem_mem hi)
  have h3 := h2
  unfold m_SessionS at h3
  have hc : ctE_SessionS x[i] = 3 := rfl
  have hm2 : m_Session x[i] = x[i].2.2.1.size + (0) := rfl
  have ha0 : 0 ≤ a ∧ a + (ctE_SessionS x[i] : Int) ≤ 274877906944 := by omega
  have w0 : w64 (a + 1) = a + 1 := w64_eq (by omega) (by omega)
  have w1 : w64 (a + 1 + 1) = a + 1 + 1 := w64_eq (by omega) (by omega)
  obtain ⟨K2, q2⟩ := mkText_ev (a + 1 + 1) (by omega) (by omega)
  have w2 : w64 (a + 1 + 1 + 1) = a + 1 + 1 + 1 := w64_eq (by omega) (by omega)
  refine ⟨K2, fun k hk n => ?_⟩
  have pq2 := q2 k (by omega)
  have hz : ∀ d, rd d (mk_SessionS x k0) i = mkE_SessionS x[i] a := hy
  show b0_l_heldSessionS k (l0_l_heldSessionS k n) (mk_SessionS x k0) a (i : Int) = _
  unfold b0_l_heldSessionS
  have n0 : ∀ (f : List TSession) (c : Nat) (b : Int), 0 ≤ b → decide (b + (c : Int) < 0) = false := fun _ c b hb => by simp; omega
  simp only [hl, hz, mkE_SessionS, e2, hi, Int.ofNat_lt, Int.natCast_nonneg, decide_true, br_true, br_false, gd_true, bd_some, Int.toNat_natCast, bne_self_eq_false, beq_self_eq_true, Bool.not_true, w0, w1, w2, pq2]
  simp only [ctE_SessionS]
  try (simp [show ∀ z : Int, 0 ≤ z → ¬ z < 0 from fun z h => by omega])
  all_goals (try congr 1)
  all_goals (try omega)
theorem heldIntS_ev (x : List Int) (k0 : Int) (h0 : 0 ≤ k0) (h1 : k0 + ct_IntS x ≤ 1099511627776) (h2 : x.length ≤ 1048576) : Ev (fun n => l_heldIntS n (mk_IntS x k0) k0) (k0 + (ct_IntS x : Int)) := by
  have hl : (mk_IntS x k0).length = x.length := mkL_length _ _ _ _
  refine heldS_ev (l := fun k n a i => l0_l_heldIntS k n (mk_IntS x k0) a (i : Int)) (fun (y : Int) k => k) (fun _ => 1) x k0 (fun i hi a ha hy => ⟨0, fun k _ n => ?_⟩) (fun a k n => by simp [l0_l_heldIntS, b0_l_heldIntS, hl])
  unfold ct_IntS at h1
  have hb := ctL_lt (fun _ : Int => 1) hi
  have e2 := idx_succ hi (by omega)
  have hz : ∀ d, rd d (mk_IntS x k0) i = _ := hy
  have w0 : w64 (a + 1) = a + 1 := w64_eq (by omega) (by omega)
  simp only [l0_l_heldIntS, b0_l_heldIntS, hl, hi, hz, e2, Int.ofNat_lt, Int.natCast_nonneg, decide_true, br_true, gd_true, Int.toNat_natCast, w0]
  try simp [Int.add_assoc]
theorem hldIntS_ev (x : List Int) (k0 : Int) (h0 : 0 ≤ k0) (h1 : k0 + 1000 * m_IntS x ≤ 1099511627776) (h2 : m_IntS x ≤ 1048576) : Ev (fun n => l_heldIntS n (mk_IntS x k0) k0) (k0 + (ct_IntS x : Int)) := by
  have e := ctle_IntS x
  exact heldIntS_ev x k0 h0 (by omega) (by unfold m_IntS at h2; omega)
theorem hldEventS_ev (x : List TEvent) (k0 : Int) (h0 : 0 ≤ k0) (h1 : k0 + 1000 * m_EventS x ≤ 274877906944) (h2 : m_EventS x ≤ 1048576) : Ev (fun n => l_heldEventS n (mk_EventS x k0) k0) (k0 + (ct_EventS x : Int)) := by
  have hct : ctL ctE_EventS x ≤ 1000 * m_EventS x := ctle_EventS x
  have hlen : x.length ≤ 1048576 := by unfold m_EventS at h2; omega
  have hl : (mk_EventS x k0).length = x.length := mkL_length _ _ _ _
  refine heldS_ev (l := fun k n a i => l0_l_heldEventS k n (mk_EventS x k0) a (i : Int)) mkE_EventS ctE_EventS x k0 (fun i hi a ha hy => ?_) (fun a k n => by simp [l0_l_heldEventS, b0_l_heldEventS, hl])
  have hb := ctL_lt ctE_EventS hi
  have e2 := idx_succ hi (by omega)
  have hm := mem_sum m_Event (List.getElem_mem hi)
  have h3 := h2
  unfold m_EventS at h3
  have hc : ctE_EventS x[i] = ct_IntS x[i].2.2.2.2.2.1 + (ct_IntS x[i].2.2.2.2.2.2.2.1 + (7)) := rfl
  have hm2 : m_Event x[i] = m_IntS x[i].2.2.2.2.2.1 + (x[i].2.2.2.2.2.2.1.size + (m_IntS x[i].2.2.2.2.2.2.2.1 + (0))) := rfl
  have c0 := ctle_IntS (x[i].2.2.2.2.2.1)
  have c1 := ctle_IntS (x[i].2.2.2.2.2.2.2.1)
  have ha0 : 0 ≤ a ∧ a + (ctE_EventS x[i] : Int) ≤ 274877906944 := by omega
  have w0 : w64 (a + 1) = a + 1 := w64_eq (by omega) (by omega)
  have w1 : w64 (a + 1 + 1) = a + 1 + 1 := w64_eq (by omega) (by omega)
  have w2 : w64 (a + 1 + 1 + 1) = a + 1 + 1 + 1 := w64_eq (by omega) (by omega)
  have w3 : w64 (a + 1 + 1 + 1 + 1) = a + 1 + 1 + 1 + 1 := w64_eq (by omega) (by omega)
  have w4 : w64 (a + 1 + 1 + 1 + 1 + 1) = a + 1 + 1 + 1 + 1 + 1 := w64_eq (by omega) (by omega)
  obtain ⟨K5, q5⟩ := hldIntS_ev (x[i].2.2.2.2.2.1) (a + 1 + 1 + 1 + 1 + 1) (by omega) (by omega) (by omega)
  obtain ⟨K6, q6⟩ := mkText_ev (a + 1 + 1 + 1 + 1 + 1 + (ct_IntS x[i].2.2.2.2.2.1 : Int)) (by omega) (by omega)
  have w6 : w64 (a + 1 + 1 + 1 + 1 + 1 + (ct_IntS x[i].2.2.2.2.2.1 : Int) + 1) = a + 1 + 1 + 1 + 1 + 1 + (ct_IntS x[i].2.2.2.2.2.1 : Int) + 1 := w64_eq (by omega) (by omega)
  obtain ⟨K7, q7⟩ := hldIntS_ev (x[i].2.2.2.2.2.2.2.1) (a + 1 + 1 + 1 + 1 + 1 + (ct_IntS x[i].2.2.2.2.2.1 : Int) + 1) (by omega) (by omega) (by omega)
  have w8 : w64 (a + 1 + 1 + 1 + 1 + 1 + (ct_IntS x[i].2.2.2.2.2.1 : Int) + 1 + (ct_IntS x[i].2.2.2.2.2.2.2.1 : Int) + 1) = a + 1 + 1 + 1 + 1 + 1 + (ct_IntS x[i].2.2.2.2.2.1 : Int) + 1 + (ct_IntS x[i].2.2.2.2.2.2.2.1 : Int) + 1 := w64_eq (by omega) (by omega)
  refine ⟨K5 + K6 + K7, fun k hk n => ?_⟩
  have pq5 := q5 k (by omega)
  have pq6 := q6 k (by omega)
  have pq7 := q7 k (by omega)
  have hz : ∀ d, rd d (mk_EventS x k0) i = mkE_EventS x[i] a := hy
  show b0_l_heldEventS k (l0_l_heldEventS k n) (mk_EventS x k0) a (i : Int) = _
  unfold b0_l_heldEventS
  have dn5 : decide (a + 1 + 1 + 1 + 1 + 1 + (ct_IntS (x[i].2.2.2.2.2.1) : Int) < 0) = false := decide_eq_false (by omega)
  have dn7 : decide (a + 1 + 1 + 1 + 1 + 1 + (ct_IntS x[i].2.2.2.2.2.1 : Int) + 1 + (ct_IntS (x[i].2.2.2.2.2.2.2.1) : Int) < 0) = false := decide_eq_false (by omega)
  have n0 : ∀ (f : List TEvent) (c : Nat) (b : Int), 0 ≤ b → decide (b + (c : Int) < 0) = false := fun _ c b hb => by simp; omega
  simp only [hl, hz, mkE_EventS, e2, hi, Int.ofNat_lt, Int.natCast_nonneg, decide_true, br_true, br_false, gd_true, bd_some, Int.toNat_natCast, bne_self_eq_false, beq_self_eq_true, Bool.not_true, w0, w1, w2, w3, w4, w6, w8, pq5, pq6, pq7, dn5, dn7]
  simp only [ctE_EventS]
  try (simp [show ∀ z : Int, 0 ≤ z → ¬ z < 0 from fun z h => by omega])
  all_goals (try congr 1)
  all_goals (try omega)
theorem heldItemS_ev (x : List TItem) (k0 : Int) (h0 : 0 ≤ k0) (h1 : k0 + ct_ItemS x ≤ 1099511627776) (h2 : x.length ≤ 1048576) : Ev (fun n => l_heldItemS n (mk_ItemS x k0) k0) (k0 + (ct_ItemS x : Int)) := by
  have hl : (mk_ItemS x k0).length = x.length := mkL_length _ _ _ _
  refine heldS_ev (l := fun k n a i => l0_l_heldItemS k n (mk_ItemS x k0) a (i : Int)) (fun (y : TItem) k => (k, (k + 1), ())) (fun _ => 2) x k0 (fun i hi a ha hy => ⟨0, fun k _ n => ?_⟩) (fun a k n => by simp [l0_l_heldItemS, b0_l_heldItemS, hl])
  unfold ct_ItemS at h1
  have hb := ctL_lt (fun _ : TItem => 2) hi
  have e2 := idx_succ hi (by omega)
  have hz : ∀ d, rd d (mk_ItemS x k0) i = _ := hy
  have w0 : w64 (a + 1) = a + 1 := w64_eq (by omega) (by omega)
  have w1 : w64 (a + 1 + 1) = a + 1 + 1 := w64_eq (by omega) (by omega)
  simp only [l0_l_heldItemS, b0_l_heldItemS, hl, hi, hz, e2, Int.ofNat_lt, Int.natCast_nonneg, decide_true, br_true, gd_true, Int.toNat_natCast, w0, w1]
  try simp [Int.add_assoc]
theorem hldItemS_ev (x : List TItem) (k0 : Int) (h0 : 0 ≤ k0) (h1 : k0 + 1000 * m_ItemS x ≤ 1099511627776) (h2 : m_ItemS x ≤ 1048576) : Ev (fun n => l_heldItemS n (mk_ItemS x k0) k0) (k0 + (ct_ItemS x : Int)) := by
  have e := ctle_ItemS x
  exact heldItemS_ev x k0 h0 (by omega) (by unfold m_ItemS at h2; omega)
theorem hldItemSS_ev (x : List (List TItem)) (k0 : Int) (h0 : 0 ≤ k0) (h1 : k0 + 1000 * m_ItemSS x ≤ 274877906944) (h2 : m_ItemSS x ≤ 1048576) : Ev (fun n => l_heldItemSS n (mk_ItemSS x k0) k0) (k0 + (ct_ItemSS x : Int)) := by
  have hct : ctL ctE_ItemSS x ≤ 1000 * m_ItemSS x := ctle_ItemSS x
  have hlen : x.length ≤ 1048576 := by unfold m_ItemSS at h2; omega
  have hl : (mk_ItemSS x k0).length = x.length := mkL_length _ _ _ _
  refine heldS_ev (l := fun k n a i => l0_l_heldItemSS k n (mk_ItemSS x k0) a (i : Int)) mkE_ItemSS ctE_ItemSS x k0 (fun i hi a ha hy => ?_) (fun a k n => by simp [l0_l_heldItemSS, b0_l_heldItemSS, hl])
  have hb := ctL_lt ctE_ItemSS hi
  have e2 := idx_succ hi (by omega)
  have hm := mem_sum m_ItemS (List.getElem_mem hi)
  have h3 := h2
  unfold m_ItemSS at h3
  have hc : ctE_ItemSS x[i] = ct_ItemS x[i] + (0) := rfl
  have c0 := ctle_ItemS (x[i])
  have ha0 : 0 ≤ a ∧ a + (ctE_ItemSS x[i] : Int) ≤ 274877906944 := by omega
  obtain ⟨K0, q0⟩ := hldItemS_ev (x[i]) (a) (by omega) (by omega) (by omega)
  refine ⟨K0, fun k hk n => ?_⟩
  have pq0 := q0 k (by omega)
  have hz : ∀ d, rd d (mk_ItemSS x k0) i = mkE_ItemSS x[i] a := hy
  show b0_l_heldItemSS k (l0_l_heldItemSS k n) (mk_ItemSS x k0) a (i : Int) = _
  unfold b0_l_heldItemSS
  have dn0 : decide (a + (ct_ItemS (x[i]) : Int) < 0) = false := decide_eq_false (by omega)
  have n0 : ∀ (f : List (List TItem)) (c : Nat) (b : Int), 0 ≤ b → decide (b + (c : Int) < 0) = false := fun _ c b hb => by simp; omega
  simp only [hl, hz, mkE_ItemSS, e2, hi, Int.ofNat_lt, Int.natCast_nonneg, decide_true, br_true, br_false, gd_true, bd_some, Int.toNat_natCast, bne_self_eq_false, beq_self_eq_true, Bool.not_true, pq0, dn0]
  simp only [ctE_ItemSS]
  try (simp [show ∀ z : Int, 0 ≤ z → ¬ z < 0 from fun z h => by omega])
  all_goals (try congr 1)
  all_goals (try omega)
theorem heldBoolS_ev (x : List Bool) (k0 : Int) (h0 : 0 ≤ k0) (h1 : k0 + ct_BoolS x ≤ 1099511627776) (h2 : x.length ≤ 1048576) : Ev (fun n => l_heldBoolS n (mk_BoolS x k0) k0) (k0 + (ct_BoolS x : Int)) := by
  have hl : (mk_BoolS x k0).length = x.length := mkL_length _ _ _ _
  refine heldS_ev (l := fun k n a i => l0_l_heldBoolS k n (mk_BoolS x k0) a (i : Int)) (fun (y : Bool) k => (Int.tmod k 3 == 0)) (fun _ => 1) x k0 (fun i hi a ha hy => ⟨0, fun k _ n => ?_⟩) (fun a k n => by simp [l0_l_heldBoolS, b0_l_heldBoolS, hl])
  unfold ct_BoolS at h1
  have hb := ctL_lt (fun _ : Bool => 1) hi
  have e2 := idx_succ hi (by omega)
  have hz : ∀ d, rd d (mk_BoolS x k0) i = _ := hy
  have w0 : w64 (a + 1) = a + 1 := w64_eq (by omega) (by omega)
  simp only [l0_l_heldBoolS, b0_l_heldBoolS, hl, hi, hz, e2, Int.ofNat_lt, Int.natCast_nonneg, decide_true, br_true, gd_true, Int.toNat_natCast, w0]
  try simp [Int.add_assoc]
theorem ctle_Room (x : TRoom) : ct_Room x ≤ 1000 * m_Room x := by
  unfold ct_Room m_Room
  have e_0 := ctle_EventS x.1
  have e_1 := ctle_ItemSS x.2.1
  have e_2 : ct_BoolS x.2.2.1 = 1 * m_BoolS x.2.2.1 := ctL_const _ _
  omega
theorem heldRoom_ev (x : TRoom) (k : Int) (h0 : 0 ≤ k) (h1 : k + 1000 * m_Room x ≤ 274877906944) (h2 : m_Room x ≤ 1048576) : Ev (fun n => l_heldRoom n (mk_Room x k) k) (k + (ct_Room x : Int)) := by
  unfold m_Room at h1 h2
  have e_0 := ctle_EventS x.1
  have e_1 := ctle_ItemSS x.2.1
  have e_2 : ct_BoolS x.2.2.1 = 1 * m_BoolS x.2.2.1 := ctL_const _ _
  have l_2 : m_BoolS x.2.2.1 = x.2.2.1.length := rfl
  unfold l_heldRoom
  refine (hldEventS_ev _ _ (by omega) (by omega) (by omega)).bd ?_
  refine ex_neg (by omega) ?_
  refine (hldItemSS_ev _ _ (by omega) (by omega) (by omega)).bd ?_
  refine ex_neg (by omega) ?_
  refine (heldBoolS_ev _ _ (by omega) (by omega) (by omega)).bd ?_
  refine ex_neg (by omega) ?_
  refine .of fun _ => ?_
  simp [ct_Room, Int.add_assoc]
theorem hldOutS_ev (x : List TOut) (k0 : Int) (h0 : 0 ≤ k0) (h1 : k0 + 1000 * m_OutS x ≤ 274877906944) (h2 : m_OutS x ≤ 1048576) : Ev (fun n => l_heldOutS n (mk_OutS x k0) k0) (k0 + (ct_OutS x : Int)) := by
  have hct : ctL ctE_OutS x ≤ 1000 * m_OutS x := ctle_OutS x
  have hlen : x.length ≤ 1048576 := by unfold m_OutS at h2; omega
  have hl : (mk_OutS x k0).length = x.length := mkL_length _ _ _ _
  refine heldS_ev (l := fun k n a i => l0_l_heldOutS k n (mk_OutS x k0) a (i : Int)) mkE_OutS ctE_OutS x k0 (fun i hi a ha hy => ?_) (fun a k n => by simp [l0_l_heldOutS, b0_l_heldOutS, hl])
  have hb := ctL_lt ctE_OutS hi
  have e2 := idx_succ hi (by omega)
  have hm := mem_sum m_Out (List.getElem_mem hi)
  have h3 := h2
  unfold m_OutS at h3
  have hc : ctE_OutS x[i] = ct_IntS x[i].2.2.1 + (2) := rfl
  have hm2 : m_Out x[i] = m_IntS x[i].2.2.1 + (0) := rfl
  have c0 := ctle_IntS (x[i].2.2.1)
  have ha0 : 0 ≤ a ∧ a + (ctE_OutS x[i] : Int) ≤ 274877906944 := by omega
  have w0 : w64 (a + 1) = a + 1 := w64_eq (by omega) (by omega)
  have w1 : w64 (a + 1 + 1) = a + 1 + 1 := w64_eq (by omega) (by omega)
  obtain ⟨K2, q2⟩ := hldIntS_ev (x[i].2.2.1) (a + 1 + 1) (by omega) (by omega) (by omega)
  refine ⟨K2, fun k hk n => ?_⟩
  have pq2 := q2 k (by omega)
  have hz : ∀ d, rd d (mk_OutS x k0) i = mkE_OutS x[i] a := hy
  show b0_l_heldOutS k (l0_l_heldOutS k n) (mk_OutS x k0) a (i : Int) = _
  unfold b0_l_heldOutS
  have dn2 : decide (a + 1 + 1 + (ct_IntS (x[i].2.2.1) : Int) < 0) = false := decide_eq_false (by omega)
  have n0 : ∀ (f : List TOut) (c : Nat) (b : Int), 0 ≤ b → decide (b + (c : Int) < 0) = false := fun _ c b hb => by simp; omega
  simp only [hl, hz, mkE_OutS, e2, hi, Int.ofNat_lt, Int.natCast_nonneg, decide_true, br_true, br_false, gd_true, bd_some, Int.toNat_natCast, bne_self_eq_false, beq_self_eq_true, Bool.not_true, w0, w1, pq2, dn2]
  simp only [ctE_OutS]
  try (simp [show ∀ z : Int, 0 ≤ z → ¬ z < 0 from fun z h => by omega])
  all_goals (try congr 1)
  all_goals (try omega)
theorem ctle_Hall (x : THall) : ct_Hall x ≤ 1000 * m_Hall x := by
  unfold ct_Hall m_Hall
  have e_0 := ctle_SessionS x.1
  have e_1 := ctle_Room x.2.1
  have e_2 := ctle_OutS x.2.2.1
  omega
theorem heldHall_ev (x : THall) (k : Int) (h0 : 0 ≤ k) (h1 : k + 1000 * m_Hall x ≤ 274877906944) (h2 : m_Hall x ≤ 1048576) : Ev (fun n => l_heldHall n (mk_Hall x k) k) (k + (ct_Hall x : Int)) := by
  unfold m_Hall at h1 h2
  have e_0 := ctle_SessionS x.1
  have e_1 := ctle_Room x.2.1
  have e_2 := ctle_OutS x.2.2.1
  unfold l_heldHall
  refine (hldSessionS_ev _ _ (by omega) (by omega) (by omega)).bd ?_
  refine ex_neg (by omega) ?_
  refine (heldRoom_ev _ _ (by omega) (by omega) (by omega)).bd ?_
  refine ex_neg (by omega) ?_
  refine (hldOutS_ev _ _ (by omega) (by omega) (by omega)).bd ?_
  refine ex_neg (by omega) ?_
  refine .of fun _ => ?_
  simp [ct_Hall, Int.add_assoc]
end Go.Vm
