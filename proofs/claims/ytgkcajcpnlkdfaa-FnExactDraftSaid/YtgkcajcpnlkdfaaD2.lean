/- Data: measures, copies, likeness. -/
import Derived.Test.YtgkcajcpnlkdfaaWm
import Derived.Test.YtgkcajcpnlkdfaaG2
set_option linter.unusedVariables false
set_option linter.unusedSimpArgs false
namespace Go.Vm
open Go
def m_IntS (x : List Int) : Nat := x.length
def W_IntS (x : List Int) : Prop := x.length ≤ 9223372036854775807
theorem szIntS_ev (x : List Int) (w : W_IntS x) (left : Int) (h0 : 0 ≤ left) (h1 : left ≤ 1048576) : Ev (fun k => l_szIntS k x left) (lft (m_IntS x) left) := .of fun k => szS0 h0 h1 w
def m_Event (x : TEvent) : Nat := m_IntS x.2.2.2.2.2.1 + (x.2.2.2.2.2.2.1.size + (m_IntS x.2.2.2.2.2.2.2.1 + (0)))
def W_Event (x : TEvent) : Prop := W_IntS x.2.2.2.2.2.1 ∧ x.2.2.2.2.2.2.1.size ≤ 9223372036854775807 ∧ W_IntS x.2.2.2.2.2.2.2.1
theorem szEvent_ev (x : TEvent) (w : W_Event x) (left : Int) (h0 : 0 ≤ left) (h1 : left ≤ 1048576) : Ev (fun k => l_szEvent k x left) (lft (m_Event x) left) := by
  unfold l_szEvent m_Event
  refine sz_bd h0 (szIntS_ev x.2.2.2.2.2.1 w.1 left h0 h1) (fun left h0 h1 => ?_) h1
  refine sz_in h0 h1 w.2.1 (fun hc => ?_)
  rw [lft_sub h0 h1 w.2.1]
  have k0 : 0 ≤ left - (x.2.2.2.2.2.2.1.size : Int) := by omega
  have k1 : left - (x.2.2.2.2.2.2.1.size : Int) ≤ 1048576 := by omega
  generalize left - (x.2.2.2.2.2.2.1.size : Int) = left at *
  clear h0 h1; rename_i left0; clear hc; have h0 := k0; have h1 := k1; clear k0 k1
  refine sz_bd h0 (szIntS_ev x.2.2.2.2.2.2.2.1 w.2.2 left h0 h1) (fun left h0 h1 => ?_) h1
  exact sz_end h0
def m_EventS (x : List TEvent) : Nat := x.length + (x.map m_Event).sum
def W_EventS (x : List TEvent) : Prop := x.length ≤ 9223372036854775807 ∧ ∀ y ∈ x, W_Event y
theorem szEventS_ev (x : List TEvent) (w : W_EventS x) (left : Int) (h0 : 0 ≤ left) (h1 : left ≤ 1048576) : Ev (fun k => l_szEventS k x left) (lft (m_EventS x) left) := szS_ev dTEvent m_Event (fun k y q => l_szEvent k y q) x w.1 (fun y hy q h0 h1 => szEvent_ev y (w.2 y hy) q h0 h1) (fun k n q i => l0_l_szEventS k n x q i) (fun _ _ _ _ => rfl) left h0 h1
theorem toIntS_ev (x : List Int) (h : m_IntS x ≤ 1048576) : Ev (fun k => l_toIntS k x) x := toS_ev 0 (fun _ y => some y) x (by unfold m_IntS at h; omega) (fun y hy => .of fun _ => rfl) (fun k n i ys => l0_l_toIntS k n x i ys) (fun _ _ _ _ => rfl)
theorem toEvent_ev (x : TEvent) (h : m_Event x ≤ 1048576) : Ev (fun k => l_toEvent k x) x := by
  unfold m_Event at h
  unfold l_toEvent
  refine (toIntS_ev x.2.2.2.2.2.1 (by omega)).bd ?_
  refine (toIntS_ev x.2.2.2.2.2.2.2.1 (by omega)).bd ?_
  exact .of fun _ => rfl
theorem toEventS_ev (x : List TEvent) (h : m_EventS x ≤ 1048576) : Ev (fun k => l_toEventS k x) x := toS_ev dTEvent (fun k y => l_toEvent k y) x (by unfold m_EventS at h; omega) (fun y hy => toEvent_ev y (by have := mem_sum m_Event hy; unfold m_EventS at h; omega)) (fun k n i ys => l0_l_toEventS k n x i ys) (fun _ _ _ _ => rfl)
theorem eqIntS_ev (x : List Int) (h : m_IntS x ≤ 1048576) : Ev (fun k => l_eqIntS k x x) true := eqS_self 0 x (by unfold m_IntS at h; omega) (fun k n i => l0_l_eqIntS k n x x i) (fun k n i h0 h1 => by simp [l0_l_eqIntS, b0_l_eqIntS, h0, h1])  (fun k n => by simp [l0_l_eqIntS, b0_l_eqIntS])
theorem eqEvent_ev (x : TEvent) (h : m_Event x ≤ 1048576) : Ev (fun k => l_eqEvent k x x) true := by
  unfold m_Event at h
  unfold l_eqEvent
  try simp
  refine (eqIntS_ev x.2.2.2.2.2.1 (by omega)).bd ?_
  try simp
  refine (eqIntS_ev x.2.2.2.2.2.2.2.1 (by omega)).bd ?_
  try simp
  exact .of fun _ => rfl
theorem eqEventS_ev (x : List TEvent) (h : m_EventS x ≤ 1048576) : Ev (fun k => l_eqEventS k x x) true := eqS_ev dTEvent (fun k y z => l_eqEvent k y z) x (by unfold m_EventS at h; omega) (fun y hy => eqEvent_ev y (by have := mem_sum m_Event hy; unfold m_EventS at h; omega)) (fun k n i => l0_l_eqEventS k n x x i) (fun _ _ _ => rfl)
def m_ItemS (x : List TItem) : Nat := x.length
def W_ItemS (x : List TItem) : Prop := x.length ≤ 9223372036854775807
theorem szItemS_ev (x : List TItem) (w : W_ItemS x) (left : Int) (h0 : 0 ≤ left) (h1 : left ≤ 1048576) : Ev (fun k => l_szItemS k x left) (lft (m_ItemS x) left) := .of fun k => szS0 h0 h1 w
def m_ItemSS (x : List (List TItem)) : Nat := x.length + (x.map m_ItemS).sum
def W_ItemSS (x : List (List TItem)) : Prop := x.length ≤ 9223372036854775807 ∧ ∀ y ∈ x, W_ItemS y
theorem szItemSS_ev (x : List (List TItem)) (w : W_ItemSS x) (left : Int) (h0 : 0 ≤ left) (h1 : left ≤ 1048576) : Ev (fun k => l_szItemSS k x left) (lft (m_ItemSS x) left) := szS_ev [] m_ItemS (fun k y q => l_szItemS k y q) x w.1 (fun y hy q h0 h1 => szItemS_ev y (w.2 y hy) q h0 h1) (fun k n q i => l0_l_szItemSS k n x q i) (fun _ _ _ _ => rfl) left h0 h1
def m_BoolS (x : List Bool) : Nat := x.length
def W_BoolS (x : List Bool) : Prop := x.length ≤ 9223372036854775807
theorem szBoolS_ev (x : List Bool) (w : W_BoolS x) (left : Int) (h0 : 0 ≤ left) (h1 : left ≤ 1048576) : Ev (fun k => l_szBoolS k x left) (lft (m_BoolS x) left) := .of fun k => szS0 h0 h1 w
def m_Room (x : TRoom) : Nat := m_EventS x.1 + (m_ItemSS x.2.1 + (m_BoolS x.2.2.1 + (0)))
def W_Room (x : TRoom) : Prop := W_EventS x.1 ∧ W_ItemSS x.2.1 ∧ W_BoolS x.2.2.1
theorem szRoom_ev (x : TRoom) (w : W_Room x) (left : Int) (h0 : 0 ≤ left) (h1 : left ≤ 1048576) : Ev (fun k => l_szRoom k x left) (lft (m_Room x) left) := by
  unfold l_szRoom m_Room
  refine sz_bd h0 (szEventS_ev x.1 w.1 left h0 h1) (fun left h0 h1 => ?_) h1
  refine sz_bd h0 (szItemSS_ev x.2.1 w.2.1 left h0 h1) (fun left h0 h1 => ?_) h1
  refine sz_bd h0 (szBoolS_ev x.2.2.1 w.2.2 left h0 h1) (fun left h0 h1 => ?_) h1
  exact sz_end h0
def m_Item (x : TItem) : Nat := 0
def W_Item (x : TItem) : Prop := True
theorem toItem_ev (x : TItem) (h : m_Item x ≤ 1048576) : Ev (fun k => l_toItem k x) x := by
  unfold m_Item at h
  unfold l_toItem
  exact .of fun _ => rfl
theorem toItemS_ev (x : List TItem) (h : m_ItemS x ≤ 1048576) : Ev (fun k => l_toItemS k x) x := toS_ev dTItem (fun k y => l_toItem k y) x (by unfold m_ItemS at h; omega) (fun y hy => toItem_ev y (by unfold m_Item; omega)) (fun k n i ys => l0_l_toItemS k n x i ys) (fun _ _ _ _ => rfl)
theorem toItemSS_ev (x : List (List TItem)) (h : m_ItemSS x ≤ 1048576) : Ev (fun k => l_toItemSS k x) x := toS_ev [] (fun k y => l_toItemS k y) x (by unfold m_ItemSS at h; omega) (fun y hy => toItemS_ev y (by have := mem_sum m_ItemS hy; unfold m_ItemSS at h; omega)) (fun k n i ys => l0_l_toItemSS k n x i ys) (fun _ _ _ _ => rfl)
theorem toBoolS_ev (x : List Bool) (h : m_BoolS x ≤ 1048576) : Ev (fun k => l_toBoolS k x) x := toS_ev false (fun _ y => some y) x (by unfold m_BoolS at h; omega) (fun y hy => .of fun _ => rfl) (fun k n i ys => l0_l_toBoolS k n x i ys) (fun _ _ _ _ => rfl)
theorem toRoom_ev (x : TRoom) (h : m_Room x ≤ 1048576) : Ev (fun k => l_toRoom k x) x := by
  unfold m_Room at h
  unfold l_toRoom
  refine (toEventS_ev x.1 (by omega)).bd ?_
  refine (toItemSS_ev x.2.1 (by omega)).bd ?_
  refine (toBoolS_ev x.2.2.1 (by omega)).bd ?_
  exact .of fun _ => rfl
def m_StringS (x : List ByteArray) : Nat := x.length + (x.map (fun y => y.size)).sum
def W_StringS (x : List ByteArray) : Prop := x.length ≤ 9223372036854775807 ∧ ∀ y ∈ x, y.size ≤ 9223372036854775807
theorem eqStringS_ev (x : List ByteArray) (h : m_StringS x ≤ 1048576) : Ev (fun k => l_eqStringS k x x) true := eqS_self ByteArray.empty x (by unfold m_StringS at h; omega) (fun k n i => l0_l_eqStringS k n x x i) (fun k n i h0 h1 => by simp [l0_l_eqStringS, b0_l_eqStringS, h0, h1])  (fun k n => by simp [l0_l_eqStringS, b0_l_eqStringS])
theorem eqItem_ev (x : TItem) (h : m_Item x ≤ 1048576) : Ev (fun k => l_eqItem k x x) true := by
  unfold m_Item at h
  unfold l_eqItem
  try simp
  exact .of fun _ => rfl
theorem eqItemS_ev (x : List TItem) (h : m_ItemS x ≤ 1048576) : Ev (fun k => l_eqItemS k x x) true := eqS_ev dTItem (fun k y z => l_eqItem k y z) x (by unfold m_ItemS at h; omega) (fun y hy => eqItem_ev y (by unfold m_Item; omega)) (fun k n i => l0_l_eqItemS k n x x i) (fun _ _ _ => rfl)
theorem eqItemSS_ev (x : List (List TItem)) (h : m_ItemSS x ≤ 1048576) : Ev (fun k => l_eqItemSS k x x) true := eqS_ev [] (fun k y z => l_eqItemS k y z) x (by unfold m_ItemSS at h; omega) (fun y hy => eqItemS_ev y (by have := mem_sum m_ItemS hy; unfold m_ItemSS at h; omega)) (fun k n i => l0_l_eqItemSS k n x x i) (fun _ _ _ => rfl)
theorem eqBoolS_ev (x : List Bool) (h : m_BoolS x ≤ 1048576) : Ev (fun k => l_eqBoolS k x x) true := eqS_self false x (by unfold m_BoolS at h; omega) (fun k n i => l0_l_eqBoolS k n x x i) (fun k n i h0 h1 => by simp [l0_l_eqBoolS, b0_l_eqBoolS, h0, h1])  (fun k n => by simp [l0_l_eqBoolS, b0_l_eqBoolS])
theorem eqRoom_ev (x : TRoom) (h : m_Room x ≤ 1048576) : Ev (fun k => l_eqRoom k x x) true := by
  unfold m_Room at h
  unfold l_eqRoom
  try simp
  refine (eqEventS_ev x.1 (by omega)).bd ?_
  try simp
  refine (eqItemSS_ev x.2.1 (by omega)).bd ?_
  try simp
  refine (eqBoolS_ev x.2.2.1 (by omega)).bd ?_
  try simp
  exact .of fun _ => rfl
def mk_IntS (x : List Int) (k : Int) : List Int := mkL (fun (y : Int) k => k) (fun _ => 1) x k
abbrev ct_IntS (x : List Int) : Nat := ctL (fun _ => 1) x
theorem mkln_IntS (x : List Int) (k : Int) : (mk_IntS x k).length = x.length := mkL_length _ _ _ _
theorem ctle_IntS (x : List Int) : ct_IntS x ≤ 1000 * m_IntS x := by
  have e : ct_IntS x = 1 * x.length := ctL_const _ _
  unfold m_IntS
  omega
/-- A mark's text. -/
theorem markText_some (k : Int) (h0 : 0 ≤ k) (h1 : k ≤ 274877906944) : ∃ v, Ev (fun n => l_markText n k) v := by
  unfold l_markText g_l_markText
  by_cases hk : k ≤ 0
  · exact ⟨_, .of fun n => by rw [show decide (k ≤ 0) = true by simpa using hk]; rfl⟩
  · have hr : Re (fun x : Nat × Nat => l0_l_markText x.1 x.2 k (⟨#[]⟩ : ByteArray)) (fun _ => True) := by
      refine Re.loop (l := fun x n (s : Int × ByteArray) => l0_l_markText x n s.1 s.2) (I := fun s => 0 ≤ s.1 ∧ s.1 ≤ 274877906944 ∧ s.2.size + s.1.toNat ≤ 274877906945) (fun s => s.1.toNat) (Q := fun _ _ => True) (fun s hs ih => ?_) (k, (⟨#[]⟩ : ByteArray)) ⟨h0, h1, by show 0 + k.toNat ≤ _; omega⟩
      obtain ⟨a, b⟩ := s
      obtain ⟨g0, g1, g2⟩ := hs
      show Re (fun x : Nat × Nat => b0_l_markText x.1 (l0_l_markText x.1 x.2) a b) _
      unfold b0_l_markText
      dsimp only at g0 g1 g2 ih ⊢
      have hsz : ∀ n : Int, (strOfNums [n]).size = 1 := fun n => rfl
      have hsz2 : ∀ n : Int, ((strOfNums [n]) ++ b).size = 1 + b.size := fun n => by rw [ByteArray.size_append]; rfl
      refine Re.br (fun hp => ?_) (fun hp => ?_)
      · have hp : a > 0 := of_decide_eq_true hp
        refine Re.ng (by simp) ?_
        refine Re.gd (decide_eq_true (by rw [hsz]; unfold maxRow; omega)) ?_
        refine Re.ng (by simp) ?_
        have hq : Int.tdiv a 10 = a / 10 := Int.tdiv_eq_ediv_of_nonneg g0
        have hw : w64 (Int.tdiv a 10) = a / 10 := by rw [hq]; exact w64_eq (by omega) (by omega)
        rw [hw]
        exact ih (a / 10, _) ⟨by dsimp only; omega, by dsimp only; omega, by dsimp only; rw [hsz2]; omega⟩ (by dsimp only; omega)
      · have h4 : (⟨#[109]⟩ : ByteArray).size = 1 := rfl
        refine Re.gd (decide_eq_true (by rw [h4]; unfold maxRow; omega)) (Re.ret trivial)
    obtain ⟨v, _, K, hK⟩ := Re.enter (f := fun x n => l0_l_markText x n k (⟨#[]⟩ : ByteArray)) (κ := fun k : Nat => k) among_nat hr
    exact ⟨v, K, fun n hn => by
      rw [show decide (k ≤ 0) = false by simpa using hk]
      exact hK n hn⟩
open Classical in
noncomputable def mkText (k : Int) : ByteArray := if h : ∃ v, Ev (fun n => l_markText n k) v then h.choose else ByteArray.empty
theorem mkText_ev (k : Int) (h0 : 0 ≤ k) (h1 : k ≤ 274877906944) : Ev (fun n => l_markText n k) (mkText k) := by
  have h := markText_some k h0 h1
  unfold mkText
  rw [dif_pos h]
  exact h.choose_spec
noncomputable def mkE_EventS (y : TEvent) (k : Int) : TEvent := (k, (k + 1), (k + 1 + 1), (k + 1 + 1 + 1), (k + 1 + 1 + 1 + 1), mk_IntS y.2.2.2.2.2.1 (k + 1 + 1 + 1 + 1 + 1), mkText (k + 1 + 1 + 1 + 1 + 1 + (ct_IntS y.2.2.2.2.2.1 : Int)), mk_IntS y.2.2.2.2.2.2.2.1 (k + 1 + 1 + 1 + 1 + 1 + (ct_IntS y.2.2.2.2.2.1 : Int) + 1), (k + 1 + 1 + 1 + 1 + 1 + (ct_IntS y.2.2.2.2.2.1 : Int) + 1 + (ct_IntS y.2.2.2.2.2.2.2.1 : Int)), ())
def ctE_EventS (y : TEvent) : Nat := ct_IntS y.2.2.2.2.2.1 + (ct_IntS y.2.2.2.2.2.2.2.1 + (7))
noncomputable def mk_EventS (x : List TEvent) (k : Int) : List TEvent := mkL mkE_EventS ctE_EventS x k
abbrev ct_EventS (x : List TEvent) : Nat := ctL ctE_EventS x
theorem ctle_EventS (x : List TEvent) : ct_EventS x ≤ 1000 * m_EventS x := by
  refine ctL_le_sum ctE_EventS m_Event (fun y => ?_) x
  have h5 := ctle_IntS y.2.2.2.2.2.1
  have h7 := ctle_IntS y.2.2.2.2.2.2.2.1
  unfold ctE_EventS m_Event
  omega
theorem markIntS_ev (x : List Int) (k : Int) (h0 : 0 ≤ k) (h1 : k + ct_IntS x ≤ 1099511627776) (h2 : x.length ≤ 1048576) : Ev (fun n => l_markIntS n x k) (k + (ct_IntS x : Int), mk_IntS x k, ()) := by
  refine markS_ev (l := fun k n a i ys => l0_l_markIntS k n a (i : Int) ys) (fun (y : Int) k => k) (fun _ => 1) x k (fun i hi a ys ha hl hy => ⟨0, fun k _ n => ?_⟩) (fun a ys hl k n => by simp [l0_l_markIntS, b0_l_markIntS, hl])
  unfold ct_IntS at h1
  have hb := ctL_lt (fun _ : Int => 1) hi
  have e2 := idx_succ hi (by omega)
  have w0 : w64 (a + 1) = a + 1 := w64_eq (by omega) (by omega)
  simp only [l0_l_markIntS, b0_l_markIntS, List.length_set, hl, hi, hy, e2, rd_set, Int.ofNat_lt, Int.natCast_nonneg, decide_true, br_true, gd_true, Int.toNat_natCast, List.set_set, w0]
  try simp [Int.add_assoc]
theorem mrkIntS_ev (x : List Int) (k : Int) (h0 : 0 ≤ k) (h1 : k + 1000 * m_IntS x ≤ 1099511627776) (h2 : m_IntS x ≤ 1048576) : Ev (fun n => l_markIntS n x k) (k + (ct_IntS x : Int), mk_IntS x k, ()) := by
  have e := ctle_IntS x
  exact markIntS_ev x k h0 (by omega) (by unfold m_IntS at h2; omega)
theorem mrkEventS_ev (x : List TEvent) (k : Int) (h0 : 0 ≤ k) (h1 : k + 1000 * m_EventS x ≤ 274877906944) (h2 : m_EventS x ≤ 1048576) : Ev (fun n => l_markEventS n x k) (k + (ct_EventS x : Int), mk_EventS x k, ()) := by
  have hct : ctL ctE_EventS x ≤ 1000 * m_EventS x := ctle_EventS x
  have hlen : x.length ≤ 1048576 := by unfold m_EventS at h2; omega
  refine markS_ev (l := fun k n a i ys => l0_l_markEventS k n a (i : Int) ys) mkE_EventS ctE_EventS x k (fun i hi a ys ha hl hy => ?_) (fun a ys hl k n => by simp [l0_l_markEventS, b0_l_markEventS, hl])
  have hb := ctL_lt ctE_EventS hi
  have hrd : ∀ (d w : TEvent), rd d (ys.set i w) i = w := fun d w => rd_set (by omega)
  have e2 := idx_succ hi (by omega)
  have hm := mem_sum m_Event (List.getElem_mem hi)
  have h3 := h2
  unfold m_EventS at h3
  have hc : ctE_EventS x[i] = ct_IntS x[i].2.2.2.2.2.1 + (ct_IntS x[i].2.2.2.2.2.2.2.1 + (7)) := rfl
  have hm2 : m_Event x[i] = m_IntS x[i].2.2.2.2.2.1 + (x[i].2.2.2.2.2.2.1.size + (m_IntS x[i].2.2.2.2.2.2.2.1 + (0))) := rfl
  have c0 := ctle_IntS (x[i].2.2.2.2.2.1)
  have c1 := ctle_IntS (x[i].2.2.2.2.2.2.2.1)
  have w0 : w64 (a + 1) = a + 1 := w64_eq (by omega) (by omega)
  have w1 : w64 (a + 1 + 1) = a + 1 + 1 := w64_eq (by omega) (by omega)
  have w2 : w64 (a + 1 + 1 + 1) = a + 1 + 1 + 1 := w64_eq (by omega) (by omega)
  have w3 : w64 (a + 1 + 1 + 1 + 1) = a + 1 + 1 + 1 + 1 := w64_eq (by omega) (by omega)
  have w4 : w64 (a + 1 + 1 + 1 + 1 + 1) = a + 1 + 1 + 1 + 1 + 1 := w64_eq (by omega) (by omega)
  obtain ⟨K5, q5⟩ := mrkIntS_ev (x[i].2.2.2.2.2.1) (a + 1 + 1 + 1 + 1 + 1) (by omega) (by omega) (by omega)
  obtain ⟨K6, q6⟩ := mkText_ev (a + 1 + 1 + 1 + 1 + 1 + (ct_IntS x[i].2.2.2.2.2.1 : Int)) (by omega) (by omega)
  have w6 : w64 (a + 1 + 1 + 1 + 1 + 1 + (ct_IntS x[i].2.2.2.2.2.1 : Int) + 1) = a + 1 + 1 + 1 + 1 + 1 + (ct_IntS x[i].2.2.2.2.2.1 : Int) + 1 := w64_eq (by omega) (by omega)
  obtain ⟨K7, q7⟩ := mrkIntS_ev (x[i].2.2.2.2.2.2.2.1) (a + 1 + 1 + 1 + 1 + 1 + (ct_IntS x[i].2.2.2.2.2.1 : Int) + 1) (by omega) (by omega) (by omega)
  have w8 : w64 (a + 1 + 1 + 1 + 1 + 1 + (ct_IntS x[i].2.2.2.2.2.1 : Int) + 1 + (ct_IntS x[i].2.2.2.2.2.2.2.1 : Int) + 1) = a + 1 + 1 + 1 + 1 + 1 + (ct_IntS x[i].2.2.2.2.2.1 : Int) + 1 + (ct_IntS x[i].2.2.2.2.2.2.2.1 : Int) + 1 := w64_eq (by omega) (by omega)
  refine ⟨K5 + K6 + K7, fun k hk n => ?_⟩
  have pq5 := q5 k (by omega)
  have pq6 := q6 k (by omega)
  have pq7 := q7 k (by omega)
  show b0_l_markEventS k (l0_l_markEventS k n) a (i : Int) ys = _
  unfold b0_l_markEventS
  simp only [hl, hy, hrd, List.length_set, List.set_set, e2, hi, Int.ofNat_lt, Int.natCast_nonneg, decide_true, br_true, gd_true, bd_some, Int.toNat_natCast, Nat.beq_refl, mkln_IntS, mkln_IntS, w0, w1, w2, w3, w4, w6, w8, pq5, pq6, pq7]
  repeat (rw [lt_eq]; try simp only [hl, hy, hrd, List.length_set, List.set_set, e2, hi, Int.ofNat_lt, Int.natCast_nonneg, decide_true, br_true, gd_true, bd_some, Int.toNat_natCast, Nat.beq_refl, mkln_IntS, mkln_IntS, w0, w1, w2, w3, w4, w6, w8, pq5, pq6, pq7])
  simp only [mkE_EventS, ctE_EventS]
  try congr 1
  all_goals (try simp)
  all_goals (try omega)
abbrev mk_Event (x : TEvent) (k : Int) : TEvent := (x.1, x.2.1, x.2.2.1, x.2.2.2.1, x.2.2.2.2.1, mk_IntS x.2.2.2.2.2.1 k, x.2.2.2.2.2.2.1, mk_IntS x.2.2.2.2.2.2.2.1 (k + (ct_IntS x.2.2.2.2.2.1 : Int)), x.2.2.2.2.2.2.2.2.1, ())
abbrev ct_Event (x : TEvent) : Nat := ct_IntS x.2.2.2.2.2.1 + ct_IntS x.2.2.2.2.2.2.2.1
theorem heldIntS_ev (x : List Int) (k0 : Int) (h0 : 0 ≤ k0) (h1 : k0 + ct_IntS x ≤ 1099511627776) (h2 : x.length ≤ 1048576) : Ev (fun n => l_heldIntS n (mk_IntS x k0) k0) (k0 + (ct_IntS x : Int)) := by
  have hl : (mk_IntS x k0).length = x.length := mkL_length _ _ _ _
  refine heldS_ev (l := fun k n a i => l0_l_heldIntS k n (mk_IntS x k0) a (i : Int)) (fun (y : Int) k => k) (fun _ => 1) x k0 (fun i hi a ha hy => ⟨0, fun k _ n => ?_⟩) (fun a k n => by simp [l0_l_heldIntS, b0_l_heldIntS, hl])
  unfold ct_IntS at h1
  have hb := ctL_lt (fun _ : Int => 1) hi
  have e2 := idx_succ hi (by omega)
  have hz : ∀ d, rd d (mk_IntS x k0) i = _ := hy
  have w0 : w64 (a + 1) = a + 1 := w64_eq (by omega) (by omega)
  simp only [l0_l_heldIntS, b0_l_heldIntS, hl, hi, hz, e2, Int.ofNat_lt, Int.natCast_nonneg, decide_true, br_true, gd_true, Int.toNat_natCast, w0]
  try simp [Int.add_assoc]
theorem ctle_Event (x : TEvent) : ct_Event x ≤ 1000 * m_Event x := by
  unfold ct_Event m_Event
  have e_0 : ct_IntS x.2.2.2.2.2.1 = 1 * m_IntS x.2.2.2.2.2.1 := ctL_const _ _
  have e_1 : ct_IntS x.2.2.2.2.2.2.2.1 = 1 * m_IntS x.2.2.2.2.2.2.2.1 := ctL_const _ _
  omega
theorem heldEvent_ev (x : TEvent) (k : Int) (h0 : 0 ≤ k) (h1 : k + 1000 * m_Event x ≤ 1099511627776) (h2 : m_Event x ≤ 1048576) : Ev (fun n => l_heldEvent n (mk_Event x k) k) (k + (ct_Event x : Int)) := by
  unfold m_Event at h1 h2
  have e_0 : ct_IntS x.2.2.2.2.2.1 = 1 * m_IntS x.2.2.2.2.2.1 := ctL_const _ _
  have l_0 : m_IntS x.2.2.2.2.2.1 = x.2.2.2.2.2.1.length := rfl
  have e_1 : ct_IntS x.2.2.2.2.2.2.2.1 = 1 * m_IntS x.2.2.2.2.2.2.2.1 := ctL_const _ _
  have l_1 : m_IntS x.2.2.2.2.2.2.2.1 = x.2.2.2.2.2.2.2.1.length := rfl
  unfold l_heldEvent
  refine (heldIntS_ev _ _ (by omega) (by omega) (by omega)).bd ?_
  refine ex_neg (by omega) ?_
  refine (heldIntS_ev _ _ (by omega) (by omega) (by omega)).bd ?_
  refine ex_neg (by omega) ?_
  refine .of fun _ => ?_
  simp [ct_Event, Int.add_assoc]
def mk_ItemS (x : List TItem) (k : Int) : List TItem := mkL (fun (y : TItem) k => (k, (k + 1), ())) (fun _ => 2) x k
abbrev ct_ItemS (x : List TItem) : Nat := ctL (fun _ => 2) x
theorem mkln_ItemS (x : List TItem) (k : Int) : (mk_ItemS x k).length = x.length := mkL_length _ _ _ _
theorem ctle_ItemS (x : List TItem) : ct_ItemS x ≤ 1000 * m_ItemS x := by
  have e : ct_ItemS x = 2 * x.length := ctL_const _ _
  unfold m_ItemS
  omega
noncomputable def mkE_ItemSS (y : List TItem) (k : Int) : List TItem := mk_ItemS y k
def ctE_ItemSS (y : List TItem) : Nat := ct_ItemS y + (0)
noncomputable def mk_ItemSS (x : List (List TItem)) (k : Int) : List (List TItem) := mkL mkE_ItemSS ctE_ItemSS x k
abbrev ct_ItemSS (x : List (List TItem)) : Nat := ctL ctE_ItemSS x
theorem ctle_ItemSS (x : List (List TItem)) : ct_ItemSS x ≤ 1000 * m_ItemSS x := by
  refine ctL_le_sum ctE_ItemSS m_ItemS (fun y => ?_) x
  have h0 := ctle_ItemS y
  unfold ctE_ItemSS
  omega
theorem markItemS_ev (x : List TItem) (k : Int) (h0 : 0 ≤ k) (h1 : k + ct_ItemS x ≤ 1099511627776) (h2 : x.length ≤ 1048576) : Ev (fun n => l_markItemS n x k) (k + (ct_ItemS x : Int), mk_ItemS x k, ()) := by
  refine markS_ev (l := fun k n a i ys => l0_l_markItemS k n a (i : Int) ys) (fun (y : TItem) k => (k, (k + 1), ())) (fun _ => 2) x k (fun i hi a ys ha hl hy => ⟨0, fun k _ n => ?_⟩) (fun a ys hl k n => by simp [l0_l_markItemS, b0_l_markItemS, hl])
  unfold ct_ItemS at h1
  have hb := ctL_lt (fun _ : TItem => 2) hi
  have e2 := idx_succ hi (by omega)
  have w0 : w64 (a + 1) = a + 1 := w64_eq (by omega) (by omega)
  have w1 : w64 (a + 1 + 1) = a + 1 + 1 := w64_eq (by omega) (by omega)
  simp only [l0_l_markItemS, b0_l_markItemS, List.length_set, hl, hi, hy, e2, rd_set, Int.ofNat_lt, Int.natCast_nonneg, decide_true, br_true, gd_true, Int.toNat_natCast, List.set_set, w0, w1]
  try simp [Int.add_assoc]
theorem mrkItemS_ev (x : List TItem) (k : Int) (h0 : 0 ≤ k) (h1 : k + 1000 * m_ItemS x ≤ 1099511627776) (h2 : m_ItemS x ≤ 1048576) : Ev (fun n => l_markItemS n x k) (k + (ct_ItemS x : Int), mk_ItemS x k, ()) := by
  have e := ctle_ItemS x
  exact markItemS_ev x k h0 (by omega) (by unfold m_ItemS at h2; omega)
theorem mrkItemSS_ev (x : List (List TItem)) (k : Int) (h0 : 0 ≤ k) (h1 : k + 1000 * m_ItemSS x ≤ 274877906944) (h2 : m_ItemSS x ≤ 1048576) : Ev (fun n => l_markItemSS n x k) (k + (ct_ItemSS x : Int), mk_ItemSS x k, ()) := by
  have hct : ctL ctE_ItemSS x ≤ 1000 * m_ItemSS x := ctle_ItemSS x
  have hlen : x.length ≤ 1048576 := by unfold m_ItemSS at h2; omega
  refine markS_ev (l := fun k n a i ys => l0_l_markItemSS k n a (i : Int) ys) mkE_ItemSS ctE_ItemSS x k (fun i hi a ys ha hl hy => ?_) (fun a ys hl k n => by simp [l0_l_markItemSS, b0_l_markItemSS, hl])
  have hb := ctL_lt ctE_ItemSS hi
  have hrd : ∀ (d w : List TItem), rd d (ys.set i w) i = w := fun d w => rd_set (by omega)
  have e2 := idx_succ hi (by omega)
  have hm := mem_sum m_ItemS (List.getElem_mem hi)
  have h3 := h2
  unfold m_ItemSS at h3
  have hc : ctE_ItemSS x[i] = ct_ItemS x[i] + (0) := rfl
  have c0 := ctle_ItemS (x[i])
  obtain ⟨K0, q0⟩ := mrkItemS_ev (x[i]) (a) (by omega) (by omega) (by omega)
  refine ⟨K0, fun k hk n => ?_⟩
  have pq0 := q0 k (by omega)
  show b0_l_markItemSS k (l0_l_markItemSS k n) a (i : Int) ys = _
  unfold b0_l_markItemSS
  simp only [hl, hy, hrd, List.length_set, List.set_set, e2, hi, Int.ofNat_lt, Int.natCast_nonneg, decide_true, br_true, gd_true, bd_some, Int.toNat_natCast, Nat.beq_refl, mkln_ItemS, pq0]
  repeat (rw [lt_eq]; try simp only [hl, hy, hrd, List.length_set, List.set_set, e2, hi, Int.ofNat_lt, Int.natCast_nonneg, decide_true, br_true, gd_true, bd_some, Int.toNat_natCast, Nat.beq_refl, mkln_ItemS, pq0])
  simp only [mkE_ItemSS, ctE_ItemSS]
  try congr 1
  all_goals (try simp)
  all_goals (try omega)
def mk_BoolS (x : List Bool) (k : Int) : List Bool := mkL (fun (y : Bool) k => (Int.tmod k 3 == 0)) (fun _ => 1) x k
abbrev ct_BoolS (x : List Bool) : Nat := ctL (fun _ => 1) x
theorem mkln_BoolS (x : List Bool) (k : Int) : (mk_BoolS x k).length = x.length := mkL_length _ _ _ _
theorem ctle_BoolS (x : List Bool) : ct_BoolS x ≤ 1000 * m_BoolS x := by
  have e : ct_BoolS x = 1 * x.length := ctL_const _ _
  unfold m_BoolS
  omega
theorem markBoolS_ev (x : List Bool) (k : Int) (h0 : 0 ≤ k) (h1 : k + ct_BoolS x ≤ 1099511627776) (h2 : x.length ≤ 1048576) : Ev (fun n => l_markBoolS n x k) (k + (ct_BoolS x : Int), mk_BoolS x k, ()) := by
  refine markS_ev (l := fun k n a i ys => l0_l_markBoolS k n a (i : Int) ys) (fun (y : Bool) k => (Int.tmod k 3 == 0)) (fun _ => 1) x k (fun i hi a ys ha hl hy => ⟨0, fun k _ n => ?_⟩) (fun a ys hl k n => by simp [l0_l_markBoolS, b0_l_markBoolS, hl])
  unfold ct_BoolS at h1
  have hb := ctL_lt (fun _ : Bool => 1) hi
  have e2 := idx_succ hi (by omega)
  have w0 : w64 (a + 1) = a + 1 := w64_eq (by omega) (by omega)
  simp only [l0_l_markBoolS, b0_l_markBoolS, List.length_set, hl, hi, hy, e2, rd_set, Int.ofNat_lt, Int.natCast_nonneg, decide_true, br_true, gd_true, Int.toNat_natCast, List.set_set, w0]
  try simp [Int.add_assoc]
theorem mrkBoolS_ev (x : List Bool) (k : Int) (h0 : 0 ≤ k) (h1 : k + 1000 * m_BoolS x ≤ 1099511627776) (h2 : m_BoolS x ≤ 1048576) : Ev (fun n => l_markBoolS n x k) (k + (ct_BoolS x : Int), mk_BoolS x k, ()) := by
  have e := ctle_BoolS x
  exact markBoolS_ev x k h0 (by omega) (by unfold m_BoolS at h2; omega)
noncomputable def mkE_StringS (y : ByteArray) (k : Int) : ByteArray := mkText k
def ctE_StringS (y : ByteArray) : Nat := 1
noncomputable def mk_StringS (x : List ByteArray) (k : Int) : List ByteArray := mkL mkE_StringS ctE_StringS x k
abbrev ct_StringS (x : List ByteArray) : Nat := ctL ctE_StringS x
theorem ctle_StringS (x : List ByteArray) : ct_StringS x ≤ 1000 * m_StringS x := by
  refine Nat.le_trans (ctL_le_sum ctE_StringS (fun y => y.size) (fun y => by unfold ctE_StringS; omega) x) ?_
  unfold m_StringS
  omega
theorem mrkStringS_ev (x : List ByteArray) (k : Int) (h0 : 0 ≤ k) (h1 : k + 1000 * m_StringS x ≤ 274877906944) (h2 : m_StringS x ≤ 1048576) : Ev (fun n => l_markStringS n x k) (k + (ct_StringS x : Int), mk_StringS x k, ()) := by
  have hct : ctL ctE_StringS x ≤ 1000 * m_StringS x := ctle_StringS x
  have hlen : x.length ≤ 1048576 := by unfold m_StringS at h2; omega
  refine markS_ev (l := fun k n a i ys => l0_l_markStringS k n a (i : Int) ys) mkE_StringS ctE_StringS x k (fun i hi a ys ha hl hy => ?_) (fun a ys hl k n => by simp [l0_l_markStringS, b0_l_markStringS, hl])
  have hb := ctL_lt ctE_StringS hi
  have hrd : ∀ (d w : ByteArray), rd d (ys.set i w) i = w := fun d w => rd_set (by omega)
  have e2 := idx_succ hi (by omega)
  have h3 := h2
  unfold m_StringS at h3
  have hc : ctE_StringS x[i] = 1 := rfl
  obtain ⟨K0, q0⟩ := mkText_ev (a) (by omega) (by omega)
  have w0 : w64 (a + 1) = a + 1 := w64_eq (by omega) (by omega)
  refine ⟨K0, fun k hk n => ?_⟩
  have pq0 := q0 k (by omega)
  show b0_l_markStringS k (l0_l_markStringS k n) a (i : Int) ys = _
  unfold b0_l_markStringS
  simp only [hl, hy, hrd, List.length_set, List.set_set, e2, hi, Int.ofNat_lt, Int.natCast_nonneg, decide_true, br_true, gd_true, bd_some, Int.toNat_natCast, Nat.beq_refl, w0, pq0]
  simp only [mkE_StringS, ctE_StringS]
  try congr 1
  all_goals (try simp)
  all_goals (try omega)
theorem hldStringS_ev (x : List ByteArray) (k0 : Int) (h0 : 0 ≤ k0) (h1 : k0 + 1000 * m_StringS x ≤ 274877906944) (h2 : m_StringS x ≤ 1048576) : Ev (fun n => l_heldStringS n (mk_StringS x k0) k0) (k0 + (ct_StringS x : Int)) := by
  have hct : ctL ctE_StringS x ≤ 1000 * m_StringS x := ctle_StringS x
  have hlen : x.length ≤ 1048576 := by unfold m_StringS at h2; omega
  have hl : (mk_StringS x k0).length = x.length := mkL_length _ _ _ _
  refine heldS_ev (l := fun k n a i => l0_l_heldStringS k n (mk_StringS x k0) a (i : Int)) mkE_StringS ctE_StringS x k0 (fun i hi a ha hy => ?_) (fun a k n => by simp [l0_l_heldStringS, b0_l_heldStringS, hl])
  have hb := ctL_lt ctE_StringS hi
  have e2 := idx_succ hi (by omega)
  have h3 := h2
  unfold m_StringS at h3
  have hc : ctE_StringS x[i] = 1 := rfl
  have ha0 : 0 ≤ a ∧ a + (ctE_StringS x[i] : Int) ≤ 274877906944 := by omega
  obtain ⟨K0, q0⟩ := mkText_ev (a) (by omega) (by omega)
  have w0 : w64 (a + 1) = a + 1 := w64_eq (by omega) (by omega)
  refine ⟨K0, fun k hk n => ?_⟩
  have pq0 := q0 k (by omega)
  have hz : ∀ d, rd d (mk_StringS x k0) i = mkE_StringS x[i] a := hy
  show b0_l_heldStringS k (l0_l_heldStringS k n) (mk_StringS x k0) a (i : Int) = _
  unfold b0_l_heldStringS
  have n0 : ∀ (f : List ByteArray) (c : Nat) (b : Int), 0 ≤ b → decide (b + (c : Int) < 0) = false := fun _ c b hb => by simp; omega
  simp only [hl, hz, mkE_StringS, e2, hi, Int.ofNat_lt, Int.natCast_nonneg, decide_true, br_true, br_false, gd_true, bd_some, Int.toNat_natCast, bne_self_eq_false, beq_self_eq_true, Bool.not_true, w0, pq0]
  simp only [ctE_StringS]
  try (simp [show ∀ z : Int, 0 ≤ z → ¬ z < 0 from fun z h => by omega])
  all_goals (try congr 1)
  all_goals (try omega)
theorem heldItemS_ev (x : List TItem) (k0 : Int) (h0 : 0 ≤ k0) (h1 : k0 + ct_ItemS x ≤ 1099511627776) (h2 : x.length ≤ 1048576) : Ev (fun n => l_heldItemS n (mk_ItemS x k0) k0) (k0 + (ct_ItemS x : Int)) := by
  have hl : (mk_ItemS x k0).length = x.length := mkL_length _ _ _ _
  refine heldS_ev (l := fun k n a i => l0_l_heldItemS k n (mk_ItemS x k0) a (i : Int)) (fun (y : TItem) k => (k, (k + 1), ())) (fun _ => 2) x k0 (fun i hi a ha hy => ⟨0, fun k _ n => ?_⟩) (fun a k n => by simp [l0_l_heldItemS, b0_l_heldItemS, hl])
  unfold ct_ItemS at h1
  have hb := ctL_lt (fun _ : TItem => 2) hi
  have e2 := idx_succ hi (by omega)
  have hz : ∀ d, rd d (mk_ItemS x k0) i = _ := hy
  have w0 : w64 (a + 1) = a + 1 := w64_eq (by omega) (by omega)
  have w1 : w64 (a + 1 + 1) = a + 1 + 1 := w64_eq (by omega) (by omega)
  simp only [l0_l_heldItemS, b0_l_heldItemS, hl, hi, hz, e2, Int.ofNat_lt, Int.natCast_nonneg, decide_true, br_true, gd_true, Int.toNat_natCast, w0, w1]
  try simp [Int.add_assoc]
theorem hldItemS_ev (x : List TItem) (k0 : Int) (h0 : 0 ≤ k0) (h1 : k0 + 1000 * m_ItemS x ≤ 1099511627776) (h2 : m_ItemS x ≤ 1048576) : Ev (fun n => l_heldItemS n (mk_ItemS x k0) k0) (k0 + (ct_ItemS x : Int)) := by
  have e := ctle_ItemS x
  exact heldItemS_ev x k0 h0 (by omega) (by unfold m_ItemS at h2; omega)
theorem hldIntS_ev (x : List Int) (k0 : Int) (h0 : 0 ≤ k0) (h1 : k0 + 1000 * m_IntS x ≤ 1099511627776) (h2 : m_IntS x ≤ 1048576) : Ev (fun n => l_heldIntS n (mk_IntS x k0) k0) (k0 + (ct_IntS x : Int)) := by
  have e := ctle_IntS x
  exact heldIntS_ev x k0 h0 (by omega) (by unfold m_IntS at h2; omega)
end Go.Vm
