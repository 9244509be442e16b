/- Data: measures, copies, likeness. -/
import Derived.Test.YtpcdgghbhgjgfaaWm
import Derived.Test.YtpcdgghbhgjgfaaG2
set_option linter.unusedVariables false
set_option linter.unusedSimpArgs false
namespace Go.Vm
open Go
def m_ItemS (x : List TItem) : Nat := x.length
def W_ItemS (x : List TItem) : Prop := x.length ≤ 9223372036854775807
theorem szItemS_ev (x : List TItem) (w : W_ItemS x) (left : Int) (h0 : 0 ≤ left) (h1 : left ≤ 1048576) : Ev (fun k => l_szItemS k x left) (lft (m_ItemS x) left) := .of fun k => szS0 h0 h1 w
def m_Item (x : TItem) : Nat := 0
def W_Item (x : TItem) : Prop := True
theorem toItem_ev (x : TItem) (h : m_Item x ≤ 1048576) : Ev (fun k => l_toItem k x) x := by
  unfold m_Item at h
  unfold l_toItem
  exact .of fun _ => rfl
theorem toItemS_ev (x : List TItem) (h : m_ItemS x ≤ 1048576) : Ev (fun k => l_toItemS k x) x := toS_ev dTItem (fun k y => l_toItem k y) x (by unfold m_ItemS at h; omega) (fun y hy => toItem_ev y (by unfold m_Item; omega)) (fun k n i ys => l0_l_toItemS k n x i ys) (fun _ _ _ _ => rfl)
theorem eqItem_ev (x : TItem) (h : m_Item x ≤ 1048576) : Ev (fun k => l_eqItem k x x) true := by
  unfold m_Item at h
  unfold l_eqItem
  try simp
  exact .of fun _ => rfl
theorem eqItemS_ev (x : List TItem) (h : m_ItemS x ≤ 1048576) : Ev (fun k => l_eqItemS k x x) true := eqS_ev dTItem (fun k y z => l_eqItem k y z) x (by unfold m_ItemS at h; omega) (fun y hy => eqItem_ev y (by unfold m_Item; omega)) (fun k n i => l0_l_eqItemS k n x x i) (fun _ _ _ => rfl)
def mk_ItemS (x : List TItem) (k : Int) : List TItem := mkL (fun (y : TItem) k => (k, (k + 1), ())) (fun _ => 2) x k
abbrev ct_ItemS (x : List TItem) : Nat := ctL (fun _ => 2) x
theorem markItemS_ev (x : List TItem) (k : Int) (h0 : 0 ≤ k) (h1 : k + ct_ItemS x ≤ 1099511627776) (h2 : x.length ≤ 1048576) : Ev (fun n => l_markItemS n x k) (k + (ct_ItemS x : Int), mk_ItemS x k, ()) := by
  refine markS_ev (l := fun k n a i ys => l0_l_markItemS k n a (i : Int) ys) (fun (y : TItem) k => (k, (k + 1), ())) (fun _ => 2) x k (fun i hi a ys ha hl hy => ⟨0, fun k _ n => ?_⟩) (fun a ys hl k n => by simp [l0_l_markItemS, b0_l_markItemS, hl])
  unfold ct_ItemS at h1
  have hb := ctL_lt (fun _ : TItem => 2) hi
  have e2 := idx_succ hi (by omega)
  have w0 : w64 (a + 1) = a + 1 := w64_eq (by omega) (by omega)
  have w1 : w64 (a + 1 + 1) = a + 1 + 1 := w64_eq (by omega) (by omega)
  simp only [l0_l_markItemS, b0_l_markItemS, List.length_set, hl, hi, hy, e2, rd_set, Int.ofNat_lt, Int.natCast_nonneg, decide_true, br_true, gd_true, Int.toNat_natCast, List.set_set, w0, w1]
  try simp [Int.add_assoc]
theorem heldItemS_ev (x : List TItem) (k0 : Int) (h0 : 0 ≤ k0) (h1 : k0 + ct_ItemS x ≤ 1099511627776) (h2 : x.length ≤ 1048576) : Ev (fun n => l_heldItemS n (mk_ItemS x k0) k0) (k0 + (ct_ItemS x : Int)) := by
  have hl : (mk_ItemS x k0).length = x.length := mkL_length _ _ _ _
  refine heldS_ev (l := fun k n a i => l0_l_heldItemS k n (mk_ItemS x k0) a (i : Int)) (fun (y : TItem) k => (k, (k + 1), ())) (fun _ => 2) x k0 (fun i hi a ha hy => ⟨0, fun k _ n => ?_⟩) (fun a k n => by simp [l0_l_heldItemS, b0_l_heldItemS, hl])
  unfold ct_ItemS at h1
  have hb := ctL_lt (fun _ : TItem => 2) hi
  have e2 := idx_succ hi (by omega)
  have hz : ∀ d, rd d (mk_ItemS x k0) i = _ := hy
  have w0 : w64 (a + 1) = a + 1 := w64_eq (by omega) (by omega)
  have w1 : w64 (a + 1 + 1) = a + 1 + 1 := w64_eq (by omega) (by omega)
  simp only [l0_l_heldItemS, b0_l_heldItemS, hl, hi, hz, e2, Int.ofNat_lt, Int.natCast_nonneg, decide_true, br_true, gd_true, Int.toNat_natCast, w0, w1]
  try simp [Int.add_assoc]
end Go.Vm
