/- Plain laws. -/
import Derived.Test.YtgkcajcpnlkdfaaJ2
set_option linter.unusedVariables false
set_option linter.unusedSimpArgs false
namespace Go.Vm
open Go
theorem i_copyEvent_eq (k : Nat) (e : TEvent) (h1 : e.2.2.2.2.2.1.length ≤ 1048576) (h2 : e.2.2.2.2.2.2.2.1.length ≤ 1048576) : i_copyEvent k e = some e := by
  unfold i_copyEvent
  rw [decide_eq_true (by unfold maxRow; omega), decide_eq_true (by unfold maxRow; omega)]
  rfl
/-- Rows that may be copied. -/
def CopyS (es : List TEvent) : Prop := es.length ≤ 1048576 ∧ ∀ i, i < es.length → (rd dTEvent es i).2.2.2.2.2.1.length ≤ 1048576 ∧ (rd dTEvent es i).2.2.2.2.2.2.2.1.length ≤ 1048576
theorem i_Known_ev (es : List TEvent) (h : CopyS es) (id : Int) : Ev (fun k => i_Known k es id) (findE es id) := by
  obtain ⟨h1, h2⟩ := h
  have := find_ev (l := fun k n i => l0_i_Known k n id es (i : Int)) es (fun e => e.1 == id) (fun e => (e, true)) (noEv, false) (fun i hi => ⟨0, fun k _ n => by
    have hc := i_copyEvent_eq k (rd dTEvent es i) (h2 i hi).1 (h2 i hi).2
    rw [rd_at hi] at hc
    simp only [l0_i_Known, b0_i_Known, Int.ofNat_lt, hi, Int.natCast_nonneg, decide_true, br_true, gd_true, Int.toNat_natCast, rd_at, idx_succ hi (by omega), hc, bd_some]⟩) ⟨0, fun k _ n => by
    simp only [l0_i_Known, b0_i_Known, Int.lt_irrefl, decide_false, br_false]⟩
  exact this
theorem findE_at {r : TRoom} (h : RoomI r) {i : Nat} (hi : i < r.1.length) : findE r.1 (rd dTEvent r.1 i).1 = (rd dTEvent r.1 i, true) := by
  rcases findE_cases r.1 (rd dTEvent r.1 i).1 with e | ⟨e, he, e2, e3⟩
  · exfalso
    unfold findE at e
    cases hf : r.1.find? fun x => x.1 == (rd dTEvent r.1 i).1 with
    | none =>
      rw [List.find?_eq_none] at hf
      have := hf (rd dTEvent r.1 i) (by rw [rd_at hi]; exact List.getElem_mem _)
      simp at this
    | some x => rw [hf] at e; cases e
  · obtain ⟨j, hj, rfl⟩ := List.getElem_of_mem he
    rw [← rd_at (z := dTEvent) hj] at e2 e3
    have : i = j := by
      rcases Nat.lt_trichotomy i j with q | q | q
      · exact absurd e3.symm (h.ids i j q hj)
      · exact q
      · exact absurd e3 (h.ids j i q hi)
    subst this
    exact e2
end Go.Vm
