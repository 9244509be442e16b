/- Plain laws. -/
import Derived.Test.YtgkcajcpnlkdfaaZ2
set_option linter.unusedVariables false
set_option linter.unusedSimpArgs false
namespace Go.Vm
open Go
/-! ### The program's answers about a state -/
def NoZ (es : List TEvent) : Prop := ∀ e ∈ es, e.1 ≠ 0
theorem i_At_ev (s : List TItem) (h : s.length ≤ 1048576) (key : Int) : Ev (fun k => i_At k s key) (atS s key) := by
  have := find_ev (l := fun k n i => l0_i_At k n key s (i : Int)) s (fun x => x.1 == key) (fun x => x.2.1) 0 (fun i hi => ⟨0, fun k _ n => by
    simp only [l0_i_At, b0_i_At, Int.ofNat_lt, hi, Int.natCast_nonneg, decide_true, br_true, gd_true, Int.toNat_natCast, rd_at, idx_succ hi (by omega)]⟩) ⟨0, fun k _ n => by
    simp only [l0_i_At, b0_i_At, Int.lt_irrefl, decide_false, br_false]⟩
  exact this
theorem findE_zero {es : List TEvent} (h : NoZ es) : findE es 0 = (noEv, false) := by
  rcases findE_cases es 0 with e | ⟨e, he, _, e3⟩
  · exact e
  · exact absurd e3 (h e he)
theorem i_tells_ev (es : List TEvent) (hc : CopyS es) (hz : NoZ es) (s : List TItem) (hs : s.length ≤ 1048576) (key : Int) : Ev (fun k => i_tells k es s key) (findE es (atS s key)) := by
  refine Re.eq (Re.c1 (i_At_ev s hs key) ?_)
  refine Re.bre (fun q => Re.ret (by rw [q, findE_zero hz])) (fun q => ?_)
  exact Re.c1 (i_Known_ev es hc _) (Re.ret rfl)
end Go.Vm
