/- Plain laws. -/
import Derived.Test.YtpcdgghbhgjgfaaZ3
set_option linter.unusedVariables false
set_option linter.unusedSimpArgs false
namespace Go.Vm
open Go
/-! ### The program's answers about a state -/
def NoZ (es : List TEvent) : Prop := ∀ e ∈ es, e.1 ≠ 0
theorem i_At_ev (s : List TItem) (h : s.length ≤ 1048576) (key : Int) : Ev (fun k => i_At k s key) (atS s key) := by
  have := find_ev (l := fun k n i => l0_i_At k n key s (i : Int)) s (fun x => x.1 == key) (fun x => x.2.1) 0 (fun i hi => ⟨0, fun k _ n => by
    simp only [l0_i_At, b0_i_At, Int.ofNat_lt, hi, Int.natCast_nonneg, decide_true, br_true, gd_true, Int.toNat_natCast, rd_at, idx_succ hi (by omega)]⟩) ⟨0, fun k _ n => by
    simp only [l0_i_At, b0_i_At, Int.lt_irrefl, decide_false, br_false]⟩
  exact this
theorem findE_zero {es : List TEvent} (h : NoZ es) : findE es 0 = (noEv, false) := by
  rcases findE_cases es 0 with e | ⟨e, he, _, e3⟩
  · exact e
  · exact absurd e3 (h e he)
theorem i_tells_ev (es : List TEvent) (hc : CopyS es) (hz : NoZ es) (s : List TItem) (hs : s.length ≤ 1048576) (key : Int) : Ev (fun k => i_tells k es s key) (findE es (atS s key)) := by
  refine Re.eq (Re.c1 (i_At_ev s hs key) ?_)
  refine Re.bre (fun q => Re.ret (by rw [q, findE_zero hz])) (fun q => ?_)
  exact Re.c1 (i_Known_ev es hc _) (Re.ret rfl)
def createdB (es : List TEvent) (s : List TItem) (u : Int) : Bool := (findE es (atS s 1)).2 && ((findE es (atS s 1)).1.2.1 == 1 && (findE es (atS s 1)).1.2.2.1 == u)
theorem created_eq (es : List TEvent) (s : List TItem) (u : Int) : created es s u = bif createdB es s u then 100 else 0 := rfl
theorem i_created_ev (es : List TEvent) (hc : CopyS es) (hz : NoZ es) (s : List TItem) (hs : s.length ≤ 1048576) (u : Int) : Ev (fun k => i_created k es s u) (createdB es s u) := by
  refine Re.eq (Re.c1 (i_tells_ev es hc hz s hs 1) ?_)
  unfold createdB
  cases (findE es (atS s 1)).2 with
  | false => exact Re.ret rfl
  | true => cases (findE es (atS s 1)).1.2.1 == 1 <;> exact Re.ret rfl
theorem i_LevelOf_ev (es : List TEvent) (hc : CopyS es) (hz : NoZ es) (s : List TItem) (hs : s.length ≤ 1048576) (u : Int) : Ev (fun k => i_LevelOf k es s u) (level es s u) := by
  refine Re.eq (Re.s1 (within_eq · _ _ _) ?_)
  unfold level
  cases hu : inR u 1 5 with
  | false => exact Re.ret rfl
  | true =>
    have hr := inR_iff.1 hu
    have tail : Re (fun k => bd (i_created k es s u) fun r4 => (br r4 (some 100) (some (0 : Int)))) (fun v => v = created es s u) := by
      refine Re.c1 (i_created_ev es hc hz s hs u) ?_
      rw [created_eq]
      cases createdB es s u <;> exact Re.ret rfl
    refine Re.br (b := false) (fun h => by cases h) (fun _ => Re.c1 (i_tells_ev es hc hz s hs 2) ?_)
    simp only [cond_true]
    cases hf : (findE es (atS s 2)).2 with
    | false => exact tail
    | true =>
      cases hk : ((findE es (atS s 2)).1.2.1 == 3) with
      | false => exact tail
      | true =>
        cases hl : (((findE es (atS s 2)).1.2.2.2.2.2.1.length : Int) == 5) with
        | false => exact tail
        | true =>
          have hl5 : ((findE es (atS s 2)).1.2.2.2.2.2.1.length : Int) = 5 := by simpa using hl
          have e1 : w64 (u - 1) = u - 1 := w64_eq (by omega) (by omega)
          simp only [e1, br_true, Bool.and_self, cond_true]
          exact Re.gdd (by omega) (Re.gdd (by omega) (Re.ret rfl))
end Go.Vm
