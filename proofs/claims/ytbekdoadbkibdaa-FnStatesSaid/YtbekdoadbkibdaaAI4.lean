/- Plain laws. -/
import Derived.Test.YtbekdoadbkibdaaZ4
set_option linter.unusedVariables false
set_option linter.unusedSimpArgs false
namespace Go.Vm
open Go
/-! ### The program's answers about a state -/
def NoZ (es : List TEvent) : Prop := ∀ e ∈ es, e.1 ≠ 0
theorem i_At_ev (s : List TItem) (h : s.length ≤ 1048576) (key : Int) : Ev (fun k => i_At k s key) (atS s key) := by
  have := find_ev (l := fun k n i => l0_i_At k n key s (i : Int)) s (fun x => x.1 == key) (fun x => x.2.1) 0 (fun i hi => ⟨0, fun k _ n => by
    simp only [l0_i_At, b0_i_At, Int.ofNat_lt, hi, Int.natCast_nonneg, decide_true, br_true, gd_true, Int.toNat_natCast, rd_at, idx_succ hi (by omega)]⟩) ⟨0, fun k _ n => by
    simp only [l0_i_At, b0_i_At, Int.lt_irrefl, decide_false, br_false]⟩
  exact this
theorem findE_zero {es : List TEvent} (h : NoZ es) : findE es 0 = (noEv, false) := by
  rcases findE_cases es 0 with e | ⟨e, he, _, e3⟩
  · exact e
  · exact absurd e3 (h e he)
def createdB (es : List TEvent) (s : List TItem) (u : Int) : Bool := (findE es (atS s 1)).2 && ((findE es (atS s 1)).1.2.1 == 1 && (findE es (atS s 1)).1.2.2.1 == u)
theorem created_eq (es : List TEvent) (s : List TItem) (u : Int) : created es s u = bif createdB es s u then 100 else 0 := rfl
theorem scan_item {f : Nat → Nat → Nat → Option Bool} (s : List TItem) (hs : s.length ≤ 1048576) (x y : Bool) (hx : ∀ k n i, i < s.length → f k (n + 1) i = br (decide ((rd dTItem s i).1 > 10)) (some x) (f k n (i + 1))) (hy : ∀ k n, f k (n + 1) s.length = some y) :
    Ev (fun k => f k k 0) (bif noMember s then y else x) := by
  have := all_ev (l := f) s.length (fun i => !decide ((rd dTItem s i).1 > 10)) y x (fun i hi => ⟨0, fun k _ n => by rw [hx k n i hi]; cases decide ((rd dTItem s i).1 > 10) <;> rfl⟩) ⟨0, fun k _ n => hy k n⟩
  exact this
end Go.Vm
