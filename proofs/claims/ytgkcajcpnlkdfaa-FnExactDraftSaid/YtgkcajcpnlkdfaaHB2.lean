/- Plain laws. -/
import Derived.Test.YtgkcajcpnlkdfaaHA2
set_option linter.unusedVariables false
set_option linter.unusedSimpArgs false
namespace Go.Vm
open Go
/-! ### One state of several, by the program -/
theorem StsN.t {ss : List (List TItem)} (h : StsN ss) : StsT ss := by
  obtain ⟨h1, h2⟩ := h
  have : ∀ ts : List (List TItem), (∀ s ∈ ts, s.length ≤ 16) → (ts.map fun s => s.length + 1).sum ≤ 17 * ts.length := by
    intro ts
    induction ts with
    | nil => intro _; simp
    | cons t ts ih =>
      intro h
      have a := h t (List.mem_cons_self ..)
      have b := ih fun s hs => h s (List.mem_cons_of_mem _ hs)
      simp only [List.map_cons, List.sum_cons, List.length_cons]; omega
  have := this ss fun s hs => by
    obtain ⟨i, hi, rfl⟩ := List.getElem_of_mem hs
    have := h2 i hi
    rwa [rd_at hi] at this
  unfold StsT; omega
end Go.Vm
