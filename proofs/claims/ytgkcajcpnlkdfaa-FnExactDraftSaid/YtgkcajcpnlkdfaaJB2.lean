/- Plain laws. -/
import Derived.Test.YtgkcajcpnlkdfaaJA2
set_option linter.unusedVariables false
set_option linter.unusedSimpArgs false
namespace Go.Vm
open Go
def saidStep (r : TRoom) (a : List ByteArray) (i : Nat) : List ByteArray := if (rd dTEvent r.1 i).2.1 = 5 ∧ rd false r.2.2.1 i = true then a ++ [(rd dTEvent r.1 i).2.2.2.2.2.2.1] else a
def saidTo (r : TRoom) : Nat → List ByteArray
  | 0 => []
  | i + 1 => saidStep r (saidTo r i) i
theorem saidTo_len (r : TRoom) : ∀ i, (saidTo r i).length ≤ i
  | 0 => Nat.le_refl _
  | i + 1 => by
    have := saidTo_len r i
    unfold saidTo saidStep
    split <;> simp <;> omega
theorem i_Said_ev (r : TRoom) (h1 : r.1.length ≤ 1048576) : Ev (fun k => i_Said k r) (saidTo r r.1.length) := by
  refine Re.eq (Re.enter (f := fun k n => l0_i_Said k n r 0 []) among_nat ?_)
  have := Re.loop (ι := Nat) (l := fun k n (i : Nat) => l0_i_Said k n r (i : Int) (saidTo r i)) (I := fun i => i ≤ r.1.length) (fun i => r.1.length - i) (Q := fun _ v => v = saidTo r r.1.length) (fun i hi ih => by
    simp only [l0_i_Said, b0_i_Said]
    refine Re.brd (fun g => ?_) (fun g => Re.ret (by rw [show i = r.1.length by omega]))
    have hl : i < r.1.length := by omega
    have hlen := saidTo_len r i
    rw [idx_succ hl (by omega)]
    simp only [Int.toNat_natCast]
    have next := ih (i + 1) (by omega) (by omega)
    simp only [saidTo, saidStep] at next
    refine Re.gdd (by omega) (Re.gdd g ?_)
    refine Re.bre (fun q => ?_) (fun q => by rw [if_neg fun h => q h.1] at next; exact next)
    have hg : ∀ k, i_isGood k r (i : Int) = some (rd false r.2.2.1 i) := fun k => by
      unfold i_isGood
      by_cases q2 : (i : Int) < (r.2.2.1.length : Int)
      · rw [decide_eq_true q2, decide_eq_true (by omega)]
        simp [Int.toNat_natCast]
      · rw [decide_eq_false q2]
        have : rd false r.2.2.1 i = false := by simp [rd, List.getElem?_eq_none (show r.2.2.1.length ≤ i by omega)]
        rw [this]; rfl
    refine Re.s2 hg (Re.br (fun q2 => ?_) (fun q2 => ?_))
    · rw [if_pos ⟨q, q2⟩] at next
      exact Re.gdd (by simp [maxRow]; omega) next
    · rw [if_neg fun h => by rw [q2] at h; cases h.2] at next
      exact next) 0 (Nat.zero_le _)
  exact this
end Go.Vm
