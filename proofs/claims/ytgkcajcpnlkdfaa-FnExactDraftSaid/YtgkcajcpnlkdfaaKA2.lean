/- Plain laws. -/
import Derived.Test.YtgkcajcpnlkdfaaJA2
import Derived.Test.YtgkcajcpnlkdfaaU2
set_option linter.unusedVariables false
set_option linter.unusedSimpArgs false
namespace Go.Vm
open Go
/-! ### Right rooms, of any kind -/
theorem sum_le {α : Type} (f : α → Nat) (c : Nat) : ∀ (xs : List α), (∀ x ∈ xs, f x ≤ c) → (xs.map f).sum ≤ xs.length * c
  | [], _ => by simp
  | x :: xs, h => by
    have h1 := h x (List.mem_cons_self ..)
    have h2 := sum_le f c xs fun y hy => h y (List.mem_cons_of_mem _ hy)
    rw [List.map_cons, List.sum_cons, List.length_cons, Nat.succ_mul]
    omega
theorem RoomI.m {r : TRoom} (h : RoomI r) : m_Room r ≤ 1048576 := by
  have hl := h.len
  have hsl := h.sl
  have hgl := h.gl
  have s1 : (r.1.map m_Event).sum ≤ r.1.length * 1000 := sum_le m_Event 1000 r.1 fun e he => (event_small (h.ev e he)).2
  have s2 : (r.2.1.map m_ItemS).sum ≤ r.2.1.length * 16 := sum_le m_ItemS 16 r.2.1 fun s hs => by
    obtain ⟨i, hi, rfl⟩ := List.getElem_of_mem hs
    have := h.st i hi
    rw [rd_at hi] at this
    exact this
  unfold m_Room m_EventS m_ItemSS m_BoolS
  omega
end Go.Vm
