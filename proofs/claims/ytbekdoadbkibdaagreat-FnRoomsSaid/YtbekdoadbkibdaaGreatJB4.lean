/- Plain laws. -/
import Derived.Test.YtbekdoadbkibdaaGreatJA4
set_option linter.unusedVariables false
set_option linter.unusedSimpArgs false
namespace Go.Vm
open Go
def membersTo (es : List TEvent) (s : List TItem) : Nat → List Int
  | 0 => []
  | u + 1 => if member es s ((u + 1 : Nat) : Int) = 2 then membersTo es s u ++ [((u + 1 : Nat) : Int)] else membersTo es s u
theorem membersTo_spec (es : List TEvent) (s : List TItem) : ∀ n : Nat, (membersTo es s n).length ≤ n ∧ ∀ x, x ∈ membersTo es s n ↔ (1 ≤ x ∧ x ≤ n) ∧ member es s x = 2
  | 0 => ⟨Nat.le_refl _, fun x => by simp [membersTo]; omega⟩
  | n + 1 => by
    obtain ⟨h1, h2⟩ := membersTo_spec es s n
    unfold membersTo
    by_cases q : member es s ((n + 1 : Nat) : Int) = 2
    · rw [if_pos q]
      refine ⟨by simp; omega, fun x => ?_⟩
      rw [List.mem_append, List.mem_singleton, h2]
      constructor
      · rintro (⟨a, b⟩ | a)
        · exact ⟨by omega, b⟩
        · exact ⟨by omega, by rw [a]; exact q⟩
      · rintro ⟨a, b⟩
        by_cases e : x = ((n + 1 : Nat) : Int)
        · exact .inr e
        · exact .inl ⟨by omega, b⟩
    · rw [if_neg q]
      refine ⟨by omega, fun x => ?_⟩
      rw [h2]
      constructor
      · rintro ⟨a, b⟩; exact ⟨by omega, b⟩
      · rintro ⟨a, b⟩
        by_cases e : x = ((n + 1 : Nat) : Int)
        · rw [e] at b; exact absurd b q
        · exact ⟨by omega, b⟩
theorem i_Members_ev (r : TRoom) (h : RoomI r) : Ev (fun k => i_Members k r) (membersTo r.1 (stateL r) 5) := by
  have hsl := stateL_length h
  refine Re.eq (Re.c1 (i_StateOf_ev r h) ?_)
  generalize stateL r = s at hsl ⊢
  refine Re.enter (f := fun k n => l0_i_Members k n 1 r s []) among_nat ?_
  have := Re.loop (ι := Nat) (l := fun k n (i : Nat) => l0_i_Members k n ((i + 1 : Nat) : Int) r s (membersTo r.1 s i)) (I := fun i => i ≤ 5) (fun i => 5 - i) (Q := fun _ v => v = membersTo r.1 s 5) (fun i hi ih => by
    simp only [l0_i_Members, b0_i_Members]
    refine Re.brd (fun g => ?_) (fun g => Re.ret (by rw [show i = 5 by omega]))
    have hm := (membersTo_spec r.1 s i).1
    have next := ih (i + 1) (by omega) (by omega)
    have e2 : w64 (((i + 1 : Nat) : Int) + 1) = ((i + 1 + 1 : Nat) : Int) := by rw [w64_eq (by omega) (by omega)]; omega
    rw [e2]
    refine Re.c2 (i_MemberOf_ev r.1 h.copyS h.noZ s (by omega) _) ?_
    unfold membersTo at next
    refine Re.bre (fun q => ?_) (fun q => ?_)
    · rw [if_pos q] at next
      exact Re.gdd (by simp [maxRow]; omega) next
    · rw [if_neg q] at next; exact next) 0 (Nat.zero_le _)
  exact this
end Go.Vm
