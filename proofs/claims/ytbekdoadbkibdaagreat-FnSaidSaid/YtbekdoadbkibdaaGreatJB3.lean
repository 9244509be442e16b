/- Plain laws. -/
import Derived.Test.YtbekdoadbkibdaaGreatJA3
set_option linter.unusedVariables false
set_option linter.unusedSimpArgs false
namespace Go.Vm
open Go
def saidStep (r : TRoom) (a : List ByteArray) (i : Nat) : List ByteArray := if (rd dTEvent r.1 i).2.1 = 5 ∧ rd false r.2.2.1 i = true then a ++ [(rd dTEvent r.1 i).2.2.2.2.2.2.1] else a
def saidTo (r : TRoom) : Nat → List ByteArray
  | 0 => []
  | i + 1 => saidStep r (saidTo r i) i
theorem saidTo_len (r : TRoom) : ∀ i, (saidTo r i).length ≤ i
  | 0 => Nat.le_refl _
  | i + 1 => by
    have := saidTo_len r i
    unfold saidTo saidStep
    split <;> simp <;> omega
theorem i_Said_ev (r : TRoom) (h1 : r.1.length ≤ 1048576) : Ev (fun k => i_Said k r) (saidTo r r.1.length) := by
  refine Re.eq (Re.enter (f := fun k n => l0_i_Said k n r 0 []) among_nat ?_)
  have := Re.loop (ι := Nat) (l := fun k n (i : Nat) => l0_i_Said k n r (i : Int) (saidTo r i)) (I := fun i => i ≤ r.1.length) (fun i => r.1.length - i) (Q := fun _ v => v = saidTo r r.1.length) (fun i hi ih => by
    simp only [l0_i_Said, b0_i_Said]
    refine Re.brd (fun g => ?_) (fun g => Re.ret (by rw [show i = r.1.length by omega]))
    have hl : i < r.1.length := by omega
    have hlen := saidTo_len r i
    rw [idx_succ hl (by omega)]
    simp only [Int.toNat_natCast]
    have next := ih (i + 1) (by omega) (by omega)
    simp only [saidTo, saidStep] at next
    refine Re.gdd (by omega) (Re.gdd g ?_)
    refine Re.bre (fun q => ?_) (fun q => by rw [if_neg fun h => q h.1] at next; exact next)
    have hg : ∀ k, i_isGood k r (i : Int) = some (rd false r.2.2.1 i) := fun k => by
      unfold i_isGood
      by_cases q2 : (i : Int) < (r.2.2.1.length : Int)
      · rw [decide_eq_true q2, decide_eq_true (by omega)]
        simp [Int.toNat_natCast]
      · rw [decide_eq_false q2]
        have : rd false r.2.2.1 i = false := by simp [rd, List.getElem?_eq_none (show r.2.2.1.length ≤ i by omega)]
        rw [this]; rfl
    refine Re.s2 hg (Re.br (fun q2 => ?_) (fun q2 => ?_))
    · rw [if_pos ⟨q, q2⟩] at next
      exact Re.gdd (by simp [maxRow]; omega) next
    · rw [if_neg fun h => by rw [q2] at h; cases h.2] at next
      exact next) 0 (Nat.zero_le _)
  exact this
theorem lsameTexts_ev (a : List ByteArray) (h : a.length ≤ 1048576) : Ev (fun k => l_sameTexts k a a) true := by
  refine Re.eq (Re.brn (fun q => absurd rfl q) (fun _ => ?_))
  refine Re.enter (f := fun k n => l0_l_sameTexts k n a a 0) among_nat ?_
  have := Re.loop (ι := Nat) (l := fun k n (i : Nat) => l0_l_sameTexts k n a a (i : Int)) (I := fun i => i ≤ a.length) (fun i => a.length - i) (Q := fun _ v => v = true) (fun i hi ih => by
    simp only [l0_l_sameTexts, b0_l_sameTexts]
    refine Re.brd (fun g => ?_) (fun g => Re.ret rfl)
    have hl : i < a.length := by omega
    refine Re.gdd (by omega) (Re.gdd g (Re.gdd (by omega) (Re.gdd g ?_)))
    refine Re.br (fun q => by simp at q) (fun _ => ?_)
    rw [idx_succ hl (by omega)]
    exact ih (i + 1) (by omega) (by omega)) 0 (Nat.zero_le _)
  exact this
def membersTo (es : List TEvent) (s : List TItem) : Nat → List Int
  | 0 => []
  | u + 1 => if member es s ((u + 1 : Nat) : Int) = 2 then membersTo es s u ++ [((u + 1 : Nat) : Int)] else membersTo es s u
theorem membersTo_spec (es : List TEvent) (s : List TItem) : ∀ n : Nat, (membersTo es s n).length ≤ n ∧ ∀ x, x ∈ membersTo es s n ↔ (1 ≤ x ∧ x ≤ n) ∧ member es s x = 2
  | 0 => ⟨Nat.le_refl _, fun x => by simp [membersTo]; omega⟩
  | n + 1 => by
    obtain ⟨h1, h2⟩ := membersTo_spec es s n
    unfold membersTo
    by_cases q : member es s ((n + 1 : Nat) : Int) = 2
    · rw [if_pos q]
      refine ⟨by simp; omega, fun x => ?_⟩
      rw [List.mem_append, List.mem_singleton, h2]
      constructor
      · rintro (⟨a, b⟩ | a)
        · exact ⟨by omega, b⟩
        · exact ⟨by omega, by rw [a]; exact q⟩
      · rintro ⟨a, b⟩
        by_cases e : x = ((n + 1 : Nat) : Int)
        · exact .inr e
        · exact .inl ⟨by omega, b⟩
    · rw [if_neg q]
      refine ⟨by omega, fun x => ?_⟩
      rw [h2]
      constructor
      · rintro ⟨a, b⟩; exact ⟨by omega, b⟩
      · rintro ⟨a, b⟩
        by_cases e : x = ((n + 1 : Nat) : Int)
        · rw [e] at b; exact absurd b q
        · exact ⟨by omega, b⟩
theorem i_Members_ev (r : TRoom) (h : RoomI r) : Ev (fun k => i_Members k r) (membersTo r.1 (stateL r) 5) := by
  have hsl := stateL_length h
  refine Re.eq (Re.c1 (i_StateOf_ev r h) ?_)
  generalize stateL r = s at hsl ⊢
  refine Re.enter (f := fun k n => l0_i_Members k n 1 r s []) among_nat ?_
  have := Re.loop (ι := Nat) (l := fun k n (i : Nat) => l0_i_Members k n ((i + 1 : Nat) : Int) r s (membersTo r.1 s i)) (I := fun i => i ≤ 5) (fun i => 5 - i) (Q := fun _ v => v = membersTo r.1 s 5) (fun i hi ih => by
    simp only [l0_i_Members, b0_i_Members]
    refine Re.brd (fun g => ?_) (fun g => Re.ret (by rw [show i = 5 by omega]))
    have hm := (membersTo_spec r.1 s i).1
    have next := ih (i + 1) (by omega) (by omega)
    have e2 : w64 (((i + 1 : Nat) : Int) + 1) = ((i + 1 + 1 : Nat) : Int) := by rw [w64_eq (by omega) (by omega)]; omega
    rw [e2]
    refine Re.c2 (i_MemberOf_ev r.1 h.copyS h.noZ s (by omega) _) ?_
    unfold membersTo at next
    refine Re.bre (fun q => ?_) (fun q => ?_)
    · rw [if_pos q] at next
      exact Re.gdd (by simp [maxRow]; omega) next
    · rw [if_neg q] at next; exact next) 0 (Nat.zero_le _)
  exact this
theorem FnSaid_ev (a : List Int) : Ev (fun k => l_FnSaid k a) true := by
  refine Re.eq ?_
  simp only [l_FnSaid, g_l_FnSaid]
  refine Re.s1 (v := decide ((a.length : Int) > 1048576)) (fun k => rfl) ?_
  refine Re.brd (fun _ => Re.ret rfl) (fun hl => ?_)
  refine Re.b1 (drawRoom_re a (by omega)) fun r hr => ?_
  have hI := hr.1
  have hlen := hI.len
  have hgl := hI.gl
  have hsl := stateL_length hI
  have hpos := List.length_pos_iff.2 hr.2.1
  refine Re.enter (f := fun k n => l0_l_FnSaid k n 0 [] r) among_nat ?_
  have two : Re (fun x : Nat × Nat => l1_l_FnSaid x.1 x.2 1 (saidTo r r.1.length) (stateL r) (membersTo r.1 (stateL r) 5) r) (fun v => v = true) := by
    have hso := s_StateOf_ev r hI
    generalize stateL r = s at hsl hso ⊢
    obtain ⟨hm1, hm2⟩ := membersTo_spec r.1 s 5
    generalize membersTo r.1 s 5 = ms at hm1 hm2 ⊢
    have hsd := saidTo_len r r.1.length
    have := Re.loop (ι := Nat) (l := fun k n (i : Nat) => l1_l_FnSaid k n ((i + 1 : Nat) : Int) (saidTo r r.1.length) s ms r) (I := fun i => i ≤ 5) (fun i => 5 - i) (Q := fun _ v => v = true) (fun i hi ih => by
      simp only [l1_l_FnSaid, b1_l_FnSaid]
      refine Re.brd (fun g => ?_) (fun g => ?_)
      · have e2 : w64 (((i + 1 : Nat) : Int) + 1) = ((i + 1 + 1 : Nat) : Int) := by rw [w64_eq (by omega) (by omega)]; omega
        rw [e2]
        refine Re.c2 (l_in_ev _ (by omega) _) (Re.c2 (s_MemberOf_ev r.1 s ⟨by omega, by omega⟩ _) ?_)
        have e3 : (decide (((i + 1 : Nat) : Int) ∈ ms) == (member r.1 s ((i + 1 : Nat) : Int) == 2)) = true := by
          have := hm2 ((i + 1 : Nat) : Int)
          by_cases q : member r.1 s ((i + 1 : Nat) : Int) = 2
          · rw [decide_eq_true (this.2 ⟨by omega, q⟩), q]; rfl
          · rw [decide_eq_false fun h => q (this.1 h).2, beq_ne0 q]; rfl
        rw [e3]
        exact Re.br (b := false) (fun h => by cases h) (fun _ => ih (i + 1) (by omega) (by omega))
      · refine Re.c2 (i_Said_ev r (by omega)) (Re.c2 (lsameTexts_ev _ (by omega)) ?_)
        refine Re.br (b := true) (fun _ => Re.c2 hso (Re.c2 (lsameState_ev _ _ (by omega)) ?_)) (fun h => by cases h)
        rw [eqd_of rfl]
        exact Re.br (b := true) (fun _ => Re.ret (decide_eq_true (by omega))) (fun h => by cases h)) 0 (Nat.zero_le _)
    exact this
  have := Re.loop (ι := Nat) (l := fun k n (i : Nat) => l0_l_FnSaid k n (i : Int) (saidTo r i) r) (I := fun i => i ≤ r.1.length) (fun i => r.1.length - i) (Q := fun _ v => v = true) (fun i hi ih => by
    simp only [l0_l_FnSaid, b0_l_FnSaid]
    refine Re.brd (fun g => ?_) (fun g => ?_)
    · have hil : i < r.1.length := by omega
      have hlen2 := saidTo_len r i
      rw [idx_succ hil (by omega)]
      simp only [Int.toNat_natCast]
      have next := ih (i + 1) (by omega) (by omega)
      simp only [saidTo, saidStep] at next
      refine Re.gdd (by omega) (Re.gdd (by omega) ?_)
      refine Re.br (fun q => Re.gdd (by omega) (Re.gdd g ?_)) (fun q => by rw [if_neg fun h => by rw [q] at h; cases h.2] at next; exact next)
      refine Re.bre (fun q2 => ?_) (fun q2 => by rw [if_neg fun h => q2 h.1] at next; exact next)
      rw [if_pos ⟨q2, q⟩] at next
      exact Re.gdd (by omega) (Re.gdd g (Re.gdd (by simp [maxRow]; omega) next))
    · rw [show i = r.1.length by omega]
      refine Re.c2 (i_StateOf_ev r hI) (Re.c2 (i_Members_ev r hI) two)) 0 (Nat.zero_le _)
  exact this
end Go.Vm
