/- Plain laws. -/
import Derived.Test.YtpcdgghbhgjgfaaBI3
set_option linter.unusedVariables false
set_option linter.unusedSimpArgs false
namespace Go.Vm
open Go
/-! ### Drawn lists and states -/
theorem copyList_ev {es : List TEvent} (h : CopyS es) : Ev (fun k => s_l09CopyList k es) es := by
  refine Re.eq (Re.enter (f := fun k n => l0_s_l09CopyList k n es 0 []) among_nat ?_)
  have hlen := h.1
  have := Re.loop (ι := Nat) (l := fun k n (i : Nat) => l0_s_l09CopyList k n es (i : Int) (es.take i)) (I := fun i => i ≤ es.length) (fun i => es.length - i) (Q := fun _ v => v = es) (fun i hi ih => by
    simp only [l0_s_l09CopyList, b0_s_l09CopyList]
    refine Re.brd (fun g => ?_) (fun g => Re.ret (List.take_of_length_le (by omega)))
    have hl : i < es.length := by omega
    have hm := h.2 i hl
    refine Re.gdd (by omega) (Re.gdd g ?_)
    simp only [Int.toNat_natCast]
    refine Re.s2 (s_l09Copy_eq · _ hm.1 hm.2) (Re.gdd (by simp [maxRow]; omega) ?_)
    rw [idx_succ hl (by omega)]
    have next := ih (i + 1) (by omega) (by omega)
    rw [List.take_add_one, List.getElem?_eq_getElem hl] at next
    rw [rd_at hl]
    exact next) 0 (Nat.zero_le _)
  simpa using this
/-- Drawn events and a state. -/
def PairP (q : List TEvent × List TItem) : Prop := (∃ r, RoomD r ∧ (q.1 = r.1 ∨ q.1 = r.1.drop 1)) ∧ q.2.length ≤ 20
theorem l10Pair_re (c : TL01Cur) (hc : CurOk c) (a : List Int) (ha : a.length ≤ 1048576) : Re (fun k => s_l10Pair k c a) (fun q => PairP q.1 ∧ CurOk q.2.1) := by
  refine Re.b1 (l12Room_re c hc a ha) fun r1 h1 => ?_
  obtain ⟨hD, hc1⟩ := h1
  have hI := hD.1
  have hlen := hI.len
  have hsl := hI.sl
  have hpos : 0 < r1.1.1.length := List.length_pos_iff.2 hD.2.1
  refine Re.c1 (copyList_ev hI.copyS) ?_
  refine Re.brd (fun _ => ?_) (fun h => absurd (by omega) h)
  refine Re.b1 (below_re _ _ hc1) fun r3 h3 => ?_
  obtain ⟨⟨q1, q2⟩, q3⟩ := h3
  have q4 : r3.1 < r1.1.2.1.length := by omega
  have hst := hI.st r3.1.toNat (by omega)
  generalize rd [] r1.1.2.1 r3.1.toNat = s0 at hst ⊢
  simp only [List.nil_append]
  refine Re.gdd q1 (Re.gdd q4 (Re.gdd (by simp [maxRow]; omega) ?_))
  refine Re.b1 (below_re _ _ q3) fun r4 h4 => ?_
  have all : ∀ s : List TItem, s.length ≤ 20 → PairP (r1.1.1, s) := fun s hs => ⟨⟨r1.1, hD, .inl rfl⟩, hs⟩
  refine Re.brb ?_ (Re.brb ?_ (Re.brb ?_ (Re.ret ⟨all _ (by omega), h4.2⟩)))
  · refine Re.b1 (pickInt_re _ _ h4.2 (by simp)) fun r5 h5 => Re.gdd (by simp [maxRow]; omega) (Re.ret ⟨all _ (by simp; omega), h5.2⟩)
  · refine Re.brd (fun g => ?_) (fun _ => Re.ret ⟨all _ (by omega), h4.2⟩)
    refine Re.b1 (below_re _ _ h4.2) fun r6 h6 => Re.b1 (pickInt_re _ _ h6.2 (by simp)) fun r7 h7 => ?_
    obtain ⟨p1, p2⟩ := h6.1
    refine Re.gdd p1 (Re.gdd (by omega) (Re.ret ⟨all _ (by simp; omega), h7.2⟩))
  · refine Re.brd (fun g => Re.gdd (by omega) (Re.ret ⟨⟨⟨r1.1, hD, .inr rfl⟩, by show s0.length ≤ 20; omega⟩, h4.2⟩)) (fun _ => Re.ret ⟨all _ (by omega), h4.2⟩)
end Go.Vm
