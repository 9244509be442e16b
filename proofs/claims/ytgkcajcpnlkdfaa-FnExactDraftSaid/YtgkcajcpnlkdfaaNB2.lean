/- Exact laws: Draft. -/
import Derived.Test.YtgkcajcpnlkdfaaNA2
set_option linter.unusedVariables false
set_option linter.unusedSimpArgs false
namespace Go.Vm
open Go
def lastEnds (es : List TEvent) : List Int := (endsL es).drop ((endsL es).length - 3)
theorem lastEnds_len (es : List TEvent) : (lastEnds es).length ≤ 3 := by
  unfold lastEnds
  rw [List.length_drop]
  omega
def draftV (r : TRoom) (id : Int) (e : TEvent) (prev : List Int) : TEvent := (id, e.2.1, e.2.2.1, e.2.2.2.1, e.2.2.2.2.1, e.2.2.2.2.2.1, e.2.2.2.2.2.2.1, prev, depthOf r.1 prev, ())
def draftE (r : TRoom) (idx : Int) (e : TEvent) : TEvent := draftV r (bif inR idx 0 1000000 then w64 (2 * idx) else 0) e (if e.2.1 = 1 then [] else lastEnds r.1)
theorem s_tail_re (r : TRoom) (h : m_Room r ≤ 1048576) (id : Int) (e : TEvent) : Re (fun k : Nat => br (e.2.1 != 1) (bd (s_EndsOf k r) fun r3 => (br (decide ((w64 ((r3.length : Int) - 3)) < 0)) (gd (decide (0 ≤ (r3.length : Int))) (gd (decide (([] : List Int).length + (r3.drop 0).length ≤ maxRow)) (bd (s_DepthOf k r (([] : List Int) ++ (r3.drop 0))) fun r4 => (some (id, e.2.1, e.2.2.1, e.2.2.2.1, e.2.2.2.2.1, e.2.2.2.2.2.1, e.2.2.2.2.2.2.1, (([] : List Int) ++ (r3.drop 0)), r4, ()))))) (gd (decide (0 ≤ (w64 ((r3.length : Int) - 3)))) (gd (decide ((w64 ((r3.length : Int) - 3)) ≤ (r3.length : Int))) (gd (decide (([] : List Int).length + (r3.drop (w64 ((r3.length : Int) - 3)).toNat).length ≤ maxRow)) (bd (s_DepthOf k r (([] : List Int) ++ (r3.drop (w64 ((r3.length : Int) - 3)).toNat))) fun r5 => (some (id, e.2.1, e.2.2.1, e.2.2.2.1, e.2.2.2.2.1, e.2.2.2.2.2.1, e.2.2.2.2.2.2.1, (([] : List Int) ++ (r3.drop (w64 ((r3.length : Int) - 3)).toNat)), r5, ())))))))) (bd (s_DepthOf k r []) fun r6 => (some (id, e.2.1, e.2.2.1, e.2.2.2.1, e.2.2.2.2.1, e.2.2.2.2.2.1, e.2.2.2.2.2.2.1, [], r6, ()))))
    (fun v => v = draftV r id e (if e.2.1 = 1 then [] else lastEnds r.1)) := by
  have h1 := (mR_len h).1
  have hl := (mES_len h1).1
  have he := ends_len r.1
  have hp := s_EndsOf_ev r (prevS_of h1)
  refine Re.br (fun q => ?_) (fun q => ?_)
  · have hn : e.2.1 ≠ 1 := by simpa using q
    rw [if_neg hn]
    refine Re.c1 hp ?_
    have hw : w64 (((endsL r.1).length : Int) - 3) = ((endsL r.1).length : Int) - 3 := w64_eq (by omega) (by omega)
    rw [hw]
    have e1 : ([] : List Int) ++ (endsL r.1).drop (((endsL r.1).length : Int) - 3).toNat = lastEnds r.1 := by
      unfold lastEnds
      rw [List.nil_append, show (((endsL r.1).length : Int) - 3).toNat = (endsL r.1).length - 3 by omega]
    refine Re.brd (fun g => ?_) (fun g => ?_)
    · have e0 : ([] : List Int) ++ (endsL r.1).drop 0 = lastEnds r.1 := by
        unfold lastEnds
        rw [List.nil_append, show (endsL r.1).length - 3 = 0 by omega]
      rw [e0]
      refine Re.gdd (by omega) (Re.gdd (by simp; unfold maxRow; omega) (Re.c1 (s_DepthOf_ev r hl _ (by have := lastEnds_len r.1; omega)) (Re.ret rfl)))
    · rw [e1]
      refine Re.gdd (by omega) (Re.gdd (by omega) (Re.gdd (by simp; unfold maxRow; omega) (Re.c1 (s_DepthOf_ev r hl _ (by have := lastEnds_len r.1; omega)) (Re.ret rfl))))
  · have hn : e.2.1 = 1 := by simpa using q
    rw [if_pos hn]
    exact Re.c1 (s_DepthOf_ev r hl [] (by simp)) (Re.ret rfl)
theorem s_Draft_ev (r : TRoom) (h : m_Room r ≤ 1048576) (idx : Int) (e : TEvent) (hm : m_Event e ≤ 1048576) : Ev (fun k => s_Draft k r idx e) (draftE r idx e) := by
  obtain ⟨g1, g2⟩ := mE_len hm
  refine Re.eq (Re.s1 (s_l09Copy_eq · e g1 g2) (Re.s1 (l01In_eq · _ _ _) ?_))
  unfold draftE
  cases inR idx 0 1000000 with
  | true => exact Re.br (b := true) (fun _ => s_tail_re r h _ e) (fun h => by cases h)
  | false => exact Re.br (b := false) (fun h => by cases h) (fun _ => s_tail_re r h _ e)
theorem i_tail_re (r : TRoom) (h : m_Room r ≤ 1048576) (id : Int) (e : TEvent) : Re (fun k : Nat => br (e.2.1 != 1) (bd (i_EndsOf k r) fun r3 => (gd (decide (0 ≤ (if (w64 ((r3.length : Int) - 3)) > 0 then (w64 ((r3.length : Int) - 3)) else 0))) (gd (decide ((if (w64 ((r3.length : Int) - 3)) > 0 then (w64 ((r3.length : Int) - 3)) else 0) ≤ (r3.length : Int))) (gd (decide ((r3.drop (if (w64 ((r3.length : Int) - 3)) > 0 then (w64 ((r3.length : Int) - 3)) else 0).toNat).length ≤ maxRow)) (bd (i_DepthOf k r (r3.drop (if (w64 ((r3.length : Int) - 3)) > 0 then (w64 ((r3.length : Int) - 3)) else 0).toNat)) fun r4 => (some (id, e.2.1, e.2.2.1, e.2.2.2.1, e.2.2.2.2.1, e.2.2.2.2.2.1, e.2.2.2.2.2.2.1, (r3.drop (if (w64 ((r3.length : Int) - 3)) > 0 then (w64 ((r3.length : Int) - 3)) else 0).toNat), r4, ()))))))) (bd (i_DepthOf k r []) fun r5 => (some (id, e.2.1, e.2.2.1, e.2.2.2.1, e.2.2.2.2.1, e.2.2.2.2.2.1, e.2.2.2.2.2.2.1, [], r5, ()))))
    (fun v => v = draftV r id e (if e.2.1 = 1 then [] else lastEnds r.1)) := by
  have h1 := (mR_len h).1
  have hl := (mES_len h1).1
  have he := ends_len r.1
  have hc := copyS_of h1
  have hp := i_EndsOf_ev r (prevS_of h1)
  refine Re.br (fun q => ?_) (fun q => ?_)
  · have hn : e.2.1 ≠ 1 := by simpa using q
    rw [if_neg hn]
    refine Re.c1 hp ?_
    have hw : w64 (((endsL r.1).length : Int) - 3) = ((endsL r.1).length : Int) - 3 := w64_eq (by omega) (by omega)
    rw [hw]
    have e1 : (endsL r.1).drop (if ((endsL r.1).length : Int) - 3 > 0 then ((endsL r.1).length : Int) - 3 else 0).toNat = lastEnds r.1 := by
      unfold lastEnds
      congr 1
      split <;> omega
    rw [e1]
    have hle := lastEnds_len r.1
    refine Re.gdd (by split <;> omega) (Re.gdd (by split <;> omega) (Re.gdd (by unfold maxRow; omega) (Re.c1 (i_DepthOf_ev r hc _ (by omega)) (Re.ret rfl))))
  · have hn : e.2.1 = 1 := by simpa using q
    rw [if_pos hn]
    exact Re.c1 (i_DepthOf_ev r hc [] (by simp)) (Re.ret rfl)
theorem i_Draft_ev (r : TRoom) (h : m_Room r ≤ 1048576) (idx : Int) (e : TEvent) (hm : m_Event e ≤ 1048576) : Ev (fun k => i_Draft k r idx e) (draftE r idx e) := by
  obtain ⟨g1, g2⟩ := mE_len hm
  refine Re.eq (Re.s1 (i_copyEvent_eq · e g1 g2) (Re.s1 (within_eq · _ _ _) ?_))
  unfold draftE
  cases inR idx 0 1000000 with
  | true => exact Re.br (b := true) (fun _ => i_tail_re r h _ e) (fun h => by cases h)
  | false => exact Re.br (b := false) (fun h => by cases h) (fun _ => i_tail_re r h _ e)
theorem same_Draft (a0 : TRoom) (a1 : Int) (a2 : TEvent) : m_Room a0 ≤ 1048576 → m_Event a2 ≤ 1048576 → m_Room a0 + m_Event a2 ≤ 1048576 → ∃ v : TEvent, m_Event v ≤ 1048576 ∧ Ev (fun k => s_Draft k a0 a1 a2) v ∧ Ev (fun k => i_Draft k a0 a1 a2) v := fun h0 h2 hs => by
  refine ⟨draftE a0 a1 a2, ?_, s_Draft_ev a0 h0 a1 a2 h2, i_Draft_ev a0 h0 a1 a2 h2⟩
  have he := ends_len a0.1
  have hm : a0.1.length ≤ m_Room a0 := by unfold m_Room m_EventS; omega
  have hp : (if a2.2.1 = 1 then [] else lastEnds a0.1).length ≤ m_Room a0 := by
    split
    · simp
    · unfold lastEnds; rw [List.length_drop]; omega
  unfold draftE draftV m_Event m_IntS at *
  dsimp only at *
  omega
end Go.Vm
