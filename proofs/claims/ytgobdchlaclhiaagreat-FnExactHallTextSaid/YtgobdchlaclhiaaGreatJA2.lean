/- Plain laws. -/
import Derived.Test.YtgobdchlaclhiaaGreatHC2
set_option linter.unusedVariables false
set_option linter.unusedSimpArgs false
namespace Go.Vm
open Go
/-! ### Rooms, by the program -/
theorem i_eventAt_ev (r : TRoom) (h : r.1.length ≤ 1048576) (id : Int) : Ev (fun k => i_eventAt k r id) (hasE r.1 id) := by
  have := findIdx_ev (l := fun k n i => l0_i_eventAt k n r (i : Int) id) r.1 (fun e => e.1 == id) (fun i => (i : Int)) (-1) (fun i hi => ⟨0, fun k _ n => by
    simp only [l0_i_eventAt, b0_i_eventAt, Int.ofNat_lt, hi, Int.natCast_nonneg, decide_true, br_true, gd_true, Int.toNat_natCast, rd_at, idx_succ hi (by omega)]⟩) ⟨0, fun k _ n => by
    simp only [l0_i_eventAt, b0_i_eventAt, Int.lt_irrefl, decide_false, br_false]⟩
  exact this
theorem RoomI.noZ {r : TRoom} (h : RoomI r) : NoZ r.1 := fun e he => by
  have := (event_facts (h.ev e he)).2.1
  omega
theorem i_Before_ev (r : TRoom) (h : RoomI r) (prev : List Int) (hp : prev.length ≤ 1000) : Ev (fun k => i_Before k r prev) (beforeL r prev) := by
  refine Re.eq (Re.enter (f := fun k n => l0_i_Before k n prev 0 r []) among_nat ?_)
  have hlen := h.len
  have := Re.loop (ι := Nat) (l := fun k n (i : Nat) => l0_i_Before k n prev (i : Int) r ((prev.take i).map fun p => rd [] r.2.1 (hasE r.1 p).toNat)) (I := fun i => i ≤ prev.length ∧ ∀ j, j < i → beforeOk r (rd 0 prev j) = true) (fun i => prev.length - i) (Q := fun _ v => v = beforeL r prev) (fun i hi ih => by
    obtain ⟨g1, g2⟩ := hi
    simp only [l0_i_Before, b0_i_Before]
    refine Re.brd (fun g => ?_) (fun g => ?_)
    · have hl : i < prev.length := by omega
      refine Re.gdd (by omega) (Re.gdd g ?_)
      simp only [Int.toNat_natCast]
      refine Re.c2 (i_eventAt_ev r (by omega) _) ?_
      have no : ¬ (0 ≤ hasE r.1 (rd 0 prev i) ∧ hasE r.1 (rd 0 prev i) < r.2.1.length) → (([] : List TItem), false) = beforeL r prev := fun q => by
        unfold beforeL
        have : prev.all (beforeOk r) = false := by
          rw [List.all_eq_false]
          exact ⟨rd 0 prev i, by rw [rd_at hl]; exact List.getElem_mem _, by unfold beforeOk; simp [q]⟩
        rw [this]; rfl
      refine Re.brd (fun q => Re.ret (no fun x => by omega)) (fun q => ?_)
      refine Re.brd (fun q2 => Re.ret (no fun x => by omega)) (fun q2 => ?_)
      refine Re.gdd (by omega) (Re.gdd (by omega) (Re.gdd (by simp [maxRow]; omega) ?_))
      rw [idx_succ hl (by omega)]
      have next := ih (i + 1) ⟨by omega, fun j hj => by
        by_cases q3 : j < i
        · exact g2 j q3
        · have : j = i := by omega
          subst this
          exact decide_eq_true ⟨by omega, by omega⟩⟩ (by omega)
      rw [take_int hl, List.map_append] at next
      exact next
    · rw [List.take_of_length_le (by omega)]
      have hall : prev.all (beforeOk r) = true := by
        rw [List.all_eq_true]
        intro p hp
        obtain ⟨j, hj, rfl⟩ := List.getElem_of_mem hp
        have := g2 j (by omega)
        rwa [rd_at hj] at this
      have hN : StsN (prev.map fun p => rd [] r.2.1 (hasE r.1 p).toNat) := ⟨by simp; omega, fun j hj => by
        have hj2 : j < prev.length := by simpa using hj
        rw [rd_at hj, List.getElem_map]
        have := of_decide_eq_true (List.all_eq_true.1 hall _ (List.getElem_mem hj2))
        exact h.st _ (by omega)⟩
      refine Re.c2 (i_Resolve_ev r.1 h.evs h.copyS h.noZ _ hN) (Re.ret ?_)
      unfold beforeL
      rw [hall]; rfl) 0 ⟨Nat.zero_le _, fun j hj => by omega⟩
  simpa using this
theorem hasE_find {es : List TEvent} {p : Int} : findE es p = if hasE es p ≥ 0 then (rd dTEvent es (hasE es p).toNat, true) else (noEv, false) := by
  rcases hasE_spec es p with ⟨e, hn⟩ | ⟨i, hi, e, e2, e3⟩
  · rw [e, if_neg (by omega)]
    rcases findE_cases es p with q | ⟨x, hx, _, q⟩
    · exact q
    · exact absurd q (hn x hx)
  · rw [e, if_pos (by omega), Int.toNat_natCast]
    unfold findE
    have : es.find? (fun x => x.1 == p) = some (rd dTEvent es i) := by
      rw [List.find?_eq_some_iff_getElem]
      refine ⟨by simpa using e2, i, hi, by rw [rd_at hi], fun j hj => ?_⟩
      have := e3 j hj
      rw [rd_at (show j < es.length by omega)] at this
      simpa using this
    rw [this]; rfl
theorem i_DepthOf_ev (r : TRoom) (hc : CopyS r.1) (prev : List Int) (hp : prev.length ≤ 1048576) : Ev (fun k => i_DepthOf k r prev) (depthOf r.1 prev) := by
  refine Re.eq (Re.enter (f := fun k n => l0_i_DepthOf k n (-1) prev 0 r) among_nat ?_)
  have := Re.loop (ι := Nat) (l := fun k n (i : Nat) => l0_i_DepthOf k n ((prev.take i).foldl (moreD r.1) (-1)) prev (i : Int) r) (I := fun i => i ≤ prev.length) (fun i => prev.length - i) (Q := fun _ v => v = depthOf r.1 prev) (fun i hi ih => by
    simp only [l0_i_DepthOf, b0_i_DepthOf]
    refine Re.brd (fun g => ?_) (fun g => Re.ret ?_)
    · have hl : i < prev.length := by omega
      have next := ih (i + 1) (by omega) (by omega)
      rw [foldl_take (moreD r.1) 0 prev _ hl] at next
      generalize (prev.take i).foldl (moreD r.1) (-1) = m at next ⊢
      refine Re.gdd (by omega) (Re.gdd g ?_)
      simp only [Int.toNat_natCast]
      rw [idx_succ hl (by omega)]
      refine Re.c2 (i_Known_ev r.1 hc _) ?_
      rw [hasE_find]
      unfold moreD at next
      by_cases q : hasE r.1 (rd 0 prev i) ≥ 0
      · rw [if_pos q]
        refine Re.br (b := true) (fun _ => ?_) (fun h => by cases h)
        by_cases q2 : (rd dTEvent r.1 (hasE r.1 (rd 0 prev i)).toNat).2.2.2.2.2.2.2.2.1 > m
        · rw [if_pos ⟨q, q2⟩] at next
          rw [if_pos q2]; exact next
        · rw [if_neg fun h => q2 h.2] at next
          rw [if_neg q2]; exact next
      · rw [if_neg q]
        rw [if_neg fun h => q h.1] at next
        exact Re.br (b := false) (fun h => by cases h) (fun _ => next)
    · rw [List.take_of_length_le (by omega)]
      have hge := moreD_ge r.1 prev (-1)
      unfold depthOf
      have e : prev.foldl (moreD r.1) (-1) = mostD r.1 prev := rfl
      rw [e] at hge ⊢
      by_cases q : mostD r.1 prev > 1000000
      · rw [if_pos (by omega), if_pos q]; rfl
      · rw [if_neg (by omega), if_neg q, w64_eq (by omega) (by omega)]) 0 (Nat.zero_le _)
  exact this
theorem i_copyState_eq (k : Nat) (s : List TItem) (h : s.length ≤ 1048576) : i_copyState k s = some s := by
  unfold i_copyState
  rw [decide_eq_true (by unfold maxRow; omega)]; rfl
theorem i_copyRoom_ev (r : TRoom) (h : RoomI r) : Ev (fun k => i_copyRoom k r) r := by
  have hlen := h.len
  have hsl := h.sl
  have hgl := h.gl
  refine Re.eq (Re.gdd (by unfold maxRow; omega) (Re.enter (f := fun k n => l0_i_copyRoom k n r 0 []) among_nat ?_))
  have two : Re (fun x : Nat × Nat => l1_i_copyRoom x.1 x.2 r 0 r.1 []) (fun v => v = r) := by
    have := Re.loop (ι := Nat) (l := fun k n (i : Nat) => l1_i_copyRoom k n r (i : Int) r.1 (r.2.1.take i)) (I := fun i => i ≤ r.2.1.length) (fun i => r.2.1.length - i) (Q := fun _ v => v = r) (fun i hi ih => by
      simp only [l1_i_copyRoom, b1_i_copyRoom]
      refine Re.brd (fun g => ?_) (fun g => Re.ret (by rw [List.take_of_length_le (by omega)]))
      have hl : i < r.2.1.length := by omega
      have hs := h.st i hl
      refine Re.gdd (by omega) (Re.gdd g ?_)
      simp only [Int.toNat_natCast]
      refine Re.s2 (i_copyState_eq · _ (by omega)) (Re.gdd (by simp [maxRow]; omega) ?_)
      rw [idx_succ hl (by omega)]
      have next := ih (i + 1) (by omega) (by omega)
      rw [List.take_add_one, List.getElem?_eq_getElem hl] at next
      rw [rd_at hl]; exact next) 0 (Nat.zero_le _)
    simpa using this
  have := Re.loop (ι := Nat) (l := fun k n (i : Nat) => l0_i_copyRoom k n r (i : Int) (r.1.take i)) (I := fun i => i ≤ r.1.length) (fun i => r.1.length - i) (Q := fun _ v => v = r) (fun i hi ih => by
    simp only [l0_i_copyRoom, b0_i_copyRoom]
    refine Re.brd (fun g => ?_) (fun g => by rw [List.take_of_length_le (by omega)]; exact two)
    have hl : i < r.1.length := by omega
    have hm := h.copyS.2 i hl
    refine Re.gdd (by omega) (Re.gdd g ?_)
    simp only [Int.toNat_natCast]
    refine Re.s2 (i_copyEvent_eq · _ hm.1 hm.2) (Re.gdd (by simp [maxRow]; omega) ?_)
    rw [idx_succ hl (by omega)]
    have next := ih (i + 1) (by omega) (by omega)
    rw [List.take_add_one, List.getElem?_eq_getElem hl] at next
    rw [rd_at hl]; exact next) 0 (Nat.zero_le _)
  simpa using this
theorem i_AddEventB_ev (r : TRoom) (h : RoomI r) (e : TEvent) (hm : m_Event e ≤ 1048576) : Ev (fun k => i_AddEvent k r e) (addR r e) := by
  have hlen := h.len
  have hsl := h.sl
  have hgl := h.gl
  obtain ⟨hm1, hm2, hm3⟩ := m_Event_le hm
  refine Re.eq ?_
  refine Re.brn (fun q => absurd (by rw [hsl]) q) (fun _ => Re.brn (fun q => absurd (by rw [hgl]) q) (fun _ => Re.c1 (i_EventOk_ev e hm) ?_))
  unfold addR
  cases ho : eventOk e with
  | false =>
    refine Re.br (b := true) (fun _ => Re.ret ?_) (fun h => by cases h)
    rw [Bool.false_and, Bool.and_false]; rfl
  | true =>
    have hp : e.2.2.2.2.2.2.2.1.length ≤ 1000 := by have := (event_small ho).1; omega
    have hbl := beforeL_length h hp
    refine Re.br (b := false) (fun h => by cases h) (fun _ => ?_)
    refine Re.brd (fun q => Re.ret ?_) (fun q => Re.c1 (i_eventAt_ev r (by omega) _) ?_)
    · rw [decide_eq_false (show ¬ r.1.length < 40 by omega)]
      simp
    rw [decide_eq_true (show r.1.length < 40 by omega)]
    refine Re.brd (fun q2 => Re.ret ?_) (fun q2 => Re.c1 (i_Before_ev r h _ hp) ?_)
    · rw [decide_eq_false (show ¬ hasE r.1 e.1 < 0 by omega)]
      simp
    rw [decide_eq_true (show hasE r.1 e.1 < 0 by omega)]
    generalize beforeL r e.2.2.2.2.2.2.2.1 = b at hbl ⊢
    obtain ⟨s, ok⟩ := b
    cases ok with
    | false => exact Re.ret rfl
    | true =>
      refine Re.br (b := false) (fun h => by cases h) (fun _ => Re.c1 (i_DepthOf_ev r h.copyS _ (by omega)) ?_)
      refine Re.brn (fun q3 => Re.ret (by rw [decide_eq_false q3]; rfl)) (fun q3 => ?_)
      rw [decide_eq_true q3]
      simp only at hbl
      refine Re.c1 (i_Allowed_ev r.1 h.copyS h.noZ s (by omega) e hm) ?_
      have hcp : ∀ k, i_copyEvent k e = some e := fun k => i_copyEvent_eq k e hm1 hm3
      have fin : ∀ (st : List TItem) (b : Bool), Re (fun k => bd (i_copyRoom k r) fun r9 => (bd (i_copyEvent k e) fun r10 => (gd (decide (r9.1.length + ([r10] : List TEvent).length ≤ maxRow)) (gd (decide (r9.2.1.length + [st].length ≤ maxRow)) (gd (decide (r9.2.2.1.length + [b].length ≤ maxRow)) (some (((r9.1 ++ ([r10] : List TEvent)), (r9.2.1 ++ [st]), (r9.2.2.1 ++ [b]), ()), true))))))) (fun v => v = ((r.1 ++ [e], r.2.1 ++ [st], r.2.2.1 ++ [b], ()), true)) := fun st b =>
        Re.c1 (i_copyRoom_ev r h) (Re.s1 hcp (Re.gdd (by simp [maxRow]; omega) (Re.gdd (by simp [maxRow]; omega) (Re.gdd (by simp [maxRow]; omega) (Re.ret rfl)))))
      cases ha : allowed r.1 s e with
      | false => exact Re.br (b := false) (fun h => by cases h) (fun _ => fin s false)
      | true =>
        refine Re.br (b := true) (fun _ => Re.s1 (i_KeyOf_eq e ·) ?_) (fun h => by cases h)
        refine Re.brn (fun q4 => ?_) (fun q4 => ?_)
        · refine Re.s1 (i_KeyOf_eq e ·) (Re.c1 (i_Put_ev s (by omega) _ _) ?_)
          have e4 : (keyOf e != 0) = true := by simp [q4]
          rw [e4]
          exact fin _ true
        · rw [q4]
          exact fin s true
theorem RoomI.mE {r : TRoom} (h : RoomI r) {i : Nat} (hi : i < r.1.length) : m_Event (rd dTEvent r.1 i) ≤ 1000 ∧ (rd dTEvent r.1 i).2.2.2.2.2.2.2.1.length ≤ 3 := by
  have := event_small (h.ev (rd dTEvent r.1 i) (by rw [rd_at hi]; exact List.getElem_mem _))
  exact ⟨this.2, this.1⟩
end Go.Vm
