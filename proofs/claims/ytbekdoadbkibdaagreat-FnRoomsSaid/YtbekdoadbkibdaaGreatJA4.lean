/- Plain laws. -/
import Derived.Test.YtbekdoadbkibdaaGreatHC4
set_option linter.unusedVariables false
set_option linter.unusedSimpArgs false
namespace Go.Vm
open Go
/-! ### Rooms, by the program -/
theorem endsL_spec (es : List TEvent) : Asc (endsL es) ∧ ∀ x, x ∈ endsL es ↔ ∃ e ∈ es, named es e.1 = false ∧ e.1 = x := by
  have : ∀ (xs : List TEvent) (a : List Int), Asc a → Asc (xs.foldl (endStep es) a) ∧ ∀ x, x ∈ xs.foldl (endStep es) a ↔ x ∈ a ∨ ∃ e ∈ xs, named es e.1 = false ∧ e.1 = x := by
    intro xs
    induction xs with
    | nil => intro a h; exact ⟨h, fun x => by simp⟩
    | cons y ys ih =>
      intro a h
      rw [List.foldl_cons]
      unfold endStep at ih ⊢
      cases hn : named es y.1 with
      | true =>
        obtain ⟨g1, g2⟩ := ih a h
        refine ⟨g1, fun x => ?_⟩
        simp only [cond_true]
        rw [g2]
        constructor
        · rintro (q | ⟨e, he, q⟩)
          · exact .inl q
          · exact .inr ⟨e, List.mem_cons_of_mem _ he, q⟩
        · rintro (q | ⟨e, he, q1, q2⟩)
          · exact .inl q
          · rcases List.mem_cons.1 he with e2 | e2
            · rw [e2, hn] at q1; cases q1
            · exact .inr ⟨e, e2, q1, q2⟩
      | false =>
        obtain ⟨g1, g2⟩ := ih (addL a y.1) (addGo_asc y.1 a false h)
        refine ⟨g1, fun x => ?_⟩
        simp only [cond_false]
        rw [g2, addL_mem]
        constructor
        · rintro ((q | q) | ⟨e, he, q⟩)
          · exact .inl q
          · exact .inr ⟨y, List.mem_cons_self .., hn, q.symm⟩
          · exact .inr ⟨e, List.mem_cons_of_mem _ he, q⟩
        · rintro (q | ⟨e, he, q1, q2⟩)
          · exact .inl (.inl q)
          · rcases List.mem_cons.1 he with e2 | e2
            · rw [e2] at q2; exact .inl (.inr q2.symm)
            · exact .inr ⟨e, e2, q1, q2⟩
  obtain ⟨h1, h2⟩ := this es [] (by simp [Asc])
  exact ⟨h1, fun x => by unfold endsL; rw [h2]; simp⟩
def endIds (es : List TEvent) (xs : List TEvent) : List Int := (xs.filter fun e => !named es e.1).map fun e => e.1
theorem endIds_len (es xs : List TEvent) : (endIds es xs).length ≤ xs.length := by
  unfold endIds
  rw [List.length_map]
  exact List.length_filter_le _ _
theorem endIds_take (es : List TEvent) {xs : List TEvent} {i : Nat} (h : i < xs.length) : endIds es (xs.take (i + 1)) = endIds es (xs.take i) ++ (if named es (rd dTEvent xs i).1 = true then [] else [(rd dTEvent xs i).1]) := by
  unfold endIds
  rw [List.take_add_one, List.getElem?_eq_getElem h, rd_at h, List.filter_append, List.map_append]
  congr 1
  by_cases q : named es xs[i].1 = true <;> simp [q]
theorem i_EndsOf_ev (r : TRoom) (h : PrevS r.1) : Ev (fun k => i_EndsOf k r) (endsL r.1) := by
  obtain ⟨h1, h2⟩ := h
  have hil := endIds_len r.1 r.1
  have fin : Re (fun x : Nat × Nat => (bd (slices_Sort_int_int x.1 (endIds r.1 r.1)) fun r2 => (gd (Nat.beq r2.2.1.length (endIds r.1 r.1).length) (br (decide ((r2.2.1.length : Int) < 2)) (some r2.2.1) (l2_i_EndsOf x.1 x.2 1 r2 r (r.1.length : Int)))))) (fun v => v = endsL r.1) := by
    have hsort : ∀ k, slices_Sort_int_int k (endIds r.1 r.1) = some ((), sortL (endIds r.1 r.1), ()) := fun k => sort_eq (by omega)
    refine Re.s2 hsort ?_
    have hl := sortL_len (endIds r.1 r.1)
    refine Re.gd (by rw [hl]; exact Nat.beq_refl _) ?_
    have uq : ∀ v, UniqOf (endIds r.1 r.1) v → v = endsL r.1 := fun v hv => by
      refine asc_ext hv.1 (endsL_spec r.1).1 fun x => ?_
      rw [hv.2, (endsL_spec r.1).2]
      unfold endIds
      rw [List.mem_map]
      simp only [List.mem_filter, Bool.not_eq_true']
      exact ⟨fun ⟨e, ⟨a, b⟩, c⟩ => ⟨e, a, b, c⟩, fun ⟨e, a, b, c⟩ => ⟨e, ⟨a, b⟩, c⟩⟩
    refine Re.brd (fun q => Re.ret (uq _ (uniq_sort (short_uniq (by simp only at q; omega))))) (fun q => ?_)
    have := compact_re (sortL_le (endIds r.1 r.1)) (by omega) (fun k n v5 => l2_i_EndsOf k n v5 ((), sortL (endIds r.1 r.1), ()) r (r.1.length : Int)) (fun k n v6 v5 v7 xs8 => l3_i_EndsOf k n v6 v5 v7 xs8 r (r.1.length : Int)) (fun k n v5 => rfl) (fun k n v6 v5 v7 xs8 => rfl)
    exact this.mono fun v hv => uq v (uniq_sort hv)
  refine Re.eq (Re.enter (f := fun k n => l0_i_EndsOf k n r 0 []) among_nat ?_)
  have := Re.wf (l := fun k n (st : Nat ⊕ (Nat × Nat)) => match st with
      | .inl i => l0_i_EndsOf k n r (i : Int) (endIds r.1 (r.1.take i))
      | .inr (i, j) => l1_i_EndsOf k n r (j : Int) (i : Int) (endIds r.1 (r.1.take i)))
    (I := fun st => match st with
      | .inl i => i ≤ r.1.length
      | .inr (i, j) => i < r.1.length ∧ j ≤ r.1.length ∧ ∀ m, m < j → (rd dTEvent r.1 i).1 ∉ (rd dTEvent r.1 m).2.2.2.2.2.2.2.1)
    (fun st => match st with
      | .inl i => (r.1.length - i, 100002)
      | .inr (i, j) => (r.1.length - i, r.1.length - j + 1)) (Q := fun _ v => v = endsL r.1) (fun st hi ih => by
    rcases st with i | ⟨i, j⟩
    · simp only at hi ih ⊢
      simp only [z0_i_EndsOf, b0_i_EndsOf]
      refine Re.brd (fun g => ?_) (fun g => ?_)
      · exact Re.gdd (by omega) (Re.gdd g (ih (.inr (i, 0)) ⟨by omega, Nat.zero_le _, fun m h => by omega⟩ (.inr ⟨rfl, by simp only; omega⟩)))
      · have e : i = r.1.length := by omega
        rw [e, List.take_length]
        exact fin
    · simp only at hi ih ⊢
      obtain ⟨g1, g2, g3⟩ := hi
      simp only [z1_i_EndsOf, b1_i_EndsOf, Int.toNat_natCast]
      have hlt := endIds_len r.1 (r.1.take i)
      have hlt2 : (r.1.take i).length ≤ r.1.length := List.length_take_le' ..
      rw [idx_succ g1 (by omega)]
      have next := ih (.inl (i + 1)) (by simp only; omega) (.inl (by simp only; omega))
      simp only [endIds_take r.1 g1] at next
      refine Re.brd (fun g => ?_) (fun g => ?_)
      · have hj : j < r.1.length := by omega
        have hpj := h2 j hj
        refine Re.gdd (by omega) (Re.gdd g (Re.c2 (slices_Contains_ev _ hpj _) ?_))
        refine Re.brd (fun q => ?_) (fun q => ?_)
        · refine Re.br (fun h => by simp at h) (fun _ => ?_)
          have hn : named r.1 (rd dTEvent r.1 i).1 = true := by
            unfold named
            rw [List.any_eq_true]
            exact ⟨rd dTEvent r.1 j, by rw [rd_at hj]; exact List.getElem_mem _, by simpa using q⟩
          rw [if_pos hn, List.append_nil] at next; exact next
        · rw [idx_succ hj (by omega)]
          refine ih (.inr (i, j + 1)) ⟨g1, by omega, fun m hm => ?_⟩ (.inr ⟨rfl, by simp only; omega⟩)
          by_cases e : m = j
          · rw [e]; exact q
          · exact g3 m (by omega)
      · have hn : ¬ named r.1 (rd dTEvent r.1 i).1 = true := fun h => by
          unfold named at h
          rw [List.any_eq_true] at h
          obtain ⟨f, hf, h4⟩ := h
          obtain ⟨m, hm, rfl⟩ := List.getElem_of_mem hf
          have := g3 m (by omega)
          rw [rd_at hm] at this
          exact this (by simpa using h4)
        rw [if_neg hn] at next
        exact Re.gdd (by simp only [List.length_singleton]; unfold maxRow; omega) next) (.inl 0) (Nat.zero_le _)
  exact this
theorem i_eventAt_ev (r : TRoom) (h : r.1.length ≤ 1048576) (id : Int) : Ev (fun k => i_eventAt k r id) (hasE r.1 id) := by
  have := findIdx_ev (l := fun k n i => l0_i_eventAt k n r (i : Int) id) r.1 (fun e => e.1 == id) (fun i => (i : Int)) (-1) (fun i hi => ⟨0, fun k _ n => by
    simp only [l0_i_eventAt, b0_i_eventAt, Int.ofNat_lt, hi, Int.natCast_nonneg, decide_true, br_true, gd_true, Int.toNat_natCast, rd_at, idx_succ hi (by omega)]⟩) ⟨0, fun k _ n => by
    simp only [l0_i_eventAt, b0_i_eventAt, Int.lt_irrefl, decide_false, br_false]⟩
  exact this
theorem RoomI.noZ {r : TRoom} (h : RoomI r) : NoZ r.1 := fun e he => by
  have := (event_facts (h.ev e he)).2.1
  omega
theorem i_Before_ev (r : TRoom) (h : RoomI r) (prev : List Int) (hp : prev.length ≤ 1000) : Ev (fun k => i_Before k r prev) (beforeL r prev) := by
  refine Re.eq (Re.enter (f := fun k n => l0_i_Before k n prev 0 r []) among_nat ?_)
  have hlen := h.len
  have := Re.loop (ι := Nat) (l := fun k n (i : Nat) => l0_i_Before k n prev (i : Int) r ((prev.take i).map fun p => rd [] r.2.1 (hasE r.1 p).toNat)) (I := fun i => i ≤ prev.length ∧ ∀ j, j < i → beforeOk r (rd 0 prev j) = true) (fun i => prev.length - i) (Q := fun _ v => v = beforeL r prev) (fun i hi ih => by
    obtain ⟨g1, g2⟩ := hi
    simp only [l0_i_Before, b0_i_Before]
    refine Re.brd (fun g => ?_) (fun g => ?_)
    · have hl : i < prev.length := by omega
      refine Re.gdd (by omega) (Re.gdd g ?_)
      simp only [Int.toNat_natCast]
      refine Re.c2 (i_eventAt_ev r (by omega) _) ?_
      have no : ¬ (0 ≤ hasE r.1 (rd 0 prev i) ∧ hasE r.1 (rd 0 prev i) < r.2.1.length) → (([] : List TItem), false) = beforeL r prev := fun q => by
        unfold beforeL
        have : prev.all (beforeOk r) = false := by
          rw [List.all_eq_false]
          exact ⟨rd 0 prev i, by rw [rd_at hl]; exact List.getElem_mem _, by unfold beforeOk; simp [q]⟩
        rw [this]; rfl
      refine Re.brd (fun q => Re.ret (no fun x => by omega)) (fun q => ?_)
      refine Re.brd (fun q2 => Re.ret (no fun x => by omega)) (fun q2 => ?_)
      refine Re.gdd (by omega) (Re.gdd (by omega) (Re.gdd (by simp [maxRow]; omega) ?_))
      rw [idx_succ hl (by omega)]
      have next := ih (i + 1) ⟨by omega, fun j hj => by
        by_cases q3 : j < i
        · exact g2 j q3
        · have : j = i := by omega
          subst this
          exact decide_eq_true ⟨by omega, by omega⟩⟩ (by omega)
      rw [take_int hl, List.map_append] at next
      exact next
    · rw [List.take_of_length_le (by omega)]
      have hall : prev.all (beforeOk r) = true := by
        rw [List.all_eq_true]
        intro p hp
        obtain ⟨j, hj, rfl⟩ := List.getElem_of_mem hp
        have := g2 j (by omega)
        rwa [rd_at hj] at this
      have hN : StsN (prev.map fun p => rd [] r.2.1 (hasE r.1 p).toNat) := ⟨by simp; omega, fun j hj => by
        have hj2 : j < prev.length := by simpa using hj
        rw [rd_at hj, List.getElem_map]
        have := of_decide_eq_true (List.all_eq_true.1 hall _ (List.getElem_mem hj2))
        exact h.st _ (by omega)⟩
      refine Re.c2 (i_Resolve_ev r.1 h.evs h.copyS h.noZ _ hN) (Re.ret ?_)
      unfold beforeL
      rw [hall]; rfl) 0 ⟨Nat.zero_le _, fun j hj => by omega⟩
  simpa using this
theorem i_StateOf_ev (r : TRoom) (h : RoomI r) : Ev (fun k => i_StateOf k r) (stateL r) := by
  refine Re.eq (Re.c1 (i_EndsOf_ev r h.prevS) (Re.c1 (i_Before_ev r h _ (by have := endsL_length r h; omega)) (Re.ret rfl)))
theorem hasE_find {es : List TEvent} {p : Int} : findE es p = if hasE es p ≥ 0 then (rd dTEvent es (hasE es p).toNat, true) else (noEv, false) := by
  rcases hasE_spec es p with ⟨e, hn⟩ | ⟨i, hi, e, e2, e3⟩
  · rw [e, if_neg (by omega)]
    rcases findE_cases es p with q | ⟨x, hx, _, q⟩
    · exact q
    · exact absurd q (hn x hx)
  · rw [e, if_pos (by omega), Int.toNat_natCast]
    unfold findE
    have : es.find? (fun x => x.1 == p) = some (rd dTEvent es i) := by
      rw [List.find?_eq_some_iff_getElem]
      refine ⟨by simpa using e2, i, hi, by rw [rd_at hi], fun j hj => ?_⟩
      have := e3 j hj
      rw [rd_at (show j < es.length by omega)] at this
      simpa using this
    rw [this]; rfl
theorem i_DepthOf_ev (r : TRoom) (hc : CopyS r.1) (prev : List Int) (hp : prev.length ≤ 1048576) : Ev (fun k => i_DepthOf k r prev) (depthOf r.1 prev) := by
  refine Re.eq (Re.enter (f := fun k n => l0_i_DepthOf k n (-1) prev 0 r) among_nat ?_)
  have := Re.loop (ι := Nat) (l := fun k n (i : Nat) => l0_i_DepthOf k n ((prev.take i).foldl (moreD r.1) (-1)) prev (i : Int) r) (I := fun i => i ≤ prev.length) (fun i => prev.length - i) (Q := fun _ v => v = depthOf r.1 prev) (fun i hi ih => by
    simp only [l0_i_DepthOf, b0_i_DepthOf]
    refine Re.brd (fun g => ?_) (fun g => Re.ret ?_)
    · have hl : i < prev.length := by omega
      have next := ih (i + 1) (by omega) (by omega)
      rw [foldl_take (moreD r.1) 0 prev _ hl] at next
      generalize (prev.take i).foldl (moreD r.1) (-1) = m at next ⊢
      refine Re.gdd (by omega) (Re.gdd g ?_)
      simp only [Int.toNat_natCast]
      rw [idx_succ hl (by omega)]
      refine Re.c2 (i_Known_ev r.1 hc _) ?_
      rw [hasE_find]
      unfold moreD at next
      by_cases q : hasE r.1 (rd 0 prev i) ≥ 0
      · rw [if_pos q]
        refine Re.br (b := true) (fun _ => ?_) (fun h => by cases h)
        by_cases q2 : (rd dTEvent r.1 (hasE r.1 (rd 0 prev i)).toNat).2.2.2.2.2.2.2.2.1 > m
        · rw [if_pos ⟨q, q2⟩] at next
          rw [if_pos q2]; exact next
        · rw [if_neg fun h => q2 h.2] at next
          rw [if_neg q2]; exact next
      · rw [if_neg q]
        rw [if_neg fun h => q h.1] at next
        exact Re.br (b := false) (fun h => by cases h) (fun _ => next)
    · rw [List.take_of_length_le (by omega)]
      have hge := moreD_ge r.1 prev (-1)
      unfold depthOf
      have e : prev.foldl (moreD r.1) (-1) = mostD r.1 prev := rfl
      rw [e] at hge ⊢
      by_cases q : mostD r.1 prev > 1000000
      · rw [if_pos (by omega), if_pos q]; rfl
      · rw [if_neg (by omega), if_neg q, w64_eq (by omega) (by omega)]) 0 (Nat.zero_le _)
  exact this
theorem i_copyState_eq (k : Nat) (s : List TItem) (h : s.length ≤ 1048576) : i_copyState k s = some s := by
  unfold i_copyState
  rw [decide_eq_true (by unfold maxRow; omega)]; rfl
theorem i_copyRoom_ev (r : TRoom) (h : RoomI r) : Ev (fun k => i_copyRoom k r) r := by
  have hlen := h.len
  have hsl := h.sl
  have hgl := h.gl
  refine Re.eq (Re.gdd (by unfold maxRow; omega) (Re.enter (f := fun k n => l0_i_copyRoom k n r 0 []) among_nat ?_))
  have two : Re (fun x : Nat × Nat => l1_i_copyRoom x.1 x.2 r 0 r.1 []) (fun v => v = r) := by
    have := Re.loop (ι := Nat) (l := fun k n (i : Nat) => l1_i_copyRoom k n r (i : Int) r.1 (r.2.1.take i)) (I := fun i => i ≤ r.2.1.length) (fun i => r.2.1.length - i) (Q := fun _ v => v = r) (fun i hi ih => by
      simp only [l1_i_copyRoom, b1_i_copyRoom]
      refine Re.brd (fun g => ?_) (fun g => Re.ret (by rw [List.take_of_length_le (by omega)]))
      have hl : i < r.2.1.length := by omega
      have hs := h.st i hl
      refine Re.gdd (by omega) (Re.gdd g ?_)
      simp only [Int.toNat_natCast]
      refine Re.s2 (i_copyState_eq · _ (by omega)) (Re.gdd (by simp [maxRow]; omega) ?_)
      rw [idx_succ hl (by omega)]
      have next := ih (i + 1) (by omega) (by omega)
      rw [List.take_add_one, List.getElem?_eq_getElem hl] at next
      rw [rd_at hl]; exact next) 0 (Nat.zero_le _)
    simpa using this
  have := Re.loop (ι := Nat) (l := fun k n (i : Nat) => l0_i_copyRoom k n r (i : Int) (r.1.take i)) (I := fun i => i ≤ r.1.length) (fun i => r.1.length - i) (Q := fun _ v => v = r) (fun i hi ih => by
    simp only [l0_i_copyRoom, b0_i_copyRoom]
    refine Re.brd (fun g => ?_) (fun g => by rw [List.take_of_length_le (by omega)]; exact two)
    have hl : i < r.1.length := by omega
    have hm := h.copyS.2 i hl
    refine Re.gdd (by omega) (Re.gdd g ?_)
    simp only [Int.toNat_natCast]
    refine Re.s2 (i_copyEvent_eq · _ hm.1 hm.2) (Re.gdd (by simp [maxRow]; omega) ?_)
    rw [idx_succ hl (by omega)]
    have next := ih (i + 1) (by omega) (by omega)
    rw [List.take_add_one, List.getElem?_eq_getElem hl] at next
    rw [rd_at hl]; exact next) 0 (Nat.zero_le _)
  simpa using this
theorem i_AddEvent_ev (r : TRoom) (h : RoomI r) (e : TEvent) (hm : m_Event e ≤ 1048576) (hp : e.2.2.2.2.2.2.2.1.length ≤ 1000) : Ev (fun k => i_AddEvent k r e) (addR r e) := by
  have hlen := h.len
  have hsl := h.sl
  have hgl := h.gl
  have hbl := beforeL_length h hp
  obtain ⟨hm1, hm2, hm3⟩ := m_Event_le hm
  refine Re.eq ?_
  refine Re.brn (fun q => absurd (by rw [hsl]) q) (fun _ => Re.brn (fun q => absurd (by rw [hgl]) q) (fun _ => Re.c1 (i_EventOk_ev e hm) ?_))
  unfold addR
  cases ho : eventOk e with
  | false =>
    refine Re.br (b := true) (fun _ => Re.ret ?_) (fun h => by cases h)
    rw [Bool.false_and, Bool.and_false]; rfl
  | true =>
    refine Re.br (b := false) (fun h => by cases h) (fun _ => ?_)
    refine Re.brd (fun q => Re.ret ?_) (fun q => Re.c1 (i_eventAt_ev r (by omega) _) ?_)
    · rw [decide_eq_false (show ¬ r.1.length < 40 by omega)]
      simp
    rw [decide_eq_true (show r.1.length < 40 by omega)]
    refine Re.brd (fun q2 => Re.ret ?_) (fun q2 => Re.c1 (i_Before_ev r h _ hp) ?_)
    · rw [decide_eq_false (show ¬ hasE r.1 e.1 < 0 by omega)]
      simp
    rw [decide_eq_true (show hasE r.1 e.1 < 0 by omega)]
    generalize beforeL r e.2.2.2.2.2.2.2.1 = b at hbl ⊢
    obtain ⟨s, ok⟩ := b
    cases ok with
    | false => exact Re.ret rfl
    | true =>
      refine Re.br (b := false) (fun h => by cases h) (fun _ => Re.c1 (i_DepthOf_ev r h.copyS _ (by omega)) ?_)
      refine Re.brn (fun q3 => Re.ret (by rw [decide_eq_false q3]; rfl)) (fun q3 => ?_)
      rw [decide_eq_true q3]
      simp only at hbl
      refine Re.c1 (i_Allowed_ev r.1 h.copyS h.noZ s (by omega) e hm) ?_
      have hcp : ∀ k, i_copyEvent k e = some e := fun k => i_copyEvent_eq k e hm1 hm3
      have fin : ∀ (st : List TItem) (b : Bool), Re (fun k => bd (i_copyRoom k r) fun r9 => (bd (i_copyEvent k e) fun r10 => (gd (decide (r9.1.length + ([r10] : List TEvent).length ≤ maxRow)) (gd (decide (r9.2.1.length + [st].length ≤ maxRow)) (gd (decide (r9.2.2.1.length + [b].length ≤ maxRow)) (some (((r9.1 ++ ([r10] : List TEvent)), (r9.2.1 ++ [st]), (r9.2.2.1 ++ [b]), ()), true))))))) (fun v => v = ((r.1 ++ [e], r.2.1 ++ [st], r.2.2.1 ++ [b], ()), true)) := fun st b =>
        Re.c1 (i_copyRoom_ev r h) (Re.s1 hcp (Re.gdd (by simp [maxRow]; omega) (Re.gdd (by simp [maxRow]; omega) (Re.gdd (by simp [maxRow]; omega) (Re.ret rfl)))))
      cases ha : allowed r.1 s e with
      | false => exact Re.br (b := false) (fun h => by cases h) (fun _ => fin s false)
      | true =>
        refine Re.br (b := true) (fun _ => Re.s1 (i_KeyOf_eq e ·) ?_) (fun h => by cases h)
        refine Re.brn (fun q4 => ?_) (fun q4 => ?_)
        · refine Re.s1 (i_KeyOf_eq e ·) (Re.c1 (i_Put_ev s (by omega) _ _) ?_)
          have e4 : (keyOf e != 0) = true := by simp [q4]
          rw [e4]
          exact fin _ true
        · rw [q4]
          exact fin s true
theorem Built.roomI {r : TRoom} (h : Built r) : RoomI r := by
  induction h with
  | nil => exact noRoomI
  | @add r e hb hp ho ih => exact (addR_room ih hp ho).1
def preR (r : TRoom) (i : Nat) : TRoom := (r.1.take i, r.2.1.take i, r.2.2.1.take i, ())
theorem Built.pre {r : TRoom} (h : Built r) : (∀ i, i ≤ r.1.length → Built (preR r i)) ∧ ∀ i, i < r.1.length → addR (preR r i) (rd dTEvent r.1 i) = (preR r (i + 1), true) := by
  induction h with
  | nil => exact ⟨fun i hi => by simp [preR]; exact .nil, fun i hi => by simp at hi⟩
  | @add r e hb hp ho ih =>
    have hI := hb.roomI
    have hsl := hI.sl
    have hgl := hI.gl
    have hnew := Built.add hb hp ho
    obtain ⟨_, _, _, _, _, h6⟩ := addR_true ho
    have hpair : addR r e = ((addR r e).1, true) := Prod.ext rfl ho
    rw [h6] at hnew hpair ⊢
    have hold : ∀ i, i ≤ r.1.length → ∀ (a b : List (List TItem)) (c : List Bool), preR (r.1 ++ [e], r.2.1 ++ b, r.2.2.1 ++ c, ()) i = preR r i := fun i hi a b c => by
      unfold preR
      simp only
      rw [List.take_append_of_le_length hi, List.take_append_of_le_length (by omega), List.take_append_of_le_length (by omega)]
    have hall : ∀ (b : List TItem) (c : Bool), preR (r.1 ++ [e], r.2.1 ++ [b], r.2.2.1 ++ [c], ()) (r.1.length + 1) = (r.1 ++ [e], r.2.1 ++ [b], r.2.2.1 ++ [c], ()) := fun b c => by
      unfold preR
      simp only
      rw [List.take_of_length_le (by simp), List.take_of_length_le (by simp; omega), List.take_of_length_le (by simp; omega)]
    have hself : preR r r.1.length = r := by
      unfold preR
      rw [List.take_length, List.take_of_length_le (by omega), List.take_of_length_le (by omega)]
    refine ⟨fun i hi => ?_, fun i hi => ?_⟩
    · by_cases q : i ≤ r.1.length
      · rw [hold i q []]; exact ih.1 i q
      · have : i = r.1.length + 1 := by simp at hi; omega
        rw [this, hall]; exact hnew
    · simp only at hi
      rw [rd_snocL]
      by_cases q : i < r.1.length
      · rw [if_pos q, hold i (by omega) [], hold (i + 1) (by omega) []]; exact ih.2 i q
      · have : i = r.1.length := by simp at hi; omega
        rw [if_neg q, if_pos this, this, hold _ (Nat.le_refl _) [], hall, hself]
        exact hpair
theorem RoomI.mE {r : TRoom} (h : RoomI r) {i : Nat} (hi : i < r.1.length) : m_Event (rd dTEvent r.1 i) ≤ 1000 ∧ (rd dTEvent r.1 i).2.2.2.2.2.2.2.1.length ≤ 3 := by
  have := event_small (h.ev (rd dTEvent r.1 i) (by rw [rd_at hi]; exact List.getElem_mem _))
  exact ⟨this.2, this.1⟩
theorem i_roomOf_ev (r : TRoom) (h : RoomI r) : Ev (fun k => i_roomOf k r.1) (r, true) := by
  obtain ⟨h1, h2⟩ := h.bt.pre
  have hlen := h.len
  have hself : preR r r.1.length = r := by
    unfold preR
    rw [List.take_length, List.take_of_length_le (by rw [h.sl]; omega), List.take_of_length_le (by rw [h.gl]; omega)]
  refine Re.eq (Re.enter (f := fun k n => l0_i_roomOf k n r.1 0 [] [] []) among_nat ?_)
  have := Re.loop (ι := Nat) (l := fun k n (i : Nat) => l0_i_roomOf k n r.1 (i : Int) (preR r i).1 (preR r i).2.1 (preR r i).2.2.1) (I := fun i => i ≤ r.1.length) (fun i => r.1.length - i) (Q := fun _ v => v = (r, true)) (fun i hi ih => by
    simp only [l0_i_roomOf, b0_i_roomOf, Int.toNat_natCast]
    refine Re.brd (fun g => ?_) (fun g => Re.ret ?_)
    · have hl : i < r.1.length := by omega
      have hm := h.mE hl
      refine Re.gdd (by omega) (Re.gdd g (Re.c2 (i_AddEvent_ev (preR r i) (h1 i (by omega)).roomI _ (by omega) (by omega)) ?_))
      rw [h2 i hl, idx_succ hl (by omega)]
      exact Re.br (b := false) (fun h => by cases h) (fun _ => ih (i + 1) (by omega) (by omega))
    · have e : i = r.1.length := by omega
      rw [e, hself]) 0 (Nat.zero_le _)
  simpa [preR] using this
theorem slices_EqualN_ev (s : List Int) (hs : s.length ≤ 1048576) : Ev (fun k => slices_Equal_int_int k s s) true := by
  refine Re.eq (Re.brn (fun q => absurd rfl q) (fun _ => ?_))
  refine Re.enter (f := fun k n => l0_slices_Equal_int_int k n s s 0) among_nat ?_
  have := Re.loop (ι := Nat) (l := fun k n (i : Nat) => l0_slices_Equal_int_int k n s s (i : Int)) (I := fun i => i ≤ s.length) (fun i => s.length - i) (Q := fun _ v => v = true) (fun i hi ih => by
    simp only [l0_slices_Equal_int_int, b0_slices_Equal_int_int]
    refine Re.brd (fun g => ?_) (fun g => Re.ret rfl)
    have hl : i < s.length := by omega
    refine Re.gdd (by omega) (Re.gdd g (Re.gdd (by omega) (Re.gdd g ?_)))
    refine Re.br (fun q => by simp at q) (fun _ => ?_)
    rw [idx_succ hl (by omega)]
    exact ih (i + 1) (by omega) (by omega)) 0 (Nat.zero_le _)
  exact this
theorem slices_EqualI_ev (s : List TItem) (hs : s.length ≤ 1048576) : Ev (fun k => slices_Equal_impl_Item_impl_Item k s s) true := by
  refine Re.eq (Re.brn (fun q => absurd rfl q) (fun _ => ?_))
  refine Re.enter (f := fun k n => l0_slices_Equal_impl_Item_impl_Item k n s s 0) among_nat ?_
  have := Re.loop (ι := Nat) (l := fun k n (i : Nat) => l0_slices_Equal_impl_Item_impl_Item k n s s (i : Int)) (I := fun i => i ≤ s.length) (fun i => s.length - i) (Q := fun _ v => v = true) (fun i hi ih => by
    simp only [l0_slices_Equal_impl_Item_impl_Item, b0_slices_Equal_impl_Item_impl_Item]
    refine Re.brd (fun g => ?_) (fun g => Re.ret rfl)
    have hl : i < s.length := by omega
    refine Re.gdd (by omega) (Re.gdd g (Re.gdd (by omega) (Re.gdd g ?_)))
    refine Re.br (fun q => by simp at q) (fun _ => ?_)
    rw [idx_succ hl (by omega)]
    exact ih (i + 1) (by omega) (by omega)) 0 (Nat.zero_le _)
  exact this
theorem slices_EqualB_ev (s : List Bool) (hs : s.length ≤ 1048576) : Ev (fun k => slices_Equal_bool_bool k s s) true := by
  refine Re.eq (Re.brn (fun q => absurd rfl q) (fun _ => ?_))
  refine Re.enter (f := fun k n => l0_slices_Equal_bool_bool k n s s 0) among_nat ?_
  have := Re.loop (ι := Nat) (l := fun k n (i : Nat) => l0_slices_Equal_bool_bool k n s s (i : Int)) (I := fun i => i ≤ s.length) (fun i => s.length - i) (Q := fun _ v => v = true) (fun i hi ih => by
    simp only [l0_slices_Equal_bool_bool, b0_slices_Equal_bool_bool]
    refine Re.brd (fun g => ?_) (fun g => Re.ret rfl)
    have hl : i < s.length := by omega
    refine Re.gdd (by omega) (Re.gdd g (Re.gdd (by omega) (Re.gdd g ?_)))
    refine Re.br (fun q => by simp at q) (fun _ => ?_)
    rw [idx_succ hl (by omega)]
    exact ih (i + 1) (by omega) (by omega)) 0 (Nat.zero_le _)
  exact this
theorem i_sameRoom_ev (r : TRoom) (h : RoomI r) : Ev (fun k => i_sameRoom k r r) true := by
  have hlen := h.len
  have hsl := h.sl
  have hgl := h.gl
  refine Re.eq (Re.brn (fun q => absurd rfl q) (fun _ => Re.enter (f := fun k n => l0_i_sameRoom k n r r 0) among_nat ?_))
  have two : Re (fun x : Nat × Nat => l1_i_sameRoom x.1 x.2 r r 0) (fun v => v = true) := by
    have := Re.loop (ι := Nat) (l := fun k n (i : Nat) => l1_i_sameRoom k n r r (i : Int)) (I := fun i => i ≤ r.2.1.length) (fun i => r.2.1.length - i) (Q := fun _ v => v = true) (fun i hi ih => by
      simp only [l1_i_sameRoom, b1_i_sameRoom, Int.toNat_natCast]
      refine Re.brd (fun g => ?_) (fun g => Re.c2 (slices_EqualB_ev _ (by omega)) (Re.ret rfl))
      have hl : i < r.2.1.length := by omega
      have hs := h.st i hl
      refine Re.gdd (by omega) (Re.gdd g (Re.gdd (by omega) (Re.gdd g (Re.c2 (slices_EqualI_ev _ (by omega)) ?_))))
      refine Re.br (b := false) (fun h => by cases h) (fun _ => ?_)
      rw [idx_succ hl (by omega)]
      exact ih (i + 1) (by omega) (by omega)) 0 (Nat.zero_le _)
    exact this
  have := Re.loop (ι := Nat) (l := fun k n (i : Nat) => l0_i_sameRoom k n r r (i : Int)) (I := fun i => i ≤ r.1.length) (fun i => r.1.length - i) (Q := fun _ v => v = true) (fun i hi ih => by
    simp only [l0_i_sameRoom, b0_i_sameRoom, Int.toNat_natCast, beq_self_eq_true, br_true]
    refine Re.brd (fun g => ?_) (fun g => Re.brn (fun q => absurd rfl q) (fun _ => two))
    have hl : i < r.1.length := by omega
    have hm := h.copyS.2 i hl
    refine Re.gdd (by omega) (Re.gdd g (Re.gdd (by omega) (Re.gdd g (Re.c2 (slices_EqualN_ev _ hm.1) ?_))))
    refine Re.br (b := true) (fun _ => Re.c2 (slices_EqualN_ev _ hm.2) ?_) (fun h => by cases h)
    refine Re.br (b := true) (fun _ => ?_) (fun h => by cases h)
    rw [idx_succ hl (by omega)]
    exact Re.br (fun q => by simp at q) (fun _ => ih (i + 1) (by omega) (by omega))) 0 (Nat.zero_le _)
  exact this
theorem i_RoomOk_ev (r : TRoom) (h : RoomI r) : Ev (fun k => i_RoomOk k r) true := by
  have hlen := h.len
  refine Re.eq (Re.brd (fun q => by omega) (fun _ => Re.c1 (i_roomOf_ev r h) ?_))
  exact Re.br (b := true) (fun _ => Re.c1 (i_sameRoom_ev r h) (Re.ret rfl)) (fun h => by cases h)
end Go.Vm
