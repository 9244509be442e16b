/- Plain laws. -/
import Derived.Test.YtgkcajcpnlkdfaaHC2
set_option linter.unusedVariables false
set_option linter.unusedSimpArgs false
namespace Go.Vm
open Go
/-! ### Rooms, by the program -/
theorem endsL_spec (es : List TEvent) : Asc (endsL es) ∧ ∀ x, x ∈ endsL es ↔ ∃ e ∈ es, named es e.1 = false ∧ e.1 = x := by
  have : ∀ (xs : List TEvent) (a : List Int), Asc a → Asc (xs.foldl (endStep es) a) ∧ ∀ x, x ∈ xs.foldl (endStep es) a ↔ x ∈ a ∨ ∃ e ∈ xs, named es e.1 = false ∧ e.1 = x := by
    intro xs
    induction xs with
    | nil => intro a h; exact ⟨h, fun x => by simp⟩
    | cons y ys ih =>
      intro a h
      rw [List.foldl_cons]
      unfold endStep at ih ⊢
      cases hn : named es y.1 with
      | true =>
        obtain ⟨g1, g2⟩ := ih a h
        refine ⟨g1, fun x => ?_⟩
        simp only [cond_true]
        rw [g2]
        constructor
        · rintro (q | ⟨e, he, q⟩)
          · exact .inl q
          · exact .inr ⟨e, List.mem_cons_of_mem _ he, q⟩
        · rintro (q | ⟨e, he, q1, q2⟩)
          · exact .inl q
          · rcases List.mem_cons.1 he with e2 | e2
            · rw [e2, hn] at q1; cases q1
            · exact .inr ⟨e, e2, q1, q2⟩
      | false =>
        obtain ⟨g1, g2⟩ := ih (addL a y.1) (addGo_asc y.1 a false h)
        refine ⟨g1, fun x => ?_⟩
        simp only [cond_false]
        rw [g2, addL_mem]
        constructor
        · rintro ((q | q) | ⟨e, he, q⟩)
          · exact .inl q
          · exact .inr ⟨y, List.mem_cons_self .., hn, q.symm⟩
          · exact .inr ⟨e, List.mem_cons_of_mem _ he, q⟩
        · rintro (q | ⟨e, he, q1, q2⟩)
          · exact .inl (.inl q)
          · rcases List.mem_cons.1 he with e2 | e2
            · rw [e2] at q2; exact .inl (.inr q2.symm)
            · exact .inr ⟨e, e2, q1, q2⟩
  obtain ⟨h1, h2⟩ := this es [] (by simp [Asc])
  exact ⟨h1, fun x => by unfold endsL; rw [h2]; simp⟩
def endIds (es : List TEvent) (xs : List TEvent) : List Int := (xs.filter fun e => !named es e.1).map fun e => e.1
theorem endIds_len (es xs : List TEvent) : (endIds es xs).length ≤ xs.length := by
  unfold endIds
  rw [List.length_map]
  exact List.length_filter_le _ _
theorem endIds_take (es : List TEvent) {xs : List TEvent} {i : Nat} (h : i < xs.length) : endIds es (xs.take (i + 1)) = endIds es (xs.take i) ++ (if named es (rd dTEvent xs i).1 = true then [] else [(rd dTEvent xs i).1]) := by
  unfold endIds
  rw [List.take_add_one, List.getElem?_eq_getElem h, rd_at h, List.filter_append, List.map_append]
  congr 1
  by_cases q : named es xs[i].1 = true <;> simp [q]
theorem i_EndsOf_ev (r : TRoom) (h : PrevS r.1) : Ev (fun k => i_EndsOf k r) (endsL r.1) := by
  obtain ⟨h1, h2⟩ := h
  have hil := endIds_len r.1 r.1
  have fin : Re (fun x : Nat × Nat => (bd (slices_Sort_int_int x.1 (endIds r.1 r.1)) fun r2 => (gd (Nat.beq r2.2.1.length (endIds r.1 r.1).length) (br (decide ((r2.2.1.length : Int) < 2)) (some r2.2.1) (l2_i_EndsOf x.1 x.2 1 r2 r (r.1.length : Int)))))) (fun v => v = endsL r.1) := by
    have hsort : ∀ k, slices_Sort_int_int k (endIds r.1 r.1) = some ((), sortL (endIds r.1 r.1), ()) := fun k => sort_eq (by omega)
    refine Re.s2 hsort ?_
    have hl := sortL_len (endIds r.1 r.1)
    refine Re.gd (by rw [hl]; exact Nat.beq_refl _) ?_
    have uq : ∀ v, UniqOf (endIds r.1 r.1) v → v = endsL r.1 := fun v hv => by
      refine asc_ext hv.1 (endsL_spec r.1).1 fun x => ?_
      rw [hv.2, (endsL_spec r.1).2]
      unfold endIds
      rw [List.mem_map]
      simp only [List.mem_filter, Bool.not_eq_true']
      exact ⟨fun ⟨e, ⟨a, b⟩, c⟩ => ⟨e, a, b, c⟩, fun ⟨e, a, b, c⟩ => ⟨e, ⟨a, b⟩, c⟩⟩
    refine Re.brd (fun q => Re.ret (uq _ (uniq_sort (short_uniq (by simp only at q; omega))))) (fun q => ?_)
    have := compact_re (sortL_le (endIds r.1 r.1)) (by omega) (fun k n v5 => l2_i_EndsOf k n v5 ((), sortL (endIds r.1 r.1), ()) r (r.1.length : Int)) (fun k n v6 v5 v7 xs8 => l3_i_EndsOf k n v6 v5 v7 xs8 r (r.1.length : Int)) (fun k n v5 => rfl) (fun k n v6 v5 v7 xs8 => rfl)
    exact this.mono fun v hv => uq v (uniq_sort hv)
  refine Re.eq (Re.enter (f := fun k n => l0_i_EndsOf k n r 0 []) among_nat ?_)
  have := Re.wf (l := fun k n (st : Nat ⊕ (Nat × Nat)) => match st with
      | .inl i => l0_i_EndsOf k n r (i : Int) (endIds r.1 (r.1.take i))
      | .inr (i, j) => l1_i_EndsOf k n r (j : Int) (i : Int) (endIds r.1 (r.1.take i)))
    (I := fun st => match st with
      | .inl i => i ≤ r.1.length
      | .inr (i, j) => i < r.1.length ∧ j ≤ r.1.length ∧ ∀ m, m < j → (rd dTEvent r.1 i).1 ∉ (rd dTEvent r.1 m).2.2.2.2.2.2.2.1)
    (fun st => match st with
      | .inl i => (r.1.length - i, 1048580)
      | .inr (i, j) => (r.1.length - i, r.1.length - j + 1)) (Q := fun _ v => v = endsL r.1) (fun st hi ih => by
    rcases st with i | ⟨i, j⟩
    · simp only at hi ih ⊢
      simp only [z0_i_EndsOf, b0_i_EndsOf]
      refine Re.brd (fun g => ?_) (fun g => ?_)
      · exact Re.gdd (by omega) (Re.gdd g (ih (.inr (i, 0)) ⟨by omega, Nat.zero_le _, fun m h => by omega⟩ (.inr ⟨rfl, by simp only; omega⟩)))
      · have e : i = r.1.length := by omega
        rw [e, List.take_length]
        exact fin
    · simp only at hi ih ⊢
      obtain ⟨g1, g2, g3⟩ := hi
      simp only [z1_i_EndsOf, b1_i_EndsOf, Int.toNat_natCast]
      have hlt := endIds_len r.1 (r.1.take i)
      have hlt2 : (r.1.take i).length ≤ r.1.length := List.length_take_le' ..
      rw [idx_succ g1 (by omega)]
      have next := ih (.inl (i + 1)) (by simp only; omega) (.inl (by simp only; omega))
      simp only [endIds_take r.1 g1] at next
      refine Re.brd (fun g => ?_) (fun g => ?_)
      · have hj : j < r.1.length := by omega
        have hpj := h2 j hj
        refine Re.gdd (by omega) (Re.gdd g (Re.c2 (slices_Contains_ev _ hpj _) ?_))
        refine Re.brd (fun q => ?_) (fun q => ?_)
        · refine Re.br (fun h => by simp at h) (fun _ => ?_)
          have hn : named r.1 (rd dTEvent r.1 i).1 = true := by
            unfold named
            rw [List.any_eq_true]
            exact ⟨rd dTEvent r.1 j, by rw [rd_at hj]; exact List.getElem_mem _, by simpa using q⟩
          rw [if_pos hn, List.append_nil] at next; exact next
        · rw [idx_succ hj (by omega)]
          refine ih (.inr (i, j + 1)) ⟨g1, by omega, fun m hm => ?_⟩ (.inr ⟨rfl, by simp only; omega⟩)
          by_cases e : m = j
          · rw [e]; exact q
          · exact g3 m (by omega)
      · have hn : ¬ named r.1 (rd dTEvent r.1 i).1 = true := fun h => by
          unfold named at h
          rw [List.any_eq_true] at h
          obtain ⟨f, hf, h4⟩ := h
          obtain ⟨m, hm, rfl⟩ := List.getElem_of_mem hf
          have := g3 m (by omega)
          rw [rd_at hm] at this
          exact this (by simpa using h4)
        rw [if_neg hn] at next
        exact Re.gdd (by simp only [List.length_singleton]; unfold maxRow; omega) next) (.inl 0) (Nat.zero_le _)
  exact this
theorem hasE_find {es : List TEvent} {p : Int} : findE es p = if hasE es p ≥ 0 then (rd dTEvent es (hasE es p).toNat, true) else (noEv, false) := by
  rcases hasE_spec es p with ⟨e, hn⟩ | ⟨i, hi, e, e2, e3⟩
  · rw [e, if_neg (by omega)]
    rcases findE_cases es p with q | ⟨x, hx, _, q⟩
    · exact q
    · exact absurd q (hn x hx)
  · rw [e, if_pos (by omega), Int.toNat_natCast]
    unfold findE
    have : es.find? (fun x => x.1 == p) = some (rd dTEvent es i) := by
      rw [List.find?_eq_some_iff_getElem]
      refine ⟨by simpa using e2, i, hi, by rw [rd_at hi], fun j hj => ?_⟩
      have := e3 j hj
      rw [rd_at (show j < es.length by omega)] at this
      simpa using this
    rw [this]; rfl
theorem i_DepthOf_ev (r : TRoom) (hc : CopyS r.1) (prev : List Int) (hp : prev.length ≤ 1048576) : Ev (fun k => i_DepthOf k r prev) (depthOf r.1 prev) := by
  refine Re.eq (Re.enter (f := fun k n => l0_i_DepthOf k n (-1) prev 0 r) among_nat ?_)
  have := Re.loop (ι := Nat) (l := fun k n (i : Nat) => l0_i_DepthOf k n ((prev.take i).foldl (moreD r.1) (-1)) prev (i : Int) r) (I := fun i => i ≤ prev.length) (fun i => prev.length - i) (Q := fun _ v => v = depthOf r.1 prev) (fun i hi ih => by
    simp only [l0_i_DepthOf, b0_i_DepthOf]
    refine Re.brd (fun g => ?_) (fun g => Re.ret ?_)
    · have hl : i < prev.length := by omega
      have next := ih (i + 1) (by omega) (by omega)
      rw [foldl_take (moreD r.1) 0 prev _ hl] at next
      generalize (prev.take i).foldl (moreD r.1) (-1) = m at next ⊢
      refine Re.gdd (by omega) (Re.gdd g ?_)
      simp only [Int.toNat_natCast]
      rw [idx_succ hl (by omega)]
      refine Re.c2 (i_Known_ev r.1 hc _) ?_
      rw [hasE_find]
      unfold moreD at next
      by_cases q : hasE r.1 (rd 0 prev i) ≥ 0
      · rw [if_pos q]
        refine Re.br (b := true) (fun _ => ?_) (fun h => by cases h)
        by_cases q2 : (rd dTEvent r.1 (hasE r.1 (rd 0 prev i)).toNat).2.2.2.2.2.2.2.2.1 > m
        · rw [if_pos ⟨q, q2⟩] at next
          rw [if_pos q2]; exact next
        · rw [if_neg fun h => q2 h.2] at next
          rw [if_neg q2]; exact next
      · rw [if_neg q]
        rw [if_neg fun h => q h.1] at next
        exact Re.br (b := false) (fun h => by cases h) (fun _ => next)
    · rw [List.take_of_length_le (by omega)]
      have hge := moreD_ge r.1 prev (-1)
      unfold depthOf
      have e : prev.foldl (moreD r.1) (-1) = mostD r.1 prev := rfl
      rw [e] at hge ⊢
      by_cases q : mostD r.1 prev > 1000000
      · rw [if_pos (by omega), if_pos q]; rfl
      · rw [if_neg (by omega), if_neg q, w64_eq (by omega) (by omega)]) 0 (Nat.zero_le _)
  exact this
end Go.Vm
