/- Plain laws. -/
import Derived.Test.YtbekdoadbkibdaaGreatHD2
set_option linter.unusedVariables false
set_option linter.unusedSimpArgs false
namespace Go.Vm
open Go
theorem agreed_at {es : List TEvent} {ss : List (List TItem)} (h : ∀ s ∈ ss, StI es s) {x : TItem} (hx : x ∈ agreedL ss) : ∀ s ∈ ss, atS s x.1 = x.2.1 := by
  unfold agreedL at hx
  obtain ⟨k, hk, rfl⟩ := List.mem_map.1 hx
  rw [List.mem_filter] at hk
  exact alike_iff.1 hk.2
theorem rows_at {ss : List (List TItem)} {i : Nat} (h : i < ss.length) : rd [] ss i ∈ ss := by rw [rd_at h]; exact List.getElem_mem _
theorem FnResolves_ev (a : List Int) : Ev (fun k => l_FnResolves k a) true := by
  refine Re.eq ?_
  simp only [l_FnResolves, g_l_FnResolves]
  refine Re.s1 (v := decide ((a.length : Int) > 1048576)) (fun k => rfl) ?_
  refine Re.brd (fun _ => Re.ret rfl) (fun hl => ?_)
  refine Re.b1 (drawResolve_re a (by omega)) fun q hq => ?_
  obtain ⟨hN, hst⟩ := hq.n
  obtain ⟨r, hD, e1, hmem, hql⟩ := hq
  obtain ⟨es, ss⟩ := q
  simp only at e1 hmem hN hst hql ⊢
  subst e1
  have hI := hD.1
  have hz := RoomD.noZ hD
  have hc := hI.copyS
  have hE := hI.evs
  have hlen := hI.len
  have hR : ∀ ts, StsN ts → Ev (fun k => i_Resolve k r.1 ts) (resolveL r.1 ts) := fun ts ht => i_Resolve_ev r.1 hE hc hz ts ht
  have hrl := resolveL_length (es := r.1) hN
  have hNs : ∀ ts : List (List TItem), ts.length ≤ 2000 → (∀ s ∈ ts, s ∈ ss) → StsN ts := fun ts h1 h2 => ⟨h1, fun i hi => by
    obtain ⟨j, hj, e⟩ := List.getElem_of_mem (h2 _ (rows_at hi))
    rw [← e, ← rd_at (z := []) hj]; exact hN.2 j hj⟩
  refine Re.c1 (hR ss hN) (Re.c1 (s_Resolve_ev r.1 hE ss hN) (Re.c1 (lsameState_ev _ _ (by omega)) ?_))
  rw [eqd_of rfl]
  refine Re.br (b := false) (fun h => by cases h) (fun _ => ?_)
  have hal := agreedL_length ss
  -- the last loops
  have last : 0 < ss.length → Re (fun x : Nat × Nat => (bd (i_Agreed x.1 ss) fun r12 => (l1_l_FnResolves x.1 x.2 0 (r.1, ss) (resolveL r.1 ss) r12))) (fun v => v = true) := fun h0 => by
    refine Re.c2 (i_Agreed_ev ss hN.t) ?_
    have hags := agreed_st hst
    have hat := fun x hx => agreed_at hst (x := x) hx
    have hcl : clashL ss = [] → ∀ x ∈ agreedL ss, atS (resolveL r.1 ss) x.1 = x.2.1 := fun hcl x hx => by
      unfold resolveL
      rw [if_neg (by omega)]
      split
      · exact hat x hx _ (rd_mem h0)
      · rw [hcl]
        have : idsL ss [] = [] := by
          rw [List.eq_nil_iff_forall_not_mem]
          intro x hx
          obtain ⟨_, s, _, k, hk, _⟩ := idsL_mem.1 hx
          simp at hk
        rw [this, orderL_nil]
        exact atS_mem hags.1 hx
    generalize agreedL ss = ag at hal hat hcl ⊢
    have := Re.wf (l := fun k n (st : Nat ⊕ (Nat × Nat)) => match st with
        | .inl i => l1_l_FnResolves k n (i : Int) (r.1, ss) (resolveL r.1 ss) ag
        | .inr (i, j) => l2_l_FnResolves k n (i : Int) (j : Int) (r.1, ss) (resolveL r.1 ss) ag)
      (I := fun st => match st with
        | .inl i => i ≤ ag.length
        | .inr (i, j) => i < ag.length ∧ j ≤ ss.length)
      (fun st => match st with
        | .inl i => (ag.length - i, 2000 + 2)
        | .inr (i, j) => (ag.length - i, ss.length - j + 1)) (Q := fun _ v => v = true) (fun st hi ih => by
      rcases st with i | ⟨i, j⟩
      · simp only at hi ih ⊢
        simp only [z1_l_FnResolves, b1_l_FnResolves, Int.toNat_natCast]
        refine Re.brd (fun g => ?_) (fun g => Re.ret rfl)
        have hi2 : i < ag.length := by omega
        have hm : rd dTItem ag i ∈ ag := by rw [rd_at hi2]; exact List.getElem_mem _
        have next := ih (.inr (i, 0)) ⟨hi2, Nat.zero_le _⟩ (.inr ⟨rfl, by simp only; omega⟩)
        refine Re.c2 (i_Clash_ev ss hN.t) ?_
        refine Re.bre (fun q => ?_) (fun _ => next)
        have hce : clashL ss = [] := List.length_eq_zero_iff.1 (by omega)
        refine Re.gdd (by omega) (Re.gdd g (Re.c2 (i_At_ev _ (by omega) _) (Re.gdd (by omega) (Re.gdd g ?_))))
        rw [hcl hce _ hm]
        exact Re.brn (fun h => absurd rfl h) (fun _ => next)
      · simp only at hi ih ⊢
        obtain ⟨g1, g2⟩ := hi
        simp only [z2_l_FnResolves, b2_l_FnResolves, Int.toNat_natCast]
        have hm : rd dTItem ag i ∈ ag := by rw [rd_at g1]; exact List.getElem_mem _
        refine Re.brd (fun g => ?_) (fun g => ?_)
        · have hj : j < ss.length := by omega
          have hsj := hN.2 j hj
          rw [idx_succ hj (by omega)]
          refine Re.gdd (by omega) (Re.gdd g (Re.gdd (by omega) (Re.gdd (by omega) (Re.c2 (i_At_ev _ (by omega) _) (Re.gdd (by omega) (Re.gdd (by omega) ?_))))))
          rw [hat _ hm _ (rows_at hj)]
          exact Re.brn (fun h => absurd rfl h) (fun _ => ih (.inr (i, j + 1)) ⟨g1, by omega⟩ (.inr ⟨rfl, by simp only; omega⟩))
        · rw [idx_succ g1 (by omega)]
          exact ih (.inl (i + 1)) (by simp only; omega) (.inl (by simp only; omega))) (.inl 0) (Nat.zero_le _)
    exact this
  have e0 : w64 ((ss.length : Int) - 1) = (ss.length : Int) - 1 := w64_eq (by omega) (by omega)
  rw [e0]
  refine Re.enter (f := fun k n => l0_l_FnResolves k n ((ss.length : Int) - 1) (r.1, ss) (resolveL r.1 ss) []) among_nat ?_
  have := Re.loop (ι := Nat) (l := fun k n (i : Nat) => l0_l_FnResolves k n ((ss.length : Int) - 1 - (i : Int)) (r.1, ss) (resolveL r.1 ss) (ss.reverse.take i)) (I := fun i => i ≤ ss.length) (fun i => ss.length - i) (Q := fun _ v => v = true) (fun i hi ih => by
    simp only [l0_l_FnResolves, b0_l_FnResolves]
    refine Re.brd (fun g => ?_) (fun g => ?_)
    · have hil : i < ss.length := by omega
      have en : ((ss.length : Int) - 1 - (i : Int)).toNat = ss.length - 1 - i := by omega
      have next := ih (i + 1) (by omega) (by omega)
      have ew : w64 ((ss.length : Int) - 1 - (i : Int) - 1) = (ss.length : Int) - 1 - ((i + 1 : Nat) : Int) := by rw [w64_eq (by omega) (by omega)]; omega
      have et : ss.reverse.take (i + 1) = ss.reverse.take i ++ [rd [] ss (ss.length - 1 - i)] := by
        rw [List.take_succ_eq_append_getElem (by simp; omega), List.getElem_reverse, rd_at (by omega)]
      rw [et] at next
      refine Re.gdd (by omega) (Re.gdd (by omega) (Re.gdd (by simp [maxRow]; omega) ?_))
      rw [ew, en]; exact next
    · have hie : i = ss.length := by omega
      have et : ss.reverse.take i = ss.reverse := List.take_of_length_le (by simp; omega)
      rw [et]
      have hrev : resolveL r.1 ss.reverse = resolveL r.1 ss := by
        by_cases q : 2 ≤ ss.length
        · exact resolveL_same r.1 (fun s => List.mem_reverse) (by simpa using q) q
        · match ss, q with
          | [], _ => rfl
          | [s], _ => rfl
          | _ :: _ :: _, q => simp at q
      refine Re.c2 (hR _ (hNs _ (by simp; omega) fun s hs => List.mem_reverse.1 hs)) ?_
      rw [hrev]
      refine Re.c2 (lsameState_ev _ _ (by omega)) ?_
      rw [eqd_of rfl]
      refine Re.br (b := false) (fun h => by cases h) (fun _ => ?_)
      refine Re.bre (fun q => Re.ret ?_) (fun q => ?_)
      · have : ss = [] := List.length_eq_zero_iff.1 (by omega)
        rw [this]; rfl
      · have h0 : 0 < ss.length := by omega
        have hm0 : rd [] ss 0 ∈ ss := rd_mem h0
        have hs0 := hst _ hm0
        have hl0 := hN.2 0 h0
        refine Re.gdd (by simp [maxRow]; omega) (Re.gdd (by omega) (Re.gdd (by simp [maxRow]; omega) (Re.gdd (by omega) (Re.gdd (by omega) (Re.gdd (by omega) ?_)))))
        refine Re.c2 (hR _ (hNs _ (by simp) fun s hs => by simp at hs; rw [hs]; exact hm0)) ?_
        rw [resolve_one hs0.1 (fun t ht => by simpa using ht) (by simp)]
        refine Re.gdd (by omega) (Re.c2 (lsameState_ev _ _ (by omega)) ?_)
        rw [eqd_of rfl]
        refine Re.br (b := false) (fun h => by cases h) (fun _ => ?_)
        refine Re.brd (fun q2 => ?_) (fun _ => last h0)
        refine Re.c2 (hR _ (hNs _ (by simp; omega) fun s hs => by
          simp only [List.nil_append] at hs
          rcases List.mem_append.1 hs with h | h
          · exact h
          · rw [List.mem_singleton] at h; rw [h]; exact hm0)) ?_
        rw [List.nil_append, resolveL_same r.1 (ts := ss) (fun s => by
          rw [List.mem_append, List.mem_singleton]
          exact ⟨fun h => by rcases h with h | h; exact h; rw [h]; exact hm0, .inl⟩) (by simp; omega) (by omega)]
        refine Re.c2 (lsameState_ev _ _ (by omega)) ?_
        rw [eqd_of rfl]
        exact Re.br (b := false) (fun h => by cases h) (fun _ => last h0)) 0 (Nat.zero_le _)
  simpa using this
end Go.Vm
