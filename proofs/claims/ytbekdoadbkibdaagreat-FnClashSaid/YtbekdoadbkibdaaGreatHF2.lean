/- Plain laws. -/
import Derived.Test.YtbekdoadbkibdaaGreatHE2
set_option linter.unusedVariables false
set_option linter.unusedSimpArgs false
namespace Go.Vm
open Go
/-- What is found of several states: all of it was had by one of them; what they do not clash in is what they agree in. -/
def HadI (ss : List (List TItem)) (now : List TItem) : Prop := ∀ x ∈ now, (∃ s ∈ ss, x ∈ s) ∧ (x.1 ∈ clashL ss ∨ x ∈ agreedL ss)
theorem had_step {es : List TEvent} {ss : List (List TItem)} (h : ∀ s ∈ ss, StI es s) {now : List TItem} (hn : HadI ss now) {x : Int} (hx : x ∈ idsL ss (clashL ss)) : HadI ss (resStep es now x) := by
  unfold resStep
  cases allowed es now (findE es x).1 && keyOf (findE es x).1 != 0 with
  | false => exact hn
  | true =>
    obtain ⟨h0, s, hs, k, hk, e⟩ := idsL_mem.1 hx
    have hit := atS_item (s := s) (k := k) (by rw [e]; exact h0)
    rw [e] at hit
    obtain ⟨hf, hko⟩ := (h s hs).2 _ hit
    simp only at hf hko
    intro y hy
    simp only [cond_true] at hy
    rw [found_id hf, hko] at hy
    rcases putS_mem hy with e2 | e2
    · rw [e2]; exact ⟨⟨s, hs, hit⟩, .inl hk⟩
    · exact hn y e2
theorem had_fold {es : List TEvent} {ss : List (List TItem)} (h : ∀ s ∈ ss, StI es s) : ∀ (xs : List Int) {now : List TItem}, HadI ss now → (∀ x ∈ xs, x ∈ idsL ss (clashL ss)) → HadI ss (xs.foldl (resStep es) now)
  | [], _, hn, _ => hn
  | x :: xs, _, hn, hx => had_fold h xs (had_step h hn (hx x (List.mem_cons_self ..))) fun y hy => hx y (List.mem_cons_of_mem _ hy)
theorem resolve_had {es : List TEvent} {ss : List (List TItem)} (h : ∀ s ∈ ss, StI es s) (h0 : 0 < ss.length) : HadI ss (resolveL es ss) := by
  unfold resolveL
  rw [if_neg (by omega)]
  split
  · rename_i h1
    have hm : rd [] ss 0 ∈ ss := rd_mem h0
    have hall : ∀ t ∈ ss, t = rd [] ss 0 := fun t ht => by
      obtain ⟨i, hi, rfl⟩ := List.getElem_of_mem ht
      have : i = 0 := by omega
      subst this
      rw [rd_at hi]
    obtain ⟨ha, _⟩ := agreed_one (h _ hm).1 hall h0
    exact fun x hx => ⟨⟨_, hm, hx⟩, .inr (by rw [ha]; exact hx)⟩
  · exact had_fold h _ (fun x hx => ⟨agreed_item (fun s hs => (h s hs).1) hx, .inr hx⟩) fun x hx => (orderL_found es _ _ x hx).2
theorem FnClash_ev (a : List Int) : Ev (fun k => l_FnClash k a) true := by
  refine Re.eq ?_
  simp only [l_FnClash, g_l_FnClash]
  refine Re.s1 (v := decide ((a.length : Int) > 1048576)) (fun k => rfl) ?_
  refine Re.brd (fun _ => Re.ret rfl) (fun hl => ?_)
  refine Re.b1 (drawResolve_re a (by omega)) fun q hq => ?_
  obtain ⟨hN, hst⟩ := hq.n
  obtain ⟨r, hD, e1, hmem, hql⟩ := hq
  obtain ⟨es, ss⟩ := q
  simp only at e1 hmem hN hst hql ⊢
  subst e1
  have hI := hD.1
  have hz := RoomD.noZ hD
  have hc := hI.copyS
  have hE := hI.evs
  have hlen := hI.len
  have hrl := resolveL_length (es := r.1) hN
  have hal := agreedL_length ss
  have hcl : (clashL ss).length ≤ 16 := Nat.le_trans (List.length_filter_le _ _) (keysTo_length ss 16)
  have hags := agreed_st hst
  have hdis : ∀ x ∈ agreedL ss, x.1 ∉ clashL ss := fun x hx hc2 => by
    unfold agreedL at hx
    obtain ⟨k, hk, rfl⟩ := List.mem_map.1 hx
    unfold clashL at hc2
    rw [List.mem_filter] at hk hc2
    rw [hk.2] at hc2
    cases hc2.2
  refine Re.c1 (i_Clash_ev ss hN.t) (Re.c1 (i_Agreed_ev ss hN.t) (Re.c1 (s_Clash_ev ss hN.s) (Re.c1 (lsameInts_ev _ (by omega)) ?_)))
  refine Re.br (b := false) (fun h => by cases h) (fun _ => ?_)
  have hsa : Ev (fun k => s_Agreed k ss) (agreedL ss) := by
    by_cases h0 : 0 < ss.length
    · exact s_Agreed_ev ss hN.s h0
    · have : ss = [] := List.length_eq_zero_iff.1 (by omega)
      subst this
      refine Re.eq (Re.c1 (s_l11Keys_ev [] hN.s) ?_)
      refine Re.enter (f := fun k n => l0_s_Agreed k n [] 0 [] (keysL [])) among_nat ?_
      refine ⟨[], rfl, 1, fun x hx => ?_⟩
      obtain ⟨k, n⟩ := x
      obtain ⟨m, rfl⟩ : ∃ m, n = m + 1 := ⟨n - 1, by have := hx.2; simp only at this; omega⟩
      rfl
  refine Re.c1 hsa (Re.c1 (lsameState_ev _ _ (by omega)) ?_)
  rw [eqd_of rfl]
  refine Re.br (b := false) (fun h => by cases h) (fun _ => ?_)
  have hhad : 0 < ss.length → HadI ss (resolveL r.1 ss) := resolve_had hst
  have hnil : ss.length = 0 → resolveL r.1 ss = [] := fun h => by unfold resolveL; rw [if_pos h]
  have hRes := i_Resolve_ev r.1 hE hc hz ss hN
  unfold HadI at hhad
  generalize agreedL ss = ag at hal hags hdis hhad ⊢
  generalize clashL ss = cl at hcl hdis hhad ⊢
  have last : Re (fun x : Nat × Nat => l1_l_FnClash x.1 x.2 0 (r.1, ss) cl ag (resolveL r.1 ss)) (fun v => v = true) := by
    generalize resolveL r.1 ss = s at hrl hhad hnil ⊢
    have := Re.wf (l := fun k n (st : Nat ⊕ (Nat × Nat × Bool)) => match st with
        | .inl i => l1_l_FnClash k n (i : Int) (r.1, ss) cl ag s
        | .inr (i, j, b) => l2_l_FnClash k n (i : Int) b (j : Int) (r.1, ss) cl ag s)
      (I := fun st => match st with
        | .inl i => i ≤ s.length
        | .inr (i, j, b) => i < s.length ∧ j ≤ ss.length ∧ (b = false → ∀ m, m < j → atS (rd [] ss m) (rd dTItem s i).1 ≠ (rd dTItem s i).2.1))
      (fun st => match st with
        | .inl i => (s.length - i, 2000 + 2)
        | .inr (i, j, b) => (s.length - i, ss.length - j + 1)) (Q := fun _ v => v = true) (fun st hi ih => by
      rcases st with i | ⟨i, j, b⟩
      · simp only at hi ih ⊢
        simp only [z1_l_FnClash, b1_l_FnClash]
        refine Re.brd (fun g => ?_) (fun g => Re.ret rfl)
        exact ih (.inr (i, 0, (ss.length : Int) == 0)) ⟨by omega, Nat.zero_le _, fun _ m hm => by omega⟩ (.inr ⟨rfl, by simp only; omega⟩)
      · simp only at hi ih ⊢
        obtain ⟨g1, g2, g3⟩ := hi
        simp only [z2_l_FnClash, b2_l_FnClash, Int.toNat_natCast]
        have h0 : 0 < ss.length := by
          rcases Nat.eq_zero_or_pos ss.length with q | q
          · rw [hnil q] at g1; simp at g1
          · exact q
        have hm : rd dTItem s i ∈ s := by rw [rd_at g1]; exact List.getElem_mem _
        obtain ⟨⟨t, ht, htx⟩, hca⟩ := hhad h0 _ hm
        refine Re.brd (fun g => ?_) (fun g => ?_)
        · have hj : j < ss.length := by omega
          have hsj := hN.2 j hj
          rw [idx_succ hj (by omega)]
          refine Re.br (fun hb => ?_) (fun hb => ?_)
          · exact ih (.inr (i, j + 1, true)) ⟨g1, by omega, fun h => by cases h⟩ (.inr ⟨rfl, by simp only; omega⟩)
          · refine Re.gdd (by omega) (Re.gdd g (Re.gdd (by omega) (Re.gdd (by omega) (Re.c2 (i_At_ev _ (by omega) _) (Re.gdd (by omega) (Re.gdd (by omega) ?_))))))
            refine ih (.inr (i, j + 1, _)) ⟨g1, by omega, fun h m hm2 => ?_⟩ (.inr ⟨rfl, by simp only; omega⟩)
            by_cases e : m = j
            · rw [e]; simpa using h
            · exact g3 hb m (by omega)
        · have hb : b = true := by
            cases hb : b with
            | true => rfl
            | false =>
              obtain ⟨m, hm2, rfl⟩ := List.getElem_of_mem ht
              have := g3 hb m (by omega)
              rw [rd_at hm2] at this
              exact absurd (atS_mem (hst _ ht).1 htx) this
          rw [hb, idx_succ g1 (by omega)]
          refine Re.br (b := false) (fun h => by cases h) (fun _ => Re.gdd (by omega) (Re.gdd (by omega) (Re.c2 (l_in_ev _ (by omega) _) ?_)))
          have next := ih (.inl (i + 1)) (by simp only; omega) (.inl (by simp only; omega))
          refine Re.br (fun q => ?_) (fun _ => next)
          have hnc : (rd dTItem s i).1 ∉ cl := by simpa using q
          rcases hca with h | h
          · exact absurd h hnc
          · refine Re.gdd (by omega) (Re.gdd (by omega) (Re.c2 (i_At_ev _ (by omega) _) (Re.gdd (by omega) (Re.gdd (by omega) ?_))))
            rw [atS_mem hags.1 h]
            exact Re.brn (fun h => absurd rfl h) (fun _ => next)) (.inl 0) (Nat.zero_le _)
    exact this
  refine Re.enter (f := fun k n => l0_l_FnClash k n 0 (r.1, ss) cl ag) among_nat ?_
  have := Re.loop (ι := Nat) (l := fun k n (i : Nat) => l0_l_FnClash k n (i : Int) (r.1, ss) cl ag) (I := fun i => i ≤ ag.length) (fun i => ag.length - i) (Q := fun _ v => v = true) (fun i hi ih => by
    simp only [l0_l_FnClash, b0_l_FnClash, Int.toNat_natCast]
    refine Re.brd (fun g => ?_) (fun g => Re.c2 hRes last)
    have hi2 : i < ag.length := by omega
    have hm : rd dTItem ag i ∈ ag := by rw [rd_at hi2]; exact List.getElem_mem _
    rw [idx_succ hi2 (by omega)]
    refine Re.gdd (by omega) (Re.gdd g (Re.c2 (l_in_ev _ (by omega) _) ?_))
    rw [decide_eq_false (hdis _ hm)]
    exact Re.br (b := false) (fun h => by cases h) (fun _ => ih (i + 1) (by omega) (by omega))) 0 (Nat.zero_le _)
  exact this
end Go.Vm
