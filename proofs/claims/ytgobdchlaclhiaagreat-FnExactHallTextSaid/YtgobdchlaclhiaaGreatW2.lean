/- Plain laws. -/
import Derived.Test.YtgobdchlaclhiaaGreatT2
set_option linter.unusedVariables false
set_option linter.unusedSimpArgs false
namespace Go.Vm
open Go
/-! ### One state of several -/
theorem orderGo_length (es : List TEvent) (s : List TItem) (L : List Int) : ∀ (f : Nat) (out : List Int), (orderGo es s L f out).length ≤ out.length + f
  | 0, out => Nat.le_refl _
  | f + 1, out => by
    unfold orderGo
    split
    · omega
    · rename_i b hb
      have := orderGo_length es s L f (out ++ [b.1])
      simp at this; omega
def idsOf (s : List TItem) (ks : List Int) : List Int := (ks.map (atS s)).filter fun x => x != 0
def idsL (ss : List (List TItem)) (ks : List Int) : List Int := ss.flatMap fun s => idsOf s ks
theorem idsOf_length (s : List TItem) (ks : List Int) : (idsOf s ks).length ≤ ks.length := by
  unfold idsOf
  exact Nat.le_trans (List.length_filter_le _ _) (by simp)
theorem idsL_length (ks : List Int) : ∀ ss : List (List TItem), (idsL ss ks).length ≤ ss.length * ks.length
  | [] => by simp [idsL]
  | s :: ss => by
    have h1 := idsOf_length s ks
    have h2 := idsL_length ks ss
    have e : idsL (s :: ss) ks = idsOf s ks ++ idsL ss ks := by simp [idsL]
    rw [e, List.length_append, List.length_cons, Nat.succ_mul]
    omega
noncomputable def resStep (es : List TEvent) (now : List TItem) (x : Int) : List TItem := bif allowed es now (findE es x).1 && keyOf (findE es x).1 != 0 then putS now (keyOf (findE es x).1) (findE es x).1.1 else now
noncomputable def resolveL (es : List TEvent) (ss : List (List TItem)) : List TItem :=
  if ss.length = 0 then [] else if ss.length = 1 then rd [] ss 0 else (orderL es (agreedL ss) (idsL ss (clashL ss))).foldl (resStep es) (agreedL ss)
/-- Events that may be worked with. -/
def EvS (es : List TEvent) : Prop := es.length ≤ 100000 ∧ (∀ y, (prevsOf es y).length ≤ 1048576) ∧ ∀ y, m_Event (findE es y).1 ≤ 1048576
def StsN (ss : List (List TItem)) : Prop := ss.length ≤ 2000 ∧ ∀ i, i < ss.length → (rd [] ss i).length ≤ 16
def StsB (ss : List (List TItem)) : Prop := ss.length ≤ 1048576 ∧ ∀ i, i < ss.length → (rd [] ss i).length ≤ 16
theorem StsN.b {ss : List (List TItem)} (h : StsN ss) : StsB ss := ⟨by have := h.1; omega, h.2⟩
theorem StsB.s {ss : List (List TItem)} (h : StsB ss) : StsS ss := ⟨by have := h.1; omega, fun i hi => by have := h.2 i hi; omega⟩
theorem StsN.s {ss : List (List TItem)} (h : StsN ss) : StsS ss := ⟨by have := h.1; omega, fun i hi => by have := h.2 i hi; omega⟩
theorem agreedL_length (ss : List (List TItem)) : (agreedL ss).length ≤ 16 := by
  unfold agreedL
  have := keysTo_length ss 16
  rw [List.length_map]
  exact Nat.le_trans (List.length_filter_le _ _) this
theorem resStep_length {es : List TEvent} {now : List TItem} (h : now.length ≤ 16) (x : Int) : (resStep es now x).length ≤ 16 := by
  unfold resStep
  cases allowed es now (findE es x).1 && keyOf (findE es x).1 != 0 with
  | true => exact putS_length h (by omega)
  | false => exact h
theorem resFold_length {es : List TEvent} : ∀ (xs : List Int) {now : List TItem}, now.length ≤ 16 → (xs.foldl (resStep es) now).length ≤ 16
  | [], _, h => h
  | x :: xs, _, h => by rw [List.foldl_cons]; exact resFold_length xs (resStep_length h x)
theorem resolveL_lengthB {es : List TEvent} {ss : List (List TItem)} (h : StsB ss) : (resolveL es ss).length ≤ 16 := by
  unfold resolveL
  split
  · exact Nat.zero_le _
  · split
    · rename_i h1; exact h.2 0 (by omega)
    · exact resFold_length _ (agreedL_length ss)
theorem flat_take {ss : List (List TItem)} {i : Nat} (h : i < ss.length) (ks : List Int) : idsL (ss.take (i + 1)) ks = idsL (ss.take i) ks ++ idsOf (rd [] ss i) ks := by
  unfold idsL
  rw [List.take_add_one, List.getElem?_eq_getElem h, rd_at h, List.flatMap_append]
  simp
theorem idsOf_take {s : List TItem} {ks : List Int} {j : Nat} (h : j < ks.length) : idsOf s (ks.take (j + 1)) = idsOf s (ks.take j) ++ (if atS s (rd 0 ks j) = 0 then [] else [atS s (rd 0 ks j)]) := by
  unfold idsOf
  rw [take_int h, List.map_append, List.filter_append]
  congr 1
  by_cases q : atS s (rd 0 ks j) = 0
  · simp [q]
  · simp [q]
theorem s_ResolveB_ev (es : List TEvent) (hE : EvS es) (ss : List (List TItem)) (hS : StsB ss) : Ev (fun k => s_Resolve k es ss) (resolveL es ss) := by
  obtain ⟨e1, e2, e3⟩ := hE
  obtain ⟨s1, s2⟩ := hS
  refine Re.eq ?_
  unfold resolveL
  refine Re.bre (fun q => Re.ret (by rw [if_pos (by omega)])) (fun q => ?_)
  rw [if_neg (by omega)]
  refine Re.bre (fun q1 => ?_) (fun q1 => ?_)
  · rw [if_pos (by omega)]
    have := s2 0 (by omega)
    exact Re.gdd (by omega) (Re.gdd (by simp [maxRow]; omega) (Re.ret rfl))
  rw [if_neg (by omega)]
  have hSS : StsS ss := StsB.s ⟨s1, s2⟩
  refine Re.c1 (s_Agreed_ev ss hSS (by omega)) (Re.c1 (s_Clash_ev ss hSS) ?_)
  have hkl : (clashL ss).length ≤ 16 := by
    unfold clashL
    have := keysTo_length ss 16
    exact Nat.le_trans (List.length_filter_le _ _) this
  have hal := agreedL_length ss
  generalize hks : clashL ss = ks at hkl ⊢
  have hil := idsL_length ks ss
  have hmul : ss.length * ks.length ≤ 16777216 := Nat.le_trans (Nat.mul_le_mul s1 hkl) (by omega)
  have last : ∀ order : List Int, order.length ≤ 1000000 → Re (fun x : Nat × Nat => l2_s_Resolve x.1 x.2 es 0 (agreedL ss) order) (fun v => v = order.foldl (resStep es) (agreedL ss)) := by
    intro order ho
    have := Re.loop (ι := Nat) (l := fun k n (i : Nat) => l2_s_Resolve k n es (i : Int) ((order.take i).foldl (resStep es) (agreedL ss)) order) (I := fun i => i ≤ order.length) (fun i => order.length - i) (Q := fun _ v => v = order.foldl (resStep es) (agreedL ss)) (fun i hi ih => by
      simp only [l2_s_Resolve, b2_s_Resolve]
      refine Re.brd (fun g => ?_) (fun g => Re.ret (by rw [List.take_of_length_le (by omega)]))
      have hl : i < order.length := by omega
      have next := ih (i + 1) (by omega) (by omega)
      rw [foldl_take (resStep es) 0 order (agreedL ss) hl] at next
      have hnow := resFold_length (es := es) (order.take i) hal
      generalize (order.take i).foldl (resStep es) (agreedL ss) = now at next hnow ⊢
      refine Re.gdd (by omega) (Re.gdd g ?_)
      simp only [Int.toNat_natCast]
      rw [idx_succ hl (by omega)]
      refine Re.c2 (s_find_ev es (by omega) _) (Re.c2 (s_Allowed_ev es now ⟨by omega, by omega⟩ _ (e3 _)) ?_)
      unfold resStep at next
      refine Re.br (fun q => ?_) (fun q => ?_)
      · rw [q, Bool.true_and] at next
        refine Re.s2 (s_KeyOf_eq _ ·) ?_
        refine Re.br (fun q2 => ?_) (fun q2 => ?_)
        · rw [q2] at next
          exact Re.s2 (s_KeyOf_eq _ ·) (Re.c2 (s_Put_ev now (by omega) _ _) next)
        · rw [q2] at next; exact next
      · rw [q, Bool.false_and] at next; exact next) 0 (Nat.zero_le _)
    exact this
  refine Re.enter (f := fun k n => l0_s_Resolve k n es ss 0 (agreedL ss) ks []) among_nat ?_
  have := Re.wf (l := fun k n (st : Nat ⊕ (Nat × Nat)) => match st with
      | .inl i => l0_s_Resolve k n es ss (i : Int) (agreedL ss) ks (idsL (ss.take i) ks)
      | .inr (i, j) => l1_s_Resolve k n es ss (i : Int) (j : Int) (agreedL ss) ks (idsL (ss.take i) ks ++ idsOf (rd [] ss i) (ks.take j)))
    (I := fun st => match st with | .inl i => i ≤ ss.length | .inr (i, j) => i < ss.length ∧ j ≤ ks.length)
    (fun st => match st with | .inl i => (ss.length - i, 0) | .inr (i, j) => (ss.length - (i + 1), ks.length - j + 1)) (Q := fun _ v => v = (orderL es (agreedL ss) (idsL ss ks)).foldl (resStep es) (agreedL ss)) (fun st hi ih => by
    rcases st with i | ⟨i, j⟩
    · simp only at hi ih ⊢
      simp only [z0_s_Resolve, b0_s_Resolve]
      refine Re.brd (fun g => ?_) (fun g => ?_)
      · have := ih (.inr (i, 0)) ⟨by omega, Nat.zero_le _⟩ (.inl (by simp only; omega))
        simpa [idsOf] using this
      · rw [List.take_of_length_le (by omega)]
        refine Re.c2 (s_Agreed_ev ss hSS (by omega)) (Re.c2 (s_Order_ev es (agreedL ss) ⟨by omega, by omega⟩ e1 e2 _ (by omega)) ?_)
        have hlen : (orderL es (agreedL ss) (idsL ss ks)).length ≤ 1000000 := by
          unfold orderL
          have h1 := orderGo_length es (agreedL ss) (leftL es (idsL ss ks)) (leftL es (idsL ss ks)).length []
          have h3 := leftL_le es (idsL ss ks)
          simp at h1; omega
        exact last _ hlen
    · obtain ⟨g1, g2⟩ := hi
      simp only at ih ⊢
      simp only [z1_s_Resolve, b1_s_Resolve]
      have hl1 := idsL_length ks (ss.take i)
      have hl2 : (ss.take i).length * ks.length ≤ 16777216 := Nat.le_trans (Nat.mul_le_mul (show (ss.take i).length ≤ 1048576 by simp; omega) hkl) (by omega)
      have hl3 := idsOf_length (rd [] ss i) (ks.take j)
      have hl4 : (ks.take j).length ≤ 16 := by simp; omega
      refine Re.brd (fun g => ?_) (fun g => ?_)
      · have hj : j < ks.length := by omega
        have next := ih (.inr (i, j + 1)) ⟨g1, by omega⟩ (.inr ⟨rfl, by simp only; omega⟩)
        simp only [idsOf_take hj] at next
        refine Re.gdd (by omega) (Re.gdd (by omega) (Re.gdd (by omega) (Re.gdd g ?_)))
        simp only [Int.toNat_natCast]
        rw [idx_succ hj (by omega)]
        refine Re.c2 (s_At_ev _ (by have := s2 i g1; omega) _) ?_
        refine Re.brn (fun q => ?_) (fun q => ?_)
        · rw [if_neg q] at next
          refine Re.gdd (by simp only [List.length_append, List.length_singleton]; unfold maxRow; omega) ?_
          simpa using next
        · rw [if_pos q] at next
          simpa using next
      · have ej : ks.take j = ks := List.take_of_length_le (by omega)
        have next := ih (.inl (i + 1)) (by simp only; omega) (.inr ⟨rfl, by simp only; omega⟩)
        simp only [flat_take g1] at next
        rw [ej, idx_succ g1 (by omega)]
        exact next) (.inl 0) (Nat.zero_le _)
  simpa [idsL] using this
end Go.Vm
