/- Plain laws. -/
import Derived.Test.YtgobdchlaclhiaaGreatHA2
set_option linter.unusedVariables false
set_option linter.unusedSimpArgs false
namespace Go.Vm
open Go
/-! ### One state of several, by the program -/
theorem idsL_mem {ss : List (List TItem)} {ks : List Int} {x : Int} : x ∈ idsL ss ks ↔ x ≠ 0 ∧ ∃ s ∈ ss, ∃ k ∈ ks, atS s k = x := by
  unfold idsL idsOf
  simp only [List.mem_flatMap, List.mem_filter, List.mem_map, bne_iff_ne]
  constructor
  · rintro ⟨s, hs, ⟨k, hk, e⟩, h⟩; exact ⟨h, s, hs, k, hk, e⟩
  · rintro ⟨h, s, hs, k, hk, e⟩; exact ⟨s, hs, ⟨k, hk, e⟩, h⟩
theorem putS_zero (s : List TItem) (id : Int) : putS s 0 id = s := by
  unfold putS
  have : stateOk (putOut s 0 id) = false := stateOk_no fun h => by
    have hm : ((0 : Int), id, ()) ∈ putOut s 0 id := by unfold putOut; simp
    obtain ⟨i, hi, e⟩ := List.getElem_of_mem hm
    have := (h.2 i hi).1
    rw [rd_at hi, e] at this
    cases this
  rw [this, Bool.and_false]; rfl
theorem i_KeyOf_eq (e : TEvent) (k : Nat) : i_KeyOf k e = some (keyOf e) := by
  unfold i_KeyOf keyOf
  cases e.2.1 == 1 with
  | true => rfl
  | false =>
    cases e.2.1 == 3 with
    | true => rfl
    | false =>
      cases e.2.1 == 4 with
      | true => rfl
      | false =>
        cases e.2.1 == 2 with
        | false => rfl
        | true =>
          simp only [br_true, br_false, within_eq, bd_some]
          cases hu : inR e.2.2.2.1 1 5 with
          | false => rfl
          | true =>
            have := inR_iff.1 hu
            rw [br_true, w64_eq (by omega) (by omega)]
            rfl
theorem StsN.t {ss : List (List TItem)} (h : StsN ss) : StsT ss := by
  obtain ⟨h1, h2⟩ := h
  have : ∀ ts : List (List TItem), (∀ s ∈ ts, s.length ≤ 16) → (ts.map fun s => s.length + 1).sum ≤ 17 * ts.length := by
    intro ts
    induction ts with
    | nil => intro _; simp
    | cons t ts ih =>
      intro h
      have a := h t (List.mem_cons_self ..)
      have b := ih fun s hs => h s (List.mem_cons_of_mem _ hs)
      simp only [List.map_cons, List.sum_cons, List.length_cons]; omega
  have := this ss fun s hs => by
    obtain ⟨i, hi, rfl⟩ := List.getElem_of_mem hs
    have := h2 i hi
    rwa [rd_at hi] at this
  unfold StsT; omega
def keyIds (ss : List (List TItem)) (k : Int) : List Int := (ss.map fun s => atS s k).filter fun x => x != 0
theorem keyIds_take {ss : List (List TItem)} {j : Nat} (h : j < ss.length) (k : Int) : keyIds (ss.take (j + 1)) k = keyIds (ss.take j) k ++ (if atS (rd [] ss j) k = 0 then [] else [atS (rd [] ss j) k]) := by
  unfold keyIds
  rw [List.take_add_one, List.getElem?_eq_getElem h, rd_at h, List.map_append, List.filter_append]
  congr 1
  by_cases q : atS ss[j] k = 0 <;> simp [q]
theorem keyIds_len (ss : List (List TItem)) (k : Int) : (keyIds ss k).length ≤ ss.length := by
  unfold keyIds
  exact Nat.le_trans (List.length_filter_le _ _) (by simp)
theorem i_Resolve_ev (es : List TEvent) (hE : EvS es) (hc : CopyS es) (hz : NoZ es) (ss : List (List TItem)) (hS : StsN ss) : Ev (fun k => i_Resolve k es ss) (resolveL es ss) := by
  obtain ⟨e1, e2, e3⟩ := hE
  have hT := hS.t
  obtain ⟨s1, s2⟩ := hS
  refine Re.eq ?_
  unfold resolveL
  refine Re.bre (fun q => Re.ret (by rw [if_pos (by omega)])) (fun q => ?_)
  rw [if_neg (by omega)]
  refine Re.bre (fun q => ?_) (fun q => ?_)
  · rw [if_pos (by omega)]
    have := s2 0 (by omega)
    refine Re.gdd (by omega) (Re.s1 (v := rd [] ss 0) (fun k => ?_) (Re.ret rfl))
    unfold i_copyState
    rw [decide_eq_true (by unfold maxRow; omega)]; rfl
  rw [if_neg (by omega)]
  refine Re.c1 (i_Agreed_ev ss hT) (Re.c1 (i_Clash_ev ss hT) ?_)
  have hal := agreedL_length ss
  have hcl : (clashL ss).length ≤ 16 := Nat.le_trans (List.length_filter_le _ _) (keysTo_length ss 16)
  generalize hag : agreedL ss = ag at hal ⊢
  generalize clashL ss = ks at hcl ⊢
  have last : ∀ order : List Int, order.length ≤ 1000000 → (∀ x ∈ order, found es x) → Re (fun x : Nat × Nat => l2_i_Resolve x.1 x.2 es order 0 ag) (fun v => v = order.foldl (resStep es) ag) := fun order ho hfo => by
    have := Re.loop (ι := Nat) (l := fun k n (i : Nat) => l2_i_Resolve k n es order (i : Int) ((order.take i).foldl (resStep es) ag)) (I := fun i => i ≤ order.length) (fun i => order.length - i) (Q := fun _ v => v = order.foldl (resStep es) ag) (fun i hi ih => by
      simp only [l2_i_Resolve, b2_i_Resolve, Int.toNat_natCast]
      refine Re.brd (fun g => ?_) (fun g => Re.ret (by rw [List.take_of_length_le (by omega)]))
      have hl : i < order.length := by omega
      have next := ih (i + 1) (by omega) (by omega)
      rw [foldl_take (resStep es) 0 order _ hl] at next
      have hnow := resFold_length (es := es) (order.take i) (now := ag) hal
      generalize (order.take i).foldl (resStep es) ag = now at next hnow ⊢
      have hfx := hfo (rd 0 order i) (by rw [rd_at hl]; exact List.getElem_mem _)
      have hid := found_id hfx
      rw [idx_succ hl (by omega)]
      refine Re.gdd (by omega) (Re.gdd g (Re.c2 (i_Known_ev es hc _) (Re.c2 (i_Allowed_ev es hc hz now (by omega) _ (e3 _)) ?_)))
      unfold resStep at next
      cases ha : allowed es now (findE es (rd 0 order i)).1 with
      | false =>
        rw [ha] at next
        exact Re.br (b := false) (fun h => by cases h) (fun _ => next)
      | true =>
        refine Re.br (b := true) (fun _ => Re.s2 (i_KeyOf_eq _ ·) (Re.c2 (i_Put_ev now (by omega) _ _) ?_)) (fun h => by cases h)
        rw [ha, Bool.true_and, hid] at next
        by_cases q2 : keyOf (findE es (rd 0 order i)).1 = 0
        · rw [q2, putS_zero]
          rw [q2] at next; exact next
        · have : (keyOf (findE es (rd 0 order i)).1 != 0) = true := by simp [q2]
          rw [this] at next; exact next) 0 (Nat.zero_le _)
    simpa using this
  refine Re.enter (f := fun k n => l0_i_Resolve k n es ss ks 0 ag []) among_nat ?_
  have hmul : ∀ i : Nat, i ≤ 16 → ∀ j, j ≤ ss.length → i * ss.length + j ≤ 40000 := fun i hi j hj => by
    have := Nat.mul_le_mul hi s1; omega
  have hfl : ∀ i, i ≤ ks.length → ((ks.take i).flatMap (keyIds ss)).length ≤ i * ss.length := by
    intro i
    induction i with
    | zero => intro _; simp
    | succ i ih =>
      intro hi
      have h1 := ih (by omega)
      have h2 := keyIds_len ss ks[i]
      rw [List.take_add_one, List.getElem?_eq_getElem (by omega), List.flatMap_append, List.length_append, Nat.succ_mul]
      simp only [Option.toList_some, List.flatMap_cons, List.flatMap_nil, List.append_nil]
      omega
  have := Re.wf (l := fun k n (st : Nat ⊕ (Nat × Nat)) => match st with
      | .inl i => l0_i_Resolve k n es ss ks (i : Int) ag ((ks.take i).flatMap (keyIds ss))
      | .inr (i, j) => l1_i_Resolve k n es ss ks (i : Int) (j : Int) ag ((ks.take i).flatMap (keyIds ss) ++ keyIds (ss.take j) (rd 0 ks i)))
    (I := fun st => match st with
      | .inl i => i ≤ ks.length
      | .inr (i, j) => i < ks.length ∧ j ≤ ss.length)
    (fun st => match st with
      | .inl i => (ks.length - i, 1048576 + 2)
      | .inr (i, j) => (ks.length - i, ss.length - j + 1)) (Q := fun _ r => r = (orderL es ag (idsL ss ks)).foldl (resStep es) ag) (fun st hi ih => by
    rcases st with i | ⟨i, j⟩
    · simp only at hi ih ⊢
      simp only [z0_i_Resolve, b0_i_Resolve]
      refine Re.brd (fun g => ?_) (fun g => ?_)
      · have hl : i < ks.length := by omega
        refine Re.gdd (by omega) (Re.gdd g ?_)
        have next := ih (.inr (i, 0)) ⟨hl, Nat.zero_le _⟩ (.inr ⟨rfl, by simp only; omega⟩)
        simpa [keyIds] using next
      · have e : i = ks.length := by omega
        have hf := hfl ks.length (Nat.le_refl _)
        have hm := hmul ks.length hcl 0 (Nat.zero_le _)
        rw [e]
        rw [List.take_length] at hf ⊢
        have hcopy : ∀ k, i_copyState k ag = some ag := fun k => by
          unfold i_copyState
          rw [decide_eq_true (by unfold maxRow; omega)]; rfl
        have hsame := orderL_same es ag (a := ks.flatMap (keyIds ss)) (b := idsL ss ks) fun x _ => by
          rw [idsL_mem]
          unfold keyIds
          simp only [List.mem_flatMap, List.mem_filter, List.mem_map, bne_iff_ne]
          constructor
          · rintro ⟨k, hk, ⟨s, hs, e⟩, h⟩; exact ⟨h, s, hs, k, hk, e⟩
          · rintro ⟨h, s, hs, k, hk, e⟩; exact ⟨k, hk, ⟨s, hs, e⟩, h⟩
        refine Re.s2 hcopy (Re.c2 (i_Order_ev es hc hz e2 ag (by omega) _ (by omega)) ?_)
        rw [hsame]
        have hO := orderL_ord es ag (idsL ss ks)
        have hfo : ∀ x ∈ orderL es ag (idsL ss ks), found es x := fun x hx => (((leftL_spec es (idsL ss ks)).2 x).1 (hO.sub x hx)).2
        have hol := nodup_le _ _ hO.nd fun x hx => found_mem (hfo x hx)
        exact last _ (by simp at hol; omega) hfo
    · simp only at hi ih ⊢
      obtain ⟨g1, g2⟩ := hi
      simp only [z1_i_Resolve, b1_i_Resolve, Int.toNat_natCast]
      have hf := hfl i (by omega)
      have hm := hmul i (by omega) ss.length (Nat.le_refl _)
      refine Re.brd (fun g => ?_) (fun g => ?_)
      · have hj : j < ss.length := by omega
        have hsj := s2 j hj
        rw [idx_succ hj (by omega)]
        refine Re.gdd (by omega) (Re.gdd g (Re.c2 (i_At_ev _ (by omega) _) ?_))
        have next := ih (.inr (i, j + 1)) ⟨g1, by omega⟩ (.inr ⟨rfl, by simp only; omega⟩)
        simp only [keyIds_take hj] at next
        have hk2 := keyIds_len (ss.take j) (rd 0 ks i)
        have hk3 : (ss.take j).length ≤ ss.length := List.length_take_le' ..
        refine Re.brn (fun q => Re.gdd (by simp only [List.length_append, List.length_singleton]; unfold maxRow; omega) ?_) (fun q => ?_)
        · rw [if_neg q, ← List.append_assoc] at next; exact next
        · rw [if_pos q, List.append_nil] at next; exact next
      · have next := ih (.inl (i + 1)) (by simp only; omega) (.inl (by simp only; omega))
        rw [idx_succ g1 (by omega), show ss.take j = ss from List.take_of_length_le (by omega)]
        have e : (ks.take (i + 1)).flatMap (keyIds ss) = (ks.take i).flatMap (keyIds ss) ++ keyIds ss (rd 0 ks i) := by
          rw [take_int g1, List.flatMap_append]; simp
        rw [← e]; exact next) (.inl 0) (Nat.zero_le _)
  simpa using this
end Go.Vm
