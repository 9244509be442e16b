/- Plain laws. -/
import Derived.Test.YtgobdchlaclhiaaGreatC2
import Derived.Test.YtgobdchlaclhiaaGreatZ2
set_option linter.unusedVariables false
set_option linter.unusedSimpArgs false
namespace Go.Vm
open Go
/-! ### What the program puts into a state -/
theorem i_StateOk_ev (s : List TItem) (h : s.length ≤ 4194304) : Ev (fun k => i_StateOk k s) (stateOk s) := by
  refine Re.eq (Re.enter (f := fun k n => l0_i_StateOk k n s 0) among_nat ?_)
  have := Re.loop (ι := Nat) (l := fun k n (i : Nat) => l0_i_StateOk k n s (i : Int)) (I := fun i => i ≤ s.length ∧ ∀ j, j < i → keyOk (rd dTItem s j).1 = true ∧ (1 ≤ (rd dTItem s j).2.1 ∧ (rd dTItem s j).2.1 ≤ 1000000) ∧ (0 < j → (rd dTItem s (j - 1)).1 < (rd dTItem s j).1)) (fun i => s.length - i) (Q := fun _ v => v = stateOk s) (fun i hi ih => by
    simp only [l0_i_StateOk, b0_i_StateOk]
    refine Re.brd (fun h1 => ?_) (fun h1 => Re.ret ?_)
    · have hl : i < s.length := by omega
      refine Re.gdd (by omega) (Re.gdd h1 ?_)
      simp only [Int.toNat_natCast]
      rw [idx_succ hl (by omega)]
      have rest : keyOk (rd dTItem s i).1 = true → Re (fun x : Nat × Nat => bd (i_within x.1 (rd dTItem s i).2.1 1 1000000) fun r3 => (br (!r3) (some false) (br (decide ((i : Int) > 0)) (gd (decide (0 ≤ (w64 ((i : Int) - 1)))) (gd (decide ((w64 ((i : Int) - 1)) < (s.length : Int))) (br (decide ((rd dTItem s (w64 ((i : Int) - 1)).toNat).1 ≥ (rd dTItem s i).1)) (some false) (l0_i_StateOk x.1 x.2 s ((i + 1 : Nat) : Int))))) (l0_i_StateOk x.1 x.2 s ((i + 1 : Nat) : Int))))) (fun v => v = stateOk s) := fun g1 => by
        refine Re.s2 (within_eq · _ _ _) ?_
        rw [inR_dec']
        refine Re.br (fun g => Re.ret (stateOk_no fun hc => by have := (hc.2 i hl).2.1; rw [decide_eq_true this] at g; cases g).symm) (fun g => ?_)
        have g2 : 1 ≤ (rd dTItem s i).2.1 ∧ (rd dTItem s i).2.1 ≤ 1000000 := by simpa using g
        have next : (0 < i → (rd dTItem s (i - 1)).1 < (rd dTItem s i).1) → Re (fun x : Nat × Nat => l0_i_StateOk x.1 x.2 s ((i + 1 : Nat) : Int)) (fun v => v = stateOk s) := fun g3 => ih (i + 1) ⟨by omega, fun j hj => by
          by_cases q : j < i
          · exact hi.2 j q
          · have : j = i := by omega
            subst this; exact ⟨g1, g2, g3⟩⟩ (by omega)
        refine Re.brd (fun q => ?_) (fun q => next fun h => absurd (by omega) q)
        rw [idx_pred (by omega) (by omega)]
        refine Re.gdd (by omega) (Re.gdd (by omega) ?_)
        simp only [Int.toNat_natCast]
        exact Re.brd (fun q => Re.ret (stateOk_no fun hc => by have := (hc.2 i hl).2.2 (by omega); omega).symm) (fun q => next fun _ => by omega)
      refine Re.s2 (within_eq · _ _ _) ?_
      refine Re.br (fun g => ?_) (fun g => rest ?_)
      · refine Re.s2 (within_eq · _ _ _) ?_
        refine Re.br (fun g2 => Re.ret (stateOk_no fun hc => ?_).symm) (fun g2 => rest ?_)
        · have := (hc.2 i hl).1
          unfold keyOk at this
          simp at g g2
          rw [g, g2] at this; cases this
        · unfold keyOk
          have : inR (rd dTItem s i).1 11 15 = true := by simpa using g2
          rw [this, Bool.or_true]
      · unfold keyOk
        have : inR (rd dTItem s i).1 1 3 = true := by simpa using g
        rw [this, Bool.true_or]
    · by_cases q : s.length ≤ 8
      · rw [decide_eq_true (by omega)]
        exact (stateOk_iff.2 ⟨q, fun j hj => hi.2 j (by omega)⟩).symm
      · rw [decide_eq_false (by omega)]
        exact (stateOk_no fun hc => q hc.1).symm) 0 ⟨Nat.zero_le _, fun j hj => by omega⟩
  exact this
theorem StP.asc {s : List TItem} (h : StP s) : ∀ i j, i < j → j < s.length → (rd dTItem s i).1 < (rd dTItem s j).1 := by
  intro i j
  induction j with
  | zero => intro h1; omega
  | succ j ih =>
    intro h1 h2
    have := (h.2 (j + 1) h2).2.2 (by omega)
    rw [Nat.add_sub_cancel] at this
    by_cases q : i = j
    · rw [q]; exact this
    · have := ih (by omega) (by omega); omega
theorem drop_mem {s : List TItem} {k : Nat} {x : TItem} (h : x ∈ s.drop k) : ∃ j, k ≤ j ∧ j < s.length ∧ x = rd dTItem s j := by
  obtain ⟨i, hi, rfl⟩ := List.getElem_of_mem h
  have hi2 : k + i < s.length := by simp at hi; omega
  exact ⟨k + i, by omega, hi2, by rw [List.getElem_drop, rd_at hi2]⟩
theorem take_mem {s : List TItem} {k : Nat} {x : TItem} (h : x ∈ s.take k) : ∃ j, j < k ∧ j < s.length ∧ x = rd dTItem s j := by
  obtain ⟨i, hi, rfl⟩ := List.getElem_of_mem h
  have hi2 : i < k ∧ i < s.length := by simp at hi; omega
  exact ⟨i, hi2.1, hi2.2, by rw [List.getElem_take, rd_at hi2.2]⟩
theorem put_parts {s : List TItem} (h : StP s) {key : Int} {k : Nat} (hk : k ≤ s.length) (hlt : ∀ j, j < k → (rd dTItem s j).1 < key) (hge : k < s.length → key ≤ (rd dTItem s k).1) :
    s.filter (fun x => decide (x.1 < key)) = s.take k ∧ ((k < s.length ∧ (rd dTItem s k).1 = key → s.filter (fun x => decide (x.1 > key)) = s.drop (k + 1)) ∧ ((k < s.length → (rd dTItem s k).1 ≠ key) → s.filter (fun x => decide (x.1 > key)) = s.drop k)) := by
  have hasc := h.asc
  have hd : ∀ x ∈ s.drop k, key ≤ x.1 := fun x hx => by
    obtain ⟨j, h1, h2, rfl⟩ := drop_mem hx
    have := hge (by omega)
    by_cases q : j = k
    · rw [q]; exact this
    · have := hasc k j (by omega) h2; omega
  have ht : ∀ x ∈ s.take k, x.1 < key := fun x hx => by
    obtain ⟨j, h1, h2, rfl⟩ := take_mem hx
    exact hlt j h1
  have e : s = s.take k ++ s.drop k := (List.take_append_drop k s).symm
  refine ⟨?_, fun ⟨h1, h2⟩ => ?_, fun h1 => ?_⟩
  · conv => lhs; rw [e]
    rw [List.filter_append, List.filter_eq_self.2 fun x hx => by simpa using ht x hx, List.filter_eq_nil_iff.2 fun x hx => by have := hd x hx; simp; omega, List.append_nil]
  · have hd2 : ∀ x ∈ s.drop (k + 1), key < x.1 := fun x hx => by
      obtain ⟨j, h3, h4, rfl⟩ := drop_mem hx
      have := hasc k j (by omega) h4; omega
    have ed : s.drop k = rd dTItem s k :: s.drop (k + 1) := by rw [rd_at h1]; exact List.drop_eq_getElem_cons h1
    conv => lhs; rw [e]
    rw [List.filter_append, List.filter_eq_nil_iff.2 fun x hx => by have := ht x hx; simp; omega, List.nil_append, ed, List.filter_cons_of_neg (by simp; omega), List.filter_eq_self.2 fun x hx => by simpa using hd2 x hx]
  · conv => lhs; rw [e]
    rw [List.filter_append, List.filter_eq_nil_iff.2 fun x hx => by have := ht x hx; simp; omega, List.nil_append, List.filter_eq_self.2 fun x hx => ?_]
    have h2 := hd x hx
    obtain ⟨j, h3, h4, rfl⟩ := drop_mem hx
    have h5 := h1 (by omega)
    have h6 := hge (by omega)
    by_cases q : j = k
    · rw [q]; simp; omega
    · have := hasc k j (by omega) h4; simp; omega
theorem i_Put_ev (s : List TItem) (h : s.length ≤ 1048576) (key id : Int) : Ev (fun k => i_Put k s key id) (putS s key id) := by
  refine Re.eq (Re.gdd (by unfold maxRow; omega) (Re.enter (f := fun k n => l0_i_Put k n s key id 0) among_nat ?_))
  have fin : ∀ out : List TItem, out.length ≤ 4194304 → (StP s → out = putOut s key id) → Re (fun x : Nat × Nat => bd (i_StateOk x.1 s) fun r1 => (br (!r1) (gd (decide (s.length ≤ maxRow)) (some s)) (bd (i_StateOk x.1 out) fun r2 => (br (!r2) (gd (decide (s.length ≤ maxRow)) (some s)) (some out))))) (fun v => v = putS s key id) := fun out ho hout => by
    refine Re.c2 (i_StateOk_ev s (by omega)) ?_
    unfold putS
    cases hs : stateOk s with
    | false => exact Re.gdd (by unfold maxRow; omega) (Re.ret rfl)
    | true =>
      rw [← hout (stateOk_iff.1 hs)]
      refine Re.br (b := false) (fun h => by cases h) (fun _ => Re.c2 (i_StateOk_ev out ho) ?_)
      cases stateOk out with
      | false => exact Re.gdd (by unfold maxRow; omega) (Re.ret rfl)
      | true => exact Re.ret rfl
  have := Re.loop (ι := Nat) (l := fun k n (i : Nat) => l0_i_Put k n s key id (i : Int)) (I := fun i => i ≤ s.length ∧ ∀ j, j < i → (rd dTItem s j).1 < key) (fun i => s.length - i) (Q := fun _ v => v = putS s key id) (fun i hi ih => by
    obtain ⟨g1, g2⟩ := hi
    simp only [l0_i_Put, b0_i_Put]
    have ins : (i < s.length → key ≤ (rd dTItem s i).1) → (i < s.length → (rd dTItem s i).1 ≠ key) → Re (fun x : Nat × Nat => bd (slices_Insert_impl_Item_impl_Item x.1 s (i : Int) ([(key, id, ())] : List TItem)) fun r3 => (bd (i_StateOk x.1 s) fun r4 => (br (!r4) (gd (decide (s.length ≤ maxRow)) (some s)) (bd (i_StateOk x.1 r3) fun r5 => (br (!r5) (gd (decide (s.length ≤ maxRow)) (some s)) (some r3)))))) (fun v => v = putS s key id) := fun h1 h2 => by
      have hins : ∀ k, slices_Insert_impl_Item_impl_Item k s (i : Int) ([(key, id, ())] : List TItem) = some (s.take i ++ [(key, id, ())] ++ s.drop i) := fun k => by
        show insO s (i : Int) _ = _
        unfold insO
        rw [if_pos ⟨by omega, by omega, rfl, by omega⟩, Int.toNat_natCast]
      refine Re.s2 hins ?_
      · refine fin _ (by simp; omega) fun hst => ?_
        obtain ⟨p1, _, p3⟩ := put_parts hst g1 g2 h1
        unfold putOut
        rw [p1, p3 h2]
    refine Re.brd (fun q => ?_) (fun q => ?_)
    · have hl : i < s.length := by omega
      refine Re.gdd (by omega) (Re.gdd q ?_)
      simp only [Int.toNat_natCast]
      refine Re.brd (fun q2 => ?_) (fun q2 => ?_)
      · rw [idx_succ hl (by omega)]
        refine ih (i + 1) ⟨by omega, fun j hj => ?_⟩ (by omega)
        by_cases e : j = i
        · rw [e]; exact q2
        · exact g2 j (by omega)
      · refine Re.brd (fun _ => Re.gdd (by omega) (Re.gdd q ?_)) (fun h => absurd q h)
        refine Re.bre (fun q3 => Re.gdd (by omega) (Re.gdd q ?_)) (fun q3 => ins (fun _ => by omega) (fun _ => q3))
        refine fin _ (by simp; omega) fun hst => ?_
        obtain ⟨p1, p2, _⟩ := put_parts hst g1 g2 (fun _ => by omega)
        unfold putOut
        rw [p1, p2 ⟨hl, q3⟩, List.set_eq_take_append_cons_drop, if_pos hl, q3]
        simp
    · refine Re.brd (fun h => absurd h q) (fun _ => ins (fun h => by omega) (fun h => by omega))) 0 ⟨Nat.zero_le _, fun j hj => by omega⟩
  exact this
end Go.Vm
