/- Plain laws. -/
import Derived.Test.YtbekdoadbkibdaaGA4
import Derived.Test.YtbekdoadbkibdaaGB4
set_option linter.unusedVariables false
set_option linter.unusedSimpArgs false
namespace Go.Vm
open Go
theorem drawPut_re (a : List Int) (h : a.length ≤ 1048576) : Re (fun k => s_DrawPut k a) (fun q => q.1.length ≤ 20) :=
  new_re (l := fun k n v i => l0_s_DrawPut k n a v i) (C := fun k c => (bd (s_l10Pair k (a, 0, c, ()) a) fun r1 => (bd (s_l01PickInt k r1.2.1 [0, 1, 2, 3, 4, 11, 12, 15, 16]) fun r2 => (bd (s_l01PickInt k r2.2.1 [0, 1, 5, 1000000, 1000001]) fun r3 => (some (r1.1.2, r2.1, r3.1)))))) a h (fun k n v1 v2 => rfl) (fun c hc => Re.b1 (l10Pair_re _ hc a h) fun r hr => Re.b1 (pickInt_re _ _ hr.2 (by simp)) fun r2 h2 => Re.b1 (pickInt_re _ _ h2.2 (by simp)) fun r3 h3 => Re.ret hr.1.2) _
theorem atS_mem {s : List TItem} (h : StP s) {x : TItem} (hx : x ∈ s) : atS s x.1 = x.2.1 := by
  unfold atS
  cases hf : s.find? fun y => y.1 == x.1 with
  | none =>
    rw [List.find?_eq_none] at hf
    exact absurd (by simp) (hf x hx)
  | some y =>
    have h1 : y.1 = x.1 := by simpa using List.find?_some hf
    obtain ⟨i, hi, rfl⟩ := List.getElem_of_mem (List.mem_of_find?_eq_some hf)
    obtain ⟨j, hj, rfl⟩ := List.getElem_of_mem hx
    rw [← rd_at (z := dTItem) hi, ← rd_at (z := dTItem) hj] at h1
    rw [← rd_at (z := dTItem) hj]
    have : i = j := by
      rcases Nat.lt_trichotomy i j with q | q | q
      · have := h.asc i j q hj; omega
      · exact q
      · have := h.asc j i q hi; omega
    subst this
    rw [rd_at hi]; rfl
theorem filter_two {α : Type} (p q : α → Bool) (hpq : ∀ x, p x = true → q x = false) : ∀ s : List α, (s.filter p).length + (s.filter q).length ≤ s.length
  | [] => by simp
  | x :: s => by
    have := filter_two p q hpq s
    cases hp : p x with
    | true => rw [List.filter_cons_of_pos hp, List.filter_cons_of_neg (by rw [hpq x hp]; simp)]; simp; omega
    | false =>
      rw [List.filter_cons_of_neg (by rw [hp]; simp)]
      cases hq : q x with
      | true => rw [List.filter_cons_of_pos hq]; simp; omega
      | false => rw [List.filter_cons_of_neg (by rw [hq]; simp)]; simp; omega
theorem FnStates_ev (a : List Int) : Ev (fun k => l_FnStates k a) true := by
  refine Re.eq ?_
  simp only [l_FnStates, g_l_FnStates]
  refine Re.s1 (v := decide ((a.length : Int) > 1048576)) (fun k => rfl) ?_
  refine Re.brd (fun _ => Re.ret rfl) (fun hl => ?_)
  refine Re.b1 (drawPut_re a (by omega)) fun q hq => ?_
  obtain ⟨s, key, id⟩ := q
  simp only at hq ⊢
  have hpl := putS_length (s := s) (key := key) (id := id) hq (by omega)
  refine Re.c1 (i_Put_ev s (by omega) key id) (Re.c1 (s_Put_ev s (by omega) key id) (Re.c1 (lsameState_ev _ _ (by omega)) ?_))
  rw [eqd_of rfl]
  refine Re.br (b := false) (fun h => by cases h) (fun _ => Re.c1 (i_StateOk_ev s (by omega)) (Re.c1 (s_StateOk_ev s (by omega)) ?_))
  refine Re.br (fun h => by simp at h) (fun _ => Re.c1 (lsameState_ev _ _ (by omega)) ?_)
  refine Re.br (fun _ => Re.ret rfl) (fun hne => ?_)
  have hne : putS s key id ≠ s := fun e => by rw [eqd_of e] at hne; cases hne
  have hput : putS s key id = putOut s key id ∧ StP (putOut s key id) := by
    unfold putS at hne ⊢
    cases hq2 : stateOk s && stateOk (putOut s key id) with
    | false => rw [hq2] at hne; exact absurd rfl hne
    | true =>
      simp only [Bool.and_eq_true] at hq2
      exact ⟨rfl, stateOk_iff.1 hq2.2⟩
  obtain ⟨he, hP⟩ := hput
  rw [he] at hpl ⊢
  refine Re.c1 (i_StateOk_ev _ (by omega)) ?_
  rw [stateOk_iff.2 hP]
  refine Re.br (b := false) (fun h => by cases h) (fun _ => Re.c1 (i_At_ev _ (by omega) key) ?_)
  have hk : atS (putOut s key id) key = id := atS_mem hP (x := (key, id, ())) (by unfold putOut; simp)
  rw [hk]
  refine Re.brn (fun h => absurd rfl h) (fun _ => ?_)
  refine Re.enter (f := fun k n => l0_l_FnStates k n (s, key, id) 0 (putOut s key id)) among_nat ?_
  have := Re.loop (ι := Nat) (l := fun k n (i : Nat) => l0_l_FnStates k n (s, key, id) (i : Int) (putOut s key id)) (I := fun i => i ≤ s.length) (fun i => s.length - i) (Q := fun _ v => v = true) (fun i hi ih => by
    simp only [l0_l_FnStates, b0_l_FnStates]
    refine Re.brd (fun g => ?_) (fun g => Re.ret ?_)
    · have hil : i < s.length := by omega
      refine Re.gdd (by omega) (Re.gdd g ?_)
      simp only [Int.toNat_natCast]
      rw [idx_succ hil (by omega)]
      have next := ih (i + 1) (by omega) (by omega)
      refine Re.brn (fun hk2 => ?_) (fun _ => next)
      refine Re.gdd (by omega) (Re.gdd g (Re.c2 (i_At_ev _ (by omega) _) ?_))
      have hm : rd dTItem s i ∈ s := by rw [rd_at hil]; exact List.getElem_mem _
      rw [atS_mem hP (x := rd dTItem s i) (by
        unfold putOut
        rw [List.mem_append, List.mem_append, List.mem_filter, List.mem_filter]
        by_cases q : (rd dTItem s i).1 < key
        · exact .inl (.inl ⟨hm, by simpa using q⟩)
        · exact .inr ⟨hm, by simp; omega⟩)]
      exact Re.gdd (by omega) (Re.gdd g (Re.brn (fun h => absurd rfl h) (fun _ => next)))
    · rw [w64_eq (by omega) (by omega)]
      refine decide_eq_true ?_
      have := filter_two (fun x : TItem => decide (x.1 < key)) (fun x => decide (x.1 > key)) (fun x h => by simp at h ⊢; omega) s
      unfold putOut
      simp only [List.length_append, List.length_singleton]
      omega) 0 (Nat.zero_le _)
  exact this
end Go.Vm
