/- Plain laws. -/
import Derived.Test.YtbekdoadbkibdaaGreatHC2
set_option linter.unusedVariables false
set_option linter.unusedSimpArgs false
namespace Go.Vm
open Go
/-! ### Drawn states -/
def StatesP (q : List TEvent × List (List TItem)) : Prop := ∃ r, RoomD r ∧ q.1 = r.1 ∧ (∀ s ∈ q.2, s ∈ r.2.1) ∧ q.2.length ≤ 1700
theorem StatesP.n {q : List TEvent × List (List TItem)} (h : StatesP q) : StsN q.2 ∧ ∀ s ∈ q.2, StI q.1 s := by
  obtain ⟨r, hD, e1, h2, h3⟩ := h
  refine ⟨⟨by omega, fun i hi => ?_⟩, fun s hs => by rw [e1]; exact hD.1.bt.st s (h2 s hs)⟩
  have hm := h2 (rd [] q.2 i) (by rw [rd_at hi]; exact List.getElem_mem _)
  obtain ⟨j, hj, e⟩ := List.getElem_of_mem hm
  rw [← e, ← rd_at (z := []) hj]
  exact hD.1.st j hj
theorem ends_re (r : TRoom) (hD : RoomD r) (c0 : TL01Cur × Unit) (xs : List (List TItem)) (hx : (∀ s ∈ xs, s ∈ r.2.1) ∧ xs.length ≤ 1700) (c : TL01Cur) (hc : CurOk c) : Re (fun x : Nat × Nat => (bd (s_EndsOf x.1 r) fun r4 => (bd (s_l01Once x.1 c 2) fun r5 => (br r5.1 (br (decide ((r4.length : Int) > 1)) (l1_s_l11States x.1 x.2 0 [] r4 r5.2.1.1 r5.2.1.2.1 r5.2.1.2.2.1 (r, c0)) (some ((r.1, xs), r5.2.1, ()))) (some ((r.1, xs), r5.2.1, ())))))) (fun q => StatesP q.1 ∧ CurOk q.2.1) := by
  have hI := hD.1
  have hlen := hI.len
  have hsl := hI.sl
  have hel := endsL_length r hI
  refine Re.c2 (s_EndsOf_ev r hI.prevS) (Re.b2 (once_re _ 2 hc) fun r5 h5 => ?_)
  have done : StatesP (r.1, xs) := ⟨r, hD, rfl, hx.1, hx.2⟩
  refine Re.brb (Re.brd (fun _ => ?_) (fun _ => Re.ret ⟨done, h5⟩)) (Re.ret ⟨done, h5⟩)
  generalize endsL r.1 = ends at hel ⊢
  have := Re.wf (l := fun k n (st : (Nat × List (List TItem)) ⊕ (Nat × Nat × List (List TItem))) => match st with
      | .inl (i, xs) => l1_s_l11States k n (i : Int) xs ends r5.2.1.1 r5.2.1.2.1 r5.2.1.2.2.1 (r, c0)
      | .inr (i, j, xs) => l2_s_l11States k n (i : Int) (j : Int) xs ends r5.2.1.1 r5.2.1.2.1 r5.2.1.2.2.1 (r, c0))
    (I := fun st => match st with
      | .inl (i, xs) => i ≤ ends.length ∧ (∀ s ∈ xs, s ∈ r.2.1) ∧ xs.length ≤ 40 * i
      | .inr (i, j, xs) => i < ends.length ∧ j ≤ r.1.length ∧ (∀ s ∈ xs, s ∈ r.2.1) ∧ xs.length ≤ 40 * i + j)
    (fun st => match st with
      | .inl (i, xs) => (ends.length - i, 100)
      | .inr (i, j, xs) => (ends.length - i, r.1.length - j + 1)) (Q := fun _ q => StatesP q.1 ∧ CurOk q.2.1) (fun st hi ih => by
    rcases st with ⟨i, xs⟩ | ⟨i, j, xs⟩
    · simp only at hi ih ⊢
      obtain ⟨g1, g2, g3⟩ := hi
      simp only [z1_s_l11States, b1_s_l11States]
      refine Re.brd (fun g => ?_) (fun g => Re.ret ⟨⟨r, hD, rfl, g2, by show xs.length ≤ 1700; omega⟩, h5.eta⟩)
      exact ih (.inr (i, 0, xs)) ⟨by omega, Nat.zero_le _, g2, by omega⟩ (.inr ⟨rfl, by simp only; omega⟩)
    · simp only at hi ih ⊢
      obtain ⟨g1, g2, g3, g4⟩ := hi
      simp only [z2_s_l11States, b2_s_l11States, Int.toNat_natCast]
      refine Re.brd (fun g => ?_) (fun g => ?_)
      · have hj : j < r.1.length := by omega
        have hsj := hI.st j (by omega)
        have hm : rd [] r.2.1 j ∈ r.2.1 := by rw [rd_at (show j < r.2.1.length by omega)]; exact List.getElem_mem _
        rw [idx_succ hj (by omega)]
        refine Re.gdd (by omega) (Re.gdd g (Re.gdd (by omega) (Re.gdd (by omega) ?_)))
        refine Re.brb ?_ (ih (.inr (i, j + 1, xs)) ⟨g1, by omega, g3, by omega⟩ (.inr ⟨rfl, by simp only; omega⟩))
        refine Re.gdd (by omega) (Re.gdd (by omega) (Re.gdd (by simp [maxRow]; omega) (Re.gdd (by simp [maxRow]; omega) ?_)))
        rw [List.nil_append]
        refine ih (.inr (i, j + 1, xs ++ [rd [] r.2.1 j])) ⟨g1, by omega, fun s hs => ?_, by simp; omega⟩ (.inr ⟨rfl, by simp only; omega⟩)
        rcases List.mem_append.1 hs with h | h
        · exact g3 s h
        · rw [List.mem_singleton] at h; rw [h]; exact hm
      · rw [idx_succ g1 (by omega)]
        exact ih (.inl (i + 1, xs)) ⟨by omega, g3, by omega⟩ (.inl (by simp only; omega))) (.inl (0, [])) ⟨Nat.zero_le _, fun s hs => by simp at hs, by simp⟩
  exact this
theorem l11States_re (c : TL01Cur) (hc : CurOk c) (a : List Int) (ha : a.length ≤ 1048576) : Re (fun k => s_l11States k c a) (fun q => StatesP q.1 ∧ CurOk q.2.1) := by
  refine Re.b1 (l12Room_re c hc a ha) fun r1 h1 => ?_
  obtain ⟨r, c1, u⟩ := r1
  obtain ⟨hD, hc1⟩ := h1
  simp only at hD hc1
  have hI := hD.1
  have hlen := hI.len
  have hsl := hI.sl
  refine Re.enter (f := fun k n => l0_s_l11States k n 0 c1.1 c1.2.1 c1.2.2.1 [] (r, c1, u)) among_nat ?_
  have := Re.loop (ι := Nat) (l := fun k n (st : Nat × TL01Cur × List (List TItem)) => l0_s_l11States k n (st.1 : Int) st.2.1.1 st.2.1.2.1 st.2.1.2.2.1 st.2.2 (r, c1, u)) (I := fun st => st.1 ≤ 4 ∧ CurOk st.2.1 ∧ (∀ s ∈ st.2.2, s ∈ r.2.1) ∧ st.2.2.length = st.1) (fun st => 4 - st.1) (Q := fun _ q => StatesP q.1 ∧ CurOk q.2.1) (fun st hi ih => by
    obtain ⟨i, c2, xs⟩ := st
    obtain ⟨g1, g2, g3, g4⟩ := hi
    simp only at g1 g2 g3 g4 ih ⊢
    simp only [l0_s_l11States, b0_s_l11States]
    refine Re.b2 (below_re _ _ g2.eta) fun r2 h2 => ?_
    have fin := ends_re r hD (c1, u) xs ⟨g3, by omega⟩ r2.2.1 h2.2
    obtain ⟨⟨p1, p2⟩, p3⟩ := h2
    refine Re.brd (fun q => ?_) (fun _ => fin)
    refine Re.brd (fun q2 => ?_) (fun _ => fin)
    refine Re.b2 (below_re _ _ p3) fun r3 h3 => ?_
    obtain ⟨⟨p4, p5⟩, p6⟩ := h3
    have q4 : r3.1 < r.2.1.length := by omega
    have hsj := hI.st r3.1.toNat (by omega)
    have hm : rd [] r.2.1 r3.1.toNat ∈ r.2.1 := by rw [rd_at (show r3.1.toNat < r.2.1.length by omega)]; exact List.getElem_mem _
    have e2 : w64 ((i : Int) + 1) = ((i + 1 : Nat) : Int) := by rw [w64_eq (by omega) (by omega)]; rfl
    refine Re.gdd p4 (Re.gdd q4 (Re.gdd (by simp [maxRow]; omega) (Re.gdd (by simp [maxRow]; omega) ?_)))
    rw [e2, List.nil_append]
    refine ih (i + 1, r3.2.1, xs ++ [rd [] r.2.1 r3.1.toNat]) ⟨by simp only; omega, p6, fun s hs => ?_, by simp [g4]⟩ (by simp only; omega)
    rcases List.mem_append.1 hs with h | h
    · exact g3 s h
    · rw [List.mem_singleton] at h; rw [h]; exact hm) (0, c1, []) ⟨Nat.zero_le _, hc1, fun s hs => by simp at hs, rfl⟩
  exact this
theorem drawResolve_re (a : List Int) (h : a.length ≤ 1048576) : Re (fun k => s_DrawResolve k a) StatesP :=
  new_re (l := fun k n v i => l0_s_DrawResolve k n a v i) (C := fun k c => bd (s_l11States k (a, 0, c, ()) a) fun r1 => some (r1.1.1, r1.1.2)) a h (fun k n v1 v2 => rfl) (fun c hc => Re.b1 (l11States_re _ hc a h) fun r hr => Re.ret hr.1) _
end Go.Vm
