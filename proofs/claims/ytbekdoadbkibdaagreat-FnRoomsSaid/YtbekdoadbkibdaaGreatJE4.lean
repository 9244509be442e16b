/- Plain laws. -/
import Derived.Test.YtbekdoadbkibdaaGreatJD4
set_option linter.unusedVariables false
set_option linter.unusedSimpArgs false
namespace Go.Vm
open Go
/-! ### A room's events in another order -/
def allIn (done ids : List Int) : Bool := ids.all fun p => decide (p ∈ done)
theorem s_l21All_ev (done ids : List Int) (h1 : done.length ≤ 1048576) (h2 : ids.length ≤ 1048576) : Ev (fun k => s_l21All k done ids) (allIn done ids) := by
  refine Re.eq ?_
  refine Re.enter (f := fun k n => l0_s_l21All k n done ids 0) among_nat ?_
  have := Re.loop (ι := Nat) (l := fun k n (i : Nat) => l0_s_l21All k n done ids (i : Int)) (I := fun i => i ≤ ids.length ∧ (ids.take i).all (fun p => decide (p ∈ done)) = true) (fun i => ids.length - i) (Q := fun _ v => v = allIn done ids) (fun i hi ih => by
    simp only [l0_s_l21All, b0_s_l21All, Int.toNat_natCast]
    obtain ⟨g1, g2⟩ := hi
    refine Re.brd (fun g => ?_) (fun g => Re.ret ?_)
    · have hil : i < ids.length := by omega
      rw [idx_succ hil (by omega)]
      refine Re.gdd (by omega) (Re.gdd g (Re.c2 (s_l05In_ev done h1 _) ?_))
      cases hq : decide (rd 0 ids i ∈ done) with
      | true =>
        refine Re.br (b := false) (fun h => by cases h) (fun _ => ih (i + 1) ⟨by omega, ?_⟩ (by omega))
        rw [take_int hil, List.all_append, g2]; simpa using hq
      | false =>
        refine Re.br (b := true) (fun _ => Re.ret ?_) (fun h => by cases h)
        symm
        unfold allIn
        rw [List.all_eq_false]
        refine ⟨rd 0 ids i, by rw [rd_at hil]; exact List.getElem_mem _, by simpa using hq⟩
    · have e : ids.take i = ids := List.take_of_length_le (by omega)
      rw [e] at g2
      exact g2.symm) 0 ⟨Nat.zero_le _, by simp⟩
  exact this
structure ShufOk (r : TRoom) (out : List TEvent) : Prop where
  mem : ∀ e ∈ out, e ∈ r.1
  nd : (out.map fun e => e.1).Nodup
  pv : ∀ i, i < out.length → ∀ p ∈ (rd dTEvent out i).2.2.2.2.2.2.2.1, p ∈ (out.take i).map fun e => e.1
theorem RoomI.nd {r : TRoom} (h : RoomI r) : (r.1.map fun e => e.1).Nodup := by
  unfold List.Nodup
  rw [List.pairwise_map, List.pairwise_iff_getElem]
  intro i j hi hj hij
  have := h.ids i j hij hj
  rw [rd_at hi, rd_at hj] at this
  exact this
theorem ShufOk.le {r : TRoom} {out : List TEvent} (h : ShufOk r out) : out.length ≤ r.1.length := by
  have := nodup_le _ (r.1.map fun e => e.1) h.nd fun x hx => by
    obtain ⟨e, he, rfl⟩ := List.mem_map.1 hx
    exact List.mem_map.2 ⟨e, h.mem e he, rfl⟩
  simpa using this
/-- While one is left, there is one that may come. -/
theorem ShufOk.next {r : TRoom} (hI : RoomI r) {out : List TEvent} (h : ShufOk r out) (hl : out.length < r.1.length) :
    ∃ m, m < r.1.length ∧ (rd dTEvent r.1 m).1 ∉ (out.map fun e => e.1) ∧ allIn (out.map fun e => e.1) (rd dTEvent r.1 m).2.2.2.2.2.2.2.1 = true := by
  have hex : ∃ m, m < r.1.length ∧ (rd dTEvent r.1 m).1 ∉ (out.map fun e => e.1) := by
    refine Classical.byContradiction fun hn => ?_
    have := nodup_le _ (out.map fun e => e.1) hI.nd fun x hx => by
      obtain ⟨e, he, rfl⟩ := List.mem_map.1 hx
      obtain ⟨i, hi, rfl⟩ := List.getElem_of_mem he
      refine Classical.byContradiction fun hq => hn ⟨i, hi, ?_⟩
      rw [rd_at hi]; exact hq
    simp at this
    omega
  have hmin : ∀ k m, m < r.1.length → m ≤ k → (rd dTEvent r.1 m).1 ∉ (out.map fun e => e.1) → ∃ m, m < r.1.length ∧ (rd dTEvent r.1 m).1 ∉ (out.map fun e => e.1) ∧ ∀ j, j < m → (rd dTEvent r.1 j).1 ∈ (out.map fun e => e.1) := by
    intro k
    induction k with
    | zero => exact fun m hm h0 hq => ⟨m, hm, hq, fun j hj => by omega⟩
    | succ k ih =>
      intro m hm hk hq
      by_cases hall : ∀ j, j < m → (rd dTEvent r.1 j).1 ∈ (out.map fun e => e.1)
      · exact ⟨m, hm, hq, hall⟩
      · obtain ⟨j, hj⟩ := Classical.not_forall.1 hall
        obtain ⟨hj1, hj2⟩ := Classical.not_imp.1 hj
        exact ih j (by omega) (by omega) hj2
  obtain ⟨m0, hm0, hq0⟩ := hex
  obtain ⟨m, hm, hq, hall⟩ := hmin m0 m0 hm0 (Nat.le_refl _) hq0
  refine ⟨m, hm, hq, ?_⟩
  unfold allIn
  rw [List.all_eq_true]
  intro p hp
  obtain ⟨j, hj, e⟩ := hI.bt.prev m hm p hp
  rw [← e]
  exact decide_eq_true (hall j hj)
theorem ShufOk.snoc {r : TRoom} {out : List TEvent} (h : ShufOk r out) {k : Nat} (hk : k < r.1.length) (h1 : (rd dTEvent r.1 k).1 ∉ (out.map fun e => e.1)) (h2 : allIn (out.map fun e => e.1) (rd dTEvent r.1 k).2.2.2.2.2.2.2.1 = true) : ShufOk r (out ++ [rd dTEvent r.1 k]) := by
  refine ⟨fun e he => ?_, ?_, fun i hi p hp => ?_⟩
  · rcases List.mem_append.1 he with q | q
    · exact h.mem e q
    · rw [List.mem_singleton] at q
      rw [q, rd_at hk]; exact List.getElem_mem _
  · rw [List.map_append, List.nodup_append]
    refine ⟨h.nd, by simp, fun x hx y hy => ?_⟩
    simp at hy
    rw [hy]
    intro q
    rw [q] at hx
    exact h1 hx
  · rw [rd_snocL] at hp
    by_cases q : i < out.length
    · rw [if_pos q] at hp
      rw [List.take_append_of_le_length (by omega)]
      exact h.pv i q p hp
    · have e : i = out.length := by simp at hi; omega
      rw [if_neg q, if_pos e] at hp
      rw [e, List.take_append_of_le_length (Nat.le_refl _), List.take_length]
      have := List.all_eq_true.1 h2 p hp
      exact of_decide_eq_true this
theorem idx_mod {k n : Nat} (h : k < n) (hn : n ≤ 1000) : Int.tmod (w64 ((k : Int) + 1)) (n : Int) = ((if k + 1 < n then k + 1 else 0 : Nat) : Int) := by
  rw [w64_eq (by omega) (by omega)]
  have e : ((k : Int) + 1) = ((k + 1 : Nat) : Int) := rfl
  rw [e, ← Int.ofNat_tmod]
  congr 1
  by_cases q : k + 1 < n
  · rw [if_pos q, Nat.mod_eq_of_lt q]
  · have : k + 1 = n := by omega
    rw [if_neg q, this, Nat.mod_self]
def ShufP (q : TRoom × List TEvent) : Prop := RoomD q.1 ∧ ShufOk q.1 q.2 ∧ q.2.length = q.1.1.length
theorem shuffle_re (r : TRoom) (hD : RoomD r) (c : TL01Cur) (hc : CurOk c) : Re (fun x : Nat × Nat => l1_s_DrawShuffled x.1 x.2 c.1 c.2.1 c.2.2.1 [] [] r.1 r.2.1 r.2.2.1) ShufP := by
  have hI := hD.1
  have hlen := hI.len
  have := Re.wf (l := fun k n (st : (TL01Cur × List TEvent) ⊕ (Nat × Nat × (Int × TL01Cur × Unit) × List TEvent)) => match st with
      | .inl (c, out) => l1_s_DrawShuffled k n c.1 c.2.1 c.2.2.1 out (out.map fun e => e.1) r.1 r.2.1 r.2.2.1
      | .inr (i, m, p, out) => l2_s_DrawShuffled k n (i : Int) p out (out.map fun e => e.1) r.1 r.2.1 r.2.2.1)
    (I := fun st => match st with
      | .inl (c, out) => CurOk c ∧ ShufOk r out
      | .inr (i, m, p, out) => CurOk p.2.1 ∧ ShufOk r out ∧ out.length < r.1.length ∧ i < r.1.length ∧ m < r.1.length ∧ (rd dTEvent r.1 m).1 ∉ (out.map fun e => e.1) ∧ allIn (out.map fun e => e.1) (rd dTEvent r.1 m).2.2.2.2.2.2.2.1 = true)
    (fun st => match st with
      | .inl (c, out) => (r.1.length - out.length, 1000)
      | .inr (i, m, p, out) => (r.1.length - out.length, if i ≤ m then m - i else m + r.1.length - i)) (Q := fun _ q => ShufP q) (fun st hi ih => by
    rcases st with ⟨c, out⟩ | ⟨i, m, p, out⟩
    · simp only at hi ih ⊢
      obtain ⟨g1, g2⟩ := hi
      have hle := g2.le
      simp only [z1_s_DrawShuffled, b1_s_DrawShuffled]
      refine Re.brd (fun g => ?_) (fun g => Re.ret ⟨hD, g2, by simp only; omega⟩)
      refine Re.b2 (below_re _ _ g1.eta) fun p hp => ?_
      obtain ⟨⟨p1, p2⟩, p3⟩ := hp
      obtain ⟨m, hm, hq, ha⟩ := g2.next hI (by omega)
      have e : p.1 = ((p.1.toNat : Nat) : Int) := by omega
      rw [e]
      refine ih (.inr (p.1.toNat, m, p, out)) ⟨p3, g2, by omega, by omega, hm, hq, ha⟩ (.inr ⟨rfl, ?_⟩)
      simp only
      split <;> omega
    · simp only at hi ih ⊢
      obtain ⟨g1, g2, g3, g4, g5, g6, g7⟩ := hi
      simp only [z2_s_DrawShuffled, b2_s_DrawShuffled, Int.toNat_natCast]
      have hmi := hI.mE g4
      have hdl : (out.map fun e => e.1).length = out.length := List.length_map _
      have again : i ≠ m → Re (fun x : Nat × Nat => l2_s_DrawShuffled x.1 x.2 (Int.tmod (w64 ((i : Int) + 1)) (r.1.length : Int)) p out (out.map fun e => e.1) r.1 r.2.1 r.2.2.1) ShufP := fun hne => by
        rw [idx_mod g4 (by omega)]
        refine ih (.inr (if i + 1 < r.1.length then i + 1 else 0, m, p, out)) ⟨g1, g2, g3, ?_, g5, g6, g7⟩ (.inr ⟨rfl, ?_⟩)
        · split <;> omega
        · simp only
          by_cases q : i + 1 < r.1.length
          · rw [if_pos q]
            by_cases q2 : i ≤ m
            · rw [if_pos q2, if_pos (by omega)]; omega
            · rw [if_neg q2, if_neg (by omega)]; omega
          · rw [if_neg q, if_pos (Nat.zero_le _), if_neg (by omega)]; omega
      have hng : ((w64 ((i : Int) + 1)) == (w64 ((i : Int) + 1)) && ((r.1.length : Int) : Int) == 0) = false := by
        rw [beq_ne0 (show ((r.1.length : Int) : Int) ≠ 0 by omega), Bool.and_false]
      rw [hng]
      refine Re.gdd (by omega) (Re.gdd (by omega) (Re.c2 (s_l05In_ev _ (by omega) _) ?_))
      refine Re.brd (fun q => Re.ng rfl (again fun e => g6 (by rw [← e]; exact q))) (fun q => ?_)
      refine Re.gdd (by omega) (Re.gdd (by omega) (Re.c2 (s_l21All_ev _ _ (by omega) (by omega)) ?_))
      cases ha : allIn (out.map fun e => e.1) (rd dTEvent r.1 i).2.2.2.2.2.2.2.1 with
      | false =>
        refine Re.br (b := true) (fun _ => Re.ng rfl (again fun e => ?_)) (fun h => by cases h)
        rw [e, g7] at ha; cases ha
      | true =>
        refine Re.br (b := false) (fun h => by cases h) (fun _ => ?_)
        have hs := hI.copyS.2 i g4
        refine Re.gdd (by omega) (Re.gdd (by omega) (Re.s2 (fun k => s_l09Copy_eq k _ hs.1 hs.2) ?_))
        refine Re.gdd (by simp [maxRow]; omega) (Re.gdd (by omega) (Re.gdd (by omega) (Re.gdd (by simp [maxRow]; omega) ?_)))
        have hn := g2.snoc g4 q ha
        have e : (out.map fun e => e.1) ++ [(rd dTEvent r.1 i).1] = (out ++ [rd dTEvent r.1 i]).map fun e => e.1 := by simp
        rw [e]
        exact ih (.inl (p.2.1, out ++ [rd dTEvent r.1 i])) ⟨g1, hn⟩ (.inl (by simp only [List.length_append, List.length_singleton]; omega))) (.inl (c, [])) ⟨hc, ⟨fun e he => by simp at he, by simp, fun i hi => by simp at hi⟩⟩
  exact this
/-- The cursor of a draw is made anew, ahead of a loop of the same function. -/
theorem new2_re {R : Type} {l : Nat → Nat → Int → Int → Option R} {h : Int → Int → Int} {C : Nat → Nat → Int → Option R} {Q : R → Prop} (a : List Int) (ha : a.length ≤ 1048576)
    (hs : ∀ k n v1 v2, l k (n + 1) v1 v2 = br (decide (v2 < (a.length : Int))) (br (decide (v2 < 4000)) (gd (decide (0 ≤ v2)) (gd (decide (v2 < (a.length : Int))) (l k n (h v1 v2) (w64 (v2 + 1))))) (C k n v1)) (C k n v1))
    (hC : ∀ c : Int, CurOk (a, 0, c, ()) → Re (fun x : Nat × Nat => C x.1 x.2 c) Q) (v : Int) : Re (fun k => l k k v 0) Q := by
  have hc : ∀ c : Int, Re (fun x : Nat × Nat => C x.1 x.2 c) Q := fun c => hC c ⟨Int.le_refl 0, by show (0 : Int) ≤ _; omega, ha⟩
  refine Re.enter (f := fun k n => l k n v 0) among_nat ?_
  have := Re.loop (ι := Nat) (l := fun k n (s : Int × Int) => l k n s.1 s.2) (I := fun s => 0 ≤ s.2 ∧ s.2 ≤ a.length) (fun s => (a.length - s.2).toNat) (Q := fun _ v => Q v) (fun s hi ih => by
    obtain ⟨v1, v2⟩ := s
    simp only at hi
    simp only [hs]
    refine Re.brd (fun h1 => ?_) (fun h1 => hc _)
    refine Re.brd (fun h2 => ?_) (fun h2 => hc _)
    have e : w64 (v2 + 1) = v2 + 1 := w64_eq (by omega) (by omega)
    refine Re.gdd hi.1 (Re.gdd h1 ?_)
    rw [e]
    exact ih (h v1 v2, v2 + 1) (by simp only; omega) (by simp only; omega)) (v, 0) ⟨Int.le_refl 0, by simp only; omega⟩
  exact this
theorem drawShuffled_re (a : List Int) (h : a.length ≤ 1048576) : Re (fun k => s_DrawShuffled k a) ShufP := by
  refine new2_re (l := fun k n v i => l0_s_DrawShuffled k n a v i) (C := fun k n c => bd (s_l12Room k (a, 0, c, ()) a) fun r1 => (l1_s_DrawShuffled k n r1.2.1.1 r1.2.1.2.1 r1.2.1.2.2.1 ([] : List TEvent) [] r1.1.1 r1.1.2.1 r1.1.2.2.1)) a h (fun k n v1 v2 => rfl) (fun c hc => Re.b2 (l12Room_re _ hc a h) fun r hr => ?_) _
  exact shuffle_re r.1 hr.1 r.2.1 hr.2
end Go.Vm
