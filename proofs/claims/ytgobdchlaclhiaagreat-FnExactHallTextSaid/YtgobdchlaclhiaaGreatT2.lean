/- Plain laws. -/
import Derived.Test.YtgobdchlaclhiaaGreatF2
set_option linter.unusedVariables false
set_option linter.unusedSimpArgs false
namespace Go.Vm
open Go
/-! ### The order -/
theorem Anc.found {es : List TEvent} {id x : Int} (h : Anc es id x) : found es x := by cases h <;> assumption
theorem AncL.len {es : List TEvent} {id : Int} {r : List Int} (h : AncL es id r) : r.length ≤ es.length := by
  have := nodup_le r (es.map fun e => e.1) h.1 fun x hx => found_mem ((h.2 x).1 hx).found
  simpa using this
def leftStep (es : List TEvent) (a : List Int) (x : Int) : List Int := bif (findE es x).2 then addL a x else a
def leftL (es : List TEvent) (ids : List Int) : List Int := ids.foldl (leftStep es) []
theorem leftStep_length (es : List TEvent) : ∀ (xs a : List Int), (xs.foldl (leftStep es) a).length ≤ a.length + xs.length
  | [], a => by simp
  | x :: xs, a => by
    rw [List.foldl_cons]
    have h1 := leftStep_length es xs (leftStep es a x)
    have h2 : (leftStep es a x).length ≤ a.length + 1 := by
      unfold leftStep
      have := addL_length a x
      cases (findE es x).2 <;> simp <;> omega
    simp; omega
noncomputable def readyP (es : List TEvent) (L out : List Int) (x : Int) : Bool := @decide (∀ y, Anc es x y → y ∈ L → y ∈ out) (Classical.propDecidable _)
theorem ready_eq {es : List TEvent} {L out : List Int} {x : Int} {r : List Int} (h : AncL es x r) : ready r L out = readyP es L out x := by
  rw [Bool.eq_iff_iff]
  unfold ready readyP
  rw [List.all_eq_true, @decide_eq_true_iff _ (Classical.propDecidable _)]
  constructor
  · intro g y hy hl
    have := g y ((h.2 y).2 hy)
    simp [hl] at this
    exact this
  · intro g y hy
    by_cases hl : y ∈ L
    · simp [hl, g y ((h.2 y).1 hy) hl]
    · simp [hl]
noncomputable def cand (es : List TEvent) (L out : List Int) (x : Int) : Bool := !decide (x ∈ out) && readyP es L out x
noncomputable def pickStep (es : List TEvent) (s : List TItem) (L out : List Int) (b : Option TEvent) (x : Int) : Option TEvent :=
  bif cand es L out x then (match b with | none => some (findE es x).1 | some b0 => bif heavier es s (findE es x).1 b0 then some (findE es x).1 else some b0) else b
noncomputable def pick (es : List TEvent) (s : List TItem) (L out : List Int) : Option TEvent := L.foldl (pickStep es s L out) none
noncomputable def orderGo (es : List TEvent) (s : List TItem) (L : List Int) : Nat → List Int → List Int
  | 0, out => out
  | f + 1, out => match pick es s L out with
    | none => out
    | some b => orderGo es s L f (out ++ [b.1])
noncomputable def orderL (es : List TEvent) (s : List TItem) (ids : List Int) : List Int := orderGo es s (leftL es ids) (leftL es ids).length []
theorem order_rounds (es : List TEvent) (s : List TItem) (h : Fits es s) (h1 : es.length ≤ 100000) (L : List Int) (hL : L.length ≤ 100000) (as : List (List Int)) (ha : as.length = L.length) (hA : ∀ i, i < L.length → AncL es (rd 0 L i) (rd [] as i)) :
    Re (fun x : Nat × Nat => l2_s_Order x.1 x.2 es s L as []) (fun r => r = orderGo es s L L.length []) := by
  have := Re.wf (l := fun k n (st : List Int ⊕ (Nat × List Int) ⊕ (Nat × List Int × TEvent)) => match st with
      | .inl out => l2_s_Order k n es s L as out
      | .inr (.inl (i, out)) => l3_s_Order k n es s (i : Int) L as out
      | .inr (.inr (i, out, b)) => l4_s_Order k n es s (i : Int) L as out b.1 b.2.1 b.2.2.1 b.2.2.2.1 b.2.2.2.2.1 b.2.2.2.2.2.1 b.2.2.2.2.2.2.1 b.2.2.2.2.2.2.2.1 b.2.2.2.2.2.2.2.2.1)
    (I := fun st => match st with
      | .inl out => out.length ≤ L.length
      | .inr (.inl (i, out)) => out.length < L.length ∧ i ≤ L.length ∧ (L.take i).foldl (pickStep es s L out) none = none
      | .inr (.inr (i, out, b)) => out.length < L.length ∧ i ≤ L.length ∧ (L.take i).foldl (pickStep es s L out) none = some b)
    (fun st => match st with
      | .inl out => (L.length - out.length, L.length + 2)
      | .inr (.inl (i, out)) => (L.length - out.length, L.length - i + 1)
      | .inr (.inr (i, out, b)) => (L.length - out.length, L.length - i + 1))
    (Q := fun st r => match st with
      | .inl out => r = orderGo es s L (L.length - out.length) out
      | .inr (.inl (i, out)) => r = orderGo es s L (L.length - out.length) out
      | .inr (.inr (i, out, b)) => r = orderGo es s L (L.length - out.length) out) (fun st hi ih => by
    rcases st with out | ⟨i, out⟩ | ⟨i, out, b⟩
    · simp only at hi ih ⊢
      simp only [z2_s_Order, b2_s_Order]
      refine Re.brd (fun g => ?_) (fun g => Re.ret ?_)
      · exact ih (.inr (.inl (0, out))) ⟨by omega, Nat.zero_le _, rfl⟩ (.inr ⟨rfl, by simp only; omega⟩)
      · rw [show L.length - out.length = 0 by omega]; rfl
    · obtain ⟨g1, g2, g3⟩ := hi
      simp only at ih ⊢
      simp only [z3_s_Order, b3_s_Order]
      refine Re.brd (fun g => ?_) (fun g => Re.ret ?_)
      · have hl : i < L.length := by omega
        have hf := foldl_take (pickStep es s L out) 0 L none hl
        rw [g3] at hf
        refine Re.gdd (by omega) (Re.gdd g ?_)
        simp only [Int.toNat_natCast]
        rw [idx_succ hl (by omega)]
        have same : cand es L out (rd 0 L i) = false → Re (fun x : Nat × Nat => l3_s_Order x.1 x.2 es s ((i + 1 : Nat) : Int) L as out) (fun r => r = orderGo es s L (L.length - out.length) out) := fun q =>
          ih (.inr (.inl (i + 1, out))) ⟨g1, by omega, by rw [hf]; unfold pickStep; rw [q]; rfl⟩ (.inr ⟨rfl, by simp only; omega⟩)
        refine Re.c2 (s_l05In_ev out (by omega) _) ?_
        refine Re.brd (fun q => same (by unfold cand; rw [decide_eq_true q]; rfl)) (fun q => ?_)
        have hc : cand es L out (rd 0 L i) = readyP es L out (rd 0 L i) := by unfold cand; rw [decide_eq_false q]; rfl
        refine Re.gdd (by omega) (Re.gdd (by omega) ?_)
        have hal := (hA i hl).len
        refine Re.c2 (s_l11Ready_ev _ _ _ (by omega) (by omega) (by omega)) ?_
        rw [ready_eq (hA i hl), ← hc]
        refine Re.br (fun q2 => same (by simpa using q2)) (fun q2 => ?_)
        refine Re.gdd (by omega) (Re.gdd g (Re.c2 (s_find_ev es h.1 _) ?_))
        exact ih (.inr (.inr (i + 1, out, (findE es (rd 0 L i)).1))) ⟨g1, by omega, by rw [hf]; unfold pickStep; rw [show cand es L out (rd 0 L i) = true by simpa using q2]; rfl⟩ (.inr ⟨rfl, by simp only; omega⟩)
      · rw [List.take_of_length_le (by omega)] at g3
        obtain ⟨f, hf⟩ : ∃ f, L.length - out.length = f + 1 := ⟨L.length - out.length - 1, by omega⟩
        rw [hf]
        unfold orderGo pick
        rw [g3]
    · obtain ⟨g1, g2, g3⟩ := hi
      simp only at ih ⊢
      simp only [z4_s_Order, b4_s_Order]
      refine Re.brd (fun g => ?_) (fun g => ?_)
      · have hl : i < L.length := by omega
        have hf := foldl_take (pickStep es s L out) 0 L none hl
        rw [g3] at hf
        refine Re.gdd (by omega) (Re.gdd g ?_)
        simp only [Int.toNat_natCast]
        rw [idx_succ hl (by omega)]
        have next : ∀ b2, pickStep es s L out (some b) (rd 0 L i) = some b2 → Re (fun x : Nat × Nat => l4_s_Order x.1 x.2 es s ((i + 1 : Nat) : Int) L as out b2.1 b2.2.1 b2.2.2.1 b2.2.2.2.1 b2.2.2.2.2.1 b2.2.2.2.2.2.1 b2.2.2.2.2.2.2.1 b2.2.2.2.2.2.2.2.1 b2.2.2.2.2.2.2.2.2.1) (fun r => r = orderGo es s L (L.length - out.length) out) := fun b2 q =>
          ih (.inr (.inr (i + 1, out, b2))) ⟨g1, by omega, by rw [hf, q]⟩ (.inr ⟨rfl, by simp only; omega⟩)
        refine Re.c2 (s_l05In_ev out (by omega) _) ?_
        refine Re.brd (fun q => next b (by unfold pickStep cand; rw [decide_eq_true q]; rfl)) (fun q => ?_)
        have hc : cand es L out (rd 0 L i) = readyP es L out (rd 0 L i) := by unfold cand; rw [decide_eq_false q]; rfl
        refine Re.gdd (by omega) (Re.gdd (by omega) ?_)
        have hal := (hA i hl).len
        refine Re.c2 (s_l11Ready_ev _ _ _ (by omega) (by omega) (by omega)) ?_
        rw [ready_eq (hA i hl), ← hc]
        refine Re.br (fun q2 => next b (by unfold pickStep; rw [show cand es L out (rd 0 L i) = false by simpa using q2]; rfl)) (fun q2 => ?_)
        have q3 : cand es L out (rd 0 L i) = true := by simpa using q2
        refine Re.gdd (by omega) (Re.gdd g (Re.c2 (s_find_ev es h.1 _) (Re.c2 (s_Heavier_ev es s h _ _) ?_)))
        refine Re.br (fun q4 => next _ ?_) (fun q4 => next b ?_)
        · unfold pickStep; rw [q3]; simp only [cond_true]
          have e : heavier es s (findE es (rd 0 L i)).1 b = true := q4
          rw [e]; rfl
        · unfold pickStep; rw [q3]; simp only [cond_true]
          have e : heavier es s (findE es (rd 0 L i)).1 b = false := q4
          rw [e]; rfl
      · rw [List.take_of_length_le (by omega)] at g3
        refine Re.gdd (by simp only [List.length_singleton]; unfold maxRow; omega) ?_
        have next := ih (.inl (out ++ [b.1])) (by simp; omega) (.inl (by simp; omega))
        refine next.mono fun r hr => ?_
        simp only at hr
        obtain ⟨f, hf⟩ : ∃ f, L.length - out.length = f + 1 := ⟨L.length - out.length - 1, by omega⟩
        rw [hr, hf]
        have e : L.length - (out ++ [b.1]).length = f := by simp; omega
        rw [e]
        conv => rhs; unfold orderGo pick; rw [g3]) (.inl []) (Nat.zero_le _)
  simpa using this
theorem addGo_nodup (y : Int) : ∀ (xs : List Int) (d : Bool), xs.Nodup → (addGo y xs d).Nodup
  | [], d, _ => by cases d <;> simp [addGo]
  | x :: xs, d, h => by
    have hx := List.nodup_cons.1 h
    have h1 := addGo_nodup y xs true hx.2
    have h2 := addGo_nodup y xs d hx.2
    unfold addGo
    by_cases q : x ≥ y ∧ d = false
    · rw [if_pos q]
      have hy : y ∉ addGo y xs true := fun hm => by rw [addGo_mem] at hm; simp at hm
      by_cases q2 : x = y
      · rw [if_pos q2]; exact List.nodup_cons.2 ⟨hy, h1⟩
      · rw [if_neg q2]
        refine List.nodup_cons.2 ⟨?_, List.nodup_cons.2 ⟨fun hm => ?_, h1⟩⟩
        · intro hm
          rcases List.mem_cons.1 hm with e | e
          · exact q2 e.symm
          · exact hy e
        · rw [addGo_mem] at hm; simp at hm; exact hx.1 hm.1
    · rw [if_neg q]
      by_cases q2 : x = y
      · rw [if_pos q2]; exact h2
      · rw [if_neg q2]
        refine List.nodup_cons.2 ⟨fun hm => ?_, h2⟩
        rw [addGo_mem] at hm
        rcases hm with hm | hm
        · exact hx.1 hm.1
        · exact q2 hm.2
theorem leftL_spec (es : List TEvent) (ids : List Int) : (leftL es ids).Nodup ∧ ∀ x, x ∈ leftL es ids ↔ x ∈ ids ∧ found es x := by
  have : ∀ (xs a : List Int), a.Nodup → (xs.foldl (leftStep es) a).Nodup ∧ ∀ x, x ∈ xs.foldl (leftStep es) a ↔ x ∈ a ∨ (x ∈ xs ∧ found es x) := by
    intro xs
    induction xs with
    | nil => intro a h; exact ⟨h, fun x => by simp⟩
    | cons y ys ih =>
      intro a h
      rw [List.foldl_cons]
      have h1 : (leftStep es a y).Nodup := by
        unfold leftStep
        cases (findE es y).2 with
        | false => exact h
        | true => exact addGo_nodup y a false h
      obtain ⟨g1, g2⟩ := ih _ h1
      refine ⟨g1, fun x => ?_⟩
      rw [g2]
      unfold leftStep found
      cases hf : (findE es y).2 with
      | false =>
        simp only [cond_false, List.mem_cons]
        constructor
        · rintro (q | ⟨q, q2⟩)
          · exact .inl q
          · exact .inr ⟨.inr q, q2⟩
        · rintro (q | ⟨q | q, q2⟩)
          · exact .inl q
          · subst q; rw [hf] at q2; cases q2
          · exact .inr ⟨q, q2⟩
      | true =>
        simp only [cond_true, addL_mem, List.mem_cons]
        constructor
        · rintro ((q | q) | ⟨q, q2⟩)
          · exact .inl q
          · exact .inr ⟨.inl q, by rw [q]; exact hf⟩
          · exact .inr ⟨.inr q, q2⟩
        · rintro (q | ⟨q | q, q2⟩)
          · exact .inl (.inl q)
          · exact .inl (.inr q)
          · exact .inr ⟨q, q2⟩
  obtain ⟨h1, h2⟩ := this ids [] (by simp)
  exact ⟨h1, fun x => by rw [leftL, h2]; simp⟩
theorem leftL_le (es : List TEvent) (ids : List Int) : (leftL es ids).length ≤ es.length := by
  obtain ⟨h1, h2⟩ := leftL_spec es ids
  have := nodup_le _ (es.map fun e => e.1) h1 fun x hx => found_mem ((h2 x).1 hx).2
  simpa using this
theorem s_Order_ev (es : List TEvent) (s : List TItem) (h : Fits es s) (h1 : es.length ≤ 100000) (hp : ∀ y, (prevsOf es y).length ≤ 1048576) (ids : List Int) (hi : ids.length ≤ 20000000) : Ev (fun k => s_Order k es s ids) (orderL es s ids) := by
  refine Re.eq (Re.enter (f := fun k n => l0_s_Order k n es s ids 0 []) among_nat ?_)
  have hLl : (leftL es ids).length ≤ 100000 := Nat.le_trans (leftL_le es ids) h1
  have two : Re (fun x : Nat × Nat => l1_s_Order x.1 x.2 es s 0 (leftL es ids) []) (fun r => r = orderL es s ids) := by
    have := Re.loop (ι := Nat) (l := fun k n (as : List (List Int)) => l1_s_Order k n es s (as.length : Int) (leftL es ids) as) (I := fun as => as.length ≤ (leftL es ids).length ∧ ∀ i, i < as.length → AncL es (rd 0 (leftL es ids) i) (rd [] as i)) (fun as => (leftL es ids).length - as.length) (Q := fun _ r => r = orderL es s ids) (fun as hi ih => by
      obtain ⟨g1, g2⟩ := hi
      simp only [l1_s_Order, b1_s_Order]
      refine Re.brd (fun g => ?_) (fun g => ?_)
      · have hl : as.length < (leftL es ids).length := by omega
        refine Re.gdd (by omega) (Re.gdd g ?_)
        simp only [Int.toNat_natCast]
        rw [idx_succ hl (by omega)]
        refine Re.b2 (s_l11Behind_re es h1 hp _) fun r3 h3 => Re.gdd (by simp only [List.length_singleton]; unfold maxRow; omega) ?_
        have := ih (as ++ [r3]) ⟨by simp; omega, fun i hi => by
          by_cases q : i < as.length
          · have e : rd [] (as ++ [r3]) i = rd [] as i := by simp [rd, List.getElem?_append_left q]
            rw [e]; exact g2 i q
          · have e0 : i = as.length := by simp at hi; omega
            subst e0
            have e : rd [] (as ++ [r3]) as.length = r3 := by simp [rd]
            rw [e]; exact h3⟩ (by simp; omega)
        simpa using this
      · exact order_rounds es s h h1 _ hLl as (by omega) fun i hi => g2 i (by omega)) [] ⟨Nat.zero_le _, fun i hi => by simp at hi⟩
    simpa using this
  have := Re.loop (ι := Nat) (l := fun k n (i : Nat) => l0_s_Order k n es s ids (i : Int) ((ids.take i).foldl (leftStep es) [])) (I := fun i => i ≤ ids.length) (fun i => ids.length - i) (Q := fun _ r => r = orderL es s ids) (fun i hi2 ih => by
    simp only [l0_s_Order, b0_s_Order]
    refine Re.brd (fun g => ?_) (fun g => ?_)
    · have hl : i < ids.length := by omega
      have next := ih (i + 1) (by omega) (by omega)
      rw [foldl_take (leftStep es) 0 ids [] hl] at next
      have hlen2 : ((ids.take i).foldl (leftStep es) []).length ≤ 1048576 := Nat.le_trans (leftL_le es (ids.take i)) (by omega)
      refine Re.gdd (by omega) (Re.gdd g ?_)
      simp only [Int.toNat_natCast]
      rw [idx_succ hl (by omega)]
      refine Re.c2 (s_find_ev es h.1 _) ?_
      unfold leftStep at next ⊢
      refine Re.br (fun q => ?_) (fun q => ?_)
      · rw [q] at next
        exact Re.gdd (by omega) (Re.gdd g (Re.c2 (s_l11Add_ev _ hlen2 _) next))
      · rw [q] at next; exact next
    · rw [List.take_of_length_le (by omega)]
      exact two) 0 (Nat.zero_le _)
  exact this
end Go.Vm
