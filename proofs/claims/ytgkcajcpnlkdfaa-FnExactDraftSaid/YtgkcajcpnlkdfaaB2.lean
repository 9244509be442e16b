/- Plain laws. -/
import Derived.Test.YtgkcajcpnlkdfaaA2
set_option linter.unusedVariables false
set_option linter.unusedSimpArgs false
namespace Go.Vm
open Go
/-! ### Rows of numbers -/
theorem s_l05In_ev (xs : List Int) (hx : xs.length ≤ 1048576) (y : Int) : Ev (fun k => s_l05In k xs y) (decide (y ∈ xs)) := by
  refine Re.eq (Re.enter (f := fun k n => l0_s_l05In k n xs y 0) among_nat ?_)
  have := Re.loop (ι := Nat) (l := fun k n (i : Nat) => l0_s_l05In k n xs y (i : Int)) (I := fun i => i ≤ xs.length ∧ ∀ j, j < i → rd 0 xs j ≠ y) (fun i => xs.length - i) (Q := fun _ r => r = decide (y ∈ xs)) (fun i hi ih => by
    simp only [l0_s_l05In, b0_s_l05In]
    refine Re.brd (fun h => ?_) (fun h => ?_)
    · have hl : i < xs.length := by omega
      refine Re.gdd (by omega) (Re.gdd h ?_)
      rw [Int.toNat_natCast]
      refine Re.bre (fun e => Re.ret ?_) (fun e => ?_)
      · exact (decide_eq_true (by rw [← e, rd_at hl]; exact List.getElem_mem _)).symm
      · rw [idx_succ hl (by omega)]
        refine ih (i + 1) ⟨by omega, fun j hj => ?_⟩ (by omega)
        by_cases q : j < i
        · exact hi.2 j q
        · have : j = i := by omega
          subst this; exact e
    · refine Re.ret (decide_eq_false fun hm => ?_).symm
      obtain ⟨j, hj, e⟩ := List.getElem_of_mem hm
      exact absurd (by rw [rd_at hj]; exact e) (hi.2 j (by omega))) 0 ⟨Nat.zero_le _, fun j hj => by omega⟩
  exact this
/-- A number goes into an ascending row, once. -/
def addGo (y : Int) : List Int → Bool → List Int
  | [], d => if d then [] else [y]
  | x :: xs, d => if x ≥ y ∧ d = false then y :: (if x = y then addGo y xs true else x :: addGo y xs true) else (if x = y then addGo y xs d else x :: addGo y xs d)
def addL (xs : List Int) (y : Int) : List Int := addGo y xs false
theorem addGo_length (y : Int) : ∀ (xs : List Int) (d : Bool), (addGo y xs d).length ≤ xs.length + 1
  | [], d => by unfold addGo; split <;> simp
  | x :: xs, d => by
    have h1 := addGo_length y xs true
    have h2 := addGo_length y xs d
    have h3 : (addGo y xs true).length ≤ xs.length := by
      clear h1 h2
      induction xs with
      | nil => simp [addGo]
      | cons z zs ih =>
        unfold addGo
        rw [if_neg (by simp)]
        split <;> simp <;> omega
    unfold addGo
    split
    · split <;> simp <;> omega
    · split <;> simp <;> omega
theorem addL_length (xs : List Int) (y : Int) : (addL xs y).length ≤ xs.length + 1 := addGo_length y xs false
theorem addGo_mem (y : Int) : ∀ (xs : List Int) (d : Bool) (z : Int), z ∈ addGo y xs d ↔ (z ∈ xs ∧ z ≠ y) ∨ (d = false ∧ z = y)
  | [], d, z => by cases d <;> simp [addGo]
  | x :: xs, d, z => by
    have h1 := addGo_mem y xs true z
    have h2 := addGo_mem y xs d z
    unfold addGo
    by_cases hd : x ≥ y ∧ d = false
    · rw [if_pos hd]
      by_cases hx : x = y
      · rw [if_pos hx]
        simp only [List.mem_cons, h1, hd.2, hx]
        constructor
        · rintro (h | h | h)
          · exact .inr ⟨trivial, h⟩
          · exact .inl ⟨.inr h.1, h.2⟩
          · cases h.1
        · rintro (h | h)
          · rcases h.1 with h3 | h3
            · exact .inl h3
            · exact .inr (.inl ⟨h3, h.2⟩)
          · exact .inl h.2
      · rw [if_neg hx]
        simp only [List.mem_cons, h1, hd.2]
        constructor
        · rintro (h | h | h | h)
          · exact .inr ⟨trivial, h⟩
          · subst h; exact .inl ⟨.inl rfl, hx⟩
          · exact .inl ⟨.inr h.1, h.2⟩
          · cases h.1
        · rintro (h | h)
          · rcases h.1 with h3 | h3
            · exact .inr (.inl h3)
            · exact .inr (.inr (.inl ⟨h3, h.2⟩))
          · exact .inl h.2
    · rw [if_neg hd]
      by_cases hx : x = y
      · rw [if_pos hx, h2]
        simp only [List.mem_cons, hx]
        constructor
        · rintro (h | h)
          · exact .inl ⟨.inr h.1, h.2⟩
          · exact .inr h
        · rintro (h | h)
          · rcases h.1 with h3 | h3
            · exact absurd h3 h.2
            · exact .inl ⟨h3, h.2⟩
          · exact .inr h
      · rw [if_neg hx]
        simp only [List.mem_cons, h2]
        constructor
        · rintro (h | h | h)
          · subst h; exact .inl ⟨.inl rfl, hx⟩
          · exact .inl ⟨.inr h.1, h.2⟩
          · exact .inr h
        · rintro (h | h)
          · rcases h.1 with h3 | h3
            · exact .inl h3
            · exact .inr (.inl ⟨h3, h.2⟩)
          · exact .inr (.inr h)
theorem addL_mem {xs : List Int} {y z : Int} : z ∈ addL xs y ↔ z ∈ xs ∨ z = y := by
  unfold addL
  rw [addGo_mem]
  by_cases h : z = y
  · simp [h]
  · simp [h]
theorem s_l11Add_ev (xs : List Int) (hx : xs.length ≤ 1048576) (y : Int) : Ev (fun k => s_l11Add k xs y) (addL xs y) := by
  refine Re.eq (Re.enter (f := fun k n => l0_s_l11Add k n xs y false 0 []) among_nat ?_)
  have := Re.loop (ι := Nat) (l := fun k n (s : Nat × Bool × List Int) => l0_s_l11Add k n xs y s.2.1 (s.1 : Int) s.2.2) (I := fun s => s.1 ≤ xs.length ∧ s.2.2.length ≤ s.1 + (bif s.2.1 then 1 else 0)) (fun s => xs.length - s.1) (Q := fun s r => r = s.2.2 ++ addGo y (xs.drop s.1) s.2.1) (fun s hi ih => by
    obtain ⟨i, d, out⟩ := s
    obtain ⟨h1, h2⟩ := hi
    simp only at h1 h2 ih ⊢
    have h2' : out.length ≤ i + 1 := by cases d <;> simp at h2 <;> omega
    simp only [l0_s_l11Add, b0_s_l11Add]
    refine Re.brd (fun h => ?_) (fun h => ?_)
    · have hl : i < xs.length := by omega
      have hdr : xs.drop i = rd 0 xs i :: xs.drop (i + 1) := by rw [rd_at hl]; exact List.drop_eq_getElem_cons hl
      rw [hdr, idx_succ hl (by omega), Int.toNat_natCast]
      have m1 : ∀ a : Int, out.length + [a].length ≤ maxRow := fun a => by simp [maxRow]; omega
      have m2 : ∀ a b : Int, (out ++ [a]).length + [b].length ≤ maxRow := fun a b => by simp [maxRow]; omega
      refine Re.gdd (by omega) (Re.gdd h ?_)
      have plain : ¬ (rd 0 xs i ≥ y ∧ d = false) → Re (fun x : Nat × Nat => (br ((rd 0 xs i) != y) (gd (decide (0 ≤ (i : Int))) (gd (decide ((i : Int) < (xs.length : Int))) (gd (decide (out.length + [(rd 0 xs i)].length ≤ maxRow)) (l0_s_l11Add x.1 x.2 xs y d ((i + 1 : Nat) : Int) (out ++ [(rd 0 xs i)]))))) (l0_s_l11Add x.1 x.2 xs y d ((i + 1 : Nat) : Int) out))) (fun r => r = out ++ addGo y (rd 0 xs i :: xs.drop (i + 1)) d) := fun g => by
        refine Re.brn (fun q => ?_) (fun q => ?_)
        · refine Re.gdd (by omega) (Re.gdd h (Re.gdd (m1 _) ?_))
          refine (ih (i + 1, d, out ++ [rd 0 xs i]) ⟨by simp only; omega, by cases d <;> simp at h2 ⊢ <;> omega⟩ (by simp only; omega)).mono fun r hr => ?_
          rw [hr, addGo, if_neg g, if_neg q]; simp
        · refine (ih (i + 1, d, out) ⟨by simp only; omega, by cases d <;> simp at h2 ⊢ <;> omega⟩ (by simp only; omega)).mono fun r hr => ?_
          rw [hr, addGo, if_neg g, if_pos q]
      refine Re.brd (fun hge => ?_) (fun hge => Re.gdd (by omega) (Re.gdd h (plain fun g => hge g.1)))
      cases d with
      | true => exact Re.br (b := false) (fun h => by cases h) (fun _ => Re.gdd (by omega) (Re.gdd h (plain fun g => by cases g.2)))
      | false =>
        simp only [cond_false] at h2
        refine Re.br (b := true) (fun _ => ?_) (fun h => by cases h)
        refine Re.gdd (m1 _) (Re.gdd (by omega) (Re.gdd h ?_))
        refine Re.brn (fun q => ?_) (fun q => ?_)
        · refine Re.gdd (by omega) (Re.gdd h (Re.gdd (m2 _ _) ?_))
          refine (ih (i + 1, true, (out ++ [y]) ++ [rd 0 xs i]) ⟨by simp only; omega, by simp; omega⟩ (by simp only; omega)).mono fun r hr => ?_
          rw [hr, addGo, if_pos ⟨hge, rfl⟩, if_neg q]; simp
        · refine (ih (i + 1, true, out ++ [y]) ⟨by simp only; omega, by simp; omega⟩ (by simp only; omega)).mono fun r hr => ?_
          rw [hr, addGo, if_pos ⟨hge, rfl⟩, if_pos q]; simp
    · have e : xs.drop i = [] := List.drop_eq_nil_of_le (by omega)
      rw [e]
      cases d with
      | true => exact Re.ret (by simp [addGo])
      | false => exact Re.gdd (by simp [maxRow]; omega) (Re.ret (by simp [addGo]))) (0, false, []) ⟨Nat.zero_le _, by simp⟩
  simpa [addL] using this
/-! ### Rooms' events -/
def hasE (es : List TEvent) (id : Int) : Int := if es.findIdx (fun e => e.1 == id) < es.length then ((es.findIdx fun e => e.1 == id : Nat) : Int) else -1
theorem s_l12Has_ev (r : TRoom) (h : r.1.length ≤ 1048576) (id : Int) : Ev (fun k => s_l12Has k r id) (hasE r.1 id) := by
  have := findIdx_ev (l := fun k n i => l0_s_l12Has k n id (i : Int) r) r.1 (fun e => e.1 == id) (fun i => ((i : Nat) : Int)) (-1) (fun i hi => ⟨0, fun k _ n => by
    simp only [l0_s_l12Has, b0_s_l12Has, Int.ofNat_lt, hi, Int.natCast_nonneg, decide_true, br_true, gd_true, Int.toNat_natCast, rd_at, idx_succ hi (by omega)]⟩) ⟨0, fun k _ n => by
    simp only [l0_s_l12Has, b0_s_l12Has, Int.lt_irrefl, decide_false, br_false]⟩
  exact this
theorem hasE_spec (es : List TEvent) (id : Int) : (hasE es id = -1 ∧ ∀ e ∈ es, e.1 ≠ id) ∨ (∃ i : Nat, i < es.length ∧ hasE es id = i ∧ (rd dTEvent es i).1 = id ∧ ∀ j, j < i → (rd dTEvent es j).1 ≠ id) := by
  unfold hasE
  by_cases h : es.findIdx (fun e => e.1 == id) < es.length
  · rw [if_pos h]
    refine .inr ⟨_, h, rfl, ?_, fun j hj => ?_⟩
    · rw [rd_at h]
      have := List.findIdx_getElem (w := h)
      simpa using this
    · have := List.not_of_lt_findIdx hj
      rw [rd_at (Nat.lt_trans hj h)]
      simpa using this
  · rw [if_neg h]
    refine .inl ⟨rfl, fun e he g => h ?_⟩
    exact List.findIdx_lt_length_of_exists ⟨e, he, by simp [g]⟩
def moreD (es : List TEvent) (m : Int) (p : Int) : Int := if hasE es p ≥ 0 ∧ (rd dTEvent es (hasE es p).toNat).2.2.2.2.2.2.2.2.1 > m then (rd dTEvent es (hasE es p).toNat).2.2.2.2.2.2.2.2.1 else m
def mostD (es : List TEvent) (prev : List Int) : Int := prev.foldl (moreD es) (-1)
def depthOf (es : List TEvent) (prev : List Int) : Int := if mostD es prev > 1000000 then 1000001 else mostD es prev + 1
theorem foldl_take {α β : Type} (f : β → α → β) (d : α) (xs : List α) (b : β) {i : Nat} (h : i < xs.length) : (xs.take (i + 1)).foldl f b = f ((xs.take i).foldl f b) (rd d xs i) := by
  rw [List.take_add_one, List.getElem?_eq_getElem h, rd_at h, List.foldl_append]
  rfl
theorem moreD_ge (es : List TEvent) : ∀ (prev : List Int) (m : Int), m ≤ prev.foldl (moreD es) m
  | [], m => Int.le_refl m
  | p :: ps, m => by
    rw [List.foldl_cons]
    have : m ≤ moreD es m p := by unfold moreD; split <;> omega
    exact Int.le_trans this (moreD_ge es ps _)
theorem s_DepthOf_ev (r : TRoom) (h : r.1.length ≤ 1048576) (prev : List Int) (hp : prev.length ≤ 1048576) : Ev (fun k => s_DepthOf k r prev) (depthOf r.1 prev) := by
  refine Re.eq (Re.enter (f := fun k n => l0_s_DepthOf k n prev (-1) 0 r) among_nat ?_)
  have := Re.loop (ι := Nat) (l := fun k n (i : Nat) => l0_s_DepthOf k n prev ((prev.take i).foldl (moreD r.1) (-1)) (i : Int) r) (I := fun i => i ≤ prev.length) (fun i => prev.length - i) (Q := fun _ v => v = depthOf r.1 prev) (fun i hi ih => by
    simp only [l0_s_DepthOf, b0_s_DepthOf]
    refine Re.brd (fun q => ?_) (fun q => ?_)
    · have hl : i < prev.length := by omega
      refine Re.gdd (by omega) (Re.gdd q ?_)
      rw [Int.toNat_natCast]
      refine Re.c2 (s_l12Has_ev r h _) ?_
      have hf := foldl_take (moreD r.1) 0 prev (-1) hl
      have next := ih (i + 1) (by omega) (by omega)
      rw [hf] at next
      rw [idx_succ hl (by omega)]
      generalize (prev.take i).foldl (moreD r.1) (-1) = m at next ⊢
      have hs := hasE_spec r.1 (rd 0 prev i)
      refine Re.brd (fun g => ?_) (fun g => ?_)
      · have hlt : hasE r.1 (rd 0 prev i) < r.1.length := by
          rcases hs with ⟨e, _⟩ | ⟨j, hj, e, _⟩ <;> omega
        refine Re.gdd (by omega) (Re.gdd hlt ?_)
        refine Re.brd (fun g2 => Re.gdd (by omega) (Re.gdd hlt ?_)) (fun g2 => ?_)
        · unfold moreD at next; rw [if_pos ⟨g, g2⟩] at next; exact next
        · unfold moreD at next; rw [if_neg (fun x => g2 x.2)] at next; exact next
      · unfold moreD at next; rw [if_neg (fun x => g x.1)] at next; exact next
    · have e : prev.take i = prev := List.take_of_length_le (by omega)
      rw [e]
      have hge := moreD_ge r.1 prev (-1)
      unfold depthOf mostD
      refine Re.brd (fun g => Re.ret (by rw [if_pos g])) (fun g => Re.ret ?_)
      rw [if_neg g, w64_eq (by omega) (by omega)]) 0 (Nat.zero_le _)
  exact this
def named (es : List TEvent) (id : Int) : Bool := es.any fun f => decide (id ∈ f.2.2.2.2.2.2.2.1)
def endStep (es : List TEvent) (a : List Int) (e : TEvent) : List Int := bif named es e.1 then a else addL a e.1
def endsL (es : List TEvent) : List Int := es.foldl (endStep es) []
theorem endStep_length (es : List TEvent) : ∀ (xs : List TEvent) (a : List Int), (xs.foldl (endStep es) a).length ≤ a.length + xs.length
  | [], a => by simp
  | x :: xs, a => by
    rw [List.foldl_cons]
    have h1 := endStep_length es xs (endStep es a x)
    have h2 : (endStep es a x).length ≤ a.length + 1 := by
      unfold endStep
      have := addL_length a x.1
      cases named es x.1 <;> simp <;> omega
    simp; omega
/-- The events' sizes. -/
def PrevS (es : List TEvent) : Prop := es.length ≤ 1048576 ∧ ∀ i, i < es.length → (rd dTEvent es i).2.2.2.2.2.2.2.1.length ≤ 1048576
theorem s_EndsOf_ev (r : TRoom) (h : PrevS r.1) : Ev (fun k => s_EndsOf k r) (endsL r.1) := by
  obtain ⟨h1, h2⟩ := h
  refine Re.eq (Re.enter (f := fun k n => l0_s_EndsOf k n 0 r []) among_nat ?_)
  have := Re.wf (l := fun k n (s : Nat ⊕ (Nat × Nat × Bool)) => match s with
      | .inl i => l0_s_EndsOf k n (i : Int) r ((r.1.take i).foldl (endStep r.1) [])
      | .inr (i, j, b) => l1_s_EndsOf k n (i : Int) b (j : Int) r ((r.1.take i).foldl (endStep r.1) []))
    (I := fun s => match s with
      | .inl i => i ≤ r.1.length
      | .inr (i, j, b) => i < r.1.length ∧ j ≤ r.1.length ∧ b = (r.1.take j).any fun f => decide ((rd dTEvent r.1 i).1 ∈ f.2.2.2.2.2.2.2.1))
    (fun s => match s with | .inl i => (r.1.length - i, 0) | .inr (i, j, _) => (r.1.length - (i + 1), r.1.length + 1 - j)) (Q := fun _ v => v = endsL r.1) (fun s hi ih => by
    rcases s with i | ⟨i, j, b⟩
    · simp only at hi ih ⊢
      simp only [z0_s_EndsOf, b0_s_EndsOf]
      refine Re.brd (fun q => ?_) (fun q => Re.ret ?_)
      · exact ih (.inr (i, 0, false)) ⟨by omega, Nat.zero_le _, by simp⟩ (.inl (by simp only; omega))
      · rw [List.take_of_length_le (by omega)]; rfl
    · obtain ⟨h3, h4, h5⟩ := hi
      simp only at ih ⊢
      have hlen := endStep_length r.1 (r.1.take i) []
      have hlen2 : ((r.1.take i).foldl (endStep r.1) []).length ≤ 1048576 := by simp at hlen; omega
      have hf := foldl_take (endStep r.1) dTEvent r.1 [] h3
      simp only [z1_s_EndsOf, b1_s_EndsOf]
      refine Re.brd (fun q => ?_) (fun q => ?_)
      · have hj : j < r.1.length := by omega
        have e1 : w64 ((j : Int) + 1) = ((j + 1 : Nat) : Int) := idx_succ hj (by omega)
        have ht : (r.1.take (j + 1)).any (fun f => decide ((rd dTEvent r.1 i).1 ∈ f.2.2.2.2.2.2.2.1)) = (b || decide ((rd dTEvent r.1 i).1 ∈ (rd dTEvent r.1 j).2.2.2.2.2.2.2.1)) := by
          rw [List.take_add_one, List.getElem?_eq_getElem hj, rd_at hj, List.any_append, h5, rd_at h3]
          simp
        have next := ih (.inr (i, j + 1, b || decide ((rd dTEvent r.1 i).1 ∈ (rd dTEvent r.1 j).2.2.2.2.2.2.2.1))) ⟨h3, by omega, ht.symm⟩ (.inr ⟨rfl, by simp only; omega⟩)
        rw [e1]
        cases b with
        | true =>
          rw [Bool.true_or] at next
          exact next
        | false =>
          refine Re.br (b := false) (fun h => by cases h) (fun _ => ?_)
          refine Re.gdd (by omega) (Re.gdd q (Re.gdd (by omega) (Re.gdd (by omega) ?_)))
          simp only [Int.toNat_natCast]
          refine Re.c2 (s_l05In_ev _ (h2 j hj) _) ?_
          rw [Bool.false_or] at next
          exact next
      · have ej : r.1.take j = r.1 := List.take_of_length_le (by omega)
        rw [ej] at h5
        have next := ih (.inl (i + 1)) (by simp only; omega) (.inr ⟨rfl, by simp only; omega⟩)
        simp only [hf] at next
        rw [idx_succ h3 (by omega)]
        have hn : named r.1 (rd dTEvent r.1 i).1 = b := h5.symm
        cases b with
        | true =>
          refine Re.br (b := false) (fun h => by cases h) (fun _ => ?_)
          unfold endStep at next
          rw [hn] at next
          exact next
        | false =>
          refine Re.br (b := true) (fun _ => ?_) (fun h => by cases h)
          refine Re.gdd (by omega) (Re.gdd (by omega) ?_)
          simp only [Int.toNat_natCast]
          refine Re.c2 (s_l11Add_ev _ (by omega) _) ?_
          unfold endStep at next
          rw [hn] at next
          exact next) (.inl 0) (Nat.zero_le _)
  exact this
end Go.Vm
