/- Plain laws. -/
import Derived.Test.YtnkkafeaaogffaaN3
import Derived.Test.YtnkkafeaaogffaaI3
set_option linter.unusedVariables false
set_option linter.unusedSimpArgs false
namespace Go.Vm
open Go
/-! ### Logs -/
def prevT (l : TLog) (i : Nat) : Int := if i = 0 then l.2.1 else (rd dTSession l.2.2.1 (i - 1)).1
def EntsP (l : TLog) : Prop := ∀ i, i < l.2.2.1.length → entryOk (rd dTSession l.2.2.1 i) = true ∧ prevT l i ≤ (rd dTSession l.2.2.1 i).1
def LogP (l : TLog) : Prop := (0 ≤ l.1 ∧ l.1 ≤ 1000000) ∧ (0 ≤ l.2.1 ∧ l.2.1 ≤ 100000) ∧ l.2.2.1.length ≤ 60 ∧ l.1 + l.2.2.1.length ≤ 1000000 ∧ EntsP l
noncomputable def logOk (l : TLog) : Bool := @decide (LogP l) (Classical.propDecidable _)
theorem logOk_iff {l : TLog} : logOk l = true ↔ LogP l := by unfold logOk; exact @decide_eq_true_iff _ (Classical.propDecidable _)
theorem logOk_no {l : TLog} (h : ¬ LogP l) : logOk l = false := by
  cases e : logOk l with
  | false => rfl
  | true => exact absurd (logOk_iff.1 e) h
/-- A log that may be read. -/
def LogS (l : TLog) : Prop := l.2.2.1.length ≤ 1000 ∧ ∀ i, i < l.2.2.1.length → (rd dTSession l.2.2.1 i).2.2.1.size ≤ 1048576
theorem prevT_succ (l : TLog) (i : Nat) : prevT l (i + 1) = (rd dTSession l.2.2.1 i).1 := by unfold prevT; rw [if_neg (by omega)]; rfl
theorem ents_loop {f : Nat → Nat → Nat → Option Bool} {V : Bool} (l : TLog)
    (hs : ∀ i, i < l.2.2.1.length → ((entryOk (rd dTSession l.2.2.1 i) = true ∧ prevT l i ≤ (rd dTSession l.2.2.1 i).1) → Re (fun x : Nat × Nat => f x.1 x.2 (i + 1)) (fun v => v = V)) → (¬ (entryOk (rd dTSession l.2.2.1 i) = true ∧ prevT l i ≤ (rd dTSession l.2.2.1 i).1) → V = false) → Re (fun x : Nat × Nat => f x.1 (x.2 + 1) i) (fun v => v = V))
    (hn : ¬ EntsP l → V = false) (he : EntsP l → Re (fun x : Nat × Nat => f x.1 (x.2 + 1) l.2.2.1.length) (fun v => v = V)) : Re (fun x : Nat × Nat => f x.1 x.2 0) (fun v => v = V) := by
  have := Re.loop (ι := Nat) (l := fun k n i => f k n i) (I := fun i => i ≤ l.2.2.1.length ∧ ∀ j, j < i → entryOk (rd dTSession l.2.2.1 j) = true ∧ prevT l j ≤ (rd dTSession l.2.2.1 j).1) (fun i => l.2.2.1.length - i) (Q := fun _ v => v = V) (fun i hi ih => by
    by_cases h : i < l.2.2.1.length
    · refine hs i h (fun g => ih (i + 1) ⟨by omega, fun j hj => ?_⟩ (by omega)) (fun g => hn fun hr => g (hr i h))
      by_cases hj2 : j < i
      · exact hi.2 j hj2
      · have : j = i := by omega
        subst this; exact g
    · have hi2 : i = l.2.2.1.length := by omega
      subst hi2
      exact he hi.2) 0 ⟨Nat.zero_le _, fun j hj => by omega⟩
  exact this
theorem s_LogOk_ev (l : TLog) (hS : LogS l) : Ev (fun k => s_LogOk k l) (logOk l) := by
  obtain ⟨hl, hz⟩ := hS
  refine Re.eq ?_
  refine Re.s1 (l01In_eq · _ _ _) ?_
  rw [inR_dec]
  refine Re.br (fun h => Re.ret (logOk_no fun hc => by simp [hc.1] at h).symm) (fun h => ?_)
  have h1 : 0 ≤ l.1 ∧ l.1 ≤ 1000000 := by simpa using h
  refine Re.s1 (l01In_eq · _ _ _) ?_
  rw [inR_dec]
  refine Re.br (fun h => Re.ret (logOk_no fun hc => by simp [hc.2.1] at h).symm) (fun h => ?_)
  have h2 : 0 ≤ l.2.1 ∧ l.2.1 ≤ 100000 := by simpa using h
  refine Re.brd (fun h => Re.ret (logOk_no fun hc => by have := hc.2.2.1; omega).symm) (fun h3 => ?_)
  rw [w64_eq (show -9223372036854775808 ≤ l.1 + (l.2.2.1.length : Int) by omega) (by omega)]
  refine Re.brd (fun h => Re.ret (logOk_no fun hc => by have := hc.2.2.2.1; omega).symm) (fun h4 => ?_)
  refine Re.enter (f := fun k n => l0_s_LogOk k n l.2.1 0 l) among_nat ?_
  refine ents_loop (f := fun k n i => l0_s_LogOk k n (prevT l i) (i : Int) l) l (fun i hi ih hf => ?_) (fun g => logOk_no fun hc => g hc.2.2.2.2) (fun g => ?_)
  · simp only [l0_s_LogOk, b0_s_LogOk]
    refine Re.brd (fun _ => ?_) (fun h => absurd (by omega : (i : Int) < l.2.2.1.length) h)
    refine Re.gdd (by omega) (Re.gdd (by omega) ?_)
    rw [Int.toNat_natCast]
    refine Re.c2 (s_EntryOk_ev _ (hz i hi)) ?_
    refine Re.br (fun h => Re.ret (hf fun g => by simp [g.1] at h).symm) (fun h => ?_)
    have he : entryOk (rd dTSession l.2.2.1 i) = true := by simpa using h
    refine Re.gdd (by omega) (Re.gdd (by omega) ?_)
    refine Re.brd (fun h => Re.ret (hf fun g => by have := g.2; omega).symm) (fun h => ?_)
    refine Re.gdd (by omega) (Re.gdd (by omega) ?_)
    have := ih ⟨he, by omega⟩
    rw [prevT_succ] at this
    rw [idx_succ hi (by omega)]
    exact this
  · simp only [l0_s_LogOk, b0_s_LogOk, Int.lt_irrefl, decide_false, br_false]
    exact Re.ret (logOk_iff.2 ⟨h1, h2, by omega, by omega, g⟩).symm
theorem i_LogOk_ev (l : TLog) (hS : LogS l) : Ev (fun k => i_LogOk k l) (logOk l) := by
  obtain ⟨hl, hz⟩ := hS
  refine Re.eq ?_
  refine Re.s1 (within_eq · _ _ _) ?_
  rw [inR_dec]
  refine Re.br (fun h => Re.ret (logOk_no fun hc => by simp [hc.1] at h).symm) (fun h => ?_)
  have h1 : 0 ≤ l.1 ∧ l.1 ≤ 1000000 := by simpa using h
  refine Re.s1 (within_eq · _ _ _) ?_
  rw [inR_dec]
  refine Re.br (fun h => Re.ret (logOk_no fun hc => by simp [hc.2.1] at h).symm) (fun h => ?_)
  have h2 : 0 ≤ l.2.1 ∧ l.2.1 ≤ 100000 := by simpa using h
  refine Re.brd (fun h => Re.ret (logOk_no fun hc => by have := hc.2.2.1; omega).symm) (fun h3 => ?_)
  rw [w64_eq (show -9223372036854775808 ≤ l.1 + (l.2.2.1.length : Int) by omega) (by omega)]
  refine Re.brd (fun h => Re.ret (logOk_no fun hc => by have := hc.2.2.2.1; omega).symm) (fun h4 => ?_)
  refine Re.enter (f := fun k n => l0_i_LogOk k n l.2.1 l 0) among_nat ?_
  refine ents_loop (f := fun k n i => l0_i_LogOk k n (prevT l i) l (i : Int)) l (fun i hi ih hf => ?_) (fun g => logOk_no fun hc => g hc.2.2.2.2) (fun g => ?_)
  · simp only [l0_i_LogOk, b0_i_LogOk]
    refine Re.brd (fun _ => ?_) (fun h => absurd (by omega : (i : Int) < l.2.2.1.length) h)
    refine Re.gdd (by omega) (Re.gdd (by omega) ?_)
    rw [Int.toNat_natCast]
    refine Re.c2 (i_EntryOk_ev _ (hz i hi)) ?_
    refine Re.br (fun h => Re.ret (hf fun g => by simp [g.1] at h).symm) (fun h => ?_)
    have he : entryOk (rd dTSession l.2.2.1 i) = true := by simpa using h
    refine Re.brd (fun h => Re.ret (hf fun g => by have := g.2; omega).symm) (fun h => ?_)
    have := ih ⟨he, by omega⟩
    rw [prevT_succ] at this
    rw [idx_succ hi (by omega)]
    exact this
  · simp only [l0_i_LogOk, b0_i_LogOk, Int.lt_irrefl, decide_false, br_false]
    exact Re.ret (logOk_iff.2 ⟨h1, h2, by omega, by omega, g⟩).symm
/-! ### Draws of logs -/
theorem rd_snoc {α : Type} (d : α) (xs : List α) (y : α) (i : Nat) : rd d (xs ++ [y]) i = if i < xs.length then rd d xs i else if i = xs.length then y else d := by
  unfold rd
  by_cases h : i < xs.length
  · rw [if_pos h]; simp [List.getElem?_append_left h]
  · rw [if_neg h]
    by_cases h2 : i = xs.length
    · subst h2; simp
    · rw [if_neg h2]; simp [List.getElem?_eq_none (show (xs ++ [y]).length ≤ i by simp; omega)]
theorem prevT_snoc (s t : Int) (xs : List TSession) (y : TSession) (i : Nat) (h : i ≤ xs.length) : prevT (s, t, xs ++ [y], ()) i = prevT (s, t, xs, ()) i := by
  unfold prevT
  by_cases h0 : i = 0
  · simp [h0]
  · rw [if_neg h0, if_neg h0]
    simp only [rd_snoc]
    rw [if_pos (by omega)]
/-- Right entries of a log, of no higher term than T. -/
def EntsT (s t : Int) (xs : List TSession) (T : Int) : Prop := EntsP (s, t, xs, ()) ∧ prevT (s, t, xs, ()) xs.length ≤ T ∧ ∀ i, i < xs.length → (rd dTSession xs i).2.2.1.size ≤ 120
theorem entsT_snoc {s t : Int} {xs : List TSession} {T T' : Int} {e : TSession} (h : EntsT s t xs T) (hT : T ≤ T') (h0 : 0 ≤ T') (h1 : T' ≤ 100000) (he : EntR T' e) : EntsT s t (xs ++ [e]) T' := by
  obtain ⟨a, b, c⟩ := h
  obtain ⟨d1, d2, d3⟩ := he
  refine ⟨fun i hi => ?_, ?_, fun i hi => ?_⟩
  · simp only at hi ⊢
    rw [rd_snoc, prevT_snoc s t xs e i (by simp at hi; omega)]
    by_cases q : i < xs.length
    · rw [if_pos q]; exact a i q
    · have : i = xs.length := by simp at hi; omega
      subst this
      rw [if_neg q, if_pos rfl]
      exact ⟨d3 h0 h1, by omega⟩
  · rw [List.length_append, List.length_singleton, prevT_succ]
    simp only [rd_snoc, Nat.lt_irrefl, if_false, if_true]
    omega
  · rw [rd_snoc]
    by_cases q : i < xs.length
    · rw [if_pos q]; exact c i q
    · rw [if_neg q, if_pos (by simp at hi; omega)]; exact d2
/-- A right drawn log. -/
def RightL (l : TLog) : Prop := (0 ≤ l.1 ∧ l.1 ≤ 20) ∧ (0 ≤ l.2.1 ∧ l.2.1 ≤ 40) ∧ l.2.2.1.length ≤ 20 ∧ EntsT l.1 l.2.1 l.2.2.1 40
theorem RightL.ok {l : TLog} (h : RightL l) : LogP l := ⟨⟨h.1.1, by have := h.1.2; omega⟩, ⟨h.2.1.1, by have := h.2.1.2; omega⟩, by have := h.2.2.1; omega, by have := h.1.2; have := h.2.2.1; omega, h.2.2.2.1⟩
theorem RightL.small {l : TLog} (h : RightL l) : LogS l := ⟨by have := h.2.2.1; omega, fun i hi => by have := h.2.2.2.2.2 i hi; omega⟩
theorem l06Right_re (c : TL01Cur) (h : CurOk c) : Re (fun k => s_l06Right k c) (fun r => (RightL r.1 ∧ r.1.2.2.1.length ≤ 8) ∧ CurOk r.2.1) := by
  refine Re.b1 (below_re _ 3 h) fun r1 h1 => Re.b1 (below_re _ 4 h1.2) fun r2 h2 => Re.b1 (below_re _ 3 h2.2) fun r3 h3 => ?_
  have m1 : 0 ≤ r1.1 ∧ r1.1 ≤ 2 := by obtain ⟨⟨a, b⟩, _⟩ := h1; omega
  have m2 : 0 ≤ r2.1 ∧ r2.1 ≤ 3 := by obtain ⟨⟨a, b⟩, _⟩ := h2; omega
  have m3 : 0 ≤ r3.1 ∧ r3.1 ≤ 2 := by obtain ⟨⟨a, b⟩, _⟩ := h3; omega
  have mm : 0 ≤ r1.1 * r2.1 ∧ r1.1 * r2.1 ≤ 6 := by
    rcases (show r1.1 = 0 ∨ r1.1 = 1 ∨ r1.1 = 2 by omega) with e | e | e <;> rw [e] <;> omega
  have hw : w64 (r1.1 * r2.1) = r1.1 * r2.1 := w64_eq (by omega) (by omega)
  refine Re.enter (f := fun k n => l0_s_l06Right k n r3.1 0 r3.2.1.1 r3.2.1.2.1 r3.2.1.2.2.1 r1 r2 r3 []) among_nat ?_
  have := Re.loop (ι := Nat) (l := fun k n (s : Int × TL01Cur × List TSession) => l0_s_l06Right k n s.1 (s.2.2.length : Int) s.2.1.1 s.2.1.2.1 s.2.1.2.2.1 r1 r2 r3 s.2.2)
    (I := fun s => s.2.2.length ≤ 8 ∧ CurOk s.2.1 ∧ (0 ≤ s.1 ∧ s.1 ≤ 2 + 2 * s.2.2.length) ∧ EntsT (r1.1 * r2.1) r3.1 s.2.2 s.1) (fun s => 8 - s.2.2.length) (Q := fun _ r => (RightL r.1 ∧ r.1.2.2.1.length ≤ 8) ∧ CurOk r.2.1) (fun s hi ih => by
    obtain ⟨T, c, xs⟩ := s
    obtain ⟨i1, i2, i3, i4⟩ := hi
    simp only at i1 i2 i3 i4 ih ⊢
    simp only [l0_s_l06Right, b0_s_l06Right]
    refine Re.b2 (below_re _ 8 i2.eta) fun r4 h4 => ?_
    refine Re.brd (fun q => ?_) (fun q => ?_)
    · have hx : xs.length < 8 := by obtain ⟨⟨a, b⟩, _⟩ := h4; omega
      have e1 : w64 ((xs.length : Int) + 1) = ((xs.length + 1 : Nat) : Int) := by rw [w64_eq (by omega) (by omega)]; rfl
      refine Re.b2 (once_re _ 3 h4.2) fun r5 h5 => ?_
      refine Re.brb (Re.b2 (below_re _ 2 h5) fun r6 h6 => ?_) ?_
      · have m6 : 0 ≤ r6.1 ∧ r6.1 ≤ 1 := by obtain ⟨⟨a, b⟩, _⟩ := h6; omega
        rw [show w64 (w64 (T + 1) + r6.1) = T + 1 + r6.1 by rw [w64_eq (show -9223372036854775808 ≤ T + 1 by omega) (by omega)]; exact w64_eq (by omega) (by omega)]
        refine Re.b2 (l05Right_re _ h6.2 _) fun r7 h7 => Re.gdd (by simp [maxRow]; omega) ?_
        rw [e1]
        have := ih (T + 1 + r6.1, r7.2.1, xs ++ [r7.1]) ⟨by simp; omega, h7.2, by simp; omega, entsT_snoc i4 (by omega) (by omega) (by omega) h7.1⟩ (by simp; omega)
        simpa using this
      · refine Re.b2 (l05Right_re _ h5 _) fun r7 h7 => Re.gdd (by simp [maxRow]; omega) ?_
        rw [e1]
        have := ih (T, r7.2.1, xs ++ [r7.1]) ⟨by simp; omega, h7.2, by simp; omega, entsT_snoc i4 (by omega) (by omega) (by omega) h7.1⟩ (by simp; omega)
        simpa using this
    · rw [hw]
      exact Re.ret ⟨⟨⟨⟨mm.1, by simp only; omega⟩, ⟨m3.1, by simp only; omega⟩, by simp only; omega, ⟨i4.1, by have := i4.2.1; simp only; omega, i4.2.2⟩⟩, i1⟩, h4.2⟩) (r3.1, r3.2.1, []) ⟨by simp, h3.2, by simp; omega, ⟨fun i hi => absurd hi (by simp), by show r3.1 ≤ r3.1; omega, fun i hi => absurd hi (by simp)⟩⟩
  exact this
/-- A drawn log: small. -/
def AnyL (l : TLog) : Prop := (-1 ≤ l.1 ∧ l.1 ≤ 1000001) ∧ l.2.2.1.length ≤ 70 ∧ ∀ i, i < l.2.2.1.length → (rd dTSession l.2.2.1 i).2.2.1.size ≤ 121
theorem AnyL.small {l : TLog} (h : AnyL l) : LogS l := ⟨by have := h.2.1; omega, fun i hi => by have := h.2.2 i hi; omega⟩
theorem RightL.any {l : TLog} (h : RightL l) : AnyL l := ⟨⟨by have := h.1.1; omega, by have := h.1.2; omega⟩, by have := h.2.2.1; omega, fun i hi => by have := h.2.2.2.2.2 i hi; omega⟩
theorem size_snoc {xs : List TSession} {y : TSession} {n : Nat} (h : ∀ i, i < xs.length → (rd dTSession xs i).2.2.1.size ≤ n) (hy : y.2.2.1.size ≤ n) : ∀ i, i < (xs ++ [y]).length → (rd dTSession (xs ++ [y]) i).2.2.1.size ≤ n := fun i hi => by
  rw [rd_snoc]
  by_cases q : i < xs.length
  · rw [if_pos q]; exact h i q
  · rw [if_neg q, if_pos (by simp at hi; omega)]; exact hy
theorem l06Any_re (c : TL01Cur) (h : CurOk c) : Re (fun k => s_l06Any k c) (fun r => AnyL r.1 ∧ CurOk r.2.1) := by
  refine Re.b1 (l06Right_re c h) fun r1 h1 => ?_
  obtain ⟨⟨hr, h8⟩, c1⟩ := h1
  have ha := hr.any
  refine Re.b1 (below_re _ 40 c1) fun r2 h2 => ?_
  refine Re.bre (fun _ => Re.b1 (pickInt_re _ _ h2.2 (List.cons_ne_nil _ _)) fun r h => Re.ret ⟨⟨?_, ha.2.1, ha.2.2⟩, h.2⟩) (fun _ => ?_)
  · have := h.1
    simp only [List.mem_cons, List.not_mem_nil, or_false] at this
    simp only; omega
  refine Re.bre (fun _ => Re.b1 (pickInt_re _ _ h2.2 (List.cons_ne_nil _ _)) fun r h => Re.ret ⟨⟨ha.1, ha.2.1, ha.2.2⟩, h.2⟩) (fun _ => ?_)
  refine Re.bre (fun _ => Re.b1 (l05Any_re _ h2.2) fun r h => Re.gdd (by simp [maxRow]; omega) (Re.ret ⟨⟨ha.1, by simp; omega, size_snoc ha.2.2 h.1⟩, h.2⟩)) (fun _ => ?_)
  refine Re.bre (fun _ => Re.b1 (once_re _ 2 h2.2) fun r6 h6 => ?_) (fun _ => Re.ret ⟨ha, h2.2⟩)
  refine Re.enter (f := fun k n => l0_s_l06Any k n r6 0 r6.2.1.1 r6.2.1.2.1 r6.2.1.2.2.1 r1 []) among_nat ?_
  have := Re.loop (ι := Nat) (l := fun k n (s : TL01Cur × List TSession) => l0_s_l06Any k n r6 (s.2.length : Int) s.1.1 s.1.2.1 s.1.2.2.1 r1 s.2) (I := fun s => s.2.length ≤ 61 ∧ CurOk s.1 ∧ ∀ i, i < s.2.length → (rd dTSession s.2 i).2.2.1.size ≤ 121) (fun s => 61 - s.2.length) (Q := fun _ r => AnyL r.1 ∧ CurOk r.2.1) (fun s hi ih => by
    obtain ⟨c, xs⟩ := s
    obtain ⟨i1, i2, i3⟩ := hi
    simp only at i1 i2 i3 ih ⊢
    simp only [l0_s_l06Any, b0_s_l06Any]
    refine Re.b2 (below_re _ 2 i2.eta) fun r7 h7 => ?_
    have m7 : 0 ≤ r7.1 ∧ r7.1 ≤ 1 := by obtain ⟨⟨a, b⟩, _⟩ := h7; omega
    rw [w64_eq (show -9223372036854775808 ≤ 60 + r7.1 by omega) (by omega)]
    refine Re.brd (fun q => ?_) (fun q => Re.ret ⟨⟨ha.1, by simp only; omega, i3⟩, h7.2⟩)
    have e1 : w64 ((xs.length : Int) + 1) = ((xs.length + 1 : Nat) : Int) := by rw [w64_eq (by omega) (by omega)]; rfl
    rw [e1]
    refine Re.brb ?_ ?_
    · refine Re.b2 (long_re 120 66 (by omega) (by omega)) fun r8 h8 => Re.gdd (by simp [maxRow]; omega) ?_
      have := ih (r7.2.1, xs ++ [(r1.1.2.1, 3, r8, ())]) ⟨by simp; omega, h7.2, size_snoc i3 (by simp only; omega)⟩ (by simp; omega)
      simpa using this
    · refine Re.gdd (by simp [maxRow]; omega) ?_
      have := ih (r7.2.1, xs ++ [(r1.1.2.1, 1, ByteArray.empty, ())]) ⟨by simp; omega, h7.2, size_snoc i3 (by show (0 : Nat) ≤ 121; omega)⟩ (by simp; omega)
      simpa using this) (r6.2.1, []) ⟨by simp, h6, fun i hi => absurd hi (by simp)⟩
  exact this
theorem logLast_ev (l : TLog) (h : AnyL l) : ∀ k, s_LogLast k l = some (l.1 + (l.2.2.1.length : Int), prevT l l.2.2.1.length) := fun k => by
  obtain ⟨h1, h2, _⟩ := h
  unfold s_LogLast prevT
  by_cases h0 : l.2.2.1.length = 0
  · rw [if_pos h0, h0]
    simp
  · rw [if_neg h0, beq_ne0 (show (l.2.2.1.length : Int) ≠ 0 by omega), br_false, idx_pred (by omega) (by omega)]
    rw [decide_eq_true (by omega), gd_true, decide_eq_true (by omega), gd_true, w64_eq (by omega) (by omega)]
    rfl
theorem place_re (c : TL01Cur) (h : CurOk c) (n : Int) : Re (fun k => s_l01Place k c n) (fun r => CurOk r.2.1) := by
  refine Re.b1 (once_re _ 15 h) fun r1 h1 => ?_
  exact Re.brb (Re.b1 (pickInt_re _ _ h1 (List.cons_ne_nil _ _)) fun r h => Re.ret h.2) (Re.b1 (below_re _ _ h1) fun r h => Re.ret h.2)
theorem drawLogPut_re (a : List Int) (h : a.length ≤ 1048576) : Re (fun k => s_DrawLogPut k a) (fun r => AnyL r.1 ∧ r.2.2.2.2.1.size ≤ 121) :=
  new_re (l := fun k n v i => l0_s_DrawLogPut k n a v i) (C := fun k c => (bd (s_l06Any k (a, 0, c, ())) fun r1 => (bd (s_LogLast k r1.1) fun r2 => (bd (s_l01Below k r1.2.1 2) fun r3 => (bd (s_l05Right k r3.2.1 (w64 (r2.2 + r3.1))) fun r4 => (bd (s_l01Once k r4.2.1 8) fun r5 => (br r5.1 (bd (s_l05Any k r5.2.1) fun r6 => (bd (s_l01Place k r6.2.1 (w64 ((r1.1.2.2.1.length : Int) + 2))) fun r7 => (some (r1.1, (w64 (r1.1.1 + r7.1)), r6.1)))) (bd (s_l01Place k r5.2.1 (w64 ((r1.1.2.2.1.length : Int) + 2))) fun r8 => (some (r1.1, (w64 (r1.1.1 + r8.1)), r4.1)))))))))) a h (fun k n v1 v2 => rfl) (fun c hc => by
    refine Re.b1 (l06Any_re _ hc) fun r1 h1 => ?_
    refine Re.s1 (logLast_ev _ h1.1) ?_
    refine Re.b1 (below_re _ 2 h1.2) fun r3 h3 => Re.b1 (l05Right_re _ h3.2 _) fun r4 h4 => Re.b1 (once_re _ 8 h4.2) fun r5 h5 => ?_
    refine Re.brb (Re.b1 (l05Any_re _ h5) fun r6 h6 => Re.b1 (place_re _ h6.2 _) fun r7 h7 => Re.ret ⟨h1.1, h6.1⟩) (Re.b1 (place_re _ h5 _) fun r7 h7 => Re.ret ⟨h1.1, by have := h4.1.2.1; simp only; omega⟩)) _
/-! ### Puts -/
noncomputable def putL (l : TLog) (i : Int) (e : TSession) : TLog × Bool :=
  bif logOk l && (decide (l.1 + 1 ≤ i ∧ i ≤ l.1 + l.2.2.1.length + 1) && logOk (l.1, l.2.1, l.2.2.1.take (i - l.1 - 1).toNat ++ [e], ())) then ((l.1, l.2.1, l.2.2.1.take (i - l.1 - 1).toNat ++ [e], ()), true) else ((0, 0, [], ()), false)
theorem put_small {l : TLog} {e : TSession} (h : AnyL l) (he : e.2.2.1.size ≤ 121) (n : Nat) : LogS (l.1, l.2.1, l.2.2.1.take n ++ [e], ()) := by
  obtain ⟨_, h2, h3⟩ := h
  refine ⟨by simp; omega, fun i hi => ?_⟩
  have := size_snoc (xs := l.2.2.1.take n) (y := e) (n := 1048576) (fun j hj => ?_) (by omega) i hi
  · exact this
  · have hj2 : j < n ∧ j < l.2.2.1.length := by simp at hj; omega
    have : rd dTSession (l.2.2.1.take n) j = rd dTSession l.2.2.1 j := by simp [rd, List.getElem?_take, hj2.1]
    rw [this]
    have := h3 j hj2.2
    omega
theorem s_LogPut_ev (l : TLog) (i : Int) (e : TSession) (h : AnyL l) (he : e.2.2.1.size ≤ 121) : Ev (fun k => s_LogPut k l i e) (putL l i e) := by
  refine Re.eq (Re.c1 (s_LogOk_ev l h.small) ?_)
  unfold putL
  cases ho : logOk l with
  | false => exact Re.ret rfl
  | true =>
    have hp := logOk_iff.1 ho
    obtain ⟨p1, p2, p3, p4, p5⟩ := hp
    simp only [Bool.not_true, br_false, Bool.true_and]
    refine Re.s1 (v := l.1 + (l.2.2.1.length : Int)) (fun k => by unfold s_l06Last; rw [w64_eq (by omega) (by omega)]) ?_
    refine Re.s1 (l01In_eq · _ _ _) ?_
    rw [w64_eq (show -9223372036854775808 ≤ l.1 + 1 by omega) (by omega), w64_eq (show -9223372036854775808 ≤ l.1 + (l.2.2.1.length : Int) + 1 by omega) (by omega), inR_dec]
    refine Re.br (fun q => ?_) (fun q => ?_)
    · have : decide (l.1 + 1 ≤ i ∧ i ≤ l.1 + (l.2.2.1.length : Int) + 1) = false := by
        cases hd : decide (l.1 + 1 ≤ i ∧ i ≤ l.1 + (l.2.2.1.length : Int) + 1) with
        | false => rfl
        | true => rw [hd] at q; cases q
      rw [this]
      exact Re.ret rfl
    have hq : l.1 + 1 ≤ i ∧ i ≤ l.1 + (l.2.2.1.length : Int) + 1 := by simpa using q
    rw [decide_eq_true hq]
    rw [w64_eq (show -9223372036854775808 ≤ i - l.1 by omega) (by omega), w64_eq (show -9223372036854775808 ≤ i - l.1 - 1 by omega) (by omega)]
    refine Re.gdd (by omega) (Re.gdd (by omega) (Re.gdd (by simp [maxRow]; omega) (Re.gdd (by simp [maxRow]; omega) ?_)))
    simp only [List.nil_append, Bool.true_and]
    refine Re.c1 (s_LogOk_ev _ (put_small h he _)) ?_
    cases logOk (l.1, l.2.1, l.2.2.1.take (i - l.1 - 1).toNat ++ [e], ()) <;> exact Re.ret rfl
theorem i_LogPut_ev (l : TLog) (i : Int) (e : TSession) (h : AnyL l) (he : e.2.2.1.size ≤ 121) : Ev (fun k => i_LogPut k l i e) (putL l i e) := by
  refine Re.eq (Re.c1 (i_LogOk_ev l h.small) ?_)
  unfold putL
  cases ho : logOk l with
  | false => exact Re.ret rfl
  | true =>
    have hp := logOk_iff.1 ho
    obtain ⟨p1, p2, p3, p4, p5⟩ := hp
    simp only [Bool.not_true, br_false, Bool.true_and]
    refine Re.s1 (v := l.1 + (l.2.2.1.length : Int)) (fun k => by unfold i_last; rw [w64_eq (by omega) (by omega)]) ?_
    refine Re.s1 (within_eq · _ _ _) ?_
    rw [w64_eq (show -9223372036854775808 ≤ l.1 + 1 by omega) (by omega), w64_eq (show -9223372036854775808 ≤ l.1 + (l.2.2.1.length : Int) + 1 by omega) (by omega), inR_dec]
    refine Re.br (fun q => ?_) (fun q => ?_)
    · have : decide (l.1 + 1 ≤ i ∧ i ≤ l.1 + (l.2.2.1.length : Int) + 1) = false := by
        cases hd : decide (l.1 + 1 ≤ i ∧ i ≤ l.1 + (l.2.2.1.length : Int) + 1) with
        | false => rfl
        | true => rw [hd] at q; cases q
      rw [this]
      exact Re.ret rfl
    have hq : l.1 + 1 ≤ i ∧ i ≤ l.1 + (l.2.2.1.length : Int) + 1 := by simpa using q
    rw [decide_eq_true hq]
    refine Re.s1 (v := l) (fun k => by unfold i_copyLog; rw [decide_eq_true (by unfold maxRow; omega)]; rfl) ?_
    rw [w64_eq (show -9223372036854775808 ≤ i - l.1 by omega) (by omega), w64_eq (show -9223372036854775808 ≤ i - l.1 - 1 by omega) (by omega)]
    refine Re.gdd (by omega) (Re.gdd (by omega) ?_)
    simp only [Nat.zero_add, Bool.true_and, List.length_singleton]
    have e1 : ∀ q, q + 1 ≤ l.2.2.1.length → (app q [e] l.2.2.1).take (q + 1) = l.2.2.1.take q ++ [e] := fun q hq => by
      unfold app
      rw [List.take_append_of_le_length (by simp; omega), List.take_of_length_le (by simp; omega)]
    refine Re.brd (fun q => ?_) (fun q => ?_)
    · rw [e1 _ q]
      refine Re.c1 (i_LogOk_ev _ (put_small h he _)) ?_
      cases logOk (l.1, l.2.1, l.2.2.1.take (i - l.1 - 1).toNat ++ [e], ()) <;> exact Re.ret rfl
    · refine Re.gdd (by simp [maxRow]; omega) ?_
      refine Re.c1 (i_LogOk_ev _ (put_small h he _)) ?_
      cases logOk (l.1, l.2.1, l.2.2.1.take (i - l.1 - 1).toNat ++ [e], ()) <;> exact Re.ret rfl
theorem session_same (x : TSession) : (x.1 == x.1 && (x.2.1 == x.2.1 && (x.2.2.1.toList == x.2.2.1.toList && true))) = true := by simp
theorem FnPuts_ev (a : List Int) : Ev (fun k => l_FnPuts k a) true := by
  refine Re.eq ?_
  simp only [l_FnPuts, g_l_FnPuts]
  refine Re.s1 (v := decide ((a.length : Int) > 1048576)) (fun k => rfl) ?_
  refine Re.brd (fun _ => Re.ret rfl) (fun hl => ?_)
  refine Re.b1 (drawLogPut_re a (by omega)) fun r2 h2 => ?_
  obtain ⟨l, i, e⟩ := r2
  obtain ⟨hA, he⟩ := h2
  simp only at he hA
  refine Re.c1 (i_LogPut_ev l i e hA he) (Re.c1 (s_LogPut_ev l i e hA he) ?_)
  refine Re.br (fun h => by simp at h) (fun _ => ?_)
  cases hq : logOk l && (decide (l.1 + 1 ≤ i ∧ i ≤ l.1 + l.2.2.1.length + 1) && logOk (l.1, l.2.1, l.2.2.1.take (i - l.1 - 1).toNat ++ [e], ())) with
  | false =>
    have e1 : putL l i e = ((0, 0, [], ()), false) := by unfold putL; rw [hq]; rfl
    rw [e1]
    exact Re.ret rfl
  | true =>
    have e1 : putL l i e = ((l.1, l.2.1, l.2.2.1.take (i - l.1 - 1).toNat ++ [e], ()), true) := by unfold putL; rw [hq]; rfl
    rw [e1]
    simp only [Bool.and_eq_true, decide_eq_true_eq] at hq
    obtain ⟨q1, q2, q3⟩ := hq
    obtain ⟨p1, p2, p3, p4, p5⟩ := logOk_iff.1 q1
    have hlen : (l.2.2.1.take (i - l.1 - 1).toNat ++ [e]).length = (i - l.1 - 1).toNat + 1 := by simp; omega
    generalize hm : (i - l.1 - 1).toNat = m at hlen q3 ⊢
    refine Re.br (b := false) (fun h => by cases h) (fun _ => ?_)
    refine Re.s1 (g := fun k => l_last k (l.1, l.2.1, l.2.2.1.take m ++ [e], ())) (v := i) (fun k => by unfold l_last; simp only [hlen]; rw [w64_eq (by omega) (by omega)]; congr 1; omega) ?_
    refine Re.brn (fun h => absurd rfl h) (fun _ => ?_)
    simp only [hlen]
    rw [idx_pred (by omega) (by omega)]
    refine Re.gdd (by omega) (Re.gdd (by omega) ?_)
    have e2 : rd dTSession (l.2.2.1.take m ++ [e]) ((m + 1 - 1 : Nat) : Int).toNat = e := by
      rw [Int.toNat_natCast, rd_snoc, if_neg (by simp; omega), if_pos (by simp; omega)]
    rw [e2, session_same]
    refine Re.br (fun h => by simp at h) (fun _ => ?_)
    refine Re.c1 (s_LogOk_ev _ (put_small hA he m)) ?_
    rw [q3]
    refine Re.br (fun h => by simp at h) (fun _ => ?_)
    refine Re.enter (f := fun k n => l0_l_FnPuts k n 0 (l, i, e) ((l.1, l.2.1, l.2.2.1.take m ++ [e], ()), true)) among_nat ?_
    have := Re.loop (ι := Nat) (l := fun k n (j : Nat) => l0_l_FnPuts k n (j : Int) (l, i, e) ((l.1, l.2.1, l.2.2.1.take m ++ [e], ()), true)) (I := fun j => j ≤ m) (fun j => m - j) (Q := fun _ v => v = true) (fun j hj ih => by
      simp only [l0_l_FnPuts, b0_l_FnPuts, hlen]
      rw [w64_eq (show -9223372036854775808 ≤ (j : Int) + 1 by omega) (by omega)]
      refine Re.brd (fun q => ?_) (fun q => Re.ret rfl)
      have hjm : j < m := by omega
      refine Re.gdd (by omega) (Re.gdd (by omega) (Re.gdd (by omega) (Re.gdd (by omega) ?_)))
      have e3 : rd dTSession (l.2.2.1.take m ++ [e]) ((j : Int)).toNat = rd dTSession l.2.2.1 ((j : Int)).toNat := by
        rw [Int.toNat_natCast, rd_snoc, if_pos (by simp; omega)]
        simp [rd, List.getElem?_take, hjm]
      rw [e3, session_same]
      refine Re.br (fun h => by simp at h) (fun _ => ?_)
      exact ih (j + 1) (by omega) (by omega)) 0 (Nat.zero_le _)
    exact this
/-! ### Terms, what is behind, what is shared -/
def lastOf (l : TLog) : Int := l.1 + l.2.2.1.length
def termAt (l : TLog) (i : Int) : Int := if i = l.1 then l.2.1 else if i < l.1 ∨ i > lastOf l then -1 else (rd dTSession l.2.2.1 (i - l.1 - 1).toNat).1
theorem termAt_eq {l : TLog} {j : Nat} (h : j ≤ l.2.2.1.length) : termAt l (l.1 + j) = prevT l j := by
  unfold termAt prevT lastOf
  by_cases h0 : j = 0
  · subst h0; simp
  · rw [if_neg (by omega), if_neg (by omega), if_neg h0, show (l.1 + (j : Int) - l.1 - 1).toNat = j - 1 by omega]
def Near (l : TLog) (i : Int) : Prop := (-1 ≤ l.1 ∧ l.1 ≤ 2000000) ∧ l.2.2.1.length ≤ 1000 ∧ -1000000000 ≤ i ∧ i ≤ 1000000000
theorem s_LogTerm_eq {l : TLog} {i : Int} (h : Near l i) (k : Nat) : s_LogTerm k l i = some (termAt l i) := by
  obtain ⟨⟨h1, h2⟩, h3, h4, h5⟩ := h
  unfold s_LogTerm s_l06Last termAt lastOf
  rw [w64_eq (show -9223372036854775808 ≤ l.1 + (l.2.2.1.length : Int) by omega) (by omega)]
  by_cases q1 : i = l.1
  · rw [if_pos q1, q1]; simp
  rw [if_neg q1, beq_ne0 q1, br_false]
  by_cases q2 : i < l.1
  · rw [decide_eq_true q2, if_pos (.inl q2)]; rfl
  rw [decide_eq_false q2, br_false, bd_some]
  by_cases q3 : i > l.1 + (l.2.2.1.length : Int)
  · rw [decide_eq_true q3, if_pos (.inr q3)]; rfl
  rw [decide_eq_false q3, br_false, if_neg (by omega), w64_eq (show -9223372036854775808 ≤ i - l.1 by omega) (by omega), w64_eq (show -9223372036854775808 ≤ i - l.1 - 1 by omega) (by omega)]
  rw [decide_eq_true (by omega), decide_eq_true (by omega)]
  rfl
theorem hasEntry_eq {l : TLog} {i : Int} (h : Near l i) (k : Nat) : i_hasEntry k l i = some (decide (l.1 < i ∧ i ≤ lastOf l)) := by
  obtain ⟨⟨h1, h2⟩, h3, h4, h5⟩ := h
  unfold i_hasEntry lastOf
  by_cases q : i > l.1
  · rw [decide_eq_true q, br_true, within_eq, bd_some, w64_eq (show -9223372036854775808 ≤ i - l.1 by omega) (by omega), inR_dec]
    congr 1
    by_cases q2 : i ≤ l.1 + (l.2.2.1.length : Int)
    · rw [decide_eq_true (by omega), decide_eq_true (by omega)]
    · rw [decide_eq_false (by omega), decide_eq_false (by omega)]
  · rw [decide_eq_false q, br_false, decide_eq_false (by omega)]
theorem i_LogTerm_eq {l : TLog} {i : Int} (h : Near l i) (k : Nat) : i_LogTerm k l i = some (termAt l i) := by
  have hh := hasEntry_eq h k
  obtain ⟨⟨h1, h2⟩, h3, h4, h5⟩ := h
  unfold i_LogTerm termAt
  by_cases q1 : i = l.1
  · rw [if_pos q1, q1]; simp
  rw [if_neg q1, beq_ne0 q1, br_false, hh, bd_some]
  by_cases q2 : l.1 < i ∧ i ≤ lastOf l
  · rw [decide_eq_true q2, br_true, if_neg (by omega)]
    unfold lastOf at q2
    rw [w64_eq (show -9223372036854775808 ≤ i - l.1 by omega) (by omega), w64_eq (show -9223372036854775808 ≤ i - l.1 - 1 by omega) (by omega), decide_eq_true (by omega), decide_eq_true (by omega)]
    rfl
  · rw [decide_eq_false q2, br_false, if_pos (by omega)]
noncomputable def goodAt (a b : TLog) (v : Int) : Bool := decide (v < lastOf a) && (decide (v < lastOf b) && eqd (rd dTSession a.2.2.1 (v - a.1).toNat) (rd dTSession b.2.2.1 (v - b.1).toNat))
noncomputable def shN (a b : TLog) : Nat → Int → Int
  | 0, v => v
  | f + 1, v => bif goodAt a b v then shN a b f (v + 1) else v
noncomputable def shared (a b : TLog) : Int := bif logOk a && logOk b then (let s := if b.1 > a.1 then b.1 else a.1; if termAt a s < 0 then -1 else if termAt a s = termAt b s then shN a b 200 s else -1) else -1
theorem session_eqd (x y : TSession) : (x.1 == y.1 && (x.2.1 == y.2.1 && (x.2.2.1.toList == y.2.2.1.toList && true))) = eqd x y := by
  obtain ⟨x1, x2, x3, ⟨⟩⟩ := x
  obtain ⟨y1, y2, y3, ⟨⟩⟩ := y
  rw [Bool.eq_iff_iff, eqd_iff]
  simp only [str_beq]
  simp
theorem LogP.near {l : TLog} (h : LogP l) {i : Int} (h1 : -1000000000 ≤ i) (h2 : i ≤ 1000000000) : Near l i := ⟨⟨by have := h.1.1; omega, by have := h.1.2; omega⟩, by have := h.2.2.1; omega, h1, h2⟩
theorem s_Shared_ev (a b : TLog) (ha : LogS a) (hb : LogS b) : Ev (fun k => s_Shared k a b) (shared a b) := by
  refine Re.eq (Re.c1 (s_LogOk_ev a ha) ?_)
  unfold shared
  cases oa : logOk a with
  | false => exact Re.ret rfl
  | true =>
    refine Re.br (b := false) (fun h => by cases h) (fun _ => Re.c1 (s_LogOk_ev b hb) ?_)
    cases ob : logOk b with
    | false => exact Re.ret rfl
    | true =>
      have pa := logOk_iff.1 oa
      have pb := logOk_iff.1 ob
      have a1 := pa.1; have a3 := pa.2.2.1; have a4 := pa.2.2.2.1
      have b1 := pb.1; have b3 := pb.2.2.1; have b4 := pb.2.2.2.1
      have loop : ∀ s : Int, (a.1 ≤ s ∧ b.1 ≤ s ∧ s ≤ 1000000) → Re (fun k => l0_s_Shared k k s a b) (fun v => v = shN a b 200 s) := by
        intro s hs
        refine Re.enter (f := fun k n => l0_s_Shared k n s a b) among_nat ?_
        have := Re.loop (ι := Nat) (l := fun k n (p : Int × Nat) => l0_s_Shared k n p.1 a b) (I := fun p => (a.1 ≤ p.1 ∧ b.1 ≤ p.1 ∧ p.1 ≤ 1000100) ∧ lastOf a - p.1 ≤ p.2) (fun p => p.2) (Q := fun p v => v = shN a b p.2 p.1) (fun p hi ih => by
          obtain ⟨v, f⟩ := p
          obtain ⟨⟨i1, i2, i3⟩, i4⟩ := hi
          simp only at i1 i2 i3 i4 ih ⊢
          have hla : ∀ k, s_l06Last k a = some (lastOf a) := fun k => by unfold s_l06Last lastOf; rw [w64_eq (by omega) (by omega)]
          have hlb : ∀ k, s_l06Last k b = some (lastOf b) := fun k => by unfold s_l06Last lastOf; rw [w64_eq (by omega) (by omega)]
          simp only [l0_s_Shared, b0_s_Shared, hla, hlb, bd_some]
          have ela : lastOf a = a.1 + a.2.2.1.length := rfl
          have elb : lastOf b = b.1 + b.2.2.1.length := rfl
          have stop : goodAt a b v = false → shN a b f v = v := fun h => by cases f with | zero => rfl | succ f => simp only [shN, h, cond_false]
          refine Re.brd (fun q1 => ?_) (fun q1 => Re.ret (stop (by unfold goodAt; rw [decide_eq_false q1]; rfl)).symm)
          refine Re.brd (fun q2 => ?_) (fun q2 => Re.ret (stop (by unfold goodAt; rw [decide_eq_false q2, Bool.false_and, Bool.and_false])).symm)
          rw [w64_eq (show -9223372036854775808 ≤ v - a.1 by omega) (by omega), w64_eq (show -9223372036854775808 ≤ v - b.1 by omega) (by omega)]
          refine Re.gdd (by omega) (Re.gdd (by omega) (Re.gdd (by omega) (Re.gdd (by omega) ?_)))
          have hg : goodAt a b v = eqd (rd dTSession a.2.2.1 (v - a.1).toNat) (rd dTSession b.2.2.1 (v - b.1).toNat) := by unfold goodAt; rw [decide_eq_true q1, decide_eq_true q2]; rfl
          rw [session_eqd, ← hg]
          refine Re.br (fun q3 => ?_) (fun q3 => Re.ret (stop q3).symm)
          rw [w64_eq (show -9223372036854775808 ≤ v + 1 by omega) (by omega)]
          obtain ⟨g, rfl⟩ : ∃ g, f = g + 1 := ⟨f - 1, by omega⟩
          have := ih (v + 1, g) (by simp only; omega) (by simp only; omega)
          simp only [shN, q3, cond_true]
          exact this) (s, 200) (by simp only [lastOf]; omega)
        exact this
      have rest : ∀ s : Int, (a.1 ≤ s ∧ b.1 ≤ s ∧ s ≤ 1000000) → Re (fun k => bd (s_LogTerm k a s) fun r3 => (br (decide (r3 < 0)) (some (-1)) (bd (s_LogTerm k a s) fun r4 => (bd (s_LogTerm k b s) fun r5 => (br (r4 != r5) (some (-1)) (l0_s_Shared k k s a b)))))) (fun v => v = if termAt a s < 0 then -1 else if termAt a s = termAt b s then shN a b 200 s else -1) := by
        intro s hs
        have na := pa.near (i := s) (by omega) (by omega)
        have nb := pb.near (i := s) (by omega) (by omega)
        refine Re.s1 (s_LogTerm_eq na) ?_
        refine Re.brd (fun h => Re.ret (by rw [if_pos h])) (fun h => ?_)
        refine Re.s1 (s_LogTerm_eq na) (Re.s1 (s_LogTerm_eq nb) ?_)
        rw [if_neg h]
        refine Re.brn (fun q => Re.ret (by rw [if_neg q])) (fun q => ?_)
        rw [if_pos q]
        exact loop s hs
      refine Re.br (b := false) (fun h => by cases h) (fun _ => ?_)
      simp only [Bool.true_and, cond_true]
      refine Re.brd (fun q => ?_) (fun q => ?_)
      · rw [if_pos q]; exact rest b.1 (by omega)
      · rw [if_neg q]; exact rest a.1 (by omega)
theorem i_Shared_ev (a b : TLog) (ha : LogS a) (hb : LogS b) : Ev (fun k => i_Shared k a b) (shared a b) := by
  refine Re.eq (Re.c1 (i_LogOk_ev a ha) ?_)
  unfold shared
  cases oa : logOk a with
  | false => exact Re.ret rfl
  | true =>
    refine Re.br (b := false) (fun h => by cases h) (fun _ => Re.c1 (i_LogOk_ev b hb) ?_)
    cases ob : logOk b with
    | false => exact Re.ret rfl
    | true =>
      have pa := logOk_iff.1 oa
      have pb := logOk_iff.1 ob
      have a1 := pa.1; have a3 := pa.2.2.1; have a4 := pa.2.2.2.1
      have b1 := pb.1; have b3 := pb.2.2.1; have b4 := pb.2.2.2.1
      refine Re.br (b := false) (fun h => by cases h) (fun _ => ?_)
      simp only [Bool.true_and, cond_true]
      have hs : a.1 ≤ (if b.1 > a.1 then b.1 else a.1) ∧ b.1 ≤ (if b.1 > a.1 then b.1 else a.1) ∧ (if b.1 > a.1 then b.1 else a.1) ≤ 1000000 := by split <;> omega
      generalize hse : (if b.1 > a.1 then b.1 else a.1) = s at hs
      have na := pa.near (i := s) (by omega) (by omega)
      have nb := pb.near (i := s) (by omega) (by omega)
      have tneg : ∀ i, LogP a → termAt a i < 0 → termAt a i = -1 := fun i hp h => by
        unfold termAt at h ⊢
        split at h
        · have := hp.2.1.1; omega
        · rename_i q1
          rw [if_neg q1]
          split at h
          · rename_i q2; rw [if_pos q2]
          · rename_i q2
            have hj : (i - a.1 - 1).toNat < a.2.2.1.length := by unfold lastOf at q2; omega
            have := (hp.2.2.2.2 _ hj).1
            have := (entry_kind this).1
            omega
      refine Re.s1 (i_LogTerm_eq na) ?_
      refine Re.bre (fun h => Re.ret (by rw [if_pos (by omega)])) (fun h => ?_)
      refine Re.s1 (i_LogTerm_eq na) (Re.s1 (i_LogTerm_eq nb) ?_)
      rw [if_neg (fun g => h (tneg s pa g))]
      refine Re.brn (fun q => Re.ret (by rw [if_neg q])) (fun q => ?_)
      rw [if_pos q]
      refine Re.enter (f := fun k n => l0_i_Shared k n b a 0) among_nat ?_
      have := Re.loop (ι := Nat) (l := fun k n (p : Nat × Nat) => l0_i_Shared k n b a (p.1 : Int)) (I := fun p => p.1 ≤ 200 ∧ (p.1 = 0 ∨ s + p.1 ≤ lastOf a) ∧ lastOf a - (s + p.1) ≤ p.2) (fun p => p.2) (Q := fun p v => v = shN a b p.2 (s + p.1)) (fun p hi ih => by
        obtain ⟨j, f⟩ := p
        obtain ⟨i1, i3, i2⟩ := hi
        simp only at i1 i2 i3 ih ⊢
        have ela : lastOf a = a.1 + a.2.2.1.length := rfl
        have elb : lastOf b = b.1 + b.2.2.1.length := rfl
        simp only [l0_i_Shared, b0_i_Shared, hse]
        rw [w64_eq (show -9223372036854775808 ≤ s + (j : Int) by omega) (by omega), w64_eq (show -9223372036854775808 ≤ s + (j : Int) + 1 by omega) (by omega), w64_eq (show -9223372036854775808 ≤ s + (j : Int) - a.1 by omega) (by omega), w64_eq (show -9223372036854775808 ≤ s + (j : Int) - b.1 by omega) (by omega)]
        have stop : goodAt a b (s + j) = false → shN a b f (s + j) = s + j := fun h => by cases f with | zero => rfl | succ f => simp only [shN, h, cond_false]
        refine Re.s2 (hasEntry_eq (pa.near (by omega) (by omega))) ?_
        refine Re.brd (fun q1 => ?_) (fun q1 => Re.ret (stop (by unfold goodAt; rw [decide_eq_false (by omega)]; rfl)).symm)
        refine Re.s2 (hasEntry_eq (pb.near (by omega) (by omega))) ?_
        refine Re.brd (fun q2 => ?_) (fun q2 => Re.ret (stop (by unfold goodAt; rw [decide_eq_false (show ¬ s + (j : Int) < lastOf b by omega), Bool.false_and, Bool.and_false])).symm)
        refine Re.gdd (by omega) (Re.gdd (by omega) (Re.gdd (by omega) (Re.gdd (by omega) ?_)))
        have hg : goodAt a b (s + j) = eqd (rd dTSession a.2.2.1 (s + j - a.1).toNat) (rd dTSession b.2.2.1 (s + j - b.1).toNat) := by unfold goodAt; rw [decide_eq_true (by omega), decide_eq_true (by omega)]; rfl
        rw [session_eqd, ← hg]
        refine Re.br (fun q3 => ?_) (fun q3 => Re.ret (stop q3).symm)
        rw [w64_eq (show -9223372036854775808 ≤ (j : Int) + 1 by omega) (by omega)]
        obtain ⟨g, rfl⟩ : ∃ g, f = g + 1 := ⟨f - 1, by omega⟩
        have := ih (j + 1, g) (by simp only; omega) (by simp only; omega)
        simp only [shN, q3, cond_true]
        have e : s + (j : Int) + 1 = s + ((j + 1 : Nat) : Int) := by omega
        rw [e]
        exact this) (0, 200) ⟨by simp only; omega, .inl rfl, by simp only [lastOf]; omega⟩
      simpa using this
theorem shared_comm {a b : TLog} (ha : LogP a) (hb : LogP b) : shared a b = shared b a := by
  have hg : ∀ v, goodAt a b v = goodAt b a v := fun v => by
    rw [Bool.eq_iff_iff]
    unfold goodAt
    simp only [Bool.and_eq_true, eqd_iff]
    exact ⟨fun ⟨x, y, z⟩ => ⟨y, x, z.symm⟩, fun ⟨x, y, z⟩ => ⟨y, x, z.symm⟩⟩
  have hn : ∀ f v, shN a b f v = shN b a f v := fun f => by
    induction f with
    | zero => intro v; rfl
    | succ f ih => intro v; simp only [shN, hg, ih]
  unfold shared
  rw [logOk_iff.2 ha, logOk_iff.2 hb]
  simp only [Bool.and_self, cond_true]
  have e : (if b.1 > a.1 then b.1 else a.1) = (if a.1 > b.1 then a.1 else b.1) := by
    by_cases h : b.1 > a.1
    · rw [if_pos h, if_neg (by omega)]
    · rw [if_neg h]
      by_cases h2 : a.1 > b.1
      · rw [if_pos h2]
      · rw [if_neg h2]; omega
  rw [e, hn]
  generalize (if a.1 > b.1 then a.1 else b.1) = s
  by_cases h1 : termAt a s < 0
  · rw [if_pos h1]
    by_cases h2 : termAt b s < 0
    · rw [if_pos h2]
    · rw [if_neg h2, if_neg (by omega)]
  · rw [if_neg h1]
    by_cases h2 : termAt a s = termAt b s
    · rw [if_pos h2, if_neg (by omega), if_pos h2.symm]
    · rw [if_neg h2]
      by_cases h3 : termAt b s < 0
      · rw [if_pos h3]
      · rw [if_neg h3, if_neg (fun e => h2 e.symm)]
theorem prevT_pos {l : TLog} (h : LogP l) : ∀ i, i ≤ l.2.2.1.length → 0 ≤ prevT l i := fun i hi => by
  unfold prevT
  by_cases h0 : i = 0
  · rw [if_pos h0]; exact h.2.1.1
  · rw [if_neg h0]
    have := (h.2.2.2.2 (i - 1) (by omega)).1
    exact (entry_kind this).1.1
theorem shared_self {a : TLog} (ha : LogP a) : shared a a = lastOf a := by
  have pa1 := ha.1; have pa3 := ha.2.2.1
  unfold shared
  rw [logOk_iff.2 ha]
  simp only [Bool.and_self, cond_true]
  rw [if_neg (show ¬ a.1 > a.1 by omega)]
  have e0 : termAt a a.1 = a.2.1 := by unfold termAt; rw [if_pos rfl]
  rw [if_neg (by rw [e0]; have := ha.2.1.1; omega), if_pos trivial]
  have : ∀ (f : Nat) (v : Int), v ≤ lastOf a → lastOf a - v ≤ f → shN a a f v = lastOf a := fun f => by
    induction f with
    | zero => intro v h1 h2; simp only [shN]; omega
    | succ f ih =>
      intro v h1 h2
      simp only [shN]
      have hg : goodAt a a v = decide (v < lastOf a) := by
        unfold goodAt
        rw [eqd_of rfl, Bool.and_true, Bool.and_self]
      rw [hg]
      by_cases h : v < lastOf a
      · rw [decide_eq_true h, cond_true]; exact ih _ (by omega) (by omega)
      · rw [decide_eq_false h, cond_false]; omega
  exact this 200 a.1 (by unfold lastOf; omega) (by unfold lastOf; omega)
/-- What is shared: all ahead are the same. -/
theorem shN_good (a b : TLog) : ∀ (f : Nat) (s : Int), s ≤ shN a b f s ∧ ∀ v, s ≤ v → v < shN a b f s → goodAt a b v = true := fun f => by
  induction f with
  | zero => intro s; exact ⟨Int.le_refl _, fun v h1 h2 => by simp only [shN] at h2; omega⟩
  | succ f ih =>
    intro s
    simp only [shN]
    cases hg : goodAt a b s with
    | false => exact ⟨Int.le_refl _, fun v h1 h2 => by simp only [cond_false] at h2; omega⟩
    | true =>
      simp only [cond_true]
      obtain ⟨h1, h2⟩ := ih (s + 1)
      refine ⟨by omega, fun v h3 h4 => ?_⟩
      by_cases h5 : v = s
      · rw [h5]; exact hg
      · exact h2 v (by omega) h4
theorem shared_le {a b : TLog} : shared a b = -1 ∨ (LogP a ∧ LogP b ∧ shared a b ≤ lastOf a ∧ ∀ i, a.1 < i → b.1 < i → i ≤ shared a b → termAt a i = termAt b i) := by
  unfold shared
  cases ho : logOk a && logOk b with
  | false => exact .inl rfl
  | true =>
    simp only [Bool.and_eq_true] at ho
    have pa := logOk_iff.1 ho.1
    have pb := logOk_iff.1 ho.2
    simp only [cond_true]
    have hs : a.1 ≤ (if b.1 > a.1 then b.1 else a.1) ∧ b.1 ≤ (if b.1 > a.1 then b.1 else a.1) ∧ ((if b.1 > a.1 then b.1 else a.1) = a.1 ∨ (if b.1 > a.1 then b.1 else a.1) = b.1) := by split <;> omega
    generalize (if b.1 > a.1 then b.1 else a.1) = s at hs
    by_cases h1 : termAt a s < 0
    · rw [if_pos h1]; exact .inl rfl
    rw [if_neg h1]
    by_cases h2 : termAt a s = termAt b s
    · rw [if_pos h2]
      obtain ⟨g1, g2⟩ := shN_good a b 200 s
      refine .inr ⟨pa, pb, ?_, fun i q1 q2 q3 => ?_⟩
      · by_cases h3 : s = shN a b 200 s
        · rw [← h3]
          have h1' := h1
          unfold termAt at h1'
          split at h1'
          · unfold lastOf; omega
          · split at h1'
            · omega
            · omega
        · have := g2 (shN a b 200 s - 1) (by omega) (by omega)
          unfold goodAt at this
          simp only [Bool.and_eq_true, decide_eq_true_eq] at this
          omega
      · have := g2 (i - 1) (by omega) (by omega)
        unfold goodAt at this
        simp only [Bool.and_eq_true, decide_eq_true_eq, eqd_iff] at this
        obtain ⟨t1, t2, t3⟩ := this
        unfold termAt
        rw [if_neg (by omega), if_neg (by omega), if_neg (by omega), if_neg (by omega), show (i - a.1 - 1).toNat = (i - 1 - a.1).toNat by congr 1; omega, show (i - b.1 - 1).toNat = (i - 1 - b.1).toNat by congr 1; omega, t3]
    · rw [if_neg h2]; exact .inl rfl
/-! ### What is behind -/
theorem i_LogBehind_ev {l : TLog} (h : LogP l) (hs : LogS l) {j : Nat} (hj : j ≤ l.2.2.1.length) : Ev (fun k => i_LogBehind k l (l.1 + j) (prevT l j)) (l.1 + j, prevT l j, l.2.2.1.drop j, ()) := by
  have p1 := h.1; have p3 := h.2.2.1
  refine Re.eq (Re.c1 (i_LogOk_ev l hs) ?_)
  rw [logOk_iff.2 h]
  refine Re.br (fun _ => ?_) (fun h => by cases h)
  refine Re.s1 (i_LogTerm_eq (h.near (by omega) (by omega))) ?_
  rw [termAt_eq hj]
  refine Re.bre (fun _ => ?_) (fun h => absurd rfl h)
  refine Re.s1 (v := lastOf l) (fun k => by unfold i_last lastOf; rw [w64_eq (by omega) (by omega)]) ?_
  refine Re.s1 (within_eq · _ _ _) ?_
  rw [inR_yes (by omega) (by unfold lastOf; omega)]
  refine Re.br (fun _ => ?_) (fun h => by cases h)
  rw [w64_eq (show -9223372036854775808 ≤ l.1 + (j : Int) - l.1 by omega) (by omega), show (l.1 + (j : Int) - l.1).toNat = j by omega]
  exact Re.gdd (by omega) (Re.gdd (by omega) (Re.gdd (by simp [maxRow]; omega) (Re.ret rfl)))
theorem i_LogLast_eq {l : TLog} (h1 : -1 ≤ l.1 ∧ l.1 ≤ 2000000) (h2 : l.2.2.1.length ≤ 1000) (k : Nat) : i_LogLast k l = some (l.1 + (l.2.2.1.length : Int), prevT l l.2.2.1.length) := by
  unfold i_LogLast prevT
  by_cases h0 : l.2.2.1.length = 0
  · rw [if_pos h0, h0]
    simp
  · rw [if_neg h0, beq_ne0 (show (l.2.2.1.length : Int) ≠ 0 by omega), br_false, idx_pred (by omega) (by omega)]
    rw [decide_eq_true (by omega), gd_true, decide_eq_true (by omega), gd_true, w64_eq (by omega) (by omega)]
    rfl
theorem rd_drop {α : Type} (d : α) (xs : List α) (j i : Nat) : rd d (xs.drop j) i = rd d xs (j + i) := by simp [rd, List.getElem?_drop]
theorem prevT_drop (l : TLog) (j i : Nat) : prevT (l.1 + j, prevT l j, l.2.2.1.drop j, ()) i = prevT l (j + i) := by
  unfold prevT
  by_cases h0 : i = 0
  · subst h0; rw [if_pos rfl]; rfl
  · rw [if_neg h0, if_neg (show j + i ≠ 0 by omega)]
    simp only [rd_drop]
    rw [show j + (i - 1) = j + i - 1 by omega]
theorem behind_ok {l : TLog} (h : LogP l) {j : Nat} (hj : j ≤ l.2.2.1.length) : LogP (l.1 + j, prevT l j, l.2.2.1.drop j, ()) := by
  have p1 := h.1; have p2 := h.2.1; have p3 := h.2.2.1; have p4 := h.2.2.2.1
  have h0 := prevT_pos h j hj
  have hle : prevT l j ≤ 100000 := by
    unfold prevT
    by_cases q : j = 0
    · rw [if_pos q]; exact p2.2
    · rw [if_neg q]
      exact (entry_kind (h.2.2.2.2 (j - 1) (by omega)).1).1.2
  refine ⟨⟨by simp only; omega, by simp only; omega⟩, ⟨h0, hle⟩, by simp; omega, by simp; omega, fun i hi => ?_⟩
  have hi' : j + i < l.2.2.1.length := by simp at hi; omega
  rw [prevT_drop]
  simp only [rd_drop]
  exact h.2.2.2.2 (j + i) hi'
/-! ### Draws of two logs -/
theorem anyL_cut {l : TLog} (h : AnyL l) (n : Nat) : ∀ i, i < (l.2.2.1.take n).length → (rd dTSession (l.2.2.1.take n) i).2.2.1.size ≤ 121 := fun i hi => by
  have hj2 : i < n ∧ i < l.2.2.1.length := by simp at hi; omega
  have : rd dTSession (l.2.2.1.take n) i = rd dTSession l.2.2.1 i := by simp [rd, List.getElem?_take, hj2.1]
  rw [this]
  exact h.2.2 i hj2.2
theorem s_LogBehind_re {l : TLog} (h : AnyL l) (b t : Int) (hb : -1 ≤ b ∧ b ≤ 1000001) : Re (fun k => s_LogBehind k l b t) AnyL := by
  have hn : AnyL (b, t, [], ()) := ⟨hb, by simp, fun i hi => absurd hi (by simp)⟩
  refine Re.c1 (s_LogOk_ev l h.small) ?_
  refine Re.br (fun ho => ?_) (fun _ => Re.ret hn)
  have hp := logOk_iff.1 ho
  have p1 := hp.1; have p3 := hp.2.2.1
  refine Re.s1 (v := lastOf l) (fun k => by unfold s_l06Last lastOf; rw [w64_eq (by omega) (by omega)]) ?_
  refine Re.s1 (l01In_eq · _ _ _) ?_
  rw [inR_dec]
  refine Re.brd (fun q => ?_) (fun _ => Re.ret hn)
  refine Re.s1 (s_LogTerm_eq (hp.near (by omega) (by omega))) ?_
  refine Re.bre (fun _ => ?_) (fun _ => Re.ret hn)
  unfold lastOf at q
  rw [w64_eq (show -9223372036854775808 ≤ b - l.1 by omega) (by omega)]
  refine Re.gdd (by omega) (Re.gdd (by omega) (Re.gdd (by simp [maxRow]; omega) (Re.ret ⟨hb, by simp; omega, fun i hi => ?_⟩)))
  simp only [List.nil_append, rd_drop] at hi ⊢
  exact h.2.2 _ (by simp at hi; omega)
theorem l06Next_re (c : TL01Cur) (h : CurOk c) (l : TLog) (hr : RightL l) (h8 : l.2.2.1.length ≤ 8) : Re (fun k => s_l06Next k c l) (fun r => AnyL r.1 ∧ CurOk r.2.1) := by
  have ha := hr.any
  have hb := hr.1
  refine Re.s1 (logLast_ev l ha) ?_
  refine Re.b1 (once_re _ 2 h) fun r2 h2 => ?_
  have go : ∀ (T : Int) (c : TL01Cur) (n : Nat), CurOk c → Re (fun k => l0_s_l06Next k k T 0 c.1 c.2.1 c.2.2.1 l (l.2.2.1.take n)) (fun r => AnyL r.1 ∧ CurOk r.2.1) := by
    intro T c n hc
    refine Re.enter (f := fun k m => l0_s_l06Next k m T 0 c.1 c.2.1 c.2.2.1 l (l.2.2.1.take n)) among_nat ?_
    have := Re.loop (ι := Nat) (l := fun k m (s : Int × Nat × TL01Cur × List TSession) => l0_s_l06Next k m s.1 (s.2.1 : Int) s.2.2.1.1 s.2.2.1.2.1 s.2.2.1.2.2.1 l s.2.2.2) (I := fun s => s.2.1 ≤ 3 ∧ s.2.2.2.length ≤ 8 + s.2.1 ∧ CurOk s.2.2.1 ∧ ∀ i, i < s.2.2.2.length → (rd dTSession s.2.2.2 i).2.2.1.size ≤ 121) (fun s => 3 - s.2.1) (Q := fun _ r => AnyL r.1 ∧ CurOk r.2.1) (fun s hi ih => by
      obtain ⟨T, j, c, xs⟩ := s
      obtain ⟨i1, i2, i3, i4⟩ := hi
      simp only at i1 i2 i3 i4 ih ⊢
      have hx : AnyL (l.1, l.2.1, xs, ()) := ⟨⟨by simp only; omega, by simp only; omega⟩, by simp only; omega, i4⟩
      simp only [l0_s_l06Next, b0_s_l06Next]
      refine Re.b2 (below_re _ 4 i3.eta) fun r4 h4 => ?_
      refine Re.brd (fun q => ?_) (fun q => ?_)
      · have hj : j < 3 := by obtain ⟨⟨a, b⟩, _⟩ := h4; omega
        refine Re.b2 (below_re _ 2 h4.2) fun r5 h5 => Re.b2 (l05Right_re _ h5.2 _) fun r6 h6 => Re.gdd (by simp [maxRow]; omega) ?_
        have hs := size_snoc (y := r6.1) i4 (by have := h6.1.2.1; omega)
        have hx2 : AnyL (l.1, l.2.1, xs ++ [r6.1], ()) := ⟨⟨by simp only; omega, by simp only; omega⟩, by simp; omega, hs⟩
        refine Re.s2 (logLast_ev _ hx2) ?_
        have e1 : w64 ((j : Int) + 1) = ((j + 1 : Nat) : Int) := by rw [w64_eq (by omega) (by omega)]; rfl
        rw [e1]
        exact ih (_, j + 1, r6.2.1, xs ++ [r6.1]) ⟨by simp only; omega, by simp; omega, h6.2, hs⟩ (by simp only; omega)
      · refine Re.b2 (once_re _ 4 h4.2) fun r8 h8 => ?_
        refine Re.brb (Re.b2 (below_re _ _ h8) fun r9 h9 => ?_) (Re.ret ⟨hx, h8⟩)
        obtain ⟨⟨g1, g2⟩, g3⟩ := h9
        rw [w64_eq (show -9223372036854775808 ≤ ((xs.length : Nat) : Int) + 1 by omega) (by omega)] at g2
        have e2 : w64 (l.1 + r9.1) = l.1 + r9.1 := w64_eq (by omega) (by omega)
        rw [e2]
        refine Re.s2 (s_LogTerm_eq ⟨⟨by simp only; omega, by simp only; omega⟩, by simp only; omega, by omega, by omega⟩) ?_
        exact Re.b2 (s_LogBehind_re hx _ _ ⟨by omega, by omega⟩) fun r11 h11 => Re.ret ⟨h11, g3⟩) (T, 0, c, l.2.2.1.take n) ⟨by simp only; omega, by simp; omega, hc, anyL_cut ha n⟩
    simpa using this
  refine Re.brb (Re.b1 (below_re _ _ h2) fun r3 h3 => ?_) ?_
  · obtain ⟨⟨g1, g2⟩, g3⟩ := h3
    rw [w64_eq (show -9223372036854775808 ≤ ((l.2.2.1.length : Nat) : Int) + 1 by omega) (by omega)] at g2
    exact Re.gdd g1 (Re.gdd (by omega) (Re.gdd (by simp [maxRow]; omega) (go _ _ _ g3)))
  · exact Re.gdd (by omega) (Re.gdd (by omega) (Re.gdd (by simp [maxRow]; omega) (go _ _ _ h2)))
theorem drawRightLogs_re (a : List Int) (h : a.length ≤ 1048576) : Re (fun k => s_DrawRightLogs k a) (fun r => (RightL r.1 ∧ r.1.2.2.1.length ≤ 8) ∧ AnyL r.2) :=
  new_re (l := fun k n v i => l0_s_DrawRightLogs k n a v i) (C := fun k c => (bd (s_l06Right k (a, 0, c, ())) fun r1 => (bd (s_l06Next k r1.2.1 r1.1) fun r2 => (some (r1.1, r2.1))))) a h (fun k n v1 v2 => rfl) (fun c hc => by
    refine Re.b1 (l06Right_re _ hc) fun r1 h1 => Re.b1 (l06Next_re _ h1.2 _ h1.1.1 h1.1.2) fun r2 h2 => Re.ret ⟨h1.1, h2.1⟩) _
theorem drawPlaces_re (a : List Int) (h : a.length ≤ 1048576) : Re (fun k => s_DrawPlaces k a) (fun r => r.length = 12 ∧ ∀ x ∈ r, 0 ≤ x ∧ x < 10000) := by
  have hc : ∀ v : Int, Re (fun k => bd (s_l01Byte k (a, 0, v, ())) fun r1 => l1_s_DrawPlaces k k 0 r1.2.1.1 r1.2.1.2.1 r1.2.1.2.2.1 []) (fun r => r.length = 12 ∧ ∀ x ∈ r, 0 ≤ x ∧ x < 10000) → True := fun _ _ => trivial
  have tail : ∀ c : TL01Cur, CurOk c → Re (fun x : Nat × Nat => l1_s_DrawPlaces x.1 x.2 0 c.1 c.2.1 c.2.2.1 []) (fun r => r.length = 12 ∧ ∀ x ∈ r, 0 ≤ x ∧ x < 10000) := by
    intro c hc
    have := Re.loop (ι := Nat) (l := fun k n (s : TL01Cur × List Int) => l1_s_DrawPlaces k n (s.2.length : Int) s.1.1 s.1.2.1 s.1.2.2.1 s.2) (I := fun s => s.2.length ≤ 12 ∧ CurOk s.1 ∧ ∀ x ∈ s.2, 0 ≤ x ∧ x < 10000) (fun s => 12 - s.2.length) (Q := fun _ r => r.length = 12 ∧ ∀ x ∈ r, 0 ≤ x ∧ x < 10000) (fun s hi ih => by
      obtain ⟨c, xs⟩ := s
      obtain ⟨i1, i2, i3⟩ := hi
      simp only at i1 i2 i3 ih ⊢
      simp only [l1_s_DrawPlaces, b1_s_DrawPlaces]
      refine Re.brd (fun q => ?_) (fun q => Re.ret ⟨by omega, i3⟩)
      refine Re.b2 (below_re _ 10000 i2.eta) fun r hr => Re.gdd (by simp [maxRow]; omega) ?_
      obtain ⟨⟨g1, g2⟩, g3⟩ := hr
      have e1 : w64 ((xs.length : Int) + 1) = ((xs.length + 1 : Nat) : Int) := by rw [w64_eq (by omega) (by omega)]; rfl
      rw [e1]
      have := ih (r.2.1, xs ++ [r.1]) ⟨by simp; omega, g3, fun x hx => by
        rcases List.mem_append.1 hx with hx | hx
        · exact i3 x hx
        · simp at hx; subst hx; omega⟩ (by simp; omega)
      simpa using this) (c, []) ⟨by simp, hc, fun x hx => by simp at hx⟩
    simpa using this
  refine Re.enter (f := fun k n => l0_s_DrawPlaces k n a (w64 (13101 + (a.length : Int))) 0) among_nat ?_
  have := Re.loop (ι := Nat) (l := fun k n (s : Int × Int) => l0_s_DrawPlaces k n a s.1 s.2) (I := fun s => 0 ≤ s.2 ∧ s.2 ≤ a.length) (fun s => (a.length - s.2).toNat) (Q := fun _ r => r.length = 12 ∧ ∀ x ∈ r, 0 ≤ x ∧ x < 10000) (fun s hi ih => by
    obtain ⟨v1, v2⟩ := s
    simp only at hi
    simp only [l0_s_DrawPlaces, b0_s_DrawPlaces]
    have hcur : CurOk (a, 0, v1, ()) := ⟨Int.le_refl 0, by show (0 : Int) ≤ _; omega, h⟩
    refine Re.brd (fun h1 => ?_) (fun h1 => Re.b2 (byte_re _ hcur) fun r hr => tail _ hr.2)
    refine Re.brd (fun h2 => ?_) (fun h2 => Re.b2 (byte_re _ hcur) fun r hr => tail _ hr.2)
    have e : w64 (v2 + 1) = v2 + 1 := w64_eq (by omega) (by omega)
    refine Re.gdd hi.1 (Re.gdd h1 ?_)
    rw [e]
    exact ih (_, v2 + 1) (by simp only; omega) (by simp only; omega)) (w64 (13101 + (a.length : Int)), 0) ⟨Int.le_refl 0, by simp only; omega⟩
  exact this
theorem FnLogs_ev (a : List Int) : Ev (fun k => l_FnLogs k a) true := by
  refine Re.eq ?_
  simp only [l_FnLogs, g_l_FnLogs]
  refine Re.s1 (v := decide ((a.length : Int) > 1048576)) (fun k => rfl) ?_
  refine Re.brd (fun _ => Re.ret rfl) (fun hl => ?_)
  refine Re.b1 (drawRightLogs_re a (by omega)) fun r2 h2 => ?_
  obtain ⟨l, b⟩ := r2
  obtain ⟨⟨hr, h8⟩, hb⟩ := h2
  simp only at hr h8 hb
  refine Re.b1 (drawPlaces_re a (by omega)) fun r3 h3 => ?_
  obtain ⟨p12, pall⟩ := h3
  have hp := hr.ok
  have hS := hr.small
  have hr1 := hr.1
  refine Re.gdd (by omega) ?_
  have hw : w64 (((l.2.2.1.length : Nat) : Int) + 1) = ((l.2.2.1.length + 1 : Nat) : Int) := by rw [w64_eq (by omega) (by omega)]; rfl
  rw [hw]
  refine Re.ng (by simp; omega) ?_
  have hx := pall (rd 0 r3 0) (by rw [rd_at (show 0 < r3.length by omega)]; exact List.getElem_mem _)
  obtain ⟨j, hj, hj2⟩ : ∃ j : Nat, Int.tmod (rd 0 r3 0) ((l.2.2.1.length + 1 : Nat) : Int) = j ∧ j ≤ l.2.2.1.length := by
    have h1 := Int.tmod_nonneg ((l.2.2.1.length + 1 : Nat) : Int) hx.1
    have h2 := Int.tmod_lt_of_pos (rd 0 r3 0) (show (0 : Int) < ((l.2.2.1.length + 1 : Nat) : Int) by omega)
    exact ⟨(Int.tmod (rd 0 r3 0) ((l.2.2.1.length + 1 : Nat) : Int)).toNat, by omega, by omega⟩
  rw [hj, w64_eq (show -9223372036854775808 ≤ l.1 + (j : Int) by omega) (by omega)]
  refine Re.s1 (i_LogTerm_eq (hp.near (by omega) (by omega))) ?_
  rw [termAt_eq hj2]
  refine Re.c1 (i_LogBehind_ev hp hS hj2) ?_
  refine Re.s1 (i_LogLast_eq (l := l) ⟨by omega, by omega⟩ (by omega)) (Re.s1 (i_LogLast_eq (l := (l.1 + (j : Int), prevT l j, l.2.2.1.drop j, ())) ⟨by simp only; omega, by simp only; omega⟩ (by simp; omega)) ?_)
  refine Re.brn (fun h => absurd rfl h) (fun _ => ?_)
  refine Re.brn (fun h => absurd rfl h) (fun _ => ?_)
  refine Re.brn (fun h => absurd (by simp; omega) h) (fun _ => ?_)
  refine Re.brn (fun h => absurd (by rw [prevT_drop]; simp only [List.length_drop]; rw [show j + (l.2.2.1.length - j) = l.2.2.1.length by omega]) h) (fun _ => ?_)
  refine Re.c1 (i_LogOk_ev _ ⟨by simp; omega, fun i hi => by
    simp only [rd_drop] at hi ⊢
    exact hS.2 _ (by simp at hi; omega)⟩) ?_
  rw [logOk_iff.2 (behind_ok hp hj2)]
  refine Re.br (fun h => by cases h) (fun _ => ?_)
  refine Re.brd (fun h => absurd (prevT_pos hp j hj2) (by omega)) (fun _ => ?_)
  have hlast : ∀ k, l_last k l = some (lastOf l) := fun k => by unfold l_last lastOf; rw [w64_eq (by omega) (by omega)]
  have ela : lastOf l = l.1 + l.2.2.1.length := rfl
  have loop1 : Re (fun x : Nat × Nat => l1_l_FnLogs x.1 x.2 (shared l b) (w64 (l.1 + 1)) (l, b)) (fun v => v = true) := by
    rw [w64_eq (show -9223372036854775808 ≤ l.1 + 1 by omega) (by omega)]
    have hle : shared l b ≤ lastOf l := by
      rcases shared_le (a := l) (b := b) with h | h
      · omega
      · exact h.2.2.1
    have := Re.loop (ι := Nat) (l := fun k n (v : Int) => l1_l_FnLogs k n (shared l b) v (l, b)) (I := fun v => l.1 + 1 ≤ v ∧ v ≤ 2000) (fun v => (2000 - v).toNat) (Q := fun _ v => v = true) (fun v hi ih => by
      obtain ⟨i1, i2⟩ := hi
      simp only [l1_l_FnLogs, b1_l_FnLogs]
      refine Re.brd (fun q => ?_) (fun q => Re.s2 hlast (Re.ret (decide_eq_true (by omega))))
      rw [w64_eq (show -9223372036854775808 ≤ v + 1 by omega) (by omega)]
      have next := ih (v + 1) (by omega) (by omega)
      refine Re.brd (fun q2 => ?_) (fun _ => next)
      rcases shared_le (a := l) (b := b) with h | ⟨ha, hb2, _, h4⟩
      · omega
      refine Re.s2 (i_LogTerm_eq (ha.near (by omega) (by omega))) (Re.s2 (i_LogTerm_eq (hb2.near (by omega) (by omega))) ?_)
      exact Re.brn (fun h => absurd (h4 v (by omega) q2 q) h) (fun _ => next)) (l.1 + 1) ⟨Int.le_refl _, by omega⟩
    exact this
  refine Re.enter (f := fun k n => l0_l_FnLogs k n (l, b) r3 (w64 (l.1 + (j : Int) + 1)) (l.1 + (j : Int), prevT l j, l.2.2.1.drop j, ())) among_nat ?_
  rw [w64_eq (show -9223372036854775808 ≤ l.1 + (j : Int) + 1 by omega) (by omega)]
  have := Re.loop (ι := Nat) (l := fun k n (v : Int) => l0_l_FnLogs k n (l, b) r3 v (l.1 + (j : Int), prevT l j, l.2.2.1.drop j, ())) (I := fun v => l.1 + j + 1 ≤ v ∧ v ≤ 2000) (fun v => (2000 - v).toNat) (Q := fun _ v => v = true) (fun v hi ih => by
    obtain ⟨i1, i2⟩ := hi
    simp only [l0_l_FnLogs, b0_l_FnLogs, hlast, bd_some, hw, hj]
    rw [w64_eq (show -9223372036854775808 ≤ l.1 + (j : Int) by omega) (by omega)]
    refine Re.brd (fun q => ?_) (fun q => ?_)
    · rw [w64_eq (show -9223372036854775808 ≤ v - (l.1 + (j : Int)) by omega) (by omega), w64_eq (show -9223372036854775808 ≤ v - (l.1 + (j : Int)) - 1 by omega) (by omega), w64_eq (show -9223372036854775808 ≤ v - l.1 by omega) (by omega), w64_eq (show -9223372036854775808 ≤ v - l.1 - 1 by omega) (by omega)]
      refine Re.gdd (by omega) (Re.gdd (by simp; omega) (Re.gdd (by omega) (Re.gdd (by omega) ?_)))
      rw [rd_drop, show j + (v - (l.1 + (j : Int)) - 1).toNat = (v - l.1 - 1).toNat by omega, session_same]
      refine Re.br (fun h => by cases h) (fun _ => ?_)
      rw [w64_eq (show -9223372036854775808 ≤ v + 1 by omega) (by omega)]
      exact ih (v + 1) (by omega) (by omega)
    · refine Re.c2 (i_Shared_ev l b hS hb.small) (Re.c2 (s_Shared_ev l b hS hb.small) ?_)
      refine Re.brn (fun h => absurd rfl h) (fun _ => ?_)
      refine Re.c2 (i_Shared_ev b l hb.small hS) ?_
      have hc : shared l b = shared b l := by
        by_cases hlb : LogP b
        · exact shared_comm hp hlb
        · unfold shared
          rw [logOk_no hlb, Bool.and_false, Bool.false_and]
          rfl
      refine Re.brn (fun h => absurd hc h) (fun _ => ?_)
      refine Re.c2 (i_Shared_ev l l hS hS) ?_
      rw [shared_self hp]
      refine Re.brn (fun h => absurd rfl h) (fun _ => ?_)
      exact loop1) (l.1 + j + 1) ⟨Int.le_refl _, by omega⟩
  exact this
end Go.Vm
