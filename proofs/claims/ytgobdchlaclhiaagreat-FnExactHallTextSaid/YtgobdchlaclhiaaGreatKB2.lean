/- Plain laws. -/
import Derived.Test.YtgobdchlaclhiaaGreatKA2
set_option linter.unusedVariables false
set_option linter.unusedSimpArgs false
namespace Go.Vm
open Go
/-! ### Right halls -/
/-- A loop that looks at one after the other, till one isn't right. -/
theorem all_loop {l : Nat → Nat → Nat → Option Bool} {N : Nat} (c : Nat → Bool) {V : Bool}
    (step : ∀ i, i < N → ∀ v, (c i = true → Re (fun x : Nat × Nat => l x.1 x.2 (i + 1)) (fun r => r = v)) → (c i = false → false = v) → Re (fun x : Nat × Nat => l x.1 (x.2 + 1) i) (fun r => r = v))
    (fin : Re (fun x : Nat × Nat => l x.1 (x.2 + 1) N) (fun r => r = V)) : Re (fun x : Nat × Nat => l x.1 x.2 0) (fun r => r = (allN N c && V)) := by
  have := Re.loop (ι := Nat) (l := l) (I := fun i => i ≤ N ∧ ∀ j, j < i → c j = true) (fun i => N - i) (Q := fun _ r => r = (allN N c && V)) (fun i hi ih => by
    obtain ⟨g1, g2⟩ := hi
    by_cases q : i < N
    · refine step i q _ (fun h => ih (i + 1) ⟨by omega, fun j hj => ?_⟩ (by omega)) fun h => ?_
      · by_cases q2 : j < i
        · exact g2 j q2
        · have : j = i := by omega
          rw [this]; exact h
      · have : allN N c = false := by
          cases ha : allN N c with
          | false => rfl
          | true => rw [allN_iff.1 ha i q] at h; cases h
        rw [this]; rfl
    · have e : i = N := by omega
      subst e
      have : allN i c = true := allN_iff.2 g2
      rw [this, Bool.true_and]
      exact fin) 0 ⟨Nat.zero_le _, fun j hj => by omega⟩
  exact this
def cSes (ss : List TSession) (i : Nat) : Bool :=
  inR (rd dTSession ss i).1 1 1000000 && (inR (rd dTSession ss i).2.1 0 1000000 && (!decide ((((rd dTSession ss i).2.2.1.size : Nat) : Int) > 40) && (!((rd dTSession ss i).2.1 == 0 && !((rd dTSession ss i).2.2.1.toList == (⟨#[]⟩ : ByteArray).toList)) && !(decide ((i : Int) > 0) && decide ((rd dTSession ss (i - 1)).1 ≥ (rd dTSession ss i).1)))))
def cOut (os : List TOut) (own : List Int) (i : Nat) : Bool :=
  !((rd dTOut os i).1 != ((i + 1 : Nat) : Int)) && (decide ((rd dTOut os i).2.2.1 = own) && inR (rd dTOut os i).2.1 0 (own.length : Int))
def fwdTo (r : TRoom) : Nat → List Int
  | 0 => []
  | i + 1 => if Int.tmod (rd dTEvent r.1 i).1 2 = 0 ∧ rd false r.2.2.1 i = true then fwdTo r i ++ [(rd dTEvent r.1 i).1] else fwdTo r i
theorem fwdTo_len (r : TRoom) : ∀ i, (fwdTo r i).length ≤ i
  | 0 => Nat.le_refl _
  | i + 1 => by
    have := fwdTo_len r i
    unfold fwdTo
    split <;> simp <;> omega
theorem ng2 {a : Int} : (a == a && (2 : Int) == 0) = false := by simp
theorem i_isGood_eq (r : TRoom) (i : Nat) (k : Nat) : i_isGood k r (i : Int) = some (rd false r.2.2.1 i) := by
  unfold i_isGood
  by_cases q2 : (i : Int) < (r.2.2.1.length : Int)
  · rw [decide_eq_true q2, decide_eq_true (by omega)]
    simp [Int.toNat_natCast]
  · rw [decide_eq_false q2]
    have : rd false r.2.2.1 i = false := by simp [rd, List.getElem?_eq_none (show r.2.2.1.length ≤ i by omega)]
    rw [this]; rfl
theorem i_forward_ev (r : TRoom) (h1 : r.1.length ≤ 1048576) : Ev (fun k => i_forward k r) (fwdTo r r.1.length) := by
  refine Re.eq (Re.enter (f := fun k n => l0_i_forward k n r 0 []) among_nat ?_)
  have := Re.loop (ι := Nat) (l := fun k n (i : Nat) => l0_i_forward k n r (i : Int) (fwdTo r i)) (I := fun i => i ≤ r.1.length) (fun i => r.1.length - i) (Q := fun _ v => v = fwdTo r r.1.length) (fun i hi ih => by
    simp only [l0_i_forward, b0_i_forward]
    refine Re.brd (fun g => ?_) (fun g => Re.ret (by rw [show i = r.1.length by omega]))
    have hl : i < r.1.length := by omega
    have hlen := fwdTo_len r i
    rw [idx_succ hl (by omega)]
    simp only [Int.toNat_natCast, ng2]
    have next := ih (i + 1) (by omega) (by omega)
    simp only [fwdTo] at next
    refine Re.gdd (by omega) (Re.gdd g (Re.ng rfl ?_))
    refine Re.bre (fun q => ?_) (fun q => by rw [if_neg fun h => q h.1] at next; exact next)
    refine Re.s2 (i_isGood_eq r i ·) (Re.br (fun q2 => ?_) (fun q2 => ?_))
    · rw [if_pos ⟨q, q2⟩] at next
      exact Re.gdd (by simp [maxRow]; omega) next
    · rw [if_neg fun h => by rw [q2] at h; cases h.2] at next
      exact next) 0 (Nat.zero_le _)
  exact this
theorem s_l13Own_ev (r : TRoom) (h1 : r.1.length ≤ 1048576) (hg : r.2.2.1.length = r.1.length) : Ev (fun k => s_l13Own k r) (fwdTo r r.1.length) := by
  refine Re.eq (Re.enter (f := fun k n => l0_s_l13Own k n 0 r []) among_nat ?_)
  have := Re.loop (ι := Nat) (l := fun k n (i : Nat) => l0_s_l13Own k n (i : Int) r (fwdTo r i)) (I := fun i => i ≤ r.1.length) (fun i => r.1.length - i) (Q := fun _ v => v = fwdTo r r.1.length) (fun i hi ih => by
    simp only [l0_s_l13Own, b0_s_l13Own]
    refine Re.brd (fun g => ?_) (fun g => Re.ret (by rw [show i = r.1.length by omega]))
    have hl : i < r.1.length := by omega
    have hlen := fwdTo_len r i
    rw [idx_succ hl (by omega)]
    simp only [Int.toNat_natCast, ng2]
    have next := ih (i + 1) (by omega) (by omega)
    simp only [fwdTo] at next
    refine Re.gdd (by omega) (Re.gdd (by omega) (Re.br (fun q2 => ?_) (fun q2 => ?_)))
    · refine Re.gdd (by omega) (Re.gdd g (Re.ng rfl ?_))
      refine Re.bre (fun q => ?_) (fun q => by rw [if_neg fun h => q h.1] at next; exact next)
      rw [if_pos ⟨q, q2⟩] at next
      exact Re.gdd (by omega) (Re.gdd (by omega) (Re.gdd (by simp [maxRow]; omega) next))
    · rw [if_neg fun h => by rw [q2] at h; cases h.2] at next
      exact next) 0 (Nat.zero_le _)
  exact this
noncomputable def hallOk (h : THall) : Bool := !decide ((h.1.length : Int) > 3) && (!((h.2.2.1.length : Int) != 2) && (roomOk h.2.1 && (allN h.1.length (cSes h.1) && (allN h.2.2.1.length (cOut h.2.2.1 (fwdTo h.2.1 h.2.1.1.length)) && true))))
theorem hall_parts {h : THall} (hm : m_Hall h ≤ 1048576) : m_Room h.2.1 ≤ 1048576 ∧ h.1.length ≤ 1048576 ∧ h.2.2.1.length ≤ 1048576 ∧ h.2.1.1.length ≤ 1048576 ∧ ∀ i, i < h.2.2.1.length → (rd dTOut h.2.2.1 i).2.2.1.length ≤ 1048576 := by
  unfold m_Hall m_SessionS m_OutS at hm
  refine ⟨by omega, by omega, by omega, ?_, fun i hi => ?_⟩
  · unfold m_Room m_EventS at hm; omega
  · have : rd dTOut h.2.2.1 i ∈ h.2.2.1 := by rw [rd_at hi]; exact List.getElem_mem _
    have := mem_sum m_Out this
    have e : m_Out (rd dTOut h.2.2.1 i) = (rd dTOut h.2.2.1 i).2.2.1.length + 0 := rfl
    omega
theorem roomOk_room {r : TRoom} (h : roomOk r = true) : RoomI r := by
  unfold roomOk at h
  rw [Bool.and_eq_true, Bool.and_eq_true] at h
  have := eqd_iff.1 h.2.2
  rw [← this]
  exact roomGo_room r.1 noRoomI
theorem i_outs_re (h : THall) (hm : m_Hall h ≤ 1048576) (own : List Int) : Re (fun x : Nat × Nat => l1_i_HallOk x.1 x.2 h 0 own) (fun r => r = (allN h.2.2.1.length (cOut h.2.2.1 own) && true)) := by
  obtain ⟨m1, m2, m3, m4, m5⟩ := hall_parts hm
  refine all_loop (l := fun k n i => l1_i_HallOk k n h (i : Int) own) (cOut h.2.2.1 own) (fun i hi v next no => ?_) ?_
  · simp only [l1_i_HallOk, b1_i_HallOk, Int.toNat_natCast]
    refine Re.brd (fun g => ?_) (fun g => by omega)
    rw [idx_succ hi (by omega)]
    unfold cOut at next no
    refine Re.gdd (by omega) (Re.gdd g (Re.br (fun q => Re.ret (no (by rw [q]; rfl))) (fun q => ?_)))
    rw [q] at next no
    refine Re.c2 (eqInts_dec _ own (m5 i hi)) ?_
    cases q2 : decide ((rd dTOut h.2.2.1 i).2.2.1 = own) with
    | false => rw [q2] at no; exact Re.br (b := true) (fun _ => Re.ret (no rfl)) (fun h => by cases h)
    | true =>
      rw [q2] at next no
      refine Re.br (b := false) (fun h => by cases h) (fun _ => Re.s2 (within_eq · _ _ _) ?_)
      exact Re.br (fun q3 => Re.ret (no (by simpa using q3))) (fun q3 => next (by simpa using q3))
  · simp only [l1_i_HallOk, b1_i_HallOk, Int.lt_irrefl, decide_false, br_false]
    exact Re.ret rfl
theorem s_outs_re (h : THall) (hm : m_Hall h ≤ 1048576) (own : List Int) : Re (fun x : Nat × Nat => l1_s_HallOk x.1 x.2 0 h own) (fun r => r = (allN h.2.2.1.length (cOut h.2.2.1 own) && true)) := by
  obtain ⟨m1, m2, m3, m4, m5⟩ := hall_parts hm
  refine all_loop (l := fun k n i => l1_s_HallOk k n (i : Int) h own) (cOut h.2.2.1 own) (fun i hi v next no => ?_) ?_
  · simp only [l1_s_HallOk, b1_s_HallOk, Int.toNat_natCast]
    refine Re.brd (fun g => ?_) (fun g => by omega)
    rw [idx_succ hi (by omega)]
    unfold cOut at next no
    refine Re.gdd (by omega) (Re.gdd g (Re.br (fun q => Re.ret (no (by rw [q]; rfl))) (fun q => ?_)))
    rw [q] at next no
    refine Re.c2 (seqInts_dec _ own (m5 i hi)) ?_
    cases q2 : decide ((rd dTOut h.2.2.1 i).2.2.1 = own) with
    | false => rw [q2] at no; exact Re.br (b := true) (fun _ => Re.ret (no rfl)) (fun h => by cases h)
    | true =>
      rw [q2] at next no
      refine Re.br (b := false) (fun h => by cases h) (fun _ => Re.s2 (l01In_eq · _ _ _) ?_)
      exact Re.br (fun q3 => Re.ret (no (by simpa using q3))) (fun q3 => next (by simpa using q3))
  · simp only [l1_s_HallOk, b1_s_HallOk, Int.lt_irrefl, decide_false, br_false]
    exact Re.ret rfl
theorem i_ses_re (h : THall) (hm : m_Hall h ≤ 1048576) (hg : roomOk h.2.1 = true) : Re (fun x : Nat × Nat => l0_i_HallOk x.1 x.2 h 0) (fun r => r = (allN h.1.length (cSes h.1) && (allN h.2.2.1.length (cOut h.2.2.1 (fwdTo h.2.1 h.2.1.1.length)) && true))) := by
  obtain ⟨m1, m2, m3, m4, m5⟩ := hall_parts hm
  refine all_loop (l := fun k n i => l0_i_HallOk k n h (i : Int)) (cSes h.1) (fun i hi v next no => ?_) ?_
  · simp only [l0_i_HallOk, b0_i_HallOk, Int.toNat_natCast]
    refine Re.brd (fun g => ?_) (fun g => by omega)
    rw [idx_succ hi (by omega)]
    have tail : ((!(decide ((i : Int) > 0) && decide ((rd dTSession h.1 (i - 1)).1 ≥ (rd dTSession h.1 i).1))) = true → Re (fun x : Nat × Nat => l0_i_HallOk x.1 x.2 h ((i + 1 : Nat) : Int)) (fun r => r = v)) → ((!(decide ((i : Int) > 0) && decide ((rd dTSession h.1 (i - 1)).1 ≥ (rd dTSession h.1 i).1))) = false → false = v) →
        Re (fun x : Nat × Nat => (br (decide ((i : Int) > 0)) (gd (decide (0 ≤ (w64 ((i : Int) - 1)))) (gd (decide ((w64 ((i : Int) - 1)) < (h.1.length : Int))) (br (decide ((rd dTSession h.1 (w64 ((i : Int) - 1)).toNat).1 ≥ (rd dTSession h.1 i).1)) (some false) (l0_i_HallOk x.1 x.2 h ((i + 1 : Nat) : Int))))) (l0_i_HallOk x.1 x.2 h ((i + 1 : Nat) : Int)))) (fun r => r = v) := fun next no => by
      refine Re.brd (fun q => ?_) (fun q => next (by rw [decide_eq_false q]; rfl))
      have e : w64 ((i : Int) - 1) = ((i - 1 : Nat) : Int) := by rw [w64_eq (by omega) (by omega)]; omega
      rw [e]
      simp only [Int.toNat_natCast]
      rw [decide_eq_true q, Bool.true_and] at next no
      refine Re.gdd (by omega) (Re.gdd (by omega) (Re.brd (fun q2 => Re.ret (no (by rw [decide_eq_true q2]; rfl))) (fun q2 => next (by rw [decide_eq_false q2]; rfl))))
    unfold cSes at next no
    refine Re.gdd (by omega) (Re.gdd g (Re.s2 (within_eq · _ _ _) ?_))
    cases ha : inR (rd dTSession h.1 i).1 1 1000000 with
    | false => rw [ha] at no; exact Re.br (b := true) (fun _ => Re.ret (no rfl)) (fun h => by cases h)
    | true =>
      rw [ha] at next no
      refine Re.br (b := false) (fun h => by cases h) (fun _ => Re.s2 (within_eq · _ _ _) ?_)
      cases hb : inR (rd dTSession h.1 i).2.1 0 1000000 with
      | false => rw [hb] at no; exact Re.br (b := true) (fun _ => Re.ret (no rfl)) (fun h => by cases h)
      | true =>
        rw [hb] at next no
        refine Re.br (b := false) (fun h => by cases h) (fun _ => ?_)
        refine Re.brd (fun q => Re.ret (no (by rw [decide_eq_true q]; rfl))) (fun q => ?_)
        rw [decide_eq_false q] at next no
        refine Re.br (fun q1 => ?_) (fun q1 => ?_)
        · rw [q1] at next no
          refine Re.br (fun q2 => Re.ret (no (by rw [q2]; rfl))) (fun q2 => ?_)
          rw [q2] at next no
          exact tail (fun z => next (by rw [z]; rfl)) (fun z => no (by rw [z]; rfl))
        · rw [q1] at next no
          exact tail (fun z => next (by rw [z]; rfl)) (fun z => no (by rw [z]; rfl))
  · simp only [l0_i_HallOk, b0_i_HallOk, Int.lt_irrefl, decide_false, br_false]
    exact Re.c2 (i_forward_ev h.2.1 m4) (i_outs_re h hm _)
theorem s_ses_re (h : THall) (hm : m_Hall h ≤ 1048576) (hg : roomOk h.2.1 = true) : Re (fun x : Nat × Nat => l0_s_HallOk x.1 x.2 0 h) (fun r => r = (allN h.1.length (cSes h.1) && (allN h.2.2.1.length (cOut h.2.2.1 (fwdTo h.2.1 h.2.1.1.length)) && true))) := by
  obtain ⟨m1, m2, m3, m4, m5⟩ := hall_parts hm
  refine all_loop (l := fun k n i => l0_s_HallOk k n (i : Int) h) (cSes h.1) (fun i hi v next no => ?_) ?_
  · simp only [l0_s_HallOk, b0_s_HallOk, Int.toNat_natCast]
    refine Re.brd (fun g => ?_) (fun g => by omega)
    rw [idx_succ hi (by omega)]
    have tail : ((!(decide ((i : Int) > 0) && decide ((rd dTSession h.1 (i - 1)).1 ≥ (rd dTSession h.1 i).1))) = true → Re (fun x : Nat × Nat => l0_s_HallOk x.1 x.2 ((i + 1 : Nat) : Int) h) (fun r => r = v)) → ((!(decide ((i : Int) > 0) && decide ((rd dTSession h.1 (i - 1)).1 ≥ (rd dTSession h.1 i).1))) = false → false = v) →
        Re (fun x : Nat × Nat => (br (decide ((i : Int) > 0)) (gd (decide (0 ≤ (w64 ((i : Int) - 1)))) (gd (decide ((w64 ((i : Int) - 1)) < (h.1.length : Int))) (br (decide ((rd dTSession h.1 (w64 ((i : Int) - 1)).toNat).1 ≥ (rd dTSession h.1 i).1)) (some false) (l0_s_HallOk x.1 x.2 ((i + 1 : Nat) : Int) h)))) (l0_s_HallOk x.1 x.2 ((i + 1 : Nat) : Int) h))) (fun r => r = v) := fun next no => by
      refine Re.brd (fun q => ?_) (fun q => next (by rw [decide_eq_false q]; rfl))
      have e : w64 ((i : Int) - 1) = ((i - 1 : Nat) : Int) := by rw [w64_eq (by omega) (by omega)]; omega
      rw [e]
      simp only [Int.toNat_natCast]
      rw [decide_eq_true q, Bool.true_and] at next no
      refine Re.gdd (by omega) (Re.gdd (by omega) (Re.brd (fun q2 => Re.ret (no (by rw [decide_eq_true q2]; rfl))) (fun q2 => next (by rw [decide_eq_false q2]; rfl))))
    unfold cSes at next no
    refine Re.gdd (by omega) (Re.gdd g (Re.s2 (l01In_eq · _ _ _) ?_))
    cases ha : inR (rd dTSession h.1 i).1 1 1000000 with
    | false => rw [ha] at no; exact Re.br (b := true) (fun _ => Re.ret (no rfl)) (fun h => by cases h)
    | true =>
      rw [ha] at next no
      refine Re.br (b := false) (fun h => by cases h) (fun _ => Re.s2 (l01In_eq · _ _ _) ?_)
      cases hb : inR (rd dTSession h.1 i).2.1 0 1000000 with
      | false => rw [hb] at no; exact Re.br (b := true) (fun _ => Re.ret (no rfl)) (fun h => by cases h)
      | true =>
        rw [hb] at next no
        refine Re.br (b := false) (fun h => by cases h) (fun _ => ?_)
        refine Re.brd (fun q => Re.ret (no (by rw [decide_eq_true q]; rfl))) (fun q => ?_)
        rw [decide_eq_false q] at next no
        refine Re.br (fun q1 => ?_) (fun q1 => ?_)
        · rw [q1] at next no
          refine Re.br (fun q2 => Re.ret (no (by rw [q2]; rfl))) (fun q2 => ?_)
          rw [q2] at next no
          exact tail (fun z => next (by rw [z]; rfl)) (fun z => no (by rw [z]; rfl))
        · rw [q1] at next no
          exact tail (fun z => next (by rw [z]; rfl)) (fun z => no (by rw [z]; rfl))
  · simp only [l0_s_HallOk, b0_s_HallOk, Int.lt_irrefl, decide_false, br_false]
    exact Re.c2 (s_l13Own_ev h.2.1 m4 (roomOk_room hg).gl) (s_outs_re h hm _)
theorem i_HallOkB_ev (h : THall) (hm : m_Hall h ≤ 1048576) : Ev (fun k => i_HallOk k h) (hallOk h) := by
  obtain ⟨m1, m2, m3, m4, m5⟩ := hall_parts hm
  unfold hallOk
  refine Re.eq (Re.brd (fun q => Re.ret (by rw [decide_eq_true q]; rfl)) (fun q => Re.c1 (i_RoomOkB_ev h.2.1 m1) ?_))
  rw [decide_eq_false q]
  cases hr : roomOk h.2.1 with
  | false => exact Re.br (b := true) (fun _ => Re.ret (by rw [Bool.false_and, Bool.and_false]; rfl)) (fun h => by cases h)
  | true =>
    refine Re.br (b := false) (fun h => by cases h) (fun _ => Re.br (fun q2 => Re.ret (by rw [q2]; rfl)) (fun q2 => ?_))
    rw [q2]
    exact Re.enter (f := fun k n => l0_i_HallOk k n h 0) among_nat (i_ses_re h hm hr)
theorem s_HallOkB_ev (h : THall) (hm : m_Hall h ≤ 1048576) : Ev (fun k => s_HallOk k h) (hallOk h) := by
  obtain ⟨m1, m2, m3, m4, m5⟩ := hall_parts hm
  unfold hallOk
  refine Re.eq (Re.brd (fun q => Re.ret (by rw [decide_eq_true q]; rfl)) (fun q => ?_))
  rw [decide_eq_false q]
  refine Re.br (fun q2 => Re.ret (by rw [q2]; rfl)) (fun q2 => Re.c1 (s_RoomOkB_ev h.2.1 m1) ?_)
  rw [q2]
  cases hr : roomOk h.2.1 with
  | false => exact Re.br (b := true) (fun _ => Re.ret rfl) (fun h => by cases h)
  | true =>
    refine Re.br (b := false) (fun h => by cases h) (fun _ => ?_)
    exact Re.enter (f := fun k n => l0_s_HallOk k n 0 h) among_nat (s_ses_re h hm hr)
end Go.Vm
