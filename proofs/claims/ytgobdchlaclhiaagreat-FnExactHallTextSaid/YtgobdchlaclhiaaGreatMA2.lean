/- Plain laws. -/
import Derived.Test.YtgobdchlaclhiaaGreatKB2
import Derived.Test.YtgobdchlaclhiaaGreatX2
set_option linter.unusedVariables false
set_option linter.unusedSimpArgs false
namespace Go.Vm
open Go
/-! ### A hall's text -/
def accT (a : ByteArray) (f : Nat → ByteArray) : Nat → ByteArray
  | 0 => a
  | i + 1 => accT a f i ++ f i
theorem accT_size (a : ByteArray) (f : Nat → ByteArray) (c : Nat) : ∀ n, (∀ i, i < n → (f i).size ≤ c) → (accT a f n).size ≤ a.size + n * c
  | 0, _ => by simp [accT]
  | n + 1, h => by
    have h1 := accT_size a f c n fun i hi => h i (by omega)
    have h2 := h n (by omega)
    show (accT a f n ++ f n).size ≤ _
    rw [ba_size, Nat.succ_mul]
    omega
theorem nums_app (a b : ByteArray) : numsOf (a ++ b) = numsOf a ++ numsOf b := by simp [numsOf]
def sesT (h : THall) (i : Nat) : ByteArray := (varS (rd dTSession h.1 i).1 ++ varS (rd dTSession h.1 i).2.1) ++ shortS (rd dTSession h.1 i).2.2.1
def evT (h : THall) (i : Nat) : ByteArray := shortS (textS (rd dTEvent h.2.1.1 i))
def outT (h : THall) (i : Nat) : ByteArray := varS (rd dTOut h.2.2.1 i).2.1
def hallA (h : THall) : ByteArray := accT (varS (h.1.length : Int)) (sesT h) h.1.length
def hallB (h : THall) : ByteArray := accT (hallA h ++ varS (h.2.1.1.length : Int)) (evT h) h.2.1.1.length
def hallC (h : THall) : ByteArray := accT (hallB h) (outT h) h.2.2.1.length
noncomputable def hallR (h : THall) : ByteArray × Bool := bif hallOk h then (bif decide (((hallC h).size : Int) > 20000) then (⟨#[]⟩, false) else (hallC h, true)) else (⟨#[]⟩, false)
structure HallF (h : THall) : Prop where
  nS : h.1.length ≤ 3
  ses : ∀ i, i < h.1.length → (1 ≤ (rd dTSession h.1 i).1 ∧ (rd dTSession h.1 i).1 ≤ 1000000) ∧ (0 ≤ (rd dTSession h.1 i).2.1 ∧ (rd dTSession h.1 i).2.1 ≤ 1000000) ∧ (rd dTSession h.1 i).2.2.1.size ≤ 40
  rI : RoomI h.2.1
  nO : h.2.2.1.length ≤ 2
  ack : ∀ i, i < h.2.2.1.length → 0 ≤ (rd dTOut h.2.2.1 i).2.1 ∧ (rd dTOut h.2.2.1 i).2.1 ≤ 40
theorem hallOk_facts {h : THall} (hk : hallOk h = true) : HallF h := by
  unfold hallOk at hk
  simp only [Bool.and_eq_true, Bool.not_eq_true', decide_eq_false_iff_not, Bool.and_true] at hk
  obtain ⟨h1, h2, h3, h4, h5⟩ := hk
  have hI := roomOk_room h3
  have hlen := hI.len
  have hfl := fwdTo_len h.2.1 h.2.1.1.length
  refine ⟨by omega, fun i hi => ?_, hI, ?_, fun i hi => ?_⟩
  · have := allN_iff.1 h4 i hi
    unfold cSes at this
    simp only [Bool.and_eq_true] at this
    obtain ⟨g1, g2, g3, _⟩ := this
    refine ⟨inR_iff.1 g1, inR_iff.1 g2, ?_⟩
    have : ¬ (((rd dTSession h.1 i).2.2.1.size : Nat) : Int) > 40 := by simpa using g3
    omega
  · have : (h.2.2.1.length : Int) = 2 := by simpa using h2
    omega
  · have := allN_iff.1 h5 i hi
    unfold cOut at this
    simp only [Bool.and_eq_true] at this
    have := inR_iff.1 this.2.2
    omega
theorem RoomI.evOk {r : TRoom} (h : RoomI r) {i : Nat} (hi : i < r.1.length) : eventOk (rd dTEvent r.1 i) = true := h.ev _ (by rw [rd_at hi]; exact List.getElem_mem _)
theorem HallF.sizes {h : THall} (hf : HallF h) : (∀ i, i < h.1.length → (sesT h i).size ≤ 60) ∧ (∀ i, i < h.2.1.1.length → (evT h i).size ≤ 1010) ∧ (∀ i, i < h.2.2.1.length → (outT h i).size ≤ 5) ∧
    (∀ i, i ≤ h.1.length → (accT (varS (h.1.length : Int)) (sesT h) i).size ≤ 200) ∧ (∀ i, i ≤ h.2.1.1.length → (accT (hallA h ++ varS (h.2.1.1.length : Int)) (evT h) i).size ≤ 50000) ∧ (∀ i, i ≤ h.2.2.1.length → (accT (hallB h) (outT h) i).size ≤ 60000) := by
  have hl := hf.rI.len
  have hnS := hf.nS
  have hnO := hf.nO
  have s1 : ∀ i, i < h.1.length → (sesT h i).size ≤ 60 := fun i hi => by
    obtain ⟨a, b, c⟩ := hf.ses i hi
    have h1 := varS_size (n := (rd dTSession h.1 i).1) (by omega)
    have h2 := varS_size (n := (rd dTSession h.1 i).2.1) (by omega)
    have h3 := varS_size (n := ((rd dTSession h.1 i).2.2.1.size : Int)) (by omega)
    unfold sesT shortS
    simp only [ba_size]
    omega
  have s2 : ∀ i, i < h.2.1.1.length → (evT h i).size ≤ 1010 := fun i hi => by
    have h1 := text_size (hf.rI.evOk hi)
    have h3 := varS_size (n := ((textS (rd dTEvent h.2.1.1 i)).size : Int)) (by omega)
    unfold evT shortS
    simp only [ba_size]
    omega
  have s3 : ∀ i, i < h.2.2.1.length → (outT h i).size ≤ 5 := fun i hi => by
    have := hf.ack i hi
    exact varS_size (by omega)
  have z1 := varS_size (n := (h.1.length : Int)) (by omega)
  have z2 := varS_size (n := (h.2.1.1.length : Int)) (by omega)
  have s4 : ∀ i, i ≤ h.1.length → (accT (varS (h.1.length : Int)) (sesT h) i).size ≤ 200 := fun i hi => by
    have := accT_size (varS (h.1.length : Int)) (sesT h) 60 i fun j hj => s1 j (by omega)
    omega
  have s5 : ∀ i, i ≤ h.2.1.1.length → (accT (hallA h ++ varS (h.2.1.1.length : Int)) (evT h) i).size ≤ 50000 := fun i hi => by
    have h1 := accT_size (hallA h ++ varS (h.2.1.1.length : Int)) (evT h) 1010 i fun j hj => s2 j (by omega)
    have h2 := s4 h.1.length (Nat.le_refl _)
    have h3 : (hallA h).size ≤ 200 := h2
    rw [ba_size] at h1
    omega
  refine ⟨s1, s2, s3, s4, s5, fun i hi => ?_⟩
  have h1 := accT_size (hallB h) (outT h) 5 i fun j hj => s3 j (by omega)
  have h2 : (hallB h).size ≤ 50000 := s5 h.2.1.1.length (Nat.le_refl _)
  omega
theorem i_VarTextOk {n : Int} (h : 0 ≤ n ∧ n ≤ 1000000000) : Ev (fun k => i_VarText k n) (varS n, true) := by
  rw [← varR_ok h.1 h.2]; exact i_VarText_ev n
theorem i_HallText_ev (h : THall) (hm : m_Hall h ≤ 1048576) : Ev (fun k => i_HallText k h) (hallR h) := by
  refine Re.eq (Re.c1 (i_HallOkB_ev h hm) ?_)
  unfold hallR
  cases hk : hallOk h with
  | false => exact Re.br (b := true) (fun _ => Re.ret rfl) (fun h => by cases h)
  | true =>
    have hf := hallOk_facts hk
    obtain ⟨s1, s2, s3, s4, s5, s6⟩ := hf.sizes
    have hl := hf.rI.len
    have hnS := hf.nS
    have hnO := hf.nO
    have z1 := varS_size (n := (h.2.1.1.length : Int)) (by omega)
    refine Re.br (b := false) (fun h => by cases h) (fun _ => Re.c1 (i_VarTextOk ⟨by omega, by omega⟩) ?_)
    have three : Re (fun x : Nat × Nat => l2_i_HallText x.1 x.2 (hallB h) h 0) (fun r => r = (bif decide (((hallC h).size : Int) > 20000) then (⟨#[]⟩, false) else (hallC h, true))) := by
      have := Re.loop (ι := Nat) (l := fun k n (i : Nat) => l2_i_HallText k n (accT (hallB h) (outT h) i) h (i : Int)) (I := fun i => i ≤ h.2.2.1.length) (fun i => h.2.2.1.length - i) (Q := fun _ r => r = (bif decide (((hallC h).size : Int) > 20000) then (⟨#[]⟩, false) else (hallC h, true))) (fun i hi ih => by
        simp only [l2_i_HallText, b2_i_HallText, Int.toNat_natCast]
        refine Re.brd (fun g => ?_) (fun g => ?_)
        · have hil : i < h.2.2.1.length := by omega
          have ha := hf.ack i hil
          have g1 := s6 i hi
          have g2 : (varS (rd dTOut h.2.2.1 i).2.1).size ≤ 5 := s3 i hil
          rw [idx_succ hil (by omega)]
          refine Re.gdd (by omega) (Re.gdd g (Re.c2 (i_VarTextOk ⟨by omega, by omega⟩) (Re.gdd (by dsimp only; unfold maxRow; omega) ?_)))
          exact ih (i + 1) (by omega) (by omega)
        · have e : i = h.2.2.1.length := by omega
          rw [e]
          show Re (fun _ : Nat × Nat => br (decide (((hallC h).size : Int) > 20000)) _ _) _
          refine Re.br (fun q => Re.ret (by rw [q]; rfl)) (fun q => Re.ret (by rw [q]; rfl))) 0 (Nat.zero_le _)
      exact this
    have two : Re (fun x : Nat × Nat => l1_i_HallText x.1 x.2 (hallA h ++ varS (h.2.1.1.length : Int)) h 0) (fun r => r = (bif decide (((hallC h).size : Int) > 20000) then (⟨#[]⟩, false) else (hallC h, true))) := by
      have := Re.loop (ι := Nat) (l := fun k n (i : Nat) => l1_i_HallText k n (accT (hallA h ++ varS (h.2.1.1.length : Int)) (evT h) i) h (i : Int)) (I := fun i => i ≤ h.2.1.1.length) (fun i => h.2.1.1.length - i) (Q := fun _ r => r = (bif decide (((hallC h).size : Int) > 20000) then (⟨#[]⟩, false) else (hallC h, true))) (fun i hi ih => by
        simp only [l1_i_HallText, b1_i_HallText, Int.toNat_natCast]
        refine Re.brd (fun g => ?_) (fun g => ?_)
        · have hil : i < h.2.1.1.length := by omega
          have ho := hf.rI.evOk hil
          have hme := hf.rI.mE hil
          have g1 := s5 i hi
          have g2 := s2 i hil
          have g3 := text_size ho
          have hT := i_EventText_ev (rd dTEvent h.2.1.1 i) (by omega)
          rw [ho] at hT
          rw [idx_succ hil (by omega)]
          refine Re.gdd (by omega) (Re.gdd g (Re.c2 hT (Re.c2 (i_ShortText_ev _ (by show (textS _).size ≤ _; omega)) (Re.gdd (by show (accT _ _ i).size + (evT h i).size ≤ _; unfold maxRow; omega) ?_))))
          exact ih (i + 1) (by omega) (by omega)
        · have e : i = h.2.1.1.length := by omega
          rw [e]; exact three) 0 (Nat.zero_le _)
      exact this
    refine Re.enter (f := fun k n => l0_i_HallText k n (varS (h.1.length : Int)) h 0) among_nat ?_
    have := Re.loop (ι := Nat) (l := fun k n (i : Nat) => l0_i_HallText k n (accT (varS (h.1.length : Int)) (sesT h) i) h (i : Int)) (I := fun i => i ≤ h.1.length) (fun i => h.1.length - i) (Q := fun _ r => r = (bif decide (((hallC h).size : Int) > 20000) then (⟨#[]⟩, false) else (hallC h, true))) (fun i hi ih => by
      simp only [l0_i_HallText, b0_i_HallText, Int.toNat_natCast]
      refine Re.brd (fun g => ?_) (fun g => ?_)
      · have hil : i < h.1.length := by omega
        obtain ⟨a, b, c⟩ := hf.ses i hil
        have g1 := s4 i hi
        have g2 : ((varS (rd dTSession h.1 i).1 ++ varS (rd dTSession h.1 i).2.1) ++ shortS (rd dTSession h.1 i).2.2.1).size ≤ 60 := s1 i hil
        have g3 := g2
        rw [ba_size] at g3
        rw [idx_succ hil (by omega)]
        refine Re.gdd (by omega) (Re.gdd g (Re.c2 (i_two_ev _ _ ⟨by omega, by omega⟩ ⟨by omega, by omega⟩) (Re.c2 (i_ShortText_ev _ (by omega)) (Re.gdd (by dsimp only; unfold maxRow; omega) (Re.gdd (by dsimp only; unfold maxRow; omega) ?_)))))
        exact ih (i + 1) (by omega) (by omega)
      · have e : i = h.1.length := by omega
        have g1 := s4 i hi
        rw [e] at g1 ⊢
        refine Re.c2 (i_VarTextOk ⟨by omega, by omega⟩) (Re.gdd (by dsimp only; unfold maxRow; omega) two)) 0 (Nat.zero_le _)
    exact this
theorem s_HallText_ev (h : THall) (hm : m_Hall h ≤ 1048576) : Ev (fun k => s_HallText k h) (hallR h) := by
  refine Re.eq (Re.c1 (s_HallOkB_ev h hm) ?_)
  unfold hallR
  cases hk : hallOk h with
  | false => exact Re.br (b := true) (fun _ => Re.ret rfl) (fun h => by cases h)
  | true =>
    have hf := hallOk_facts hk
    obtain ⟨s1, s2, s3, s4, s5, s6⟩ := hf.sizes
    have hl := hf.rI.len
    have hnS := hf.nS
    have hnO := hf.nO
    have z1 := varS_size (n := (h.2.1.1.length : Int)) (by omega)
    refine Re.br (b := false) (fun h => by cases h) (fun _ => Re.c1 (s_l01Var_ev _ (by omega) (by omega)) ?_)
    have three : Re (fun x : Nat × Nat => l2_s_HallText x.1 x.2 0 h (numsOf (hallB h))) (fun r => r = (bif decide (((hallC h).size : Int) > 20000) then (⟨#[]⟩, false) else (hallC h, true))) := by
      have := Re.loop (ι := Nat) (l := fun k n (i : Nat) => l2_s_HallText k n (i : Int) h (numsOf (accT (hallB h) (outT h) i))) (I := fun i => i ≤ h.2.2.1.length) (fun i => h.2.2.1.length - i) (Q := fun _ r => r = (bif decide (((hallC h).size : Int) > 20000) then (⟨#[]⟩, false) else (hallC h, true))) (fun i hi ih => by
        simp only [l2_s_HallText, b2_s_HallText, Int.toNat_natCast]
        refine Re.brd (fun g => ?_) (fun g => ?_)
        · have hil : i < h.2.2.1.length := by omega
          have ha := hf.ack i hil
          have g1 := s6 i hi
          have g2 : (varS (rd dTOut h.2.2.1 i).2.1).size ≤ 5 := s3 i hil
          rw [idx_succ hil (by omega)]
          refine Re.gdd (by omega) (Re.gdd g (Re.c2 (s_l01Var_ev _ (by omega) (by omega)) (Re.gdd (by rw [numsOf_length, numsOf_length]; unfold maxRow; omega) ?_)))
          rw [← nums_app]
          exact ih (i + 1) (by omega) (by omega)
        · have e : i = h.2.2.1.length := by omega
          rw [e]
          show Re (fun _ : Nat × Nat => br (decide (((numsOf (hallC h)).length : Int) > 20000)) _ (some (strOfNums (numsOf (hallC h)), true))) _
          rw [numsOf_length, strOfNums_numsOf]
          refine Re.br (fun q => Re.ret (by rw [q]; rfl)) (fun q => Re.ret (by rw [q]; rfl))) 0 (Nat.zero_le _)
      exact this
    have two : Re (fun x : Nat × Nat => l1_s_HallText x.1 x.2 0 h (numsOf (hallA h ++ varS (h.2.1.1.length : Int)))) (fun r => r = (bif decide (((hallC h).size : Int) > 20000) then (⟨#[]⟩, false) else (hallC h, true))) := by
      have := Re.loop (ι := Nat) (l := fun k n (i : Nat) => l1_s_HallText k n (i : Int) h (numsOf (accT (hallA h ++ varS (h.2.1.1.length : Int)) (evT h) i))) (I := fun i => i ≤ h.2.1.1.length) (fun i => h.2.1.1.length - i) (Q := fun _ r => r = (bif decide (((hallC h).size : Int) > 20000) then (⟨#[]⟩, false) else (hallC h, true))) (fun i hi ih => by
        simp only [l1_s_HallText, b1_s_HallText, Int.toNat_natCast]
        refine Re.brd (fun g => ?_) (fun g => ?_)
        · have hil : i < h.2.1.1.length := by omega
          have ho := hf.rI.evOk hil
          have hme := hf.rI.mE hil
          have g1 := s5 i hi
          have g2 := s2 i hil
          have g3 := text_size ho
          have hT := s_EventText_ev (rd dTEvent h.2.1.1 i) (by omega)
          rw [ho] at hT
          rw [idx_succ hil (by omega)]
          refine Re.gdd (by omega) (Re.gdd g (Re.c2 hT (Re.c2 (s_l05Short_ev _ (by show (textS _).size ≤ _; omega)) (Re.gdd (by show (numsOf (accT _ _ i)).length + (numsOf (evT h i)).length ≤ _; rw [numsOf_length, numsOf_length]; unfold maxRow; omega) ?_))))
          rw [← nums_app]
          exact ih (i + 1) (by omega) (by omega)
        · have e : i = h.2.1.1.length := by omega
          rw [e]; exact three) 0 (Nat.zero_le _)
      exact this
    refine Re.enter (f := fun k n => l0_s_HallText k n 0 h (numsOf (varS (h.1.length : Int)))) among_nat ?_
    have := Re.loop (ι := Nat) (l := fun k n (i : Nat) => l0_s_HallText k n (i : Int) h (numsOf (accT (varS (h.1.length : Int)) (sesT h) i))) (I := fun i => i ≤ h.1.length) (fun i => h.1.length - i) (Q := fun _ r => r = (bif decide (((hallC h).size : Int) > 20000) then (⟨#[]⟩, false) else (hallC h, true))) (fun i hi ih => by
      simp only [l0_s_HallText, b0_s_HallText, Int.toNat_natCast]
      refine Re.brd (fun g => ?_) (fun g => ?_)
      · have hil : i < h.1.length := by omega
        obtain ⟨a, b, c⟩ := hf.ses i hil
        have g1 := s4 i hi
        have g2 : ((varS (rd dTSession h.1 i).1 ++ varS (rd dTSession h.1 i).2.1) ++ shortS (rd dTSession h.1 i).2.2.1).size ≤ 60 := s1 i hil
        have g3 := g2
        rw [ba_size] at g3
        have g4 := g3
        rw [ba_size] at g4
        rw [idx_succ hil (by omega)]
        refine Re.gdd (by omega) (Re.gdd g (Re.c2 (s_l01Var_ev _ (by omega) (by omega)) (Re.c2 (s_l01Var_ev _ (by omega) (by omega)) (Re.gdd (by unfold maxRow; omega) (Re.c2 (s_l05Short_ev _ (by omega)) (Re.gdd (by unfold maxRow; omega) (Re.gdd (by rw [numsOf_length, numsOf_length]; unfold maxRow; omega) ?_)))))))
        rw [← nums_app]
        exact ih (i + 1) (by omega) (by omega)
      · have e : i = h.1.length := by omega
        have g1 := s4 i hi
        rw [e] at g1 ⊢
        refine Re.c2 (s_l01Var_ev _ (by omega) (by omega)) (Re.gdd (by rw [numsOf_length, numsOf_length]; unfold maxRow; omega) ?_)
        rw [← nums_app]; exact two) 0 (Nat.zero_le _)
    exact this
theorem same_HallText (a : THall) : m_Hall a ≤ 1048576 → ∃ v : ByteArray × Bool, Ev (fun k => s_HallText k a) v ∧ Ev (fun k => i_HallText k a) v := fun h => ⟨hallR a, s_HallText_ev a h, i_HallText_ev a h⟩
end Go.Vm
