/- Plain laws. -/
import Derived.Test.YtbekdoadbkibdaaAI2
set_option linter.unusedVariables false
set_option linter.unusedSimpArgs false
namespace Go.Vm
open Go
theorem RoomD.noZ {r : TRoom} (h : RoomD r) : NoZ r.1 := fun e he => by have := h.2.2 e he; omega
theorem drawNextEvent_re (a : List Int) (h : a.length ≤ 1048576) : Re (fun k => s_DrawNextEvent k a) (fun q => RoomD q.1 ∧ NextP q.1 90 q.2) :=
  new_re (l := fun k n v i => l0_s_DrawNextEvent k n a v i) (C := fun k c => (bd (s_l12Room k (a, 0, c, ()) a) fun r1 => (bd (s_l12Next k r1.2.1 r1.1 90) fun r2 => (some (r1.1, r2.1))))) a h (fun k n v1 v2 => rfl) (fun c hc => Re.b1 (l12Room_re _ hc a h) fun r hr => Re.b1 (l12Next_re _ hr.2 _ hr.1.1 90) fun r2 h2 => Re.ret ⟨hr.1, h2.1⟩) _
noncomputable def stateL (r : TRoom) : List TItem := (beforeL r (endsL r.1)).1
theorem endsL_length (r : TRoom) (h : RoomI r) : (endsL r.1).length ≤ 40 := by
  have := endStep_length r.1 r.1 []
  have := h.len
  unfold endsL; simp at *; omega
theorem stateL_length {r : TRoom} (h : RoomI r) : (stateL r).length ≤ 16 := beforeL_length h (by have := endsL_length r h; omega)
theorem s_StateOf_ev (r : TRoom) (h : RoomI r) : Ev (fun k => s_StateOf k r) (stateL r) := by
  refine Re.eq (Re.c1 (s_EndsOf_ev r h.prevS) (Re.c1 (s_l12Before_ev r h _ (by have := endsL_length r h; omega)) (Re.ret rfl)))
theorem FnPowers_ev (a : List Int) : Ev (fun k => l_FnPowers k a) true := by
  refine Re.eq ?_
  simp only [l_FnPowers, g_l_FnPowers]
  refine Re.s1 (v := decide ((a.length : Int) > 1048576)) (fun k => rfl) ?_
  refine Re.brd (fun _ => Re.ret rfl) (fun hl => ?_)
  refine Re.b1 (drawNextEvent_re a (by omega)) fun q hq => ?_
  obtain ⟨r, e⟩ := q
  obtain ⟨hD, hN⟩ := hq
  simp only at hD hN
  have hI := hD.1
  have hz := hD.noZ
  have hc := hI.copyS
  have hm := hN.small
  have hlen := hI.len
  have hsl := stateL_length hI
  refine Re.c1 (s_StateOf_ev r hI) ?_
  generalize stateL r = s at hsl ⊢
  have hF : Fits r.1 s := ⟨by omega, by omega⟩
  refine Re.c1 (i_Allowed_ev r.1 hc hz s (by omega) e (by omega)) ?_
  cases ha : allowed r.1 s e with
  | false =>
    refine Re.br (b := true) (fun _ => Re.c1 (s_Allowed_ev r.1 s hF e (by omega)) (Re.ret ?_)) (fun h => by cases h)
    rw [ha]; rfl
  | true =>
    refine Re.br (b := false) (fun h => by cases h) (fun _ => ?_)
    refine Re.c1 (i_LevelOf_ev r.1 hc hz s (by omega) _) (Re.c1 (s_LevelOf_ev r.1 s hF _) ?_)
    refine Re.brn (fun h => absurd rfl h) (fun _ => ?_)
    unfold allowed at ha
    simp only [Bool.and_eq_true] at ha
    obtain ⟨ho, ha⟩ := ha
    have rest : Re (fun k => br (e.2.1 != 3) (br (e.2.1 != 4) (some true) (some (decide (level r.1 s e.2.2.1 ≥ 50)))) (l0_l_FnPowers k k (level r.1 s e.2.2.1) 1 (r, e) s)) (fun v => v = true) := by
      refine Re.brn (fun h3 => ?_) (fun h3 => ?_)
      · refine Re.brn (fun _ => Re.ret rfl) (fun h4 => Re.ret ?_)
        rw [h4] at ha
        simp at ha
        exact decide_eq_true (by omega)
      · have h5 := levels_five ho h3
        rw [h3] at ha
        simp at ha
        have hp := ha.2.2
        unfold powerOk at hp
        simp only [Bool.and_eq_true] at hp
        have hall := allN_iff.1 hp.2.2
        refine Re.enter (f := fun k n => l0_l_FnPowers k n (level r.1 s e.2.2.1) 1 (r, e) s) among_nat ?_
        have := Re.loop (ι := Nat) (l := fun k n (i : Nat) => l0_l_FnPowers k n (level r.1 s e.2.2.1) ((i + 1 : Nat) : Int) (r, e) s) (I := fun i => i ≤ 5) (fun i => 5 - i) (Q := fun _ v => v = true) (fun i hi ih => by
          simp only [l0_l_FnPowers, b0_l_FnPowers]
          refine Re.brd (fun q => ?_) (fun q => Re.ret rfl)
          have hi5 : i < 5 := by omega
          refine Re.c2 (s_LevelOf_ev r.1 s hF _) ?_
          have e1 : w64 (((i + 1 : Nat) : Int) - 1) = (i : Int) := by rw [w64_eq (by omega) (by omega)]; omega
          have e2 : w64 (((i + 1 : Nat) : Int) + 1) = ((i + 1 + 1 : Nat) : Int) := by rw [w64_eq (by omega) (by omega)]; omega
          rw [e1, e2, Int.toNat_natCast]
          refine Re.gdd (by omega) (Re.gdd (by omega) ?_)
          have hpa := hall i hi5
          unfold powerAt at hpa
          simp only [Bool.or_eq_true, Bool.and_eq_true, Bool.not_eq_true', decide_eq_false_iff_not, beq_iff_eq] at hpa
          have next := ih (i + 1) (by omega) (by omega)
          have low : Re (fun x : Nat × Nat => br (decide (rd 0 e.2.2.2.2.2.1 i < level r.1 s ((i + 1 : Nat) : Int))) (br (decide (level r.1 s ((i + 1 : Nat) : Int) ≥ level r.1 s e.2.2.1)) (br (((i + 1 : Nat) : Int) != e.2.2.1) (some false) (l0_l_FnPowers x.1 x.2 (level r.1 s e.2.2.1) ((i + 1 + 1 : Nat) : Int) (r, e) s)) (l0_l_FnPowers x.1 x.2 (level r.1 s e.2.2.1) ((i + 1 + 1 : Nat) : Int) (r, e) s)) (l0_l_FnPowers x.1 x.2 (level r.1 s e.2.2.1) ((i + 1 + 1 : Nat) : Int) (r, e) s)) (fun v => v = true) := by
            refine Re.brd (fun g1 => ?_) (fun _ => next)
            refine Re.brd (fun g2 => ?_) (fun _ => next)
            refine Re.brn (fun g3 => ?_) (fun _ => next)
            rcases hpa with h | ⟨_, h | h⟩
            · omega
            · omega
            · exact absurd h g3
          refine Re.brd (fun g1 => ?_) (fun _ => low)
          refine Re.brd (fun g2 => ?_) (fun _ => low)
          rcases hpa with h | ⟨h, _⟩
          · omega
          · omega) 0 (Nat.zero_le _)
        exact this
    refine Re.bre (fun h2 => ?_) (fun _ => rest)
    refine Re.brn (fun hu => ?_) (fun _ => rest)
    refine Re.brn (fun hmm => ?_) (fun _ => rest)
    rw [h2] at ha
    simp at ha
    have hmo := ha.2.2
    unfold memberOk at hmo
    rw [beq_ne0 (fun h => hu h.symm)] at hmo
    unfold otherOk at hmo
    rw [beq_ne0 hmm] at hmo
    simp only [cond_false, Bool.and_eq_true] at hmo
    have hab : level r.1 s e.2.2.1 ≥ 50 ∧ level r.1 s e.2.2.1 > level r.1 s e.2.2.2.1 := by
      have h3 := hmo.2
      cases h0 : e.2.2.2.2.1 == 0 with
      | true => rw [h0] at h3; simp at h3; exact ⟨by omega, by omega⟩
      | false =>
        rw [h0] at h3
        cases h00 : e.2.2.2.2.1 == 3 with
        | true => rw [h00] at h3; simp at h3; exact ⟨by omega, by omega⟩
        | false => rw [h00] at h3; simp at h3
    refine Re.brd (fun _ => ?_) (fun h => absurd hab.1 h)
    exact Re.c1 (s_LevelOf_ev r.1 s hF _) (Re.ret (decide_eq_true hab.2))
end Go.Vm
