/- Plain laws. -/
import Derived.Test.YtnkkafeaaogffaaR3
import Derived.Test.YtnkkafeaaogffaaX3
import Derived.Test.YtnkkafeaaogffaaY3
set_option linter.unusedVariables false
set_option linter.unusedSimpArgs false
namespace Go.Vm
open Go
theorem Re.c1 {α R : Type} {g : Nat → Option α} {F : Nat → α → Option R} {v : α} {Q : R → Prop} (h : Ev g v) (h2 : Re (fun k => F k v) Q) : Re (fun k => Vm.bd (g k) (F k)) Q := Re.b1 (P := fun a => a = v) (Ev.re h rfl) fun a ha => by subst ha; exact h2
theorem Re.s1 {α R : Type} {g : Nat → Option α} {F : Nat → α → Option R} {v : α} {Q : R → Prop} (h : ∀ k, g k = some v) (h2 : Re (fun k => F k v) Q) : Re (fun k => Vm.bd (g k) (F k)) Q := Re.c1 (Ev.of h) h2
theorem Re.yes {b : Bool} (h : b = true) : Re (fun _ : Nat => some b) (fun v => v = true) := Re.ret h
theorem small_m {e : TEvent} (h : Small e) : m_Event e ≤ 1048576 := by
  obtain ⟨h1, h2, h3⟩ := h
  show e.2.2.2.2.2.1.length + (e.2.2.2.2.2.2.1.size + (e.2.2.2.2.2.2.2.1.length + 0)) ≤ 1048576
  omega
theorem drawEventText_re (a : List Int) (h : a.length ≤ 1048576) : Re (fun k => s_DrawEventText k a) Small :=
  new_re (l := fun k n v i => l0_s_DrawEventText k n a v i) (C := fun k c => bd (s_l09Any k (a, 0, c, ())) fun r1 => some r1.1) a h (fun k n v1 v2 => rfl) (fun c hc => Re.b1 (any_re _ hc) fun r hr => Re.ret hr.1) _
theorem drawReadEvent_re (a : List Int) (h : a.length ≤ 1048576) : Re (fun k => s_DrawReadEvent k a) (fun t => t.size ≤ 10000) :=
  new_re (l := fun k n v i => l0_s_DrawReadEvent k n a v i) (C := fun k c => bd (s_l09Any k (a, 0, c, ())) fun r1 => (bd (s_EventText k r1.1) fun r2 => (bd (s_l02Spoilt k r1.2.1 r2.1) fun r3 => (some r3.1)))) a h (fun k n v1 v2 => rfl) (fun c hc => by
    refine Re.b1 (any_re _ hc) fun r hr => ?_
    refine Re.c1 (s_EventText_ev r.1 (small_m hr.1)) ?_
    cases ho : eventOk r.1 with
    | false => exact Re.b1 (spoilt_re _ _ hr.2 (by simp only [cond_false]; decide)) fun r3 h3 => Re.ret (by have := h3.1; simp only [cond_false] at this; have : (⟨#[]⟩ : ByteArray).size = 0 := rfl; omega)
    | true =>
      have := text_size ho
      exact Re.b1 (spoilt_re _ _ hr.2 (by simp only [cond_true]; omega)) fun r3 h3 => Re.ret (by have := h3.1; simp only [cond_true] at this; omega)) _
theorem lsameInts_ev (a : List Int) (h : a.length ≤ 1048576) : Ev (fun k => l_sameInts k a a) true := by
  refine Re.eq ?_
  refine Re.brn (fun h => absurd rfl h) (fun _ => ?_)
  refine Re.enter (f := fun k n => l0_l_sameInts k n a a 0) among_nat ?_
  have := Re.loop (ι := Nat) (l := fun k n (i : Nat) => l0_l_sameInts k n a a (i : Int)) (I := fun i => i ≤ a.length) (fun i => a.length - i) (Q := fun _ v => v = true) (fun i hi ih => by
    simp only [l0_l_sameInts, b0_l_sameInts]
    refine Re.brd (fun q => ?_) (fun q => Re.ret rfl)
    refine Re.gdd (by omega) (Re.gdd q (Re.gdd (by omega) (Re.gdd q ?_)))
    refine Re.brn (fun h => absurd rfl h) (fun _ => ?_)
    rw [idx_succ (show i < a.length by omega) (by omega)]
    exact ih (i + 1) (by omega) (by omega)) 0 (Nat.zero_le _)
  exact this
theorem lsameEvent_ev (e : TEvent) (h : m_Event e ≤ 1048576) : Ev (fun k => l_sameEvent k e e) true := by
  obtain ⟨h1, h2, h3⟩ := m_Event_le h
  refine Re.eq ?_
  simp only [l_sameEvent, beq_self_eq_true, br_true]
  refine Re.c1 (lsameInts_ev _ h1) ?_
  simp only [br_true]
  exact Re.c1 (lsameInts_ev _ h3) (Re.ret rfl)
theorem beq_ne0 {a b : Int} (h : a ≠ b) : (a == b) = false := by simpa using h
theorem keyOf_ev {e : TEvent} (h : eventOk e = true) : ∃ v, (∀ k, i_KeyOf k e = some v) ∧ ((v == 0) == (e.2.1 == 5)) = true := by
  have hb := (event_facts h).1
  have hf := body_facts hb
  have hk : 1 ≤ e.2.1 ∧ e.2.1 ≤ 5 := hf.1
  unfold body at hb
  simp only [Bool.and_eq_true] at hb
  have hb2 := hb.2
  rcases (show e.2.1 = 1 ∨ e.2.1 = 2 ∨ e.2.1 = 3 ∨ e.2.1 = 4 ∨ e.2.1 = 5 by omega) with c | c | c | c | c
  · refine ⟨1, fun k => ?_, by rw [c]; rfl⟩
    unfold i_KeyOf; rw [c]; rfl
  · have hu : inR e.2.2.2.1 1 5 = true := by
      have e2 : (eKind e == 2) = true := by show (e.2.1 == 2) = true; rw [c]; rfl
      rw [e2] at hb2
      simp only [cond_true, Bool.and_eq_true] at hb2
      exact hb2.1.1
    have hr := inR_iff.1 hu
    have hw : w64 (10 + e.2.2.2.1) = 10 + e.2.2.2.1 := w64_eq (by omega) (by omega)
    refine ⟨10 + e.2.2.2.1, fun k => ?_, ?_⟩
    · unfold i_KeyOf
      rw [c, within_eq, hu, bd_some, br_true, hw]; rfl
    · rw [c, beq_ne0 (by omega)]; rfl
  · refine ⟨2, fun k => ?_, by rw [c]; rfl⟩
    unfold i_KeyOf; rw [c]; rfl
  · refine ⟨3, fun k => ?_, by rw [c]; rfl⟩
    unfold i_KeyOf; rw [c]; rfl
  · refine ⟨0, fun k => ?_, by rw [c]; rfl⟩
    unfold i_KeyOf; rw [c]; rfl
theorem FnEvents_ev (a : List Int) : Ev (fun k => l_FnEvents k a) true := by
  refine Re.eq ?_
  refine Re.s1 (v := decide ((a.length : Int) > 1048576)) (fun k => rfl) ?_
  refine Re.brd (fun _ => Re.ret rfl) (fun hl => ?_)
  have ha : a.length ≤ 1048576 := by omega
  refine Re.b1 (drawEventText_re a ha) fun e he => ?_
  have hm := small_m he
  refine Re.c1 (i_EventText_ev e hm) ?_
  have hsz : (bif eventOk e then (textS e, true) else ((⟨#[]⟩ : ByteArray), false)).1.size ≤ 1048576 := by
    cases ho : eventOk e with
    | false => show 0 ≤ _; omega
    | true => have := text_size ho; simp only [cond_true]; omega
  obtain ⟨v, hv, hE⟩ := iread_ev _ hsz
  refine Re.c1 hE ?_
  refine Re.c1 (s_EventOk_ev e hm) ?_
  have e1 : (bif eventOk e then (textS e, true) else ((⟨#[]⟩ : ByteArray), false)).2 = eventOk e := by cases eventOk e <;> rfl
  rw [e1]
  refine Re.br (fun h => by simp at h) (fun _ => ?_)
  refine Re.c1 (i_EventOk_ev e hm) ?_
  refine Re.br (fun h => by simp at h) (fun _ => ?_)
  have tail : Re (fun k => (bd (s_DrawReadEvent k a) fun r8 => (bd (i_ReadEvent k r8) fun r9 => (bd (s_ReadEvent k r8) fun r10 => (bd (i_EventText k r9.1) fun r11 => (br (r9.2 == r10.2) (br (!r9.2) (br (!eventOk e) (some true) (bd (i_KeyOf k e) fun r12 => (some ((r12 == 0) == (e.2.1 == 5))))) (br (r11.1.toList == r8.toList) (br (!eventOk e) (some true) (bd (i_KeyOf k e) fun r13 => (some ((r13 == 0) == (e.2.1 == 5))))) (some false))) (some false))))))) (fun a => a = true) := by
    refine Re.b1 (drawReadEvent_re a ha) fun t ht => ?_
    obtain ⟨u, hu, hi⟩ := iread_ev t (by omega)
    obtain ⟨w, hw, hs⟩ := sread_ev t (by omega)
    rw [hw.eq hu] at hs
    refine Re.c1 hi (Re.c1 hs ?_)
    have key : Re (fun k => br (!eventOk e) (some true) (bd (i_KeyOf k e) fun r12 => (some ((r12 == 0) == (e.2.1 == 5))))) (fun a => a = true) := by
      refine Re.br (fun _ => Re.ret rfl) (fun h => ?_)
      obtain ⟨x, hx, hx2⟩ := keyOf_ev (e := e) (by simpa using h)
      exact Re.s1 hx (Re.yes hx2)
    rcases hu.1 with h0 | ⟨y, hy, hy1, hy2⟩
    · subst h0
      refine Re.c1 (i_EventText_ev noEv (by show 0 + (0 + (0 + 0)) ≤ 1048576; omega)) ?_
      exact key
    · subst hy
      have hym : m_Event y ≤ 1048576 := by
        have := event_bytes hy1
        show (eLevels y).length + ((eText y).size + ((ePrev y).length + 0)) ≤ 1048576
        omega
      refine Re.c1 (i_EventText_ev y hym) ?_
      rw [hy1, cond_true, hy2]
      simp only [beq_self_eq_true, br_true, Bool.not_true, br_false]
      exact key
  refine Re.br (fun ho => ?_) (fun _ => tail)
  rw [ho, cond_true] at hv
  have := hv.2 e ho rfl
  subst this
  simp only [Bool.not_true, br_false]
  refine Re.c1 (lsameEvent_ev e hm) ?_
  simp only [Bool.not_true, br_false]
  exact tail
end Go.Vm
