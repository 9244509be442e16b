/- Plain laws: events, commands. -/
import Derived.Test.YtpcdgghbhgjgfaaE3
set_option linter.unusedVariables false
set_option linter.unusedSimpArgs false
namespace Go.Vm
open Go
def inR (a b c : Int) : Bool := decide (b ≤ a) && decide (a ≤ c)
theorem l01In_eq (k : Nat) (a b c : Int) : s_l01In k a b c = some (inR a b c) := by
  unfold s_l01In inR
  by_cases h : a ≥ b
  · have : b ≤ a := h
    simp [h, this]
  · have : ¬ b ≤ a := h
    simp [h, this]
theorem within_eq (k : Nat) (a b c : Int) : i_within k a b c = some (inR a b c) := l01In_eq k a b c
/-- What a state has of a key. -/
abbrev eKind (e : TEvent) : Int := e.2.1
abbrev eSender (e : TEvent) : Int := e.2.2.1
abbrev eUser (e : TEvent) : Int := e.2.2.2.1
abbrev eMember (e : TEvent) : Int := e.2.2.2.2.1
abbrev eLevels (e : TEvent) : List Int := e.2.2.2.2.2.1
abbrev eText (e : TEvent) : ByteArray := e.2.2.2.2.2.2.1
abbrev ePrev (e : TEvent) : List Int := e.2.2.2.2.2.2.2.1
abbrev eDepth (e : TEvent) : Int := e.2.2.2.2.2.2.2.2.1
def lev5 (l : List Int) : Bool := allN l.length (fun i => inR (rd 0 l i) 0 100) && ((l.length : Int) == 5)
theorem s_l09Levels_ev (l : List Int) (hs : l.length ≤ 1048576) : Ev (fun k => s_l09Levels k l) (lev5 l) := by
  have h := all_ev (l := fun k n i => l0_s_l09Levels k n l (i : Int)) l.length (fun i => inR (rd 0 l i) 0 100) ((l.length : Int) == 5) false (fun i hi => ⟨0, fun k _ n => by
    have e := idx_succ hi (by omega)
    simp only [l0_s_l09Levels, b0_s_l09Levels, hi, Int.ofNat_lt, Int.natCast_nonneg, decide_true, br_true, gd_true, Int.toNat_natCast, e, l01In_eq, bd_some, br_not]⟩) ⟨0, fun k _ n => by simp [l0_s_l09Levels, b0_s_l09Levels]⟩
  refine h.congr_val (g := fun k => s_l09Levels k l) (fun k => rfl) ?_
  unfold lev5
  cases allN l.length (fun i => inR (rd 0 l i) 0 100) <;> rfl
def len0 {α : Type} (l : List α) : Bool := (l.length : Int) == 0
theorem gt0 {α : Type} (l : List α) : decide ((l.length : Int) > 0) = !len0 l := by
  unfold len0
  cases l with
  | nil => rfl
  | cons x l => simp; omega
def levOk (e : TEvent) : Bool := bif eKind e == 3 then lev5 (eLevels e) else len0 (eLevels e)
def okPrev (e : TEvent) (i : Nat) : Bool := inR (rd 0 (ePrev e) i) 1 1000000 && !(rd 0 (ePrev e) i == e.1) && (i == 0 || decide (rd 0 (ePrev e) (i - 1) < rd 0 (ePrev e) i))
def prevOk (e : TEvent) : Bool := allN (ePrev e).length (okPrev e) && (decide (((ePrev e).length : Int) ≤ 3) && ((eKind e == 1) == len0 (ePrev e)))
theorem s_prev_ev (e : TEvent) (hs : (ePrev e).length ≤ 1048576) : Ev (fun k => l0_s_EventOk k k 0 e) (allN (ePrev e).length (okPrev e)) := by
  have h := all_ev (l := fun k n i => l0_s_EventOk k n (i : Int) e) (ePrev e).length (okPrev e) true false (fun i hi => ⟨0, fun k _ n => by
    have e1 := idx_succ hi (by omega)
    simp only [l0_s_EventOk, b0_s_EventOk, hi, Int.ofNat_lt, Int.natCast_nonneg, decide_true, br_true, gd_true, Int.toNat_natCast, e1, l01In_eq, bd_some, br_not, okPrev]
    cases inR (rd 0 (ePrev e) i) 1 1000000 <;> cases (rd 0 (ePrev e) i == e.1) <;> simp
    cases i with
    | zero => simp
    | succ j =>
      have e2 := idx_pred (i := j + 1) (by omega) (by omega)
      have h3 : (j : Int) < (ePrev e).length := by omega
      have h4 : (0 : Int) < ((j + 1 : Nat) : Int) := by omega
      simp only [e2, Nat.add_sub_cancel, h3, h4, decide_true, br_true, gd_true, Int.toNat_natCast, Int.natCast_nonneg]
      by_cases h5 : rd 0 (ePrev e) (j + 1) ≤ rd 0 (ePrev e) j
      · simp [h5, Int.not_lt.2 h5]
      · simp [h5, Int.not_le.1 h5]⟩) ⟨0, fun k _ n => by simp [l0_s_EventOk, b0_s_EventOk]⟩
  refine h.congr_val (g := fun k => l0_s_EventOk k k 0 e) (fun k => rfl) ?_
  cases allN (ePrev e).length (okPrev e) <;> rfl
def emp (s : ByteArray) : Bool := s.toList == (⟨#[]⟩ : ByteArray).toList
def le24 (s : ByteArray) : Bool := decide ((s.size : Int) ≤ 24)
theorem emp_le24 (s : ByteArray) : (emp s = true ∧ le24 s = true) ∨ emp s = false := by
  cases h : emp s with
  | false => exact .inr rfl
  | true =>
    refine .inl ⟨rfl, ?_⟩
    unfold emp at h
    rw [str_beq] at h
    rw [of_decide_eq_true h]; rfl
/-- What a kind may be. -/
theorem kinds (n : Int) : ((n == 1) = true ∧ (n == 2) = false ∧ (n == 3) = false ∧ (n == 4) = false ∧ (n == 5) = false ∧ inR n 1 5 = true) ∨
    ((n == 1) = false ∧ (n == 2) = true ∧ (n == 3) = false ∧ (n == 4) = false ∧ (n == 5) = false ∧ inR n 1 5 = true) ∨
    ((n == 1) = false ∧ (n == 2) = false ∧ (n == 3) = true ∧ (n == 4) = false ∧ (n == 5) = false ∧ inR n 1 5 = true) ∨
    ((n == 1) = false ∧ (n == 2) = false ∧ (n == 3) = false ∧ (n == 4) = true ∧ (n == 5) = false ∧ inR n 1 5 = true) ∨
    ((n == 1) = false ∧ (n == 2) = false ∧ (n == 3) = false ∧ (n == 4) = false ∧ (n == 5) = true ∧ inR n 1 5 = true) ∨
    ((n == 1) = false ∧ (n == 2) = false ∧ (n == 3) = false ∧ (n == 4) = false ∧ (n == 5) = false ∧ inR n 1 5 = false) := by
  simp only [inR, beq_eq_false_iff_ne, beq_iff_eq, Bool.and_eq_true, Bool.and_eq_false_iff, decide_eq_true_eq, decide_eq_false_iff_not, ne_eq]
  omega
def body (e : TEvent) : Bool := inR (eKind e) 1 5 && inR (eSender e) 1 5 && levOk e &&
  (bif eKind e == 2 then inR (eUser e) 1 5 && inR (eMember e) 0 3 && emp (eText e) else (eUser e == 0) && (eMember e == 0) && le24 (eText e) && (eKind e == 4 || eKind e == 5 || emp (eText e)))
def eventOk (e : TEvent) : Bool := body e && inR e.1 1 1000000 && inR (eDepth e) 0 1000000 && prevOk e
theorem s_l09Body_ev (e : TEvent) (hs : m_Event e ≤ 1048576) : Ev (fun k => s_l09Body k e) (body e) := by
  obtain ⟨K, hK⟩ := s_l09Levels_ev (eLevels e) (by unfold m_Event m_IntS at hs; simp only [eLevels]; omega)
  refine ⟨K, fun k hk => ?_⟩
  have h1 := hK k hk
  have he : (e.2.2.2.2.2.2.1.toList == (⟨#[]⟩ : ByteArray).toList) = emp (eText e) := rfl
  have hz : decide ((e.2.2.2.2.2.2.1.size : Int) ≤ 24) = le24 (eText e) := rfl
  simp only [s_l09Body, l01In_eq, bd_some, he, hz, gt0, h1, body, levOk, eKind, bne]
  rcases emp_le24 (eText e) with ⟨g1, g2⟩ | g1 <;> simp only [g1]
  · simp only [g2]
    rcases kinds e.2.1 with ⟨q1, q2, q3, q4, q5, q6⟩ | ⟨q1, q2, q3, q4, q5, q6⟩ | ⟨q1, q2, q3, q4, q5, q6⟩ | ⟨q1, q2, q3, q4, q5, q6⟩ | ⟨q1, q2, q3, q4, q5, q6⟩ | ⟨q1, q2, q3, q4, q5, q6⟩ <;> simp only [q1, q2, q3, q4, q5, q6] <;>
    (generalize inR e.2.2.1 1 5 = x1; generalize inR e.2.2.2.1 1 5 = x2; generalize inR e.2.2.2.2.1 0 3 = x3; generalize (e.2.2.2.1 == 0) = x4; generalize (e.2.2.2.2.1 == 0) = x5; generalize len0 (eLevels e) = x6; generalize lev5 (eLevels e) = x7; revert x1 x2 x3 x4 x5 x6 x7; decide)
  · generalize le24 (eText e) = x8
    rcases kinds e.2.1 with ⟨q1, q2, q3, q4, q5, q6⟩ | ⟨q1, q2, q3, q4, q5, q6⟩ | ⟨q1, q2, q3, q4, q5, q6⟩ | ⟨q1, q2, q3, q4, q5, q6⟩ | ⟨q1, q2, q3, q4, q5, q6⟩ | ⟨q1, q2, q3, q4, q5, q6⟩ <;> simp only [q1, q2, q3, q4, q5, q6] <;>
    (generalize inR e.2.2.1 1 5 = x1; generalize inR e.2.2.2.1 1 5 = x2; generalize inR e.2.2.2.2.1 0 3 = x3; generalize (e.2.2.2.1 == 0) = x4; generalize (e.2.2.2.2.1 == 0) = x5; generalize len0 (eLevels e) = x6; generalize lev5 (eLevels e) = x7; revert x1 x2 x3 x4 x5 x6 x7 x8; decide)
theorem m_Event_le {e : TEvent} (h : m_Event e ≤ 1048576) : (eLevels e).length ≤ 1048576 ∧ (eText e).size ≤ 1048576 ∧ (ePrev e).length ≤ 1048576 := by
  unfold m_Event m_IntS at h
  simp only [eLevels, eText, ePrev]
  omega
theorem s_EventOk_ev (e : TEvent) (hs : m_Event e ≤ 1048576) : Ev (fun k => s_EventOk k e) (eventOk e) := by
  obtain ⟨a1, a2, a3⟩ := m_Event_le hs
  obtain ⟨K, hK⟩ := s_l09Body_ev e hs
  obtain ⟨L, hL⟩ := s_prev_ev e a3
  refine ⟨max K L, fun k hk => ?_⟩
  have h1 := hK k (by omega)
  have h2 := hL k (by omega)
  have h3 : (((ePrev e).length : Int) == 0) = len0 (ePrev e) := rfl
  simp only [s_EventOk, g_s_EventOk, l01In_eq, bd_some, h1, h2, h3, gt_le, eventOk, prevOk]
  generalize body e = x1; generalize inR e.1 1 1000000 = x2; generalize inR e.2.2.2.2.2.2.2.2.1 0 1000000 = x3; generalize decide (((ePrev e).length : Int) ≤ 3) = x4
  generalize ((eKind e == 1) == len0 (ePrev e)) = x5; generalize allN (ePrev e).length (okPrev e) = x6
  revert x1 x2 x3 x4 x5 x6; decide
/-! ### Texts -/
theorem inR_iff {a b c : Int} : inR a b c = true ↔ b ≤ a ∧ a ≤ c := by simp [inR]
theorem len0_iff {α : Type} {l : List α} : len0 l = true ↔ l = [] := by
  unfold len0
  cases l with
  | nil => simp
  | cons x l => simp; omega
theorem levOk_len {e : TEvent} (h : levOk e = true) : (eLevels e).length ≤ 5 ∧ (eKind e = 3 → (eLevels e).length = 5) := by
  unfold levOk at h
  cases hk : (eKind e == 3) with
  | true =>
    rw [hk] at h
    simp only [cond_true, lev5, Bool.and_eq_true, beq_iff_eq] at h
    omega
  | false =>
    rw [hk] at h
    simp only [cond_false] at h
    rw [len0_iff.1 h]
    simp only [beq_eq_false_iff_ne] at hk
    exact ⟨by simp, fun h => absurd h hk⟩
/-- What a body bears. -/
theorem body_facts {e : TEvent} (h : body e = true) : (1 ≤ eKind e ∧ eKind e ≤ 5) ∧ (1 ≤ eSender e ∧ eSender e ≤ 5) ∧ (eLevels e).length ≤ 5 ∧ (eText e).size ≤ 24 ∧ (0 ≤ eUser e ∧ eUser e ≤ 5) ∧ (0 ≤ eMember e ∧ eMember e ≤ 3) := by
  unfold body at h
  simp only [Bool.and_eq_true, inR_iff] at h
  obtain ⟨⟨⟨h1, h2⟩, h3⟩, h4⟩ := h
  have h5 := (levOk_len h3).1
  cases hk : (eKind e == 2) with
  | true =>
    rw [hk] at h4
    simp only [cond_true, Bool.and_eq_true, inR_iff] at h4
    obtain ⟨⟨h6, h7⟩, h8⟩ := h4
    rcases emp_le24 (eText e) with ⟨_, h9⟩ | h9
    · have := of_decide_eq_true h9
      exact ⟨h1, h2, h5, by omega, by omega, by omega⟩
    · rw [h8] at h9; cases h9
  | false =>
    rw [hk] at h4
    simp only [cond_false, Bool.and_eq_true, beq_iff_eq] at h4
    obtain ⟨⟨⟨h6, h7⟩, h8⟩, _⟩ := h4
    have := of_decide_eq_true h8
    exact ⟨h1, h2, h5, by omega, by omega, by omega⟩
theorem event_facts {e : TEvent} (h : eventOk e = true) : body e = true ∧ (1 ≤ e.1 ∧ e.1 ≤ 1000000) ∧ (0 ≤ eDepth e ∧ eDepth e ≤ 1000000) ∧ (ePrev e).length ≤ 3 ∧ (∀ n ∈ ePrev e, 1 ≤ n ∧ n ≤ 1000000) ∧ (eKind e = 1 ↔ ePrev e = []) := by
  unfold eventOk at h
  simp only [Bool.and_eq_true, inR_iff] at h
  obtain ⟨⟨⟨h1, h2⟩, h3⟩, h4⟩ := h
  unfold prevOk at h4
  simp only [Bool.and_eq_true, allN_iff, decide_eq_true_eq] at h4
  obtain ⟨h5, h6, h7⟩ := h4
  refine ⟨h1, h2, h3, by omega, fun n hn => ?_, ?_⟩
  · obtain ⟨i, hi, rfl⟩ := List.getElem_of_mem hn
    have := h5 i hi
    simp only [okPrev, Bool.and_eq_true, inR_iff, rd_at hi] at this
    exact this.1.1
  · rw [← len0_iff]
    cases hk : (eKind e == 1) <;> cases hl : len0 (ePrev e) <;> rw [hk, hl] at h7 <;> simp at hk h7 ⊢ <;> exact hk
/-! ### Commands -/
abbrev noEv : TEvent := (0, 0, 0, 0, 0, [], ByteArray.empty, [], 0, ())
/-! ### A command's text -/
end Go.Vm
