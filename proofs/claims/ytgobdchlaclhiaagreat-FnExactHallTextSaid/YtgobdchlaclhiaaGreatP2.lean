/- Plain laws: events, commands. -/
import Derived.Test.YtgobdchlaclhiaaGreatE2
set_option linter.unusedVariables false
set_option linter.unusedSimpArgs false
namespace Go.Vm
open Go
def inR (a b c : Int) : Bool := decide (b ≤ a) && decide (a ≤ c)
theorem l01In_eq (k : Nat) (a b c : Int) : s_l01In k a b c = some (inR a b c) := by
  unfold s_l01In inR
  by_cases h : a ≥ b
  · have : b ≤ a := h
    simp [h, this]
  · have : ¬ b ≤ a := h
    simp [h, this]
theorem within_eq (k : Nat) (a b c : Int) : i_within k a b c = some (inR a b c) := l01In_eq k a b c
/-- What a state has of a key. -/
abbrev eKind (e : TEvent) : Int := e.2.1
abbrev eSender (e : TEvent) : Int := e.2.2.1
abbrev eUser (e : TEvent) : Int := e.2.2.2.1
abbrev eMember (e : TEvent) : Int := e.2.2.2.2.1
abbrev eLevels (e : TEvent) : List Int := e.2.2.2.2.2.1
abbrev eText (e : TEvent) : ByteArray := e.2.2.2.2.2.2.1
abbrev ePrev (e : TEvent) : List Int := e.2.2.2.2.2.2.2.1
abbrev eDepth (e : TEvent) : Int := e.2.2.2.2.2.2.2.2.1
def lev5 (l : List Int) : Bool := allN l.length (fun i => inR (rd 0 l i) 0 100) && ((l.length : Int) == 5)
theorem s_l09Levels_ev (l : List Int) (hs : l.length ≤ 1048576) : Ev (fun k => s_l09Levels k l) (lev5 l) := by
  have h := all_ev (l := fun k n i => l0_s_l09Levels k n l (i : Int)) l.length (fun i => inR (rd 0 l i) 0 100) ((l.length : Int) == 5) false (fun i hi => ⟨0, fun k _ n => by
    have e := idx_succ hi (by omega)
    simp only [l0_s_l09Levels, b0_s_l09Levels, hi, Int.ofNat_lt, Int.natCast_nonneg, decide_true, br_true, gd_true, Int.toNat_natCast, e, l01In_eq, bd_some, br_not]⟩) ⟨0, fun k _ n => by simp [l0_s_l09Levels, b0_s_l09Levels]⟩
  refine h.congr_val (g := fun k => s_l09Levels k l) (fun k => rfl) ?_
  unfold lev5
  cases allN l.length (fun i => inR (rd 0 l i) 0 100) <;> rfl
def len0 {α : Type} (l : List α) : Bool := (l.length : Int) == 0
theorem gt0 {α : Type} (l : List α) : decide ((l.length : Int) > 0) = !len0 l := by
  unfold len0
  cases l with
  | nil => rfl
  | cons x l => simp; omega
def levOk (e : TEvent) : Bool := bif eKind e == 3 then lev5 (eLevels e) else len0 (eLevels e)
theorem i_levelsOk_ev (e : TEvent) (hs : (eLevels e).length ≤ 1048576) : Ev (fun k => i_levelsOk k e) (levOk e) := by
  have h := all_ev (l := fun k n i => l0_i_levelsOk k n e (i : Int)) (eLevels e).length (fun i => inR (rd 0 (eLevels e) i) 0 100) (((eLevels e).length : Int) == 5) false (fun i hi => ⟨0, fun k _ n => by
      have e := idx_succ hi (by omega)
      simp only [l0_i_levelsOk, b0_i_levelsOk, hi, Int.ofNat_lt, Int.natCast_nonneg, decide_true, br_true, gd_true, Int.toNat_natCast, e, within_eq, bd_some, br_not]⟩) ⟨0, fun k _ n => by simp [l0_i_levelsOk, b0_i_levelsOk]⟩
  obtain ⟨K, hK⟩ := h.congr (g := fun k => l0_i_levelsOk k k e 0) fun k => rfl
  refine ⟨K, fun k hk => ?_⟩
  have h1 := hK k hk
  have h2 : (((eLevels e).length : Int) == 0) = len0 (eLevels e) := rfl
  simp only [i_levelsOk, g_i_levelsOk, h1, h2, levOk, lev5, bne, eKind]
  cases (e.2.1 == 3)
  · rfl
  · cases allN (eLevels e).length (fun i => inR (rd 0 (eLevels e) i) 0 100) <;> rfl
def okPrev (e : TEvent) (i : Nat) : Bool := inR (rd 0 (ePrev e) i) 1 1000000 && !(rd 0 (ePrev e) i == e.1) && (i == 0 || decide (rd 0 (ePrev e) (i - 1) < rd 0 (ePrev e) i))
def prevOk (e : TEvent) : Bool := allN (ePrev e).length (okPrev e) && (decide (((ePrev e).length : Int) ≤ 3) && ((eKind e == 1) == len0 (ePrev e)))
theorem s_prev_ev (e : TEvent) (hs : (ePrev e).length ≤ 1048576) : Ev (fun k => l0_s_EventOk k k 0 e) (allN (ePrev e).length (okPrev e)) := by
  have h := all_ev (l := fun k n i => l0_s_EventOk k n (i : Int) e) (ePrev e).length (okPrev e) true false (fun i hi => ⟨0, fun k _ n => by
    have e1 := idx_succ hi (by omega)
    simp only [l0_s_EventOk, b0_s_EventOk, hi, Int.ofNat_lt, Int.natCast_nonneg, decide_true, br_true, gd_true, Int.toNat_natCast, e1, l01In_eq, bd_some, br_not, okPrev]
    cases inR (rd 0 (ePrev e) i) 1 1000000 <;> cases (rd 0 (ePrev e) i == e.1) <;> simp
    cases i with
    | zero => simp
    | succ j =>
      have e2 := idx_pred (i := j + 1) (by omega) (by omega)
      have h3 : (j : Int) < (ePrev e).length := by omega
      have h4 : (0 : Int) < ((j + 1 : Nat) : Int) := by omega
      simp only [e2, Nat.add_sub_cancel, h3, h4, decide_true, br_true, gd_true, Int.toNat_natCast, Int.natCast_nonneg]
      by_cases h5 : rd 0 (ePrev e) (j + 1) ≤ rd 0 (ePrev e) j
      · simp [h5, Int.not_lt.2 h5]
      · simp [h5, Int.not_le.1 h5]⟩) ⟨0, fun k _ n => by simp [l0_s_EventOk, b0_s_EventOk]⟩
  refine h.congr_val (g := fun k => l0_s_EventOk k k 0 e) (fun k => rfl) ?_
  cases allN (ePrev e).length (okPrev e) <;> rfl
theorem i_prevOk_ev (e : TEvent) (hs : (ePrev e).length ≤ 1048576) : Ev (fun k => i_prevOk k e) (prevOk e) := by
  have h := all_ev (l := fun k n i => l0_i_prevOk k n e (i : Int)) (ePrev e).length (okPrev e) (decide (((ePrev e).length : Int) ≤ 3) && ((eKind e == 1) == len0 (ePrev e))) false (fun i hi => ⟨0, fun k _ n => by
    have e1 := idx_succ hi (by omega)
    simp only [l0_i_prevOk, b0_i_prevOk, hi, Int.ofNat_lt, Int.natCast_nonneg, decide_true, br_true, gd_true, Int.toNat_natCast, e1, within_eq, bd_some, br_not, okPrev]
    cases inR (rd 0 (ePrev e) i) 1 1000000 <;> cases (rd 0 (ePrev e) i == e.1) <;> simp
    cases i with
    | zero => simp
    | succ j =>
      have e2 := idx_pred (i := j + 1) (by omega) (by omega)
      have h3 : (j : Int) < (ePrev e).length := by omega
      have h4 : (0 : Int) < ((j + 1 : Nat) : Int) := by omega
      simp only [e2, Nat.add_sub_cancel, h3, h4, decide_true, br_true, gd_true, Int.toNat_natCast, Int.natCast_nonneg]
      by_cases h5 : rd 0 (ePrev e) (j + 1) ≤ rd 0 (ePrev e) j
      · simp [h5, Int.not_lt.2 h5]
      · simp [h5, Int.not_le.1 h5]⟩) ⟨0, fun k _ n => by
    simp only [l0_i_prevOk, b0_i_prevOk, Int.lt_irrefl, decide_false, br_false]
    have h1 : (((ePrev e).length : Int) == 0) = len0 (ePrev e) := rfl
    simp only [h1]
    cases decide (((ePrev e).length : Int) ≤ 3) <;> rfl⟩
  refine h.congr_val (g := fun k => i_prevOk k e) (fun k => rfl) ?_
  unfold prevOk
  cases allN (ePrev e).length (okPrev e) <;> rfl
def emp (s : ByteArray) : Bool := s.toList == (⟨#[]⟩ : ByteArray).toList
def le24 (s : ByteArray) : Bool := decide ((s.size : Int) ≤ 24)
theorem emp_le24 (s : ByteArray) : (emp s = true ∧ le24 s = true) ∨ emp s = false := by
  cases h : emp s with
  | false => exact .inr rfl
  | true =>
    refine .inl ⟨rfl, ?_⟩
    unfold emp at h
    rw [str_beq] at h
    rw [of_decide_eq_true h]; rfl
/-- What a kind may be. -/
theorem kinds (n : Int) : ((n == 1) = true ∧ (n == 2) = false ∧ (n == 3) = false ∧ (n == 4) = false ∧ (n == 5) = false ∧ inR n 1 5 = true) ∨
    ((n == 1) = false ∧ (n == 2) = true ∧ (n == 3) = false ∧ (n == 4) = false ∧ (n == 5) = false ∧ inR n 1 5 = true) ∨
    ((n == 1) = false ∧ (n == 2) = false ∧ (n == 3) = true ∧ (n == 4) = false ∧ (n == 5) = false ∧ inR n 1 5 = true) ∨
    ((n == 1) = false ∧ (n == 2) = false ∧ (n == 3) = false ∧ (n == 4) = true ∧ (n == 5) = false ∧ inR n 1 5 = true) ∨
    ((n == 1) = false ∧ (n == 2) = false ∧ (n == 3) = false ∧ (n == 4) = false ∧ (n == 5) = true ∧ inR n 1 5 = true) ∨
    ((n == 1) = false ∧ (n == 2) = false ∧ (n == 3) = false ∧ (n == 4) = false ∧ (n == 5) = false ∧ inR n 1 5 = false) := by
  simp only [inR, beq_eq_false_iff_ne, beq_iff_eq, Bool.and_eq_true, Bool.and_eq_false_iff, decide_eq_true_eq, decide_eq_false_iff_not, ne_eq]
  omega
def body (e : TEvent) : Bool := inR (eKind e) 1 5 && inR (eSender e) 1 5 && levOk e &&
  (bif eKind e == 2 then inR (eUser e) 1 5 && inR (eMember e) 0 3 && emp (eText e) else (eUser e == 0) && (eMember e == 0) && le24 (eText e) && (eKind e == 4 || eKind e == 5 || emp (eText e)))
def eventOk (e : TEvent) : Bool := body e && inR e.1 1 1000000 && inR (eDepth e) 0 1000000 && prevOk e
theorem s_l09Body_ev (e : TEvent) (hs : m_Event e ≤ 1048576) : Ev (fun k => s_l09Body k e) (body e) := by
  obtain ⟨K, hK⟩ := s_l09Levels_ev (eLevels e) (by unfold m_Event m_IntS at hs; simp only [eLevels]; omega)
  refine ⟨K, fun k hk => ?_⟩
  have h1 := hK k hk
  have he : (e.2.2.2.2.2.2.1.toList == (⟨#[]⟩ : ByteArray).toList) = emp (eText e) := rfl
  have hz : decide ((e.2.2.2.2.2.2.1.size : Int) ≤ 24) = le24 (eText e) := rfl
  simp only [s_l09Body, l01In_eq, bd_some, he, hz, gt0, h1, body, levOk, eKind, bne]
  rcases emp_le24 (eText e) with ⟨g1, g2⟩ | g1 <;> simp only [g1]
  · simp only [g2]
    rcases kinds e.2.1 with ⟨q1, q2, q3, q4, q5, q6⟩ | ⟨q1, q2, q3, q4, q5, q6⟩ | ⟨q1, q2, q3, q4, q5, q6⟩ | ⟨q1, q2, q3, q4, q5, q6⟩ | ⟨q1, q2, q3, q4, q5, q6⟩ | ⟨q1, q2, q3, q4, q5, q6⟩ <;> simp only [q1, q2, q3, q4, q5, q6] <;>
    (generalize inR e.2.2.1 1 5 = x1; generalize inR e.2.2.2.1 1 5 = x2; generalize inR e.2.2.2.2.1 0 3 = x3; generalize (e.2.2.2.1 == 0) = x4; generalize (e.2.2.2.2.1 == 0) = x5; generalize len0 (eLevels e) = x6; generalize lev5 (eLevels e) = x7; revert x1 x2 x3 x4 x5 x6 x7; decide)
  · generalize le24 (eText e) = x8
    rcases kinds e.2.1 with ⟨q1, q2, q3, q4, q5, q6⟩ | ⟨q1, q2, q3, q4, q5, q6⟩ | ⟨q1, q2, q3, q4, q5, q6⟩ | ⟨q1, q2, q3, q4, q5, q6⟩ | ⟨q1, q2, q3, q4, q5, q6⟩ | ⟨q1, q2, q3, q4, q5, q6⟩ <;> simp only [q1, q2, q3, q4, q5, q6] <;>
    (generalize inR e.2.2.1 1 5 = x1; generalize inR e.2.2.2.1 1 5 = x2; generalize inR e.2.2.2.2.1 0 3 = x3; generalize (e.2.2.2.1 == 0) = x4; generalize (e.2.2.2.2.1 == 0) = x5; generalize len0 (eLevels e) = x6; generalize lev5 (eLevels e) = x7; revert x1 x2 x3 x4 x5 x6 x7 x8; decide)
theorem m_Event_le {e : TEvent} (h : m_Event e ≤ 1048576) : (eLevels e).length ≤ 1048576 ∧ (eText e).size ≤ 1048576 ∧ (ePrev e).length ≤ 1048576 := by
  unfold m_Event m_IntS at h
  simp only [eLevels, eText, ePrev]
  omega
theorem s_EventOk_ev (e : TEvent) (hs : m_Event e ≤ 1048576) : Ev (fun k => s_EventOk k e) (eventOk e) := by
  obtain ⟨a1, a2, a3⟩ := m_Event_le hs
  obtain ⟨K, hK⟩ := s_l09Body_ev e hs
  obtain ⟨L, hL⟩ := s_prev_ev e a3
  refine ⟨max K L, fun k hk => ?_⟩
  have h1 := hK k (by omega)
  have h2 := hL k (by omega)
  have h3 : (((ePrev e).length : Int) == 0) = len0 (ePrev e) := rfl
  simp only [s_EventOk, g_s_EventOk, l01In_eq, bd_some, h1, h2, h3, gt_le, eventOk, prevOk]
  generalize body e = x1; generalize inR e.1 1 1000000 = x2; generalize inR e.2.2.2.2.2.2.2.2.1 0 1000000 = x3; generalize decide (((ePrev e).length : Int) ≤ 3) = x4
  generalize ((eKind e == 1) == len0 (ePrev e)) = x5; generalize allN (ePrev e).length (okPrev e) = x6
  revert x1 x2 x3 x4 x5 x6; decide
theorem i_EventOk_ev' (e : TEvent) (a1 : (eLevels e).length ≤ 1048576) (a3 : (ePrev e).length ≤ 1048576) : Ev (fun k => i_EventOk k e) (eventOk e) := by
  obtain ⟨K, hK⟩ := i_levelsOk_ev e a1
  obtain ⟨L, hL⟩ := i_prevOk_ev e a3
  refine ⟨max K L, fun k hk => ?_⟩
  have h1 := hK k (by omega)
  have h2 := hL k (by omega)
  have he : (e.2.2.2.2.2.2.1.toList == (⟨#[]⟩ : ByteArray).toList) = emp (eText e) := rfl
  have hz : decide ((e.2.2.2.2.2.2.1.size : Int) ≤ 24) = le24 (eText e) := rfl
  simp only [i_EventOk, within_eq, bd_some, h1, h2, he, hz, eventOk, body, eKind]
  generalize inR e.1 1 1000000 = x2; generalize inR e.2.2.2.2.2.2.2.2.1 0 1000000 = x3; generalize inR e.2.2.1 1 5 = x4; generalize levOk e = x5; generalize prevOk e = x6
  generalize inR e.2.2.2.1 1 5 = x7; generalize inR e.2.2.2.2.1 0 3 = x8; generalize (e.2.2.2.1 == 0) = x9; generalize (e.2.2.2.2.1 == 0) = x10; generalize emp (eText e) = x11; generalize le24 (eText e) = x12
  rcases kinds e.2.1 with ⟨q1, q2, q3, q4, q5, q6⟩ | ⟨q1, q2, q3, q4, q5, q6⟩ | ⟨q1, q2, q3, q4, q5, q6⟩ | ⟨q1, q2, q3, q4, q5, q6⟩ | ⟨q1, q2, q3, q4, q5, q6⟩ | ⟨q1, q2, q3, q4, q5, q6⟩ <;> simp only [q1, q2, q3, q4, q5, q6] <;> clear q1 q2 q3 q4 q5 q6 <;>
    cases x2 <;> cases x3 <;> cases x4 <;> cases x5 <;> cases x6 <;> try rfl
  all_goals (revert x7 x8 x9 x10 x11 x12; decide)
theorem i_EventOk_ev (e : TEvent) (hs : m_Event e ≤ 1048576) : Ev (fun k => i_EventOk k e) (eventOk e) := i_EventOk_ev' e (m_Event_le hs).1 (m_Event_le hs).2.2

/-! ### Texts -/
theorem s_l01Var_ev (n : Int) (h0 : 0 ≤ n) (h1 : n ≤ 2147483648) : Ev (fun k => s_l01Var k n) (varS n) := by
  have h := while_ev (l := fun k m (p : Int × List Int) => l0_s_l01Var k m p.1 p.2) (I := fun p => 0 ≤ p.1 ∧ (p.2.length : Int) + p.1 ≤ 2147483648) (m := fun p => p.1.toNat) (f := fun p => strOfNums (p.2 ++ varL p.1.toNat)) (fun p hp => by
    obtain ⟨m, xs⟩ := p
    obtain ⟨hm, hx⟩ := hp
    simp only at *
    by_cases h : m > 127
    · obtain ⟨e1, e2, e3, e4⟩ := sev_step h (by omega)
      refine .inr ⟨(Int.tdiv m 128, xs ++ [Int.tmod m 128 + 128]), ⟨e3, by simp; omega⟩, by simp only; omega, ?_, 0, fun k _ q => ?_⟩
      · simp only; rw [varI_big h]; simp
      · simp only [l0_s_l01Var, b0_s_l01Var, decide_eq_true h, br_true, beq0, ng_false, e1, e2]
        rw [gd_le (by unfold maxRow; simp; omega)]
    · refine .inl ⟨0, fun k _ q => ?_⟩
      simp only [l0_s_l01Var, b0_s_l01Var, decide_eq_false h, br_false, u8_eq hm (show m < 256 by omega), varI_small hm h]
      rw [gd_le (by unfold maxRow; simp; omega)]) (n, []) ⟨h0, by simpa using h1⟩
  obtain ⟨K, hK⟩ := h
  exact ⟨K, fun k hk => by simpa [s_l01Var, g_s_l01Var, varS] using hK k hk k hk⟩
def varR (n : Int) : ByteArray × Bool := bif inR n 0 1000000000 then (varS n, true) else (⟨#[]⟩, false)
theorem i_VarText_ev (n : Int) : Ev (fun k => i_VarText k n) (varR n) := by
  cases hr : inR n 0 1000000000 with
  | false => exact .of fun k => by simp [i_VarText, g_i_VarText, within_eq, varR, hr]
  | true =>
    have h0 : 0 ≤ n ∧ n ≤ 1000000000 := by simpa [inR] using hr
    obtain ⟨h0, h1⟩ := h0
    have h := while_ev (l := fun k m (p : Int × List Int) => l0_i_VarText k m p.1 p.2) (I := fun p => 0 ≤ p.1 ∧ (p.2.length : Int) + p.1 ≤ 2147483648) (m := fun p => p.1.toNat) (f := fun p => (strOfNums (p.2 ++ varL p.1.toNat), true)) (fun p hp => by
      obtain ⟨m, xs⟩ := p
      obtain ⟨hm, hx⟩ := hp
      simp only at *
      by_cases h : m > 127
      · obtain ⟨e1, e2, e3, e4⟩ := sev_step h (by omega)
        refine .inr ⟨(Int.tdiv m 128, xs ++ [Int.tmod m 128 + 128]), ⟨e3, by simp; omega⟩, by simp only; omega, ?_, 0, fun k _ q => ?_⟩
        · simp only; rw [varI_big h]; simp
        · simp only [l0_i_VarText, b0_i_VarText, decide_eq_true h, br_true, beq0, ng_false, e1, e2]
          rw [gd_le (by unfold maxRow; simp; omega)]
      · refine .inl ⟨0, fun k _ q => ?_⟩
        simp only [l0_i_VarText, b0_i_VarText, decide_eq_false h, br_false, u8_eq hm (show m < 256 by omega), varI_small hm h]
        rw [gd_le (by unfold maxRow; simp; omega)]) (n, []) ⟨h0, by simp; omega⟩
    obtain ⟨K, hK⟩ := h
    refine ⟨K, fun k hk => ?_⟩
    have h3 := hK k hk k hk
    simp only [List.nil_append] at h3
    simp only [i_VarText, g_i_VarText, within_eq, hr, bd_some, Bool.not_true, br_false, h3, varR, varS]
    rfl
theorem varR_ok {n : Int} (h0 : 0 ≤ n) (h1 : n ≤ 1000000000) : varR n = (varS n, true) := by
  have : inR n 0 1000000000 = true := by simp [inR, h0, h1]
  rw [varR, this]; rfl
/-- What an event says. -/
def bytes4 (e : TEvent) : ByteArray := strOfNums [IntKind.wrap .u8 e.2.1, IntKind.wrap .u8 e.2.2.1, IntKind.wrap .u8 e.2.2.2.1, IntKind.wrap .u8 e.2.2.2.2.1]
def byteL (l : List Int) : ByteArray := strOfNums (l.map fun n => IntKind.wrap .u8 n)
theorem byteL_take {l : List Int} {i : Nat} (h : i < l.length) : byteL (l.take (i + 1)) = byteL (l.take i) ++ strOfNums [IntKind.wrap .u8 l[i]] := by
  unfold byteL
  rw [List.take_succ_eq_append_getElem h, List.map_append, strOfNums_append]
  rfl
theorem byteL_size (l : List Int) : (byteL l).size = l.length := by unfold byteL; rw [strOfNums_size, List.length_map]
def shortS (t : ByteArray) : ByteArray := varS (t.size : Int) ++ t
def mainS (e : TEvent) : ByteArray := bytes4 e ++ (varS ((eLevels e).length : Int) ++ byteL (eLevels e)) ++ shortS (eText e)
def textS (e : TEvent) : ByteArray := varS e.1 ++ mainS e ++ (varS ((ePrev e).length : Int) ++ catV (ePrev e)) ++ varS (eDepth e)
theorem s_l05Short_ev (t : ByteArray) (h : t.size ≤ 1048576) : Ev (fun k => s_l05Short k t) (shortS t) := by
  unfold s_l05Short
  refine (s_l01Var_ev (t.size : Int) (by omega) (by omega)).bd (.of fun k => ?_)
  have := varS_size (n := (t.size : Int)) (by omega)
  rw [gd_le (by unfold maxRow; omega)]
  rfl
theorem s_l09BodyText_ev (e : TEvent) (hl : (eLevels e).length ≤ 1000) (ht : (eText e).size ≤ 20000) : Ev (fun k => s_l09BodyText k e) (mainS e) := by
  obtain ⟨K, hK⟩ := s_l05Short_ev (eText e) (by omega)
  obtain ⟨L, hL⟩ := s_l01Var_ev ((eLevels e).length : Int) (by omega) (by omega)
  have hz := varS_size (n := ((eLevels e).length : Int)) (by omega)
  have hy := varS_size (n := ((eText e).size : Int)) (by omega)
  have h4 : (bytes4 e).size = 4 := by unfold bytes4; rw [strOfNums_size]; rfl
  have sz : ∀ i, i ≤ (eLevels e).length → (bytes4 e ++ (varS ((eLevels e).length : Int) ++ byteL ((eLevels e).take i))).size ≤ 2000 := fun i hi => by
    rw [ba_size, ba_size, byteL_size, List.length_take, h4]; omega
  have loop := for_ev0 (l := fun k m i => l0_s_l09BodyText k m (bytes4 e ++ (varS ((eLevels e).length : Int) ++ byteL ((eLevels e).take i))) (i : Int) e) (eLevels e).length (r := mainS e) (fun i hi => ⟨0, fun k _ m => by
    have e1 := idx_succ hi (by omega)
    have h1 := sz i (by omega)
    have h2 : (strOfNums [IntKind.wrap .u8 (eLevels e)[i]]).size = 1 := strOfNums_size _
    simp only [l0_s_l09BodyText, b0_s_l09BodyText, hi, Int.ofNat_lt, Int.natCast_nonneg, decide_true, br_true, gd_true, Int.toNat_natCast, rd_at hi, e1, s_l09Byte, bd_some]
    rw [gd_le (by unfold maxRow; omega), byteL_take hi]
    simp only [ByteArray.append_assoc]⟩) ⟨K, fun k hk m => by
    have h1 := hK k hk
    have h2 := sz (eLevels e).length (by omega)
    have h3 : (shortS (eText e)).size ≤ 30000 := by unfold shortS; rw [ba_size]; omega
    simp only [l0_s_l09BodyText, b0_s_l09BodyText, Int.lt_irrefl, decide_false, br_false, h1, bd_some]
    rw [gd_le (by unfold maxRow; omega), List.take_length]
    rfl⟩
  obtain ⟨M, hM⟩ := loop
  refine ⟨max L M, fun k hk => ?_⟩
  have h1 := hL k (by omega)
  have h2 := hM k (by omega)
  have g1 : ∀ n : Int, (strOfNums [IntKind.wrap .u8 n]).size = 1 := fun n => strOfNums_size _
  simp only [s_l09BodyText, g_s_l09BodyText, s_l09Byte, bd_some, h1]
  rw [gd_le (by unfold maxRow; simp only [g1]; omega), gd_le (by unfold maxRow; simp only [ba_size, g1]; omega), gd_le (by unfold maxRow; simp only [ba_size, g1]; omega), gd_le (by unfold maxRow; simp only [ba_size, g1]; omega)]
  have e2 : ((((strOfNums [IntKind.wrap .u8 e.2.1] ++ strOfNums [IntKind.wrap .u8 e.2.2.1]) ++ strOfNums [IntKind.wrap .u8 e.2.2.2.1]) ++ strOfNums [IntKind.wrap .u8 e.2.2.2.2.1]) ++ varS ((eLevels e).length : Int)) = bytes4 e ++ (varS ((eLevels e).length : Int) ++ byteL ((eLevels e).take 0)) := by
    have : byteL ((eLevels e).take 0) = strOfNums [] := rfl
    rw [this, ← emptyS]
    simp only [← strOfNums_append, bytes4]
    have : varS ((eLevels e).length : Int) ++ (⟨#[]⟩ : ByteArray) = varS ((eLevels e).length : Int) := by apply ba_ext; simp
    rw [this]
    rfl
  rw [e2]
  exact h2
theorem inR_iff {a b c : Int} : inR a b c = true ↔ b ≤ a ∧ a ≤ c := by simp [inR]
theorem len0_iff {α : Type} {l : List α} : len0 l = true ↔ l = [] := by
  unfold len0
  cases l with
  | nil => simp
  | cons x l => simp; omega
theorem levOk_len {e : TEvent} (h : levOk e = true) : (eLevels e).length ≤ 5 ∧ (eKind e = 3 → (eLevels e).length = 5) := by
  unfold levOk at h
  cases hk : (eKind e == 3) with
  | true =>
    rw [hk] at h
    simp only [cond_true, lev5, Bool.and_eq_true, beq_iff_eq] at h
    omega
  | false =>
    rw [hk] at h
    simp only [cond_false] at h
    rw [len0_iff.1 h]
    simp only [beq_eq_false_iff_ne] at hk
    exact ⟨by simp, fun h => absurd h hk⟩
/-- What a body bears. -/
theorem body_facts {e : TEvent} (h : body e = true) : (1 ≤ eKind e ∧ eKind e ≤ 5) ∧ (1 ≤ eSender e ∧ eSender e ≤ 5) ∧ (eLevels e).length ≤ 5 ∧ (eText e).size ≤ 24 ∧ (0 ≤ eUser e ∧ eUser e ≤ 5) ∧ (0 ≤ eMember e ∧ eMember e ≤ 3) := by
  unfold body at h
  simp only [Bool.and_eq_true, inR_iff] at h
  obtain ⟨⟨⟨h1, h2⟩, h3⟩, h4⟩ := h
  have h5 := (levOk_len h3).1
  cases hk : (eKind e == 2) with
  | true =>
    rw [hk] at h4
    simp only [cond_true, Bool.and_eq_true, inR_iff] at h4
    obtain ⟨⟨h6, h7⟩, h8⟩ := h4
    rcases emp_le24 (eText e) with ⟨_, h9⟩ | h9
    · have := of_decide_eq_true h9
      exact ⟨h1, h2, h5, by omega, by omega, by omega⟩
    · rw [h8] at h9; cases h9
  | false =>
    rw [hk] at h4
    simp only [cond_false, Bool.and_eq_true, beq_iff_eq] at h4
    obtain ⟨⟨⟨h6, h7⟩, h8⟩, _⟩ := h4
    have := of_decide_eq_true h8
    exact ⟨h1, h2, h5, by omega, by omega, by omega⟩
theorem event_facts {e : TEvent} (h : eventOk e = true) : body e = true ∧ (1 ≤ e.1 ∧ e.1 ≤ 1000000) ∧ (0 ≤ eDepth e ∧ eDepth e ≤ 1000000) ∧ (ePrev e).length ≤ 3 ∧ (∀ n ∈ ePrev e, 1 ≤ n ∧ n ≤ 1000000) ∧ (eKind e = 1 ↔ ePrev e = []) := by
  unfold eventOk at h
  simp only [Bool.and_eq_true, inR_iff] at h
  obtain ⟨⟨⟨h1, h2⟩, h3⟩, h4⟩ := h
  unfold prevOk at h4
  simp only [Bool.and_eq_true, allN_iff, decide_eq_true_eq] at h4
  obtain ⟨h5, h6, h7⟩ := h4
  refine ⟨h1, h2, h3, by omega, fun n hn => ?_, ?_⟩
  · obtain ⟨i, hi, rfl⟩ := List.getElem_of_mem hn
    have := h5 i hi
    simp only [okPrev, Bool.and_eq_true, inR_iff, rd_at hi] at this
    exact this.1.1
  · rw [← len0_iff]
    cases hk : (eKind e == 1) <;> cases hl : len0 (ePrev e) <;> rw [hk, hl] at h7 <;> simp at hk h7 ⊢ <;> exact hk
theorem textS_parts {e : TEvent} (h : eventOk e = true) : (mainS e).size ≤ 100 ∧ (varS e.1).size ≤ 5 ∧ (varS (eDepth e)).size ≤ 5 ∧ (varS ((ePrev e).length : Int)).size ≤ 5 ∧ (catV (ePrev e)).size ≤ 15 := by
  obtain ⟨hb, h1, h2, h3, h4, _⟩ := event_facts h
  obtain ⟨_, _, h5, h6, _⟩ := body_facts hb
  have a1 := varS_size (n := ((eLevels e).length : Int)) (by omega)
  have a2 := varS_size (n := ((eText e).size : Int)) (by omega)
  have a3 := catV_size (l := ePrev e) (fun n hn => by have := h4 n hn; omega)
  refine ⟨?_, varS_size (by omega), varS_size (by omega), varS_size (by omega), by omega⟩
  unfold mainS shortS bytes4
  rw [ba_size, ba_size, ba_size, ba_size, byteL_size, strOfNums_size]
  simp only [List.length_cons, List.length_nil]
  omega
theorem s_EventText_ev (e : TEvent) (hs : m_Event e ≤ 1048576) : Ev (fun k => s_EventText k e) (bif eventOk e then (textS e, true) else (⟨#[]⟩, false)) := by
  cases ho : eventOk e with
  | false => exact (s_EventOk_ev e hs).bd (by rw [ho]; exact .of fun k => rfl)
  | true =>
    obtain ⟨hb, h1, h2, h3, h4, _⟩ := event_facts ho
    obtain ⟨_, _, h5, h6, _⟩ := body_facts hb
    obtain ⟨z1, z2, z3, z4, z5⟩ := textS_parts ho
    refine (s_EventOk_ev e hs).bd ?_
    rw [ho]
    simp only [Bool.not_true, br_false]
    refine (s_l01Var_ev e.1 (by omega) (by omega)).bd ((s_l09BodyText_ev e (by omega) (by omega)).bd ?_)
    refine Ev.gdle (by unfold maxRow; omega) ?_
    refine (s_l01Var_ev ((ePrev e).length : Int) (by omega) (by omega)).bd ?_
    refine Ev.gdle (by unfold maxRow; rw [ba_size]; omega) ?_
    have sz : ∀ i, i ≤ (ePrev e).length → (catV ((ePrev e).take i)).size ≤ 15 := fun i hi => by
      have := catV_size (l := (ePrev e).take i) (fun n hn => by have := h4 n (List.mem_of_mem_take hn); omega)
      rw [List.length_take] at this; omega
    obtain ⟨K, hK⟩ := s_l01Var_ev (eDepth e) (by omega) (by omega)
    have loop := for_ev0 (l := fun k m i => l0_s_EventText k m (varS e.1 ++ mainS e ++ (varS ((ePrev e).length : Int) ++ catV ((ePrev e).take i))) (i : Int) e) (ePrev e).length (r := (textS e, true)) (fun i hi => by
      have h7 := h4 _ (List.getElem_mem hi)
      obtain ⟨L, hL⟩ := s_l01Var_ev (ePrev e)[i] (by omega) (by omega)
      refine ⟨L, fun k hk m => ?_⟩
      have h8 := hL k hk
      have h9 := sz i (by omega)
      have h10 := varS_size (n := (ePrev e)[i]) (by omega)
      have e1 := idx_succ hi (by omega)
      simp only [l0_s_EventText, b0_s_EventText, hi, Int.ofNat_lt, Int.natCast_nonneg, decide_true, br_true, gd_true, Int.toNat_natCast, rd_at hi, e1, h8, bd_some]
      rw [gd_le (by unfold maxRow; simp only [ba_size]; omega), catV_take hi]
      simp only [ByteArray.append_assoc]) ⟨K, fun k hk m => by
      have h8 := hK k hk
      have h9 := sz (ePrev e).length (by omega)
      simp only [l0_s_EventText, b0_s_EventText, Int.lt_irrefl, decide_false, br_false, h8, bd_some]
      rw [gd_le (by unfold maxRow; simp only [ba_size]; omega), List.take_length]
      rfl⟩
    refine loop.congr fun k => ?_
    try simp only
    congr 1
    apply ba_ext
    simp [catV, strOfNums]
/-! ### Commands -/
def eqInts (a b : List Int) : Bool := ((a.length : Int) == (b.length : Int)) && allN a.length (fun i => rd 0 a i == rd 0 b i)
theorem s_l05SameInts_ev (a b : List Int) (h : a.length ≤ 1048576) : Ev (fun k => s_l05SameInts k a b) (eqInts a b) := by
  by_cases hl : a.length = b.length
  · have hl2 : (a.length : Int) = (b.length : Int) := by omega
    have loop := all_ev (l := fun k n i => l0_s_l05SameInts k n a b (i : Int)) a.length (fun i => rd 0 a i == rd 0 b i) true false (fun i hi => ⟨0, fun k _ n => by
      have e := idx_succ hi (by omega)
      have hi2 : i < b.length := by omega
      simp only [l0_s_l05SameInts, b0_s_l05SameInts, hi, hi2, Int.ofNat_lt, Int.natCast_nonneg, decide_true, br_true, gd_true, Int.toNat_natCast, e, bne, br_not]⟩) ⟨0, fun k _ n => by simp [l0_s_l05SameInts, b0_s_l05SameInts]⟩
    refine loop.congr_val (g := fun k => s_l05SameInts k a b) (fun k => by simp only [s_l05SameInts, g_s_l05SameInts, bne, hl2, beq_self_eq_true, Bool.not_true, br_false]; rfl) ?_
    simp only [eqInts, hl2, beq_self_eq_true, Bool.true_and]
    cases allN a.length (fun i => rd 0 a i == rd 0 b i) <;> rfl
  · have hl2 : ((a.length : Int) == (b.length : Int)) = false := by simp; omega
    exact .of fun k => by simp only [s_l05SameInts, g_s_l05SameInts, bne, hl2, Bool.not_false, br_true, eqInts, Bool.false_and]
def eqText (a b : ByteArray) : Bool := a.toList == b.toList
def sameEv (a b : TEvent) : Bool := (a.1 == b.1) && (eKind a == eKind b) && (eSender a == eSender b) && (eUser a == eUser b) && (eMember a == eMember b) && eqText (eText a) (eText b) && (eDepth a == eDepth b) && eqInts (eLevels a) (eLevels b) && eqInts (ePrev a) (ePrev b)
theorem br_and (b x : Bool) : br b (some x) (some false) = some (b && x) := by cases b <;> rfl
theorem s_l09Same_ev (a b : TEvent) (h : m_Event a ≤ 1048576) : Ev (fun k => s_l09Same k a b) (sameEv a b) := by
  obtain ⟨a1, a2, a3⟩ := m_Event_le h
  obtain ⟨K, hK⟩ := s_l05SameInts_ev (eLevels a) (eLevels b) a1
  obtain ⟨L, hL⟩ := s_l05SameInts_ev (ePrev a) (ePrev b) a3
  refine ⟨max K L, fun k hk => ?_⟩
  have h1 := hK k (by omega)
  have h2 := hL k (by omega)
  have h3 : (a.2.2.2.2.2.2.1.toList == b.2.2.2.2.2.2.1.toList) = eqText (eText a) (eText b) := rfl
  simp only [s_l09Same, h1, h2, h3, bd_some, br_and, sameEv, eKind, eSender, eUser, eMember, eDepth, Bool.and_assoc]
abbrev noEv : TEvent := (0, 0, 0, 0, 0, [], ByteArray.empty, [], 0, ())
/-! ### A command's text -/
theorem text_size {e : TEvent} (h : eventOk e = true) : (textS e).size ≤ 1000 := by
  obtain ⟨z1, z2, z3, z4, z5⟩ := textS_parts h
  unfold textS
  rw [ba_size, ba_size, ba_size, ba_size]; omega
end Go.Vm
