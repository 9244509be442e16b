/- Plain laws: events, commands. -/
import Derived.Test.YtgkcajcpnlkdfaaE2
set_option linter.unusedVariables false
set_option linter.unusedSimpArgs false
namespace Go.Vm
open Go
def inR (a b c : Int) : Bool := decide (b ≤ a) && decide (a ≤ c)
theorem l01In_eq (k : Nat) (a b c : Int) : s_l01In k a b c = some (inR a b c) := by
  unfold s_l01In inR
  by_cases h : a ≥ b
  · have : b ≤ a := h
    simp [h, this]
  · have : ¬ b ≤ a := h
    simp [h, this]
theorem within_eq (k : Nat) (a b c : Int) : i_within k a b c = some (inR a b c) := l01In_eq k a b c
/-- What a state has of a key. -/
abbrev eKind (e : TEvent) : Int := e.2.1
abbrev eSender (e : TEvent) : Int := e.2.2.1
abbrev eUser (e : TEvent) : Int := e.2.2.2.1
abbrev eMember (e : TEvent) : Int := e.2.2.2.2.1
abbrev eLevels (e : TEvent) : List Int := e.2.2.2.2.2.1
abbrev eText (e : TEvent) : ByteArray := e.2.2.2.2.2.2.1
abbrev ePrev (e : TEvent) : List Int := e.2.2.2.2.2.2.2.1
abbrev eDepth (e : TEvent) : Int := e.2.2.2.2.2.2.2.2.1
def lev5 (l : List Int) : Bool := allN l.length (fun i => inR (rd 0 l i) 0 100) && ((l.length : Int) == 5)
def len0 {α : Type} (l : List α) : Bool := (l.length : Int) == 0
def levOk (e : TEvent) : Bool := bif eKind e == 3 then lev5 (eLevels e) else len0 (eLevels e)
def okPrev (e : TEvent) (i : Nat) : Bool := inR (rd 0 (ePrev e) i) 1 1000000 && !(rd 0 (ePrev e) i == e.1) && (i == 0 || decide (rd 0 (ePrev e) (i - 1) < rd 0 (ePrev e) i))
def prevOk (e : TEvent) : Bool := allN (ePrev e).length (okPrev e) && (decide (((ePrev e).length : Int) ≤ 3) && ((eKind e == 1) == len0 (ePrev e)))
def emp (s : ByteArray) : Bool := s.toList == (⟨#[]⟩ : ByteArray).toList
def le24 (s : ByteArray) : Bool := decide ((s.size : Int) ≤ 24)
theorem emp_le24 (s : ByteArray) : (emp s = true ∧ le24 s = true) ∨ emp s = false := by
  cases h : emp s with
  | false => exact .inr rfl
  | true =>
    refine .inl ⟨rfl, ?_⟩
    unfold emp at h
    rw [str_beq] at h
    rw [of_decide_eq_true h]; rfl
def body (e : TEvent) : Bool := inR (eKind e) 1 5 && inR (eSender e) 1 5 && levOk e &&
  (bif eKind e == 2 then inR (eUser e) 1 5 && inR (eMember e) 0 3 && emp (eText e) else (eUser e == 0) && (eMember e == 0) && le24 (eText e) && (eKind e == 4 || eKind e == 5 || emp (eText e)))
def eventOk (e : TEvent) : Bool := body e && inR e.1 1 1000000 && inR (eDepth e) 0 1000000 && prevOk e
/-! ### Texts -/
theorem inR_iff {a b c : Int} : inR a b c = true ↔ b ≤ a ∧ a ≤ c := by simp [inR]
theorem len0_iff {α : Type} {l : List α} : len0 l = true ↔ l = [] := by
  unfold len0
  cases l with
  | nil => simp
  | cons x l => simp; omega
theorem levOk_len {e : TEvent} (h : levOk e = true) : (eLevels e).length ≤ 5 ∧ (eKind e = 3 → (eLevels e).length = 5) := by
  unfold levOk at h
  cases hk : (eKind e == 3) with
  | true =>
    rw [hk] at h
    simp only [cond_true, lev5, Bool.and_eq_true, beq_iff_eq] at h
    omega
  | false =>
    rw [hk] at h
    simp only [cond_false] at h
    rw [len0_iff.1 h]
    simp only [beq_eq_false_iff_ne] at hk
    exact ⟨by simp, fun h => absurd h hk⟩
/-- What a body bears. -/
theorem body_facts {e : TEvent} (h : body e = true) : (1 ≤ eKind e ∧ eKind e ≤ 5) ∧ (1 ≤ eSender e ∧ eSender e ≤ 5) ∧ (eLevels e).length ≤ 5 ∧ (eText e).size ≤ 24 ∧ (0 ≤ eUser e ∧ eUser e ≤ 5) ∧ (0 ≤ eMember e ∧ eMember e ≤ 3) := by
  unfold body at h
  simp only [Bool.and_eq_true, inR_iff] at h
  obtain ⟨⟨⟨h1, h2⟩, h3⟩, h4⟩ := h
  have h5 := (levOk_len h3).1
  cases hk : (eKind e == 2) with
  | true =>
    rw [hk] at h4
    simp only [cond_true, Bool.and_eq_true, inR_iff] at h4
    obtain ⟨⟨h6, h7⟩, h8⟩ := h4
    rcases emp_le24 (eText e) with ⟨_, h9⟩ | h9
    · have := of_decide_eq_true h9
      exact ⟨h1, h2, h5, by omega, by omega, by omega⟩
    · rw [h8] at h9; cases h9
  | false =>
    rw [hk] at h4
    simp only [cond_false, Bool.and_eq_true, beq_iff_eq] at h4
    obtain ⟨⟨⟨h6, h7⟩, h8⟩, _⟩ := h4
    have := of_decide_eq_true h8
    exact ⟨h1, h2, h5, by omega, by omega, by omega⟩
theorem event_facts {e : TEvent} (h : eventOk e = true) : body e = true ∧ (1 ≤ e.1 ∧ e.1 ≤ 1000000) ∧ (0 ≤ eDepth e ∧ eDepth e ≤ 1000000) ∧ (ePrev e).length ≤ 3 ∧ (∀ n ∈ ePrev e, 1 ≤ n ∧ n ≤ 1000000) ∧ (eKind e = 1 ↔ ePrev e = []) := by
  unfold eventOk at h
  simp only [Bool.and_eq_true, inR_iff] at h
  obtain ⟨⟨⟨h1, h2⟩, h3⟩, h4⟩ := h
  unfold prevOk at h4
  simp only [Bool.and_eq_true, allN_iff, decide_eq_true_eq] at h4
  obtain ⟨h5, h6, h7⟩ := h4
  refine ⟨h1, h2, h3, by omega, fun n hn => ?_, ?_⟩
  · obtain ⟨i, hi, rfl⟩ := List.getElem_of_mem hn
    have := h5 i hi
    simp only [okPrev, Bool.and_eq_true, inR_iff, rd_at hi] at this
    exact this.1.1
  · rw [← len0_iff]
    cases hk : (eKind e == 1) <;> cases hl : len0 (ePrev e) <;> rw [hk, hl] at h7 <;> simp at hk h7 ⊢ <;> exact hk
/-! ### Commands -/
abbrev noEv : TEvent := (0, 0, 0, 0, 0, [], ByteArray.empty, [], 0, ())
/-! ### A command's text -/
end Go.Vm
