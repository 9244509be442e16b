/- Plain laws: events, commands. -/
import Derived.Test.YtpcdgghbhgjgfaaE2
set_option linter.unusedVariables false
set_option linter.unusedSimpArgs false
namespace Go.Vm
open Go
def inR (a b c : Int) : Bool := decide (b ≤ a) && decide (a ≤ c)
theorem l01In_eq (k : Nat) (a b c : Int) : s_l01In k a b c = some (inR a b c) := by
  unfold s_l01In inR
  by_cases h : a ≥ b
  · have : b ≤ a := h
    simp [h, this]
  · have : ¬ b ≤ a := h
    simp [h, this]
theorem within_eq (k : Nat) (a b c : Int) : i_within k a b c = some (inR a b c) := l01In_eq k a b c
/-- What a state has of a key. -/
abbrev eKind (e : TEvent) : Int := e.2.1
abbrev eSender (e : TEvent) : Int := e.2.2.1
abbrev eUser (e : TEvent) : Int := e.2.2.2.1
abbrev eMember (e : TEvent) : Int := e.2.2.2.2.1
abbrev eLevels (e : TEvent) : List Int := e.2.2.2.2.2.1
abbrev eText (e : TEvent) : ByteArray := e.2.2.2.2.2.2.1
abbrev ePrev (e : TEvent) : List Int := e.2.2.2.2.2.2.2.1
abbrev eDepth (e : TEvent) : Int := e.2.2.2.2.2.2.2.2.1
def lev5 (l : List Int) : Bool := allN l.length (fun i => inR (rd 0 l i) 0 100) && ((l.length : Int) == 5)
def len0 {α : Type} (l : List α) : Bool := (l.length : Int) == 0
theorem gt0 {α : Type} (l : List α) : decide ((l.length : Int) > 0) = !len0 l := by
  unfold len0
  cases l with
  | nil => rfl
  | cons x l => simp; omega
def levOk (e : TEvent) : Bool := bif eKind e == 3 then lev5 (eLevels e) else len0 (eLevels e)
def okPrev (e : TEvent) (i : Nat) : Bool := inR (rd 0 (ePrev e) i) 1 1000000 && !(rd 0 (ePrev e) i == e.1) && (i == 0 || decide (rd 0 (ePrev e) (i - 1) < rd 0 (ePrev e) i))
def prevOk (e : TEvent) : Bool := allN (ePrev e).length (okPrev e) && (decide (((ePrev e).length : Int) ≤ 3) && ((eKind e == 1) == len0 (ePrev e)))
def emp (s : ByteArray) : Bool := s.toList == (⟨#[]⟩ : ByteArray).toList
def le24 (s : ByteArray) : Bool := decide ((s.size : Int) ≤ 24)
theorem emp_le24 (s : ByteArray) : (emp s = true ∧ le24 s = true) ∨ emp s = false := by
  cases h : emp s with
  | false => exact .inr rfl
  | true =>
    refine .inl ⟨rfl, ?_⟩
    unfold emp at h
    rw [str_beq] at h
    rw [of_decide_eq_true h]; rfl
/-- What a kind may be. -/
theorem kinds (n : Int) : ((n == 1) = true ∧ (n == 2) = false ∧ (n == 3) = false ∧ (n == 4) = false ∧ (n == 5) = false ∧ inR n 1 5 = true) ∨
    ((n == 1) = false ∧ (n == 2) = true ∧ (n == 3) = false ∧ (n == 4) = false ∧ (n == 5) = false ∧ inR n 1 5 = true) ∨
    ((n == 1) = false ∧ (n == 2) = false ∧ (n == 3) = true ∧ (n == 4) = false ∧ (n == 5) = false ∧ inR n 1 5 = true) ∨
    ((n == 1) = false ∧ (n == 2) = false ∧ (n == 3) = false ∧ (n == 4) = true ∧ (n == 5) = false ∧ inR n 1 5 = true) ∨
    ((n == 1) = false ∧ (n == 2) = false ∧ (n == 3) = false ∧ (n == 4) = false ∧ (n == 5) = true ∧ inR n 1 5 = true) ∨
    ((n == 1) = false ∧ (n == 2) = false ∧ (n == 3) = false ∧ (n == 4) = false ∧ (n == 5) = false ∧ inR n 1 5 = false) := by
  simp only [inR, beq_eq_false_iff_ne, beq_iff_eq, Bool.and_eq_true, Bool.and_eq_false_iff, decide_eq_true_eq, decide_eq_false_iff_not, ne_eq]
  omega
def body (e : TEvent) : Bool := inR (eKind e) 1 5 && inR (eSender e) 1 5 && levOk e &&
  (bif eKind e == 2 then inR (eUser e) 1 5 && inR (eMember e) 0 3 && emp (eText e) else (eUser e == 0) && (eMember e == 0) && le24 (eText e) && (eKind e == 4 || eKind e == 5 || emp (eText e)))
def eventOk (e : TEvent) : Bool := body e && inR e.1 1 1000000 && inR (eDepth e) 0 1000000 && prevOk e
/-! ### Texts -/
def varR (n : Int) : ByteArray × Bool := bif inR n 0 1000000000 then (varS n, true) else (⟨#[]⟩, false)
theorem varR_ok {n : Int} (h0 : 0 ≤ n) (h1 : n ≤ 1000000000) : varR n = (varS n, true) := by
  have : inR n 0 1000000000 = true := by simp [inR, h0, h1]
  rw [varR, this]; rfl
/-- What an event says. -/
def bytes4 (e : TEvent) : ByteArray := strOfNums [IntKind.wrap .u8 e.2.1, IntKind.wrap .u8 e.2.2.1, IntKind.wrap .u8 e.2.2.2.1, IntKind.wrap .u8 e.2.2.2.2.1]
def byteL (l : List Int) : ByteArray := strOfNums (l.map fun n => IntKind.wrap .u8 n)
theorem byteL_take {l : List Int} {i : Nat} (h : i < l.length) : byteL (l.take (i + 1)) = byteL (l.take i) ++ strOfNums [IntKind.wrap .u8 l[i]] := by
  unfold byteL
  rw [List.take_succ_eq_append_getElem h, List.map_append, strOfNums_append]
  rfl
theorem byteL_size (l : List Int) : (byteL l).size = l.length := by unfold byteL; rw [strOfNums_size, List.length_map]
def shortS (t : ByteArray) : ByteArray := varS (t.size : Int) ++ t
def mainS (e : TEvent) : ByteArray := bytes4 e ++ (varS ((eLevels e).length : Int) ++ byteL (eLevels e)) ++ shortS (eText e)
def textS (e : TEvent) : ByteArray := varS e.1 ++ mainS e ++ (varS ((ePrev e).length : Int) ++ catV (ePrev e)) ++ varS (eDepth e)
theorem inR_iff {a b c : Int} : inR a b c = true ↔ b ≤ a ∧ a ≤ c := by simp [inR]
theorem len0_iff {α : Type} {l : List α} : len0 l = true ↔ l = [] := by
  unfold len0
  cases l with
  | nil => simp
  | cons x l => simp; omega
theorem levOk_len {e : TEvent} (h : levOk e = true) : (eLevels e).length ≤ 5 ∧ (eKind e = 3 → (eLevels e).length = 5) := by
  unfold levOk at h
  cases hk : (eKind e == 3) with
  | true =>
    rw [hk] at h
    simp only [cond_true, lev5, Bool.and_eq_true, beq_iff_eq] at h
    omega
  | false =>
    rw [hk] at h
    simp only [cond_false] at h
    rw [len0_iff.1 h]
    simp only [beq_eq_false_iff_ne] at hk
    exact ⟨by simp, fun h => absurd h hk⟩
/-- What a body bears. -/
theorem body_facts {e : TEvent} (h : body e = true) : (1 ≤ eKind e ∧ eKind e ≤ 5) ∧ (1 ≤ eSender e ∧ eSender e ≤ 5) ∧ (eLevels e).length ≤ 5 ∧ (eText e).size ≤ 24 ∧ (0 ≤ eUser e ∧ eUser e ≤ 5) ∧ (0 ≤ eMember e ∧ eMember e ≤ 3) := by
  unfold body at h
  simp only [Bool.and_eq_true, inR_iff] at h
  obtain ⟨⟨⟨h1, h2⟩, h3⟩, h4⟩ := h
  have h5 := (levOk_len h3).1
  cases hk : (eKind e == 2) with
  | true =>
    rw [hk] at h4
    simp only [cond_true, Bool.and_eq_true, inR_iff] at h4
    obtain ⟨⟨h6, h7⟩, h8⟩ := h4
    rcases emp_le24 (eText e) with ⟨_, h9⟩ | h9
    · have := of_decide_eq_true h9
      exact ⟨h1, h2, h5, by omega, by omega, by omega⟩
    · rw [h8] at h9; cases h9
  | false =>
    rw [hk] at h4
    simp only [cond_false, Bool.and_eq_true, beq_iff_eq] at h4
    obtain ⟨⟨⟨h6, h7⟩, h8⟩, _⟩ := h4
    have := of_decide_eq_true h8
    exact ⟨h1, h2, h5, by omega, by omega, by omega⟩
theorem event_facts {e : TEvent} (h : eventOk e = true) : body e = true ∧ (1 ≤ e.1 ∧ e.1 ≤ 1000000) ∧ (0 ≤ eDepth e ∧ eDepth e ≤ 1000000) ∧ (ePrev e).length ≤ 3 ∧ (∀ n ∈ ePrev e, 1 ≤ n ∧ n ≤ 1000000) ∧ (eKind e = 1 ↔ ePrev e = []) := by
  unfold eventOk at h
  simp only [Bool.and_eq_true, inR_iff] at h
  obtain ⟨⟨⟨h1, h2⟩, h3⟩, h4⟩ := h
  unfold prevOk at h4
  simp only [Bool.and_eq_true, allN_iff, decide_eq_true_eq] at h4
  obtain ⟨h5, h6, h7⟩ := h4
  refine ⟨h1, h2, h3, by omega, fun n hn => ?_, ?_⟩
  · obtain ⟨i, hi, rfl⟩ := List.getElem_of_mem hn
    have := h5 i hi
    simp only [okPrev, Bool.and_eq_true, inR_iff, rd_at hi] at this
    exact this.1.1
  · rw [← len0_iff]
    cases hk : (eKind e == 1) <;> cases hl : len0 (ePrev e) <;> rw [hk, hl] at h7 <;> simp at hk h7 ⊢ <;> exact hk
theorem textS_parts {e : TEvent} (h : eventOk e = true) : (mainS e).size ≤ 100 ∧ (varS e.1).size ≤ 5 ∧ (varS (eDepth e)).size ≤ 5 ∧ (varS ((ePrev e).length : Int)).size ≤ 5 ∧ (catV (ePrev e)).size ≤ 15 := by
  obtain ⟨hb, h1, h2, h3, h4, _⟩ := event_facts h
  obtain ⟨_, _, h5, h6, _⟩ := body_facts hb
  have a1 := varS_size (n := ((eLevels e).length : Int)) (by omega)
  have a2 := varS_size (n := ((eText e).size : Int)) (by omega)
  have a3 := catV_size (l := ePrev e) (fun n hn => by have := h4 n hn; omega)
  refine ⟨?_, varS_size (by omega), varS_size (by omega), varS_size (by omega), by omega⟩
  unfold mainS shortS bytes4
  rw [ba_size, ba_size, ba_size, ba_size, byteL_size, strOfNums_size]
  simp only [List.length_cons, List.length_nil]
  omega
/-! ### Commands -/
def eqInts (a b : List Int) : Bool := ((a.length : Int) == (b.length : Int)) && allN a.length (fun i => rd 0 a i == rd 0 b i)
def eqText (a b : ByteArray) : Bool := a.toList == b.toList
def sameEv (a b : TEvent) : Bool := (a.1 == b.1) && (eKind a == eKind b) && (eSender a == eSender b) && (eUser a == eUser b) && (eMember a == eMember b) && eqText (eText a) (eText b) && (eDepth a == eDepth b) && eqInts (eLevels a) (eLevels b) && eqInts (ePrev a) (ePrev b)
theorem br_and (b x : Bool) : br b (some x) (some false) = some (b && x) := by cases b <;> rfl
abbrev noEv : TEvent := (0, 0, 0, 0, 0, [], ByteArray.empty, [], 0, ())
def sentOk (e : TEvent) : Bool := (e.1 == 0) && (eDepth e == 0) && len0 (ePrev e) && body e
def odd (n : Int) : Bool := Int.tmod n 2 == 1
/-! ### A command's text -/
theorem ba_nil (s : ByteArray) : s ++ (⟨#[]⟩ : ByteArray) = s := by apply ba_ext; simp
theorem text_size {e : TEvent} (h : eventOk e = true) : (textS e).size ≤ 1000 := by
  obtain ⟨z1, z2, z3, z4, z5⟩ := textS_parts h
  unfold textS
  rw [ba_size, ba_size, ba_size, ba_size]; omega
theorem main_size {e : TEvent} (h : body e = true) : (mainS e).size ≤ 100 := by
  obtain ⟨_, _, h5, h6, _⟩ := body_facts h
  have a1 := varS_size (n := ((eLevels e).length : Int)) (by omega)
  have a2 := varS_size (n := ((eText e).size : Int)) (by omega)
  unfold mainS shortS bytes4
  rw [ba_size, ba_size, ba_size, ba_size, byteL_size, strOfNums_size]
  simp only [List.length_cons, List.length_nil]
  omega
end Go.Vm
