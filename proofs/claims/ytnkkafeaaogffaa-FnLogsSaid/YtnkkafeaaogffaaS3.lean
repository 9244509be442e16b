/- ReadCommand gives what the reference's gives. -/
import Derived.Test.YtnkkafeaaogffaaR3
set_option linter.unusedVariables false
set_option linter.unusedSimpArgs false
namespace Go.Vm
open Go
abbrev noC : TCommand := (0, 0, 0, noEv, 0, 0, ())
def ReadsCmd (a : ByteArray) (v : TCommand × Bool) : Prop := (v = (noC, false) ∨ ∃ x, v = (x, true) ∧ commandOk x = true ∧ cmdS x = a) ∧ ∀ x, commandOk x = true → cmdS x = a → v = (x, true)
theorem ReadsCmd.eq {a : ByteArray} {v w : TCommand × Bool} (h1 : ReadsCmd a v) (h2 : ReadsCmd a w) : v = w := by
  rcases h1.1 with h | ⟨e, h, h3, h4⟩
  · rcases h2.1 with h' | ⟨e', h', h3', h4'⟩
    · rw [h, h']
    · rw [h1.2 e' h3' h4', h']
  · rw [h, h2.2 e h3 h4]
theorem done_eq (a : ByteArray) (q : Nat) (b : Bool) (k : Nat) : i_reader_done k (cur a q b) = some (!b && decide (q = a.size), cur a q b, ()) := by
  unfold i_reader_done
  cases b with
  | true => rfl
  | false =>
    have : (((q : Int) == (a.size : Int)) : Bool) = decide (q = a.size) := by
      by_cases h : q = a.size
      · simp [h]
      · rw [decide_eq_false h]; simp; omega
    show some (((q : Int) == (a.size : Int)), _, ()) = _
    rw [this]; rfl
def sTail (a : ByteArray) (k : Nat) (x : TCommand) (bad : Bool) : Option (TCommand × Bool) :=
  bd (s_CommandText k x) fun r12 => br bad (some (noC, false)) (br (!r12.2) (some (noC, false)) (br (!(r12.1.toList == a.toList)) (some (noC, false)) (some (x, true))))
theorem sTail_ev (a : ByteArray) (x : TCommand) (b : Bool) (hm : m_Command x ≤ 1048576) :
    Ev (fun k => sTail a k x b) (bif !b && (commandOk x && decide (cmdS x = a)) then (x, true) else (noC, false)) := by
  unfold sTail
  refine (s_CommandText_ev x hm).bd (.of fun k => ?_)
  cases commandOk x with
  | false => cases b <;> rfl
  | true =>
    simp only [cond_true, str_beq]
    cases b with
    | true => rfl
    | false => cases decide (cmdS x = a) <;> rfl
/-- A right command's op, and what stands for nothing. -/
theorem same_no {e : TEvent} (h : sameEv e noEv = true) : e = noEv := by
  obtain ⟨x0, x1, x2, x3, x4, l, t, p, d, ⟨⟩⟩ := e
  simp only [sameEv, Bool.and_eq_true, beq_iff_eq, eqText, eqInts, eKind, eSender, eUser, eMember, eText, eDepth, eLevels, ePrev] at h
  obtain ⟨⟨⟨⟨⟨⟨⟨⟨h0, h1⟩, h2⟩, h3⟩, h4⟩, h5⟩, h6⟩, h7⟩, h8⟩ := h
  have e5 : t = ByteArray.empty := by
    have := str_beq t ByteArray.empty
    rw [beq_iff_eq.2 h5] at this
    exact of_decide_eq_true this.symm
  have e7 : l = [] := by have := h7.1; simp at this; exact this
  have e8 : p = [] := by have := h8.1; simp at this; exact this
  subst e5; subst e7; subst e8; subst h0; subst h1; subst h2; subst h3; subst h4; subst h6
  rfl
theorem sent_shape {e : TEvent} (h : sentOk e = true) : e = (0, eKind e, eSender e, eUser e, eMember e, eLevels e, eText e, [], 0, ()) ∧ body e = true := by
  obtain ⟨x0, x1, x2, x3, x4, l, t, p, d, ⟨⟩⟩ := e
  simp only [sentOk, Bool.and_eq_true, beq_iff_eq] at h
  obtain ⟨⟨⟨h0, h1⟩, h2⟩, h3⟩ := h
  have := len0_iff.1 h2
  simp only [eDepth, ePrev] at h0 h1 this
  subst h0; subst h1; subst this
  exact ⟨rfl, h3⟩
theorem body_bytes {e : TEvent} (h : body e = true) : bytOk (eKind e) ∧ bytOk (eSender e) ∧ bytOk (eUser e) ∧ bytOk (eMember e) ∧ (∀ x ∈ eLevels e, bytOk x) ∧ (eLevels e).length ≤ 5 ∧ (eText e).size ≤ 24 := by
  have hb := body_facts h
  have hl : levOk e = true := by
    unfold body at h
    simp only [Bool.and_eq_true] at h
    exact h.1.2
  exact ⟨range_byte ⟨by omega, by omega⟩, range_byte ⟨by omega, by omega⟩, range_byte ⟨by omega, by omega⟩, range_byte ⟨by omega, by omega⟩, lev_bytes hl, by omega, by omega⟩
def cmdB (x : TCommand) (rest : ByteArray) : ByteArray := byteS x.1 ++ (varS x.2.1 ++ (varS x.2.2.1 ++ rest))
/-- A right command, by its op. -/
inductive Cmd (x : TCommand) : Prop where
  | sent (h1 : x.1 = 2) (e : x.2.2.2 = ((0, eKind x.2.2.2.1, eSender x.2.2.2.1, eUser x.2.2.2.1, eMember x.2.2.2.1, eLevels x.2.2.2.1, eText x.2.2.2.1, [], 0, ()), 0, 0, ())) (h2 : body x.2.2.2.1 = true) (h3 : cmdS x = cmdB x (mainB (eKind x.2.2.2.1) (eSender x.2.2.2.1) (eUser x.2.2.2.1) (eMember x.2.2.2.1) (eLevels x.2.2.2.1) (eText x.2.2.2.1)))
  | come (h1 : x.1 = 3) (e : x.2.2.2 = (x.2.2.2.1, 0, 0, ())) (h2 : eventOk x.2.2.2.1 = true) (h3 : cmdS x = cmdB x (shortS (textS x.2.2.2.1)))
  | ack (h1 : x.1 = 4) (e : x.2.2.2 = (noEv, x.2.2.2.2.1, x.2.2.2.2.2.1, ())) (h2 : numOk x.2.2.2.2.1) (h2' : numOk x.2.2.2.2.2.1) (h3 : cmdS x = cmdB x (varS x.2.2.2.2.1 ++ varS x.2.2.2.2.2.1))
  | bare (h1 : (x.1 == 2) = false) (h1' : (x.1 == 3) = false) (h1'' : (x.1 == 4) = false) (e : x.2.2.2 = (noEv, 0, 0, ())) (h3 : cmdS x = cmdB x ⟨#[]⟩)
theorem cmd_cases {x : TCommand} (h : commandOk x = true) : Cmd x ∧ bytOk x.1 ∧ numOk x.2.1 ∧ numOk x.2.2.1 := by
  obtain ⟨op, n1, n2, e, d, n, ⟨⟩⟩ := x
  have hf := cmd_facts h
  unfold commandOk at h
  simp only [Bool.and_eq_true] at h
  obtain ⟨⟨h1, h2⟩, h3⟩ := h
  have hn1 : numOk n1 := ⟨by have := hf.1; simp only at this; omega, by have := hf.1; simp only at this; omega⟩
  have hn2 : numOk n2 := ⟨by have := hf.2.1; simp only at this; omega, by have := hf.2.1; simp only at this; omega⟩
  have hop : op = 1 ∨ op = 2 ∨ op = 3 ∨ op = 4 ∨ op = 5 := by
    rcases kinds op with ⟨q1, q2, q3, q4, q5, q6⟩ | ⟨q1, q2, q3, q4, q5, q6⟩ | ⟨q1, q2, q3, q4, q5, q6⟩ | ⟨q1, q2, q3, q4, q5, q6⟩ | ⟨q1, q2, q3, q4, q5, q6⟩ | ⟨q1, q2, q3, q4, q5, q6⟩
    · exact .inl (by simpa using q1)
    · exact .inr (.inl (by simpa using q2))
    · exact .inr (.inr (.inl (by simpa using q3)))
    · exact .inr (.inr (.inr (.inl (by simpa using q4))))
    · exact .inr (.inr (.inr (.inr (by simpa using q5))))
    · simp only [q1, q2, q3, q4, q5, cond_false] at h3; cases h3
  refine ⟨?_, ⟨by simp only; omega, by simp only; omega⟩, hn1, hn2⟩
  rcases hop with rfl | rfl | rfl | rfl | rfl
  · simp only [beq_self_eq_true, cond_true, Bool.and_eq_true, beq_iff_eq] at h3
    obtain ⟨⟨⟨⟨g1, g2⟩, g3⟩, _⟩, _⟩ := h3
    refine .bare rfl rfl rfl ?_ ?_
    · rw [same_no g1, g2, g3]
    · unfold cmdS cmdB byteS; simp only [ba_assoc]; rfl
  · have h3 : (d == 0) = true ∧ (n == 0) = true ∧ sentOk e = true := by
      simp only [show ((2 : Int) == 1) = false from rfl, cond_false, beq_self_eq_true, cond_true, Bool.and_eq_true] at h3
      exact ⟨h3.1.1, h3.1.2, h3.2⟩
    obtain ⟨g1, g2, g3⟩ := h3
    obtain ⟨g4, g5⟩ := sent_shape g3
    obtain ⟨k1, k2, k3, k4, k5, _⟩ := body_bytes g5
    refine .sent rfl ?_ g5 ?_
    · simp only [beq_iff_eq] at g1 g2
      simp only
      rw [g1, g2, ← g4]
    · unfold cmdS cmdB byteS; simp only [ba_assoc]
      rw [← mainS_eq k1 k2 k3 k4 k5]; rfl
  · have h3 : (d == 0) = true ∧ (n == 0) = true ∧ eventOk e = true := by
      simp only [show ((3 : Int) == 1) = false from rfl, show ((3 : Int) == 2) = false from rfl, cond_false, beq_self_eq_true, cond_true, Bool.and_eq_true] at h3
      exact ⟨h3.1.1.1, h3.1.1.2, h3.1.2⟩
    obtain ⟨g1, g2, g3⟩ := h3
    refine .come rfl ?_ g3 ?_
    · simp only [beq_iff_eq] at g1 g2
      simp only
      rw [g1, g2]
    · unfold cmdS cmdB byteS; simp only [ba_assoc]; rfl
  · have h3 : sameEv e noEv = true ∧ inR d 1 2 = true ∧ inR n 0 1000000 = true := by
      simp only [show ((4 : Int) == 1) = false from rfl, show ((4 : Int) == 2) = false from rfl, show ((4 : Int) == 3) = false from rfl, cond_false, beq_self_eq_true, cond_true, Bool.and_eq_true] at h3
      exact ⟨h3.1.1, h3.1.2, h3.2⟩
    obtain ⟨g1, g2, g3⟩ := h3
    have g2 := inR_iff.1 g2
    have g3 := inR_iff.1 g3
    refine .ack rfl ?_ ⟨by simp only; omega, by simp only; omega⟩ ⟨by simp only; omega, by simp only; omega⟩ ?_
    · simp only
      rw [same_no g1]
    · unfold cmdS cmdB byteS; simp only [ba_assoc]; rfl
  · have h3 : sameEv e noEv = true ∧ (d == 0) = true ∧ (n == 0) = true := by
      simp only [show ((5 : Int) == 1) = false from rfl, show ((5 : Int) == 2) = false from rfl, show ((5 : Int) == 3) = false from rfl, show ((5 : Int) == 4) = false from rfl, cond_false, beq_self_eq_true, cond_true, Bool.and_eq_true] at h3
      exact ⟨h3.1.1, h3.1.2, h3.2⟩
    obtain ⟨g1, g2, g3⟩ := h3
    refine .bare rfl rfl rfl ?_ ?_
    · simp only [beq_iff_eq] at g2 g3
      simp only
      rw [same_no g1, g2, g3]
    · unfold cmdS cmdB byteS; simp only [ba_assoc]; rfl
theorem cmd_small {x : TCommand} (h : commandOk x = true) : m_Command x ≤ 1000 := by
  obtain ⟨h, _⟩ := cmd_cases h
  obtain ⟨op, n1, n2, e, d, n, ⟨⟩⟩ := x
  show (eLevels e).length + ((eText e).size + ((ePrev e).length + 0)) + 0 ≤ 1000
  cases h with
  | sent _ q h2 _ =>
    have := body_bytes h2
    have q2 : e = _ := congrArg (fun z => z.1) q
    have : ePrev e = [] := by rw [q2]
    rw [this]
    simp only [List.length_nil] at *
    omega
  | come _ _ h2 _ =>
    have := event_bytes h2
    simp only at this
    omega
  | ack _ q _ _ _ =>
    have q2 : e = noEv := congrArg (fun z => z.1) q
    subst q2
    show 0 + (0 + (0 + 0)) + 0 ≤ 1000
    omega
  | bare _ _ _ q _ =>
    have q2 : e = noEv := congrArg (fun z => z.1) q
    subst q2
    show 0 + (0 + (0 + 0)) + 0 ≤ 1000
    omega
theorem reads_of {a : ByteArray} {x : TCommand} {g : Bool} (h1 : g = true → commandOk x = true ∧ cmdS x = a) (h2 : ∀ y, commandOk y = true → cmdS y = a → g = true ∧ y = x) : ReadsCmd a (bif g then (x, true) else (noC, false)) := by
  cases g with
  | true => exact ⟨.inr ⟨x, rfl, h1 rfl⟩, fun y hy hc => by rw [(h2 y hy hc).2]; rfl⟩
  | false => exact ⟨.inl rfl, fun y hy hc => by cases (h2 y hy hc).1⟩
theorem catB_byte_size : ∀ l : List Int, (catB byteS l).size = l.length
  | [] => rfl
  | x :: l => by
    have h : (byteS x).size = 1 := strOfNums_size _
    rw [catB, ba_size, catB_byte_size l, h, List.length_cons]; omega
theorem mainB_size (x1 x2 x3 x4 : Int) (l : List Int) (t : ByteArray) : l.length + t.size ≤ (mainB x1 x2 x3 x4 l t).size := by
  unfold mainB
  simp only [ba_size, catB_byte_size, shortS_size]
  omega
/-- The head of a command that is read: what it is of any right command's text. -/
theorem head_full {a : ByteArray} {x0 x1 x2 : Int} {q0 q1 q2 : Nat} {b0 b1 b2 : Bool} (R0 : Rd a byteS bytOk 0 0 false x0 q0 b0) (R1 : Rd a varS numOk 0 q0 b0 x1 q1 b1) (R2 : Rd a varS numOk 0 q1 b1 x2 q2 b2)
    {y : TCommand} {rest : ByteArray} (h0 : bytOk y.1) (h1 : numOk y.2.1) (h2 : numOk y.2.2.1) (hs : Sits a 0 (cmdB y rest)) :
    x0 = y.1 ∧ x1 = y.2.1 ∧ x2 = y.2.2.1 ∧ b2 = false ∧ Sits a q2 rest ∧ (cmdB y rest).size = q2 + rest.size := by
  unfold cmdB at hs ⊢
  obtain ⟨c, hs⟩ := sits_append.1 hs
  obtain ⟨e0, z0, hb⟩ := R0.full rfl _ h0 c; rw [← z0] at hs
  obtain ⟨c, hs⟩ := sits_append.1 hs
  obtain ⟨e1, z1, hb⟩ := R1.full hb _ h1 c; rw [← z1] at hs
  obtain ⟨c, hs⟩ := sits_append.1 hs
  obtain ⟨e2, z2, hb⟩ := R2.full hb _ h2 c; rw [← z2] at hs
  exact ⟨e0, e1, e2, hb, hs, by simp only [ba_size]; omega⟩
theorem head_sound {a : ByteArray} {x0 x1 x2 : Int} {q0 q1 q2 : Nat} {b0 b1 b2 : Bool} (R0 : Rd a byteS bytOk 0 0 false x0 q0 b0) (R1 : Rd a varS numOk 0 q0 b0 x1 q1 b1) (R2 : Rd a varS numOk 0 q1 b1 x2 q2 b2)
    (hb : b2 = false) (e : TEvent × Int × Int × Unit) {rest : ByteArray} (hs : Sits a q2 rest) : Sits a 0 (cmdB (x0, x1, x2, e) rest) ∧ (cmdB (x0, x1, x2, e) rest).size = q2 + rest.size := by
  have hb1 : b1 = false := by cases b1 with | false => rfl | true => have := (R2.bad rfl).2.2; rw [this] at hb; cases hb
  have hb0 : b0 = false := by cases b0 with | false => rfl | true => have := (R1.bad rfl).2.2; rw [this] at hb1; cases hb1
  obtain ⟨_, z0, s0⟩ := R0.sound hb0
  obtain ⟨_, z1, s1⟩ := R1.sound hb1
  obtain ⟨_, z2, s2⟩ := R2.sound hb
  unfold cmdB
  refine ⟨sits_append.2 ⟨s0, sits_append.2 ⟨by rw [← z0]; exact s1, sits_append.2 ⟨by rw [← z0, ← z1]; exact s2, by rw [← z0, ← z1, ← z2]; exact hs⟩⟩⟩, ?_⟩
  simp only [ba_size]; omega
theorem beq_ne {a b : Int} (h : a ≠ b) : (a == b) = false := by simpa using h
/-- A right command's op, and its text, by its op. -/
theorem cmd_two {x : TCommand} (h : commandOk x = true) (h2 : x.1 = 2) : x.2.2.2 = ((0, eKind x.2.2.2.1, eSender x.2.2.2.1, eUser x.2.2.2.1, eMember x.2.2.2.1, eLevels x.2.2.2.1, eText x.2.2.2.1, [], 0, ()), 0, 0, ()) ∧ body x.2.2.2.1 = true ∧
    cmdS x = cmdB x (mainB (eKind x.2.2.2.1) (eSender x.2.2.2.1) (eUser x.2.2.2.1) (eMember x.2.2.2.1) (eLevels x.2.2.2.1) (eText x.2.2.2.1)) := by
  obtain ⟨hc, _⟩ := cmd_cases h
  cases hc with
  | sent _ e h3 h4 => exact ⟨e, h3, h4⟩
  | come h1 => omega
  | ack h1 => omega
  | bare h1 => simp [h2] at h1
theorem cmd_three {x : TCommand} (h : commandOk x = true) (h2 : x.1 = 3) : x.2.2.2 = (x.2.2.2.1, 0, 0, ()) ∧ eventOk x.2.2.2.1 = true ∧ cmdS x = cmdB x (shortS (textS x.2.2.2.1)) := by
  obtain ⟨hc, _⟩ := cmd_cases h
  cases hc with
  | sent h1 => omega
  | come _ e h3 h4 => exact ⟨e, h3, h4⟩
  | ack h1 => omega
  | bare _ h1 => simp [h2] at h1
theorem cmd_four {x : TCommand} (h : commandOk x = true) (h2 : x.1 = 4) : x.2.2.2 = (noEv, x.2.2.2.2.1, x.2.2.2.2.2.1, ()) ∧ numOk x.2.2.2.2.1 ∧ numOk x.2.2.2.2.2.1 ∧ cmdS x = cmdB x (varS x.2.2.2.2.1 ++ varS x.2.2.2.2.2.1) := by
  obtain ⟨hc, _⟩ := cmd_cases h
  cases hc with
  | sent h1 => omega
  | come h1 => omega
  | ack _ e h3 h3' h4 => exact ⟨e, h3, h3', h4⟩
  | bare _ _ h1 => simp [h2] at h1
theorem cmd_bare {x : TCommand} (h : commandOk x = true) (h2 : x.1 ≠ 2) (h3 : x.1 ≠ 3) (h4 : x.1 ≠ 4) : x.2.2.2 = (noEv, 0, 0, ()) ∧ cmdS x = cmdB x ⟨#[]⟩ := by
  obtain ⟨hc, _⟩ := cmd_cases h
  cases hc with
  | sent h1 => omega
  | come h1 => omega
  | ack h1 => omega
  | bare _ _ _ e h5 => exact ⟨e, h5⟩
theorem text_size_le {a : ByteArray} {p q : Nat} {b b' : Bool} {t : ByteArray} {n : Nat} (R : Rd a shortS (txtOk n) (⟨#[]⟩ : ByteArray) p b t q b') : t.size ≤ q - p := by
  cases h : b' with
  | true => rw [R.badv h]; show 0 ≤ _; omega
  | false => have := (R.sound h).2.1; rw [shortS_size] at this; omega

theorem i_end {a : ByteArray} {x : TCommand} {q : Nat} {b : Bool} (hs : b = false → q = a.size → commandOk x = true → cmdS x = a) (hf : ∀ y, commandOk y = true → cmdS y = a → b = false ∧ q = a.size ∧ y = x) :
    ReadsCmd a (bif (!b && decide (q = a.size)) && commandOk x then (x, true) else (noC, false)) := by
  refine reads_of (fun hg => ?_) (fun y hy hc => ?_)
  · simp only [Bool.and_eq_true, Bool.not_eq_true', decide_eq_true_eq] at hg
    exact ⟨hg.2, hs hg.1.1 hg.1.2 hg.2⟩
  · obtain ⟨h1, h2, h3⟩ := hf y hy hc
    refine ⟨?_, h3⟩
    subst h3
    rw [h1, decide_eq_true h2, hy]; rfl
theorem s_end {a : ByteArray} {x : TCommand} {b : Bool} (hf : ∀ y, commandOk y = true → cmdS y = a → b = false ∧ y = x) :
    ReadsCmd a (bif !b && (commandOk x && decide (cmdS x = a)) then (x, true) else (noC, false)) := by
  refine reads_of (fun hg => ?_) (fun y hy hc => ?_)
  · simp only [Bool.and_eq_true, Bool.not_eq_true', decide_eq_true_eq] at hg
    exact hg.2
  · obtain ⟨h1, h3⟩ := hf y hy hc
    refine ⟨?_, h3⟩
    subst h3
    rw [h1, decide_eq_true hc, hy]; rfl
section
variable {a : ByteArray} {x0 x1 x2 : Int} {q0 q1 q2 : Nat} {b0 b1 b2 : Bool} (R0 : Rd a byteS bytOk 0 0 false x0 q0 b0) (R1 : Rd a varS numOk 0 q0 b0 x1 q1 b1) (R2 : Rd a varS numOk 0 q1 b1 x2 q2 b2)
include R0 R1 R2
theorem head_of {y : TCommand} (hy : commandOk y = true) (hc : cmdS y = a) {rest : ByteArray} (h4 : cmdS y = cmdB y rest) :
    x0 = y.1 ∧ x1 = y.2.1 ∧ x2 = y.2.2.1 ∧ b2 = false ∧ Sits a q2 rest ∧ a.size = q2 + rest.size := by
  obtain ⟨_, g0, g1, g2⟩ := cmd_cases hy
  have hsz : (cmdS y).size = a.size := by rw [hc]
  have hs : Sits a 0 (cmdS y) := by rw [hc]; exact sits_self a
  rw [h4] at hs hsz
  obtain ⟨e0, e1, e2, hb2, hs, hz⟩ := head_full R0 R1 R2 g0 g1 g2 hs
  exact ⟨e0, e1, e2, hb2, hs, by omega⟩
theorem op_of {y : TCommand} (hy : commandOk y = true) (hc : cmdS y = a) : y.1 = x0 := by
  obtain ⟨hcs, _⟩ := cmd_cases hy
  cases hcs with
  | sent _ _ _ h4 => exact (head_of R0 R1 R2 hy hc h4).1.symm
  | come _ _ _ h4 => exact (head_of R0 R1 R2 hy hc h4).1.symm
  | ack _ _ _ _ h4 => exact (head_of R0 R1 R2 hy hc h4).1.symm
  | bare _ _ _ _ h4 => exact (head_of R0 R1 R2 hy hc h4).1.symm
theorem full_two (o2 : x0 = 2) {y : TCommand} (hy : commandOk y = true) (hc : cmdS y = a) : ∃ y1 y2 y3 y4 m u, y = (x0, x1, x2, (0, y1, y2, y3, y4, m, u, [], 0, ()), 0, 0, ()) ∧ b2 = false ∧
    bytOk y1 ∧ bytOk y2 ∧ bytOk y3 ∧ bytOk y4 ∧ (∀ x ∈ m, bytOk x) ∧ m.length ≤ 5 ∧ u.size ≤ 24 ∧ Sits a q2 (mainB y1 y2 y3 y4 m u) ∧ a.size = q2 + (mainB y1 y2 y3 y4 m u).size := by
  have ho := op_of R0 R1 R2 hy hc
  obtain ⟨he, hbd, h4⟩ := cmd_two hy (ho.trans o2)
  obtain ⟨e0, e1, e2, hb2, hs, hz⟩ := head_of R0 R1 R2 hy hc h4
  obtain ⟨k1, k2, k3, k4, k5, k6, k7⟩ := body_bytes hbd
  refine ⟨_, _, _, _, _, _, ?_, hb2, k1, k2, k3, k4, k5, k6, k7, hs, hz⟩
  obtain ⟨z0, z1, z2, z3⟩ := y
  simp only at he e0 e1 e2
  rw [e0, e1, e2, ← he]
theorem full_three (o3 : x0 = 3) {n : Nat} (hn : 1000 ≤ n) {t : ByteArray} {q : Nat} {b : Bool} (R3 : Rd a shortS (txtOk n) (⟨#[]⟩ : ByteArray) q2 b2 t q b) {e : TEvent} {ok : Bool} (hre : ReadsEv t (e, ok)) {y : TCommand} (hy : commandOk y = true) (hc : cmdS y = a) :
    b = false ∧ ok = true ∧ q = a.size ∧ y = (x0, x1, x2, e, 0, 0, ()) := by
  have ho := op_of R0 R1 R2 hy hc
  obtain ⟨he, hev, h4⟩ := cmd_three hy (ho.trans o3)
  obtain ⟨e0, e1, e2, hb2, hs, hz⟩ := head_of R0 R1 R2 hy hc h4
  have h5 := text_size hev
  obtain ⟨f1, f2, f3⟩ := R3.full hb2 _ (show (textS y.2.2.2.1).size ≤ n by omega) hs
  have h6 := hre.2 _ hev f1.symm
  obtain ⟨rfl, rfl⟩ := Prod.mk.inj h6
  refine ⟨f3, rfl, by omega, ?_⟩
  obtain ⟨z0, z1, z2, z3⟩ := y
  simp only at he e0 e1 e2 ⊢
  rw [e0, e1, e2, ← he]
theorem full_four (o4 : x0 = 4) {d n : Int} {q3 q4 : Nat} {b3 b4 : Bool} (R3 : Rd a varS numOk 0 q2 b2 d q3 b3) (R4 : Rd a varS numOk 0 q3 b3 n q4 b4) {y : TCommand} (hy : commandOk y = true) (hc : cmdS y = a) :
    b4 = false ∧ q4 = a.size ∧ y = (x0, x1, x2, noEv, d, n, ()) := by
  have ho := op_of R0 R1 R2 hy hc
  obtain ⟨he, hd, hn, h4⟩ := cmd_four hy (ho.trans o4)
  obtain ⟨e0, e1, e2, hb2, hs, hz⟩ := head_of R0 R1 R2 hy hc h4
  obtain ⟨c, hs⟩ := sits_append.1 hs
  obtain ⟨f1, z1, hb⟩ := R3.full hb2 _ hd c; rw [← z1] at hs
  obtain ⟨f2, z2, hb⟩ := R4.full hb _ hn hs
  refine ⟨hb, by simp only [ba_size] at hz; omega, ?_⟩
  obtain ⟨z0, z1, z2, z3⟩ := y
  simp only at he e0 e1 e2 f1 f2 ⊢
  rw [e0, e1, e2, he, f1, f2]
theorem full_bare (o2 : x0 ≠ 2) (o3 : x0 ≠ 3) (o4 : x0 ≠ 4) {y : TCommand} (hy : commandOk y = true) (hc : cmdS y = a) : b2 = false ∧ q2 = a.size ∧ y = (x0, x1, x2, noEv, 0, 0, ()) := by
  have ho := op_of R0 R1 R2 hy hc
  obtain ⟨he, h4⟩ := cmd_bare hy (ho ▸ o2) (ho ▸ o3) (ho ▸ o4)
  obtain ⟨e0, e1, e2, hb2, hs, hz⟩ := head_of R0 R1 R2 hy hc h4
  refine ⟨hb2, by rw [hz]; rfl, ?_⟩
  obtain ⟨z0, z1, z2, z3⟩ := y
  simp only at he e0 e1 e2 ⊢
  rw [e0, e1, e2, he]
end
theorem reads_small {t : ByteArray} {e : TEvent} {ok : Bool} (hre : ReadsEv t (e, ok)) : m_Event e ≤ 1000 := by
  rcases hre.1 with h | ⟨e', h, h5, _⟩
  · cases h; show 0 + (0 + (0 + 0)) ≤ 1000; omega
  · cases h
    have := event_bytes h5
    show (eLevels e).length + ((eText e).size + ((ePrev e).length + 0)) ≤ 1000
    omega
end Go.Vm
