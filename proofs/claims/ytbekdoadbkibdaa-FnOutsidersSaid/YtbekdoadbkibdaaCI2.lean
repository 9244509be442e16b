/- Plain laws. -/
import Derived.Test.YtbekdoadbkibdaaBI2
set_option linter.unusedVariables false
set_option linter.unusedSimpArgs false
namespace Go.Vm
open Go
theorem member_item {es : List TEvent} (hz : NoZ es) {s : List TItem} {u : Int} (h : member es s u ≠ 0) : noMember s = false := by
  unfold member at h
  cases hq : inR u 1 5 && ((findE es (atS s (10 + u))).2 && ((findE es (atS s (10 + u))).1.2.1 == 2 && (findE es (atS s (10 + u))).1.2.2.2.1 == u)) with
  | false => rw [hq] at h; exact absurd rfl h
  | true =>
    simp only [Bool.and_eq_true] at hq
    have hu := inR_iff.1 hq.1
    cases hf : s.find? fun x => x.1 == 10 + u with
    | none =>
      have e0 : atS s (10 + u) = 0 := by unfold atS; rw [hf]; rfl
      rw [e0, findE_zero hz] at hq
      cases hq.2.1
    | some x =>
      have hx := List.find?_some hf
      have hm := List.mem_of_find?_eq_some hf
      obtain ⟨i, hi, rfl⟩ := List.getElem_of_mem hm
      cases hn : noMember s with
      | false => rfl
      | true =>
        unfold noMember at hn
        have := allN_iff.1 hn i hi
        rw [rd_at hi] at this
        have e1 : s[i].1 = 10 + u := by simpa using hx
        rw [decide_eq_true (show s[i].1 > 10 by omega)] at this
        cases this
theorem not_joined {es : List TEvent} {s : List TItem} {e : TEvent} (h : member es s e.2.2.1 ≠ 2) (hk : e.2.1 = 5 ∨ e.2.1 = 4 ∨ (e.2.1 = 2 ∧ e.2.2.2.1 ≠ e.2.2.1)) : allowed es s e = false := by
  cases ha : allowed es s e with
  | false => rfl
  | true =>
    exfalso
    unfold allowed at ha
    simp only [Bool.and_eq_true] at ha
    obtain ⟨_, ha⟩ := ha
    rcases hk with k | k | ⟨k, hu⟩
    · rw [k] at ha; simp at ha; exact h ha.2.2
    · rw [k] at ha; simp at ha; exact h ha.2.2.1
    · rw [k] at ha; simp at ha
      have hmo := ha.2.2
      unfold memberOk at hmo
      rw [beq_ne0 hu] at hmo
      unfold otherOk at hmo
      simp only [cond_false, Bool.and_eq_true] at hmo
      exact h (by simpa using hmo.1)
theorem banned_stays {es : List TEvent} (hz : NoZ es) {s : List TItem} {e : TEvent} (h3 : member es s e.2.2.1 = 3) (hk : e.2.1 = 2 ∧ e.2.2.2.1 = e.2.2.1 ∧ e.2.2.2.2.1 = 2) : allowed es s e = false := by
  cases ha : allowed es s e with
  | false => rfl
  | true =>
    exfalso
    unfold allowed at ha
    simp only [Bool.and_eq_true] at ha
    obtain ⟨_, ha⟩ := ha
    rw [hk.1] at ha; simp at ha
    have hmo := ha.2.2
    unfold memberOk selfOk at hmo
    rw [hk.2.1, hk.2.2, h3, member_item hz (s := s) (u := e.2.2.1) (by omega)] at hmo
    simp at hmo
theorem FnOutsiders_ev (a : List Int) : Ev (fun k => l_FnOutsiders k a) true := by
  refine Re.eq ?_
  simp only [l_FnOutsiders, g_l_FnOutsiders]
  refine Re.s1 (v := decide ((a.length : Int) > 1048576)) (fun k => rfl) ?_
  refine Re.brd (fun _ => Re.ret rfl) (fun hl => ?_)
  refine Re.b1 (drawNextEvent_re a (by omega)) fun q hq => ?_
  obtain ⟨r, e⟩ := q
  obtain ⟨hD, hN⟩ := hq
  simp only at hD hN
  have hI := hD.1
  have hz := hD.noZ
  have hc := hI.copyS
  have hm := hN.small
  have hlen := hI.len
  have hsl := stateL_length hI
  refine Re.c1 (s_StateOf_ev r hI) ?_
  generalize stateL r = s at hsl ⊢
  have hF : Fits r.1 s := ⟨by omega, by omega⟩
  have hA := fun (s : List TItem) (hs : s.length ≤ 16) (e : TEvent) (h : m_Event e ≤ 1000) => i_Allowed_ev r.1 hc hz s (by omega) e (by omega)
  refine Re.c1 (hA s hsl e hm) (Re.c1 (s_Allowed_ev r.1 s hF e (by omega)) ?_)
  refine Re.br (fun h => by simp at h) (fun _ => ?_)
  refine Re.enter (f := fun k n => l0_l_FnOutsiders k n 1 (r, e) s) among_nat ?_
  have small : ∀ k u w m : Int, m_Event (91, k, u, w, m, [], ByteArray.empty, [1], 1, ()) ≤ 1000 := fun k u w m => by show 0 + (0 + (1 + 0)) ≤ 1000; omega
  have hcr : m_Event (91, 1, 1, 0, 0, [], ByteArray.empty, [], 0, ()) ≤ 1000 := by show 0 + (0 + (0 + 0)) ≤ 1000; omega
  have := Re.loop (ι := Nat) (l := fun k n (i : Nat) => l0_l_FnOutsiders k n ((i + 1 : Nat) : Int) (r, e) s) (I := fun i => i ≤ 5) (fun i => 5 - i) (Q := fun _ v => v = true) (fun i hi ih => by
    simp only [l0_l_FnOutsiders, b0_l_FnOutsiders]
    refine Re.brd (fun q => ?_) (fun q => ?_)
    · have hi5 : i < 5 := by omega
      have e2 : w64 (((i + 1 : Nat) : Int) + 1) = ((i + 1 + 1 : Nat) : Int) := by rw [w64_eq (by omega) (by omega)]; omega
      have next := ih (i + 1) (by omega) (by omega)
      rw [e2]
      refine Re.c2 (i_MemberOf_ev r.1 hc hz s (by omega) _) ?_
      refine Re.bre (fun _ => next) (fun hj => ?_)
      refine Re.ng (by simp) ?_
      refine Re.c2 (hA s hsl _ (small _ _ _ _)) ?_
      rw [not_joined (e := (91, 5, ((i + 1 : Nat) : Int), 0, 0, [], ByteArray.empty, [1], 1, ())) hj (.inl rfl)]
      refine Re.br (b := false) (fun h => by cases h) (fun _ => Re.c2 (hA s hsl _ (small _ _ _ _)) ?_)
      rw [not_joined (e := (91, 4, ((i + 1 : Nat) : Int), 0, 0, [], ByteArray.empty, [1], 1, ())) hj (.inr (.inl rfl))]
      refine Re.br (b := false) (fun h => by cases h) (fun _ => Re.c2 (hA s hsl _ (small _ _ _ _)) ?_)
      have hne : w64 (Int.tmod ((i + 1 : Nat) : Int) 5 + 1) ≠ ((i + 1 : Nat) : Int) := by
        rcases (show i = 0 ∨ i = 1 ∨ i = 2 ∨ i = 3 ∨ i = 4 by omega) with h | h | h | h | h <;> subst h <;> decide
      rw [not_joined (e := (91, 2, ((i + 1 : Nat) : Int), w64 (Int.tmod ((i + 1 : Nat) : Int) 5 + 1), 1, [], ByteArray.empty, [1], 1, ())) hj (.inr (.inr ⟨rfl, hne⟩))]
      refine Re.br (b := false) (fun h => by cases h) (fun _ => Re.c2 (hA s hsl _ (small _ _ _ _)) ?_)
      refine Re.br (fun hal => ?_) (fun _ => next)
      refine Re.bre (fun h3 => ?_) (fun _ => next)
      have := banned_stays hz (e := (91, 2, ((i + 1 : Nat) : Int), ((i + 1 : Nat) : Int), 2, [], ByteArray.empty, [1], 1, ())) h3 ⟨rfl, rfl, rfl⟩
      rw [this] at hal; cases hal
    · refine Re.c2 (hA [] (by simp) _ hcr) ?_
      have e1 : allowed r.1 [] (91, 1, 1, 0, 0, [], ByteArray.empty, [], 0, ()) = true := by
        unfold allowed
        rw [newE_ok 91 ⟨by omega, by omega⟩]; rfl
      rw [e1]
      refine Re.br (b := true) (fun _ => ?_) (fun h => by cases h)
      refine Re.br (fun _ => Re.ret rfl) (fun h0 => Re.c2 (hA s hsl _ hcr) (Re.ret ?_))
      unfold allowed
      rw [newE_ok 91 ⟨by omega, by omega⟩]
      show (!(true && ((s.length : Int) == 0))) = true
      rw [h0]; rfl) 0 (Nat.zero_le _)
  exact this
end Go.Vm
