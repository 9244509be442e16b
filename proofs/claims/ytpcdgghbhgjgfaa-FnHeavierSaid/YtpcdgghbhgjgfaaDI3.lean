/- Plain laws. -/
import Derived.Test.YtpcdgghbhgjgfaaAI3
set_option linter.unusedVariables false
set_option linter.unusedSimpArgs false
namespace Go.Vm
open Go
/-! ### The program's order -/
theorem i_isHeavy_eq (k : Nat) (e : TEvent) : i_isHeavy k e = some (heavy e) := by
  unfold i_isHeavy heavy
  cases e.2.1 == 3 <;> cases e.2.1 == 2 <;> cases e.2.2.2.2.1 == 0 <;> cases e.2.2.2.2.1 == 3 <;> rfl
theorem i_Heavier_ev (es : List TEvent) (hc : CopyS es) (hz : NoZ es) (s : List TItem) (hs : s.length ≤ 1048576) (a b : TEvent) : Ev (fun k => i_Heavier k es s a b) (heavier es s a b) := by
  refine Re.eq (Re.s1 (i_isHeavy_eq · _) (Re.s1 (i_isHeavy_eq · _) ?_))
  unfold heavier
  cases heavy a == heavy b with
  | false => exact Re.br (b := true) (fun _ => Re.s1 (i_isHeavy_eq · _) (Re.ret rfl)) (fun h => by cases h)
  | true =>
    refine Re.br (b := false) (fun h => by cases h) (fun _ => Re.c1 (i_LevelOf_ev es hc hz s hs _) (Re.c1 (i_LevelOf_ev es hc hz s hs _) ?_))
    refine Re.brn (fun q => Re.ret (by simp [q])) (fun q => ?_)
    exact Re.brn (fun q2 => Re.ret (by simp [q, q2])) (fun q2 => Re.ret (by simp [q, q2]))
/-! ### The first of some -/
theorem heavier_iff {es : List TEvent} {s : List TItem} {a b : TEvent} : heavier es s a b = true ↔ (heavy a = true ∧ heavy b = false) ∨ (heavy a = heavy b ∧ (level es s a.2.2.1 > level es s b.2.2.1 ∨ (level es s a.2.2.1 = level es s b.2.2.1 ∧ (a.2.2.2.2.2.2.2.2.1 < b.2.2.2.2.2.2.2.2.1 ∨ (a.2.2.2.2.2.2.2.2.1 = b.2.2.2.2.2.2.2.2.1 ∧ a.1 < b.1))))) := by
  unfold heavier
  generalize level es s a.2.2.1 = la
  generalize level es s b.2.2.1 = lb
  generalize a.2.2.2.2.2.2.2.2.1 = da
  generalize b.2.2.2.2.2.2.2.2.1 = db
  have base : (if la = lb then (if da = db then decide (a.1 < b.1) else decide (da < db)) else decide (la > lb)) = true ↔ (la > lb ∨ (la = lb ∧ (da < db ∨ (da = db ∧ a.1 < b.1)))) := by
    by_cases q : la = lb
    · rw [if_pos q]
      by_cases q2 : da = db
      · rw [if_pos q2, decide_eq_true_iff]; omega
      · rw [if_neg q2, decide_eq_true_iff]; omega
    · rw [if_neg q, decide_eq_true_iff]; omega
  cases ha : heavy a <;> cases hb : heavy b
  · simpa using base
  · simp
  · simp
  · simpa using base
theorem heavier_asymm {es : List TEvent} {s : List TItem} {a b : TEvent} (h : heavier es s a b = true) : heavier es s b a = false := by
  rw [Bool.eq_false_iff]
  intro h2
  rw [heavier_iff] at h h2
  rcases h with ⟨h1, h3⟩ | ⟨h1, h3⟩ <;> rcases h2 with ⟨g1, g3⟩ | ⟨g1, g3⟩
  · rw [h1] at g3; cases g3
  · rw [h1, h3] at g1; cases g1
  · rw [g1, g3] at h1; cases h1
  · omega
def Best (es : List TEvent) (s : List TItem) (C : Int → Prop) (b : TEvent) : Prop := ∃ x, C x ∧ b = (findE es x).1 ∧ ∀ y, C y → y ≠ x → heavier es s (findE es x).1 (findE es y).1 = true
theorem Best.eq {es : List TEvent} {s : List TItem} {C D : Int → Prop} {a b : TEvent} (hCD : ∀ x, C x ↔ D x) (h : Best es s C a) (h' : Best es s D b) : a = b := by
  obtain ⟨x, h1, rfl, h3⟩ := h
  obtain ⟨y, h4, rfl, h6⟩ := h'
  by_cases q : x = y
  · rw [q]
  · have g1 := h3 y ((hCD y).2 h4) (fun e => q e.symm)
    have g2 := h6 x ((hCD x).1 h1) q
    rw [heavier_asymm g1] at g2; cases g2
/-! ### What is left to be ordered -/
structure LeftI (es : List TEvent) (L out : List Int) (cur : List TEvent) : Prop where
  nd : (cur.map fun e => e.1).Nodup
  mem : ∀ x, x ∈ cur.map (fun e => e.1) ↔ x ∈ L ∧ x ∉ out
  ev : ∀ e ∈ cur, e = (findE es e.1).1 ∧ found es e.1
  len : cur.length + out.length = L.length
theorem cand_out {es : List TEvent} {L out : List Int} {x : Int} (h : cand es L out x = true) : x ∉ out := by
  unfold cand at h
  intro hm
  rw [decide_eq_true hm] at h; cases h
end Go.Vm
