/- Plain laws. -/
import Derived.Test.YtgobdchlaclhiaaGreatZ2
set_option linter.unusedVariables false
set_option linter.unusedSimpArgs false
namespace Go.Vm
open Go
/-! ### The program's answers about a state -/
def NoZ (es : List TEvent) : Prop := ∀ e ∈ es, e.1 ≠ 0
theorem i_At_ev (s : List TItem) (h : s.length ≤ 1048576) (key : Int) : Ev (fun k => i_At k s key) (atS s key) := by
  have := find_ev (l := fun k n i => l0_i_At k n key s (i : Int)) s (fun x => x.1 == key) (fun x => x.2.1) 0 (fun i hi => ⟨0, fun k _ n => by
    simp only [l0_i_At, b0_i_At, Int.ofNat_lt, hi, Int.natCast_nonneg, decide_true, br_true, gd_true, Int.toNat_natCast, rd_at, idx_succ hi (by omega)]⟩) ⟨0, fun k _ n => by
    simp only [l0_i_At, b0_i_At, Int.lt_irrefl, decide_false, br_false]⟩
  exact this
theorem findE_zero {es : List TEvent} (h : NoZ es) : findE es 0 = (noEv, false) := by
  rcases findE_cases es 0 with e | ⟨e, he, _, e3⟩
  · exact e
  · exact absurd e3 (h e he)
theorem i_tells_ev (es : List TEvent) (hc : CopyS es) (hz : NoZ es) (s : List TItem) (hs : s.length ≤ 1048576) (key : Int) : Ev (fun k => i_tells k es s key) (findE es (atS s key)) := by
  refine Re.eq (Re.c1 (i_At_ev s hs key) ?_)
  refine Re.bre (fun q => Re.ret (by rw [q, findE_zero hz])) (fun q => ?_)
  exact Re.c1 (i_Known_ev es hc _) (Re.ret rfl)
def createdB (es : List TEvent) (s : List TItem) (u : Int) : Bool := (findE es (atS s 1)).2 && ((findE es (atS s 1)).1.2.1 == 1 && (findE es (atS s 1)).1.2.2.1 == u)
theorem created_eq (es : List TEvent) (s : List TItem) (u : Int) : created es s u = bif createdB es s u then 100 else 0 := rfl
theorem i_created_ev (es : List TEvent) (hc : CopyS es) (hz : NoZ es) (s : List TItem) (hs : s.length ≤ 1048576) (u : Int) : Ev (fun k => i_created k es s u) (createdB es s u) := by
  refine Re.eq (Re.c1 (i_tells_ev es hc hz s hs 1) ?_)
  unfold createdB
  cases (findE es (atS s 1)).2 with
  | false => exact Re.ret rfl
  | true => cases (findE es (atS s 1)).1.2.1 == 1 <;> exact Re.ret rfl
theorem i_LevelOf_ev (es : List TEvent) (hc : CopyS es) (hz : NoZ es) (s : List TItem) (hs : s.length ≤ 1048576) (u : Int) : Ev (fun k => i_LevelOf k es s u) (level es s u) := by
  refine Re.eq (Re.s1 (within_eq · _ _ _) ?_)
  unfold level
  cases hu : inR u 1 5 with
  | false => exact Re.ret rfl
  | true =>
    have hr := inR_iff.1 hu
    have tail : Re (fun k => bd (i_created k es s u) fun r4 => (br r4 (some 100) (some (0 : Int)))) (fun v => v = created es s u) := by
      refine Re.c1 (i_created_ev es hc hz s hs u) ?_
      rw [created_eq]
      cases createdB es s u <;> exact Re.ret rfl
    refine Re.br (b := false) (fun h => by cases h) (fun _ => Re.c1 (i_tells_ev es hc hz s hs 2) ?_)
    simp only [cond_true]
    cases hf : (findE es (atS s 2)).2 with
    | false => exact tail
    | true =>
      cases hk : ((findE es (atS s 2)).1.2.1 == 3) with
      | false => exact tail
      | true =>
        cases hl : (((findE es (atS s 2)).1.2.2.2.2.2.1.length : Int) == 5) with
        | false => exact tail
        | true =>
          have hl5 : ((findE es (atS s 2)).1.2.2.2.2.2.1.length : Int) = 5 := by simpa using hl
          have e1 : w64 (u - 1) = u - 1 := w64_eq (by omega) (by omega)
          simp only [e1, br_true, Bool.and_self, cond_true]
          exact Re.gdd (by omega) (Re.gdd (by omega) (Re.ret rfl))
theorem i_MemberOf_ev (es : List TEvent) (hc : CopyS es) (hz : NoZ es) (s : List TItem) (hs : s.length ≤ 1048576) (u : Int) : Ev (fun k => i_MemberOf k es s u) (member es s u) := by
  refine Re.eq (Re.s1 (within_eq · _ _ _) ?_)
  unfold member
  cases hu : inR u 1 5 with
  | false => exact Re.ret rfl
  | true =>
    have hr := inR_iff.1 hu
    have e1 : w64 (10 + u) = 10 + u := w64_eq (by omega) (by omega)
    rw [e1]
    refine Re.br (b := false) (fun h => by cases h) (fun _ => Re.c1 (i_tells_ev es hc hz s hs _) ?_)
    cases hf : (findE es (atS s (10 + u))).2 with
    | false => exact Re.ret rfl
    | true =>
      refine Re.br (b := false) (fun h => by cases h) (fun _ => ?_)
      refine Re.brn (fun q => Re.ret (by rw [beq_ne0 q]; rfl)) (fun q => ?_)
      rw [show ((findE es (atS s (10 + u))).1.2.1 == 2) = true by simp [q]]
      refine Re.brn (fun q2 => Re.ret (by rw [beq_ne0 q2]; rfl)) (fun q2 => ?_)
      rw [show ((findE es (atS s (10 + u))).1.2.2.2.1 == u) = true by simp [q2]]
      exact Re.ret rfl
theorem i_powerAllowed_ev (es : List TEvent) (hc : CopyS es) (hz : NoZ es) (s : List TItem) (hs : s.length ≤ 1048576) (e : TEvent) (hl : e.2.2.2.2.2.1.length = 5) : Ev (fun k => i_powerAllowed k es s e) (allN 5 (powerAt es s e) && decide (level es s e.2.2.1 ≥ 50)) := by
  refine Re.eq (Re.c1 (i_LevelOf_ev es hc hz s hs _) ?_)
  refine Re.enter (f := fun k n => l0_i_powerAllowed k n es s (level es s e.2.2.1) e 0) among_nat ?_
  have := Re.loop (ι := Nat) (l := fun k n (i : Nat) => l0_i_powerAllowed k n es s (level es s e.2.2.1) e (i : Int)) (I := fun i => i ≤ 5 ∧ ∀ j, j < i → powerAt es s e j = true) (fun i => 5 - i) (Q := fun _ v => v = (allN 5 (powerAt es s e) && decide (level es s e.2.2.1 ≥ 50))) (fun i hi ih => by
    simp only [l0_i_powerAllowed, b0_i_powerAllowed]
    refine Re.brd (fun q => ?_) (fun q => Re.ret ?_)
    · have hi5 : i < 5 := by omega
      refine Re.gdd (by omega) (Re.gdd q ?_)
      have e2 : w64 ((i : Int) + 1) = ((i + 1 : Nat) : Int) := by rw [w64_eq (by omega) (by omega)]; omega
      rw [e2, Int.toNat_natCast]
      refine Re.c2 (i_LevelOf_ev es hc hz s hs _) ?_
      have next : powerAt es s e i = true → Re (fun x : Nat × Nat => l0_i_powerAllowed x.1 x.2 es s (level es s e.2.2.1) e ((i + 1 : Nat) : Int)) (fun v => v = (allN 5 (powerAt es s e) && decide (level es s e.2.2.1 ≥ 50))) := fun g => ih (i + 1) ⟨by omega, fun j hj => by
        by_cases hj2 : j < i
        · exact hi.2 j hj2
        · have : j = i := by omega
          subst this; exact g⟩ (by omega)
      have no : powerAt es s e i = false → false = (allN 5 (powerAt es s e) && decide (level es s e.2.2.1 ≥ 50)) := fun g => by
        have : allN 5 (powerAt es s e) = false := by
          cases ha : allN 5 (powerAt es s e) with
          | false => rfl
          | true => rw [allN_iff] at ha; rw [ha i hi5] at g; cases g
        rw [this]; rfl
      have hp : powerAt es s e i = (rd 0 e.2.2.2.2.2.1 i == level es s ((i + 1 : Nat) : Int) || (!decide (rd 0 e.2.2.2.2.2.1 i > level es s e.2.2.1) && (!decide (level es s ((i + 1 : Nat) : Int) ≥ level es s e.2.2.1) || ((i + 1 : Nat) : Int) == e.2.2.1))) := rfl
      refine Re.brn (fun g => ?_) (fun g => next (by rw [hp]; simp [g]))
      rw [beq_ne0 g, Bool.false_or] at hp
      refine Re.br (fun g => Re.ret (no (by rw [hp, g]; rfl))) (fun g => ?_)
      rw [g, Bool.not_false, Bool.true_and] at hp
      refine Re.br (fun g => ?_) (fun g => next (by rw [hp, g]; rfl))
      rw [g, Bool.not_true, Bool.false_or] at hp
      exact Re.brn (fun g => Re.ret (no (by rw [hp, beq_ne0 g]))) (fun g => next (by rw [hp]; simp [g]))
    · have : allN 5 (powerAt es s e) = true := allN_iff.2 fun j hj => hi.2 j (by omega)
      rw [this]; rfl) 0 ⟨by omega, fun j hj => by omega⟩
  exact this
theorem scan_item {f : Nat → Nat → Nat → Option Bool} (s : List TItem) (hs : s.length ≤ 1048576) (x y : Bool) (hx : ∀ k n i, i < s.length → f k (n + 1) i = br (decide ((rd dTItem s i).1 > 10)) (some x) (f k n (i + 1))) (hy : ∀ k n, f k (n + 1) s.length = some y) :
    Ev (fun k => f k k 0) (bif noMember s then y else x) := by
  have := all_ev (l := f) s.length (fun i => !decide ((rd dTItem s i).1 > 10)) y x (fun i hi => ⟨0, fun k _ n => by rw [hx k n i hi]; cases decide ((rd dTItem s i).1 > 10) <;> rfl⟩) ⟨0, fun k _ n => hy k n⟩
  exact this
theorem i_memberAllowed_ev (es : List TEvent) (hc : CopyS es) (hz : NoZ es) (s : List TItem) (hs : s.length ≤ 1048576) (e : TEvent) (hk : (findE es (atS s 1)).2 = true ∧ (findE es (atS s 1)).1.2.1 = 1) : Ev (fun k => i_memberAllowed k es s e) (memberOk es s e) := by
  refine Re.eq (Re.c1 (i_MemberOf_ev es hc hz s hs _) (Re.c1 (i_MemberOf_ev es hc hz s hs _) ?_))
  have hcr : createdB es s e.2.2.2.1 = ((findE es (atS s 1)).1.2.2.1 == e.2.2.2.1) := by
    unfold createdB
    rw [hk.1, hk.2]; rfl
  unfold memberOk
  by_cases hu : e.2.2.1 = e.2.2.2.1
  · have b1 : (e.2.2.1 == e.2.2.2.1) = true := by simp [hu]
    have b2 : (e.2.2.2.1 == e.2.2.1) = true := by simp [hu]
    rw [b1, b2]
    simp only [cond_true, br_true]
    unfold selfOk
    rw [hk.1, hu]
    cases h1 : member es s e.2.2.2.1 == 1 with
    | true =>
      refine Re.c1 (i_created_ev es hc hz s hs _) ?_
      rw [hcr]
      refine Re.br (fun _ => ?_) (fun _ => ?_)
      · refine Re.mono (Q := fun v => v = _) (Ev.re (scan_item (f := fun k n i => l0_i_memberAllowed k n s (i : Int) e es (member es s e.2.2.2.1) (member es s e.2.2.2.1) ((findE es (atS s 1)).1.2.2.1 == e.2.2.2.1)) s hs (bif e.2.2.2.2.1 == 2 then true else bif e.2.2.2.2.1 == 0 then true else false) (bif e.2.2.2.2.1 == 2 then true else bif e.2.2.2.2.1 == 0 then true else false) (fun k n i hi => ?_) (fun k n => ?_)) rfl) (fun v hv => ?_)
        · simp only [l0_i_memberAllowed, b0_i_memberAllowed, Int.ofNat_lt, hi, Int.natCast_nonneg, decide_true, br_true, gd_true, Int.toNat_natCast, idx_succ hi (by omega)]
          cases e.2.2.2.2.1 == 2 <;> cases e.2.2.2.2.1 == 0 <;> rfl
        · simp only [l0_i_memberAllowed, b0_i_memberAllowed, Int.lt_irrefl, decide_false, br_false]
          cases e.2.2.2.2.1 == 2 <;> cases e.2.2.2.2.1 == 0 <;> rfl
        · rw [hv]
          cases noMember s <;> cases e.2.2.2.2.1 == 2 <;> cases e.2.2.2.2.1 == 0 <;> rfl
      · cases e.2.2.2.2.1 == 2 <;> cases e.2.2.2.2.1 == 0 <;> exact Re.ret rfl
    | false =>
      refine Re.c1 (i_created_ev es hc hz s hs _) ?_
      rw [hcr]
      refine Re.br (fun hcc => ?_) (fun hcc => ?_)
      · refine Re.mono (Q := fun v => v = _) (Ev.re (scan_item (f := fun k n i => l1_i_memberAllowed k n s (i : Int) e es (member es s e.2.2.2.1) (member es s e.2.2.2.1) ((findE es (atS s 1)).1.2.2.1 == e.2.2.2.1)) s hs (bif e.2.2.2.2.1 == 2 then (member es s e.2.2.2.1 == 2 || (e.2.2.2.2.1 == 0 && member es s e.2.2.2.1 == 2)) else (e.2.2.2.2.1 == 0 && member es s e.2.2.2.1 == 2)) (bif e.2.2.2.2.1 == 2 then true else (e.2.2.2.2.1 == 0 && member es s e.2.2.2.1 == 2)) (fun k n i hi => ?_) (fun k n => ?_)) rfl) (fun v hv => ?_)
        · have hge : decide ((i : Int) ≥ 0) = true := decide_eq_true (by omega)
          simp only [l1_i_memberAllowed, b1_i_memberAllowed, Int.ofNat_lt, hi, Int.natCast_nonneg, decide_true, br_true, gd_true, Int.toNat_natCast, idx_succ hi (by omega), hge]
          cases e.2.2.2.2.1 == 2 <;> cases e.2.2.2.2.1 == 0 <;> cases member es s e.2.2.2.1 == 2 <;> rfl
        · simp only [l1_i_memberAllowed, b1_i_memberAllowed, Int.lt_irrefl, decide_false, br_false]
          cases e.2.2.2.2.1 == 2 <;> cases e.2.2.2.2.1 == 0 <;> cases member es s e.2.2.2.1 == 2 <;> rfl
        · rw [hv, hcc]
          cases h2 : e.2.2.2.2.1 == 2 with
          | false => cases noMember s <;> cases e.2.2.2.2.1 == 0 <;> cases member es s e.2.2.2.1 == 2 <;> rfl
          | true =>
            have h0 : (e.2.2.2.2.1 == 0) = false := by
              have : e.2.2.2.2.1 = 2 := by simpa using h2
              rw [this]; rfl
            rw [h0]
            cases noMember s <;> cases member es s e.2.2.2.1 == 2 <;> rfl
      · rw [hcc]
        cases h2 : e.2.2.2.2.1 == 2 with
        | false => cases e.2.2.2.2.1 == 0 <;> cases member es s e.2.2.2.1 == 2 <;> exact Re.ret rfl
        | true =>
          have h0 : (e.2.2.2.2.1 == 0) = false := by
            have : e.2.2.2.2.1 = 2 := by simpa using h2
            rw [this]; rfl
          rw [h0]
          cases member es s e.2.2.2.1 == 2 <;> exact Re.ret rfl
  · have b1 : (e.2.2.1 == e.2.2.2.1) = false := beq_ne0 hu
    have b2 : (e.2.2.2.1 == e.2.2.1) = false := beq_ne0 fun h => hu h.symm
    rw [b1, b2]
    simp only [cond_false, br_false]
    unfold otherOk
    have hL := fun u => i_LevelOf_ev es hc hz s hs u
    cases h1 : member es s e.2.2.2.1 == 1 with
    | true =>
      refine Re.brn (fun q => Re.ret (by rw [beq_ne0 q]; rfl)) (fun q => ?_)
      rw [show (member es s e.2.2.1 == 2) = true by simp [q]]
      refine Re.c1 (hL _) ?_
      cases decide (level es s e.2.2.1 ≥ 50) with
      | true =>
        refine Re.c1 (hL _) ?_
        cases e.2.2.2.2.1 == 1 <;> cases e.2.2.2.2.1 == 0 <;> cases e.2.2.2.2.1 == 3 <;> cases member es s e.2.2.2.1 != 3 <;> exact Re.ret rfl
      | false => cases e.2.2.2.2.1 == 1 <;> cases e.2.2.2.2.1 == 0 <;> cases e.2.2.2.2.1 == 3 <;> cases member es s e.2.2.2.1 != 3 <;> exact Re.ret rfl
    | false =>
      refine Re.brn (fun q => Re.ret (by rw [beq_ne0 q]; rfl)) (fun q => ?_)
      rw [show (member es s e.2.2.1 == 2) = true by simp [q]]
      refine Re.c1 (hL _) ?_
      cases decide (level es s e.2.2.1 ≥ 50) with
      | true =>
        refine Re.c1 (hL _) ?_
        cases e.2.2.2.2.1 == 1 <;> cases e.2.2.2.2.1 == 0 <;> cases e.2.2.2.2.1 == 3 <;> cases member es s e.2.2.2.1 != 3 <;> cases member es s e.2.2.2.1 == 2 <;> exact Re.ret rfl
      | false => cases e.2.2.2.2.1 == 1 <;> cases e.2.2.2.2.1 == 0 <;> cases e.2.2.2.2.1 == 3 <;> cases member es s e.2.2.2.1 != 3 <;> cases member es s e.2.2.2.1 == 2 <;> exact Re.ret rfl
theorem i_Allowed_ev (es : List TEvent) (hc : CopyS es) (hz : NoZ es) (s : List TItem) (hs : s.length ≤ 1048576) (e : TEvent) (hm : m_Event e ≤ 1048576) : Ev (fun k => i_Allowed k es s e) (allowed es s e) := by
  refine Re.eq (Re.c1 (i_EventOk_ev e hm) ?_)
  unfold allowed
  cases ho : eventOk e with
  | false => exact Re.ret rfl
  | true =>
    refine Re.br (b := false) (fun h => by cases h) (fun _ => ?_)
    refine Re.br (fun q => Re.ret (by rw [q]; rfl)) (fun q => ?_)
    rw [q]
    refine Re.c1 (i_tells_ev es hc hz s hs 1) ?_
    cases hf : (findE es (atS s 1)).2 with
    | false => exact Re.ret rfl
    | true =>
      refine Re.br (b := false) (fun h => by cases h) (fun _ => ?_)
      refine Re.brn (fun g => Re.ret (by rw [beq_ne0 g]; rfl)) (fun g => ?_)
      rw [show ((findE es (atS s 1)).1.2.1 == 1) = true by simp [g]]
      refine Re.br (fun g2 => ?_) (fun g2 => ?_)
      · rw [g2]; exact Re.c1 (i_memberAllowed_ev es hc hz s hs e ⟨hf, g⟩) (Re.ret rfl)
      rw [g2]
      refine Re.c1 (i_MemberOf_ev es hc hz s hs _) ?_
      refine Re.brn (fun q2 => Re.ret ?_) (fun q2 => ?_)
      · unfold powerOk
        rw [beq_ne0 q2]
        cases e.2.1 == 3 <;> cases e.2.1 == 4 <;> rfl
      have hq : (member es s e.2.2.1 == 2) = true := by simp [q2]
      refine Re.bre (fun g3 => ?_) (fun g3 => ?_)
      · have h5 := levels_five ho g3
        rw [g3]
        refine Re.c1 (i_powerAllowed_ev es hc hz s hs e h5) (Re.ret ?_)
        unfold powerOk
        rw [hq]
        by_cases hl : level es s e.2.2.1 ≥ 50
        · rw [decide_eq_true hl, decide_eq_false (show ¬ level es s e.2.2.1 < 50 by omega)]
          cases allN 5 (powerAt es s e) <;> rfl
        · rw [decide_eq_false hl, decide_eq_true (show level es s e.2.2.1 < 50 by omega)]
          cases allN 5 (powerAt es s e) <;> rfl
      rw [beq_ne0 g3]
      refine Re.br (fun g4 => ?_) (fun g4 => ?_)
      · rw [g4, hq]
        exact Re.c1 (i_LevelOf_ev es hc hz s hs _) (Re.ret rfl)
      · rw [g4, hq]
        exact Re.ret rfl
end Go.Vm
