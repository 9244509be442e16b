/- Plain laws. -/
import Derived.Test.YtgobdchlaclhiaaGreatP2
import Derived.Test.YtgobdchlaclhiaaGreatY2
set_option linter.unusedVariables false
set_option linter.unusedSimpArgs false
namespace Go.Vm
open Go
/-! ### What a state tells -/
def findE (es : List TEvent) (id : Int) : TEvent × Bool := ((es.find? fun e => e.1 == id).map fun e => (e, true)).getD (noEv, false)
def atS (s : List TItem) (key : Int) : Int := ((s.find? fun x => x.1 == key).map fun x => x.2.1).getD 0
theorem s_find_ev (es : List TEvent) (h : es.length ≤ 1048576) (id : Int) : Ev (fun k => s_l10Find k es id) (findE es id) := by
  have := find_ev (l := fun k n i => l0_s_l10Find k n es id (i : Int)) es (fun e => e.1 == id) (fun e => (e, true)) (noEv, false) (fun i hi => ⟨0, fun k _ n => by
    simp only [l0_s_l10Find, b0_s_l10Find, Int.ofNat_lt, hi, Int.natCast_nonneg, decide_true, br_true, gd_true, Int.toNat_natCast, rd_at, idx_succ hi (by omega)]⟩) ⟨0, fun k _ n => by
    simp only [l0_s_l10Find, b0_s_l10Find, Int.lt_irrefl, decide_false, br_false]⟩
  exact this
theorem s_At_ev (s : List TItem) (h : s.length ≤ 1048576) (key : Int) : Ev (fun k => s_At k s key) (atS s key) := by
  have := find_ev (l := fun k n i => l0_s_At k n s key (i : Int)) s (fun x => x.1 == key) (fun x => x.2.1) 0 (fun i hi => ⟨0, fun k _ n => by
    simp only [l0_s_At, b0_s_At, Int.ofNat_lt, hi, Int.natCast_nonneg, decide_true, br_true, gd_true, Int.toNat_natCast, rd_at, idx_succ hi (by omega)]⟩) ⟨0, fun k _ n => by
    simp only [l0_s_At, b0_s_At, Int.lt_irrefl, decide_false, br_false]⟩
  exact this
/-- Sizes that may be worked with. -/
def Fits (es : List TEvent) (s : List TItem) : Prop := es.length ≤ 1048576 ∧ s.length ≤ 1048576
def created (es : List TEvent) (s : List TItem) (u : Int) : Int := bif (findE es (atS s 1)).2 && ((findE es (atS s 1)).1.2.1 == 1 && (findE es (atS s 1)).1.2.2.1 == u) then 100 else 0
def level (es : List TEvent) (s : List TItem) (u : Int) : Int := bif inR u 1 5 then (bif (findE es (atS s 2)).2 && ((findE es (atS s 2)).1.2.1 == 3 && (((findE es (atS s 2)).1.2.2.2.2.2.1.length : Int) == 5)) then rd 0 (findE es (atS s 2)).1.2.2.2.2.2.1 (u - 1).toNat else created es s u) else 0
theorem s_LevelOf_ev (es : List TEvent) (s : List TItem) (h : Fits es s) (u : Int) : Ev (fun k => s_LevelOf k es s u) (level es s u) := by
  obtain ⟨h1, h2⟩ := h
  refine Re.eq (Re.s1 (l01In_eq · _ _ _) ?_)
  unfold level
  cases hu : inR u 1 5 with
  | false => exact Re.ret rfl
  | true =>
    have hr := inR_iff.1 hu
    have tail : Re (fun k => bd (s_At k s 1) fun r4 => (bd (s_l10Find k es r4) fun r5 => (br r5.2 (br (r5.1.2.1 == 1) (br (r5.1.2.2.1 == u) (some 100) (some 0)) (some 0)) (some (0 : Int))))) (fun v => v = created es s u) := by
      refine Re.c1 (s_At_ev s h2 1) (Re.c1 (s_find_ev es h1 _) ?_)
      unfold created
      cases (findE es (atS s 1)).2 with
      | false => exact Re.ret rfl
      | true =>
        cases ((findE es (atS s 1)).1.2.1 == 1) with
        | false => exact Re.ret rfl
        | true => cases ((findE es (atS s 1)).1.2.2.1 == u) <;> exact Re.ret rfl
    refine Re.br (b := false) (fun h => by cases h) (fun _ => Re.c1 (s_At_ev s h2 2) (Re.c1 (s_find_ev es h1 _) ?_))
    simp only [cond_true]
    cases hf : (findE es (atS s 2)).2 with
    | false => exact tail
    | true =>
      cases hk : ((findE es (atS s 2)).1.2.1 == 3) with
      | false => exact tail
      | true =>
        cases hl : (((findE es (atS s 2)).1.2.2.2.2.2.1.length : Int) == 5) with
        | false => exact tail
        | true =>
          have hl5 : ((findE es (atS s 2)).1.2.2.2.2.2.1.length : Int) = 5 := by simpa using hl
          have e1 : w64 (u - 1) = u - 1 := w64_eq (by omega) (by omega)
          simp only [e1, br_true, Bool.and_self, cond_true]
          exact Re.gdd (by omega) (Re.gdd (by omega) (Re.ret rfl))
def member (es : List TEvent) (s : List TItem) (u : Int) : Int := bif inR u 1 5 && ((findE es (atS s (10 + u))).2 && ((findE es (atS s (10 + u))).1.2.1 == 2 && (findE es (atS s (10 + u))).1.2.2.2.1 == u)) then (findE es (atS s (10 + u))).1.2.2.2.2.1 else 0
theorem s_MemberOf_ev (es : List TEvent) (s : List TItem) (h : Fits es s) (u : Int) : Ev (fun k => s_MemberOf k es s u) (member es s u) := by
  obtain ⟨h1, h2⟩ := h
  refine Re.eq (Re.s1 (l01In_eq · _ _ _) ?_)
  unfold member
  cases hu : inR u 1 5 with
  | false => exact Re.ret rfl
  | true =>
    have hr := inR_iff.1 hu
    have e1 : w64 (10 + u) = 10 + u := w64_eq (by omega) (by omega)
    rw [e1]
    refine Re.br (b := false) (fun h => by cases h) (fun _ => Re.c1 (s_At_ev s h2 _) (Re.c1 (s_find_ev es h1 _) ?_))
    cases hf : (findE es (atS s (10 + u))).2 with
    | false => exact Re.ret rfl
    | true =>
      refine Re.br (b := false) (fun h => by cases h) (fun _ => ?_)
      refine Re.brn (fun q => Re.ret (by rw [beq_ne0 q]; rfl)) (fun q => ?_)
      rw [show ((findE es (atS s (10 + u))).1.2.1 == 2) = true by simp [q]]
      refine Re.brn (fun q2 => Re.ret (by rw [beq_ne0 q2]; rfl)) (fun q2 => ?_)
      rw [show ((findE es (atS s (10 + u))).1.2.2.2.1 == u) = true by simp [q2]]
      exact Re.ret rfl
def noMember (s : List TItem) : Bool := allN s.length fun i => !decide ((rd dTItem s i).1 > 10)
theorem s_l10Empty_ev (s : List TItem) (h : s.length ≤ 1048576) : Ev (fun k => s_l10Empty k s) (noMember s) := by
  have := all_ev (l := fun k n i => l0_s_l10Empty k n s (i : Int)) s.length (fun i => !decide ((rd dTItem s i).1 > 10)) true false (fun i hi => ⟨0, fun k _ n => by
    simp only [l0_s_l10Empty, b0_s_l10Empty, Int.ofNat_lt, hi, Int.natCast_nonneg, decide_true, br_true, gd_true, Int.toNat_natCast, idx_succ hi (by omega), br_not]⟩) ⟨0, fun k _ n => by
    simp only [l0_s_l10Empty, b0_s_l10Empty, Int.lt_irrefl, decide_false, br_false]⟩
  exact this.congr_val (fun k => rfl) (by unfold noMember; cases allN s.length _ <;> rfl)
def selfOk (es : List TEvent) (s : List TItem) (e : TEvent) : Bool :=
  bif e.2.2.2.2.1 == 2 then member es s e.2.2.2.1 == 1 || (member es s e.2.2.2.1 == 2 || ((findE es (atS s 1)).2 && ((findE es (atS s 1)).1.2.2.1 == e.2.2.1 && noMember s)))
  else bif e.2.2.2.2.1 == 0 then member es s e.2.2.2.1 == 1 || member es s e.2.2.2.1 == 2 else false
theorem s_l10Self_ev (es : List TEvent) (s : List TItem) (h : Fits es s) (e : TEvent) : Ev (fun k => s_l10Self k es s e) (selfOk es s e) := by
  refine Re.eq (Re.c1 (s_MemberOf_ev es s h _) ?_)
  unfold selfOk
  cases e.2.2.2.2.1 == 2 with
  | true =>
    refine Re.c1 (s_At_ev s h.2 1) (Re.c1 (s_find_ev es h.1 _) ?_)
    cases (findE es (atS s 1)).2 with
    | true =>
      cases (findE es (atS s 1)).1.2.2.1 == e.2.2.1 with
      | true =>
        refine Re.c1 (s_l10Empty_ev s h.2) ?_
        cases member es s e.2.2.2.1 == 1 <;> cases member es s e.2.2.2.1 == 2 <;> exact Re.ret rfl
      | false => cases member es s e.2.2.2.1 == 1 <;> cases member es s e.2.2.2.1 == 2 <;> exact Re.ret rfl
    | false => cases member es s e.2.2.2.1 == 1 <;> cases member es s e.2.2.2.1 == 2 <;> exact Re.ret rfl
  | false =>
    cases e.2.2.2.2.1 == 0 with
    | true => cases member es s e.2.2.2.1 == 1 <;> exact Re.ret rfl
    | false => exact Re.ret rfl
def otherOk (es : List TEvent) (s : List TItem) (e : TEvent) : Bool :=
  member es s e.2.2.1 == 2 && (bif e.2.2.2.2.1 == 1 then member es s e.2.2.2.1 == 0
    else bif e.2.2.2.2.1 == 0 then (member es s e.2.2.2.1 == 1 || member es s e.2.2.2.1 == 2) && (decide (level es s e.2.2.1 ≥ 50) && decide (level es s e.2.2.1 > level es s e.2.2.2.1))
    else bif e.2.2.2.2.1 == 3 then (member es s e.2.2.2.1 != 3) && (decide (level es s e.2.2.1 ≥ 50) && decide (level es s e.2.2.1 > level es s e.2.2.2.1)) else false)
def memberOk (es : List TEvent) (s : List TItem) (e : TEvent) : Bool := bif e.2.2.2.1 == e.2.2.1 then selfOk es s e else otherOk es s e
theorem s_l10Member_ev (es : List TEvent) (s : List TItem) (h : Fits es s) (e : TEvent) : Ev (fun k => s_l10Member k es s e) (memberOk es s e) := by
  refine Re.eq ?_
  simp only [s_l10Member]
  unfold memberOk
  cases e.2.2.2.1 == e.2.2.1 with
  | true => exact Re.c1 (s_l10Self_ev es s h e) (Re.ret rfl)
  | false =>
    unfold otherOk
    refine Re.c1 (s_MemberOf_ev es s h _) (Re.c1 (s_LevelOf_ev es s h _) ?_)
    cases decide (level es s e.2.2.1 ≥ 50) with
    | true =>
      refine Re.c1 (s_LevelOf_ev es s h _) (Re.c1 (s_MemberOf_ev es s h _) ?_)
      refine Re.brn (fun q => Re.ret (by rw [beq_ne0 q]; rfl)) (fun q => ?_)
      rw [show (member es s e.2.2.1 == 2) = true by simp [q]]
      cases e.2.2.2.2.1 == 1 with
      | true => exact Re.ret rfl
      | false =>
        cases e.2.2.2.2.1 == 0 with
        | true => cases member es s e.2.2.2.1 == 1 <;> cases member es s e.2.2.2.1 == 2 <;> exact Re.ret rfl
        | false =>
          cases e.2.2.2.2.1 == 3 with
          | true => cases member es s e.2.2.2.1 != 3 <;> exact Re.ret rfl
          | false => exact Re.ret rfl
    | false =>
      refine Re.c1 (s_MemberOf_ev es s h _) ?_
      refine Re.brn (fun q => Re.ret (by rw [beq_ne0 q]; rfl)) (fun q => ?_)
      rw [show (member es s e.2.2.1 == 2) = true by simp [q]]
      cases e.2.2.2.2.1 == 1 with
      | true => exact Re.ret rfl
      | false =>
        cases e.2.2.2.2.1 == 0 with
        | true => cases member es s e.2.2.2.1 == 1 <;> cases member es s e.2.2.2.1 == 2 <;> exact Re.ret rfl
        | false =>
          cases e.2.2.2.2.1 == 3 with
          | true => cases member es s e.2.2.2.1 != 3 <;> exact Re.ret rfl
          | false => exact Re.ret rfl
def powerAt (es : List TEvent) (s : List TItem) (e : TEvent) (i : Nat) : Bool :=
  rd 0 e.2.2.2.2.2.1 i == level es s ((i + 1 : Nat) : Int) || (!decide (rd 0 e.2.2.2.2.2.1 i > level es s e.2.2.1) && (!decide (level es s ((i + 1 : Nat) : Int) ≥ level es s e.2.2.1) || ((i + 1 : Nat) : Int) == e.2.2.1))
def powerOk (es : List TEvent) (s : List TItem) (e : TEvent) : Bool := member es s e.2.2.1 == 2 && (!decide (level es s e.2.2.1 < 50) && allN 5 (powerAt es s e))
theorem s_l10Power_ev (es : List TEvent) (s : List TItem) (h : Fits es s) (e : TEvent) (hl : e.2.2.2.2.2.1.length = 5) : Ev (fun k => s_l10Power k es s e) (powerOk es s e) := by
  refine Re.eq (Re.c1 (s_LevelOf_ev es s h _) (Re.c1 (s_MemberOf_ev es s h _) ?_))
  unfold powerOk
  refine Re.brn (fun q => Re.ret (by rw [beq_ne0 q]; rfl)) (fun q => ?_)
  rw [show (member es s e.2.2.1 == 2) = true by simp [q]]
  refine Re.brd (fun q => Re.ret (by rw [decide_eq_true q]; rfl)) (fun q => ?_)
  rw [decide_eq_false q]
  have hev : ∀ u : Int, Ev (fun k => s_LevelOf k es s u) (level es s u) := fun u => s_LevelOf_ev es s h u
  refine Re.enter (f := fun k n => l0_s_l10Power k n es s (level es s e.2.2.1) 1 e) among_nat ?_
  have := Re.loop (ι := Nat) (l := fun k n (i : Nat) => l0_s_l10Power k n es s (level es s e.2.2.1) ((i + 1 : Nat) : Int) e) (I := fun i => i ≤ 5 ∧ ∀ j, j < i → powerAt es s e j = true) (fun i => 5 - i) (Q := fun _ v => v = (true && (!false && allN 5 (powerAt es s e)))) (fun i hi ih => by
    simp only [l0_s_l10Power, b0_s_l10Power]
    refine Re.brd (fun q => ?_) (fun q => Re.ret ?_)
    · have hi5 : i < 5 := by omega
      refine Re.c2 (hev _) ?_
      have e1 : w64 (((i + 1 : Nat) : Int) - 1) = (i : Int) := by rw [w64_eq (by omega) (by omega)]; omega
      have e2 : w64 (((i + 1 : Nat) : Int) + 1) = ((i + 1 + 1 : Nat) : Int) := by rw [w64_eq (by omega) (by omega)]; omega
      rw [e1, e2, Int.toNat_natCast]
      refine Re.gdd (by omega) (Re.gdd (by omega) ?_)
      have next : powerAt es s e i = true → Re (fun x : Nat × Nat => l0_s_l10Power x.1 x.2 es s (level es s e.2.2.1) ((i + 1 + 1 : Nat) : Int) e) (fun v => v = (true && (!false && allN 5 (powerAt es s e)))) := fun g => ih (i + 1) ⟨by omega, fun j hj => by
        by_cases hj2 : j < i
        · exact hi.2 j hj2
        · have : j = i := by omega
          subst this; exact g⟩ (by omega)
      have no : powerAt es s e i = false → false = (true && (!false && allN 5 (powerAt es s e))) := fun g => by
        have : allN 5 (powerAt es s e) = false := by
          cases ha : allN 5 (powerAt es s e) with
          | false => rfl
          | true => rw [allN_iff] at ha; rw [ha i hi5] at g; cases g
        rw [this]; rfl
      have hp : powerAt es s e i = (rd 0 e.2.2.2.2.2.1 i == level es s ((i + 1 : Nat) : Int) || (!decide (rd 0 e.2.2.2.2.2.1 i > level es s e.2.2.1) && (!decide (level es s ((i + 1 : Nat) : Int) ≥ level es s e.2.2.1) || ((i + 1 : Nat) : Int) == e.2.2.1))) := rfl
      refine Re.br (fun g => next (by rw [hp, g]; rfl)) (fun g => ?_)
      rw [g, Bool.false_or] at hp
      refine Re.br (fun g => Re.ret (no (by rw [hp, g]; rfl))) (fun g => ?_)
      rw [g, Bool.not_false, Bool.true_and] at hp
      refine Re.br (fun g => ?_) (fun g => next (by rw [hp, g]; rfl))
      rw [g, Bool.not_true, Bool.false_or] at hp
      exact Re.brn (fun g => Re.ret (no (by rw [hp, beq_ne0 g]))) (fun g => next (by rw [hp]; simp [g]))
    · have : allN 5 (powerAt es s e) = true := allN_iff.2 fun j hj => hi.2 j (by omega)
      rw [this]; rfl) 0 ⟨by omega, fun j hj => by omega⟩
  exact this
def allowed (es : List TEvent) (s : List TItem) (e : TEvent) : Bool :=
  eventOk e && (bif e.2.1 == 1 then (s.length : Int) == 0 else (findE es (atS s 1)).2 && ((findE es (atS s 1)).1.2.1 == 1 && (bif e.2.1 == 2 then memberOk es s e else bif e.2.1 == 3 then powerOk es s e
    else bif e.2.1 == 4 then member es s e.2.2.1 == 2 && decide (level es s e.2.2.1 ≥ 50) else member es s e.2.2.1 == 2)))
theorem levels_five {e : TEvent} (h : eventOk e = true) (h3 : e.2.1 = 3) : e.2.2.2.2.2.1.length = 5 := by
  have hb := (event_facts h).1
  unfold body at hb
  simp only [Bool.and_eq_true] at hb
  have := hb.1.2
  unfold levOk lev5 at this
  rw [show (eKind e == 3) = true by show (e.2.1 == 3) = true; rw [h3]; rfl] at this
  simp only [cond_true, Bool.and_eq_true, beq_iff_eq] at this
  have h5 : (((eLevels e).length : Nat) : Int) = 5 := by first | exact this.1 | exact this.2
  show (eLevels e).length = 5
  omega
theorem s_Allowed_ev (es : List TEvent) (s : List TItem) (h : Fits es s) (e : TEvent) (hm : m_Event e ≤ 1048576) : Ev (fun k => s_Allowed k es s e) (allowed es s e) := by
  refine Re.eq (Re.c1 (s_EventOk_ev e hm) ?_)
  unfold allowed
  cases ho : eventOk e with
  | false => exact Re.ret rfl
  | true =>
    refine Re.br (b := false) (fun h => by cases h) (fun _ => ?_)
    refine Re.br (fun q => Re.ret (by rw [q]; rfl)) (fun q => ?_)
    rw [q]
    refine Re.c1 (s_At_ev s h.2 1) (Re.c1 (s_find_ev es h.1 _) ?_)
    cases (findE es (atS s 1)).2 with
    | false => exact Re.ret rfl
    | true =>
      refine Re.br (b := false) (fun h => by cases h) (fun _ => ?_)
      refine Re.brn (fun g => Re.ret (by rw [beq_ne0 g]; rfl)) (fun g => ?_)
      rw [show ((findE es (atS s 1)).1.2.1 == 1) = true by simp [g]]
      refine Re.br (fun g => ?_) (fun g => ?_)
      · rw [g]; exact Re.c1 (s_l10Member_ev es s h e) (Re.ret rfl)
      rw [g]
      refine Re.bre (fun g => ?_) (fun g => ?_)
      · have h5 := levels_five ho g
        rw [g]; exact Re.c1 (s_l10Power_ev es s h e h5) (Re.ret rfl)
      rw [beq_ne0 g]
      refine Re.br (fun g => ?_) (fun g => ?_)
      · rw [g]
        refine Re.c1 (s_MemberOf_ev es s h _) ?_
        cases member es s e.2.2.1 == 2 with
        | true => exact Re.c1 (s_LevelOf_ev es s h _) (Re.ret rfl)
        | false => exact Re.ret rfl
      · rw [g]
        exact Re.c1 (s_MemberOf_ev es s h _) (Re.ret rfl)
def keyOf (e : TEvent) : Int := bif e.2.1 == 1 then 1 else bif e.2.1 == 3 then 2 else bif e.2.1 == 4 then 3 else bif e.2.1 == 2 && inR e.2.2.2.1 1 5 then 10 + e.2.2.2.1 else 0
theorem s_KeyOf_eq (e : TEvent) (k : Nat) : s_KeyOf k e = some (keyOf e) := by
  unfold s_KeyOf keyOf
  cases e.2.1 == 1 with
  | true => rfl
  | false =>
    cases e.2.1 == 3 with
    | true => rfl
    | false =>
      cases e.2.1 == 4 with
      | true => rfl
      | false =>
        cases e.2.1 == 2 with
        | false => rfl
        | true =>
          simp only [br_true, br_false, l01In_eq, bd_some]
          cases hu : inR e.2.2.2.1 1 5 with
          | false => rfl
          | true =>
            have := inR_iff.1 hu
            rw [br_true, w64_eq (by omega) (by omega)]
            rfl
end Go.Vm
