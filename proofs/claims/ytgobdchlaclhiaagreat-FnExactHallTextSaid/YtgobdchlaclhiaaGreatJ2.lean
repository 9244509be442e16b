/- Plain laws. -/
import Derived.Test.YtgobdchlaclhiaaGreatW2
set_option linter.unusedVariables false
set_option linter.unusedSimpArgs false
namespace Go.Vm
open Go
def beforeOk (r : TRoom) (p : Int) : Bool := decide (0 ≤ hasE r.1 p ∧ hasE r.1 p < r.2.1.length)
noncomputable def beforeL (r : TRoom) (prev : List Int) : List TItem × Bool := bif prev.all (beforeOk r) then (resolveL r.1 (prev.map fun p => rd [] r.2.1 (hasE r.1 p).toNat), true) else ([], false)
/-! ### A room grows -/
noncomputable def addR (r : TRoom) (e : TEvent) : TRoom × Bool :=
  bif (beforeL r e.2.2.2.2.2.2.2.1).2 && (eventOk e && (decide (hasE r.1 e.1 < 0) && (decide (e.2.2.2.2.2.2.2.2.1 = depthOf r.1 e.2.2.2.2.2.2.2.1) && decide (r.1.length < 40)))) then
    ((r.1 ++ [e], r.2.1 ++ [bif allowed r.1 (beforeL r e.2.2.2.2.2.2.2.1).1 e && keyOf e != 0 then putS (beforeL r e.2.2.2.2.2.2.2.1).1 (keyOf e) e.1 else (beforeL r e.2.2.2.2.2.2.2.1).1], r.2.2.1 ++ [allowed r.1 (beforeL r e.2.2.2.2.2.2.2.1).1 e], ()), true)
  else (([], [], [], ()), false)
/-- What comes of right events, one behind the other. -/
inductive Built : TRoom → Prop where
  | nil : Built ([], [], [], ())
  | add {r : TRoom} {e : TEvent} : Built r → e.2.2.2.2.2.2.2.1.length ≤ 1000 → (addR r e).2 = true → Built (addR r e).1
/-! ### Drawn rooms -/
/-- A room that was made step by step. -/
structure RoomI (r : TRoom) : Prop where
  bt : Built r
  len : r.1.length ≤ 40
  sl : r.2.1.length = r.1.length
  gl : r.2.2.1.length = r.1.length
  st : ∀ i, i < r.2.1.length → (rd [] r.2.1 i).length ≤ 16
  ev : ∀ e ∈ r.1, eventOk e = true
  ids : ∀ i j, i < j → j < r.1.length → (rd dTEvent r.1 i).1 ≠ (rd dTEvent r.1 j).1
theorem findE_cases (es : List TEvent) (y : Int) : findE es y = (noEv, false) ∨ ∃ e ∈ es, findE es y = (e, true) ∧ e.1 = y := by
  unfold findE
  cases hf : es.find? fun e => e.1 == y with
  | none => exact .inl rfl
  | some e => exact .inr ⟨e, List.mem_of_find?_eq_some hf, rfl, by simpa using List.find?_some hf⟩
theorem event_small {e : TEvent} (h : eventOk e = true) : e.2.2.2.2.2.2.2.1.length ≤ 3 ∧ m_Event e ≤ 1000 := by
  have hf := event_facts h
  have hb := body_facts hf.1
  have h4 : (ePrev e).length ≤ 3 := hf.2.2.2.1
  refine ⟨h4, ?_⟩
  show (eLevels e).length + ((eText e).size + ((ePrev e).length + 0)) ≤ 1000
  omega
theorem RoomI.evs {r : TRoom} (h : RoomI r) : EvS r.1 := by
  refine ⟨by have := h.len; omega, fun y => ?_, fun y => ?_⟩
  · unfold prevsOf
    rcases findE_cases r.1 y with e | ⟨e, he, e2, _⟩
    · rw [e]; show 0 ≤ 1048576; omega
    · rw [e2]; have := (event_small (h.ev e he)).1; simp only; omega
  · rcases findE_cases r.1 y with e | ⟨e, he, e2, _⟩
    · rw [e]; show 0 + (0 + (0 + 0)) ≤ 1048576; omega
    · rw [e2]; have := (event_small (h.ev e he)).2; simp only; omega
theorem beforeL_lengthB {r : TRoom} (h : RoomI r) {prev : List Int} (hp : prev.length ≤ 1048576) : (beforeL r prev).1.length ≤ 16 := by
  unfold beforeL
  cases hq : prev.all (beforeOk r) with
  | false => exact Nat.zero_le _
  | true =>
    refine resolveL_lengthB ⟨by simp; omega, fun i hi => ?_⟩
    have hi2 : i < prev.length := by simpa using hi
    rw [rd_at hi, List.getElem_map]
    have := List.all_eq_true.1 hq _ (List.getElem_mem hi2)
    unfold beforeOk at this
    have := of_decide_eq_true this
    exact h.st _ (by omega)
theorem beforeL_length {r : TRoom} (h : RoomI r) {prev : List Int} (hp : prev.length ≤ 1000) : (beforeL r prev).1.length ≤ 16 := beforeL_lengthB h (by omega)
theorem s_l12BeforeB_ev (r : TRoom) (h : RoomI r) (prev : List Int) (hp : prev.length ≤ 1048576) : Ev (fun k => s_l12Before k r prev) (beforeL r prev) := by
  refine Re.eq (Re.enter (f := fun k n => l0_s_l12Before k n prev 0 r []) among_nat ?_)
  have hlen := h.len
  have := Re.loop (ι := Nat) (l := fun k n (i : Nat) => l0_s_l12Before k n prev (i : Int) r ((prev.take i).map fun p => rd [] r.2.1 (hasE r.1 p).toNat)) (I := fun i => i ≤ prev.length ∧ ∀ j, j < i → beforeOk r (rd 0 prev j) = true) (fun i => prev.length - i) (Q := fun _ v => v = beforeL r prev) (fun i hi ih => by
    obtain ⟨g1, g2⟩ := hi
    simp only [l0_s_l12Before, b0_s_l12Before]
    refine Re.brd (fun g => ?_) (fun g => ?_)
    · have hl : i < prev.length := by omega
      refine Re.gdd (by omega) (Re.gdd g ?_)
      simp only [Int.toNat_natCast]
      refine Re.c2 (s_l12Has_ev r (by omega) _) ?_
      have no : ¬ (0 ≤ hasE r.1 (rd 0 prev i) ∧ hasE r.1 (rd 0 prev i) < r.2.1.length) → (([] : List TItem), false) = beforeL r prev := fun q => by
        unfold beforeL
        have : prev.all (beforeOk r) = false := by
          rw [List.all_eq_false]
          exact ⟨rd 0 prev i, by rw [rd_at hl]; exact List.getElem_mem _, by unfold beforeOk; simp [q]⟩
        rw [this]; rfl
      refine Re.brd (fun q => Re.ret (no fun x => by omega)) (fun q => ?_)
      refine Re.brd (fun q2 => Re.ret (no fun x => by omega)) (fun q2 => ?_)
      refine Re.gdd (by omega) (Re.gdd (by omega) (Re.gdd (by simp [maxRow]; omega) ?_))
      rw [idx_succ hl (by omega)]
      have next := ih (i + 1) ⟨by omega, fun j hj => by
        by_cases q3 : j < i
        · exact g2 j q3
        · have : j = i := by omega
          subst this
          exact decide_eq_true ⟨by omega, by omega⟩⟩ (by omega)
      rw [take_int hl, List.map_append] at next
      exact next
    · rw [List.take_of_length_le (by omega)]
      have hall : prev.all (beforeOk r) = true := by
        rw [List.all_eq_true]
        intro p hp
        obtain ⟨j, hj, rfl⟩ := List.getElem_of_mem hp
        have := g2 j (by omega)
        rwa [rd_at hj] at this
      have hN : StsB (prev.map fun p => rd [] r.2.1 (hasE r.1 p).toNat) := ⟨by simp; omega, fun j hj => by
        have hj2 : j < prev.length := by simpa using hj
        rw [rd_at hj, List.getElem_map]
        have := of_decide_eq_true (List.all_eq_true.1 hall _ (List.getElem_mem hj2))
        exact h.st _ (by omega)⟩
      refine Re.c2 (s_ResolveB_ev r.1 h.evs _ hN) (Re.ret ?_)
      unfold beforeL
      rw [hall]; rfl) 0 ⟨Nat.zero_le _, fun j hj => by omega⟩
  simpa using this
/-- What comes next to a room. -/
structure NextP (r : TRoom) (id : Int) (e : TEvent) : Prop where
  eid : e.1 = id
  pl : e.2.2.2.2.2.2.2.1.length ≤ 3
  ll : e.2.2.2.2.2.1.length ≤ 6
  tl : e.2.2.2.2.2.2.1.size ≤ 5
  dp : e.2.2.2.2.2.2.2.2.1 = depthOf r.1 e.2.2.2.2.2.2.2.1
  pm : ∀ p ∈ e.2.2.2.2.2.2.2.1, ∃ x ∈ r.1, x.1 = p
  first : r.1 = [] → e = (id, 1, 1, 0, 0, [], ByteArray.empty, [], 0, ())
theorem s_l12AddB_ev (r : TRoom) (h : RoomI r) (e : TEvent) (hm : m_Event e ≤ 1048576) (hp : e.2.2.2.2.2.2.2.1.length ≤ 1048576) : Ev (fun k => s_l12Add k r e) (addR r e) := by
  have hlen := h.len
  have hsl := h.sl
  have hgl := h.gl
  have hbl := beforeL_lengthB h hp
  refine Re.eq (Re.c1 (s_l12BeforeB_ev r h _ hp) ?_)
  unfold addR
  generalize beforeL r e.2.2.2.2.2.2.2.1 = b at hbl ⊢
  obtain ⟨s, ok⟩ := b
  cases ok with
  | false => exact Re.ret rfl
  | true =>
    refine Re.br (b := false) (fun h => by cases h) (fun _ => Re.c1 (s_EventOk_ev e hm) ?_)
    cases ho : eventOk e with
    | false => exact Re.ret rfl
    | true =>
      refine Re.br (b := false) (fun h => by cases h) (fun _ => Re.c1 (s_l12Has_ev r (by omega) _) ?_)
      refine Re.brd (fun q => Re.ret (by rw [decide_eq_false (show ¬ hasE r.1 e.1 < 0 by omega)]; rfl)) (fun q => ?_)
      rw [decide_eq_true (show hasE r.1 e.1 < 0 by omega)]
      refine Re.c1 (s_DepthOf_ev r (by omega) _ (by omega)) ?_
      refine Re.brn (fun q2 => Re.ret (by rw [decide_eq_false q2]; rfl)) (fun q2 => ?_)
      rw [decide_eq_true q2]
      refine Re.brd (fun q3 => Re.ret (by rw [decide_eq_false (show ¬ r.1.length < 40 by omega)]; rfl)) (fun q3 => ?_)
      rw [decide_eq_true (show r.1.length < 40 by omega)]
      refine Re.c1 (s_Allowed_ev r.1 s ⟨by omega, by simp only at hbl; omega⟩ e hm) ?_
      simp only at hbl
      cases ha : allowed r.1 s e with
      | false =>
        refine Re.br (b := false) (fun h => by cases h) (fun _ => ?_)
        exact Re.gdd (by simp [maxRow]; omega) (Re.gdd (by simp [maxRow]; omega) (Re.gdd (by simp [maxRow]; omega) (Re.gdd (by simp [maxRow]; omega) (Re.gdd (by simp [maxRow]; omega) (Re.gdd (by simp [maxRow]; omega) (Re.ret rfl))))))
      | true =>
        refine Re.br (b := true) (fun _ => Re.s1 (s_KeyOf_eq e ·) ?_) (fun h => by cases h)
        refine Re.br (fun q4 => ?_) (fun q4 => ?_)
        · refine Re.s1 (s_KeyOf_eq e ·) (Re.c1 (s_Put_ev s (by omega) _ _) ?_)
          refine Re.gdd (by simp [maxRow]; omega) (Re.gdd (by simp [maxRow]; omega) (Re.gdd (by simp [maxRow]; omega) (Re.gdd (by simp [maxRow]; omega) (Re.gdd (by simp [maxRow]; omega) (Re.gdd (by simp [maxRow]; omega) (Re.ret ?_))))))
          rw [q4]; rfl
        · refine Re.gdd (by simp [maxRow]; omega) (Re.gdd (by simp [maxRow]; omega) (Re.gdd (by simp [maxRow]; omega) (Re.gdd (by simp [maxRow]; omega) (Re.gdd (by simp [maxRow]; omega) (Re.gdd (by simp [maxRow]; omega) (Re.ret ?_))))))
          rw [q4]; rfl
theorem rd_snocL {α : Type} (d : α) (xs : List α) (y : α) (i : Nat) : rd d (xs ++ [y]) i = if i < xs.length then rd d xs i else if i = xs.length then y else d := by
  unfold rd
  by_cases h : i < xs.length
  · rw [if_pos h]; simp [List.getElem?_append_left h]
  · rw [if_neg h]
    by_cases h2 : i = xs.length
    · subst h2; simp
    · rw [if_neg h2]; simp [List.getElem?_eq_none (show (xs ++ [y]).length ≤ i by simp; omega)]
theorem addR_room {r : TRoom} (h : RoomI r) {e : TEvent} (hp : e.2.2.2.2.2.2.2.1.length ≤ 1000) (ho : (addR r e).2 = true) : RoomI (addR r e).1 ∧ (addR r e).1.1 = r.1 ++ [e] := by
  have hbl := beforeL_length h hp
  have hbt := Built.add h.bt hp ho
  unfold addR at ho hbt ⊢
  cases hq : (beforeL r e.2.2.2.2.2.2.2.1).2 && (eventOk e && (decide (hasE r.1 e.1 < 0) && (decide (e.2.2.2.2.2.2.2.2.1 = depthOf r.1 e.2.2.2.2.2.2.2.1) && decide (r.1.length < 40)))) with
  | false => rw [hq] at ho; cases ho
  | true =>
    rw [hq] at hbt
    simp only [cond_true]
    simp only [Bool.and_eq_true, decide_eq_true_eq] at hq
    obtain ⟨_, q1, q2, _, q3⟩ := hq
    refine ⟨⟨hbt, by simp; omega, by simp [h.sl], by simp [h.gl], fun i hi => ?_, fun x hx => ?_, fun i j hij hj => ?_⟩, trivial⟩
    · simp only at hi ⊢
      rw [rd_snocL]
      by_cases q : i < r.2.1.length
      · rw [if_pos q]; exact h.st i q
      · rw [if_neg q, if_pos (by simp at hi; omega)]
        cases allowed r.1 (beforeL r e.2.2.2.2.2.2.2.1).1 e && keyOf e != 0 with
        | true => exact putS_length hbl (by omega)
        | false => exact hbl
    · rcases List.mem_append.1 hx with hx | hx
      · exact h.ev x hx
      · simp at hx; subst hx; exact q1
    · simp only at hj ⊢
      rw [rd_snocL, rd_snocL]
      have hj2 : j < r.1.length + 1 := by simpa using hj
      rw [if_pos (show i < r.1.length by omega)]
      by_cases q : j < r.1.length
      · rw [if_pos q]; exact h.ids i j hij q
      · rw [if_neg q, if_pos (by omega)]
        rcases hasE_spec r.1 e.1 with ⟨_, hn⟩ | ⟨k, hk, e2, _⟩
        · exact hn _ (by rw [rd_at (show i < r.1.length by omega)]; exact List.getElem_mem _)
        · omega
theorem noRoomI : RoomI ([], [], [], ()) := ⟨.nil, by simp, rfl, rfl, fun i hi => by simp at hi, fun e he => by simp at he, fun i j _ hj => by simp at hj⟩
end Go.Vm
