/- Plain laws. -/
import Derived.Test.YtpcdgghbhgjgfaaW3
set_option linter.unusedVariables false
set_option linter.unusedSimpArgs false
namespace Go.Vm
open Go
def beforeOk (r : TRoom) (p : Int) : Bool := decide (0 ≤ hasE r.1 p ∧ hasE r.1 p < r.2.1.length)
noncomputable def beforeL (r : TRoom) (prev : List Int) : List TItem × Bool := bif prev.all (beforeOk r) then (resolveL r.1 (prev.map fun p => rd [] r.2.1 (hasE r.1 p).toNat), true) else ([], false)
/-! ### A room grows -/
noncomputable def addR (r : TRoom) (e : TEvent) : TRoom × Bool :=
  bif (beforeL r e.2.2.2.2.2.2.2.1).2 && (eventOk e && (decide (hasE r.1 e.1 < 0) && (decide (e.2.2.2.2.2.2.2.2.1 = depthOf r.1 e.2.2.2.2.2.2.2.1) && decide (r.1.length < 40)))) then
    ((r.1 ++ [e], r.2.1 ++ [bif allowed r.1 (beforeL r e.2.2.2.2.2.2.2.1).1 e && keyOf e != 0 then putS (beforeL r e.2.2.2.2.2.2.2.1).1 (keyOf e) e.1 else (beforeL r e.2.2.2.2.2.2.2.1).1], r.2.2.1 ++ [allowed r.1 (beforeL r e.2.2.2.2.2.2.2.1).1 e], ()), true)
  else (([], [], [], ()), false)
/-- What comes of right events, one behind the other. -/
inductive Built : TRoom → Prop where
  | nil : Built ([], [], [], ())
  | add {r : TRoom} {e : TEvent} : Built r → e.2.2.2.2.2.2.2.1.length ≤ 1000 → (addR r e).2 = true → Built (addR r e).1
/-! ### Drawn rooms -/
/-- A room that was made step by step. -/
structure RoomI (r : TRoom) : Prop where
  bt : Built r
  len : r.1.length ≤ 40
  sl : r.2.1.length = r.1.length
  gl : r.2.2.1.length = r.1.length
  st : ∀ i, i < r.2.1.length → (rd [] r.2.1 i).length ≤ 16
  ev : ∀ e ∈ r.1, eventOk e = true
  ids : ∀ i j, i < j → j < r.1.length → (rd dTEvent r.1 i).1 ≠ (rd dTEvent r.1 j).1
theorem findE_cases (es : List TEvent) (y : Int) : findE es y = (noEv, false) ∨ ∃ e ∈ es, findE es y = (e, true) ∧ e.1 = y := by
  unfold findE
  cases hf : es.find? fun e => e.1 == y with
  | none => exact .inl rfl
  | some e => exact .inr ⟨e, List.mem_of_find?_eq_some hf, rfl, by simpa using List.find?_some hf⟩
theorem event_small {e : TEvent} (h : eventOk e = true) : e.2.2.2.2.2.2.2.1.length ≤ 3 ∧ m_Event e ≤ 1000 := by
  have hf := event_facts h
  have hb := body_facts hf.1
  have h4 : (ePrev e).length ≤ 3 := hf.2.2.2.1
  refine ⟨h4, ?_⟩
  show (eLevels e).length + ((eText e).size + ((ePrev e).length + 0)) ≤ 1000
  omega
theorem RoomI.evs {r : TRoom} (h : RoomI r) : EvS r.1 := by
  refine ⟨by have := h.len; omega, fun y => ?_, fun y => ?_⟩
  · unfold prevsOf
    rcases findE_cases r.1 y with e | ⟨e, he, e2, _⟩
    · rw [e]; show 0 ≤ 1048576; omega
    · rw [e2]; have := (event_small (h.ev e he)).1; simp only; omega
  · rcases findE_cases r.1 y with e | ⟨e, he, e2, _⟩
    · rw [e]; show 0 + (0 + (0 + 0)) ≤ 1048576; omega
    · rw [e2]; have := (event_small (h.ev e he)).2; simp only; omega
theorem RoomI.prevS {r : TRoom} (h : RoomI r) : PrevS r.1 := ⟨by have := h.len; omega, fun i hi => by
  have := (event_small (h.ev (rd dTEvent r.1 i) (by rw [rd_at hi]; exact List.getElem_mem _))).1
  exact Nat.le_trans this (by omega)⟩
theorem beforeL_lengthB {r : TRoom} (h : RoomI r) {prev : List Int} (hp : prev.length ≤ 1048576) : (beforeL r prev).1.length ≤ 16 := by
  unfold beforeL
  cases hq : prev.all (beforeOk r) with
  | false => exact Nat.zero_le _
  | true =>
    refine resolveL_lengthB ⟨by simp; omega, fun i hi => ?_⟩
    have hi2 : i < prev.length := by simpa using hi
    rw [rd_at hi, List.getElem_map]
    have := List.all_eq_true.1 hq _ (List.getElem_mem hi2)
    unfold beforeOk at this
    have := of_decide_eq_true this
    exact h.st _ (by omega)
theorem beforeL_length {r : TRoom} (h : RoomI r) {prev : List Int} (hp : prev.length ≤ 1000) : (beforeL r prev).1.length ≤ 16 := beforeL_lengthB h (by omega)
theorem s_l12BeforeB_ev (r : TRoom) (h : RoomI r) (prev : List Int) (hp : prev.length ≤ 1048576) : Ev (fun k => s_l12Before k r prev) (beforeL r prev) := by
  refine Re.eq (Re.enter (f := fun k n => l0_s_l12Before k n prev 0 r []) among_nat ?_)
  have hlen := h.len
  have := Re.loop (ι := Nat) (l := fun k n (i : Nat) => l0_s_l12Before k n prev (i : Int) r ((prev.take i).map fun p => rd [] r.2.1 (hasE r.1 p).toNat)) (I := fun i => i ≤ prev.length ∧ ∀ j, j < i → beforeOk r (rd 0 prev j) = true) (fun i => prev.length - i) (Q := fun _ v => v = beforeL r prev) (fun i hi ih => by
    obtain ⟨g1, g2⟩ := hi
    simp only [l0_s_l12Before, b0_s_l12Before]
    refine Re.brd (fun g => ?_) (fun g => ?_)
    · have hl : i < prev.length := by omega
      refine Re.gdd (by omega) (Re.gdd g ?_)
      simp only [Int.toNat_natCast]
      refine Re.c2 (s_l12Has_ev r (by omega) _) ?_
      have no : ¬ (0 ≤ hasE r.1 (rd 0 prev i) ∧ hasE r.1 (rd 0 prev i) < r.2.1.length) → (([] : List TItem), false) = beforeL r prev := fun q => by
        unfold beforeL
        have : prev.all (beforeOk r) = false := by
          rw [List.all_eq_false]
          exact ⟨rd 0 prev i, by rw [rd_at hl]; exact List.getElem_mem _, by unfold beforeOk; simp [q]⟩
        rw [this]; rfl
      refine Re.brd (fun q => Re.ret (no fun x => by omega)) (fun q => ?_)
      refine Re.brd (fun q2 => Re.ret (no fun x => by omega)) (fun q2 => ?_)
      refine Re.gdd (by omega) (Re.gdd (by omega) (Re.gdd (by simp [maxRow]; omega) ?_))
      rw [idx_succ hl (by omega)]
      have next := ih (i + 1) ⟨by omega, fun j hj => by
        by_cases q3 : j < i
        · exact g2 j q3
        · have : j = i := by omega
          subst this
          exact decide_eq_true ⟨by omega, by omega⟩⟩ (by omega)
      rw [take_int hl, List.map_append] at next
      exact next
    · rw [List.take_of_length_le (by omega)]
      have hall : prev.all (beforeOk r) = true := by
        rw [List.all_eq_true]
        intro p hp
        obtain ⟨j, hj, rfl⟩ := List.getElem_of_mem hp
        have := g2 j (by omega)
        rwa [rd_at hj] at this
      have hN : StsB (prev.map fun p => rd [] r.2.1 (hasE r.1 p).toNat) := ⟨by simp; omega, fun j hj => by
        have hj2 : j < prev.length := by simpa using hj
        rw [rd_at hj, List.getElem_map]
        have := of_decide_eq_true (List.all_eq_true.1 hall _ (List.getElem_mem hj2))
        exact h.st _ (by omega)⟩
      refine Re.c2 (s_ResolveB_ev r.1 h.evs _ hN) (Re.ret ?_)
      unfold beforeL
      rw [hall]; rfl) 0 ⟨Nat.zero_le _, fun j hj => by omega⟩
  simpa using this
theorem s_l12Before_ev (r : TRoom) (h : RoomI r) (prev : List Int) (hp : prev.length ≤ 1000) : Ev (fun k => s_l12Before k r prev) (beforeL r prev) := s_l12BeforeB_ev r h prev (by omega)
theorem endsL_mem {es : List TEvent} {x : Int} (h : x ∈ endsL es) : ∃ e ∈ es, e.1 = x := by
  have : ∀ (xs : List TEvent) (a : List Int), x ∈ xs.foldl (endStep es) a → x ∈ a ∨ ∃ e ∈ xs, e.1 = x := by
    intro xs
    induction xs with
    | nil => intro a h; exact .inl h
    | cons e xs ih =>
      intro a h
      rw [List.foldl_cons] at h
      rcases ih _ h with h1 | ⟨e', h1, h2⟩
      · unfold endStep at h1
        cases hn : named es e.1 with
        | true => rw [hn] at h1; exact .inl h1
        | false =>
          rw [hn] at h1
          rcases addL_mem.1 h1 with h2 | h2
          · exact .inl h2
          · exact .inr ⟨e, List.mem_cons_self .., h2.symm⟩
      · exact .inr ⟨e', List.mem_cons_of_mem _ h1, h2⟩
  rcases this es [] h with h1 | h1
  · simp at h1
  · exact h1
/-- What comes next to a room. -/
structure NextP (r : TRoom) (id : Int) (e : TEvent) : Prop where
  eid : e.1 = id
  pl : e.2.2.2.2.2.2.2.1.length ≤ 3
  ll : e.2.2.2.2.2.1.length ≤ 6
  tl : e.2.2.2.2.2.2.1.size ≤ 5
  dp : e.2.2.2.2.2.2.2.2.1 = depthOf r.1 e.2.2.2.2.2.2.2.1
  pm : ∀ p ∈ e.2.2.2.2.2.2.2.1, ∃ x ∈ r.1, x.1 = p
  first : r.1 = [] → e = (id, 1, 1, 0, 0, [], ByteArray.empty, [], 0, ())
theorem NextP.small {r : TRoom} {id : Int} {e : TEvent} (h : NextP r id e) : m_Event e ≤ 1000 := by
  have h1 := h.pl; have h2 := h.ll; have h3 := h.tl
  show e.2.2.2.2.2.1.length + (e.2.2.2.2.2.2.1.size + (e.2.2.2.2.2.2.2.1.length + 0)) ≤ 1000
  omega
theorem next_loop (r : TRoom) (h : RoomI r) (hne : r.1 ≠ []) (id : Int) (s : List TItem) (hs : s.length ≤ 16) (prev : List Int) (hpl : prev.length ≤ 3) (hpm : ∀ p ∈ prev, ∃ x ∈ r.1, x.1 = p) (c : TL01Cur) (hc : CurOk c) (b : TEvent) (hb : b.2.2.2.2.2.1.length ≤ 6 ∧ b.2.2.2.2.2.2.1.size ≤ 5) :
    Re (fun x : Nat × Nat => l1_s_l12Next x.1 x.2 id 0 c.1 c.2.1 c.2.2.1 r b.2.1 b.2.2.1 b.2.2.2.1 b.2.2.2.2.1 b.2.2.2.2.2.2.1 (depthOf r.1 prev) s b.2.2.2.2.2.1 prev) (fun q => NextP r id q.1 ∧ CurOk q.2.1) := by
  have hlen := h.len
  have hpos : 0 < r.1.length := List.length_pos_iff.2 hne
  have := Re.loop (ι := Nat) (l := fun k n (st : Nat × TL01Cur × TEvent) => l1_s_l12Next k n id (st.1 : Int) st.2.1.1 st.2.1.2.1 st.2.1.2.2.1 r st.2.2.2.1 st.2.2.2.2.1 st.2.2.2.2.2.1 st.2.2.2.2.2.2.1 st.2.2.2.2.2.2.2.2.1 (depthOf r.1 prev) s st.2.2.2.2.2.2.2.1 prev) (I := fun st => st.1 ≤ 6 ∧ CurOk st.2.1 ∧ st.2.2.2.2.2.2.2.1.length ≤ 6 ∧ st.2.2.2.2.2.2.2.2.1.size ≤ 5) (fun st => 6 - st.1) (Q := fun _ q => NextP r id q.1 ∧ CurOk q.2.1) (fun st hi ih => by
    obtain ⟨i, c, b⟩ := st
    obtain ⟨g1, g2, g3, g4⟩ := hi
    simp only at g1 g2 g3 g4 ih ⊢
    simp only [l1_s_l12Next, b1_s_l12Next]
    have fin : Re (fun x : Nat × Nat => (br ((r.1.length : Int) == 1) (gd (decide (0 < (r.1.length : Int))) (gd (decide (0 < (r.1.length : Int))) (some ((id, 2, (rd dTEvent r.1 0).2.2.1, (rd dTEvent r.1 0).2.2.1, 2, [], ByteArray.empty, prev, depthOf r.1 prev, ()), (c.1, c.2.1, c.2.2.1, ()), ())))) (some ((id, b.2.1, b.2.2.1, b.2.2.2.1, b.2.2.2.2.1, b.2.2.2.2.2.1, b.2.2.2.2.2.2.1, prev, depthOf r.1 prev, ()), (c.1, c.2.1, c.2.2.1, ()), ())))) (fun q => NextP r id q.1 ∧ CurOk q.2.1) := by
      refine Re.brb (Re.gdd (by omega) (Re.gdd (by omega) (Re.ret ⟨⟨rfl, hpl, by simp, by show (0 : Nat) ≤ 5; omega, rfl, hpm, fun e => absurd e hne⟩, g2.eta⟩))) (Re.ret ⟨⟨rfl, hpl, g3, g4, rfl, hpm, fun e => absurd e hne⟩, g2.eta⟩)
    refine Re.brd (fun q => ?_) (fun q => fin)
    refine Re.c2 (s_Allowed_ev r.1 s ⟨by omega, by omega⟩ (id, b.2.1, b.2.2.1, b.2.2.2.1, b.2.2.2.2.1, b.2.2.2.2.2.1, b.2.2.2.2.2.2.1, prev, depthOf r.1 prev, ()) (by show b.2.2.2.2.2.1.length + (b.2.2.2.2.2.2.1.size + (prev.length + 0)) ≤ 1048576; omega)) ?_
    refine Re.brb (Re.b2 (bodied_re _ g2.eta) fun r9 h9 => ?_) fin
    obtain ⟨⟨_, _, _, _, _, b5, b6, b7, _, _⟩, c9⟩ := h9
    have hl : r9.1.2.2.2.2.2.1.length ≤ 6 := by
      by_cases h3 : r9.1.2.1 = 3
      · have := b5 h3; omega
      · rw [b6 h3]; simp
    have e1 : w64 ((i : Int) + 1) = ((i + 1 : Nat) : Int) := by rw [w64_eq (by omega) (by omega)]; rfl
    rw [e1]
    exact ih (i + 1, r9.2.1, r9.1) ⟨by simp only; omega, c9, hl, b7⟩ (by simp only; omega)) (0, c, b) ⟨Nat.zero_le _, hc, hb.1, hb.2⟩
  exact this
theorem l12Next_re (c : TL01Cur) (hc : CurOk c) (r : TRoom) (h : RoomI r) (id : Int) : Re (fun k => s_l12Next k c r id) (fun q => NextP r id q.1 ∧ CurOk q.2.1) := by
  have hlen := h.len
  refine Re.bre (fun q => Re.ret ⟨?_, hc⟩) (fun q => ?_)
  · have he : r.1 = [] := List.length_eq_zero_iff.1 (by omega)
    exact ⟨rfl, by simp, by simp, by show (0 : Nat) ≤ 5; omega, by simp [depthOf, mostD], fun p hp => by simp at hp, fun _ => rfl⟩
  have hne : r.1 ≠ [] := fun e => q (by rw [e]; rfl)
  have hpos : 0 < r.1.length := List.length_pos_iff.2 hne
  refine Re.b1 (bodied_re c hc) fun r1 h1 => ?_
  obtain ⟨⟨_, _, _, _, _, b5, b6, b7, _, _⟩, c1⟩ := h1
  have hl : r1.1.2.2.2.2.2.1.length ≤ 6 := by
    by_cases h3 : r1.1.2.1 = 3
    · have := b5 h3; omega
    · rw [b6 h3]; simp
  refine Re.c1 (s_EndsOf_ev r h.prevS) ?_
  have hel : (endsL r.1).length ≤ 40 := by
    have := endStep_length r.1 r.1 []
    unfold endsL; simp at this; omega
  have hem : ∀ j, j < (endsL r.1).length → ∃ x ∈ r.1, x.1 = rd 0 (endsL r.1) j := fun j hj => endsL_mem (by rw [rd_at hj]; exact List.getElem_mem _)
  generalize endsL r.1 = ends at hel hem ⊢
  refine Re.enter (f := fun k n => l0_s_l12Next k n id 0 r1.2.1.1 r1.2.1.2.1 r1.2.1.2.2.1 r r1 ends []) among_nat ?_
  have := Re.loop (ι := Nat) (l := fun k n (st : Nat × TL01Cur × List Int) => l0_s_l12Next k n id (st.1 : Int) st.2.1.1 st.2.1.2.1 st.2.1.2.2.1 r r1 ends st.2.2) (I := fun st => st.1 ≤ ends.length ∧ CurOk st.2.1 ∧ st.2.2.length ≤ 3 ∧ ∀ p ∈ st.2.2, ∃ x ∈ r.1, x.1 = p) (fun st => ends.length - st.1) (Q := fun _ q => NextP r id q.1 ∧ CurOk q.2.1) (fun st hi ih => by
    obtain ⟨i, c, xs⟩ := st
    obtain ⟨g1, g2, g3, g4⟩ := hi
    simp only at g1 g2 g3 g4 ih ⊢
    simp only [l0_s_l12Next, b0_s_l12Next]
    have tail : ∀ (c : TL01Cur), CurOk c → Re (fun x : Nat × Nat => (bd (s_l01Once x.1 (c.1, c.2.1, c.2.2.1, ()) 4) fun r4 => (br r4.1 (bd (s_l01Below x.1 r4.2.1 (r.1.length : Int)) fun r5 => (gd (decide (0 ≤ r5.1)) (gd (decide (r5.1 < (r.1.length : Int))) (bd (s_DepthOf x.1 r [(rd dTEvent r.1 r5.1.toNat).1]) fun r6 => (bd (s_l12Before x.1 r [(rd dTEvent r.1 r5.1.toNat).1]) fun r7 => (l1_s_l12Next x.1 x.2 id 0 r5.2.1.1 r5.2.1.2.1 r5.2.1.2.2.1 r r1.1.2.1 r1.1.2.2.1 r1.1.2.2.2.1 r1.1.2.2.2.2.1 r1.1.2.2.2.2.2.2.1 r6 r7.1 r1.1.2.2.2.2.2.1 [(rd dTEvent r.1 r5.1.toNat).1])))))) (bd (s_DepthOf x.1 r xs) fun r10 => (bd (s_l12Before x.1 r xs) fun r11 => (l1_s_l12Next x.1 x.2 id 0 r4.2.1.1 r4.2.1.2.1 r4.2.1.2.2.1 r r1.1.2.1 r1.1.2.2.1 r1.1.2.2.2.1 r1.1.2.2.2.2.1 r1.1.2.2.2.2.2.2.1 r10 r11.1 r1.1.2.2.2.2.2.1 xs)))))) (fun q => NextP r id q.1 ∧ CurOk q.2.1) := by
      intro c hc
      refine Re.b2 (once_re _ 4 hc.eta) fun r4 h4 => ?_
      refine Re.brb (Re.b2 (below_re _ _ h4) fun r5 h5 => ?_) ?_
      · obtain ⟨⟨q1, q2⟩, q3⟩ := h5
        have q4 : r5.1 < r.1.length := by omega
        refine Re.gdd q1 (Re.gdd q4 (Re.c2 (s_DepthOf_ev r (by omega) _ (by simp)) (Re.c2 (s_l12Before_ev r h _ (by simp)) ?_)))
        refine next_loop r h hne id _ (beforeL_length h (by simp)) _ (by simp) (fun p hp => ?_) r5.2.1 q3 r1.1 ⟨hl, b7⟩
        simp at hp
        subst hp
        exact ⟨rd dTEvent r.1 r5.1.toNat, by rw [rd_at (show r5.1.toNat < r.1.length by omega)]; exact List.getElem_mem _, rfl⟩
      · refine Re.c2 (s_DepthOf_ev r (by omega) _ (by omega)) (Re.c2 (s_l12Before_ev r h _ (by omega)) ?_)
        exact next_loop r h hne id _ (beforeL_length h (by omega)) _ g3 g4 r4.2.1 h4 r1.1 ⟨hl, b7⟩
    refine Re.brd (fun q1 => ?_) (fun q1 => tail c g2)
    refine Re.brd (fun q2 => ?_) (fun q2 => tail c g2)
    have hli : i < ends.length := by omega
    refine Re.b2 (once_re _ 2 g2.eta) fun r3 h3 => ?_
    rw [idx_succ hli (by omega)]
    simp only [Int.toNat_natCast]
    have add := ih (i + 1, r3.2.1, xs ++ [rd 0 ends i]) ⟨by simp only; omega, h3, by simp; omega, fun p hp => by
      rcases List.mem_append.1 hp with hp | hp
      · exact g4 p hp
      · simp at hp; subst hp; exact hem i hli⟩ (by simp only; omega)
    have skip := ih (i + 1, r3.2.1, xs) ⟨by simp only; omega, h3, g3, g4⟩ (by simp only; omega)
    have ga : Re (fun x : Nat × Nat => gd (decide (0 ≤ (i : Int))) (gd (decide ((i : Int) < (ends.length : Int))) (gd (decide (xs.length + [(rd 0 ends i)].length ≤ maxRow)) (l0_s_l12Next x.1 x.2 id ((i + 1 : Nat) : Int) r3.2.1.1 r3.2.1.2.1 r3.2.1.2.2.1 r r1 ends (xs ++ [(rd 0 ends i)]))))) (fun q => NextP r id q.1 ∧ CurOk q.2.1) := Re.gdd (by omega) (Re.gdd q1 (Re.gdd (by simp [maxRow]; omega) add))
    exact Re.brb ga (Re.brb (Re.brb ga skip) skip)) (0, r1.2.1, []) ⟨Nat.zero_le _, c1, by simp, fun p hp => by simp at hp⟩
  exact this
theorem s_l12AddB_ev (r : TRoom) (h : RoomI r) (e : TEvent) (hm : m_Event e ≤ 1048576) (hp : e.2.2.2.2.2.2.2.1.length ≤ 1048576) : Ev (fun k => s_l12Add k r e) (addR r e) := by
  have hlen := h.len
  have hsl := h.sl
  have hgl := h.gl
  have hbl := beforeL_lengthB h hp
  refine Re.eq (Re.c1 (s_l12BeforeB_ev r h _ hp) ?_)
  unfold addR
  generalize beforeL r e.2.2.2.2.2.2.2.1 = b at hbl ⊢
  obtain ⟨s, ok⟩ := b
  cases ok with
  | false => exact Re.ret rfl
  | true =>
    refine Re.br (b := false) (fun h => by cases h) (fun _ => Re.c1 (s_EventOk_ev e hm) ?_)
    cases ho : eventOk e with
    | false => exact Re.ret rfl
    | true =>
      refine Re.br (b := false) (fun h => by cases h) (fun _ => Re.c1 (s_l12Has_ev r (by omega) _) ?_)
      refine Re.brd (fun q => Re.ret (by rw [decide_eq_false (show ¬ hasE r.1 e.1 < 0 by omega)]; rfl)) (fun q => ?_)
      rw [decide_eq_true (show hasE r.1 e.1 < 0 by omega)]
      refine Re.c1 (s_DepthOf_ev r (by omega) _ (by omega)) ?_
      refine Re.brn (fun q2 => Re.ret (by rw [decide_eq_false q2]; rfl)) (fun q2 => ?_)
      rw [decide_eq_true q2]
      refine Re.brd (fun q3 => Re.ret (by rw [decide_eq_false (show ¬ r.1.length < 40 by omega)]; rfl)) (fun q3 => ?_)
      rw [decide_eq_true (show r.1.length < 40 by omega)]
      refine Re.c1 (s_Allowed_ev r.1 s ⟨by omega, by simp only at hbl; omega⟩ e hm) ?_
      simp only at hbl
      cases ha : allowed r.1 s e with
      | false =>
        refine Re.br (b := false) (fun h => by cases h) (fun _ => ?_)
        exact Re.gdd (by simp [maxRow]; omega) (Re.gdd (by simp [maxRow]; omega) (Re.gdd (by simp [maxRow]; omega) (Re.gdd (by simp [maxRow]; omega) (Re.gdd (by simp [maxRow]; omega) (Re.gdd (by simp [maxRow]; omega) (Re.ret rfl))))))
      | true =>
        refine Re.br (b := true) (fun _ => Re.s1 (s_KeyOf_eq e ·) ?_) (fun h => by cases h)
        refine Re.br (fun q4 => ?_) (fun q4 => ?_)
        · refine Re.s1 (s_KeyOf_eq e ·) (Re.c1 (s_Put_ev s (by omega) _ _) ?_)
          refine Re.gdd (by simp [maxRow]; omega) (Re.gdd (by simp [maxRow]; omega) (Re.gdd (by simp [maxRow]; omega) (Re.gdd (by simp [maxRow]; omega) (Re.gdd (by simp [maxRow]; omega) (Re.gdd (by simp [maxRow]; omega) (Re.ret ?_))))))
          rw [q4]; rfl
        · refine Re.gdd (by simp [maxRow]; omega) (Re.gdd (by simp [maxRow]; omega) (Re.gdd (by simp [maxRow]; omega) (Re.gdd (by simp [maxRow]; omega) (Re.gdd (by simp [maxRow]; omega) (Re.gdd (by simp [maxRow]; omega) (Re.ret ?_))))))
          rw [q4]; rfl
theorem s_l12Add_ev (r : TRoom) (h : RoomI r) (e : TEvent) (hm : m_Event e ≤ 1048576) (hp : e.2.2.2.2.2.2.2.1.length ≤ 1000) : Ev (fun k => s_l12Add k r e) (addR r e) := s_l12AddB_ev r h e hm (by omega)
theorem rd_snocL {α : Type} (d : α) (xs : List α) (y : α) (i : Nat) : rd d (xs ++ [y]) i = if i < xs.length then rd d xs i else if i = xs.length then y else d := by
  unfold rd
  by_cases h : i < xs.length
  · rw [if_pos h]; simp [List.getElem?_append_left h]
  · rw [if_neg h]
    by_cases h2 : i = xs.length
    · subst h2; simp
    · rw [if_neg h2]; simp [List.getElem?_eq_none (show (xs ++ [y]).length ≤ i by simp; omega)]
theorem addR_room {r : TRoom} (h : RoomI r) {e : TEvent} (hp : e.2.2.2.2.2.2.2.1.length ≤ 1000) (ho : (addR r e).2 = true) : RoomI (addR r e).1 ∧ (addR r e).1.1 = r.1 ++ [e] := by
  have hbl := beforeL_length h hp
  have hbt := Built.add h.bt hp ho
  unfold addR at ho hbt ⊢
  cases hq : (beforeL r e.2.2.2.2.2.2.2.1).2 && (eventOk e && (decide (hasE r.1 e.1 < 0) && (decide (e.2.2.2.2.2.2.2.2.1 = depthOf r.1 e.2.2.2.2.2.2.2.1) && decide (r.1.length < 40)))) with
  | false => rw [hq] at ho; cases ho
  | true =>
    rw [hq] at hbt
    simp only [cond_true]
    simp only [Bool.and_eq_true, decide_eq_true_eq] at hq
    obtain ⟨_, q1, q2, _, q3⟩ := hq
    refine ⟨⟨hbt, by simp; omega, by simp [h.sl], by simp [h.gl], fun i hi => ?_, fun x hx => ?_, fun i j hij hj => ?_⟩, trivial⟩
    · simp only at hi ⊢
      rw [rd_snocL]
      by_cases q : i < r.2.1.length
      · rw [if_pos q]; exact h.st i q
      · rw [if_neg q, if_pos (by simp at hi; omega)]
        cases allowed r.1 (beforeL r e.2.2.2.2.2.2.2.1).1 e && keyOf e != 0 with
        | true => exact putS_length hbl (by omega)
        | false => exact hbl
    · rcases List.mem_append.1 hx with hx | hx
      · exact h.ev x hx
      · simp at hx; subst hx; exact q1
    · simp only at hj ⊢
      rw [rd_snocL, rd_snocL]
      have hj2 : j < r.1.length + 1 := by simpa using hj
      rw [if_pos (show i < r.1.length by omega)]
      by_cases q : j < r.1.length
      · rw [if_pos q]; exact h.ids i j hij q
      · rw [if_neg q, if_pos (by omega)]
        rcases hasE_spec r.1 e.1 with ⟨_, hn⟩ | ⟨k, hk, e2, _⟩
        · exact hn _ (by rw [rd_at (show i < r.1.length by omega)]; exact List.getElem_mem _)
        · omega
theorem s_l09Copy_eq (k : Nat) (e : TEvent) (h1 : e.2.2.2.2.2.1.length ≤ 1048576) (h2 : e.2.2.2.2.2.2.2.1.length ≤ 1048576) : s_l09Copy k e = some e := by
  unfold s_l09Copy
  rw [decide_eq_true (by simp [maxRow]; omega), decide_eq_true (by simp [maxRow]; omega)]
  rfl
theorem s_l12Copy_ev (r : TRoom) (h : RoomI r) : Ev (fun k => s_l12Copy k r) r := by
  have hlen := h.len
  have hsl := h.sl
  have hgl := h.gl
  have h0 : Ev (fun k => s_l09CopyList k r.1) r.1 := by
    refine Re.eq (Re.enter (f := fun k n => l0_s_l09CopyList k n r.1 0 []) among_nat ?_)
    have := Re.loop (ι := Nat) (l := fun k n (i : Nat) => l0_s_l09CopyList k n r.1 (i : Int) (r.1.take i)) (I := fun i => i ≤ r.1.length) (fun i => r.1.length - i) (Q := fun _ v => v = r.1) (fun i hi ih => by
      simp only [l0_s_l09CopyList, b0_s_l09CopyList]
      refine Re.brd (fun g => ?_) (fun g => Re.ret (List.take_of_length_le (by omega)))
      have hl : i < r.1.length := by omega
      have hs := event_small (h.ev (rd dTEvent r.1 i) (by rw [rd_at hl]; exact List.getElem_mem _))
      have hm := m_Event_le (e := rd dTEvent r.1 i) (by omega)
      refine Re.gdd (by omega) (Re.gdd g ?_)
      simp only [Int.toNat_natCast]
      refine Re.s2 (s_l09Copy_eq · _ hm.1 hm.2.2) (Re.gdd (by simp [maxRow]; omega) ?_)
      rw [idx_succ hl (by omega)]
      have next := ih (i + 1) (by omega) (by omega)
      rw [List.take_add_one, List.getElem?_eq_getElem hl] at next
      rw [rd_at hl]
      exact next) 0 (Nat.zero_le _)
    simpa using this
  refine Re.eq (Re.c1 h0 (Re.gdd (by simp [maxRow]; omega) ?_))
  refine Re.enter (f := fun k n => l0_s_l12Copy k n 0 r r.1 []) among_nat ?_
  have := Re.loop (ι := Nat) (l := fun k n (i : Nat) => l0_s_l12Copy k n (i : Int) r r.1 (r.2.1.take i)) (I := fun i => i ≤ r.2.1.length) (fun i => r.2.1.length - i) (Q := fun _ v => v = r) (fun i hi ih => by
    simp only [l0_s_l12Copy, b0_s_l12Copy]
    refine Re.brd (fun g => ?_) (fun g => Re.ret (by rw [List.take_of_length_le (by omega)]; rfl))
    have hl : i < r.2.1.length := by omega
    have hs := h.st i hl
    refine Re.gdd (by omega) (Re.gdd g ?_)
    simp only [Int.toNat_natCast]
    refine Re.gdd (by simp [maxRow]; omega) (Re.gdd (by simp [maxRow]; omega) ?_)
    rw [idx_succ hl (by omega)]
    have next := ih (i + 1) (by omega) (by omega)
    rw [List.take_add_one, List.getElem?_eq_getElem hl] at next
    rw [rd_at hl, List.nil_append]
    exact next) 0 (Nat.zero_le _)
  simpa using this
theorem newE_ok (i : Int) (h : 1 ≤ i ∧ i ≤ 1000000) : eventOk (i, 1, 1, 0, 0, [], ByteArray.empty, [], 0, ()) = true := by
  have e1 : inR i 1 1000000 = true := inR_iff.2 h
  have e2 : emp ByteArray.empty = true := by unfold emp; rw [str_beq]; rfl
  unfold eventOk body
  simp only [eText, e1, e2]
  rfl
theorem noRoomI : RoomI ([], [], [], ()) := ⟨.nil, by simp, rfl, rfl, fun i hi => by simp at hi, fun e he => by simp at he, fun i j _ hj => by simp at hj⟩
theorem add_first (i : Int) (h : 1 ≤ i ∧ i ≤ 1000000) : (addR ([], [], [], ()) (i, 1, 1, 0, 0, [], ByteArray.empty, [], 0, ())).2 = true := by
  unfold addR
  have e1 : (beforeL ([], [], [], ()) ([] : List Int)).2 = true := rfl
  have e2 : hasE [] i = -1 := rfl
  have e3 : depthOf [] [] = 0 := rfl
  simp only [e1, newE_ok i h, e2, e3]
  rfl
end Go.Vm
