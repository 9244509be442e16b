/- Plain laws. -/
import Derived.Test.YtpcdgghbhgjgfaaJ3
set_option linter.unusedVariables false
set_option linter.unusedSimpArgs false
namespace Go.Vm
open Go
theorem size_eq (a : List Int) (h : a.length ≤ 1048576) : ∃ n : Int, (∀ k, s_l12Size k a = some n) ∧ 6 ≤ n ∧ n ≤ 24 := by
  have h1 : 0 ≤ Int.tdiv (a.length : Int) 8 := Int.tdiv_nonneg (by omega) (by omega)
  have h2 : Int.tdiv (a.length : Int) 8 ≤ a.length := Int.tdiv_le_self _ (by omega)
  have e1 : w64 (Int.tdiv (a.length : Int) 8) = Int.tdiv (a.length : Int) 8 := w64_eq (by omega) (by omega)
  have e2 : w64 (6 + Int.tdiv (a.length : Int) 8) = 6 + Int.tdiv (a.length : Int) 8 := w64_eq (by omega) (by omega)
  by_cases q : 6 + Int.tdiv (a.length : Int) 8 > 24
  · refine ⟨24, fun k => ?_, by omega, by omega⟩
    unfold s_l12Size
    rw [e1, e2, decide_eq_true q]
    simp
  · refine ⟨6 + Int.tdiv (a.length : Int) 8, fun k => ?_, by omega, by omega⟩
    unfold s_l12Size
    rw [e1, e2, decide_eq_false q]
    simp
/-- A drawn right room. -/
def RoomD (r : TRoom) : Prop := RoomI r ∧ r.1 ≠ [] ∧ ∀ e ∈ r.1, 1 ≤ e.1 ∧ e.1 ≤ 24
theorem l12Room_re (c : TL01Cur) (hc : CurOk c) (a : List Int) (ha : a.length ≤ 1048576) : Re (fun k => s_l12Room k c a) (fun q => RoomD q.1 ∧ CurOk q.2.1) := by
  obtain ⟨n, hn, n1, n2⟩ := size_eq a ha
  refine Re.enter (f := fun k m => l0_s_l12Room k m a 0 c.1 c.2.1 c.2.2.1 [] [] []) among_nat ?_
  have := Re.loop (ι := Nat) (l := fun k m (st : Nat × TL01Cur × TRoom) => l0_s_l12Room k m a (st.1 : Int) st.2.1.1 st.2.1.2.1 st.2.1.2.2.1 st.2.2.1 st.2.2.2.1 st.2.2.2.2.1) (I := fun st => (st.1 : Int) ≤ n ∧ CurOk st.2.1 ∧ RoomI st.2.2 ∧ (st.1 = 0 → st.2.2 = ([], [], [], ())) ∧ (0 < st.1 → st.2.2.1 ≠ []) ∧ ∀ e ∈ st.2.2.1, 1 ≤ e.1 ∧ e.1 ≤ 24) (fun st => 24 - st.1) (Q := fun _ q => RoomD q.1 ∧ CurOk q.2.1) (fun st hi ih => by
    obtain ⟨i, c, r⟩ := st
    obtain ⟨g1, g2, g3, g4, g5, g6⟩ := hi
    simp only at g1 g2 g3 g4 g5 g6 ih ⊢
    have er : (r.1, r.2.1, r.2.2.1, ()) = r := rfl
    simp only [l0_s_l12Room, b0_s_l12Room]
    refine Re.s2 hn ?_
    refine Re.brd (fun q => ?_) (fun q => ?_)
    · rw [w64_eq (show -9223372036854775808 ≤ 1 + (i : Int) by omega) (by omega)]
      refine Re.b2 (l12Next_re _ g2.eta _ g3 _) fun r2 h2 => ?_
      obtain ⟨hN, hc2⟩ := h2
      have hsm := hN.small
      have hpl := hN.pl
      refine Re.c2 (s_l12Add_ev _ g3 _ (by omega) (by omega)) ?_
      have ew : w64 ((i : Int) + 1) = ((i + 1 : Nat) : Int) := by rw [w64_eq (by omega) (by omega)]; rfl
      rw [ew]
      refine Re.br (fun ho => ?_) (fun ho => ?_)
      · obtain ⟨hR, hE⟩ := addR_room g3 (by omega) ho
        refine ih (i + 1, r2.2.1, (addR r r2.1).1) ⟨by simp only; omega, hc2, hR, fun h => absurd h (by omega), fun _ => by rw [hE]; simp, fun e he => ?_⟩ (by simp only; omega)
        simp only at he
        rw [hE] at he
        rcases List.mem_append.1 he with he | he
        · exact g6 e he
        · simp at he; subst he
          have := hN.eid
          omega
      · refine ih (i + 1, r2.2.1, r) ⟨by simp only; omega, hc2, g3, fun h => absurd h (by omega), fun _ => ?_, g6⟩ (by simp only; omega)
        by_cases h0 : i = 0
        · exfalso
          have hr := g4 h0
          subst hr
          have := hN.first rfl
          rw [this] at ho
          rw [show (addR (([] : List TEvent), ([] : List (List TItem)), ([] : List Bool), ()) (1 + (i : Int), 1, 1, 0, 0, [], ByteArray.empty, [], 0, ())).2 = true from add_first _ ⟨by omega, by omega⟩] at ho
          cases ho
        · exact g5 (by omega)
    · exact Re.c2 (s_l12Copy_ev _ g3) (Re.ret ⟨⟨g3, g5 (by omega), g6⟩, g2.eta⟩)) (0, c, ([], [], [], ())) ⟨by simp only; omega, hc, noRoomI, fun _ => rfl, fun h => absurd h (by simp), fun e he => by simp at he⟩
  exact this
theorem i_copyEvent_eq (k : Nat) (e : TEvent) (h1 : e.2.2.2.2.2.1.length ≤ 1048576) (h2 : e.2.2.2.2.2.2.2.1.length ≤ 1048576) : i_copyEvent k e = some e := by
  unfold i_copyEvent
  rw [decide_eq_true (by unfold maxRow; omega), decide_eq_true (by unfold maxRow; omega)]
  rfl
/-- Rows that may be copied. -/
def CopyS (es : List TEvent) : Prop := es.length ≤ 100000 ∧ ∀ i, i < es.length → (rd dTEvent es i).2.2.2.2.2.1.length ≤ 1048576 ∧ (rd dTEvent es i).2.2.2.2.2.2.2.1.length ≤ 1048576
theorem i_Known_ev (es : List TEvent) (h : CopyS es) (id : Int) : Ev (fun k => i_Known k es id) (findE es id) := by
  obtain ⟨h1, h2⟩ := h
  have := find_ev (l := fun k n i => l0_i_Known k n id es (i : Int)) es (fun e => e.1 == id) (fun e => (e, true)) (noEv, false) (fun i hi => ⟨0, fun k _ n => by
    have hc := i_copyEvent_eq k (rd dTEvent es i) (h2 i hi).1 (h2 i hi).2
    rw [rd_at hi] at hc
    simp only [l0_i_Known, b0_i_Known, Int.ofNat_lt, hi, Int.natCast_nonneg, decide_true, br_true, gd_true, Int.toNat_natCast, rd_at, idx_succ hi (by omega), hc, bd_some]⟩) ⟨0, fun k _ n => by
    simp only [l0_i_Known, b0_i_Known, Int.lt_irrefl, decide_false, br_false]⟩
  exact this
theorem RoomI.copyS {r : TRoom} (h : RoomI r) : CopyS r.1 := ⟨by have := h.len; omega, fun i hi => by
  have hs := event_small (h.ev (rd dTEvent r.1 i) (by rw [rd_at hi]; exact List.getElem_mem _))
  have hm := m_Event_le (e := rd dTEvent r.1 i) (by omega)
  exact ⟨hm.1, hm.2.2⟩⟩
theorem findE_at {r : TRoom} (h : RoomI r) {i : Nat} (hi : i < r.1.length) : findE r.1 (rd dTEvent r.1 i).1 = (rd dTEvent r.1 i, true) := by
  rcases findE_cases r.1 (rd dTEvent r.1 i).1 with e | ⟨e, he, e2, e3⟩
  · exfalso
    unfold findE at e
    cases hf : r.1.find? fun x => x.1 == (rd dTEvent r.1 i).1 with
    | none =>
      rw [List.find?_eq_none] at hf
      have := hf (rd dTEvent r.1 i) (by rw [rd_at hi]; exact List.getElem_mem _)
      simp at this
    | some x => rw [hf] at e; cases e
  · obtain ⟨j, hj, rfl⟩ := List.getElem_of_mem he
    rw [← rd_at (z := dTEvent) hj] at e2 e3
    have : i = j := by
      rcases Nat.lt_trichotomy i j with q | q | q
      · exact absurd e3.symm (h.ids i j q hj)
      · exact q
      · exact absurd e3 (h.ids j i q hi)
    subst this
    exact e2
theorem lsameInts_ev (a : List Int) (h : a.length ≤ 1048576) : Ev (fun k => l_sameInts k a a) true := by
  refine Re.eq ?_
  refine Re.brn (fun h => absurd rfl h) (fun _ => ?_)
  refine Re.enter (f := fun k n => l0_l_sameInts k n a a 0) among_nat ?_
  have := Re.loop (ι := Nat) (l := fun k n (i : Nat) => l0_l_sameInts k n a a (i : Int)) (I := fun i => i ≤ a.length) (fun i => a.length - i) (Q := fun _ v => v = true) (fun i hi ih => by
    simp only [l0_l_sameInts, b0_l_sameInts]
    refine Re.brd (fun q => ?_) (fun q => Re.ret rfl)
    refine Re.gdd (by omega) (Re.gdd q (Re.gdd (by omega) (Re.gdd q ?_)))
    refine Re.brn (fun h => absurd rfl h) (fun _ => ?_)
    rw [idx_succ (show i < a.length by omega) (by omega)]
    exact ih (i + 1) (by omega) (by omega)) 0 (Nat.zero_le _)
  exact this
end Go.Vm
