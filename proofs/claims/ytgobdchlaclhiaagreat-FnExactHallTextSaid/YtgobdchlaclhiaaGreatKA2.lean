/- Plain laws. -/
import Derived.Test.YtgobdchlaclhiaaGreatJA2
import Derived.Test.YtgobdchlaclhiaaGreatU2
set_option linter.unusedVariables false
set_option linter.unusedSimpArgs false
namespace Go.Vm
open Go
/-! ### Right rooms, of any kind -/
theorem addR_roomB {r : TRoom} (h : RoomI r) {e : TEvent} (ho : (addR r e).2 = true) : RoomI (addR r e).1 := by
  obtain ⟨_, h2, _⟩ := addR_true ho
  have := (event_small h2).1
  exact (addR_room h (by omega) ho).1
theorem sum_le {α : Type} (f : α → Nat) (c : Nat) : ∀ (xs : List α), (∀ x ∈ xs, f x ≤ c) → (xs.map f).sum ≤ xs.length * c
  | [], _ => by simp
  | x :: xs, h => by
    have h1 := h x (List.mem_cons_self ..)
    have h2 := sum_le f c xs fun y hy => h y (List.mem_cons_of_mem _ hy)
    rw [List.map_cons, List.sum_cons, List.length_cons, Nat.succ_mul]
    omega
noncomputable def roomGo : TRoom → List TEvent → TRoom × Bool
  | n, [] => (n, true)
  | n, e :: es => bif (addR n e).2 then roomGo (addR n e).1 es else (([], [], [], ()), false)
theorem roomGo_room : ∀ (es : List TEvent) {n : TRoom}, RoomI n → RoomI (roomGo n es).1
  | [], _, h => h
  | e :: es, n, h => by
    unfold roomGo
    cases ho : (addR n e).2 with
    | false => exact noRoomI
    | true => exact roomGo_room es (addR_roomB h ho)
theorem drop_rd {α : Type} {d : α} {xs : List α} {i : Nat} (h : i < xs.length) : xs.drop i = rd d xs i :: xs.drop (i + 1) := by
  rw [List.drop_eq_getElem_cons h, rd_at h]
noncomputable def roomL (es : List TEvent) : TRoom × Bool := roomGo ([], [], [], ()) es
theorem i_roomOfB_ev (es : List TEvent) (hm : m_EventS es ≤ 1048576) : Ev (fun k => i_roomOf k es) (roomL es) := by
  have hl : es.length ≤ 1048576 := by unfold m_EventS at hm; omega
  have hme : ∀ i, i < es.length → m_Event (rd dTEvent es i) ≤ 1048576 := fun i hi => by
    have : rd dTEvent es i ∈ es := by rw [rd_at hi]; exact List.getElem_mem _
    have := mem_sum m_Event this
    unfold m_EventS at hm; omega
  refine Re.eq (Re.enter (f := fun k n => l0_i_roomOf k n es 0 [] [] []) among_nat ?_)
  have := Re.loop (ι := Nat) (l := fun k n (st : Nat × TRoom) => l0_i_roomOf k n es (st.1 : Int) st.2.1 st.2.2.1 st.2.2.2.1) (I := fun st => st.1 ≤ es.length ∧ RoomI st.2 ∧ roomGo st.2 (es.drop st.1) = roomL es) (fun st => es.length - st.1) (Q := fun _ v => v = roomL es) (fun st hi ih => by
    obtain ⟨i, n⟩ := st
    obtain ⟨g1, g2, g3⟩ := hi
    simp only at g1 g2 g3 ih ⊢
    simp only [l0_i_roomOf, b0_i_roomOf, Int.toNat_natCast]
    refine Re.brd (fun g => ?_) (fun g => Re.ret ?_)
    · have hil : i < es.length := by omega
      rw [drop_rd (d := dTEvent) hil] at g3
      unfold roomGo at g3
      refine Re.gdd (by omega) (Re.gdd g (Re.c2 (i_AddEventB_ev n g2 _ (hme i hil)) ?_))
      rw [idx_succ hil (by omega)]
      cases ho : (addR n (rd dTEvent es i)).2 with
      | false =>
        refine Re.br (b := true) (fun _ => Re.ret ?_) (fun h => by cases h)
        rw [ho] at g3; exact g3
      | true =>
        rw [ho] at g3
        exact Re.br (b := false) (fun h => by cases h) (fun _ => ih (i + 1, (addR n (rd dTEvent es i)).1) ⟨by omega, addR_roomB g2 ho, g3⟩ (by simp only; omega))
    · have e : es.drop i = [] := List.drop_eq_nil_of_le (by omega)
      rw [e] at g3
      exact g3) (0, ([], [], [], ())) ⟨Nat.zero_le _, noRoomI, rfl⟩
  exact this
noncomputable def roomOk (r : TRoom) : Bool := !decide ((r.1.length : Int) > 40) && ((roomL r.1).2 && eqd (roomL r.1).1 r)
theorem RoomI.m {r : TRoom} (h : RoomI r) : m_Room r ≤ 1048576 := by
  have hl := h.len
  have hsl := h.sl
  have hgl := h.gl
  have s1 : (r.1.map m_Event).sum ≤ r.1.length * 1000 := sum_le m_Event 1000 r.1 fun e he => (event_small (h.ev e he)).2
  have s2 : (r.2.1.map m_ItemS).sum ≤ r.2.1.length * 16 := sum_le m_ItemS 16 r.2.1 fun s hs => by
    obtain ⟨i, hi, rfl⟩ := List.getElem_of_mem hs
    have := h.st i hi
    rw [rd_at hi] at this
    exact this
  unfold m_Room m_EventS m_ItemSS m_BoolS
  omega
theorem i_RoomOkB_ev (r : TRoom) (hm : m_Room r ≤ 1048576) : Ev (fun k => i_RoomOk k r) (roomOk r) := by
  have hme : m_EventS r.1 ≤ 1048576 := by unfold m_Room at hm; omega
  have hR := roomGo_room r.1 noRoomI
  unfold roomOk
  refine Re.eq (Re.brd (fun q => Re.ret (by rw [decide_eq_true q]; rfl)) (fun q => Re.c1 (i_roomOfB_ev r.1 hme) ?_))
  rw [decide_eq_false q]
  cases ho : (roomL r.1).2 with
  | false => exact Re.br (b := false) (fun h => by cases h) (fun _ => Re.ret rfl)
  | true => exact Re.br (b := true) (fun _ => Re.c1 (iroom_dec _ r hR.m) (Re.ret rfl)) (fun h => by cases h)
theorem s_RoomOkB_ev (r : TRoom) (hm : m_Room r ≤ 1048576) : Ev (fun k => s_RoomOk k r) (roomOk r) := by
  have hme0 : m_EventS r.1 ≤ 1048576 := by unfold m_Room at hm; omega
  have hl : r.1.length ≤ 1048576 := by unfold m_EventS at hme0; omega
  have hme : ∀ i, i < r.1.length → m_Event (rd dTEvent r.1 i) ≤ 1048576 := fun i hi => by
    have : rd dTEvent r.1 i ∈ r.1 := by rw [rd_at hi]; exact List.getElem_mem _
    have := mem_sum m_Event this
    unfold m_EventS at hme0; omega
  unfold roomOk
  refine Re.eq (Re.brd (fun q => Re.ret (by rw [decide_eq_true q]; rfl)) (fun q => ?_))
  rw [decide_eq_false q]
  refine Re.enter (f := fun k n => l0_s_RoomOk k n 0 r [] [] []) among_nat ?_
  have := Re.loop (ι := Nat) (l := fun k n (st : Nat × TRoom) => l0_s_RoomOk k n (st.1 : Int) r st.2.1 st.2.2.1 st.2.2.2.1) (I := fun st => st.1 ≤ r.1.length ∧ RoomI st.2 ∧ roomGo st.2 (r.1.drop st.1) = roomL r.1) (fun st => r.1.length - st.1) (Q := fun _ v => v = ((roomL r.1).2 && eqd (roomL r.1).1 r)) (fun st hi ih => by
    obtain ⟨i, n⟩ := st
    obtain ⟨g1, g2, g3⟩ := hi
    simp only at g1 g2 g3 ih ⊢
    simp only [l0_s_RoomOk, b0_s_RoomOk, Int.toNat_natCast]
    refine Re.brd (fun g => ?_) (fun g => ?_)
    · have hil : i < r.1.length := by omega
      rw [drop_rd (d := dTEvent) hil] at g3
      unfold roomGo at g3
      have hmi := hme i hil
      refine Re.gdd (by omega) (Re.gdd g (Re.c2 (s_l12AddB_ev n g2 _ hmi (m_Event_le hmi).2.2) ?_))
      rw [idx_succ hil (by omega)]
      cases ho : (addR n (rd dTEvent r.1 i)).2 with
      | false =>
        refine Re.br (b := true) (fun _ => Re.ret ?_) (fun h => by cases h)
        rw [ho] at g3; rw [← g3]; rfl
      | true =>
        rw [ho] at g3
        exact Re.br (b := false) (fun h => by cases h) (fun _ => ih (i + 1, (addR n (rd dTEvent r.1 i)).1) ⟨by omega, addR_roomB g2 ho, g3⟩ (by simp only; omega))
    · have e : r.1.drop i = [] := List.drop_eq_nil_of_le (by omega)
      rw [e] at g3
      refine Re.c2 (sroom_dec n r g2.m) (Re.ret ?_)
      rw [← g3]; rfl) (0, ([], [], [], ())) ⟨Nat.zero_le _, noRoomI, rfl⟩
  exact this
end Go.Vm
