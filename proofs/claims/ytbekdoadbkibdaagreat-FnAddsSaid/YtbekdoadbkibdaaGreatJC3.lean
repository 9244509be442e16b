/- Plain laws. -/
import Derived.Test.YtbekdoadbkibdaaGreatJB3
set_option linter.unusedVariables false
set_option linter.unusedSimpArgs false
namespace Go.Vm
open Go
theorem stP_put {s : List TItem} (h : StP s) {key id : Int} (hk : keyOk key = true) (hi : 1 ≤ id ∧ id ≤ 1000000) : StP (putOut s key id) := by
  refine stP_of ?_ fun x hx => ?_
  · unfold putOut
    rw [List.map_append, List.map_append]
    have hf : ∀ p : TItem → Bool, Asc ((s.filter p).map fun x => x.1) := fun p => by
      have h1 := h.keys
      unfold Asc at h1 ⊢
      rw [List.pairwise_map] at h1 ⊢
      exact List.Pairwise.filter p h1
    unfold Asc
    rw [List.pairwise_append]
    refine ⟨asc_snoc (hf _) fun x hx => ?_, hf _, fun x hx y hy => ?_⟩
    · obtain ⟨z, hz, rfl⟩ := List.mem_map.1 hx
      simpa using (List.mem_filter.1 hz).2
    · obtain ⟨w, hw, rfl⟩ := List.mem_map.1 hy
      have h2 : w.1 > key := by simpa using (List.mem_filter.1 hw).2
      rcases List.mem_append.1 hx with h3 | h3
      · obtain ⟨z, hz, rfl⟩ := List.mem_map.1 h3
        have : z.1 < key := by simpa using (List.mem_filter.1 hz).2
        omega
      · simp at h3; omega
  · unfold putOut at hx
    rw [List.mem_append, List.mem_append, List.mem_filter, List.mem_filter, List.mem_singleton] at hx
    rcases hx with (h1 | h1) | h1
    · exact h.item h1.1
    · rw [h1]; exact ⟨hk, hi⟩
    · exact h.item h1.1
theorem put_at {s : List TItem} (h : StP s) {key id : Int} (hk : keyOk key = true) (hi : 1 ≤ id ∧ id ≤ 1000000) : atS (putS s key id) key = id := by
  have hp := stP_put h hk hi
  unfold putS
  rw [stateOk_iff.2 h, stateOk_iff.2 hp]
  exact atS_mem hp (x := (key, id, ())) (by unfold putOut; simp)
theorem keyOf_ok {e : TEvent} (h : keyOf e ≠ 0) : keyOk (keyOf e) = true := by
  rw [keyOk_iff]
  unfold keyOf at h ⊢
  cases h1 : e.2.1 == 1 with
  | true => simp
  | false =>
    cases h3 : e.2.1 == 3 with
    | true => simp
    | false =>
      cases h4 : e.2.1 == 4 with
      | true => simp
      | false =>
        rw [h1, h3, h4] at h
        cases h5 : (e.2.1 == 2 && inR e.2.2.2.1 1 5) with
        | false => rw [h5] at h; exact absurd rfl h
        | true =>
          rw [Bool.and_eq_true] at h5
          have := inR_iff.1 h5.2
          simp only [cond_false, cond_true]; omega
theorem drawNextEvent2_re (a : List Int) (h : a.length ≤ 1048576) : Re (fun k => s_DrawNextEvent k a) (fun q => RoomD q.1 ∧ NextP q.1 90 q.2) := drawNextEvent_re a h
theorem s_AddEvent_ev (r : TRoom) (h : RoomI r) (e : TEvent) (hm : m_Event e ≤ 1048576) (hp : e.2.2.2.2.2.2.2.1.length ≤ 1000) : Ev (fun k => s_AddEvent k r e) (addR r e) := by
  have hsl := h.sl
  have hgl := h.gl
  refine Re.eq (Re.brn (fun q => absurd (by rw [hsl]) q) (fun _ => Re.brn (fun q => absurd (by rw [hgl]) q) (fun _ => Re.c1 (s_l12Add_ev r h e hm hp) ?_)))
  have hR : RoomI (addR r e).1 := by
    cases ho : (addR r e).2 with
    | true => exact (addR_room h hp ho).1
    | false =>
      have : (addR r e).1 = ([], [], [], ()) := by
        unfold addR at ho ⊢
        cases hq : (beforeL r e.2.2.2.2.2.2.2.1).2 && (eventOk e && (decide (hasE r.1 e.1 < 0) && (decide (e.2.2.2.2.2.2.2.2.1 = depthOf r.1 e.2.2.2.2.2.2.2.1) && decide (r.1.length < 40)))) with
        | true => rw [hq] at ho; cases ho
        | false => rfl
      rw [this]; exact noRoomI
  exact Re.c1 (s_l12Copy_ev _ hR) (Re.ret rfl)
theorem addR_false {r : TRoom} {e : TEvent} (h : (addR r e).2 = false) : (addR r e).1 = ([], [], [], ()) := by
  unfold addR at h ⊢
  cases hq : (beforeL r e.2.2.2.2.2.2.2.1).2 && (eventOk e && (decide (hasE r.1 e.1 < 0) && (decide (e.2.2.2.2.2.2.2.2.1 = depthOf r.1 e.2.2.2.2.2.2.2.1) && decide (r.1.length < 40)))) with
  | true => rw [hq] at h; cases h
  | false => rfl
theorem FnAdds_ev (a : List Int) : Ev (fun k => l_FnAdds k a) true := by
  refine Re.eq ?_
  simp only [l_FnAdds, g_l_FnAdds]
  refine Re.s1 (v := decide ((a.length : Int) > 1048576)) (fun k => rfl) ?_
  refine Re.brd (fun _ => Re.ret rfl) (fun hl => ?_)
  refine Re.b1 (drawNextEvent2_re a (by omega)) fun q hq => ?_
  obtain ⟨r, e⟩ := q
  obtain ⟨hD, hN⟩ := hq
  simp only at hD hN
  have hI := hD.1
  have hm := hN.small
  have hpl := hN.pl
  have hlen := hI.len
  have hsl := hI.sl
  have hgl := hI.gl
  refine Re.c1 (i_AddEvent_ev r hI e (by omega) (by omega)) (Re.c1 (s_AddEvent_ev r hI e (by omega) (by omega)) ?_)
  refine Re.br (fun h => by simp at h) (fun _ => Re.c1 (i_RoomOk_ev r hI) ?_)
  refine Re.br (b := false) (fun h => by cases h) (fun _ => ?_)
  cases ho : (addR r e).2 with
  | false =>
    refine Re.br (b := true) (fun _ => Re.ret ?_) (fun h => by cases h)
    rw [addR_false ho]; rfl
  | true =>
    refine Re.br (b := false) (fun h => by cases h) (fun _ => Re.c1 (i_Before_ev r hI _ (by show e.2.2.2.2.2.2.2.1.length ≤ 1000; omega)) ?_)
    obtain ⟨h1, h2, h3, h4, h5, h6⟩ := addR_true ho
    have hnI := (addR_room hI (by omega) ho).1
    have hbst := before_st hI.bt.st e.2.2.2.2.2.2.2.1
    have hbl := beforeL_length hI (prev := e.2.2.2.2.2.2.2.1) (by omega)
    have hputl := putS_length (key := keyOf e) (id := e.1) hbl (by omega)
    rw [h1]
    refine Re.br (b := false) (fun h => by cases h) (fun _ => ?_)
    generalize hb : (beforeL r e.2.2.2.2.2.2.2.1).1 = s at h6 hbst hbl hputl ⊢
    generalize hal : allowed r.1 s e = good at h6 ⊢
    have hadd2 : Ev (fun k => i_AddEvent k (addR r e).1 e) (addR (addR r e).1 e) := i_AddEvent_ev _ hnI e (by omega) (by omega)
    have htwice : (addR (addR r e).1 e).2 = false := by
      cases hq : (addR (addR r e).1 e).2 with
      | false => rfl
      | true =>
        obtain ⟨_, _, g3, _⟩ := addR_true hq
        rw [h6] at g3
        rcases hasE_spec (r.1 ++ [e]) e.1 with ⟨_, hn⟩ | ⟨i, _, e2, _⟩
        · exact absurd rfl (hn e (by simp))
        · simp only at g3; omega
    have hends : e.1 ∈ endsL (addR r e).1.1 := by
      rw [h6]
      refine ((endsL_spec _).2 _).2 ⟨e, by simp, ?_, rfl⟩
      cases hnm : named (r.1 ++ [e]) e.1 with
      | false => rfl
      | true =>
        exfalso
        unfold named at hnm
        rw [List.any_eq_true] at hnm
        obtain ⟨f, hf, hq⟩ := hnm
        have hq : e.1 ∈ f.2.2.2.2.2.2.2.1 := by simpa using hq
        rcases List.mem_append.1 hf with hf | hf
        · obtain ⟨i, hi, rfl⟩ := List.getElem_of_mem hf
          rw [← rd_at (z := dTEvent) hi] at hq
          obtain ⟨j, hj, e2⟩ := hI.bt.prev i hi _ hq
          have := hD.2.2 (rd dTEvent r.1 j) (by rw [rd_at (show j < r.1.length by omega)]; exact List.getElem_mem _)
          have := hN.eid
          omega
        · rw [List.mem_singleton] at hf
          subst hf
          obtain ⟨x, hx, e2⟩ := hN.pm _ hq
          have := hD.2.2 x hx
          have := hN.eid
          omega
    have hEnds := i_EndsOf_ev (addR r e).1 hnI.prevS
    have hel : (endsL (addR r e).1.1).length ≤ 40 := endsL_length _ hnI
    have hpair : addR r e = ((r.1 ++ [e], r.2.1 ++ [bif good && keyOf e != 0 then putS s (keyOf e) e.1 else s], r.2.2.1 ++ [good], ()), true) := Prod.ext h6 ho
    simp only [hpair] at hadd2 htwice hends hEnds hel ⊢
    have ek : w64 (((r.1 ++ [e]).length : Int) - 1) = (r.1.length : Int) := by
      rw [w64_eq (by simp <;> omega) (by simp <;> omega)]; simp <;> omega
    simp only [ek, Int.toNat_natCast]
    have er : rd dTEvent (r.1 ++ [e]) r.1.length = e := by rw [rd_snocL, if_neg (by omega), if_pos rfl]
    have eg : ∀ b, rd false (r.2.2.1 ++ [b]) r.1.length = b := fun b => by rw [rd_snocL, hgl, if_neg (by omega), if_pos rfl]
    have es : ∀ t, rd [] (r.2.1 ++ [t]) r.1.length = t := fun t => by rw [rd_snocL, hsl, if_neg (by omega), if_pos rfl]
    refine Re.brn (fun h => absurd rfl h) (fun _ => Re.gdd (by omega) (Re.gdd (by simp; omega) ?_))
    rw [er]
    refine Re.c1 (lsameEvent_ev e (by omega)) (Re.br (b := false) (fun h => by cases h) (fun _ => ?_))
    refine Re.c1 hEnds (Re.c1 (l_in_ev _ (by omega) _) ?_)
    rw [decide_eq_true hends]
    refine Re.br (b := false) (fun h => by cases h) (fun _ => Re.gdd (by omega) (Re.gdd (by simp; omega) (Re.gdd (by omega) (Re.gdd (by simp; omega) ?_))))
    refine Re.br (fun h => by simp at h) (fun _ => Re.c1 (i_DepthOf_ev r hI.copyS _ (by omega)) ?_)
    refine Re.brn (fun h => absurd h4 h) (fun _ => Re.gdd (by omega) (Re.gdd (by simp; omega) ?_))
    rw [eg, es]
    have loop : Re (fun x : Nat => l0_l_FnAdds x x ((r.1 ++ [e], r.2.1 ++ [bif good && keyOf e != 0 then putS s (keyOf e) e.1 else s], r.2.2.1 ++ [good], ()), true) 0 (r, e)) (fun v => v = true) := by
      refine Re.enter (f := fun k n => l0_l_FnAdds k n ((r.1 ++ [e], r.2.1 ++ [bif good && keyOf e != 0 then putS s (keyOf e) e.1 else s], r.2.2.1 ++ [good], ()), true) 0 (r, e)) among_nat ?_
      have := Re.loop (ι := Nat) (l := fun k n (i : Nat) => l0_l_FnAdds k n ((r.1 ++ [e], r.2.1 ++ [bif good && keyOf e != 0 then putS s (keyOf e) e.1 else s], r.2.2.1 ++ [good], ()), true) (i : Int) (r, e)) (I := fun i => i ≤ r.1.length) (fun i => r.1.length - i) (Q := fun _ v => v = true) (fun i hi ih => by
        simp only [l0_l_FnAdds, b0_l_FnAdds, ek, Int.toNat_natCast]
        refine Re.brd (fun g => ?_) (fun g => ?_)
        · have hil : i < r.1.length := by omega
          have hmi := hI.mE hil
          have hsi := hI.st i (by omega)
          have e1 : rd dTEvent (r.1 ++ [e]) i = rd dTEvent r.1 i := by rw [rd_snocL, if_pos hil]
          have e2 : ∀ t, rd [] (r.2.1 ++ [t]) i = rd [] r.2.1 i := fun t => by rw [rd_snocL, if_pos (by omega)]
          have e3 : rd false (r.2.2.1 ++ [good]) i = rd false r.2.2.1 i := by rw [rd_snocL, if_pos (by omega)]
          rw [e1, e2, e3, idx_succ hil (by omega)]
          refine Re.gdd (by omega) (Re.gdd (by simp; omega) (Re.gdd (by omega) (Re.gdd (by omega) (Re.c2 (lsameEvent_ev _ (by omega)) ?_))))
          refine Re.br (b := false) (fun h => by cases h) (fun _ => Re.gdd (by omega) (Re.gdd (by simp; omega) (Re.gdd (by omega) (Re.gdd (by omega) (Re.c2 (lsameState_ev _ _ (by omega)) ?_)))))
          rw [eqd_of rfl]
          refine Re.br (b := false) (fun h => by cases h) (fun _ => Re.gdd (by omega) (Re.gdd (by simp; omega) (Re.gdd (by omega) (Re.gdd (by omega) ?_))))
          exact Re.br (fun h => by simp at h) (fun _ => ih (i + 1) (by omega) (by omega))
        · refine Re.c2 hadd2 (Re.ret ?_)
          rw [htwice]; rfl) 0 (Nat.zero_le _)
      exact this
    have keyP : good = true → Re (fun x : Nat => bd (s_KeyOf x e) fun r12 => (br (r12 != 0) (gd (decide (0 ≤ (r.1.length : Int))) (gd (decide ((r.1.length : Int) < ((r.2.1 ++ [bif good && keyOf e != 0 then putS s (keyOf e) e.1 else s]).length : Int))) (bd (s_KeyOf x e) fun r13 => (bd (i_At x (bif good && keyOf e != 0 then putS s (keyOf e) e.1 else s) r13) fun r14 => (br (r14 != e.1) (some false) (l0_l_FnAdds x x ((r.1 ++ [e], r.2.1 ++ [bif good && keyOf e != 0 then putS s (keyOf e) e.1 else s], r.2.2.1 ++ [good], ()), true) 0 (r, e))))))) (l0_l_FnAdds x x ((r.1 ++ [e], r.2.1 ++ [bif good && keyOf e != 0 then putS s (keyOf e) e.1 else s], r.2.2.1 ++ [good], ()), true) 0 (r, e)))) (fun v => v = true) := fun hg => by
      refine Re.s1 (s_KeyOf_eq e ·) (Re.brn (fun q => Re.gdd (by omega) (Re.gdd (by simp; omega) (Re.s1 (s_KeyOf_eq e ·) ?_))) (fun _ => loop))
      have e5 : (bif good && keyOf e != 0 then putS s (keyOf e) e.1 else s) = putS s (keyOf e) e.1 := by
        rw [hg]
        have : (keyOf e != 0) = true := by simp [q]
        rw [this]; rfl
      have hid := (event_facts h2).2.1
      have hl5 : (bif good && keyOf e != 0 then putS s (keyOf e) e.1 else s).length ≤ 1048576 := by rw [e5]; omega
      refine Re.c1 (i_At_ev _ hl5 _) ?_
      have e6 : atS (bif good && keyOf e != 0 then putS s (keyOf e) e.1 else s) (keyOf e) = e.1 := by rw [e5]; exact put_at hbst.1 (keyOf_ok q) hid
      rw [e6]
      exact Re.brn (fun h => absurd rfl h) (fun _ => loop)
    cases hg : good with
    | false =>
      subst hg
      refine Re.br (b := true) (fun _ => Re.gdd (by omega) (Re.gdd (by simp; omega) (Re.c1 (lsameState_ev _ _ (by show s.length ≤ 1048576; omega)) ?_))) (fun h => by cases h)
      rw [eqd_of (show (bif false && keyOf e != 0 then putS s (keyOf e) e.1 else s) = s from rfl)]
      refine Re.br (b := false) (fun h => by cases h) (fun _ => Re.gdd (by omega) (Re.gdd (by simp; omega) ?_))
      exact Re.br (b := false) (fun h => by cases h) (fun _ => loop)
    | true =>
      subst hg
      refine Re.br (b := false) (fun h => by cases h) (fun _ => Re.gdd (by omega) (Re.gdd (by simp; omega) ?_))
      exact Re.br (b := true) (fun _ => keyP rfl) (fun h => by cases h)
end Go.Vm
