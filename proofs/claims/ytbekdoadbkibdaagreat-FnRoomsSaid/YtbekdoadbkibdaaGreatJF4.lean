/- Plain laws. -/
import Derived.Test.YtbekdoadbkibdaaGreatJE4
set_option linter.unusedVariables false
set_option linter.unusedSimpArgs false
namespace Go.Vm
open Go
theorem membersTo_same {es2 es : List TEvent} {s : List TItem} (h : ∀ u, member es2 s u = member es s u) : ∀ n, membersTo es2 s n = membersTo es s n
  | 0 => rfl
  | n + 1 => by
    unfold membersTo
    rw [h, membersTo_same h n]
theorem RoomI.uniq {r : TRoom} (h : RoomI r) {i j : Nat} (hi : i < r.1.length) (hj : j < r.1.length) (e : (rd dTEvent r.1 i).1 = (rd dTEvent r.1 j).1) : i = j := by
  rcases Nat.lt_trichotomy i j with q | q | q
  · exact absurd e (h.ids i j q hj)
  · exact q
  · exact absurd e.symm (h.ids j i q hi)
theorem rows_in {α : Type} {d : α} {xs : List α} {i : Nat} (h : i < xs.length) : rd d xs i ∈ xs := by rw [rd_at h]; exact List.getElem_mem _
theorem ShufOk.all {r : TRoom} (hI : RoomI r) {out : List TEvent} (h : ShufOk r out) (hl : out.length = r.1.length) (e : TEvent) : e ∈ out ↔ e ∈ r.1 := by
  refine ⟨h.mem e, fun he => ?_⟩
  have hin : e.1 ∈ out.map fun e => e.1 := by
    refine Classical.byContradiction fun hq => ?_
    have hnd : (e.1 :: out.map fun e => e.1).Nodup := List.nodup_cons.2 ⟨hq, h.nd⟩
    have := nodup_le _ (r.1.map fun e => e.1) hnd fun x hx => by
      rcases List.mem_cons.1 hx with q | q
      · rw [q]; exact List.mem_map.2 ⟨e, he, rfl⟩
      · obtain ⟨f, hf, rfl⟩ := List.mem_map.1 q
        exact List.mem_map.2 ⟨f, h.mem f hf, rfl⟩
    simp at this
    omega
  obtain ⟨f, hf, e2⟩ := List.mem_map.1 hin
  obtain ⟨i, hi, e3⟩ := List.getElem_of_mem (h.mem f hf)
  obtain ⟨j, hj, e4⟩ := List.getElem_of_mem he
  rw [← rd_at (z := dTEvent) hi] at e3
  rw [← rd_at (z := dTEvent) hj] at e4
  have : i = j := hI.uniq hi hj (by rw [e3, e4]; exact e2)
  rw [← e4, ← this, e3]; exact hf
theorem endsL_same {a b : List TEvent} (h : ∀ e, e ∈ a ↔ e ∈ b) : endsL a = endsL b := by
  have hn : ∀ x, named a x = named b x := fun x => by
    unfold named
    rw [Bool.eq_iff_iff, List.any_eq_true, List.any_eq_true]
    exact ⟨fun ⟨e, he, q⟩ => ⟨e, (h e).1 he, q⟩, fun ⟨e, he, q⟩ => ⟨e, (h e).2 he, q⟩⟩
  refine asc_ext (endsL_spec a).1 (endsL_spec b).1 fun x => ?_
  rw [(endsL_spec a).2, (endsL_spec b).2]
  exact ⟨fun ⟨e, he, q⟩ => ⟨e, (h e).1 he, by rw [← hn]; exact q⟩, fun ⟨e, he, q⟩ => ⟨e, (h e).2 he, by rw [hn]; exact q⟩⟩
theorem FnRooms_ev (a : List Int) : Ev (fun k => l_FnRooms k a) true := by
  refine Re.eq ?_
  simp only [l_FnRooms, g_l_FnRooms]
  refine Re.s1 (v := decide ((a.length : Int) > 1048576)) (fun k => rfl) ?_
  refine Re.brd (fun _ => Re.ret rfl) (fun hl => ?_)
  refine Re.b1 (drawShuffled_re a (by omega)) fun q hq => ?_
  obtain ⟨r, out⟩ := q
  obtain ⟨hD, hS, hol⟩ := hq
  simp only at hD hS hol
  have hI := hD.1
  have hlen := hI.len
  have hsl := hI.sl
  have hgl := hI.gl
  have fin : ∀ n : TRoom, n.1 = out → Sub n r → RoomI n → Re (fun x : Nat × Nat => (bd (i_RoomOk x.1 (n.1, n.2.1, n.2.2.1, ())) fun r4 => (br (!r4) (some false) (bd (i_StateOf x.1 (n.1, n.2.1, n.2.2.1, ())) fun r5 => (bd (i_StateOf x.1 r) fun r6 => (bd (l_sameState x.1 r5 r6) fun r7 => (br (!r7) (some false) (bd (i_EndsOf x.1 (n.1, n.2.1, n.2.2.1, ())) fun r8 => (bd (i_EndsOf x.1 r) fun r9 => (bd (l_sameInts x.1 r8 r9) fun r10 => (br (!r10) (some false) (bd (i_Members x.1 (n.1, n.2.1, n.2.2.1, ())) fun r11 => (bd (i_Members x.1 r) fun r12 => (bd (l_sameInts x.1 r11 r12) fun r13 => (br (!r13) (some false) (l1_l_FnRooms x.1 x.2 0 (r, out) n.1 n.2.1 n.2.2.1)))))))))))))))) (fun v => v = true) := fun n hn hsub hnI => by
    have hall : ∀ e, e ∈ n.1 ↔ e ∈ r.1 := fun e => by rw [hn]; exact hS.all hI hol e
    have hP := hsub.part hnI hI
    have hends := endsL_same hall
    have hst : stateL n = stateL r := by
      unfold stateL
      rw [← hends, hsub.before hnI hI fun p hp => ?_]
      obtain ⟨e, he, e2⟩ := endsL_mem hp
      obtain ⟨i, hi, e3⟩ := List.getElem_of_mem he
      rw [← e2, ← e3, ← rd_at (z := dTEvent) hi]
      exact hnI.at_found hi
    have hsi : StI n.1 (stateL r) := by rw [← hst]; exact before_st hnI.bt.st _
    have hmem : membersTo n.1 (stateL n) 5 = membersTo r.1 (stateL r) 5 := by
      rw [hst]
      exact membersTo_same (fun u => hP.member hsi u) 5
    have hel := endsL_length r hI
    have hstl := stateL_length hI
    have hml := (membersTo_spec r.1 (stateL r) 5).1
    have hnl := hnI.len
    have hnsl := hnI.sl
    have hngl := hnI.gl
    refine Re.c2 (i_RoomOk_ev n hnI) (Re.br (b := false) (fun h => by cases h) (fun _ => ?_))
    refine Re.c2 (i_StateOf_ev n hnI) (Re.c2 (i_StateOf_ev r hI) ?_)
    rw [hst]
    refine Re.c2 (lsameState_ev _ _ (by omega)) ?_
    rw [eqd_of rfl]
    refine Re.br (b := false) (fun h => by cases h) (fun _ => ?_)
    refine Re.c2 (i_EndsOf_ev n hnI.prevS) (Re.c2 (i_EndsOf_ev r hI.prevS) ?_)
    rw [hends]
    refine Re.c2 (lsameInts_ev _ (by omega)) (Re.br (b := false) (fun h => by cases h) (fun _ => ?_))
    refine Re.c2 (i_Members_ev n hnI) (Re.c2 (i_Members_ev r hI) ?_)
    rw [hmem]
    refine Re.c2 (lsameInts_ev _ (by omega)) (Re.br (b := false) (fun h => by cases h) (fun _ => ?_))
    have := Re.wf (l := fun k m (st : Nat ⊕ (Nat × Nat)) => match st with
        | .inl i => l1_l_FnRooms k m (i : Int) (r, out) n.1 n.2.1 n.2.2.1
        | .inr (i, j) => l2_l_FnRooms k m (i : Int) (j : Int) (r, out) n.1 n.2.1 n.2.2.1)
      (I := fun st => match st with
        | .inl i => i ≤ n.1.length
        | .inr (i, j) => i < n.1.length ∧ j ≤ r.1.length)
      (fun st => match st with
        | .inl i => (n.1.length - i, 100)
        | .inr (i, j) => (n.1.length - i, r.1.length - j + 1)) (Q := fun _ v => v = true) (fun st hi ih => by
      rcases st with i | ⟨i, j⟩
      · simp only at hi ih ⊢
        simp only [z1_l_FnRooms, b1_l_FnRooms, Int.toNat_natCast]
        refine Re.brd (fun g => ih (.inr (i, 0)) ⟨by omega, Nat.zero_le _⟩ (.inr ⟨rfl, by simp only; omega⟩)) (fun g => Re.ret ?_)
        rw [hn, hol]; simp
      · simp only at hi ih ⊢
        obtain ⟨g1, g2⟩ := hi
        simp only [z2_l_FnRooms, b2_l_FnRooms, Int.toNat_natCast]
        refine Re.brd (fun g => ?_) (fun g => ?_)
        · have hj : j < r.1.length := by omega
          have next := ih (.inr (i, j + 1)) ⟨g1, by omega⟩ (.inr ⟨rfl, by simp only; omega⟩)
          rw [idx_succ hj (by omega)]
          refine Re.gdd (by omega) (Re.gdd g (Re.gdd (by omega) (Re.gdd (by omega) ?_)))
          refine Re.bre (fun q => ?_) (fun _ => next)
          obtain ⟨k, hk, e1, e2, e3⟩ := hsub.at_ i g1
          have : k = j := hI.uniq hk hj (by rw [← e1]; exact q.symm)
          subst this
          have hsj := hI.st k (by omega)
          refine Re.gdd (by omega) (Re.gdd (by omega) (Re.gdd (by omega) (Re.gdd (by omega) ?_)))
          rw [e2]
          refine Re.c2 (lsameState_ev _ _ (by omega)) ?_
          rw [eqd_of rfl]
          refine Re.br (b := false) (fun h => by cases h) (fun _ => Re.gdd (by omega) (Re.gdd (by omega) (Re.gdd (by omega) (Re.gdd (by omega) ?_))))
          rw [e3]
          exact Re.br (fun h => by simp at h) (fun _ => next)
        · rw [idx_succ g1 (by omega)]
          exact ih (.inl (i + 1)) (by simp only; omega) (.inl (by simp only; omega))) (.inl 0) (Nat.zero_le _)
    exact this
  refine Re.enter (f := fun k n => l0_l_FnRooms k n 0 (r, out) [] [] []) among_nat ?_
  have := Re.loop (ι := Nat) (l := fun k m (st : Nat × TRoom) => l0_l_FnRooms k m (st.1 : Int) (r, out) st.2.1 st.2.2.1 st.2.2.2.1) (I := fun st => st.1 ≤ out.length ∧ st.2.1 = out.take st.1 ∧ Sub st.2 r ∧ RoomI st.2) (fun st => out.length - st.1) (Q := fun _ v => v = true) (fun st hi ih => by
    obtain ⟨i, n⟩ := st
    obtain ⟨g1, g2, g3, g4⟩ := hi
    simp only at g1 g2 g3 g4 ih ⊢
    simp only [l0_l_FnRooms, b0_l_FnRooms, Int.toNat_natCast]
    refine Re.brd (fun g => ?_) (fun g => ?_)
    · have hil : i < out.length := by omega
      have hm := hS.mem _ (rows_in (d := dTEvent) hil)
      obtain ⟨k, hk, e⟩ := List.getElem_of_mem hm
      rw [← rd_at (z := dTEvent) hk] at e
      have hids : ∀ e2 ∈ n.1, e2.1 ≠ (rd dTEvent r.1 k).1 := fun e2 he2 => by
        rw [g2] at he2
        obtain ⟨j, hj, e3⟩ := List.getElem_of_mem he2
        have hj2 : j < i := by simp at hj; omega
        rw [List.getElem_take] at e3
        rw [e, ← e3]
        have hnd := hS.nd
        unfold List.Nodup at hnd
        rw [List.pairwise_map, List.pairwise_iff_getElem] at hnd
        have := hnd j i (by omega) hil hj2
        rw [rd_at hil]; exact this
      have hpv : ∀ p ∈ (rd dTEvent r.1 k).2.2.2.2.2.2.2.1, found n.1 p := fun p hp => by
        rw [e] at hp
        obtain ⟨f, hf, e3⟩ := List.mem_map.1 (hS.pv i hil p hp)
        rw [← g2] at hf
        obtain ⟨j, hj, e4⟩ := List.getElem_of_mem hf
        rw [← e3, ← e4, ← rd_at (z := dTEvent) hj]
        exact g4.at_found hj
      obtain ⟨h1, h2, h3⟩ := g3.add g4 hI hk hpv hids
      have hmk := hI.mE hk
      have hadd := i_AddEvent_ev n g4 (rd dTEvent r.1 k) (by omega) (by omega)
      rw [h1] at hadd h2 h3
      rw [idx_succ hil (by omega), ← e]
      refine Re.gdd (by omega) (Re.gdd (by omega) (Re.c2 hadd ?_))
      refine Re.br (b := false) (fun h => by cases h) (fun _ => ?_)
      refine ih (i + 1, (n.1 ++ [rd dTEvent r.1 k], n.2.1 ++ [rd [] r.2.1 k], n.2.2.1 ++ [rd false r.2.2.1 k], ())) ⟨by omega, ?_, h2, h3⟩ (by simp only; omega)
      show n.1 ++ [rd dTEvent r.1 k] = out.take (i + 1)
      rw [g2, e, List.take_succ_eq_append_getElem hil, rd_at hil]
    · have e : out.take i = out := List.take_of_length_le (by omega)
      exact fin n (by rw [g2, e]) g3 g4) (0, ([], [], [], ())) ⟨Nat.zero_le _, by simp, ⟨fun i hi => by simp at hi⟩, noRoomI⟩
  exact this
end Go.Vm
