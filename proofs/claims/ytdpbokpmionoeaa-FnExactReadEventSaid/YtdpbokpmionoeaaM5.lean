/- ReadEvent gives what the reference's gives. -/
import Derived.Test.YtdpbokpmionoeaaM4
set_option linter.unusedVariables false
set_option linter.unusedSimpArgs false
namespace Go.Vm
open Go

theorem range_byte {n : Int} (h : 0 ≤ n ∧ n ≤ 5) : bytOk n := ⟨h.1, by omega⟩
theorem lev_bytes {e : TEvent} (h : levOk e = true) : ∀ x ∈ eLevels e, bytOk x := by
  unfold levOk at h
  cases hk : (eKind e == 3) with
  | false =>
    rw [hk] at h
    have : eLevels e = [] := len0_iff.1 h
    rw [this]; intro x hx; cases hx
  | true =>
    rw [hk] at h
    simp only [cond_true, lev5, Bool.and_eq_true] at h
    intro x hx
    obtain ⟨i, hi, rfl⟩ := List.getElem_of_mem hx
    have := (allN_iff.1 h.1) i hi
    rw [rd_at hi] at this
    have := inR_iff.1 this
    exact ⟨this.1, by omega⟩
def evB (x0 x1 x2 x3 x4 : Int) (l : List Int) (t : ByteArray) (pr : List Int) (d : Int) : ByteArray :=
  varS x0 ++ (mainB x1 x2 x3 x4 l t ++ (varS (pr.length : Int) ++ (catB varS pr ++ varS d)))
theorem textS_eq (x0 x1 x2 x3 x4 : Int) (l : List Int) (t : ByteArray) (pr : List Int) (d : Int) (h1 : bytOk x1) (h2 : bytOk x2) (h3 : bytOk x3) (h4 : bytOk x4) (h5 : ∀ x ∈ l, bytOk x) :
    textS (x0, x1, x2, x3, x4, l, t, pr, d, ()) = evB x0 x1 x2 x3 x4 l t pr d := by
  unfold textS evB
  rw [mainS_eq (e := (x0, x1, x2, x3, x4, l, t, pr, d, ())) h1 h2 h3 h4 h5]
  simp only [ePrev, eDepth, eKind, eSender, eUser, eMember, eLevels, eText, catB_varS, ba_assoc]
/-- What a right event tells. -/
theorem event_bytes {e : TEvent} (h : eventOk e = true) : bytOk (eKind e) ∧ bytOk (eSender e) ∧ bytOk (eUser e) ∧ bytOk (eMember e) ∧ (∀ x ∈ eLevels e, bytOk x) ∧ (eLevels e).length ≤ 5 ∧ (eText e).size ≤ 24 ∧
    numOk e.1 ∧ numOk (eDepth e) ∧ (ePrev e).length ≤ 3 ∧ (∀ x ∈ ePrev e, numOk x) := by
  have hf := event_facts h
  have hb := body_facts hf.1
  have hl : levOk e = true := by
    have := hf.1
    unfold body at this
    simp only [Bool.and_eq_true] at this
    exact this.1.2
  refine ⟨range_byte ⟨by omega, by omega⟩, range_byte ⟨by omega, by omega⟩, range_byte ⟨by omega, by omega⟩, range_byte ⟨by omega, by omega⟩, lev_bytes hl, by omega, by omega, ⟨by omega, by omega⟩, ⟨by omega, by omega⟩, by omega, fun x hx => ?_⟩
  have := hf.2.2.2.2.1 x hx
  exact ⟨by omega, by omega⟩
/-- What a reading of an event gives. -/
def ReadsEv (a : ByteArray) (v : TEvent × Bool) : Prop := (v = (noEv, false) ∨ ∃ e, v = (e, true) ∧ eventOk e = true ∧ textS e = a) ∧ ∀ e, eventOk e = true → textS e = a → v = (e, true)
theorem ReadsEv.eq {a : ByteArray} {v w : TEvent × Bool} (h1 : ReadsEv a v) (h2 : ReadsEv a w) : v = w := by
  rcases h1.1 with h | ⟨e, h, h3, h4⟩
  · rcases h2.1 with h' | ⟨e', h', h3', h4'⟩
    · rw [h, h']
    · rw [h1.2 e' h3' h4', h']
  · rw [h, h2.2 e h3 h4]
theorem iread_ev (a : ByteArray) (ha : a.size ≤ 1048576) : ∃ v, ReadsEv a v ∧ Ev (fun k => i_ReadEvent k a) v := by
  obtain ⟨x0, q0, b0, R0, _, E0⟩ := num_ev a 0 false ha (by omega)
  obtain ⟨x1, x2, x3, x4, l, t, q1, b1, E1, hle1, hi1, hl1, hbad1, hs1, hf1⟩ := imain_ev a q0 b0 ha R0.hi
  obtain ⟨N, q2, b2, R2, _, E2⟩ := num_ev a q1 b1 ha hi1
  obtain ⟨q3, b3, pr, hE, hk⟩ := each_ev varS numOk (fun k c => i_reader_num k c) (fun p b hp => by
      obtain ⟨x, q, b', h1, _, h2⟩ := num_ev a p b ha hp
      exact ⟨x, q, b', h1, num_pos h1, h2⟩) N (fun _ => true)
    (fun k c xs => bd (i_reader_num k c) fun r6 => bd (i_reader_done k r6.2.1) fun r7 => br (!r7.1) (some ((noEv, false) : TEvent × Bool)) (bd (i_EventOk k (x0, x1, x2, x3, x4, l, t, xs, r6.1, ())) fun r8 => br (!r8) (some (noEv, false)) (some ((x0, x1, x2, x3, x4, l, t, xs, r6.1, ()), true))))
    (fun k n c xs => match xs with
      | [] => l0_i_ReadEvent k n (N, c, ()) (x0, cur a q0 b0, ()) ((0, x1, x2, x3, x4, l, t, [], 0, ()), cur a q1 b1, ()) a
      | _ :: _ => l1_i_ReadEvent k n (N, cur a q2 b2, ()) (xs.length : Int) c.1 c.2.1 c.2.2.1 (x0, cur a q0 b0, ()) ((0, x1, x2, x3, x4, l, t, [], 0, ()), cur a q1 b1, ()) xs a) ha q2 b2
    (fun k n p b xs hx hx0 => by
      cases xs with
      | nil =>
        obtain ⟨rfl, rfl⟩ := hx0 rfl
        simp only [l0_i_ReadEvent, b0_i_ReadEvent, List.length_nil]
        by_cases h : (0 : Int) < N
        · cases hb : b with
          | true => simp [h]
          | false => simp [h, maxRow]
        · simp [h]
      | cons y ys =>
        have hw : w64 (((y :: ys).length : Int) + 1) = (((y :: ys).length + 1 : Nat) : Int) := by rw [w64_eq (by simp at hx ⊢; omega) (by simp at hx ⊢; omega)]; rfl
        have hm : (y :: ys).length + 1 ≤ maxRow := by unfold maxRow; omega
        simp only [l1_i_ReadEvent, b1_i_ReadEvent]
        by_cases h : ((y :: ys).length : Int) < N
        · cases b with
          | true => rw [decide_eq_true h]; simp
          | false =>
            rw [decide_eq_true h, br_true, if_pos ⟨h, trivial, rfl⟩, hw]
            simp only [Bool.not_false, br_true]
            congr 1
            funext r
            rw [List.length_singleton, gd_le hm]
            simp
        · rw [decide_eq_false h, br_false, if_neg (fun hh => h hh.1)]) (a.size + 1) q2 b2 [] R2.hi (fun _ => by omega) (fun _ => by simp; omega) (by simp) (.inl rfl) (fun _ => ⟨rfl, rfl⟩)
  obtain ⟨d, q4, b4, R4, _, E4⟩ := num_ev a q3 b3 ha hE.hi
  have hrun : ∀ v, Ev (fun k => bd (i_reader_done k (cur a q4 b4)) fun r7 => br (!r7.1) (some ((noEv, false) : TEvent × Bool)) (bd (i_EventOk k (x0, x1, x2, x3, x4, l, t, pr, d, ())) fun r8 => br (!r8) (some (noEv, false)) (some ((x0, x1, x2, x3, x4, l, t, pr, d, ()), true)))) v → Ev (fun k => i_ReadEvent k a) v := by
    intro v hv
    obtain ⟨K, hK⟩ := hk v (E4.bd hv)
    exact E0.bd (E1.bd (E2.bd ⟨K, fun k hk => hK k hk k hk⟩))
  have hdone : ∀ k, i_reader_done k (cur a q4 b4) = some (!b4 && decide (q4 = a.size), cur a q4 b4, ()) := by
    intro k
    unfold i_reader_done
    cases b4 with
    | true => rfl
    | false =>
      have : (((q4 : Int) == (a.size : Int)) : Bool) = decide (q4 = a.size) := by
        by_cases h : q4 = a.size
        · simp [h]
        · rw [decide_eq_false h]; simp; omega
      show some (((q4 : Int) == (a.size : Int)), _, ()) = _
      rw [this]; rfl
  have hev := i_EventOk_ev' (x0, x1, x2, x3, x4, l, t, pr, d, ())
  have f : ∀ {b b' : Bool}, (b = true → b' = true) → b' = false → b = false := fun {b b'} h h' => by cases b with | false => rfl | true => rw [h rfl] at h'; cases h'
  -- completeness
  have full : ∀ e, eventOk e = true → textS e = a → b4 = false ∧ q4 = a.size ∧ e = (x0, x1, x2, x3, x4, l, t, pr, d, ()) := by
    rintro ⟨y0, y1, y2, y3, y4, m, u, ps, dd, ⟨⟩⟩ he ht
    obtain ⟨k1, k2, k3, k4, k5, k6, k7, k8, k9, k10, k11⟩ := event_bytes he
    rw [textS_eq _ _ _ _ _ _ _ _ _ k1 k2 k3 k4 k5] at ht
    have hs : Sits a 0 (evB y0 y1 y2 y3 y4 m u ps dd) := by rw [ht]; exact sits_self a
    have hsz : (evB y0 y1 y2 y3 y4 m u ps dd).size = a.size := by rw [ht]
    unfold evB at hs hsz
    obtain ⟨c0, hs⟩ := sits_append.1 hs
    obtain ⟨rfl, z0, hb⟩ := R0.full rfl y0 k8 c0; rw [← z0] at hs
    obtain ⟨c1, hs⟩ := sits_append.1 hs
    obtain ⟨⟨rfl, rfl, rfl, rfl, rfl, rfl⟩, z1, hb⟩ := hf1 hb y1 y2 y3 y4 m u k1 k2 k3 k4 k5 (by have : m.length ≤ 5 := k6; omega) (by have : u.size ≤ 24 := k7; omega) c1; rw [← z1] at hs
    obtain ⟨c2, hs⟩ := sits_append.1 hs
    have k10' : ps.length ≤ 3 := k10
    obtain ⟨e2, z2, hb⟩ := R2.full hb (ps.length : Int) ⟨by omega, by omega⟩ c2; rw [← z2] at hs
    obtain ⟨c3, hs⟩ := sits_append.1 hs
    obtain ⟨rfl, z3, hb⟩ := hE.full hb ps k11 (by simp; omega) (fun _ _ => rfl) c3; rw [← z3] at hs
    obtain ⟨rfl, z4, hb⟩ := R4.full hb dd k9 hs
    simp only [ba_size] at hsz
    exact ⟨hb, by omega, rfl⟩
  by_cases hd : b4 = false ∧ q4 = a.size
  · obtain ⟨hb, hq⟩ := hd
    have hd : (!b4 && decide (q4 = a.size)) = true := by rw [hb, decide_eq_true hq]; rfl
    have hpr : pr.length ≤ 1048576 := by
      have h3 := f (fun h => (R4.bad h).2.2) hb
      have := (hE.sound h3).1
      have := hE.hi
      omega
    have hll : l.length ≤ 1048576 := by
      have h3 := f (fun h => (R4.bad h).2.2) hb
      have h2 := f (fun h => (hE.bad h).2.2) h3
      have h1 := f (fun h => (R2.bad h).2.2) h2
      obtain ⟨_, _, _, _, _, o, z, s⟩ := hs1 h1
      have hm := sits_le s R0.hi
      unfold mainB at hm
      simp only [ba_size] at hm
      have : l.length = (catB byteS l).size := by rw [← catB_byteS o, byteL_size]
      omega
    have hE2 := hev hll hpr
    have run2 : ∀ v, (v = bif eventOk (x0, x1, x2, x3, x4, l, t, pr, d, ()) then ((x0, x1, x2, x3, x4, l, t, pr, d, ()), true) else (noEv, false)) → Ev (fun k => i_ReadEvent k a) v := by
      intro v hv
      refine hrun v ⟨hE2.choose, fun k hk => ?_⟩
      have := hE2.choose_spec k hk
      simp only at this
      simp only [hdone, bd_some, hd, Bool.not_true, br_false, this, bd_some, hv]
      cases eventOk (x0, x1, x2, x3, x4, l, t, pr, d, ()) <;> rfl
    cases hok : eventOk (x0, x1, x2, x3, x4, l, t, pr, d, ()) with
    | false =>
      refine ⟨(noEv, false), ⟨.inl rfl, fun e he ht => ?_⟩, run2 _ (by rw [hok]; rfl)⟩
      have := (full e he ht).2.2
      rw [this, hok] at he; cases he
    | true =>
      refine ⟨((x0, x1, x2, x3, x4, l, t, pr, d, ()), true), ⟨.inr ⟨_, rfl, hok, ?_⟩, fun e he ht => by rw [(full e he ht).2.2]⟩, run2 _ (by rw [hok]; rfl)⟩
      have h3 := f (fun h => (R4.bad h).2.2) hb
      have h2 := f (fun h => (hE.bad h).2.2) h3
      have h1 := f (fun h => (R2.bad h).2.2) h2
      have h0 := f hbad1 h1
      obtain ⟨o0, z0, s0⟩ := R0.sound h0
      obtain ⟨_, p1, p2, p3, p4, p5, z1, s1⟩ := hs1 h1
      obtain ⟨o2, z2, s2⟩ := R2.sound h2
      obtain ⟨_, o3, z3, s3⟩ := hE.sound h3
      obtain ⟨o4, z4, s4⟩ := R4.sound hb
      have hc := hE.count h3 (fun _ => rfl)
      have hN : N = (pr.length : Int) := by
        have := o2.1
        simp at hc
        omega
      subst hN
      rw [textS_eq _ _ _ _ _ _ _ _ _ p1 p2 p3 p4 p5]
      refine sits_all ?_ (by unfold evB; simp only [ba_size]; omega)
      unfold evB
      refine sits_append.2 ⟨s0, ?_⟩; rw [← z0]
      refine sits_append.2 ⟨s1, ?_⟩; rw [← z1]
      refine sits_append.2 ⟨s2, ?_⟩; rw [← z2]
      refine sits_append.2 ⟨s3, ?_⟩; rw [← z3]
      exact s4
  · have hd' : (!b4 && decide (q4 = a.size)) = false := by
      cases b4 with
      | true => rfl
      | false => rw [decide_eq_false (fun h => hd ⟨rfl, h⟩)]; rfl
    refine ⟨(noEv, false), ⟨.inl rfl, fun e he ht => absurd ⟨(full e he ht).1, (full e he ht).2.1⟩ hd⟩, hrun _ (.of fun k => ?_)⟩
    simp only [hdone, bd_some, hd']
    rfl
end Go.Vm
