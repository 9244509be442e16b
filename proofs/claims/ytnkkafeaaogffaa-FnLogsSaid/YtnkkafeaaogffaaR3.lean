/- ReadEvent gives what the reference's gives. -/
import Derived.Test.YtnkkafeaaogffaaQ3
set_option linter.unusedVariables false
set_option linter.unusedSimpArgs false
namespace Go.Vm
open Go
theorem range_byte {n : Int} (h : 0 ≤ n ∧ n ≤ 5) : bytOk n := ⟨h.1, by omega⟩
theorem lev_bytes {e : TEvent} (h : levOk e = true) : ∀ x ∈ eLevels e, bytOk x := by
  unfold levOk at h
  cases hk : (eKind e == 3) with
  | false =>
    rw [hk] at h
    have : eLevels e = [] := len0_iff.1 h
    rw [this]; intro x hx; cases hx
  | true =>
    rw [hk] at h
    simp only [cond_true, lev5, Bool.and_eq_true] at h
    intro x hx
    obtain ⟨i, hi, rfl⟩ := List.getElem_of_mem hx
    have := (allN_iff.1 h.1) i hi
    rw [rd_at hi] at this
    have := inR_iff.1 this
    exact ⟨this.1, by omega⟩
def evB (x0 x1 x2 x3 x4 : Int) (l : List Int) (t : ByteArray) (pr : List Int) (d : Int) : ByteArray :=
  varS x0 ++ (mainB x1 x2 x3 x4 l t ++ (varS (pr.length : Int) ++ (catB varS pr ++ varS d)))
theorem textS_eq (x0 x1 x2 x3 x4 : Int) (l : List Int) (t : ByteArray) (pr : List Int) (d : Int) (h1 : bytOk x1) (h2 : bytOk x2) (h3 : bytOk x3) (h4 : bytOk x4) (h5 : ∀ x ∈ l, bytOk x) :
    textS (x0, x1, x2, x3, x4, l, t, pr, d, ()) = evB x0 x1 x2 x3 x4 l t pr d := by
  unfold textS evB
  rw [mainS_eq (e := (x0, x1, x2, x3, x4, l, t, pr, d, ())) h1 h2 h3 h4 h5]
  simp only [ePrev, eDepth, eKind, eSender, eUser, eMember, eLevels, eText, catB_varS, ba_assoc]
/-- What a right event tells. -/
theorem event_bytes {e : TEvent} (h : eventOk e = true) : bytOk (eKind e) ∧ bytOk (eSender e) ∧ bytOk (eUser e) ∧ bytOk (eMember e) ∧ (∀ x ∈ eLevels e, bytOk x) ∧ (eLevels e).length ≤ 5 ∧ (eText e).size ≤ 24 ∧
    numOk e.1 ∧ numOk (eDepth e) ∧ (ePrev e).length ≤ 3 ∧ (∀ x ∈ ePrev e, numOk x) := by
  have hf := event_facts h
  have hb := body_facts hf.1
  have hl : levOk e = true := by
    have := hf.1
    unfold body at this
    simp only [Bool.and_eq_true] at this
    exact this.1.2
  refine ⟨range_byte ⟨by omega, by omega⟩, range_byte ⟨by omega, by omega⟩, range_byte ⟨by omega, by omega⟩, range_byte ⟨by omega, by omega⟩, lev_bytes hl, by omega, by omega, ⟨by omega, by omega⟩, ⟨by omega, by omega⟩, by omega, fun x hx => ?_⟩
  have := hf.2.2.2.2.1 x hx
  exact ⟨by omega, by omega⟩
/-- What a reading of an event gives. -/
def ReadsEv (a : ByteArray) (v : TEvent × Bool) : Prop := (v = (noEv, false) ∨ ∃ e, v = (e, true) ∧ eventOk e = true ∧ textS e = a) ∧ ∀ e, eventOk e = true → textS e = a → v = (e, true)
theorem ReadsEv.eq {a : ByteArray} {v w : TEvent × Bool} (h1 : ReadsEv a v) (h2 : ReadsEv a w) : v = w := by
  rcases h1.1 with h | ⟨e, h, h3, h4⟩
  · rcases h2.1 with h' | ⟨e', h', h3', h4'⟩
    · rw [h, h']
    · rw [h1.2 e' h3' h4', h']
  · rw [h, h2.2 e h3 h4]
theorem iread_ev (a : ByteArray) (ha : a.size ≤ 1048576) : ∃ v, ReadsEv a v ∧ Ev (fun k => i_ReadEvent k a) v := by
  obtain ⟨x0, q0, b0, R0, _, E0⟩ := num_ev a 0 false ha (by omega)
  obtain ⟨x1, x2, x3, x4, l, t, q1, b1, E1, hle1, hi1, hl1, hbad1, hs1, hf1⟩ := imain_ev a q0 b0 ha R0.hi
  obtain ⟨N, q2, b2, R2, _, E2⟩ := num_ev a q1 b1 ha hi1
  obtain ⟨q3, b3, pr, hE, hk⟩ := each_ev varS numOk (fun k c => i_reader_num k c) (fun p b hp => by
      obtain ⟨x, q, b', h1, _, h2⟩ := num_ev a p b ha hp
      exact ⟨x, q, b', h1, num_pos h1, h2⟩) N (fun _ => true)
    (fun k c xs => bd (i_reader_num k c) fun r6 => bd (i_reader_done k r6.2.1) fun r7 => br (!r7.1) (some ((noEv, false) : TEvent × Bool)) (bd (i_EventOk k (x0, x1, x2, x3, x4, l, t, xs, r6.1, ())) fun r8 => br (!r8) (some (noEv, false)) (some ((x0, x1, x2, x3, x4, l, t, xs, r6.1, ()), true))))
    (fun k n c xs => match xs with
      | [] => l0_i_ReadEvent k n (N, c, ()) (x0, cur a q0 b0, ()) ((0, x1, x2, x3, x4, l, t, [], 0, ()), cur a q1 b1, ()) a
      | _ :: _ => l1_i_ReadEvent k n (N, cur a q2 b2, ()) (xs.length : Int) c.1 c.2.1 c.2.2.1 (x0, cur a q0 b0, ()) ((0, x1, x2, x3, x4, l, t, [], 0, ()), cur a q1 b1, ()) xs a) ha q2 b2
    (fun k n p b xs hx hx0 => by
      cases xs with
      | nil =>
        obtain ⟨rfl, rfl⟩ := hx0 rfl
        simp only [l0_i_ReadEvent, b0_i_ReadEvent, List.length_nil]
        by_cases h : (0 : Int) < N
        · cases hb : b with
          | true => simp [h]
          | false => simp [h, maxRow]
        · simp [h]
      | cons y ys =>
        have hw : w64 (((y :: ys).length : Int) + 1) = (((y :: ys).length + 1 : Nat) : Int) := by rw [w64_eq (by simp at hx ⊢; omega) (by simp at hx ⊢; omega)]; rfl
        have hm : (y :: ys).length + 1 ≤ maxRow := by unfold maxRow; omega
        simp only [l1_i_ReadEvent, b1_i_ReadEvent]
        by_cases h : ((y :: ys).length : Int) < N
        · cases b with
          | true => rw [decide_eq_true h]; simp
          | false =>
            rw [decide_eq_true h, br_true, if_pos ⟨h, trivial, rfl⟩, hw]
            simp only [Bool.not_false, br_true]
            congr 1
            funext r
            rw [List.length_singleton, gd_le hm]
            simp
        · rw [decide_eq_false h, br_false, if_neg (fun hh => h hh.1)]) (a.size + 1) q2 b2 [] R2.hi (fun _ => by omega) (fun _ => by simp; omega) (by simp) (.inl rfl) (fun _ => ⟨rfl, rfl⟩)
  obtain ⟨d, q4, b4, R4, _, E4⟩ := num_ev a q3 b3 ha hE.hi
  have hrun : ∀ v, Ev (fun k => bd (i_reader_done k (cur a q4 b4)) fun r7 => br (!r7.1) (some ((noEv, false) : TEvent × Bool)) (bd (i_EventOk k (x0, x1, x2, x3, x4, l, t, pr, d, ())) fun r8 => br (!r8) (some (noEv, false)) (some ((x0, x1, x2, x3, x4, l, t, pr, d, ()), true)))) v → Ev (fun k => i_ReadEvent k a) v := by
    intro v hv
    obtain ⟨K, hK⟩ := hk v (E4.bd hv)
    exact E0.bd (E1.bd (E2.bd ⟨K, fun k hk => hK k hk k hk⟩))
  have hdone : ∀ k, i_reader_done k (cur a q4 b4) = some (!b4 && decide (q4 = a.size), cur a q4 b4, ()) := by
    intro k
    unfold i_reader_done
    cases b4 with
    | true => rfl
    | false =>
      have : (((q4 : Int) == (a.size : Int)) : Bool) = decide (q4 = a.size) := by
        by_cases h : q4 = a.size
        · simp [h]
        · rw [decide_eq_false h]; simp; omega
      show some (((q4 : Int) == (a.size : Int)), _, ()) = _
      rw [this]; rfl
  have hev := i_EventOk_ev' (x0, x1, x2, x3, x4, l, t, pr, d, ())
  have f : ∀ {b b' : Bool}, (b = true → b' = true) → b' = false → b = false := fun {b b'} h h' => by cases b with | false => rfl | true => rw [h rfl] at h'; cases h'
  -- completeness
  have full : ∀ e, eventOk e = true → textS e = a → b4 = false ∧ q4 = a.size ∧ e = (x0, x1, x2, x3, x4, l, t, pr, d, ()) := by
    rintro ⟨y0, y1, y2, y3, y4, m, u, ps, dd, ⟨⟩⟩ he ht
    obtain ⟨k1, k2, k3, k4, k5, k6, k7, k8, k9, k10, k11⟩ := event_bytes he
    rw [textS_eq _ _ _ _ _ _ _ _ _ k1 k2 k3 k4 k5] at ht
    have hs : Sits a 0 (evB y0 y1 y2 y3 y4 m u ps dd) := by rw [ht]; exact sits_self a
    have hsz : (evB y0 y1 y2 y3 y4 m u ps dd).size = a.size := by rw [ht]
    unfold evB at hs hsz
    obtain ⟨c0, hs⟩ := sits_append.1 hs
    obtain ⟨rfl, z0, hb⟩ := R0.full rfl y0 k8 c0; rw [← z0] at hs
    obtain ⟨c1, hs⟩ := sits_append.1 hs
    obtain ⟨⟨rfl, rfl, rfl, rfl, rfl, rfl⟩, z1, hb⟩ := hf1 hb y1 y2 y3 y4 m u k1 k2 k3 k4 k5 (by have : m.length ≤ 5 := k6; omega) (by have : u.size ≤ 24 := k7; omega) c1; rw [← z1] at hs
    obtain ⟨c2, hs⟩ := sits_append.1 hs
    have k10' : ps.length ≤ 3 := k10
    obtain ⟨e2, z2, hb⟩ := R2.full hb (ps.length : Int) ⟨by omega, by omega⟩ c2; rw [← z2] at hs
    obtain ⟨c3, hs⟩ := sits_append.1 hs
    obtain ⟨rfl, z3, hb⟩ := hE.full hb ps k11 (by simp; omega) (fun _ _ => rfl) c3; rw [← z3] at hs
    obtain ⟨rfl, z4, hb⟩ := R4.full hb dd k9 hs
    simp only [ba_size] at hsz
    exact ⟨hb, by omega, rfl⟩
  by_cases hd : b4 = false ∧ q4 = a.size
  · obtain ⟨hb, hq⟩ := hd
    have hd : (!b4 && decide (q4 = a.size)) = true := by rw [hb, decide_eq_true hq]; rfl
    have hpr : pr.length ≤ 1048576 := by
      have h3 := f (fun h => (R4.bad h).2.2) hb
      have := (hE.sound h3).1
      have := hE.hi
      omega
    have hll : l.length ≤ 1048576 := by
      have h3 := f (fun h => (R4.bad h).2.2) hb
      have h2 := f (fun h => (hE.bad h).2.2) h3
      have h1 := f (fun h => (R2.bad h).2.2) h2
      obtain ⟨_, _, _, _, _, o, z, s⟩ := hs1 h1
      have hm := sits_le s R0.hi
      unfold mainB at hm
      simp only [ba_size] at hm
      have : l.length = (catB byteS l).size := by rw [← catB_byteS o, byteL_size]
      omega
    have hE2 := hev hll hpr
    have run2 : ∀ v, (v = bif eventOk (x0, x1, x2, x3, x4, l, t, pr, d, ()) then ((x0, x1, x2, x3, x4, l, t, pr, d, ()), true) else (noEv, false)) → Ev (fun k => i_ReadEvent k a) v := by
      intro v hv
      refine hrun v ⟨hE2.choose, fun k hk => ?_⟩
      have := hE2.choose_spec k hk
      simp only at this
      simp only [hdone, bd_some, hd, Bool.not_true, br_false, this, bd_some, hv]
      cases eventOk (x0, x1, x2, x3, x4, l, t, pr, d, ()) <;> rfl
    cases hok : eventOk (x0, x1, x2, x3, x4, l, t, pr, d, ()) with
    | false =>
      refine ⟨(noEv, false), ⟨.inl rfl, fun e he ht => ?_⟩, run2 _ (by rw [hok]; rfl)⟩
      have := (full e he ht).2.2
      rw [this, hok] at he; cases he
    | true =>
      refine ⟨((x0, x1, x2, x3, x4, l, t, pr, d, ()), true), ⟨.inr ⟨_, rfl, hok, ?_⟩, fun e he ht => by rw [(full e he ht).2.2]⟩, run2 _ (by rw [hok]; rfl)⟩
      have h3 := f (fun h => (R4.bad h).2.2) hb
      have h2 := f (fun h => (hE.bad h).2.2) h3
      have h1 := f (fun h => (R2.bad h).2.2) h2
      have h0 := f hbad1 h1
      obtain ⟨o0, z0, s0⟩ := R0.sound h0
      obtain ⟨_, p1, p2, p3, p4, p5, z1, s1⟩ := hs1 h1
      obtain ⟨o2, z2, s2⟩ := R2.sound h2
      obtain ⟨_, o3, z3, s3⟩ := hE.sound h3
      obtain ⟨o4, z4, s4⟩ := R4.sound hb
      have hc := hE.count h3 (fun _ => rfl)
      have hN : N = (pr.length : Int) := by
        have := o2.1
        simp at hc
        omega
      subst hN
      rw [textS_eq _ _ _ _ _ _ _ _ _ p1 p2 p3 p4 p5]
      refine sits_all ?_ (by unfold evB; simp only [ba_size]; omega)
      unfold evB
      refine sits_append.2 ⟨s0, ?_⟩; rw [← z0]
      refine sits_append.2 ⟨s1, ?_⟩; rw [← z1]
      refine sits_append.2 ⟨s2, ?_⟩; rw [← z2]
      refine sits_append.2 ⟨s3, ?_⟩; rw [← z3]
      exact s4
  · have hd' : (!b4 && decide (q4 = a.size)) = false := by
      cases b4 with
      | true => rfl
      | false => rw [decide_eq_false (fun h => hd ⟨rfl, h⟩)]; rfl
    refine ⟨(noEv, false), ⟨.inl rfl, fun e he ht => absurd ⟨(full e he ht).1, (full e he ht).2.1⟩ hd⟩, hrun _ (.of fun k => ?_)⟩
    simp only [hdone, bd_some, hd']
    rfl

/-- The end of the reference's reading. -/
def endS (a : ByteArray) (k : Nat) (x0 x1 x2 x3 x4 : Int) (l : List Int) (t : ByteArray) (c : TL05Cur) (ps : List Int) : Option (TEvent × Bool) :=
  bd (s_l05Var k c) fun r13 => bd (s_EventText k (x0, x1, x2, x3, x4, l, t, ps, r13.1, ())) fun r14 => br r13.2.1.2.2.1 (some ((noEv, false) : TEvent × Bool)) (br (!r14.2) (some (noEv, false)) (br (!(r14.1.toList == a.toList)) (some (noEv, false)) (some ((x0, x1, x2, x3, x4, l, t, ps, r13.1, ()), true))))
theorem sprev_ev (a : ByteArray) (ha : a.size ≤ 1048576) (r1 r2 r3 r4 r5 : Int × TL05Cur × Unit) (l : List Int) (t : ByteArray) (N2 : Int) (q : Nat) (b : Bool) (hq : q ≤ a.size) :
    ∃ q' b' ps, Each a varS numOk N2 (fun v => decide (v < 50)) 0 q b ps q' b' ∧ ∀ v, Ev (fun k => endS a k r1.1 r2.1 r3.1 r4.1 r5.1 l t (cur a q' b') ps) v →
      Ev2 (fun k n => l1_s_ReadEvent k n a N2 0 a (q : Int) b r1 r2 r3 r4 r5 t l []) v := by
  obtain ⟨q3, b3, pr, hE, hk⟩ := each_ev varS numOk (fun k c => s_l05Var k c) (fun p b hp => by
      obtain ⟨x, q, b', h1, h2, _⟩ := num_ev a p b ha hp
      exact ⟨x, q, b', h1, num_pos h1, h2⟩) N2 (fun v => decide (v < 50))
    (fun k c ps => endS a k r1.1 r2.1 r3.1 r4.1 r5.1 l t c ps)
    (fun k n c xs => l1_s_ReadEvent k n a N2 (xs.length : Int) c.1 c.2.1 c.2.2.1 r1 r2 r3 r4 r5 t l xs) ha q b
    (fun k n p b xs hx hx0 => by
        have hw : w64 ((xs.length : Int) + 1) = ((xs.length + 1 : Nat) : Int) := by rw [w64_eq (by omega) (by omega)]; rfl
        have hm : xs.length + 1 ≤ maxRow := by unfold maxRow; omega
        have hg : decide ((xs.length : Int) < 50) = decide (xs.length < 50) := by
          by_cases h : xs.length < 50
          · rw [decide_eq_true h, decide_eq_true (by omega)]
          · rw [decide_eq_false h, decide_eq_false (by omega)]
        simp only [l1_s_ReadEvent, b1_s_ReadEvent, endS, hg]
        by_cases h : (xs.length : Int) < N2
        · by_cases hg2 : xs.length < 50
          · cases b with
            | true => rw [decide_eq_true h, decide_eq_true hg2]; simp
            | false =>
              rw [decide_eq_true h, decide_eq_true hg2, br_true, br_true, if_pos ⟨h, rfl, rfl⟩, hw]
              simp only [Bool.not_false, br_true]
              congr 1
              funext r
              rw [List.length_singleton, gd_le hm]
              simp
          · rw [decide_eq_true h, decide_eq_false hg2, br_true, br_false, if_neg (fun hh => by cases hh.2.1)]
        · rw [decide_eq_false h, br_false, if_neg (fun hh => h hh.1)]) (a.size + 1) q b [] hq (fun _ => by omega) (fun _ => by simp; omega) (by simp) (.inl rfl) (fun _ => ⟨rfl, rfl⟩)
  refine ⟨q3, b3, pr, hE, fun v hv => ?_⟩
  exact hk v (by simpa using hv)
theorem sread_ev (a : ByteArray) (ha : a.size ≤ 1048576) : ∃ v, ReadsEv a v ∧ Ev (fun k => s_ReadEvent k a) v := by
  obtain ⟨x0, q0, b0, R0, E0, _⟩ := num_ev a 0 false ha (by omega)
  obtain ⟨x1, q1, b1, R1, E1, _⟩ := byte_ev a q0 b0 ha R0.hi
  obtain ⟨x2, q2, b2, R2, E2, _⟩ := byte_ev a q1 b1 ha R1.hi
  obtain ⟨x3, q3, b3, R3, E3, _⟩ := byte_ev a q2 b2 ha R2.hi
  obtain ⟨x4, q4, b4, R4, E4, _⟩ := byte_ev a q3 b3 ha R3.hi
  obtain ⟨N, q5, b5, R5, E5, _⟩ := num_ev a q4 b4 ha R4.hi
  obtain ⟨q6, b6, l, hE, hk⟩ := each_ev2 byteS bytOk (fun k c => s_l09One k c) (fun p b hp => by
      obtain ⟨x, q, b', h1, h2, _⟩ := byte_ev a p b ha hp
      exact ⟨x, q, b', h1, byte_pos h1, h2⟩) N (fun v => decide (v < 50))
    (fun k n c xs => bd (s_l05ReadShort k c) fun r9 => bd (s_l05Var k r9.2.1) fun r10 => l1_s_ReadEvent k n a r10.1 0 r10.2.1.1 r10.2.1.2.1 r10.2.1.2.2.1 (x0, cur a q0 b0, ()) (x1, cur a q1 b1, ()) (x2, cur a q2 b2, ()) (x3, cur a q3 b3, ()) (x4, cur a q4 b4, ()) r9.1 xs [])
    (fun k n c xs => l0_s_ReadEvent k n (N, cur a q5 b5, ()) (xs.length : Int) c.1 c.2.1 c.2.2.1 (x0, cur a q0 b0, ()) (x1, cur a q1 b1, ()) (x2, cur a q2 b2, ()) (x3, cur a q3 b3, ()) (x4, cur a q4 b4, ()) xs a) ha q5 b5
    (fun k n p b xs hx hx0 => by
        have hw : w64 ((xs.length : Int) + 1) = ((xs.length + 1 : Nat) : Int) := by rw [w64_eq (by omega) (by omega)]; rfl
        have hm : xs.length + 1 ≤ maxRow := by unfold maxRow; omega
        have hg : decide ((xs.length : Int) < 50) = decide (xs.length < 50) := by
          by_cases h : xs.length < 50
          · rw [decide_eq_true h, decide_eq_true (by omega)]
          · rw [decide_eq_false h, decide_eq_false (by omega)]
        simp only [l0_s_ReadEvent, b0_s_ReadEvent, hg]
        by_cases h : (xs.length : Int) < N
        · by_cases hg2 : xs.length < 50
          · cases b with
            | true => rw [decide_eq_true h, decide_eq_true hg2]; simp
            | false =>
              rw [decide_eq_true h, decide_eq_true hg2, br_true, br_true, if_pos ⟨h, rfl, rfl⟩, hw]
              simp only [Bool.not_false, br_true]
              congr 1
              funext r
              rw [List.length_singleton, gd_le hm]
              simp
          · rw [decide_eq_true h, decide_eq_false hg2, br_true, br_false, if_neg (fun hh => by cases hh.2.1)]
        · rw [decide_eq_false h, br_false, if_neg (fun hh => h hh.1)]) (a.size + 1) q5 b5 [] R5.hi (fun _ => by omega) (fun _ => by simp; omega) (by simp) (.inl rfl) (fun _ => ⟨rfl, rfl⟩)
  obtain ⟨t, q7, b7, R7, E7⟩ := stext_ev a q6 b6 ha hE.hi
  obtain ⟨N2, q8, b8, R8, E8, _⟩ := num_ev a q7 b7 ha R7.hi
  obtain ⟨q9, b9, pr, hE2, hk2⟩ := sprev_ev a ha (x0, cur a q0 b0, ()) (x1, cur a q1 b1, ()) (x2, cur a q2 b2, ()) (x3, cur a q3 b3, ()) (x4, cur a q4 b4, ()) l t N2 q8 b8 R8.hi
  obtain ⟨d, q10, b10, R10, E10, _⟩ := num_ev a q9 b9 ha hE2.hi
  have hsize : m_Event (x0, x1, x2, x3, x4, l, t, pr, d, ()) ≤ 1048576 := by
    show l.length + (t.size + (pr.length + 0)) ≤ 1048576
    have g1 := R0.le; have g2 := R1.le; have g3 := R2.le; have g4 := R3.le; have g5 := R4.le; have g6 := R5.le
    have g7 := hE.le; have g8 := R7.le; have g9 := R8.le; have g10 := hE2.le; have g11 := hE2.hi
    have t1 := hE.len; have t2 := hE2.len
    have ht : t.size ≤ q7 - q6 := by
      cases h : b7 with
      | true => rw [R7.badv h]; show 0 ≤ _; omega
      | false => have := (R7.sound h).2.1; rw [shortS_size] at this; omega
    cases h1 : b1 with
    | true =>
      have h2 := (R2.bad h1).2.2; have h3 := (R3.bad h2).2.2; have h4 := (R4.bad h3).2.2; have h5 := (R5.bad h4).2.2
      obtain ⟨z1, _, h6⟩ := hE.bad h5
      obtain ⟨z2, _, h7⟩ := R7.bad h6
      have h8 := (R8.bad h7).2.2
      obtain ⟨z3, _, _⟩ := hE2.bad h8
      rw [z1, z2, z3]; show 0 ≤ _; omega
    | false =>
      have h0 : b0 = false := by
        cases hb : b0 with
        | false => rfl
        | true => have := (R1.bad hb).2.2; rw [this] at h1; cases h1
      have := num_pos R0 h0
      have := byte_pos R1 h1
      omega
  have hT := s_EventText_ev _ hsize
  have hrun : ∀ v, Ev (fun k => endS a k x0 x1 x2 x3 x4 l t (cur a q9 b9) pr) v → Ev (fun k => s_ReadEvent k a) v := by
    intro v hv
    obtain ⟨K, hK⟩ := hk v (E7.bd2 (E8.bd2 (hk2 v hv)))
    exact E0.bd (E1.bd (E2.bd (E3.bd (E4.bd (E5.bd ⟨K, fun k hk => hK k hk k hk⟩)))))
  have run2 : ∀ v, (v = bif !b10 && (eventOk (x0, x1, x2, x3, x4, l, t, pr, d, ()) && decide (textS (x0, x1, x2, x3, x4, l, t, pr, d, ()) = a)) then ((x0, x1, x2, x3, x4, l, t, pr, d, ()), true) else (noEv, false)) → Ev (fun k => s_ReadEvent k a) v := by
    intro v hv
    refine hrun v (E10.bd (hT.bd (.of fun k => ?_)))
    rw [hv]
    cases eventOk (x0, x1, x2, x3, x4, l, t, pr, d, ()) with
    | false => cases b10 <;> rfl
    | true =>
      simp only [cond_true, str_beq]
      cases b10 with
      | true => rfl
      | false => cases decide (textS (x0, x1, x2, x3, x4, l, t, pr, d, ()) = a) <;> rfl
  have full : ∀ e, eventOk e = true → textS e = a → b10 = false ∧ e = (x0, x1, x2, x3, x4, l, t, pr, d, ()) := by
    rintro ⟨y0, y1, y2, y3, y4, m, u, ps, dd, ⟨⟩⟩ he ht
    obtain ⟨k1, k2, k3, k4, k5, k6, k7, k8, k9, k10, k11⟩ := event_bytes he
    rw [textS_eq _ _ _ _ _ _ _ _ _ k1 k2 k3 k4 k5] at ht
    have hs : Sits a 0 (evB y0 y1 y2 y3 y4 m u ps dd) := by rw [ht]; exact sits_self a
    unfold evB mainB at hs
    simp only [ba_assoc] at hs
    have k6' : m.length ≤ 5 := k6
    have k7' : u.size ≤ 24 := k7
    have k10' : ps.length ≤ 3 := k10
    obtain ⟨c, hs⟩ := sits_append.1 hs
    obtain ⟨rfl, z0, hb⟩ := R0.full rfl y0 k8 c; rw [← z0] at hs
    obtain ⟨c, hs⟩ := sits_append.1 hs
    obtain ⟨rfl, z1, hb⟩ := R1.full hb y1 k1 c; rw [← z1] at hs
    obtain ⟨c, hs⟩ := sits_append.1 hs
    obtain ⟨rfl, z2, hb⟩ := R2.full hb y2 k2 c; rw [← z2] at hs
    obtain ⟨c, hs⟩ := sits_append.1 hs
    obtain ⟨rfl, z3, hb⟩ := R3.full hb y3 k3 c; rw [← z3] at hs
    obtain ⟨c, hs⟩ := sits_append.1 hs
    obtain ⟨rfl, z4, hb⟩ := R4.full hb y4 k4 c; rw [← z4] at hs
    obtain ⟨c, hs⟩ := sits_append.1 hs
    obtain ⟨e5, z5, hb⟩ := R5.full hb (m.length : Int) ⟨by omega, by omega⟩ c; rw [← z5] at hs
    obtain ⟨c, hs⟩ := sits_append.1 hs
    obtain ⟨rfl, z6, hb⟩ := hE.full hb m k5 (by simp; omega) (fun v hv => by simp; omega) c; rw [← z6] at hs
    obtain ⟨c, hs⟩ := sits_append.1 hs
    obtain ⟨rfl, z7, hb⟩ := R7.full hb u (by unfold txtOk; omega) c; rw [← z7] at hs
    obtain ⟨c, hs⟩ := sits_append.1 hs
    obtain ⟨e8, z8, hb⟩ := R8.full hb (ps.length : Int) ⟨by omega, by omega⟩ c; rw [← z8] at hs
    obtain ⟨c, hs⟩ := sits_append.1 hs
    obtain ⟨rfl, z9, hb⟩ := hE2.full hb ps k11 (by simp; omega) (fun v hv => by simp; omega) c; rw [← z9] at hs
    obtain ⟨rfl, z10, hb⟩ := R10.full hb dd k9 hs
    exact ⟨hb, rfl⟩
  cases hc : (!b10 && (eventOk (x0, x1, x2, x3, x4, l, t, pr, d, ()) && decide (textS (x0, x1, x2, x3, x4, l, t, pr, d, ()) = a))) with
  | true =>
    refine ⟨((x0, x1, x2, x3, x4, l, t, pr, d, ()), true), ⟨.inr ⟨_, rfl, ?_, ?_⟩, fun e he ht => by rw [(full e he ht).2]⟩, run2 _ (by rw [hc]; rfl)⟩
    · simp only [Bool.and_eq_true] at hc; exact hc.2.1
    · simp only [Bool.and_eq_true, decide_eq_true_eq] at hc; exact hc.2.2
  | false =>
    refine ⟨(noEv, false), ⟨.inl rfl, fun e he ht => ?_⟩, run2 _ (by rw [hc]; rfl)⟩
    obtain ⟨e1, e2⟩ := full e he ht
    subst e2
    rw [e1, he, decide_eq_true ht] at hc
    cases hc
theorem same_ReadEvent (a : ByteArray) (ha : a.size ≤ 1048576) : ∃ v : TEvent × Bool, m_Event v.1 ≤ 1048576 ∧ Ev (fun k => s_ReadEvent k a) v ∧ Ev (fun k => i_ReadEvent k a) v := by
  obtain ⟨v, h1, h2⟩ := sread_ev a ha
  obtain ⟨w, h3, h4⟩ := iread_ev a ha
  have e := h1.eq h3
  subst e
  refine ⟨v, ?_, h2, h4⟩
  rcases h1.1 with h | ⟨e, h, h5, _⟩
  · rw [h]; show 0 ≤ _; omega
  · rw [h]
    obtain ⟨_, _, _, _, _, k6, k7, _, _, k10, _⟩ := event_bytes h5
    show (eLevels e).length + ((eText e).size + ((ePrev e).length + 0)) ≤ 1048576
    omega
end Go.Vm
