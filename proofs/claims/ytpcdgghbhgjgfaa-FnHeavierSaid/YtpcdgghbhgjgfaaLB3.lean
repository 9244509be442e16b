/- Plain laws. -/
import Derived.Test.YtpcdgghbhgjgfaaGB3
import Derived.Test.YtpcdgghbhgjgfaaHA3
set_option linter.unusedVariables false
set_option linter.unusedSimpArgs false
namespace Go.Vm
open Go
/-! ### What allows an event; which of two is ahead -/
theorem l10Next_re (c : TL01Cur) (hc : CurOk c) (es : List TEvent) (hl : es.length ≤ 1048576) : Re (fun k => s_l10Next k c es) (fun q => CurOk q.2.1) := by
  refine Re.b1 (bodied_re c hc) fun r1 h1 => Re.b1 (below_re _ 9 h1.2) fun r2 h2 => ?_
  refine Re.brd (fun q => ?_) (fun q => ?_)
  · have e : w64 ((es.length : Int) - 1) = (es.length : Int) - 1 := w64_eq (by omega) (by omega)
    simp only [e]
    refine Re.gdd (by omega) (Re.gdd (by omega) (Re.gdd (by omega) (Re.gdd (by omega) (Re.b1 (once_re _ 20 h2.2) fun r3 h3 => ?_))))
    exact Re.brb (Re.b1 (any_re _ h3) fun r4 h4 => Re.ret h4.2) (Re.ret h3)
  · refine Re.b1 (once_re _ 20 h2.2) fun r3 h3 => ?_
    exact Re.brb (Re.b1 (any_re _ h3) fun r4 h4 => Re.ret h4.2) (Re.ret h3)
theorem drawHeavier_re (a : List Int) (h : a.length ≤ 1048576) : Re (fun k => s_DrawHeavier k a) (fun q => PairP (q.1, q.2.1)) := by
  refine new_re (l := fun k n v i => l0_s_DrawHeavier k n a v i) (C := fun k c => (bd (s_l10Pair k (a, 0, c, ()) a) fun r1 => (br (decide ((r1.1.1.length : Int) > 1)) (bd (s_l01Once k r1.2.1 3) fun r2 => (br (!r2.1) (bd (s_l01Below k r2.2.1 (r1.1.1.length : Int)) fun r3 => (gd (decide (0 ≤ r3.1)) (gd (decide (r3.1 < (r1.1.1.length : Int))) (bd (s_l01Below k r3.2.1 (r1.1.1.length : Int)) fun r4 => (gd (decide (0 ≤ r4.1)) (gd (decide (r4.1 < (r1.1.1.length : Int))) (some (r1.1.1, r1.1.2, (rd dTEvent r1.1.1 r3.1.toNat), (rd dTEvent r1.1.1 r4.1.toNat))))))))) (bd (s_l10Next k r2.2.1 r1.1.1) fun r5 => (bd (s_l10Next k r5.2.1 r1.1.1) fun r6 => (some (r1.1.1, r1.1.2, r5.1, r6.1)))))) (bd (s_l10Next k r1.2.1 r1.1.1) fun r7 => (bd (s_l10Next k r7.2.1 r1.1.1) fun r8 => (some (r1.1.1, r1.1.2, r7.1, r8.1))))))) a h (fun k n v1 v2 => rfl) (fun c hc => Re.b1 (l10Pair_re _ hc a h) fun r1 h1 => ?_) _
  obtain ⟨hP, hc1⟩ := h1
  have hlen : r1.1.1.length ≤ 1048576 := by
    obtain ⟨⟨r, hD, e⟩, _⟩ := hP
    have := hD.1.len
    rcases e with e | e
    · rw [e]; omega
    · rw [e]; simp; omega
  have two : ∀ c, CurOk c → Re (fun k => (bd (s_l10Next k c r1.1.1) fun r5 => (bd (s_l10Next k r5.2.1 r1.1.1) fun r6 => (some (r1.1.1, r1.1.2, r5.1, r6.1))))) (fun q => PairP (q.1, q.2.1)) := fun c hc =>
    Re.b1 (l10Next_re c hc _ hlen) fun r5 h5 => Re.b1 (l10Next_re _ h5 _ hlen) fun r6 h6 => Re.ret hP
  refine Re.brd (fun q => Re.b1 (once_re _ 3 hc1) fun r2 h2 => Re.brb ?_ (two _ h2)) (fun q => two _ hc1)
  refine Re.b1 (below_re _ _ h2) fun r3 h3 => ?_
  obtain ⟨⟨p1, p2⟩, p3⟩ := h3
  refine Re.gdd p1 (Re.gdd (by omega) (Re.b1 (below_re _ _ p3) fun r4 h4 => ?_))
  obtain ⟨⟨p4, p5⟩, p6⟩ := h4
  exact Re.gdd p4 (Re.gdd (by omega) (Re.ret hP))
def authStep (es : List TEvent) (s : List TItem) (a : List Int) (k : Int) : List Int := bif atS s k != 0 && (findE es (atS s k)).2 then addL a (atS s k) else a
def authGo (es : List TEvent) (s : List TItem) (ks : List Int) : List Int := ks.foldl (authStep es s) []
theorem authGo_spec (es : List TEvent) (s : List TItem) (ks : List Int) : Asc (authGo es s ks) ∧ (∀ x, x ∈ authGo es s ks ↔ ∃ k ∈ ks, atS s k = x ∧ x ≠ 0 ∧ found es x) ∧ (authGo es s ks).length ≤ ks.length := by
  have : ∀ (ks a : List Int), Asc a → Asc (ks.foldl (authStep es s) a) ∧ (∀ x, x ∈ ks.foldl (authStep es s) a ↔ x ∈ a ∨ ∃ k ∈ ks, atS s k = x ∧ x ≠ 0 ∧ found es x) ∧ (ks.foldl (authStep es s) a).length ≤ a.length + ks.length := by
    intro ks
    induction ks with
    | nil => intro a h; exact ⟨h, fun x => by simp, by simp⟩
    | cons y ys ih =>
      intro a h
      rw [List.foldl_cons]
      by_cases hq : atS s y ≠ 0 ∧ found es (atS s y)
      · have e : authStep es s a y = addL a (atS s y) := by
          unfold authStep
          have h1 : (atS s y != 0) = true := by simpa using hq.1
          have h2 : (findE es (atS s y)).2 = true := hq.2
          rw [h1, h2]; rfl
        rw [e]
        obtain ⟨g1, g2, g3⟩ := ih (addL a (atS s y)) (addGo_asc _ a false h)
        refine ⟨g1, fun x => ?_, ?_⟩
        · rw [g2, addL_mem]
          constructor
          · rintro ((q | q) | ⟨k, hk, q⟩)
            · exact .inl q
            · exact .inr ⟨y, List.mem_cons_self .., q.symm, by rw [q]; exact hq.1, by rw [q]; exact hq.2⟩
            · exact .inr ⟨k, List.mem_cons_of_mem _ hk, q⟩
          · rintro (q | ⟨k, hk, q, q2⟩)
            · exact .inl (.inl q)
            · rcases List.mem_cons.1 hk with e2 | e2
              · rw [e2] at q; exact .inl (.inr q.symm)
              · exact .inr ⟨k, e2, q, q2⟩
        · have := addL_length a (atS s y)
          simp only [List.length_cons]; omega
      · have e : authStep es s a y = a := by
          unfold authStep
          cases h1 : atS s y != 0 with
          | false => rfl
          | true =>
            cases h2 : (findE es (atS s y)).2 with
            | false => rfl
            | true => exact absurd ⟨by simpa using h1, h2⟩ hq
        rw [e]
        obtain ⟨g1, g2, g3⟩ := ih a h
        refine ⟨g1, fun x => ?_, by simp only [List.length_cons]; omega⟩
        rw [g2]
        constructor
        · rintro (q | ⟨k, hk, q⟩)
          · exact .inl q
          · exact .inr ⟨k, List.mem_cons_of_mem _ hk, q⟩
        · rintro (q | ⟨k, hk, q, q2⟩)
          · exact .inl q
          · rcases List.mem_cons.1 hk with e2 | e2
            · rw [e2] at q; rw [← q] at q2; exact absurd q2 hq
            · exact .inr ⟨k, e2, q, q2⟩
  have := this ks [] (by simp [Asc])
  refine ⟨this.1, fun x => ?_, ?_⟩
  · have := this.2.1 x
    simpa [authGo] using this
  · simpa [authGo] using this.2.2
theorem s_auth_re (es : List TEvent) (he : es.length ≤ 1048576) (s : List TItem) (hs : s.length ≤ 1048576) (ks : List Int) (hk : ks.length ≤ 10) : Re (fun k : Nat => l0_s_AuthOf k k es s 0 ks []) (fun r => r = authGo es s ks) := by
  refine Re.enter (f := fun k n => l0_s_AuthOf k n es s 0 ks []) among_nat ?_
  have := Re.loop (ι := Nat) (l := fun k n (i : Nat) => l0_s_AuthOf k n es s (i : Int) ks (authGo es s (ks.take i))) (I := fun i => i ≤ ks.length) (fun i => ks.length - i) (Q := fun _ r => r = authGo es s ks) (fun i hi ih => by
    simp only [l0_s_AuthOf, b0_s_AuthOf, Int.toNat_natCast]
    refine Re.brd (fun g => ?_) (fun g => Re.ret (by rw [List.take_of_length_le (by omega)]))
    have hl : i < ks.length := by omega
    have next := ih (i + 1) (by omega) (by omega)
    have hlen := (authGo_spec es s (ks.take i)).2.2
    unfold authGo at next hlen ⊢
    rw [foldl_take (authStep es s) 0 ks [] hl] at next
    rw [idx_succ hl (by omega)]
    refine Re.gdd (by omega) (Re.gdd g (Re.c2 (s_At_ev s hs _) (Re.c2 (s_find_ev es he _) ?_)))
    generalize hv : (ks.take i).foldl (authStep es s) [] = a at next hlen ⊢
    unfold authStep at next
    refine Re.br (fun q => ?_) (fun q => ?_)
    · rw [q] at next
      refine Re.br (fun q2 => ?_) (fun q2 => ?_)
      · rw [q2] at next
        exact Re.c2 (s_l11Add_ev _ (by simp at hlen; omega) _) next
      · rw [q2] at next; exact next
    · rw [q] at next; exact next) 0 (Nat.zero_le _)
  exact this
def authPick (es : List TEvent) (s : List TItem) (ks : List Int) : List Int := (ks.filter fun k => (findE es (atS s k)).2).map fun k => (findE es (atS s k)).1.1
theorem authPick_mem {es : List TEvent} (hz : NoZ es) {s : List TItem} {ks : List Int} {x : Int} : x ∈ authPick es s ks ↔ ∃ k ∈ ks, atS s k = x ∧ x ≠ 0 ∧ found es x := by
  unfold authPick
  rw [List.mem_map]
  constructor
  · rintro ⟨k, hk, e⟩
    obtain ⟨h1, h2⟩ := List.mem_filter.1 hk
    rcases findE_cases es (atS s k) with q | ⟨f, hf, q, q2⟩
    · rw [q] at h2; cases h2
    · rw [q] at e
      have e3 : atS s k = x := by rw [← q2]; exact e
      refine ⟨k, h1, e3, ?_, ?_⟩
      · rw [← e3, ← q2]; exact hz f hf
      · unfold found; rw [← e3]; exact h2
  · rintro ⟨k, hk, e, hn, hf⟩
    subst e
    refine ⟨k, List.mem_filter.2 ⟨hk, hf⟩, ?_⟩
    rcases findE_cases es (atS s k) with q | ⟨f, hf2, q, q2⟩
    · unfold found at hf; rw [q] at hf; cases hf
    · rw [q]; exact q2
theorem i_auth_re (es : List TEvent) (hc : CopyS es) (hz : NoZ es) (s : List TItem) (hs : s.length ≤ 1048576) (ks : List Int) (hk : ks.length ≤ 10) : Re (fun k : Nat => l0_i_AuthOf k k es s (ks.length : Int) 0 [] ks) (fun r => r = authGo es s ks) := by
  have fin : Re (fun x : Nat × Nat => (bd (slices_Sort_int_int x.1 (authPick es s ks)) fun r4 => (gd (Nat.beq r4.2.1.length (authPick es s ks).length) (br (decide ((r4.2.1.length : Int) < 2)) (some r4.2.1) (l1_i_AuthOf x.1 x.2 1 r4 ks es s (ks.length : Int) (ks.length : Int)))))) (fun r => r = authGo es s ks) := by
    have hpl : (authPick es s ks).length ≤ 10 := by
      unfold authPick
      rw [List.length_map]
      exact Nat.le_trans (List.length_filter_le _ _) hk
    have hsort : ∀ k, slices_Sort_int_int k (authPick es s ks) = some ((), sortL (authPick es s ks), ()) := fun k => sort_eq (by omega)
    refine Re.s2 hsort ?_
    have hl := sortL_len (authPick es s ks)
    refine Re.gd (by rw [hl]; exact Nat.beq_refl _) ?_
    have uq : ∀ r, UniqOf (authPick es s ks) r → r = authGo es s ks := fun r hr => by
      obtain ⟨g1, g2, _⟩ := authGo_spec es s ks
      refine asc_ext hr.1 g1 fun x => ?_
      rw [hr.2, g2, authPick_mem hz]
    refine Re.brd (fun q => Re.ret (uq _ (uniq_sort (short_uniq (by simp only at q; omega))))) (fun q => ?_)
    have := compact_re (sortL_le (authPick es s ks)) (by omega) (fun k n v5 => l1_i_AuthOf k n v5 ((), sortL (authPick es s ks), ()) ks es s (ks.length : Int) (ks.length : Int)) (fun k n v6 v5 v7 xs8 => l2_i_AuthOf k n v6 v5 v7 xs8 ks es s (ks.length : Int) (ks.length : Int)) (fun k n v5 => rfl) (fun k n v6 v5 v7 xs8 => rfl)
    exact this.mono fun r hr => uq r (uniq_sort hr)
  refine Re.enter (f := fun k n => l0_i_AuthOf k n es s (ks.length : Int) 0 [] ks) among_nat ?_
  have := Re.loop (ι := Nat) (l := fun k n (i : Nat) => l0_i_AuthOf k n es s (ks.length : Int) (i : Int) (authPick es s (ks.take i)) ks) (I := fun i => i ≤ ks.length) (fun i => ks.length - i) (Q := fun _ r => r = authGo es s ks) (fun i hi ih => by
    simp only [l0_i_AuthOf, b0_i_AuthOf, Int.toNat_natCast]
    refine Re.brd (fun g => ?_) (fun g => ?_)
    · have hl : i < ks.length := by omega
      have next := ih (i + 1) (by omega) (by omega)
      have hlen : (authPick es s (ks.take i)).length ≤ 10 := by
        unfold authPick
        rw [List.length_map]
        exact Nat.le_trans (List.length_filter_le _ _) (by simp; omega)
      rw [idx_succ hl (by omega)]
      refine Re.gdd (by omega) (Re.gdd g (Re.c2 (i_tells_ev es hc hz s hs _) ?_))
      have e : authPick es s (ks.take (i + 1)) = authPick es s (ks.take i) ++ (bif (findE es (atS s (rd 0 ks i))).2 then [(findE es (atS s (rd 0 ks i))).1.1] else []) := by
        unfold authPick
        rw [take_int hl, List.filter_append, List.map_append]
        cases hq : (findE es (atS s (rd 0 ks i))).2 with
        | true => rw [List.filter_cons_of_pos (p := fun k => (findE es (atS s k)).2) hq]; rfl
        | false => rw [List.filter_cons_of_neg (p := fun k => (findE es (atS s k)).2) (by rw [hq]; simp)]; rfl
      rw [e] at next
      refine Re.br (fun q => Re.gdd (by simp [maxRow]; omega) ?_) (fun q => ?_)
      · rw [q] at next; exact next
      · rw [q] at next; simpa using next
    · have ei : i = ks.length := by omega
      rw [ei, List.take_length]
      exact fin) 0 (Nat.zero_le _)
  exact this
def authKeys (e : TEvent) : List Int :=
  bif inR e.2.2.1 1 5 then (bif e.2.1 == 2 then (bif inR e.2.2.2.1 1 5 then ([1, 2] ++ [10 + e.2.2.1]) ++ [10 + e.2.2.2.1] else [1, 2] ++ [10 + e.2.2.1]) else [1, 2] ++ [10 + e.2.2.1])
  else (bif e.2.1 == 2 then (bif inR e.2.2.2.1 1 5 then [1, 2] ++ [10 + e.2.2.2.1] else [1, 2]) else [1, 2])
def authL (es : List TEvent) (s : List TItem) (e : TEvent) : List Int := authGo es s (authKeys e)
theorem w10 {x : Int} (h : inR x 1 5 = true) : w64 (10 + x) = 10 + x := by
  have := inR_iff.1 h
  exact w64_eq (by omega) (by omega)
theorem s_AuthOf_ev (es : List TEvent) (he : es.length ≤ 1048576) (s : List TItem) (hs : s.length ≤ 1048576) (e : TEvent) : Ev (fun k => s_AuthOf k es s e) (authL es s e) := by
  have go := fun (ks : List Int) (hk : ks.length ≤ 10) => s_auth_re es he s hs ks hk
  refine Re.eq (Re.s1 (l01In_eq · _ _ _) ?_)
  unfold authL authKeys
  cases h1 : inR e.2.2.1 1 5 with
  | true =>
    refine Re.br (b := true) (fun _ => ?_) (fun h => by cases h)
    rw [w10 h1]
    refine Re.gdd (by simp [maxRow]) ?_
    cases h2 : e.2.1 == 2 with
    | true =>
      refine Re.br (b := true) (fun _ => Re.s1 (l01In_eq · _ _ _) ?_) (fun h => by cases h)
      cases h3 : inR e.2.2.2.1 1 5 with
      | true =>
        refine Re.br (b := true) (fun _ => ?_) (fun h => by cases h)
        rw [w10 h3]
        exact Re.gdd (by simp [maxRow]) (go _ (by simp))
      | false => exact Re.br (b := false) (fun h => by cases h) (fun _ => go _ (by simp))
    | false => exact Re.br (b := false) (fun h => by cases h) (fun _ => go _ (by simp))
  | false =>
    refine Re.br (b := false) (fun h => by cases h) (fun _ => ?_)
    cases h2 : e.2.1 == 2 with
    | true =>
      refine Re.br (b := true) (fun _ => Re.s1 (l01In_eq · _ _ _) ?_) (fun h => by cases h)
      cases h3 : inR e.2.2.2.1 1 5 with
      | true =>
        refine Re.br (b := true) (fun _ => ?_) (fun h => by cases h)
        rw [w10 h3]
        exact Re.gdd (by simp [maxRow]) (go _ (by simp))
      | false => exact Re.br (b := false) (fun h => by cases h) (fun _ => go _ (by simp))
    | false => exact Re.br (b := false) (fun h => by cases h) (fun _ => go _ (by simp))
theorem i_AuthOf_ev (es : List TEvent) (hc : CopyS es) (hz : NoZ es) (s : List TItem) (hs : s.length ≤ 1048576) (e : TEvent) : Ev (fun k => i_AuthOf k es s e) (authL es s e) := by
  have go := fun (ks : List Int) (hk : ks.length ≤ 10) => i_auth_re es hc hz s hs ks hk
  refine Re.eq (Re.s1 (within_eq · _ _ _) ?_)
  unfold authL authKeys
  cases h1 : inR e.2.2.1 1 5 with
  | true =>
    refine Re.br (b := true) (fun _ => ?_) (fun h => by cases h)
    rw [w10 h1]
    refine Re.gdd (by simp [maxRow]) ?_
    cases h2 : e.2.1 == 2 with
    | true =>
      refine Re.br (b := true) (fun _ => Re.s1 (within_eq · _ _ _) ?_) (fun h => by cases h)
      cases h3 : inR e.2.2.2.1 1 5 with
      | true =>
        refine Re.br (b := true) (fun _ => ?_) (fun h => by cases h)
        rw [w10 h3]
        exact Re.gdd (by simp [maxRow]) (go _ (by simp))
      | false => exact Re.br (b := false) (fun h => by cases h) (fun _ => go _ (by simp))
    | false => exact Re.br (b := false) (fun h => by cases h) (fun _ => go _ (by simp))
  | false =>
    refine Re.br (b := false) (fun h => by cases h) (fun _ => ?_)
    cases h2 : e.2.1 == 2 with
    | true =>
      refine Re.br (b := true) (fun _ => Re.s1 (within_eq · _ _ _) ?_) (fun h => by cases h)
      cases h3 : inR e.2.2.2.1 1 5 with
      | true =>
        refine Re.br (b := true) (fun _ => ?_) (fun h => by cases h)
        rw [w10 h3]
        exact Re.gdd (by simp [maxRow]) (go _ (by simp))
      | false => exact Re.br (b := false) (fun h => by cases h) (fun _ => go _ (by simp))
    | false => exact Re.br (b := false) (fun h => by cases h) (fun _ => go _ (by simp))
theorem authKeys_len (e : TEvent) : (authKeys e).length ≤ 10 := by
  unfold authKeys
  cases inR e.2.2.1 1 5 <;> cases e.2.1 == 2 <;> cases inR e.2.2.2.1 1 5 <;> simp
theorem heavier_tot {es : List TEvent} {s : List TItem} {a b : TEvent} (h1 : heavier es s a b = false) (h2 : heavier es s b a = false) : a.1 = b.1 := by
  rw [Bool.eq_false_iff] at h1 h2
  have n1 := fun q => h1 (heavier_iff.2 q)
  have n2 := fun q => h2 (heavier_iff.2 q)
  refine Classical.byContradiction fun hne => ?_
  cases ha : heavy a <;> cases hb : heavy b
  · by_cases q : level es s a.2.2.1 = level es s b.2.2.1
    · by_cases q2 : a.2.2.2.2.2.2.2.2.1 = b.2.2.2.2.2.2.2.2.1
      · rcases Int.lt_or_gt_of_ne hne with q3 | q3
        · exact n1 (.inr ⟨by rw [ha, hb], .inr ⟨q, .inr ⟨q2, q3⟩⟩⟩)
        · exact n2 (.inr ⟨by rw [ha, hb], .inr ⟨q.symm, .inr ⟨q2.symm, q3⟩⟩⟩)
      · rcases Int.lt_or_gt_of_ne q2 with q3 | q3
        · exact n1 (.inr ⟨by rw [ha, hb], .inr ⟨q, .inl q3⟩⟩)
        · exact n2 (.inr ⟨by rw [ha, hb], .inr ⟨q.symm, .inl q3⟩⟩)
    · rcases Int.lt_or_gt_of_ne q with q3 | q3
      · exact n2 (.inr ⟨by rw [ha, hb], .inl q3⟩)
      · exact n1 (.inr ⟨by rw [ha, hb], .inl q3⟩)
  · exact n2 (.inl ⟨hb, ha⟩)
  · exact n1 (.inl ⟨ha, hb⟩)
  · by_cases q : level es s a.2.2.1 = level es s b.2.2.1
    · by_cases q2 : a.2.2.2.2.2.2.2.2.1 = b.2.2.2.2.2.2.2.2.1
      · rcases Int.lt_or_gt_of_ne hne with q3 | q3
        · exact n1 (.inr ⟨by rw [ha, hb], .inr ⟨q, .inr ⟨q2, q3⟩⟩⟩)
        · exact n2 (.inr ⟨by rw [ha, hb], .inr ⟨q.symm, .inr ⟨q2.symm, q3⟩⟩⟩)
      · rcases Int.lt_or_gt_of_ne q2 with q3 | q3
        · exact n1 (.inr ⟨by rw [ha, hb], .inr ⟨q, .inl q3⟩⟩)
        · exact n2 (.inr ⟨by rw [ha, hb], .inr ⟨q.symm, .inl q3⟩⟩)
    · rcases Int.lt_or_gt_of_ne q with q3 | q3
      · exact n2 (.inr ⟨by rw [ha, hb], .inl q3⟩)
      · exact n1 (.inr ⟨by rw [ha, hb], .inl q3⟩)
theorem rows_inI {α : Type} {d : α} {xs : List α} {i : Nat} (h : i < xs.length) : rd d xs i ∈ xs := by rw [rd_at h]; exact List.getElem_mem _
theorem at_item {s : List TItem} {k : Int} (h : atS s k ≠ 0) : ∃ j, j < s.length ∧ (rd dTItem s j).2.1 = atS s k := by
  unfold atS at h ⊢
  cases hf : s.find? fun y => y.1 == k with
  | none => rw [hf] at h; exact absurd rfl h
  | some x =>
    obtain ⟨j, hj, e⟩ := List.getElem_of_mem (List.mem_of_find?_eq_some hf)
    exact ⟨j, hj, by rw [rd_at hj, e]; rfl⟩
theorem FnHeavier_ev (a : List Int) : Ev (fun k => l_FnHeavier k a) true := by
  refine Re.eq ?_
  simp only [l_FnHeavier, g_l_FnHeavier]
  refine Re.s1 (v := decide ((a.length : Int) > 1048576)) (fun k => rfl) ?_
  refine Re.brd (fun _ => Re.ret rfl) (fun hl => ?_)
  refine Re.b1 (drawHeavier_re a (by omega)) fun q hq => ?_
  obtain ⟨es, s, x, y⟩ := q
  obtain ⟨⟨r, hD, he⟩, hsl⟩ := hq
  simp only at he hsl
  have hI := hD.1
  have hlen := hI.len
  have hc0 := hI.copyS
  have hz0 : NoZ r.1 := RoomD.noZ hD
  have hel : es.length ≤ 40 := by
    rcases he with e | e
    · rw [e]; exact hlen
    · rw [e]; simp; omega
  have hz : NoZ es := fun e hm => by
    rcases he with q | q
    · rw [q] at hm; exact hz0 e hm
    · rw [q] at hm; exact hz0 e (List.mem_of_mem_drop hm)
  have hc : CopyS es := by
    rcases he with q | q
    · rw [q]; exact hc0
    · refine ⟨by omega, fun i hi => ?_⟩
      have e : rd dTEvent es i = rd dTEvent r.1 (i + 1) := by
        rw [q] at hi ⊢
        rw [rd_at hi, List.getElem_drop, rd_at (by simp at hi; omega)]
        congr 1; omega
      rw [e]
      exact hc0.2 (i + 1) (by rw [q] at hi; simp at hi; omega)
  refine Re.c1 (i_Heavier_ev es hc hz s (by omega) x y) (Re.c1 (i_Heavier_ev es hc hz s (by omega) y x) (Re.c1 (s_Heavier_ev es s ⟨by omega, by omega⟩ x y) ?_))
  refine Re.br (fun h => by simp at h) (fun _ => ?_)
  obtain ⟨g1, g2, g3⟩ := authGo_spec es s (authKeys x)
  have hkl := authKeys_len x
  have hA : authGo es s (authKeys x) = authL es s x := rfl
  rw [hA] at g1 g2 g3
  have loops : (heavier es s x y = true ∨ (heavier es s x y = false)) → Re (fun k : Nat => l0_l_FnHeavier k k (heavier es s x y) (heavier es s y x) 0 (es, s, x, y) (authL es s x)) (fun v => v = true) := fun _ => by
    have fin : (heavier es s x y = false → heavier es s y x = false → x.1 = y.1) := fun h1 h2 => heavier_tot h1 h2
    generalize heavier es s x y = b1 at fin ⊢
    generalize heavier es s y x = b2 at fin ⊢
    generalize authL es s x = au at g1 g2 g3 ⊢
    refine Re.enter (f := fun k n => l0_l_FnHeavier k n b1 b2 0 (es, s, x, y) au) among_nat ?_
    have := Re.wf (l := fun k n (st : Nat ⊕ (Nat × Nat × Bool)) => match st with
        | .inl i => l0_l_FnHeavier k n b1 b2 (i : Int) (es, s, x, y) au
        | .inr (i, j, had) => l1_l_FnHeavier k n b1 b2 (i : Int) had (j : Int) (es, s, x, y) au)
      (I := fun st => match st with
        | .inl i => i ≤ au.length
        | .inr (i, j, had) => i < au.length ∧ j ≤ s.length ∧ (had = false → ∀ m, m < j → (rd dTItem s m).2.1 ≠ rd 0 au i))
      (fun st => match st with
        | .inl i => (au.length - i, 100)
        | .inr (i, j, had) => (au.length - i, s.length - j + 1)) (Q := fun _ v => v = true) (fun st hi ih => by
      rcases st with i | ⟨i, j, had⟩
      · simp only at hi ih ⊢
        simp only [z0_l_FnHeavier, b0_l_FnHeavier]
        refine Re.brd (fun g => ih (.inr (i, 0, false)) ⟨by omega, Nat.zero_le _, fun _ m hm => by omega⟩ (.inr ⟨rfl, by simp only; omega⟩)) (fun g => ?_)
        refine Re.br (fun _ => Re.ret rfl) (fun q1 => Re.br (fun _ => Re.ret rfl) (fun q2 => Re.ret ?_))
        rw [fin q1 q2]; simp
      · simp only at hi ih ⊢
        obtain ⟨k1, k2, k3⟩ := hi
        simp only [z1_l_FnHeavier, b1_l_FnHeavier, Int.toNat_natCast]
        refine Re.brd (fun g => ?_) (fun g => ?_)
        · have hj : j < s.length := by omega
          rw [idx_succ hj (by omega)]
          refine Re.br (fun _ => ih (.inr (i, j + 1, true)) ⟨k1, by omega, fun h => by cases h⟩ (.inr ⟨rfl, by simp only; omega⟩)) (fun q => ?_)
          refine Re.gdd (by omega) (Re.gdd g (Re.gdd (by omega) (Re.gdd (by omega) ?_)))
          refine ih (.inr (i, j + 1, _)) ⟨k1, by omega, fun h m hm => ?_⟩ (.inr ⟨rfl, by simp only; omega⟩)
          by_cases q2 : m = j
          · rw [q2]; simpa using h
          · exact k3 q m (by omega)
        · have hm : rd 0 au i ∈ au := rows_inI k1
          obtain ⟨k, _, e1, e2, _⟩ := (g2 _).1 hm
          have hhad : had = true := by
            cases had with
            | true => rfl
            | false =>
              obtain ⟨m, hm1, hm2⟩ := at_item (s := s) (k := k) (by rw [e1]; exact e2)
              exact absurd (hm2.trans e1) (k3 rfl m (by omega))
          rw [hhad, idx_succ k1 (by omega)]
          have next := ih (.inl (i + 1)) (by simp only; omega) (.inl (by simp only; omega))
          refine Re.br (b := false) (fun h => by cases h) (fun _ => Re.brd (fun q => ?_) (fun _ => next))
          have e3 : w64 ((i : Int) - 1) = ((i - 1 : Nat) : Int) := by rw [w64_eq (by omega) (by omega)]; omega
          rw [e3]
          simp only [Int.toNat_natCast]
          have hlt : rd 0 au (i - 1) < rd 0 au i := by
            have := g1
            unfold Asc at this
            rw [List.pairwise_iff_getElem] at this
            have := this (i - 1) i (by omega) k1 (by omega)
            rw [rd_at (by omega), rd_at k1]; exact this
          exact Re.gdd (by omega) (Re.gdd (by omega) (Re.gdd (by omega) (Re.gdd (by omega) (Re.brd (fun h => by omega) (fun _ => next)))))) (.inl 0) (Nat.zero_le _)
    exact this
  have auths : Re (fun k : Nat => (bd (i_AuthOf k es s x) fun r6 => (bd (s_AuthOf k es s x) fun r7 => (bd (l_sameInts k r6 r7) fun r8 => (br (!r8) (some false) (l0_l_FnHeavier k k (heavier es s x y) (heavier es s y x) 0 (es, s, x, y) r6)))))) (fun v => v = true) := by
    refine Re.c1 (i_AuthOf_ev es hc hz s (by omega) x) (Re.c1 (s_AuthOf_ev es (by omega) s (by omega) x) (Re.c1 (lsameInts_ev _ (by omega)) ?_))
    refine Re.br (b := false) (fun h => by cases h) (fun _ => loops ?_)
    cases heavier es s x y
    · exact .inr rfl
    · exact .inl rfl
  refine Re.br (fun h1 => ?_) (fun h1 => ?_)
  · refine Re.br (fun h2 => ?_) (fun _ => auths)
    rw [heavier_asymm h1] at h2; cases h2
  · exact auths
end Go.Vm
