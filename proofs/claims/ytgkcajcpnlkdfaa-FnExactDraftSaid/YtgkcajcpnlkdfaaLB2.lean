/- Plain laws. -/
import Derived.Test.YtgkcajcpnlkdfaaGB2
import Derived.Test.YtgkcajcpnlkdfaaHA2
set_option linter.unusedVariables false
set_option linter.unusedSimpArgs false
namespace Go.Vm
open Go
/-! ### What allows an event; which of two is ahead -/
def authStep (es : List TEvent) (s : List TItem) (a : List Int) (k : Int) : List Int := bif atS s k != 0 && (findE es (atS s k)).2 then addL a (atS s k) else a
def authGo (es : List TEvent) (s : List TItem) (ks : List Int) : List Int := ks.foldl (authStep es s) []
theorem authGo_spec (es : List TEvent) (s : List TItem) (ks : List Int) : Asc (authGo es s ks) ∧ (∀ x, x ∈ authGo es s ks ↔ ∃ k ∈ ks, atS s k = x ∧ x ≠ 0 ∧ found es x) ∧ (authGo es s ks).length ≤ ks.length := by
  have : ∀ (ks a : List Int), Asc a → Asc (ks.foldl (authStep es s) a) ∧ (∀ x, x ∈ ks.foldl (authStep es s) a ↔ x ∈ a ∨ ∃ k ∈ ks, atS s k = x ∧ x ≠ 0 ∧ found es x) ∧ (ks.foldl (authStep es s) a).length ≤ a.length + ks.length := by
    intro ks
    induction ks with
    | nil => intro a h; exact ⟨h, fun x => by simp, by simp⟩
    | cons y ys ih =>
      intro a h
      rw [List.foldl_cons]
      by_cases hq : atS s y ≠ 0 ∧ found es (atS s y)
      · have e : authStep es s a y = addL a (atS s y) := by
          unfold authStep
          have h1 : (atS s y != 0) = true := by simpa using hq.1
          have h2 : (findE es (atS s y)).2 = true := hq.2
          rw [h1, h2]; rfl
        rw [e]
        obtain ⟨g1, g2, g3⟩ := ih (addL a (atS s y)) (addGo_asc _ a false h)
        refine ⟨g1, fun x => ?_, ?_⟩
        · rw [g2, addL_mem]
          constructor
          · rintro ((q | q) | ⟨k, hk, q⟩)
            · exact .inl q
            · exact .inr ⟨y, List.mem_cons_self .., q.symm, by rw [q]; exact hq.1, by rw [q]; exact hq.2⟩
            · exact .inr ⟨k, List.mem_cons_of_mem _ hk, q⟩
          · rintro (q | ⟨k, hk, q, q2⟩)
            · exact .inl (.inl q)
            · rcases List.mem_cons.1 hk with e2 | e2
              · rw [e2] at q; exact .inl (.inr q.symm)
              · exact .inr ⟨k, e2, q, q2⟩
        · have := addL_length a (atS s y)
          simp only [List.length_cons]; omega
      · have e : authStep es s a y = a := by
          unfold authStep
          cases h1 : atS s y != 0 with
          | false => rfl
          | true =>
            cases h2 : (findE es (atS s y)).2 with
            | false => rfl
            | true => exact absurd ⟨by simpa using h1, h2⟩ hq
        rw [e]
        obtain ⟨g1, g2, g3⟩ := ih a h
        refine ⟨g1, fun x => ?_, by simp only [List.length_cons]; omega⟩
        rw [g2]
        constructor
        · rintro (q | ⟨k, hk, q⟩)
          · exact .inl q
          · exact .inr ⟨k, List.mem_cons_of_mem _ hk, q⟩
        · rintro (q | ⟨k, hk, q, q2⟩)
          · exact .inl q
          · rcases List.mem_cons.1 hk with e2 | e2
            · rw [e2] at q; rw [← q] at q2; exact absurd q2 hq
            · exact .inr ⟨k, e2, q, q2⟩
  have := this ks [] (by simp [Asc])
  refine ⟨this.1, fun x => ?_, ?_⟩
  · have := this.2.1 x
    simpa [authGo] using this
  · simpa [authGo] using this.2.2
theorem s_auth_re (es : List TEvent) (he : es.length ≤ 1048576) (s : List TItem) (hs : s.length ≤ 1048576) (ks : List Int) (hk : ks.length ≤ 10) : Re (fun k : Nat => l0_s_AuthOf k k es s 0 ks []) (fun r => r = authGo es s ks) := by
  refine Re.enter (f := fun k n => l0_s_AuthOf k n es s 0 ks []) among_nat ?_
  have := Re.loop (ι := Nat) (l := fun k n (i : Nat) => l0_s_AuthOf k n es s (i : Int) ks (authGo es s (ks.take i))) (I := fun i => i ≤ ks.length) (fun i => ks.length - i) (Q := fun _ r => r = authGo es s ks) (fun i hi ih => by
    simp only [l0_s_AuthOf, b0_s_AuthOf, Int.toNat_natCast]
    refine Re.brd (fun g => ?_) (fun g => Re.ret (by rw [List.take_of_length_le (by omega)]))
    have hl : i < ks.length := by omega
    have next := ih (i + 1) (by omega) (by omega)
    have hlen := (authGo_spec es s (ks.take i)).2.2
    unfold authGo at next hlen ⊢
    rw [foldl_take (authStep es s) 0 ks [] hl] at next
    rw [idx_succ hl (by omega)]
    refine Re.gdd (by omega) (Re.gdd g (Re.c2 (s_At_ev s hs _) (Re.c2 (s_find_ev es he _) ?_)))
    generalize hv : (ks.take i).foldl (authStep es s) [] = a at next hlen ⊢
    unfold authStep at next
    refine Re.br (fun q => ?_) (fun q => ?_)
    · rw [q] at next
      refine Re.br (fun q2 => ?_) (fun q2 => ?_)
      · rw [q2] at next
        exact Re.c2 (s_l11Add_ev _ (by simp at hlen; omega) _) next
      · rw [q2] at next; exact next
    · rw [q] at next; exact next) 0 (Nat.zero_le _)
  exact this
def authPick (es : List TEvent) (s : List TItem) (ks : List Int) : List Int := (ks.filter fun k => (findE es (atS s k)).2).map fun k => (findE es (atS s k)).1.1
theorem authPick_mem {es : List TEvent} (hz : NoZ es) {s : List TItem} {ks : List Int} {x : Int} : x ∈ authPick es s ks ↔ ∃ k ∈ ks, atS s k = x ∧ x ≠ 0 ∧ found es x := by
  unfold authPick
  rw [List.mem_map]
  constructor
  · rintro ⟨k, hk, e⟩
    obtain ⟨h1, h2⟩ := List.mem_filter.1 hk
    rcases findE_cases es (atS s k) with q | ⟨f, hf, q, q2⟩
    · rw [q] at h2; cases h2
    · rw [q] at e
      have e3 : atS s k = x := by rw [← q2]; exact e
      refine ⟨k, h1, e3, ?_, ?_⟩
      · rw [← e3, ← q2]; exact hz f hf
      · unfold found; rw [← e3]; exact h2
  · rintro ⟨k, hk, e, hn, hf⟩
    subst e
    refine ⟨k, List.mem_filter.2 ⟨hk, hf⟩, ?_⟩
    rcases findE_cases es (atS s k) with q | ⟨f, hf2, q, q2⟩
    · unfold found at hf; rw [q] at hf; cases hf
    · rw [q]; exact q2
theorem i_auth_re (es : List TEvent) (hc : CopyS es) (hz : NoZ es) (s : List TItem) (hs : s.length ≤ 1048576) (ks : List Int) (hk : ks.length ≤ 10) : Re (fun k : Nat => l0_i_AuthOf k k es s (ks.length : Int) 0 [] ks) (fun r => r = authGo es s ks) := by
  have fin : Re (fun x : Nat × Nat => (bd (slices_Sort_int_int x.1 (authPick es s ks)) fun r4 => (gd (Nat.beq r4.2.1.length (authPick es s ks).length) (br (decide ((r4.2.1.length : Int) < 2)) (some r4.2.1) (l1_i_AuthOf x.1 x.2 1 r4 ks es s (ks.length : Int) (ks.length : Int)))))) (fun r => r = authGo es s ks) := by
    have hpl : (authPick es s ks).length ≤ 10 := by
      unfold authPick
      rw [List.length_map]
      exact Nat.le_trans (List.length_filter_le _ _) hk
    have hsort : ∀ k, slices_Sort_int_int k (authPick es s ks) = some ((), sortL (authPick es s ks), ()) := fun k => sort_eq (by omega)
    refine Re.s2 hsort ?_
    have hl := sortL_len (authPick es s ks)
    refine Re.gd (by rw [hl]; exact Nat.beq_refl _) ?_
    have uq : ∀ r, UniqOf (authPick es s ks) r → r = authGo es s ks := fun r hr => by
      obtain ⟨g1, g2, _⟩ := authGo_spec es s ks
      refine asc_ext hr.1 g1 fun x => ?_
      rw [hr.2, g2, authPick_mem hz]
    refine Re.brd (fun q => Re.ret (uq _ (uniq_sort (short_uniq (by simp only at q; omega))))) (fun q => ?_)
    have := compact_re (sortL_le (authPick es s ks)) (by omega) (fun k n v5 => l1_i_AuthOf k n v5 ((), sortL (authPick es s ks), ()) ks es s (ks.length : Int) (ks.length : Int)) (fun k n v6 v5 v7 xs8 => l2_i_AuthOf k n v6 v5 v7 xs8 ks es s (ks.length : Int) (ks.length : Int)) (fun k n v5 => rfl) (fun k n v6 v5 v7 xs8 => rfl)
    exact this.mono fun r hr => uq r (uniq_sort hr)
  refine Re.enter (f := fun k n => l0_i_AuthOf k n es s (ks.length : Int) 0 [] ks) among_nat ?_
  have := Re.loop (ι := Nat) (l := fun k n (i : Nat) => l0_i_AuthOf k n es s (ks.length : Int) (i : Int) (authPick es s (ks.take i)) ks) (I := fun i => i ≤ ks.length) (fun i => ks.length - i) (Q := fun _ r => r = authGo es s ks) (fun i hi ih => by
    simp only [l0_i_AuthOf, b0_i_AuthOf, Int.toNat_natCast]
    refine Re.brd (fun g => ?_) (fun g => ?_)
    · have hl : i < ks.length := by omega
      have next := ih (i + 1) (by omega) (by omega)
      have hlen : (authPick es s (ks.take i)).length ≤ 10 := by
        unfold authPick
        rw [List.length_map]
        exact Nat.le_trans (List.length_filter_le _ _) (by simp; omega)
      rw [idx_succ hl (by omega)]
      refine Re.gdd (by omega) (Re.gdd g (Re.c2 (i_tells_ev es hc hz s hs _) ?_))
      have e : authPick es s (ks.take (i + 1)) = authPick es s (ks.take i) ++ (bif (findE es (atS s (rd 0 ks i))).2 then [(findE es (atS s (rd 0 ks i))).1.1] else []) := by
        unfold authPick
        rw [take_int hl, List.filter_append, List.map_append]
        cases hq : (findE es (atS s (rd 0 ks i))).2 with
        | true => rw [List.filter_cons_of_pos (p := fun k => (findE es (atS s k)).2) hq]; rfl
        | false => rw [List.filter_cons_of_neg (p := fun k => (findE es (atS s k)).2) (by rw [hq]; simp)]; rfl
      rw [e] at next
      refine Re.br (fun q => Re.gdd (by simp [maxRow]; omega) ?_) (fun q => ?_)
      · rw [q] at next; exact next
      · rw [q] at next; simpa using next
    · have ei : i = ks.length := by omega
      rw [ei, List.take_length]
      exact fin) 0 (Nat.zero_le _)
  exact this
def authKeys (e : TEvent) : List Int :=
  bif inR e.2.2.1 1 5 then (bif e.2.1 == 2 then (bif inR e.2.2.2.1 1 5 then ([1, 2] ++ [10 + e.2.2.1]) ++ [10 + e.2.2.2.1] else [1, 2] ++ [10 + e.2.2.1]) else [1, 2] ++ [10 + e.2.2.1])
  else (bif e.2.1 == 2 then (bif inR e.2.2.2.1 1 5 then [1, 2] ++ [10 + e.2.2.2.1] else [1, 2]) else [1, 2])
def authL (es : List TEvent) (s : List TItem) (e : TEvent) : List Int := authGo es s (authKeys e)
theorem w10 {x : Int} (h : inR x 1 5 = true) : w64 (10 + x) = 10 + x := by
  have := inR_iff.1 h
  exact w64_eq (by omega) (by omega)
theorem s_AuthOf_ev (es : List TEvent) (he : es.length ≤ 1048576) (s : List TItem) (hs : s.length ≤ 1048576) (e : TEvent) : Ev (fun k => s_AuthOf k es s e) (authL es s e) := by
  have go := fun (ks : List Int) (hk : ks.length ≤ 10) => s_auth_re es he s hs ks hk
  refine Re.eq (Re.s1 (l01In_eq · _ _ _) ?_)
  unfold authL authKeys
  cases h1 : inR e.2.2.1 1 5 with
  | true =>
    refine Re.br (b := true) (fun _ => ?_) (fun h => by cases h)
    rw [w10 h1]
    refine Re.gdd (by simp [maxRow]) ?_
    cases h2 : e.2.1 == 2 with
    | true =>
      refine Re.br (b := true) (fun _ => Re.s1 (l01In_eq · _ _ _) ?_) (fun h => by cases h)
      cases h3 : inR e.2.2.2.1 1 5 with
      | true =>
        refine Re.br (b := true) (fun _ => ?_) (fun h => by cases h)
        rw [w10 h3]
        exact Re.gdd (by simp [maxRow]) (go _ (by simp))
      | false => exact Re.br (b := false) (fun h => by cases h) (fun _ => go _ (by simp))
    | false => exact Re.br (b := false) (fun h => by cases h) (fun _ => go _ (by simp))
  | false =>
    refine Re.br (b := false) (fun h => by cases h) (fun _ => ?_)
    cases h2 : e.2.1 == 2 with
    | true =>
      refine Re.br (b := true) (fun _ => Re.s1 (l01In_eq · _ _ _) ?_) (fun h => by cases h)
      cases h3 : inR e.2.2.2.1 1 5 with
      | true =>
        refine Re.br (b := true) (fun _ => ?_) (fun h => by cases h)
        rw [w10 h3]
        exact Re.gdd (by simp [maxRow]) (go _ (by simp))
      | false => exact Re.br (b := false) (fun h => by cases h) (fun _ => go _ (by simp))
    | false => exact Re.br (b := false) (fun h => by cases h) (fun _ => go _ (by simp))
theorem i_AuthOf_ev (es : List TEvent) (hc : CopyS es) (hz : NoZ es) (s : List TItem) (hs : s.length ≤ 1048576) (e : TEvent) : Ev (fun k => i_AuthOf k es s e) (authL es s e) := by
  have go := fun (ks : List Int) (hk : ks.length ≤ 10) => i_auth_re es hc hz s hs ks hk
  refine Re.eq (Re.s1 (within_eq · _ _ _) ?_)
  unfold authL authKeys
  cases h1 : inR e.2.2.1 1 5 with
  | true =>
    refine Re.br (b := true) (fun _ => ?_) (fun h => by cases h)
    rw [w10 h1]
    refine Re.gdd (by simp [maxRow]) ?_
    cases h2 : e.2.1 == 2 with
    | true =>
      refine Re.br (b := true) (fun _ => Re.s1 (within_eq · _ _ _) ?_) (fun h => by cases h)
      cases h3 : inR e.2.2.2.1 1 5 with
      | true =>
        refine Re.br (b := true) (fun _ => ?_) (fun h => by cases h)
        rw [w10 h3]
        exact Re.gdd (by simp [maxRow]) (go _ (by simp))
      | false => exact Re.br (b := false) (fun h => by cases h) (fun _ => go _ (by simp))
    | false => exact Re.br (b := false) (fun h => by cases h) (fun _ => go _ (by simp))
  | false =>
    refine Re.br (b := false) (fun h => by cases h) (fun _ => ?_)
    cases h2 : e.2.1 == 2 with
    | true =>
      refine Re.br (b := true) (fun _ => Re.s1 (within_eq · _ _ _) ?_) (fun h => by cases h)
      cases h3 : inR e.2.2.2.1 1 5 with
      | true =>
        refine Re.br (b := true) (fun _ => ?_) (fun h => by cases h)
        rw [w10 h3]
        exact Re.gdd (by simp [maxRow]) (go _ (by simp))
      | false => exact Re.br (b := false) (fun h => by cases h) (fun _ => go _ (by simp))
    | false => exact Re.br (b := false) (fun h => by cases h) (fun _ => go _ (by simp))
end Go.Vm
