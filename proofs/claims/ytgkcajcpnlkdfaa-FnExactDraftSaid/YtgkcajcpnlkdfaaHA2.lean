/- Plain laws. -/
import Derived.Test.YtgkcajcpnlkdfaaEI2
import Derived.Test.YtgkcajcpnlkdfaaGA2
set_option linter.unusedVariables false
set_option linter.unusedSimpArgs false
namespace Go.Vm
open Go
/-! ### The library's sort, and what is left of runs -/
theorem sortL_mem (xs : List Int) (x : Int) : x ∈ sortL xs ↔ x ∈ xs := (List.mergeSort_perm xs _).mem_iff
theorem sortL_len (xs : List Int) : (sortL xs).length = xs.length := List.length_mergeSort _
theorem sortL_le (xs : List Int) : (sortL xs).Pairwise (· ≤ ·) := by
  have := List.pairwise_mergeSort (le := fun x y : Int => decide (x ≤ y)) (fun a b c h1 h2 => by simp at h1 h2 ⊢; omega) (fun a b => by simp; omega) xs
  exact this.imp fun h => by simpa using h
theorem sort_eq {xs : List Int} (h : xs.length ≤ 1048576) : sortO xs = some ((), sortL xs, ()) := by
  unfold sortO; rw [if_pos (by omega)]
def UniqOf (L r : List Int) : Prop := Asc r ∧ ∀ x, x ∈ r ↔ x ∈ L
theorem UniqOf.eq {L r r' : List Int} (h : UniqOf L r) (h' : UniqOf L r') : r = r' := asc_ext h.1 h'.1 fun x => (h.2 x).trans (h'.2 x).symm
theorem rd_le {L : List Int} (h : L.Pairwise (· ≤ ·)) {i j : Nat} (hij : i < j) (hj : j < L.length) : rd 0 L i ≤ rd 0 L j := by
  rw [rd_at hj, rd_at (show i < L.length by omega)]
  exact (List.pairwise_iff_getElem.1 h) i j _ _ hij
theorem asc_snoc {xs : List Int} {y : Int} (h : Asc xs) (hy : ∀ x ∈ xs, x < y) : Asc (xs ++ [y]) :=
  List.pairwise_append.2 ⟨h, by simp, fun a ha b hb => by simp at hb; subst hb; exact hy a ha⟩
/-- The program's compaction of an ascending row. -/
theorem compact_re {L : List Int} (hL : L.Pairwise (· ≤ ·)) (hlen : L.length ≤ 1048576) (l2 : Nat → Nat → Int → Option (List Int)) (l3 : Nat → Nat → Int → Int → Int → List Int → Option (List Int))
    (h2 : ∀ k n v5, l2 k (n + 1) v5 = (br (decide (v5 < (L.length : Int))) (gd (decide (0 ≤ v5)) (gd (decide (v5 < (L.length : Int))) (gd (decide (0 ≤ (w64 (v5 - 1)))) (gd (decide ((w64 (v5 - 1)) < (L.length : Int))) (br ((rd 0 L v5.toNat) == (rd 0 L (w64 (v5 - 1)).toNat)) (gd (decide (0 ≤ v5)) (gd (decide (v5 ≤ (L.length : Int))) (l3 k n v5 v5 1 L))) (l2 k n (w64 (v5 + 1)))))))) (some L)))
    (h3 : ∀ k n v6 v5 v7 xs8, l3 k (n + 1) v6 v5 v7 xs8 = (br (decide (v7 < (((xs8.length - v5.toNat) : Nat) : Int))) (gd (decide (0 ≤ v7)) (gd (decide (v7 < (((xs8.length - v5.toNat) : Nat) : Int))) (gd (decide (0 ≤ (w64 (v7 - 1)))) (gd (decide ((w64 (v7 - 1)) < (((xs8.length - v5.toNat) : Nat) : Int))) (br ((rd 0 xs8 (v5.toNat + v7.toNat)) != (rd 0 xs8 (v5.toNat + (w64 (v7 - 1)).toNat))) (gd (decide (0 ≤ v7)) (gd (decide (v7 < (((xs8.length - v5.toNat) : Nat) : Int))) (gd (decide (0 ≤ v6)) (gd (decide (v6 < (xs8.length : Int))) (l3 k n (w64 (v6 + 1)) v5 (w64 (v7 + 1)) (xs8.set v6.toNat (rd 0 xs8 (v5.toNat + v7.toNat)))))))) (l3 k n v6 v5 (w64 (v7 + 1)) xs8)))))) (gd (decide (0 ≤ v6)) (gd (decide (v6 ≤ (xs8.length : Int))) (gd (decide (0 ≤ v6)) (gd (decide (v6 ≤ (((clr 0 (some v6.toNat) none xs8).length : Nat) : Int))) (some ((clr 0 (some v6.toNat) none xs8).take (0 + v6.toNat)))))))))
    : Re (fun x : Nat × Nat => l2 x.1 x.2 1) (UniqOf L) := by
  have three : ∀ (k0 : Nat) (hk : 1 ≤ k0 ∧ k0 < L.length) (ha : Asc (L.take k0)) (heq : rd 0 L k0 = rd 0 L (k0 - 1)), Re (fun x : Nat × Nat => l3 x.1 x.2 (k0 : Int) (k0 : Int) 1 L) (UniqOf L) := fun k0 hk ha heq => by
    have := Re.loop (ι := Nat) (l := fun k n (st : Nat × Nat × List Int) => l3 k n (st.1 : Int) (k0 : Int) (st.2.1 : Int) st.2.2)
      (I := fun st => 1 ≤ st.2.1 ∧ k0 + st.2.1 ≤ L.length ∧ st.1 ≤ k0 + st.2.1 - 1 ∧ st.2.2.length = L.length ∧ (∀ j, st.1 ≤ j → rd 0 st.2.2 j = rd 0 L j) ∧ Asc (st.2.2.take st.1) ∧ ∀ x, x ∈ st.2.2.take st.1 ↔ x ∈ L.take (k0 + st.2.1))
      (fun st => L.length - (k0 + st.2.1)) (Q := fun _ r => UniqOf L r) (fun st hi ih => by
      obtain ⟨i, p, xs⟩ := st
      obtain ⟨g1, g2, g3, g4, g5, g6, g7⟩ := hi
      simp only at g1 g2 g3 g4 g5 g6 g7 ih ⊢
      simp only [h3, Int.toNat_natCast, g4]
      refine Re.brd (fun q => ?_) (fun q => ?_)
      · have hp : k0 + p < L.length := by omega
        rw [idx_pred (by omega) (by omega), idx_succ (show p < L.length by omega) (by omega), Int.toNat_natCast]
        refine Re.gdd (by omega) (Re.gdd q (Re.gdd (by omega) (Re.gdd (by omega) ?_)))
        rw [g5 (k0 + p) (by omega), show k0 + (p - 1) = k0 + p - 1 by omega, g5 (k0 + p - 1) (by omega)]
        have tk := take_int hp
        have hle := rd_le hL (show k0 + p - 1 < k0 + p by omega) hp
        have hmem : ∀ x ∈ L.take (k0 + p), x ≤ rd 0 L (k0 + p - 1) := fun x hx => by
          obtain ⟨j, hj, rfl⟩ := List.getElem_of_mem hx
          have hj2 : j < k0 + p ∧ j < L.length := by simp at hj; omega
          rw [List.getElem_take, ← rd_at (z := 0) hj2.2]
          by_cases e : j = k0 + p - 1
          · rw [e]; omega
          · exact rd_le hL (by omega) (by omega)
        refine Re.brn (fun q2 => ?_) (fun q2 => ?_)
        · have hi : i < xs.length := by omega
          rw [idx_succ (show i < L.length by omega) (by omega)]
          refine Re.gdd (by omega) (Re.gdd q (Re.gdd (by omega) (Re.gdd (by omega) ?_)))
          have hset : (xs.set i (rd 0 L (k0 + p))).take (i + 1) = xs.take i ++ [rd 0 L (k0 + p)] := by
            rw [List.take_succ_eq_append_getElem (by simp; omega), List.take_set_of_le (Nat.le_refl i)]
            simp
          refine ih (i + 1, p + 1, xs.set i (rd 0 L (k0 + p))) ⟨by simp only; omega, by simp only; omega, by simp only; omega, by simp [g4], fun j hj => ?_, ?_, fun x => ?_⟩ (by simp only; omega)
          · simp only at hj
            have : rd 0 (xs.set i (rd 0 L (k0 + p))) j = rd 0 xs j := by
              simp [rd, List.getElem?_set_ne (show i ≠ j by omega)]
            rw [this]; exact g5 j (by omega)
          · simp only
            rw [hset]
            refine asc_snoc g6 fun x hx => ?_
            have := hmem x ((g7 x).1 hx)
            omega
          · simp only
            rw [hset, List.mem_append, g7 x, show k0 + (p + 1) = k0 + p + 1 by omega, tk, List.mem_append]
        · refine ih (i, p + 1, xs) ⟨by simp only; omega, by simp only; omega, by simp only; omega, g4, g5, g6, fun x => ?_⟩ (by simp only; omega)
          simp only
          rw [g7 x, show k0 + (p + 1) = k0 + p + 1 by omega, tk, List.mem_append, List.mem_singleton]
          refine ⟨fun h => .inl h, fun h => ?_⟩
          rcases h with h | h
          · exact h
          · rw [h, q2, rd_at (show k0 + p - 1 < L.length by omega)]
            exact List.mem_take_iff_getElem.2 ⟨k0 + p - 1, by omega, rfl⟩
      · have he : k0 + p = L.length := by omega
        have hcl : (clr 0 (some i) none xs).length = xs.length := by simp [clr, cutLen, lo0]; omega
        have hct : (clr 0 (some i) none xs).take (0 + i) = xs.take i := by
          simp only [clr, cutLen, lo0, Nat.zero_add, List.append_assoc]
          rw [List.take_append_of_le_length (by simp; omega), List.take_take, Nat.min_self]
        refine Re.gdd (by omega) (Re.gdd (by omega) (Re.gdd (by omega) (Re.gdd (by rw [hcl]; omega) (Re.ret ?_))))
        rw [hct]
        refine ⟨g6, fun x => ?_⟩
        rw [g7 x, he, List.take_length]) (k0, 1, L) ⟨Nat.le_refl 1, by simp only; omega, by simp only; omega, rfl, fun _ _ => rfl, ha, fun x => ?_⟩
    · exact this
    · simp only
      rw [take_int hk.2, List.mem_append, List.mem_singleton]
      refine ⟨fun h => .inl h, fun h => ?_⟩
      rcases h with h | h
      · exact h
      · rw [h, heq, rd_at (show k0 - 1 < L.length by omega)]
        exact List.mem_take_iff_getElem.2 ⟨k0 - 1, by omega, rfl⟩
  have := Re.loop (ι := Nat) (l := fun k n (i : Nat) => l2 k n (i : Int)) (I := fun i => 1 ≤ i ∧ Asc (L.take i)) (fun i => L.length - i) (Q := fun _ r => UniqOf L r) (fun i hi ih => by
    obtain ⟨g1, g2⟩ := hi
    simp only [h2, Int.toNat_natCast]
    refine Re.brd (fun q => ?_) (fun q => Re.ret ?_)
    · have hl : i < L.length := by omega
      rw [idx_pred (by omega) (by omega), idx_succ hl (by omega), Int.toNat_natCast]
      refine Re.gdd (by omega) (Re.gdd q (Re.gdd (by omega) (Re.gdd (by omega) ?_)))
      refine Re.bre (fun q2 => Re.gdd (by omega) (Re.gdd (by omega) ?_)) (fun q2 => ?_)
      · exact three i ⟨g1, hl⟩ g2 q2
      · refine ih (i + 1) ⟨by omega, ?_⟩ (by omega)
        rw [take_int hl]
        refine asc_snoc g2 fun x hx => ?_
        have hle := rd_le hL (show i - 1 < i by omega) hl
        obtain ⟨j, hj, rfl⟩ := List.getElem_of_mem hx
        have hj2 : j < i ∧ j < L.length := by simp at hj; omega
        rw [List.getElem_take, ← rd_at (z := 0) hj2.2]
        by_cases e : j = i - 1
        · rw [e]; omega
        · have := rd_le hL (show j < i - 1 by omega) (by omega); omega
    · rw [List.take_of_length_le (by omega)] at g2
      exact ⟨g2, fun _ => Iff.rfl⟩) 1 ⟨Nat.le_refl 1, by
        cases L with
        | nil => simp [Asc]
        | cons x xs => simp [Asc]⟩
  exact this
theorem short_uniq {L : List Int} (h : L.length < 2) : UniqOf L L := by
  refine ⟨?_, fun _ => Iff.rfl⟩
  match L, h with
  | [], _ => simp [Asc]
  | [x], _ => simp [Asc]
theorem uniq_sort {xs r : List Int} (h : UniqOf (sortL xs) r) : UniqOf xs r := ⟨h.1, fun x => (h.2 x).trans (sortL_mem xs x)⟩
/-! ### Keys -/
theorem hasK_iff {ss : List (List TItem)} {k : Int} : hasK ss k = true ↔ ∃ s ∈ ss, ∃ x ∈ s, x.1 = k := by
  unfold hasK; simp
theorem keysTo_spec (ss : List (List TItem)) : ∀ n : Nat, Asc (keysTo ss n) ∧ ∀ x, x ∈ keysTo ss n ↔ (0 ≤ x ∧ x < n) ∧ hasK ss x = true
  | 0 => ⟨by simp [keysTo, Asc], fun x => ⟨fun h => by simp [keysTo] at h, fun h => by omega⟩⟩
  | n + 1 => by
    obtain ⟨h1, h2⟩ := keysTo_spec ss n
    unfold keysTo
    cases hk : hasK ss (n : Int) with
    | true =>
      refine ⟨asc_snoc h1 fun x hx => by have := (h2 x).1 hx; omega, fun x => ?_⟩
      simp only [cond_true, List.mem_append, List.mem_singleton, h2 x]
      constructor
      · rintro (⟨a, b⟩ | a)
        · exact ⟨by omega, b⟩
        · exact ⟨by omega, by rw [a]; exact hk⟩
      · rintro ⟨a, b⟩
        by_cases q : x = n
        · exact .inr q
        · exact .inl ⟨by omega, b⟩
    | false =>
      refine ⟨h1, fun x => ?_⟩
      simp only [cond_false, h2 x]
      constructor
      · rintro ⟨a, b⟩; exact ⟨by omega, b⟩
      · rintro ⟨a, b⟩
        refine ⟨?_, b⟩
        by_cases q : x = n
        · rw [q, hk] at b; cases b
        · omega
theorem keysL_spec (ss : List (List TItem)) : Asc (keysL ss) ∧ ∀ x, x ∈ keysL ss ↔ (0 ≤ x ∧ x ≤ 15) ∧ hasK ss x = true := by
  obtain ⟨h1, h2⟩ := keysTo_spec ss 16
  exact ⟨h1, fun x => (h2 x).trans ⟨fun ⟨a, b⟩ => ⟨by omega, b⟩, fun ⟨a, b⟩ => ⟨by omega, b⟩⟩⟩
def keysOfS (s : List TItem) : List Int := (s.map fun x => x.1).filter fun k => inR k 0 15
theorem keysOfS_mem {s : List TItem} {k : Int} : k ∈ keysOfS s ↔ (0 ≤ k ∧ k ≤ 15) ∧ ∃ x ∈ s, x.1 = k := by
  unfold keysOfS
  rw [List.mem_filter, inR_iff, List.mem_map]
  exact ⟨fun ⟨a, b⟩ => ⟨b, a⟩, fun ⟨a, b⟩ => ⟨b, a⟩⟩
theorem keysOfS_take {s : List TItem} {j : Nat} (h : j < s.length) : keysOfS (s.take (j + 1)) = keysOfS (s.take j) ++ (if inR (rd dTItem s j).1 0 15 = true then [(rd dTItem s j).1] else []) := by
  unfold keysOfS
  rw [take_item h, List.map_append, List.filter_append]
  congr 1
  by_cases q : inR (rd dTItem s j).1 0 15 = true
  · rw [if_pos q]; simp [q]
  · rw [if_neg q]; simp [q]
theorem keysOfS_len (s : List TItem) : (keysOfS s).length ≤ s.length := by
  unfold keysOfS
  exact Nat.le_trans (List.length_filter_le _ _) (by simp)
/-- States that are not too large in all. -/
def StsT (ss : List (List TItem)) : Prop := (ss.map fun s => s.length + 1).sum ≤ 1048576
theorem StsT.len {ss : List (List TItem)} (h : StsT ss) : ss.length ≤ 1048576 ∧ (∀ i, i < ss.length → (rd [] ss i).length ≤ 1048576) ∧ ∀ i, i ≤ ss.length → ((ss.take i).flatMap keysOfS).length ≤ 1048576 := by
  have h1 : ∀ ts : List (List TItem), ts.length + (ts.flatMap keysOfS).length ≤ (ts.map fun s => s.length + 1).sum ∧ ∀ s ∈ ts, s.length ≤ (ts.map fun s => s.length + 1).sum := by
    intro ts
    induction ts with
    | nil => exact ⟨Nat.le_refl _, fun s hs => by simp at hs⟩
    | cons t ts ih =>
      have := keysOfS_len t
      simp only [List.length_cons, List.flatMap_cons, List.length_append, List.map_cons, List.sum_cons]
      refine ⟨by omega, fun s hs => ?_⟩
      rcases List.mem_cons.1 hs with e | e
      · rw [e]; omega
      · have := ih.2 s e; omega
  have h2 : ∀ (ts : List (List TItem)) (i : Nat), ((ts.take i).map fun s => s.length + 1).sum ≤ (ts.map fun s => s.length + 1).sum := by
    intro ts
    induction ts with
    | nil => intro i; simp
    | cons t ts ih =>
      intro i
      cases i with
      | zero => simp
      | succ i => have := ih i; simp only [List.take_succ_cons, List.map_cons, List.sum_cons]; omega
  unfold StsT at h
  refine ⟨by have := (h1 ss).1; omega, fun i hi => ?_, fun i hi => ?_⟩
  · have := (h1 ss).2 (rd [] ss i) (by rw [rd_at hi]; exact List.getElem_mem _); omega
  · have := (h1 (ss.take i)).1
    have := h2 ss i
    omega
theorem i_keysIn_ev (ss : List (List TItem)) (h : StsT ss) : Ev (fun k => i_keysIn k ss) (keysL ss) := by
  obtain ⟨s1, s2, s3⟩ := h.len
  have h3 := s3 ss.length (Nat.le_refl _)
  rw [List.take_length] at h3
  have fin : Re (fun x : Nat × Nat => (bd (slices_Sort_int_int x.1 (ss.flatMap keysOfS)) fun r2 => (gd (Nat.beq r2.2.1.length (ss.flatMap keysOfS).length) (br (decide ((r2.2.1.length : Int) < 2)) (some r2.2.1) (l2_i_keysIn x.1 x.2 1 r2 ss (ss.length : Int)))))) (fun r => r = keysL ss) := by
    have hsort : ∀ k, slices_Sort_int_int k (ss.flatMap keysOfS) = some ((), sortL (ss.flatMap keysOfS), ()) := fun k => sort_eq h3
    refine Re.s2 hsort ?_
    have hl := sortL_len (ss.flatMap keysOfS)
    refine Re.gd (by rw [hl]; exact Nat.beq_refl _) ?_
    have uq : ∀ r, UniqOf (ss.flatMap keysOfS) r → r = keysL ss := fun r hr => by
      refine asc_ext hr.1 (keysL_spec ss).1 fun x => ?_
      rw [hr.2, (keysL_spec ss).2, hasK_iff, List.mem_flatMap]
      constructor
      · rintro ⟨s, hs, hx⟩
        obtain ⟨a, b⟩ := keysOfS_mem.1 hx
        exact ⟨a, s, hs, b⟩
      · rintro ⟨a, s, hs, b⟩
        exact ⟨s, hs, keysOfS_mem.2 ⟨a, b⟩⟩
    refine Re.brd (fun q => Re.ret (uq _ (uniq_sort (short_uniq (by simp only at q; omega))))) (fun q => ?_)
    have := compact_re (sortL_le (ss.flatMap keysOfS)) (by omega) (fun k n v5 => l2_i_keysIn k n v5 ((), sortL (ss.flatMap keysOfS), ()) ss (ss.length : Int)) (fun k n v6 v5 v7 xs8 => l3_i_keysIn k n v6 v5 v7 xs8 ss (ss.length : Int)) (fun k n v5 => rfl) (fun k n v6 v5 v7 xs8 => rfl)
    exact this.mono fun r hr => uq r (uniq_sort hr)
  refine Re.eq (Re.enter (f := fun k n => l0_i_keysIn k n ss 0 []) among_nat ?_)
  have := Re.wf (l := fun k n (st : Nat ⊕ (Nat × Nat)) => match st with
      | .inl i => l0_i_keysIn k n ss (i : Int) ((ss.take i).flatMap keysOfS)
      | .inr (i, j) => l1_i_keysIn k n ss (i : Int) (j : Int) ((ss.take i).flatMap keysOfS ++ keysOfS ((rd [] ss i).take j)))
    (I := fun st => match st with
      | .inl i => i ≤ ss.length
      | .inr (i, j) => i < ss.length ∧ j ≤ (rd [] ss i).length)
    (fun st => match st with
      | .inl i => (ss.length - i, 1048576 + 2)
      | .inr (i, j) => (ss.length - i, (rd [] ss i).length - j + 1)) (Q := fun _ r => r = keysL ss) (fun st hi ih => by
    rcases st with i | ⟨i, j⟩
    · simp only at hi ih ⊢
      simp only [z0_i_keysIn, b0_i_keysIn]
      refine Re.brd (fun g => ?_) (fun g => ?_)
      · have hl : i < ss.length := by omega
        have hb := s2 i hl
        refine Re.gdd (by omega) (Re.gdd g ?_)
        have next := ih (.inr (i, 0)) ⟨hl, Nat.zero_le _⟩ (.inr ⟨rfl, by simp only; omega⟩)
        simpa [keysOfS] using next
      · have e : i = ss.length := by omega
        rw [e, List.take_length]
        exact fin
    · simp only at hi ih ⊢
      obtain ⟨g1, g2⟩ := hi
      have hb := s2 i g1
      have hft : (ss.take (i + 1)).flatMap keysOfS = (ss.take i).flatMap keysOfS ++ keysOfS (rd [] ss i) := by
        rw [List.take_add_one, List.getElem?_eq_getElem g1, rd_at g1, List.flatMap_append]; simp
      simp only [z1_i_keysIn, b1_i_keysIn, Int.toNat_natCast]
      refine Re.brd (fun g => ?_) (fun g => ?_)
      · have hj : j < (rd [] ss i).length := by omega
        rw [idx_succ hj (by omega)]
        refine Re.gdd (by omega) (Re.gdd g (Re.s2 (within_eq · _ _ _) ?_))
        have next := ih (.inr (i, j + 1)) ⟨g1, by omega⟩ (.inr ⟨rfl, by simp only; omega⟩)
        simp only [keysOfS_take hj] at next
        have hlen : ((ss.take i).flatMap keysOfS ++ keysOfS ((rd [] ss i).take j)).length ≤ 2097152 := by
          have a1 := s3 i (by omega)
          have a2 := keysOfS_len ((rd [] ss i).take j)
          have a3 : ((rd [] ss i).take j).length ≤ (rd [] ss i).length := List.length_take_le' ..
          rw [List.length_append]; omega
        refine Re.br (fun q => Re.gdd (by simp only [List.length_singleton]; unfold maxRow; omega) ?_) (fun q => ?_)
        · rw [if_pos q, ← List.append_assoc] at next; exact next
        · rw [if_neg (by rw [q]; simp), List.append_nil] at next; exact next
      · rw [idx_succ g1 (by omega), show (rd [] ss i).take j = rd [] ss i from List.take_of_length_le (by omega), ← hft]
        exact ih (.inl (i + 1)) (by simp only; omega) (.inl (by simp only; omega))) (.inl 0) (Nat.zero_le _)
  exact this
theorem alike_iff {ss : List (List TItem)} {key : Int} : alike ss key = true ↔ ∀ s ∈ ss, atS s key = atS (rd [] ss 0) key := by
  unfold alike
  rw [List.all_eq_true]
  constructor
  · intro h s hs
    obtain ⟨i, hi, rfl⟩ := List.getElem_of_mem hs
    by_cases q : i = 0
    · subst q; rw [rd_at hi]
    · have := h i (by rw [List.mem_range'_1]; omega)
      rw [rd_at hi] at this; simpa using this
  · intro h i hi
    rw [List.mem_range'_1] at hi
    have hi2 : i < ss.length := by omega
    have := h (rd [] ss i) (by rw [rd_at hi2]; exact List.getElem_mem _)
    simp [this]
theorem i_allTell_ev (ss : List (List TItem)) (h : StsT ss) (key : Int) : Ev (fun k => i_allTell k ss key) (alike ss key) := by
  obtain ⟨s1, s2, _⟩ := h.len
  refine Re.eq (Re.enter (f := fun k n => l0_i_allTell k n ss 0 key) among_nat ?_)
  have := Re.loop (ι := Nat) (l := fun k n (i : Nat) => l0_i_allTell k n ss (i : Int) key) (I := fun i => i ≤ ss.length ∧ ∀ j, j < i → atS (rd [] ss j) key = atS (rd [] ss 0) key) (fun i => ss.length - i) (Q := fun _ v => v = alike ss key) (fun i hi ih => by
    obtain ⟨g1, g2⟩ := hi
    simp only [l0_i_allTell, b0_i_allTell, Int.toNat_natCast]
    refine Re.brd (fun g => ?_) (fun g => Re.ret ?_)
    · have hl : i < ss.length := by omega
      refine Re.gdd (by omega) (Re.gdd g (Re.c2 (i_At_ev _ (s2 i hl) _) (Re.gdd (by omega) (Re.c2 (i_At_ev _ (s2 0 (by omega)) _) ?_))))
      refine Re.brn (fun q => Re.ret ?_) (fun q => ?_)
      · rw [decide_eq_true (by omega)]
        cases ha : alike ss key with
        | false => rfl
        | true => exact absurd (alike_iff.1 ha (rd [] ss i) (by rw [rd_at hl]; exact List.getElem_mem _)) q
      · rw [idx_succ hl (by omega)]
        refine ih (i + 1) ⟨by omega, fun j hj => ?_⟩ (by omega)
        by_cases e : j = i
        · rw [e]; exact q
        · exact g2 j (by omega)
    · refine (alike_iff.2 fun s hs => ?_).symm
      obtain ⟨j, hj, rfl⟩ := List.getElem_of_mem hs
      have := g2 j (by omega)
      rwa [rd_at hj] at this) 0 ⟨Nat.zero_le _, fun j hj => by omega⟩
  exact this
theorem keysL_ne {ss : List (List TItem)} {k : Int} (h : k ∈ keysL ss) : 0 < ss.length := by
  obtain ⟨_, h2⟩ := ((keysL_spec ss).2 k).1 h
  obtain ⟨s, hs, _⟩ := hasK_iff.1 h2
  exact List.length_pos_of_mem hs
theorem i_Agreed_ev (ss : List (List TItem)) (h : StsT ss) : Ev (fun k => i_Agreed k ss) (agreedL ss) := by
  obtain ⟨s1, s2, _⟩ := h.len
  have hkl := keysTo_length ss 16
  refine Re.eq (Re.c1 (i_keysIn_ev ss h) ?_)
  have hne : ∀ i, i < (keysL ss).length → 0 < ss.length := fun i hi => keysL_ne (List.getElem_mem hi)
  have hag : ∀ ks, ks = keysL ss → agreedL ss = (ks.filter (alike ss)).map fun k => (k, atS (rd [] ss 0) k, ()) := fun ks e => by rw [e]; rfl
  have hkl2 : (keysL ss).length ≤ 16 := hkl
  rw [hag _ rfl]
  generalize keysL ss = ks at hkl2 hne ⊢
  refine Re.enter (f := fun k n => l0_i_Agreed k n ss ks 0 []) among_nat ?_
  have := Re.loop (ι := Nat) (l := fun k n (i : Nat) => l0_i_Agreed k n ss ks (i : Int) (((ks.take i).filter (alike ss)).map fun k => (k, atS (rd [] ss 0) k, ()))) (I := fun i => i ≤ ks.length) (fun i => ks.length - i) (Q := fun _ v => v = (ks.filter (alike ss)).map fun k => (k, atS (rd [] ss 0) k, ())) (fun i hi ih => by
    simp only [l0_i_Agreed, b0_i_Agreed, Int.toNat_natCast]
    refine Re.brd (fun g => ?_) (fun g => Re.ret (by rw [List.take_of_length_le (by omega)]))
    have hl : i < ks.length := by omega
    have hp := hne i hl
    rw [idx_succ hl (by omega)]
    have next := ih (i + 1) (by omega) (by omega)
    simp only [take_int hl, List.filter_append, List.map_append] at next
    have hlen := filter_le (alike ss) ks i
    refine Re.gdd (by omega) (Re.gdd g (Re.c2 (i_allTell_ev ss h _) ?_))
    refine Re.br (fun q => Re.gdd (by omega) (Re.c2 (i_At_ev _ (s2 0 hp) _) (Re.gdd (by simp only [List.length_map, List.length_singleton]; unfold maxRow; omega) ?_))) (fun q => ?_)
    · rw [List.filter_cons_of_pos q] at next; simpa using next
    · rw [List.filter_cons_of_neg (by rw [q]; simp)] at next; simpa using next) 0 (Nat.zero_le _)
  simpa using this
theorem i_Clash_ev (ss : List (List TItem)) (h : StsT ss) : Ev (fun k => i_Clash k ss) (clashL ss) := by
  have hkl := keysTo_length ss 16
  refine Re.eq (Re.c1 (i_keysIn_ev ss h) ?_)
  have hkl2 : (keysL ss).length ≤ 16 := hkl
  unfold clashL
  generalize keysL ss = ks at hkl2 ⊢
  refine Re.enter (f := fun k n => l0_i_Clash k n ss ks 0 []) among_nat ?_
  have := Re.loop (ι := Nat) (l := fun k n (i : Nat) => l0_i_Clash k n ss ks (i : Int) ((ks.take i).filter fun k => !alike ss k)) (I := fun i => i ≤ ks.length) (fun i => ks.length - i) (Q := fun _ v => v = ks.filter fun k => !alike ss k) (fun i hi ih => by
    simp only [l0_i_Clash, b0_i_Clash, Int.toNat_natCast]
    refine Re.brd (fun g => ?_) (fun g => Re.ret (by rw [List.take_of_length_le (by omega)]))
    have hl : i < ks.length := by omega
    rw [idx_succ hl (by omega)]
    have next := ih (i + 1) (by omega) (by omega)
    simp only [take_int hl, List.filter_append] at next
    have hlen := filter_le (fun k => !alike ss k) ks i
    refine Re.gdd (by omega) (Re.gdd g (Re.c2 (i_allTell_ev ss h _) ?_))
    refine Re.br (fun q => Re.gdd (by simp only [List.length_singleton]; unfold maxRow; omega) ?_) (fun q => ?_)
    · rw [List.filter_cons_of_pos (p := fun k => !alike ss k) q] at next; exact next
    · rw [List.filter_cons_of_neg (p := fun k => !alike ss k) (by rw [q]; simp)] at next; simpa using next) 0 (Nat.zero_le _)
  simpa using this
end Go.Vm
