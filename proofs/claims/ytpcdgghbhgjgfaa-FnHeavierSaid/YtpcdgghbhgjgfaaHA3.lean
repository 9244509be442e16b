/- Plain laws. -/
import Derived.Test.YtpcdgghbhgjgfaaEI3
import Derived.Test.YtpcdgghbhgjgfaaGA3
set_option linter.unusedVariables false
set_option linter.unusedSimpArgs false
namespace Go.Vm
open Go
/-! ### The library's sort, and what is left of runs -/
theorem sortL_mem (xs : List Int) (x : Int) : x ∈ sortL xs ↔ x ∈ xs := (List.mergeSort_perm xs _).mem_iff
theorem sortL_len (xs : List Int) : (sortL xs).length = xs.length := List.length_mergeSort _
theorem sortL_le (xs : List Int) : (sortL xs).Pairwise (· ≤ ·) := by
  have := List.pairwise_mergeSort (le := fun x y : Int => decide (x ≤ y)) (fun a b c h1 h2 => by simp at h1 h2 ⊢; omega) (fun a b => by simp; omega) xs
  exact this.imp fun h => by simpa using h
theorem sort_eq {xs : List Int} (h : xs.length ≤ 1048576) : sortO xs = some ((), sortL xs, ()) := by
  unfold sortO; rw [if_pos (by omega)]
def UniqOf (L r : List Int) : Prop := Asc r ∧ ∀ x, x ∈ r ↔ x ∈ L
theorem UniqOf.eq {L r r' : List Int} (h : UniqOf L r) (h' : UniqOf L r') : r = r' := asc_ext h.1 h'.1 fun x => (h.2 x).trans (h'.2 x).symm
theorem rd_le {L : List Int} (h : L.Pairwise (· ≤ ·)) {i j : Nat} (hij : i < j) (hj : j < L.length) : rd 0 L i ≤ rd 0 L j := by
  rw [rd_at hj, rd_at (show i < L.length by omega)]
  exact (List.pairwise_iff_getElem.1 h) i j _ _ hij
theorem asc_snoc {xs : List Int} {y : Int} (h : Asc xs) (hy : ∀ x ∈ xs, x < y) : Asc (xs ++ [y]) :=
  List.pairwise_append.2 ⟨h, by simp, fun a ha b hb => by simp at hb; subst hb; exact hy a ha⟩
/-- The program's compaction of an ascending row. -/
theorem compact_re {L : List Int} (hL : L.Pairwise (· ≤ ·)) (hlen : L.length ≤ 1048576) (l2 : Nat → Nat → Int → Option (List Int)) (l3 : Nat → Nat → Int → Int → Int → List Int → Option (List Int))
    (h2 : ∀ k n v5, l2 k (n + 1) v5 = (br (decide (v5 < (L.length : Int))) (gd (decide (0 ≤ v5)) (gd (decide (v5 < (L.length : Int))) (gd (decide (0 ≤ (w64 (v5 - 1)))) (gd (decide ((w64 (v5 - 1)) < (L.length : Int))) (br ((rd 0 L v5.toNat) == (rd 0 L (w64 (v5 - 1)).toNat)) (gd (decide (0 ≤ v5)) (gd (decide (v5 ≤ (L.length : Int))) (l3 k n v5 v5 1 L))) (l2 k n (w64 (v5 + 1)))))))) (some L)))
    (h3 : ∀ k n v6 v5 v7 xs8, l3 k (n + 1) v6 v5 v7 xs8 = (br (decide (v7 < (((xs8.length - v5.toNat) : Nat) : Int))) (gd (decide (0 ≤ v7)) (gd (decide (v7 < (((xs8.length - v5.toNat) : Nat) : Int))) (gd (decide (0 ≤ (w64 (v7 - 1)))) (gd (decide ((w64 (v7 - 1)) < (((xs8.length - v5.toNat) : Nat) : Int))) (br ((rd 0 xs8 (v5.toNat + v7.toNat)) != (rd 0 xs8 (v5.toNat + (w64 (v7 - 1)).toNat))) (gd (decide (0 ≤ v7)) (gd (decide (v7 < (((xs8.length - v5.toNat) : Nat) : Int))) (gd (decide (0 ≤ v6)) (gd (decide (v6 < (xs8.length : Int))) (l3 k n (w64 (v6 + 1)) v5 (w64 (v7 + 1)) (xs8.set v6.toNat (rd 0 xs8 (v5.toNat + v7.toNat)))))))) (l3 k n v6 v5 (w64 (v7 + 1)) xs8)))))) (gd (decide (0 ≤ v6)) (gd (decide (v6 ≤ (xs8.length : Int))) (gd (decide (0 ≤ v6)) (gd (decide (v6 ≤ (((clr 0 (some v6.toNat) none xs8).length : Nat) : Int))) (some ((clr 0 (some v6.toNat) none xs8).take (0 + v6.toNat)))))))))
    : Re (fun x : Nat × Nat => l2 x.1 x.2 1) (UniqOf L) := by
  have three : ∀ (k0 : Nat) (hk : 1 ≤ k0 ∧ k0 < L.length) (ha : Asc (L.take k0)) (heq : rd 0 L k0 = rd 0 L (k0 - 1)), Re (fun x : Nat × Nat => l3 x.1 x.2 (k0 : Int) (k0 : Int) 1 L) (UniqOf L) := fun k0 hk ha heq => by
    have := Re.loop (ι := Nat) (l := fun k n (st : Nat × Nat × List Int) => l3 k n (st.1 : Int) (k0 : Int) (st.2.1 : Int) st.2.2)
      (I := fun st => 1 ≤ st.2.1 ∧ k0 + st.2.1 ≤ L.length ∧ st.1 ≤ k0 + st.2.1 - 1 ∧ st.2.2.length = L.length ∧ (∀ j, st.1 ≤ j → rd 0 st.2.2 j = rd 0 L j) ∧ Asc (st.2.2.take st.1) ∧ ∀ x, x ∈ st.2.2.take st.1 ↔ x ∈ L.take (k0 + st.2.1))
      (fun st => L.length - (k0 + st.2.1)) (Q := fun _ r => UniqOf L r) (fun st hi ih => by
      obtain ⟨i, p, xs⟩ := st
      obtain ⟨g1, g2, g3, g4, g5, g6, g7⟩ := hi
      simp only at g1 g2 g3 g4 g5 g6 g7 ih ⊢
      simp only [h3, Int.toNat_natCast, g4]
      refine Re.brd (fun q => ?_) (fun q => ?_)
      · have hp : k0 + p < L.length := by omega
        rw [idx_pred (by omega) (by omega), idx_succ (show p < L.length by omega) (by omega), Int.toNat_natCast]
        refine Re.gdd (by omega) (Re.gdd q (Re.gdd (by omega) (Re.gdd (by omega) ?_)))
        rw [g5 (k0 + p) (by omega), show k0 + (p - 1) = k0 + p - 1 by omega, g5 (k0 + p - 1) (by omega)]
        have tk := take_int hp
        have hle := rd_le hL (show k0 + p - 1 < k0 + p by omega) hp
        have hmem : ∀ x ∈ L.take (k0 + p), x ≤ rd 0 L (k0 + p - 1) := fun x hx => by
          obtain ⟨j, hj, rfl⟩ := List.getElem_of_mem hx
          have hj2 : j < k0 + p ∧ j < L.length := by simp at hj; omega
          rw [List.getElem_take, ← rd_at (z := 0) hj2.2]
          by_cases e : j = k0 + p - 1
          · rw [e]; omega
          · exact rd_le hL (by omega) (by omega)
        refine Re.brn (fun q2 => ?_) (fun q2 => ?_)
        · have hi : i < xs.length := by omega
          rw [idx_succ (show i < L.length by omega) (by omega)]
          refine Re.gdd (by omega) (Re.gdd q (Re.gdd (by omega) (Re.gdd (by omega) ?_)))
          have hset : (xs.set i (rd 0 L (k0 + p))).take (i + 1) = xs.take i ++ [rd 0 L (k0 + p)] := by
            rw [List.take_succ_eq_append_getElem (by simp; omega), List.take_set_of_le (Nat.le_refl i)]
            simp
          refine ih (i + 1, p + 1, xs.set i (rd 0 L (k0 + p))) ⟨by simp only; omega, by simp only; omega, by simp only; omega, by simp [g4], fun j hj => ?_, ?_, fun x => ?_⟩ (by simp only; omega)
          · simp only at hj
            have : rd 0 (xs.set i (rd 0 L (k0 + p))) j = rd 0 xs j := by
              simp [rd, List.getElem?_set_ne (show i ≠ j by omega)]
            rw [this]; exact g5 j (by omega)
          · simp only
            rw [hset]
            refine asc_snoc g6 fun x hx => ?_
            have := hmem x ((g7 x).1 hx)
            omega
          · simp only
            rw [hset, List.mem_append, g7 x, show k0 + (p + 1) = k0 + p + 1 by omega, tk, List.mem_append]
        · refine ih (i, p + 1, xs) ⟨by simp only; omega, by simp only; omega, by simp only; omega, g4, g5, g6, fun x => ?_⟩ (by simp only; omega)
          simp only
          rw [g7 x, show k0 + (p + 1) = k0 + p + 1 by omega, tk, List.mem_append, List.mem_singleton]
          refine ⟨fun h => .inl h, fun h => ?_⟩
          rcases h with h | h
          · exact h
          · rw [h, q2, rd_at (show k0 + p - 1 < L.length by omega)]
            exact List.mem_take_iff_getElem.2 ⟨k0 + p - 1, by omega, rfl⟩
      · have he : k0 + p = L.length := by omega
        have hcl : (clr 0 (some i) none xs).length = xs.length := by simp [clr, cutLen, lo0]; omega
        have hct : (clr 0 (some i) none xs).take (0 + i) = xs.take i := by
          simp only [clr, cutLen, lo0, Nat.zero_add, List.append_assoc]
          rw [List.take_append_of_le_length (by simp; omega), List.take_take, Nat.min_self]
        refine Re.gdd (by omega) (Re.gdd (by omega) (Re.gdd (by omega) (Re.gdd (by rw [hcl]; omega) (Re.ret ?_))))
        rw [hct]
        refine ⟨g6, fun x => ?_⟩
        rw [g7 x, he, List.take_length]) (k0, 1, L) ⟨Nat.le_refl 1, by simp only; omega, by simp only; omega, rfl, fun _ _ => rfl, ha, fun x => ?_⟩
    · exact this
    · simp only
      rw [take_int hk.2, List.mem_append, List.mem_singleton]
      refine ⟨fun h => .inl h, fun h => ?_⟩
      rcases h with h | h
      · exact h
      · rw [h, heq, rd_at (show k0 - 1 < L.length by omega)]
        exact List.mem_take_iff_getElem.2 ⟨k0 - 1, by omega, rfl⟩
  have := Re.loop (ι := Nat) (l := fun k n (i : Nat) => l2 k n (i : Int)) (I := fun i => 1 ≤ i ∧ Asc (L.take i)) (fun i => L.length - i) (Q := fun _ r => UniqOf L r) (fun i hi ih => by
    obtain ⟨g1, g2⟩ := hi
    simp only [h2, Int.toNat_natCast]
    refine Re.brd (fun q => ?_) (fun q => Re.ret ?_)
    · have hl : i < L.length := by omega
      rw [idx_pred (by omega) (by omega), idx_succ hl (by omega), Int.toNat_natCast]
      refine Re.gdd (by omega) (Re.gdd q (Re.gdd (by omega) (Re.gdd (by omega) ?_)))
      refine Re.bre (fun q2 => Re.gdd (by omega) (Re.gdd (by omega) ?_)) (fun q2 => ?_)
      · exact three i ⟨g1, hl⟩ g2 q2
      · refine ih (i + 1) ⟨by omega, ?_⟩ (by omega)
        rw [take_int hl]
        refine asc_snoc g2 fun x hx => ?_
        have hle := rd_le hL (show i - 1 < i by omega) hl
        obtain ⟨j, hj, rfl⟩ := List.getElem_of_mem hx
        have hj2 : j < i ∧ j < L.length := by simp at hj; omega
        rw [List.getElem_take, ← rd_at (z := 0) hj2.2]
        by_cases e : j = i - 1
        · rw [e]; omega
        · have := rd_le hL (show j < i - 1 by omega) (by omega); omega
    · rw [List.take_of_length_le (by omega)] at g2
      exact ⟨g2, fun _ => Iff.rfl⟩) 1 ⟨Nat.le_refl 1, by
        cases L with
        | nil => simp [Asc]
        | cons x xs => simp [Asc]⟩
  exact this
theorem short_uniq {L : List Int} (h : L.length < 2) : UniqOf L L := by
  refine ⟨?_, fun _ => Iff.rfl⟩
  match L, h with
  | [], _ => simp [Asc]
  | [x], _ => simp [Asc]
theorem uniq_sort {xs r : List Int} (h : UniqOf (sortL xs) r) : UniqOf xs r := ⟨h.1, fun x => (h.2 x).trans (sortL_mem xs x)⟩
/-! ### Keys -/
def keysOfS (s : List TItem) : List Int := (s.map fun x => x.1).filter fun k => inR k 0 15
theorem keysOfS_len (s : List TItem) : (keysOfS s).length ≤ s.length := by
  unfold keysOfS
  exact Nat.le_trans (List.length_filter_le _ _) (by simp)
/-- States that are not too large in all. -/
def StsT (ss : List (List TItem)) : Prop := (ss.map fun s => s.length + 1).sum ≤ 1048576
theorem StsT.len {ss : List (List TItem)} (h : StsT ss) : ss.length ≤ 1048576 ∧ (∀ i, i < ss.length → (rd [] ss i).length ≤ 1048576) ∧ ∀ i, i ≤ ss.length → ((ss.take i).flatMap keysOfS).length ≤ 1048576 := by
  have h1 : ∀ ts : List (List TItem), ts.length + (ts.flatMap keysOfS).length ≤ (ts.map fun s => s.length + 1).sum ∧ ∀ s ∈ ts, s.length ≤ (ts.map fun s => s.length + 1).sum := by
    intro ts
    induction ts with
    | nil => exact ⟨Nat.le_refl _, fun s hs => by simp at hs⟩
    | cons t ts ih =>
      have := keysOfS_len t
      simp only [List.length_cons, List.flatMap_cons, List.length_append, List.map_cons, List.sum_cons]
      refine ⟨by omega, fun s hs => ?_⟩
      rcases List.mem_cons.1 hs with e | e
      · rw [e]; omega
      · have := ih.2 s e; omega
  have h2 : ∀ (ts : List (List TItem)) (i : Nat), ((ts.take i).map fun s => s.length + 1).sum ≤ (ts.map fun s => s.length + 1).sum := by
    intro ts
    induction ts with
    | nil => intro i; simp
    | cons t ts ih =>
      intro i
      cases i with
      | zero => simp
      | succ i => have := ih i; simp only [List.take_succ_cons, List.map_cons, List.sum_cons]; omega
  unfold StsT at h
  refine ⟨by have := (h1 ss).1; omega, fun i hi => ?_, fun i hi => ?_⟩
  · have := (h1 ss).2 (rd [] ss i) (by rw [rd_at hi]; exact List.getElem_mem _); omega
  · have := (h1 (ss.take i)).1
    have := h2 ss i
    omega
end Go.Vm
