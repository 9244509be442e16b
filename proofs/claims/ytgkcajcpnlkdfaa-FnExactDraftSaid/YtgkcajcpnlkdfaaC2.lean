/- Plain laws. -/
import Derived.Test.YtgkcajcpnlkdfaaB2
import Derived.Test.YtgkcajcpnlkdfaaI2
set_option linter.unusedVariables false
set_option linter.unusedSimpArgs false
namespace Go.Vm
open Go
/-! ### States -/
def keyOk (k : Int) : Bool := inR k 1 3 || inR k 11 15
def StP (s : List TItem) : Prop := s.length ≤ 8 ∧ ∀ i, i < s.length → keyOk (rd dTItem s i).1 = true ∧ (1 ≤ (rd dTItem s i).2.1 ∧ (rd dTItem s i).2.1 ≤ 1000000) ∧ (0 < i → (rd dTItem s (i - 1)).1 < (rd dTItem s i).1)
noncomputable def stateOk (s : List TItem) : Bool := @decide (StP s) (Classical.propDecidable _)
theorem stateOk_iff {s : List TItem} : stateOk s = true ↔ StP s := by unfold stateOk; exact @decide_eq_true_iff _ (Classical.propDecidable _)
def putOut (s : List TItem) (key id : Int) : List TItem := s.filter (fun x => decide (x.1 < key)) ++ [(key, id, ())] ++ s.filter (fun x => decide (x.1 > key))
noncomputable def putS (s : List TItem) (key id : Int) : List TItem := bif stateOk s && stateOk (putOut s key id) then putOut s key id else s
theorem take_item {s : List TItem} {i : Nat} (h : i < s.length) : s.take (i + 1) = s.take i ++ [rd dTItem s i] := by
  rw [List.take_add_one, List.getElem?_eq_getElem h, rd_at h]; rfl
theorem filter_le {α : Type} (p : α → Bool) (s : List α) (i : Nat) : ((s.take i).filter p).length ≤ s.length :=
  Nat.le_trans (List.length_filter_le _ _) (by simp; omega)
/-! ### Several states -/
def StsS (ss : List (List TItem)) : Prop := ss.length ≤ 1048576 ∧ ∀ i, i < ss.length → (rd [] ss i).length ≤ 1048576
def hasK (ss : List (List TItem)) (k : Int) : Bool := ss.any fun s => s.any fun x => x.1 == k
def keysTo (ss : List (List TItem)) : Nat → List Int
  | 0 => []
  | k + 1 => bif hasK ss (k : Int) then keysTo ss k ++ [(k : Int)] else keysTo ss k
def keysL (ss : List (List TItem)) : List Int := keysTo ss 16
theorem keysTo_length (ss : List (List TItem)) : ∀ k, (keysTo ss k).length ≤ k
  | 0 => Nat.le_refl 0
  | k + 1 => by
    have := keysTo_length ss k
    unfold keysTo
    cases hasK ss (k : Int) <;> simp <;> omega
theorem any_take_succ {α : Type} (p : α → Bool) (d : α) (xs : List α) {i : Nat} (h : i < xs.length) : (xs.take (i + 1)).any p = ((xs.take i).any p || p (rd d xs i)) := by
  rw [List.take_add_one, List.getElem?_eq_getElem h, rd_at h, List.any_append]
  simp
theorem s_l11Keys_ev (ss : List (List TItem)) (h : StsS ss) : Ev (fun k => s_l11Keys k ss) (keysL ss) := by
  obtain ⟨h1, h2⟩ := h
  refine Re.eq (Re.enter (f := fun k n => l0_s_l11Keys k n ss 0 []) among_nat ?_)
  have := Re.wf (l := fun k n (st : Nat ⊕ (Nat × Nat × Bool) ⊕ (Nat × Nat × Nat × Bool)) => match st with
      | .inl q => l0_s_l11Keys k n ss (q : Int) (keysTo ss q)
      | .inr (.inl (q, i, b)) => l1_s_l11Keys k n ss (q : Int) b (i : Int) (keysTo ss q)
      | .inr (.inr (q, i, j, b)) => l2_s_l11Keys k n ss (q : Int) b (i : Int) (j : Int) (keysTo ss q))
    (I := fun st => match st with
      | .inl q => q ≤ 16
      | .inr (.inl (q, i, b)) => q ≤ 15 ∧ i ≤ ss.length ∧ b = (ss.take i).any fun s => s.any fun x => x.1 == (q : Int)
      | .inr (.inr (q, i, j, b)) => q ≤ 15 ∧ i < ss.length ∧ j ≤ (rd [] ss i).length ∧ b = ((ss.take i).any (fun s => s.any fun x => x.1 == (q : Int)) || ((rd [] ss i).take j).any fun x => x.1 == (q : Int)))
    (fun st => match st with
      | .inl q => ((16 - q) * (ss.length + 2), 0)
      | .inr (.inl (q, i, _)) => ((15 - q) * (ss.length + 2) + (ss.length - i) + 1, 0)
      | .inr (.inr (q, i, j, _)) => ((15 - q) * (ss.length + 2) + (ss.length - i), (rd [] ss i).length - j + 1)) (Q := fun _ v => v = keysL ss) (fun st hi ih => by
    rcases st with q | ⟨q, i, b⟩ | ⟨q, i, j, b⟩
    · simp only at hi ih ⊢
      simp only [z0_s_l11Keys, b0_s_l11Keys]
      refine Re.brd (fun g => ?_) (fun g => Re.ret ?_)
      · refine ih (.inr (.inl (q, 0, false))) ⟨by omega, Nat.zero_le _, by simp⟩ (.inl ?_)
        simp only
        have : (16 - q) * (ss.length + 2) = (15 - q) * (ss.length + 2) + (ss.length + 2) := by rw [show 16 - q = (15 - q) + 1 by omega, Nat.succ_mul]
        omega
      · rw [show q = 16 by omega]; rfl
    · obtain ⟨g1, g2, g3⟩ := hi
      simp only at ih ⊢
      simp only [z1_s_l11Keys, b1_s_l11Keys]
      have hk := keysTo_length ss q
      refine Re.brd (fun g => ?_) (fun g => ?_)
      · exact ih (.inr (.inr (q, i, 0, b))) ⟨g1, by omega, Nat.zero_le _, by simp [g3]⟩ (.inl (by simp only; omega))
      · have ei : ss.take i = ss := List.take_of_length_le (by omega)
        rw [ei] at g3
        have next := ih (.inl (q + 1)) (by simp only; omega) (.inl (by
          simp only
          rw [show 16 - (q + 1) = 15 - q by omega]; omega))
        have ek : keysTo ss (q + 1) = bif b then keysTo ss q ++ [(q : Int)] else keysTo ss q := by rw [g3]; rfl
        have ew : w64 ((q : Int) + 1) = ((q + 1 : Nat) : Int) := by rw [w64_eq (by omega) (by omega)]; rfl
        rw [ew]
        simp only [ek] at next
        cases b with
        | true => exact Re.br (b := true) (fun _ => Re.gdd (by simp [maxRow]; omega) next) (fun h => by cases h)
        | false => exact Re.br (b := false) (fun h => by cases h) (fun _ => next)
    · obtain ⟨g1, g2, g3, g4⟩ := hi
      simp only at ih ⊢
      simp only [z2_s_l11Keys, b2_s_l11Keys]
      refine Re.gdd (by omega) (Re.gdd (by omega) ?_)
      simp only [Int.toNat_natCast]
      have hsz := h2 i g2
      refine Re.brd (fun g => ?_) (fun g => ?_)
      · have hj : j < (rd [] ss i).length := by omega
        have ew : w64 ((j : Int) + 1) = ((j + 1 : Nat) : Int) := idx_succ hj (by omega)
        have et := any_take_succ (fun x : TItem => x.1 == (q : Int)) dTItem (rd [] ss i) hj
        have next := ih (.inr (.inr (q, i, j + 1, b || ((rd dTItem (rd [] ss i) j).1 == (q : Int))))) ⟨g1, g2, by omega, by rw [et, g4, Bool.or_assoc]⟩ (.inr ⟨rfl, by simp only; omega⟩)
        rw [ew]
        cases b with
        | true =>
          rw [Bool.true_or] at next
          exact Re.br (b := true) (fun _ => next) (fun h => by cases h)
        | false =>
          rw [Bool.false_or] at next
          exact Re.br (b := false) (fun h => by cases h) (fun _ => Re.gdd (by omega) (Re.gdd (by omega) (Re.gdd (by omega) (Re.gdd g next))))
      · have ej : (rd [] ss i).take j = rd [] ss i := List.take_of_length_le (by omega)
        rw [ej] at g4
        rw [idx_succ g2 (by omega)]
        exact ih (.inr (.inl (q, i + 1, b))) ⟨g1, by omega, by rw [any_take_succ (fun s : List TItem => s.any fun x => x.1 == (q : Int)) [] ss g2]; exact g4⟩ (.inr ⟨by simp only; omega, by simp only; omega⟩)) (.inl 0) (Nat.zero_le _)
  exact this
def alike (ss : List (List TItem)) (key : Int) : Bool := (List.range' 1 (ss.length - 1)).all fun i => atS (rd [] ss i) key == atS (rd [] ss 0) key
theorem s_l11Alike_ev (ss : List (List TItem)) (h : StsS ss) (key : Int) : Ev (fun k => s_l11Alike k ss key) (alike ss key) := by
  obtain ⟨h1, h2⟩ := h
  refine Re.eq (Re.enter (f := fun k n => l0_s_l11Alike k n ss key 1) among_nat ?_)
  have := Re.loop (ι := Nat) (l := fun k n (i : Nat) => l0_s_l11Alike k n ss key (i : Int)) (I := fun i => 1 ≤ i ∧ (∀ j, 1 ≤ j → j < i → j < ss.length → (atS (rd [] ss j) key == atS (rd [] ss 0) key) = true)) (fun i => ss.length - i) (Q := fun _ v => v = alike ss key) (fun i hi ih => by
    simp only [l0_s_l11Alike, b0_s_l11Alike]
    refine Re.brd (fun g => ?_) (fun g => Re.ret ?_)
    · have hl : i < ss.length := by omega
      refine Re.gdd (by omega) (Re.gdd g ?_)
      simp only [Int.toNat_natCast]
      refine Re.c2 (s_At_ev _ (by have := h2 i hl; omega) _) (Re.gdd (by omega) (Re.c2 (s_At_ev _ (by have := h2 0 (by omega); omega) _) ?_))
      refine Re.brn (fun q => Re.ret ?_) (fun q => ?_)
      · unfold alike
        rw [eq_comm, List.all_eq_false]
        exact ⟨i, by rw [List.mem_range'_1]; omega, by simp [q]⟩
      · rw [idx_succ hl (by omega)]
        exact ih (i + 1) ⟨by omega, fun j hj1 hj2 hj3 => by
          by_cases q2 : j < i
          · exact hi.2 j hj1 q2 hj3
          · have : j = i := by omega
            subst this; simp [q]⟩ (by omega)
    · unfold alike
      rw [eq_comm, List.all_eq_true]
      intro j hj
      rw [List.mem_range'_1] at hj
      exact hi.2 j hj.1 (by omega) (by omega)) 1 ⟨Nat.le_refl 1, fun j h1 h2 => by omega⟩
  exact this
def agreedL (ss : List (List TItem)) : List TItem := ((keysL ss).filter (alike ss)).map fun k => (k, atS (rd [] ss 0) k, ())
def clashL (ss : List (List TItem)) : List Int := (keysL ss).filter fun k => !alike ss k
theorem take_int {s : List Int} {i : Nat} (h : i < s.length) : s.take (i + 1) = s.take i ++ [rd 0 s i] := by
  rw [List.take_add_one, List.getElem?_eq_getElem h, rd_at h]; rfl
theorem s_Agreed_ev (ss : List (List TItem)) (h : StsS ss) (hne : 0 < ss.length) : Ev (fun k => s_Agreed k ss) (agreedL ss) := by
  refine Re.eq (Re.c1 (s_l11Keys_ev ss h) ?_)
  have hk : (keysL ss).length ≤ 16 := keysTo_length ss 16
  refine Re.enter (f := fun k n => l0_s_Agreed k n ss 0 [] (keysL ss)) among_nat ?_
  have := Re.loop (ι := Nat) (l := fun k n (i : Nat) => l0_s_Agreed k n ss (i : Int) ((((keysL ss).take i).filter (alike ss)).map fun k => (k, atS (rd [] ss 0) k, ())) (keysL ss)) (I := fun i => i ≤ (keysL ss).length) (fun i => (keysL ss).length - i) (Q := fun _ v => v = agreedL ss) (fun i hi ih => by
    have hle := filter_le (alike ss) (keysL ss) i
    simp only [l0_s_Agreed, b0_s_Agreed]
    refine Re.brd (fun g => ?_) (fun g => Re.ret (by rw [List.take_of_length_le (by omega)]; rfl))
    have hl : i < (keysL ss).length := by omega
    have next := ih (i + 1) (by omega) (by omega)
    rw [take_int hl, List.filter_append, List.map_append] at next
    refine Re.gdd (by omega) (Re.gdd g ?_)
    simp only [Int.toNat_natCast]
    rw [idx_succ hl (by omega)]
    refine Re.c2 (s_l11Alike_ev ss h _) ?_
    cases ha : alike ss (rd 0 (keysL ss) i) with
    | true =>
      rw [List.filter_cons_of_pos ha] at next
      refine Re.br (b := true) (fun _ => ?_) (fun h => by cases h)
      refine Re.gdd (by omega) (Re.gdd g (Re.gdd (by omega) (Re.gdd (by omega) (Re.gdd g ?_))))
      refine Re.c2 (s_At_ev _ (by have := h.2 0 hne; omega) _) (Re.gdd (by simp only [List.length_map, List.length_singleton]; unfold maxRow; omega) ?_)
      simpa using next
    | false =>
      rw [List.filter_cons_of_neg (by simp [ha])] at next
      refine Re.br (b := false) (fun h => by cases h) (fun _ => ?_)
      simpa using next) 0 (Nat.zero_le _)
  simpa using this
theorem s_Clash_ev (ss : List (List TItem)) (h : StsS ss) : Ev (fun k => s_Clash k ss) (clashL ss) := by
  refine Re.eq (Re.c1 (s_l11Keys_ev ss h) ?_)
  have hk : (keysL ss).length ≤ 16 := keysTo_length ss 16
  refine Re.enter (f := fun k n => l0_s_Clash k n ss 0 [] (keysL ss)) among_nat ?_
  have := Re.loop (ι := Nat) (l := fun k n (i : Nat) => l0_s_Clash k n ss (i : Int) (((keysL ss).take i).filter fun k => !alike ss k) (keysL ss)) (I := fun i => i ≤ (keysL ss).length) (fun i => (keysL ss).length - i) (Q := fun _ v => v = clashL ss) (fun i hi ih => by
    have hle := filter_le (fun k => !alike ss k) (keysL ss) i
    simp only [l0_s_Clash, b0_s_Clash]
    refine Re.brd (fun g => ?_) (fun g => Re.ret (by rw [List.take_of_length_le (by omega)]; rfl))
    have hl : i < (keysL ss).length := by omega
    have next := ih (i + 1) (by omega) (by omega)
    rw [take_int hl, List.filter_append] at next
    refine Re.gdd (by omega) (Re.gdd g ?_)
    simp only [Int.toNat_natCast]
    rw [idx_succ hl (by omega)]
    refine Re.c2 (s_l11Alike_ev ss h _) ?_
    cases ha : alike ss (rd 0 (keysL ss) i) with
    | false =>
      rw [List.filter_cons_of_pos (by simp [ha])] at next
      refine Re.br (b := true) (fun _ => ?_) (fun h => by cases h)
      exact Re.gdd (by omega) (Re.gdd g (Re.gdd (by simp only [List.length_singleton]; unfold maxRow; omega) next))
    | true =>
      rw [List.filter_cons_of_neg (by simp [ha])] at next
      refine Re.br (b := false) (fun h => by cases h) (fun _ => ?_)
      simpa using next) 0 (Nat.zero_le _)
  simpa using this
end Go.Vm
