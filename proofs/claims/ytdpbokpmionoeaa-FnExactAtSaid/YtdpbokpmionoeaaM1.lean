/- Plain laws: At. -/
import Derived.Test.YtdpbokpmionoeaaVb
import Derived.Test.YtdpbokpmionoeaaG1
set_option linter.unusedVariables false
namespace Go.Vm
open Go

theorem toItem_eq (k : Nat) (x : TItem) : l_toItem k x = some x := rfl
theorem set_take_rep {α : Type} (xs : List α) (d : α) (i : Nat) (h : i < xs.length) : (xs.take i ++ List.replicate (xs.length - i) d).set i xs[i] = xs.take (i + 1) ++ List.replicate (xs.length - (i + 1)) d := by
  have e : xs.length - i = (xs.length - (i + 1)) + 1 := by omega
  rw [e, List.replicate_succ, List.set_append_right _ _ (by simp; omega), List.take_succ_eq_append_getElem h, List.append_assoc]
  congr 1
  simp [Nat.min_eq_left (Nat.le_of_lt h)]
theorem toItemS_ev (a : List TItem) (ha : a.length ≤ 1048576) : Ev (fun k => l_toItemS k a) a := by
  have h := for_ev0 (l := fun k n i => l0_l_toItemS k n a (i : Int) (a.take i ++ List.replicate (a.length - i) dTItem)) a.length (r := a)
    (fun i hi => ⟨0, fun k _ n => by
      have e := w64_eq (n := (i : Int) + 1) (by omega) (by omega)
      have e2 : w64 ((i : Int) + 1) = ((i + 1 : Nat) : Int) := by rw [e]; rfl
      have e3 : ((i : Int) < ((a.take i ++ List.replicate (a.length - i) dTItem).length : Int)) := by simp; omega
      simp only [l0_l_toItemS, b0_l_toItemS, e2, e3, hi, Int.ofNat_lt, Int.natCast_nonneg, decide_true, br_true, gd_true, Int.toNat_natCast, toItem_eq, bd_some, rd_at hi]
      rw [← set_take_rep a dTItem i hi]⟩) ⟨0, fun k _ n => by simp [l0_l_toItemS, b0_l_toItemS]⟩
  obtain ⟨K, hK⟩ := h
  refine ⟨K, fun k hk => ?_⟩
  have := hK k hk
  have e3 : a.length ≤ maxRow := by unfold maxRow; omega
  simp only [l_toItemS, g_l_toItemS, Int.toNat_natCast, decide_true, gd_true, Int.natCast_nonneg, e3]
  simpa using this
/-- What a state has of a key. -/
def atL (key : Int) : List TItem → Int
  | [] => 0
  | x :: r => if x.1 == key then x.2.1 else atL key r
theorem atL_drop (key : Int) (a : List TItem) (i : Nat) (h : i < a.length) : atL key (a.drop i) = if a[i].1 == key then a[i].2.1 else atL key (a.drop (i + 1)) := by
  rw [List.drop_eq_getElem_cons h]; rfl
theorem idx_succ {n : Nat} {i : Nat} (hi : i < n) (hn : n ≤ 1099511627776) : w64 ((i : Int) + 1) = ((i + 1 : Nat) : Int) := by
  rw [w64_eq (by omega) (by omega)]; rfl
theorem s_At_ev (a : List TItem) (key : Int) (ha : a.length ≤ 1048576) : Ev (fun k => s_At k a key) (atL key a) := by
  have h := while_ev (l := fun k n (i : Nat) => l0_s_At k n a key (i : Int)) (I := fun i => i ≤ a.length) (m := fun i => a.length - i) (f := fun i => atL key (a.drop i)) (fun i hi => by
    by_cases h : i < a.length
    · have e := idx_succ h (by omega)
      rw [atL_drop key a i h]
      cases hc : (a[i].1 == key) with
      | true =>
        refine .inl ⟨0, fun k _ n => ?_⟩
        simp only [l0_s_At, b0_s_At, h, Int.ofNat_lt, Int.natCast_nonneg, decide_true, br_true, gd_true, Int.toNat_natCast, rd_at h, hc, if_true]
      | false =>
        refine .inr ⟨i + 1, h, by omega, by simp, 0, fun k _ n => ?_⟩
        simp only [l0_s_At, b0_s_At, h, Int.ofNat_lt, Int.natCast_nonneg, decide_true, br_true, gd_true, Int.toNat_natCast, rd_at h, hc, br_false, e]
    · have : i = a.length := by omega
      subst this
      exact .inl ⟨0, fun k _ n => by simp [l0_s_At, b0_s_At, atL]⟩) 0 (Nat.zero_le _)
  obtain ⟨K, hK⟩ := h
  exact ⟨K, fun k hk => by simpa [s_At, g_s_At] using hK k hk k hk⟩
theorem i_At_ev (a : List TItem) (key : Int) (ha : a.length ≤ 1048576) : Ev (fun k => i_At k a key) (atL key a) := by
  have h := while_ev (l := fun k n (i : Nat) => l0_i_At k n key a (i : Int)) (I := fun i => i ≤ a.length) (m := fun i => a.length - i) (f := fun i => atL key (a.drop i)) (fun i hi => by
    by_cases h : i < a.length
    · have e := idx_succ h (by omega)
      rw [atL_drop key a i h]
      cases hc : (a[i].1 == key) with
      | true =>
        refine .inl ⟨0, fun k _ n => ?_⟩
        simp only [l0_i_At, b0_i_At, h, Int.ofNat_lt, Int.natCast_nonneg, decide_true, br_true, gd_true, Int.toNat_natCast, rd_at h, hc, if_true]
      | false =>
        refine .inr ⟨i + 1, h, by omega, by simp, 0, fun k _ n => ?_⟩
        simp only [l0_i_At, b0_i_At, h, Int.ofNat_lt, Int.natCast_nonneg, decide_true, br_true, gd_true, Int.toNat_natCast, rd_at h, hc, br_false, e]
    · have : i = a.length := by omega
      subst this
      exact .inl ⟨0, fun k _ n => by simp [l0_i_At, b0_i_At, atL]⟩) 0 (Nat.zero_le _)
  obtain ⟨K, hK⟩ := h
  exact ⟨K, fun k hk => by simpa [i_At, g_i_At] using hK k hk k hk⟩
theorem eqItem_eq (k : Nat) (x y : TItem) : l_eqItem k x y = some (decide (x = y)) := by
  obtain ⟨a, b, _⟩ := x
  obtain ⟨c, d, _⟩ := y
  by_cases h1 : a = c <;> by_cases h2 : b = d <;> simp [l_eqItem, br_bne, h1, h2]
theorem eqItemS_self (a : List TItem) (ha : a.length ≤ 1048576) : Ev (fun k => l_eqItemS k a a) true := by
  have h := for_ev0 (l := fun k n i => l0_l_eqItemS k n a a (i : Int)) a.length (r := true)
    (fun i hi => ⟨0, fun k _ n => by
      have e := idx_succ hi (by omega)
      simp only [l0_l_eqItemS, b0_l_eqItemS, e, hi, Int.ofNat_lt, Int.natCast_nonneg, decide_true, br_true, gd_true, Int.toNat_natCast, eqItem_eq, bd_some, rd_at hi, Bool.not_true, br_false]⟩) ⟨0, fun k _ n => by simp [l0_l_eqItemS, b0_l_eqItemS]⟩
  obtain ⟨K, hK⟩ := h
  exact ⟨K, fun k hk => by simpa [l_eqItemS, g_l_eqItemS] using hK k hk⟩
theorem FnExactAt_ev (a : List TItem) (key : Int) (ha : a.length ≤ 9223372036854775807) : Ev (fun k => l_FnExactAt k a key) true := by
  unfold l_FnExactAt l_szItemS
  by_cases hs : a.length ≤ 1048576
  · have e : w64 (1048576 - (a.length : Int)) = 1048576 - (a.length : Int) := w64_eq (by omega) (by omega)
    have e2 : ¬ (1048576 - (a.length : Int) < 0) := by omega
    simp only [e, e2, decide_false, br_false, bd_some]
    refine (toItemS_ev a hs).bd ((s_At_ev a key hs).bd ((toItemS_ev a hs).bd ((i_At_ev a key hs).bd ?_)))
    simp only [bne_self_eq_false, br_false]
    exact (toItemS_ev a hs).bd ((eqItemS_self a hs).bd (.of fun k => by simp))
  · have e : w64 (1048576 - (a.length : Int)) = 1048576 - (a.length : Int) := w64_eq (by omega) (by omega)
    have e2 : (1048576 - (a.length : Int) < 0) := by omega
    exact .of fun k => by simp [e, e2]
end Go.Vm
