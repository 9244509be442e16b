/- Plain laws of the printed functions. -/
import Derived.Test.YtmmgjbjmmipobaaWc
set_option linter.unusedVariables false
section
namespace Go.Vm
open Go
section
variable {α β R : Type}
@[simp] theorem br_true (x y : Option R) : br true x y = x := rfl
@[simp] theorem br_false (x y : Option R) : br false x y = y := rfl
@[simp] theorem gd_true (x : Option R) : gd true x = x := rfl
@[simp] theorem gd_false (x : Option R) : gd false x = none := rfl
@[simp] theorem ng_true (x : Option R) : ng true x = none := rfl
@[simp] theorem ng_false (x : Option R) : ng false x = x := rfl
@[simp] theorem bd_some (a : α) (f : α → Option R) : bd (some a) f = f a := rfl
@[simp] theorem bd_none (f : α → Option R) : bd none f = none := rfl
theorem br_if (b : Bool) (x y : Option R) : br b x y = if b = true then x else y := by cases b <;> rfl

theorem br_dec (p : Prop) [Decidable p] (x y : Option R) : br (decide p) x y = if p then x else y := by by_cases h : p <;> simp [h]
theorem gd_dec (p : Prop) [Decidable p] (x : Option R) : gd (decide p) x = if p then x else none := by by_cases h : p <;> simp [h]
theorem ng_dec (p : Prop) [Decidable p] (x : Option R) : ng (decide p) x = if p then none else x := by by_cases h : p <;> simp [h]
theorem br_beq (a b : Int) (x y : Option R) : br (a == b) x y = if a = b then x else y := br_dec (a = b) x y
theorem br_bne (a b : Int) (x y : Option R) : br (a != b) x y = if a = b then y else x := by
  by_cases h : a = b
  · subst h; simp
  · have : (a != b) = true := by simp [h]
    rw [this, if_neg h]; rfl
theorem br_not (b : Bool) (x y : Option R) : br (!b) x y = br b y x := by cases b <;> rfl
/-- From some fuel on. -/
def Ev (f : Nat → Option R) (a : R) : Prop := ∃ K, ∀ k, K ≤ k → f k = some a
theorem Ev.of {f : Nat → Option R} {a : R} (h : ∀ k, f k = some a) : Ev f a := ⟨0, fun k _ => h k⟩
theorem Ev.bd {f : Nat → Option α} {a : α} {g : Nat → α → Option R} {r : R} (h : Ev f a) (h2 : Ev (fun k => g k a) r) : Ev (fun k => Vm.bd (f k) (g k)) r := by
  obtain ⟨K, hK⟩ := h
  obtain ⟨L, hL⟩ := h2
  exact ⟨max K L, fun k hk => by show Vm.bd (f k) (g k) = some r; rw [hK k (by omega), bd_some]; exact hL k (by omega)⟩
theorem Ev.congr {f g : Nat → Option R} {a : R} (h : Ev f a) (e : ∀ k, g k = f k) : Ev g a := by
  obtain ⟨K, hK⟩ := h
  exact ⟨K, fun k hk => by rw [e k]; exact hK k hk⟩
theorem Ev.congr_val {f g : Nat → Option R} {a b : R} (h : Ev f a) (e : ∀ k, g k = f k) (e2 : a = b) : Ev g b := by subst e2; exact h.congr e
theorem Ev.gd {f : Nat → Option R} {b : Bool} {a : R} (hb : b = true) (h : Ev f a) : Ev (fun k => Vm.gd b (f k)) a := by subst hb; exact h
theorem Ev.exists {f : Nat → Option R} {a : R} (h : Ev f a) : ∃ k, f k = some a := by
  obtain ⟨K, hK⟩ := h
  exact ⟨K, hK K (Nat.le_refl _)⟩
/-- A loop that goes through places 0 .. N. -/
theorem for_ev {l : Nat → Nat → Nat → Option R} {N : Nat} {r : R} (hs : ∀ i, i < N → ∃ K, ∀ k, K ≤ k → ∀ n, l k (n + 1) i = l k n (i + 1)) (he : ∃ K, ∀ k, K ≤ k → ∀ n, l k (n + 1) N = some r) :
    ∀ i, i ≤ N → ∃ K, ∀ k, K ≤ k → ∀ n, K ≤ n → l k n i = some r := by
  have : ∀ j i, i + j = N → ∃ K, ∀ k, K ≤ k → ∀ n, K ≤ n → l k n i = some r := by
    intro j
    induction j with
    | zero =>
      intro i hi
      obtain ⟨K, hK⟩ := he
      refine ⟨K + 1, fun k hk n hn => ?_⟩
      obtain ⟨m, rfl⟩ : ∃ m, n = m + 1 := ⟨n - 1, by omega⟩
      have : i = N := by omega
      rw [this]
      exact hK k (by omega) m
    | succ j ih =>
      intro i hi
      obtain ⟨K, hK⟩ := hs i (by omega)
      obtain ⟨L, hL⟩ := ih (i + 1) (by omega)
      refine ⟨max K L + 1, fun k hk n hn => ?_⟩
      obtain ⟨m, rfl⟩ : ∃ m, n = m + 1 := ⟨n - 1, by omega⟩
      rw [hK k (by omega) m]
      exact hL k (by omega) m (by omega)
  intro i hi
  exact this (N - i) i (by omega)
theorem for_ev0 {l : Nat → Nat → Nat → Option R} (N : Nat) {r : R} (hs : ∀ i, i < N → ∃ K, ∀ k, K ≤ k → ∀ n, l k (n + 1) i = l k n (i + 1)) (he : ∃ K, ∀ k, K ≤ k → ∀ n, l k (n + 1) N = some r) : Ev (fun k => l k k 0) r := by
  obtain ⟨K, hK⟩ := for_ev hs he 0 (Nat.zero_le _)
  exact ⟨K, fun k hk => hK k hk k hk⟩
/-- A loop with a measure. -/
theorem while_ev {σ : Type} {l : Nat → Nat → σ → Option R} {I : σ → Prop} {m : σ → Nat} {f : σ → R}
    (h : ∀ s, I s → (∃ K, ∀ k, K ≤ k → ∀ n, l k (n + 1) s = some (f s)) ∨ ∃ s', I s' ∧ m s' < m s ∧ f s' = f s ∧ ∃ K, ∀ k, K ≤ k → ∀ n, l k (n + 1) s = l k n s') :
    ∀ s, I s → ∃ K, ∀ k, K ≤ k → ∀ n, K ≤ n → l k n s = some (f s) := by
  have : ∀ j s, m s < j → I s → ∃ K, ∀ k, K ≤ k → ∀ n, K ≤ n → l k n s = some (f s) := by
    intro j
    induction j with
    | zero => intro s hs; omega
    | succ j ih =>
      intro s hs hI
      rcases h s hI with ⟨K, hK⟩ | ⟨s', h1, h2, h3, K, hK⟩
      · refine ⟨K + 1, fun k hk n hn => ?_⟩
        obtain ⟨q, rfl⟩ : ∃ q, n = q + 1 := ⟨n - 1, by omega⟩
        exact hK k (by omega) q
      · obtain ⟨L, hL⟩ := ih s' (by omega) h1
        refine ⟨max K L + 1, fun k hk n hn => ?_⟩
        obtain ⟨q, rfl⟩ : ∃ q, n = q + 1 := ⟨n - 1, by omega⟩
        rw [hK k (by omega) q, hL k (by omega) q (by omega), h3]
  intro s hs
  exact this (m s + 1) s (by omega) hs

theorem rd_at {z : α} {xs : List α} {i : Nat} (h : i < xs.length) : rd z xs i = xs[i] := by simp [rd, h]
theorem w64_eq {n : Int} (h : -9223372036854775808 ≤ n) (h2 : n < 9223372036854775808) : w64 n = n := by
  have e1 : (2 : Int) ^ 64 = 18446744073709551616 := by decide
  have e2 : (2 : Int) ^ 63 = 9223372036854775808 := by decide
  simp only [w64, IntKind.wrap, IntKind.signed, IntKind.bits, Bool.true_and, e1, e2, decide_eq_true_eq, Nat.reduceSub]
  split <;> omega

def allN (N : Nat) (ok : Nat → Bool) : Bool := (List.range N).all ok
theorem allN_iff {N : Nat} {ok : Nat → Bool} : allN N ok = true ↔ ∀ i, i < N → ok i = true := by
  simp [allN, List.all_eq_true, List.mem_range]
/-- A loop that stops at the first place that is not well. -/
theorem all_ev {l : Nat → Nat → Nat → Option R} (N : Nat) (ok : Nat → Bool) (r f : R) (hs : ∀ i, i < N → ∃ K, ∀ k, K ≤ k → ∀ n, l k (n + 1) i = br (ok i) (l k n (i + 1)) (some f)) (he : ∃ K, ∀ k, K ≤ k → ∀ n, l k (n + 1) N = some r) :
    Ev (fun k => l k k 0) (bif allN N ok then r else f) := by
  have h := while_ev (l := l) (I := fun i => i ≤ N) (m := fun i => N - i) (f := fun i => bif (List.range' i (N - i)).all ok then r else f) (fun i hi => by
    by_cases h : i < N
    · obtain ⟨K, hK⟩ := hs i h
      have e : List.range' i (N - i) = i :: List.range' (i + 1) (N - (i + 1)) := by rw [show N - i = (N - (i + 1)) + 1 by omega, List.range'_succ]
      cases hc : ok i with
      | true => exact .inr ⟨i + 1, h, by omega, by simp only [e, List.all_cons, hc, Bool.true_and], K, fun k hk n => by rw [hK k hk n, hc]; rfl⟩
      | false => exact .inl ⟨K, fun k hk n => by rw [hK k hk n, hc]; simp only [e, List.all_cons, hc, Bool.false_and]; rfl⟩
    · obtain ⟨K, hK⟩ := he
      have : i = N := by omega
      subst this
      exact .inl ⟨K, fun k hk n => by rw [hK k hk n]; simp⟩) 0 (Nat.zero_le _)
  obtain ⟨K, hK⟩ := h
  refine ⟨K, fun k hk => ?_⟩
  show l k k 0 = _
  rw [hK k hk k hk, allN, List.range_eq_range']
  rfl
/-- A loop that looks for the first element of a kind. -/
theorem find_ev {l : Nat → Nat → Nat → Option R} (xs : List α) (p : α → Bool) (f : α → R) (e : R)
    (hs : ∀ i (h : i < xs.length), ∃ K, ∀ k, K ≤ k → ∀ n, l k (n + 1) i = br (p xs[i]) (some (f xs[i])) (l k n (i + 1))) (he : ∃ K, ∀ k, K ≤ k → ∀ n, l k (n + 1) xs.length = some e) :
    Ev (fun k => l k k 0) (((xs.find? p).map f).getD e) := by
  have h := while_ev (l := l) (I := fun i => i ≤ xs.length) (m := fun i => xs.length - i) (f := fun i => (((xs.drop i).find? p).map f).getD e) (fun i hi => by
    by_cases h : i < xs.length
    · obtain ⟨K, hK⟩ := hs i h
      cases hc : p xs[i] with
      | true =>
        refine .inl ⟨K, fun k hk n => ?_⟩
        rw [hK k hk n, hc, List.drop_eq_getElem_cons h, List.find?_cons, hc]
        rfl
      | false =>
        refine .inr ⟨i + 1, h, by omega, ?_, K, fun k hk n => by rw [hK k hk n, hc]; rfl⟩
        rw [List.drop_eq_getElem_cons h, List.find?_cons, hc]
    · obtain ⟨K, hK⟩ := he
      have : i = xs.length := by omega
      subst this
      refine .inl ⟨K, fun k hk n => ?_⟩
      rw [hK k hk n]; simp) 0 (Nat.zero_le _)
  obtain ⟨K, hK⟩ := h
  exact ⟨K, fun k hk => hK k hk k hk⟩
/-- A loop that looks for the first place of a kind. -/
theorem findIdx_ev {l : Nat → Nat → Nat → Option R} (xs : List α) (p : α → Bool) (f : Nat → R) (e : R)
    (hs : ∀ i (h : i < xs.length), ∃ K, ∀ k, K ≤ k → ∀ n, l k (n + 1) i = br (p xs[i]) (some (f i)) (l k n (i + 1))) (he : ∃ K, ∀ k, K ≤ k → ∀ n, l k (n + 1) xs.length = some e) :
    Ev (fun k => l k k 0) (if xs.findIdx p < xs.length then f (xs.findIdx p) else e) := by
  refine for_ev0 (l := l) (xs.findIdx p) (fun i hi => ?_) ?_
  · have hl : i < xs.length := Nat.lt_of_lt_of_le hi List.findIdx_le_length
    obtain ⟨K, hK⟩ := hs i hl
    have : p xs[i] = false := by simpa using List.not_of_lt_findIdx hi
    exact ⟨K, fun k hk n => by rw [hK k hk n, this]; rfl⟩
  · by_cases h : xs.findIdx p < xs.length
    · obtain ⟨K, hK⟩ := hs _ h
      have : p xs[xs.findIdx p] = true := List.findIdx_getElem
      exact ⟨K, fun k hk n => by rw [hK k hk n, this, if_pos h]; rfl⟩
    · obtain ⟨K, hK⟩ := he
      have h2 : xs.findIdx p = xs.length := Nat.le_antisymm List.findIdx_le_length (by omega)
      exact ⟨K, fun k hk n => by rw [if_neg h, h2]; exact hK k hk n⟩
/-- A loop that folds a list. -/
theorem fold_ev {σ : Type} {l : Nat → Nat → Nat → σ → Option R} (xs : List α) (g : σ → α → σ) (s0 : σ) (r : R)
    (hs : ∀ i (h : i < xs.length), ∃ K, ∀ k, K ≤ k → ∀ n, l k (n + 1) i ((xs.take i).foldl g s0) = l k n (i + 1) (g ((xs.take i).foldl g s0) xs[i]))
    (he : ∃ K, ∀ k, K ≤ k → ∀ n, l k (n + 1) xs.length (xs.foldl g s0) = some r) : Ev (fun k => l k k 0 s0) r := by
  have h := for_ev0 (l := fun k n i => l k n i ((xs.take i).foldl g s0)) xs.length (r := r) (fun i hi => by
    obtain ⟨K, hK⟩ := hs i hi
    refine ⟨K, fun k hk n => ?_⟩
    rw [hK k hk n, List.take_succ_eq_append_getElem hi, List.foldl_append]
    rfl) (by
    obtain ⟨K, hK⟩ := he
    exact ⟨K, fun k hk n => by simpa using hK k hk n⟩)
  obtain ⟨K, hK⟩ := h
  exact ⟨K, fun k hk => by simpa using hK k hk⟩

theorem idx_succ {n : Nat} {i : Nat} (hi : i < n) (hn : n ≤ 1099511627776) : w64 ((i : Int) + 1) = ((i + 1 : Nat) : Int) := by
  rw [w64_eq (by omega) (by omega)]; rfl
theorem idx_pred {i : Nat} (hi : 0 < i) (hn : i ≤ 1099511627776) : w64 ((i : Int) - 1) = ((i - 1 : Nat) : Int) := by
  rw [w64_eq (by omega) (by omega)]; omega
theorem set_take_rep (xs : List α) (d : α) (i : Nat) (h : i < xs.length) : (xs.take i ++ List.replicate (xs.length - i) d).set i xs[i] = xs.take (i + 1) ++ List.replicate (xs.length - (i + 1)) d := by
  have e : xs.length - i = (xs.length - (i + 1)) + 1 := by omega
  rw [e, List.replicate_succ, List.set_append_right _ _ (by simp; omega), List.take_succ_eq_append_getElem h, List.append_assoc]
  congr 1
  simp [Nat.min_eq_left (Nat.le_of_lt h)]
/-- A row that is copied, one by one. -/
theorem toS_ev (d : α) (elem : Nat → α → Option α) (a : List α) (ha : a.length ≤ 1048576) (he : ∀ x ∈ a, Ev (fun k => elem k x) x) (l : Nat → Nat → Int → List α → Option (List α))
    (hl : ∀ k n i xs, l k (n + 1) i xs = br (decide (i < (a.length : Int))) (gd (decide (0 ≤ i)) (gd (decide (i < (a.length : Int))) (bd (elem k (rd d a i.toNat)) fun r => gd (decide (0 ≤ i)) (gd (decide (i < (xs.length : Int))) (l k n (w64 (i + 1)) (xs.set i.toNat r)))))) (some xs)) :
    Ev (fun k => gd (decide ((a.length : Int) = (a.length : Int))) (gd (decide (0 ≤ (a.length : Int))) (gd (decide ((a.length : Int).toNat ≤ maxRow)) (l k k 0 (List.replicate (a.length : Int).toNat d))))) a := by
  have h := for_ev0 (l := fun k n i => l k n (i : Int) (a.take i ++ List.replicate (a.length - i) d)) a.length (r := a)
    (fun i hi => by
      obtain ⟨K, hK⟩ := he a[i] (List.getElem_mem hi)
      refine ⟨K, fun k hk n => ?_⟩
      have e2 := idx_succ hi (by omega)
      have e3 : ((i : Int) < ((a.take i ++ List.replicate (a.length - i) d).length : Int)) := by simp; omega
      simp only [hl, e2, e3, hi, Int.ofNat_lt, Int.natCast_nonneg, decide_true, br_true, gd_true, Int.toNat_natCast, bd_some, rd_at hi, hK k hk]
      rw [← set_take_rep a d i hi]) ⟨0, fun k _ n => by simp [hl]⟩
  obtain ⟨K, hK⟩ := h
  refine ⟨K, fun k hk => ?_⟩
  have := hK k hk
  have e3 : a.length ≤ maxRow := by unfold maxRow; omega
  simp only [Int.toNat_natCast, decide_true, gd_true, Int.natCast_nonneg, e3]
  simpa using this
/-- A row that is like itself. -/
theorem eqS_ev (d : α) (elem : Nat → α → α → Option Bool) (a : List α) (ha : a.length ≤ 1048576) (he : ∀ x ∈ a, Ev (fun k => elem k x x) true) (l : Nat → Nat → Int → Option Bool)
    (hl : ∀ k n i, l k (n + 1) i = br (decide (i < (a.length : Int))) (gd (decide (0 ≤ i)) (gd (decide (i < (a.length : Int))) (gd (decide (0 ≤ i)) (gd (decide (i < (a.length : Int))) (bd (elem k (rd d a i.toNat) (rd d a i.toNat)) fun r => br (!r) (some false) (l k n (w64 (i + 1)))))))) (some true)) :
    Ev (fun k => br ((a.length : Int) != (a.length : Int)) (some false) (l k k 0)) true := by
  have h := for_ev0 (l := fun k n i => l k n (i : Int)) a.length (r := true)
    (fun i hi => by
      obtain ⟨K, hK⟩ := he a[i] (List.getElem_mem hi)
      refine ⟨K, fun k hk n => ?_⟩
      have e2 := idx_succ hi (by omega)
      simp only [hl, e2, hi, Int.ofNat_lt, Int.natCast_nonneg, decide_true, br_true, gd_true, Int.toNat_natCast, bd_some, rd_at hi, hK k hk, Bool.not_true, br_false]) ⟨0, fun k _ n => by simp [hl]⟩
  obtain ⟨K, hK⟩ := h
  exact ⟨K, fun k hk => by simpa using hK k hk⟩
/-- What is left of a measure. -/
def lft (n : Nat) (left : Int) : Int := if (n : Int) ≤ left then left - n else -1
theorem lft_neg {n : Nat} {left : Int} : lft n left < 0 ↔ left < n := by unfold lft; split <;> omega
theorem lft_pos {n : Nat} {left : Int} (h : (n : Int) ≤ left) : lft n left = left - n := by unfold lft; rw [if_pos h]
theorem lft_lft {n m : Nat} {left : Int} (h : 0 ≤ left) : (if lft n left < 0 then -1 else lft m (lft n left)) = lft (n + m) left := by unfold lft; split <;> split <;> (try split) <;> omega
theorem lft_sub {n : Nat} {left : Int} (h : 0 ≤ left) (h1 : left ≤ 1048576) (h2 : n ≤ 9223372036854775807) : w64 (left - n) = left - n := w64_eq (by omega) (by omega)
/-- Elements that are measured. -/
theorem szS_ev (d : α) (sz : α → Nat) (elem : Nat → α → Int → Option Int) (a : List α) (ha : a.length ≤ 9223372036854775807) (he : ∀ x ∈ a, ∀ left, 0 ≤ left → left ≤ 1048576 → Ev (fun k => elem k x left) (lft (sz x) left)) (l : Nat → Nat → Int → Int → Option Int)
    (hl : ∀ k n left i, l k (n + 1) left i = br (decide (i < (a.length : Int))) (gd (decide (0 ≤ i)) (gd (decide (i < (a.length : Int))) (bd (elem k (rd d a i.toNat) left) fun r => br (decide (r < 0)) (some (-1)) (l k n r (w64 (i + 1)))))) (some left)) (left : Int) (h0 : 0 ≤ left) (h1 : left ≤ 1048576) :
    Ev (fun k => br (decide (w64 (left - (a.length : Int)) < 0)) (some (-1)) (l k k (w64 (left - (a.length : Int))) 0)) (lft (a.length + (a.map sz).sum) left) := by
  rw [lft_sub h0 h1 ha]
  by_cases hlt : (a.length : Int) ≤ left
  · have h := while_ev (l := fun k n (p : Nat × Int) => l k n p.2 (p.1 : Int)) (I := fun p => p.1 ≤ a.length ∧ 0 ≤ p.2 ∧ p.2 ≤ 1048576) (m := fun p => a.length - p.1) (f := fun p => lft ((a.drop p.1).map sz).sum p.2) (fun p hp => by
      obtain ⟨i, q⟩ := p
      obtain ⟨hi, hq0, hq1⟩ := hp
      simp only at *
      by_cases h : i < a.length
      · obtain ⟨K, hK⟩ := he a[i] (List.getElem_mem h) q hq0 hq1
        have e2 := idx_succ h (by omega)
        rw [List.drop_eq_getElem_cons h, List.map_cons, List.sum_cons]
        by_cases hc : (sz a[i] : Int) ≤ q
        · refine .inr ⟨(i + 1, q - sz a[i]), ⟨h, by simp only; omega, by simp only; omega⟩, by simp only; omega, ?_, K, fun k hk n => ?_⟩
          · simp only; unfold lft; split <;> split <;> omega
          · have e3 : ¬ (q - (sz a[i] : Int) < 0) := by omega
            simp only [hl, e2, h, Int.ofNat_lt, Int.natCast_nonneg, decide_true, br_true, gd_true, Int.toNat_natCast, bd_some, rd_at h, hK k hk, lft_pos hc, e3, decide_false, br_false]
        · refine .inl ⟨K, fun k hk n => ?_⟩
          have e3 : lft (sz a[i]) q = -1 := by unfold lft; rw [if_neg hc]
          have e4 : lft (sz a[i] + ((a.drop (i + 1)).map sz).sum) q = -1 := by unfold lft; rw [if_neg (by omega)]
          simp only [hl, e2, h, Int.ofNat_lt, Int.natCast_nonneg, decide_true, br_true, gd_true, Int.toNat_natCast, bd_some, rd_at h, hK k hk, e3, e4]
          rfl
      · have : i = a.length := by omega
        subst this
        refine .inl ⟨0, fun k hk n => ?_⟩
        have : lft 0 q = q := by unfold lft; rw [if_pos (by omega)]; omega
        simp [hl, this]) (0, left - a.length) ⟨Nat.zero_le _, by simp only; omega, by simp only; omega⟩
    obtain ⟨K, hK⟩ := h
    refine ⟨K, fun k hk => ?_⟩
    have e3 : ¬ (left - (a.length : Int) < 0) := by omega
    have := hK k hk k hk
    simp only [e3, decide_false, br_false]
    simp only [List.drop_zero] at this
    rw [show ((0 : Nat) : Int) = 0 from rfl] at this
    rw [this]
    congr 1
    unfold lft; split <;> split <;> omega
  · refine .of fun k => ?_
    have e3 : (left - (a.length : Int) < 0) := by omega
    have e4 : lft (a.length + (a.map sz).sum) left = -1 := by unfold lft; rw [if_neg (by omega)]
    simp [e3, e4]
theorem szS0 {n : Nat} {left : Int} (h0 : 0 ≤ left) (h1 : left ≤ 1048576) (h2 : n ≤ 9223372036854775807) : br (decide (w64 (left - (n : Int)) < 0)) (some (-1)) (some (w64 (left - (n : Int)))) = some (lft n left) := by
  rw [lft_sub h0 h1 h2]
  unfold lft
  by_cases h : (n : Int) ≤ left
  · rw [if_pos h, show decide (left - (n : Int) < 0) = false by simp; omega]; rfl
  · rw [if_neg h, show decide (left - (n : Int) < 0) = true by simp; omega]; rfl
theorem sz_end {left : Int} (h : 0 ≤ left) : Ev (fun _ => some left) (lft 0 left) := .of fun _ => by unfold lft; rw [if_pos (by omega)]; simp
theorem sz_bd {n m : Nat} {left : Int} {f : Nat → Option Int} {g : Nat → Int → Option Int} (h0 : 0 ≤ left) (hf : Ev f (lft n left)) (hg : ∀ left, 0 ≤ left → left ≤ 1048576 → Ev (fun k => g k left) (lft m left)) (h1 : left ≤ 1048576) :
    Ev (fun k => bd (f k) fun r => br (decide (r < 0)) (some (-1)) (g k r)) (lft (n + m) left) := by
  refine hf.bd ?_
  by_cases hc : (n : Int) ≤ left
  · rw [lft_pos hc, show decide (left - (n : Int) < 0) = false by simp; omega]
    have e : lft (n + m) left = lft m (left - n) := by unfold lft; split <;> split <;> omega
    rw [e]
    exact hg _ (by omega) (by omega)
  · have e1 : lft n left = -1 := by unfold lft; rw [if_neg hc]
    have e2 : lft (n + m) left = -1 := by unfold lft; rw [if_neg (by omega)]
    rw [e1, e2]
    exact .of fun _ => rfl
theorem sz_in {s m : Nat} {left : Int} {f : Nat → Option Int} (h0 : 0 ≤ left) (h1 : left ≤ 1048576) (hs : s ≤ 9223372036854775807) (hf : (s : Int) ≤ left → Ev f (lft m (left - s))) :
    Ev (fun k => br (decide (w64 (left - (s : Int)) < 0)) (some (-1)) (f k)) (lft (s + m) left) := by
  rw [lft_sub h0 h1 hs]
  by_cases hc : (s : Int) ≤ left
  · rw [show decide (left - (s : Int) < 0) = false by simp; omega]
    have e : lft (s + m) left = lft m (left - s) := by unfold lft; split <;> split <;> omega
    rw [e]
    exact hf hc
  · rw [show decide (left - (s : Int) < 0) = true by simp; omega]
    have e2 : lft (s + m) left = -1 := by unfold lft; rw [if_neg (by omega)]
    rw [e2]
    exact .of fun _ => rfl
theorem mem_sum (f : α → Nat) {xs : List α} {x : α} (h : x ∈ xs) : f x ≤ (xs.map f).sum := by
  induction xs with
  | nil => cases h
  | cons y ys ih =>
    rw [List.map_cons, List.sum_cons]
    cases h with
    | head => omega
    | tail _ h => have := ih h; omega
theorem eqS_self (d : α) (a : List α) (ha : a.length ≤ 1048576) (l : Nat → Nat → Int → Option Bool)
    (hl : ∀ k n i, 0 ≤ i → i < (a.length : Int) → l k (n + 1) i = l k n (w64 (i + 1))) (he : ∀ k n, l k (n + 1) (a.length : Int) = some true) :
    Ev (fun k => br ((a.length : Int) != (a.length : Int)) (some false) (l k k 0)) true := by
  have h := for_ev0 (l := fun k n i => l k n (i : Int)) a.length (r := true) (fun i hi => ⟨0, fun k _ n => by
      have e2 := idx_succ hi (by omega)
      rw [hl k n i (by omega) (by omega), e2]⟩) ⟨0, fun k _ n => he k n⟩
  obtain ⟨K, hK⟩ := h
  exact ⟨K, fun k hk => by simpa using hK k hk⟩
/-- An exact law looks at the size of an argument first. -/
theorem ex_sz {n : Nat} {left : Int} {f : Nat → Option Int} {g : Nat → Int → Option Bool} (hf : Ev f (lft n left)) (hg : (n : Int) ≤ left → Ev (fun k => g k (left - n)) true) :
    Ev (fun k => bd (f k) fun r => br (decide (r < 0)) (some true) (g k r)) true := by
  refine hf.bd ?_
  by_cases hc : (n : Int) ≤ left
  · rw [lft_pos hc, show decide (left - (n : Int) < 0) = false by simp; omega]
    exact hg hc
  · have e1 : lft n left = -1 := by unfold lft; rw [if_neg hc]
    rw [e1]
    exact .of fun _ => rfl
theorem ex_len {n : Nat} {f : Nat → Option Bool} (hf : n ≤ 1048576 → Ev f true) : Ev (fun k => br (decide ((n : Int) > 1048576)) (some true) (f k)) true := by
  by_cases hc : n ≤ 1048576
  · rw [show decide ((n : Int) > 1048576) = false by simp; omega]
    exact hf hc
  · rw [show decide ((n : Int) > 1048576) = true by simp; omega]
    exact .of fun _ => rfl

/-! ### Marks -/
/-- A row whose elements are marked, one after the other; `ct`: how many marks an element takes. -/
def mkL (mk : α → Int → α) (ct : α → Nat) : List α → Int → List α
  | [], _ => []
  | x :: xs, k => mk x k :: mkL mk ct xs (k + ct x)
def ctL (ct : α → Nat) (xs : List α) : Nat := (xs.map ct).sum
theorem mkL_length (mk : α → Int → α) (ct : α → Nat) : ∀ (xs : List α) (k : Int), (mkL mk ct xs k).length = xs.length
  | [], _ => rfl
  | x :: xs, k => by simp [mkL, mkL_length mk ct xs]
theorem ctL_take (ct : α → Nat) {xs : List α} {i : Nat} (h : i < xs.length) : ctL ct (xs.take (i + 1)) = ctL ct (xs.take i) + ct xs[i] := by
  unfold ctL
  rw [List.take_succ_eq_append_getElem h, List.map_append, List.sum_append]
  simp
theorem ctL_le (ct : α → Nat) (xs : List α) (i : Nat) : ctL ct (xs.take i) ≤ ctL ct xs := by
  have : ctL ct xs = ctL ct (xs.take i) + ctL ct (xs.drop i) := by
    unfold ctL
    rw [← List.sum_append, ← List.map_append, List.take_append_drop]
  omega
theorem ctL_lt (ct : α → Nat) {xs : List α} {i : Nat} (h : i < xs.length) : ctL ct (xs.take i) + ct xs[i] ≤ ctL ct xs := by
  have := ctL_le ct xs (i + 1)
  rw [ctL_take ct h] at this
  exact this
theorem mkL_snoc (mk : α → Int → α) (ct : α → Nat) : ∀ (xs : List α) (x : α) (k : Int), mkL mk ct (xs ++ [x]) k = mkL mk ct xs k ++ [mk x (k + ctL ct xs)]
  | [], x, k => by simp [mkL, ctL]
  | y :: xs, x, k => by
    have e : k + (ct y : Int) + (ctL ct xs : Int) = k + (ctL ct (y :: xs) : Int) := by simp [ctL]; omega
    rw [List.cons_append, mkL, mkL_snoc mk ct xs x, e, mkL]
    rfl
theorem mkL_append (mk : α → Int → α) (ct : α → Nat) : ∀ (xs ys : List α) (k : Int), mkL mk ct (xs ++ ys) k = mkL mk ct xs k ++ mkL mk ct ys (k + ctL ct xs)
  | [], ys, k => by simp [mkL, ctL]
  | y :: xs, ys, k => by
    have e : k + (ct y : Int) + (ctL ct xs : Int) = k + (ctL ct (y :: xs) : Int) := by simp [ctL]; omega
    rw [List.cons_append, mkL, mkL_append mk ct xs ys, e, mkL]
    rfl
theorem mkL_at (mk : α → Int → α) (ct : α → Nat) (d : α) (xs : List α) (k : Int) {i : Nat} (h : i < xs.length) : rd d (mkL mk ct xs k) i = mk xs[i] (k + ctL ct (xs.take i)) := by
  rw [rd_at (by rw [mkL_length]; exact h)]
  have e : mkL mk ct xs k = mkL mk ct (xs.take i) k ++ mkL mk ct (xs.drop i) (k + ctL ct (xs.take i)) := by
    rw [← mkL_append, List.take_append_drop]
  have e2 : xs.drop i = xs[i] :: xs.drop (i + 1) := (List.getElem_cons_drop h).symm
  simp only [e, e2, mkL]
  rw [List.getElem_append_right (by rw [mkL_length]; simp; omega)]
  simp [mkL_length, Nat.min_eq_left (Nat.le_of_lt h)]
theorem markS_ev {l : Nat → Nat → Int → Nat → List α → Option (Int × List α × Unit)} (mk : α → Int → α) (ct : α → Nat) (xs : List α) (k0 : Int)
    (hs : ∀ i (h : i < xs.length) (a : Int) (ys : List α), a = k0 + ctL ct (xs.take i) → ys.length = xs.length → (∀ d, rd d ys i = xs[i]) → ∃ K, ∀ k, K ≤ k → ∀ n, l k (n + 1) a i ys = l k n (a + ct xs[i]) (i + 1) (ys.set i (mk xs[i] a)))
    (he : ∀ (a : Int) (ys : List α), ys.length = xs.length → ∀ k n, l k (n + 1) a xs.length ys = some (a, ys, ())) : Ev (fun k => l k k k0 0 xs) (k0 + ctL ct xs, mkL mk ct xs k0, ()) := by
  have h := for_ev0 (l := fun k n i => l k n (k0 + ctL ct (xs.take i)) i (mkL mk ct (xs.take i) k0 ++ xs.drop i)) xs.length (r := (k0 + ctL ct xs, mkL mk ct xs k0, ()))
    (fun i hi => by
      obtain ⟨K, hK⟩ := hs i hi _ (mkL mk ct (xs.take i) k0 ++ xs.drop i) rfl (by simp [mkL_length]; omega) (fun d => by
        rw [rd_at (by simp [mkL_length]; omega), List.getElem_append_right (by simp [mkL_length]; omega)]
        simp [mkL_length, Nat.min_eq_left (Nat.le_of_lt hi)])
      refine ⟨K, fun k hk n => ?_⟩
      show l k (n + 1) _ i _ = l k n (k0 + ctL ct (xs.take (i + 1))) (i + 1) (mkL mk ct (xs.take (i + 1)) k0 ++ xs.drop (i + 1))
      rw [hK k hk n, ctL_take ct hi, List.take_succ_eq_append_getElem hi, mkL_snoc]
      have e2 : xs.drop i = xs[i] :: xs.drop (i + 1) := (List.getElem_cons_drop hi).symm
      rw [List.set_append_right _ _ (by simp [mkL_length]; omega)]
      simp [mkL_length, Nat.min_eq_left (Nat.le_of_lt hi), Int.add_assoc]
      rw [e2, List.set_cons_zero]) ⟨0, fun k _ n => by
      show l k (n + 1) (k0 + ctL ct (xs.take xs.length)) xs.length (mkL mk ct (xs.take xs.length) k0 ++ xs.drop xs.length) = _
      rw [he _ _ (by simp [mkL_length])]
      simp⟩
  obtain ⟨K, hK⟩ := h
  exact ⟨K, fun k hk => by simpa [mkL, ctL] using hK k hk⟩
theorem heldS_ev {l : Nat → Nat → Int → Nat → Option Int} (mk : α → Int → α) (ct : α → Nat) (xs : List α) (k0 : Int)
    (hs : ∀ i (h : i < xs.length) (a : Int), a = k0 + ctL ct (xs.take i) → (∀ d, rd d (mkL mk ct xs k0) i = mk xs[i] a) → ∃ K, ∀ k, K ≤ k → ∀ n, l k (n + 1) a i = l k n (a + ct xs[i]) (i + 1))
    (he : ∀ (a : Int), ∀ k n, l k (n + 1) a xs.length = some a) : Ev (fun k => l k k k0 0) (k0 + ctL ct xs) := by
  have h := for_ev0 (l := fun k n i => l k n (k0 + ctL ct (xs.take i)) i) xs.length (r := k0 + ctL ct xs)
    (fun i hi => by
      obtain ⟨K, hK⟩ := hs i hi _ rfl (fun d => mkL_at mk ct d xs k0 hi)
      refine ⟨K, fun k hk n => ?_⟩
      show l k (n + 1) _ i = l k n (k0 + ctL ct (xs.take (i + 1))) (i + 1)
      rw [hK k hk n, ctL_take ct hi]
      simp [Int.add_assoc]) ⟨0, fun k _ n => by
      show l k (n + 1) (k0 + ctL ct (xs.take xs.length)) xs.length = _
      rw [he]
      simp⟩
  obtain ⟨K, hK⟩ := h
  exact ⟨K, fun k hk => by simpa [ctL] using hK k hk⟩
theorem ctL_one (xs : List α) : ctL (fun _ => 1) xs = xs.length := by
  unfold ctL
  induction xs with
  | nil => rfl
  | cons x xs ih => simp [ih]; omega
theorem ctL_const (n : Nat) (xs : List α) : ctL (fun _ => n) xs = n * xs.length := by
  unfold ctL
  induction xs with
  | nil => rfl
  | cons x xs ih => simp [ih, Nat.mul_add]; omega
theorem ctL_le_sum (f m : α → Nat) (h : ∀ y, f y ≤ 1000 * (1 + m y)) (xs : List α) : ctL f xs ≤ 1000 * (xs.length + (xs.map m).sum) := by
  unfold ctL
  induction xs with
  | nil => simp
  | cons x xs ih => have := h x; simp; omega
theorem rd_set {d x : α} {xs : List α} {i : Nat} (h : i < xs.length) : rd d (xs.set i x) i = x := by
  rw [rd_at (by simpa using h)]; simp
theorem lenB {a b : Nat} (h : a = b) : Nat.beq a b = true := by subst h; exact Nat.beq_refl a
theorem ex_neg {a : Int} {f : Nat → Option R} {x r : R} (h : 0 ≤ a) (hf : Ev f r) : Ev (fun k => br (decide (a < 0)) (some x) (f k)) r := by
  rw [show decide (a < 0) = false by simp; omega]; exact hf
theorem ex_ne {a b : Int} {f : Nat → Option R} {x r : R} (h : a = b) (hf : Ev f r) : Ev (fun k => br (a != b) (some x) (f k)) r := by
  rw [show (a != b) = false by simp [h]]; exact hf
/-! ### Strings -/
theorem ba_loop (s : ByteArray) : ∀ (j i : Nat) (r : List UInt8), i + j = s.size → ByteArray.toList.loop s i r = r.reverse ++ s.data.toList.drop i := by
  intro j
  induction j with
  | zero =>
    intro i r h
    unfold ByteArray.toList.loop
    rw [if_neg (by omega)]
    have : s.data.toList.drop i = [] := by
      rw [List.drop_eq_nil_iff, Array.length_toList]
      have : s.data.size = s.size := rfl
      omega
    rw [this, List.append_nil]
  | succ j ih =>
    intro i r h
    have hi : i < s.data.toList.length := by
      rw [Array.length_toList]
      have : s.data.size = s.size := rfl
      omega
    unfold ByteArray.toList.loop
    rw [if_pos (by omega), ih (i + 1) _ (by omega), List.drop_eq_getElem_cons hi, List.reverse_cons, List.append_assoc]
    congr 1
    have h2 : i < s.data.size := by rw [Array.length_toList] at hi; exact hi
    have h3 : s.get! i = s.data.toList[i] := by
      show (s.data[i]!) = _
      rw [getElem!_pos s.data i h2, Array.getElem_toList]
    rw [h3]; rfl
theorem toList_data (s : ByteArray) : s.toList = s.data.toList := by
  unfold ByteArray.toList
  rw [ba_loop s s.size 0 [] (by omega)]
  simp
theorem ba_ext {a b : ByteArray} (h : a.data.toList = b.data.toList) : a = b := by
  cases a; cases b
  congr 1
  exact Array.toList_inj.1 h
theorem str_beq (a b : ByteArray) : (a.toList == b.toList) = decide (a = b) := by
  rw [toList_data, toList_data]
  by_cases h : a = b
  · subst h; simp
  · have : a.data.toList ≠ b.data.toList := fun e => h (ba_ext e)
    rw [beq_eq_false_iff_ne.2 this, decide_eq_false h]
theorem strOfNums_append (xs ys : List Int) : strOfNums (xs ++ ys) = strOfNums xs ++ strOfNums ys := by
  apply ba_ext
  simp [strOfNums]
theorem strOfNums_size (xs : List Int) : (strOfNums xs).size = xs.length := by
  show (strOfNums xs).data.size = _
  simp [strOfNums]
theorem strOfNums_numsOf (s : ByteArray) : strOfNums (numsOf s) = s := by
  apply ba_ext
  have : s.data.toList.map (fun b => UInt8.ofNat (((b.toNat : Nat) : Int).toNat)) = s.data.toList := by
    rw [List.map_congr_left (g := id) (fun b _ => by simp)]
    simp
  simp only [strOfNums, numsOf, List.map_map]
  exact this
theorem numsOf_length (s : ByteArray) : (numsOf s).length = s.size := by
  unfold numsOf
  rw [List.length_map, Array.length_toList]; rfl
theorem emptyS : (⟨#[]⟩ : ByteArray) = strOfNums [] := by apply ba_ext; simp [strOfNums]
theorem u8_eq {n : Int} (h : 0 ≤ n) (h2 : n < 256) : IntKind.wrap .u8 n = n := by
  have e1 : (2 : Int) ^ 8 = 256 := by decide
  simp only [IntKind.wrap, IntKind.signed, IntKind.bits, Bool.false_and, e1, Bool.false_eq_true, if_false]
  omega
theorem gt_le (a b : Int) : decide (a > b) = !decide (a ≤ b) := by
  by_cases h : a ≤ b
  · simp [h, Int.not_lt.2 h]
  · simp [h, Int.not_le.1 h]
theorem beq0 (a : Int) : (a == a && (128 : Int) == 0) = false := by simp
theorem beq0' (a : Int) : (a == a && (2 : Int) == 0) = false := by simp
theorem gd_le {n m : Nat} (h : n ≤ m) (x : Option R) : gd (decide (n ≤ m)) x = x := by rw [decide_eq_true h]; rfl

theorem Ev.gdle {n m : Nat} {f : Nat → Option R} {a : R} (h : n ≤ m) (h2 : Ev f a) : Ev (fun k => Vm.gd (decide (n ≤ m)) (f k)) a := .gd (decide_eq_true h) h2

/-! ### Numbers in sevens -/
def varL (n : Nat) : List Int := if n < 128 then [(n : Int)] else ((n % 128 + 128 : Nat) : Int) :: varL (n / 128)
termination_by n
decreasing_by omega
def varS (n : Int) : ByteArray := strOfNums (varL n.toNat)
theorem varL_len : ∀ (k n : Nat), n < 128 ^ (k + 1) → (varL n).length ≤ k + 1 := by
  intro k
  induction k with
  | zero => intro n h; unfold varL; rw [if_pos (by simpa using h)]; simp
  | succ k ih =>
    intro n h
    unfold varL
    by_cases h2 : n < 128
    · rw [if_pos h2]; simp
    · rw [if_neg h2]
      have := ih (n / 128) (by rw [Nat.div_lt_iff_lt_mul (by omega)]; rwa [← Nat.pow_succ])
      simp; omega
theorem varL_pos (n : Nat) : 1 ≤ (varL n).length := by
  unfold varL
  split <;> simp
theorem varS_size {n : Int} (h : n ≤ 1000000000) : (varS n).size ≤ 5 := by
  unfold varS
  rw [strOfNums_size]
  exact varL_len 4 _ (by omega)
theorem varI_small {n : Int} (h0 : 0 ≤ n) (h : ¬ n > 127) : varL n.toNat = [n] := by
  unfold varL
  rw [if_pos (by omega)]
  congr 1; omega
theorem varI_big {n : Int} (h : n > 127) : varL n.toNat = (Int.tmod n 128 + 128) :: varL (Int.tdiv n 128).toNat := by
  rw [varL.eq_def, if_neg (by omega)]
  have e1 : Int.tmod n 128 = n % 128 := Int.tmod_eq_emod_of_nonneg (by omega)
  have e2 : Int.tdiv n 128 = n / 128 := Int.tdiv_eq_ediv_of_nonneg (by omega)
  rw [e1, e2]
  congr 2
  · omega
  · omega
theorem sev_step {n : Int} (h : n > 127) (h2 : n < 4611686018427387904) : IntKind.wrap .u8 (w64 (Int.tmod n 128 + 128)) = Int.tmod n 128 + 128 ∧ w64 (Int.tdiv n 128) = Int.tdiv n 128 ∧ 0 ≤ Int.tdiv n 128 ∧ Int.tdiv n 128 < n := by
  have e1 : Int.tmod n 128 = n % 128 := Int.tmod_eq_emod_of_nonneg (by omega)
  have e2 : Int.tdiv n 128 = n / 128 := Int.tdiv_eq_ediv_of_nonneg (by omega)
  rw [e1, e2]
  refine ⟨?_, w64_eq (by omega) (by omega), by omega, by omega⟩
  rw [w64_eq (by omega) (by omega), u8_eq (by omega) (by omega)]
def catV (l : List Int) : ByteArray := strOfNums (l.flatMap fun n => numsOf (varS n))
theorem catV_take {l : List Int} {i : Nat} (h : i < l.length) : catV (l.take (i + 1)) = catV (l.take i) ++ varS l[i] := by
  unfold catV
  rw [List.take_succ_eq_append_getElem h, List.flatMap_append, strOfNums_append]
  simp only [List.flatMap_cons, List.flatMap_nil, List.append_nil, strOfNums_numsOf]
theorem catV_size {l : List Int} (h : ∀ n ∈ l, n ≤ 1000000000) : (catV l).size ≤ 5 * l.length := by
  unfold catV
  rw [strOfNums_size]
  induction l with
  | nil => simp
  | cons n l ih =>
    rw [List.flatMap_cons, List.length_append, numsOf_length, List.length_cons]
    have h1 := varS_size (h n List.mem_cons_self)
    have h2 := ih (fun m hm => h m (List.mem_cons_of_mem _ hm))
    omega
theorem ba_size (a b : ByteArray) : (a ++ b).size = a.size + b.size := by simp
end
end Go.Vm
end

section
namespace Go.Vm
open Go
/-- Fuels: of the functions that are called, and of the loops that are under way. -/
class Fuel (ι : Type) where
  big : Nat → ι → Prop
  mono : ∀ {K L : Nat} {x : ι}, L ≤ K → big K x → big L x
instance : Fuel Nat := ⟨fun K k => K ≤ k, fun h g => Nat.le_trans h g⟩
instance {ι : Type} [Fuel ι] : Fuel (ι × Nat) := ⟨fun K x => Fuel.big K x.1 ∧ K ≤ x.2, fun h g => ⟨Fuel.mono h g.1, Nat.le_trans h g.2⟩⟩
section
variable {ι α R : Type} [Fuel ι]
/-- From some fuels on it comes to a value of a kind. -/
def Re (f : ι → Option R) (Q : R → Prop) : Prop := ∃ v, Q v ∧ ∃ K, ∀ x, Fuel.big K x → f x = some v
theorem Re.ret {v : R} {Q : R → Prop} (h : Q v) : Re (fun _ : ι => some v) Q := ⟨v, h, 0, fun _ _ => rfl⟩
theorem Re.mono {f : ι → Option R} {Q Q' : R → Prop} (h : Re f Q) (k : ∀ v, Q v → Q' v) : Re f Q' := by
  obtain ⟨v, hv, K, hK⟩ := h
  exact ⟨v, k v hv, K, hK⟩
theorem Re.congr {f g : ι → Option R} {Q : R → Prop} (h : Re f Q) (e : ∀ x, g x = f x) : Re g Q := by
  obtain ⟨v, hv, K, hK⟩ := h
  exact ⟨v, hv, K, fun x hx => (e x).trans (hK x hx)⟩
/-- A fuel among others. -/
def Among (κ : ι → Nat) : Prop := ∀ K x, Fuel.big K x → K ≤ κ x
theorem among_nat : Among (fun k : Nat => k) := fun _ _ h => h
theorem among_fst {κ : ι → Nat} (h : Among κ) : Among (fun x : ι × Nat => κ x.1) := fun K x hx => h K x.1 hx.1
theorem among_snd : Among (fun x : ι × Nat => x.2) := fun _ _ h => h.2
theorem Re.bd {κ : ι → Nat} {g : Nat → Option α} {F : ι → α → Option R} {P : α → Prop} {Q : R → Prop} (hκ : Among κ) (h : Re g P) (h2 : ∀ a, P a → Re (fun x => F x a) Q) : Re (fun x => Vm.bd (g (κ x)) (F x)) Q := by
  obtain ⟨a, ha, K, hK⟩ := h
  obtain ⟨v, hv, L, hL⟩ := h2 a ha
  refine ⟨v, hv, max K L, fun x hx => ?_⟩
  have h1 : g (κ x) = some a := hK _ (Nat.le_trans (Nat.le_max_left K L) (hκ _ _ hx))
  show Vm.bd (g (κ x)) (F x) = some v
  rw [h1, bd_some]
  exact hL x (Fuel.mono (Nat.le_max_right K L) hx)
theorem Re.br {b : Bool} {f g : ι → Option R} {Q : R → Prop} (h1 : b = true → Re f Q) (h2 : b = false → Re g Q) : Re (fun x => Vm.br b (f x) (g x)) Q := by
  cases b with
  | true => exact h1 rfl
  | false => exact h2 rfl
theorem Re.gd {b : Bool} {f : ι → Option R} {Q : R → Prop} (hb : b = true) (h : Re f Q) : Re (fun x => Vm.gd b (f x)) Q := by subst hb; exact h
theorem Re.ng {b : Bool} {f : ι → Option R} {Q : R → Prop} (hb : b = false) (h : Re f Q) : Re (fun x => Vm.ng b (f x)) Q := by subst hb; exact h
/-- A loop under way: with one more fuel. -/
theorem Re.loop {σ : Type} {l : ι → Nat → σ → Option R} {I : σ → Prop} (μ : σ → Nat) {Q : σ → R → Prop}
    (step : ∀ s, I s → (∀ s', I s' → μ s' < μ s → Re (fun x : ι × Nat => l x.1 x.2 s') (Q s')) → Re (fun x : ι × Nat => l x.1 (x.2 + 1) s) (Q s)) : ∀ s, I s → Re (fun x : ι × Nat => l x.1 x.2 s) (Q s) := by
  have : ∀ j s, μ s < j → I s → Re (fun x : ι × Nat => l x.1 x.2 s) (Q s) := by
    intro j
    induction j with
    | zero => intro s hs; omega
    | succ j ih =>
      intro s hs hI
      obtain ⟨v, hv, K, hK⟩ := step s hI fun s' h1 h2 => ih s' (by omega) h1
      refine ⟨v, hv, K + 1, fun x hx => ?_⟩
      obtain ⟨y, n⟩ := x
      obtain ⟨m, rfl⟩ : ∃ m, n = m + 1 := ⟨n - 1, by have := hx.2; simp only at this; omega⟩
      exact hK (y, m) ⟨Fuel.mono (Nat.le_succ K) hx.1, by have := hx.2; simp only at this ⊢; omega⟩
  intro s hs
  exact this (μ s + 1) s (by omega) hs
/-- A loop is entered with the fuel of the functions. -/
theorem Re.enter {κ : ι → Nat} {f : ι → Nat → Option R} {Q : R → Prop} (hκ : Among κ) (h : Re (fun x : ι × Nat => f x.1 x.2) Q) : Re (fun x => f x (κ x)) Q := by
  obtain ⟨v, hv, K, hK⟩ := h
  exact ⟨v, hv, K, fun x hx => hK (x, κ x) ⟨hx, hκ K x hx⟩⟩
/-- What a loop of fewer fuels comes to. -/
theorem Re.up {f : ι → Option R} {Q : R → Prop} (h : Re f Q) : Re (fun x : ι × Nat => f x.1) Q := by
  obtain ⟨v, hv, K, hK⟩ := h
  exact ⟨v, hv, K, fun x hx => hK x.1 hx.1⟩
end
section
variable {R : Type}
theorem Re.ev {f : Nat → Option R} {Q : R → Prop} (h : Re f Q) : ∃ v, Q v ∧ Ev f v := h
theorem Ev.re {f : Nat → Option R} {v : R} {Q : R → Prop} (h : Ev f v) (hq : Q v) : Re f Q := ⟨v, hq, h⟩
theorem Re.eq {f : Nat → Option R} {v : R} (h : Re f (fun a => a = v)) : Ev f v := by
  obtain ⟨a, rfl, h⟩ := h
  exact h
end
end Go.Vm
end
