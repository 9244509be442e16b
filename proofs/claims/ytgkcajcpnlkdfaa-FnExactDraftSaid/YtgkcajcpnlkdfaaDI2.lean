/- Plain laws. -/
import Derived.Test.YtgkcajcpnlkdfaaAI2
set_option linter.unusedVariables false
set_option linter.unusedSimpArgs false
namespace Go.Vm
open Go
/-! ### The program's order -/
theorem slices_Contains_ev (xs : List Int) (hx : xs.length ≤ 1048576) (y : Int) : Ev (fun k => slices_Contains_int_int k xs y) (decide (y ∈ xs)) := by
  have h1 : Ev (fun k => slices_Index_int_int k xs y) (if xs.findIdx (fun x => y == x) < xs.length then ((xs.findIdx (fun x => y == x) : Nat) : Int) else -1) := by
    have := findIdx_ev (l := fun k n i => l0_slices_Index_int_int k n xs y (i : Int)) xs (fun x => y == x) (fun i => (i : Int)) (-1) (fun i hi => ⟨0, fun k _ n => by
      simp only [l0_slices_Index_int_int, b0_slices_Index_int_int, Int.ofNat_lt, hi, Int.natCast_nonneg, decide_true, br_true, gd_true, Int.toNat_natCast, rd_at, idx_succ hi (by omega)]⟩) ⟨0, fun k _ n => by
      simp only [l0_slices_Index_int_int, b0_slices_Index_int_int, Int.lt_irrefl, decide_false, br_false]⟩
    exact this
  refine Re.eq (Re.c1 h1 (Re.ret ?_))
  by_cases q : xs.findIdx (fun x => y == x) < xs.length
  · rw [if_pos q]
    have hp : y = xs[xs.findIdx fun x => y == x] := by simpa using List.findIdx_getElem (w := q)
    have hm : y ∈ xs := by
      have h2 : xs[xs.findIdx fun x => y == x] ∈ xs := List.getElem_mem q
      exact hp.symm ▸ h2
    rw [decide_eq_true hm]; exact decide_eq_true (by omega)
  · rw [if_neg q]
    have hm : y ∉ xs := fun hm => q (List.findIdx_lt_length_of_exists ⟨y, hm, by simp⟩)
    rw [decide_eq_false hm]; rfl
/-! ### The first of some -/
theorem found_id {es : List TEvent} {x : Int} (h : found es x) : (findE es x).1.1 = x := by
  rcases findE_cases es x with e | ⟨e, _, e2, e3⟩
  · unfold found at h; rw [e] at h; cases h
  · rw [e2]; exact e3
theorem heavier_iff {es : List TEvent} {s : List TItem} {a b : TEvent} : heavier es s a b = true ↔ (heavy a = true ∧ heavy b = false) ∨ (heavy a = heavy b ∧ (level es s a.2.2.1 > level es s b.2.2.1 ∨ (level es s a.2.2.1 = level es s b.2.2.1 ∧ (a.2.2.2.2.2.2.2.2.1 < b.2.2.2.2.2.2.2.2.1 ∨ (a.2.2.2.2.2.2.2.2.1 = b.2.2.2.2.2.2.2.2.1 ∧ a.1 < b.1))))) := by
  unfold heavier
  generalize level es s a.2.2.1 = la
  generalize level es s b.2.2.1 = lb
  generalize a.2.2.2.2.2.2.2.2.1 = da
  generalize b.2.2.2.2.2.2.2.2.1 = db
  have base : (if la = lb then (if da = db then decide (a.1 < b.1) else decide (da < db)) else decide (la > lb)) = true ↔ (la > lb ∨ (la = lb ∧ (da < db ∨ (da = db ∧ a.1 < b.1)))) := by
    by_cases q : la = lb
    · rw [if_pos q]
      by_cases q2 : da = db
      · rw [if_pos q2, decide_eq_true_iff]; omega
      · rw [if_neg q2, decide_eq_true_iff]; omega
    · rw [if_neg q, decide_eq_true_iff]; omega
  cases ha : heavy a <;> cases hb : heavy b
  · simpa using base
  · simp
  · simp
  · simpa using base
theorem heavier_asymm {es : List TEvent} {s : List TItem} {a b : TEvent} (h : heavier es s a b = true) : heavier es s b a = false := by
  rw [Bool.eq_false_iff]
  intro h2
  rw [heavier_iff] at h h2
  rcases h with ⟨h1, h3⟩ | ⟨h1, h3⟩ <;> rcases h2 with ⟨g1, g3⟩ | ⟨g1, g3⟩
  · rw [h1] at g3; cases g3
  · rw [h1, h3] at g1; cases g1
  · rw [g1, g3] at h1; cases h1
  · omega
theorem heavier_total {es : List TEvent} {s : List TItem} {a b : TEvent} (hne : a.1 ≠ b.1) (h : heavier es s a b = false) : heavier es s b a = true := by
  rw [Bool.eq_false_iff] at h
  rw [heavier_iff]
  have h2 := fun x => h (heavier_iff.2 x)
  have alg : ∀ {x y p q u v : Int}, u ≠ v → ¬ (x > y ∨ (x = y ∧ (p < q ∨ (p = q ∧ u < v)))) → (y > x ∨ (y = x ∧ (q < p ∨ (q = p ∧ v < u)))) := by
    intro x y p q u v h1 h2
    omega
  cases ha : heavy a <;> cases hb : heavy b
  · exact .inr ⟨rfl, alg hne fun x => h2 (.inr ⟨by rw [ha, hb], x⟩)⟩
  · exact .inl ⟨rfl, rfl⟩
  · exact absurd (.inl ⟨ha, hb⟩) h2
  · exact .inr ⟨rfl, alg hne fun x => h2 (.inr ⟨by rw [ha, hb], x⟩)⟩
theorem heavier_trans {es : List TEvent} {s : List TItem} {a b c : TEvent} (h : heavier es s a b = true) (h2 : heavier es s b c = true) : heavier es s a c = true := by
  rw [heavier_iff] at h h2 ⊢
  rcases h with ⟨h1, h3⟩ | ⟨h1, h3⟩ <;> rcases h2 with ⟨g1, g3⟩ | ⟨g1, g3⟩
  · rw [h3] at g1; cases g1
  · exact .inl ⟨h1, g1 ▸ h3⟩
  · exact .inl ⟨h1.trans g1, g3⟩
  · exact .inr ⟨h1.trans g1, by omega⟩
def Best (es : List TEvent) (s : List TItem) (C : Int → Prop) (b : TEvent) : Prop := ∃ x, C x ∧ b = (findE es x).1 ∧ ∀ y, C y → y ≠ x → heavier es s (findE es x).1 (findE es y).1 = true
theorem Best.eq {es : List TEvent} {s : List TItem} {C D : Int → Prop} {a b : TEvent} (hCD : ∀ x, C x ↔ D x) (h : Best es s C a) (h' : Best es s D b) : a = b := by
  obtain ⟨x, h1, rfl, h3⟩ := h
  obtain ⟨y, h4, rfl, h6⟩ := h'
  by_cases q : x = y
  · rw [q]
  · have g1 := h3 y ((hCD y).2 h4) (fun e => q e.symm)
    have g2 := h6 x ((hCD x).1 h1) q
    rw [heavier_asymm g1] at g2; cases g2
def PickI (es : List TEvent) (s : List TItem) (L out : List Int) (M : List Int) : Option TEvent → Prop
  | none => ∀ x ∈ M, cand es L out x = false
  | some b => Best es s (fun x => x ∈ M ∧ cand es L out x = true) b
theorem pick_step {es : List TEvent} {s : List TItem} {L out M : List Int} {acc : Option TEvent} {x : Int} (hM : ∀ y ∈ M, found es y) (hx : found es x) (h : PickI es s L out M acc) : PickI es s L out (M ++ [x]) (pickStep es s L out acc x) := by
  unfold pickStep
  cases hc : cand es L out x with
  | false =>
    cases acc with
    | none =>
      intro y hy
      rcases List.mem_append.1 hy with hy | hy
      · exact h y hy
      · simp at hy; subst hy; exact hc
    | some b =>
      obtain ⟨z, ⟨h1, h2⟩, h3, h4⟩ := h
      refine ⟨z, ⟨List.mem_append_left _ h1, h2⟩, h3, fun y hy hne => ?_⟩
      rcases List.mem_append.1 hy.1 with hy1 | hy1
      · exact h4 y ⟨hy1, hy.2⟩ hne
      · simp at hy1; subst hy1
        have := hy.2
        rw [hc] at this; cases this
  | true =>
    cases acc with
    | none =>
      refine ⟨x, ⟨by simp, hc⟩, rfl, fun y hy hne => ?_⟩
      rcases List.mem_append.1 hy.1 with hy1 | hy1
      · have := hy.2
        rw [h y hy1] at this; cases this
      · simp at hy1; exact absurd hy1 hne
    | some b =>
      obtain ⟨z, ⟨h1, h2⟩, rfl, h4⟩ := h
      simp only [cond_true]
      cases hh : heavier es s (findE es x).1 (findE es z).1 with
      | true =>
        refine ⟨x, ⟨by simp, hc⟩, rfl, fun y hy hne => ?_⟩
        rcases List.mem_append.1 hy.1 with hy1 | hy1
        · by_cases q : y = z
          · rw [q]; exact hh
          · exact heavier_trans hh (h4 y ⟨hy1, hy.2⟩ q)
        · simp at hy1; exact absurd hy1 hne
      | false =>
        refine ⟨z, ⟨List.mem_append_left _ h1, h2⟩, rfl, fun y hy hne => ?_⟩
        rcases List.mem_append.1 hy.1 with hy1 | hy1
        · exact h4 y ⟨hy1, hy.2⟩ hne
        · simp at hy1; subst hy1
          exact heavier_total (by rw [found_id hx, found_id (hM z h1)]; exact hne) hh
theorem pick_fold {es : List TEvent} {s : List TItem} {L out : List Int} : ∀ (N M : List Int) (acc : Option TEvent), (∀ y ∈ M ++ N, found es y) → PickI es s L out M acc → PickI es s L out (M ++ N) (N.foldl (pickStep es s L out) acc)
  | [], M, acc, _, h => by simpa using h
  | x :: N, M, acc, hf, h => by
    have := pick_fold N (M ++ [x]) (pickStep es s L out acc x) (fun y hy => hf y (by simpa using hy)) (pick_step (fun y hy => hf y (by simp [hy])) (hf x (by simp)) h)
    simpa using this
theorem pick_spec (es : List TEvent) (s : List TItem) (L out M : List Int) (hf : ∀ y ∈ M, found es y) : PickI es s L out M (M.foldl (pickStep es s L out) none) := by
  have := pick_fold (es := es) (s := s) (L := L) (out := out) M [] none (by simpa using hf) (fun x hx => by simp at hx)
  simpa using this
/-! ### What is left to be ordered -/
structure LeftI (es : List TEvent) (L out : List Int) (cur : List TEvent) : Prop where
  nd : (cur.map fun e => e.1).Nodup
  mem : ∀ x, x ∈ cur.map (fun e => e.1) ↔ x ∈ L ∧ x ∉ out
  ev : ∀ e ∈ cur, e = (findE es e.1).1 ∧ found es e.1
  len : cur.length + out.length = L.length
theorem cand_out {es : List TEvent} {L out : List Int} {x : Int} (h : cand es L out x = true) : x ∉ out := by
  unfold cand at h
  intro hm
  rw [decide_eq_true hm] at h; cases h
end Go.Vm
