/- Plain laws. -/
import Derived.Test.YtgobdchlaclhiaaGreatAI2
set_option linter.unusedVariables false
set_option linter.unusedSimpArgs false
namespace Go.Vm
open Go
/-! ### The program's order -/
theorem slices_Contains_ev (xs : List Int) (hx : xs.length ≤ 1048576) (y : Int) : Ev (fun k => slices_Contains_int_int k xs y) (decide (y ∈ xs)) := by
  have h1 : Ev (fun k => slices_Index_int_int k xs y) (if xs.findIdx (fun x => y == x) < xs.length then ((xs.findIdx (fun x => y == x) : Nat) : Int) else -1) := by
    have := findIdx_ev (l := fun k n i => l0_slices_Index_int_int k n xs y (i : Int)) xs (fun x => y == x) (fun i => (i : Int)) (-1) (fun i hi => ⟨0, fun k _ n => by
      simp only [l0_slices_Index_int_int, b0_slices_Index_int_int, Int.ofNat_lt, hi, Int.natCast_nonneg, decide_true, br_true, gd_true, Int.toNat_natCast, rd_at, idx_succ hi (by omega)]⟩) ⟨0, fun k _ n => by
      simp only [l0_slices_Index_int_int, b0_slices_Index_int_int, Int.lt_irrefl, decide_false, br_false]⟩
    exact this
  refine Re.eq (Re.c1 h1 (Re.ret ?_))
  by_cases q : xs.findIdx (fun x => y == x) < xs.length
  · rw [if_pos q]
    have hp : y = xs[xs.findIdx fun x => y == x] := by simpa using List.findIdx_getElem (w := q)
    have hm : y ∈ xs := by
      have h2 : xs[xs.findIdx fun x => y == x] ∈ xs := List.getElem_mem q
      exact hp.symm ▸ h2
    rw [decide_eq_true hm]; exact decide_eq_true (by omega)
  · rw [if_neg q]
    have hm : y ∉ xs := fun hm => q (List.findIdx_lt_length_of_exists ⟨y, hm, by simp⟩)
    rw [decide_eq_false hm]; rfl
theorem i_isHeavy_eq (k : Nat) (e : TEvent) : i_isHeavy k e = some (heavy e) := by
  unfold i_isHeavy heavy
  cases e.2.1 == 3 <;> cases e.2.1 == 2 <;> cases e.2.2.2.2.1 == 0 <;> cases e.2.2.2.2.1 == 3 <;> rfl
theorem i_Heavier_ev (es : List TEvent) (hc : CopyS es) (hz : NoZ es) (s : List TItem) (hs : s.length ≤ 1048576) (a b : TEvent) : Ev (fun k => i_Heavier k es s a b) (heavier es s a b) := by
  refine Re.eq (Re.s1 (i_isHeavy_eq · _) (Re.s1 (i_isHeavy_eq · _) ?_))
  unfold heavier
  cases heavy a == heavy b with
  | false => exact Re.br (b := true) (fun _ => Re.s1 (i_isHeavy_eq · _) (Re.ret rfl)) (fun h => by cases h)
  | true =>
    refine Re.br (b := false) (fun h => by cases h) (fun _ => Re.c1 (i_LevelOf_ev es hc hz s hs _) (Re.c1 (i_LevelOf_ev es hc hz s hs _) ?_))
    refine Re.brn (fun q => Re.ret (by simp [q])) (fun q => ?_)
    exact Re.brn (fun q2 => Re.ret (by simp [q, q2])) (fun q2 => Re.ret (by simp [q, q2]))
theorem i_aheadOf_re (es : List TEvent) (hc : CopyS es) (hp : ∀ y, (prevsOf es y).length ≤ 1048576) (id : Int) : Re (fun k => i_aheadOf k es id) (AncL es id) := by
  have h := hc.1
  refine Re.enter (f := fun k n => l0_i_aheadOf k n es 0 [] [id]) among_nat ?_
  have := Re.wf (l := fun k n (st : (Nat × List Int × List Int) ⊕ (Nat × Nat × List Int × List Int × Int)) => match st with
      | .inl (u, out, td) => l0_i_aheadOf k n es u out td
      | .inr (u, j, out, td, y) => l1_i_aheadOf k n es u (findE es y) (j : Int) out td)
    (I := fun st => match st with
      | .inl (u, out, td) => BInv es id out (td.drop u) none ∧ td.length ≤ 1000000 + u ∧ u ≤ td.length ∧ (td.drop u).length ≤ out.length + 1
      | .inr (u, j, out, td, y) => BInv es id out (td.drop u) (some (y, j)) ∧ (y = id ∨ y ∈ out) ∧ j ≤ (prevsOf es y).length ∧ (td.drop u).length ≤ out.length + 1 ∧ u ≤ td.length)
    (fun st => match st with
      | .inl (u, out, td) => (2 * (es.length - out.length) + (td.drop u).length, 0)
      | .inr (u, j, out, td, y) => (2 * (es.length - out.length) + (td.drop u).length, (prevsOf es y).length - j + 1)) (Q := fun _ r => AncL es id r) (fun st hi ih => by
    rcases st with ⟨u, out, td⟩ | ⟨u, j, out, td, y⟩
    · obtain ⟨hB, h1, h2, h3⟩ := hi
      simp only at ih ⊢
      simp only [z0_i_aheadOf, b0_i_aheadOf]
      refine Re.brd (fun g => ?_) (fun g => Re.ret ?_)
      · have hu : u < td.length := by omega
        have hd : td.drop u = rd 0 td u :: td.drop (u + 1) := by rw [rd_at hu]; exact List.drop_eq_getElem_cons hu
        refine Re.gdd (by omega) ?_
        rw [Nat.add_zero]
        refine Re.c2 (i_Known_ev es hc _) (Re.gdd (by omega) ?_)
        have hy := hB.td (rd 0 td u) (by rw [hd]; exact List.mem_cons_self ..)
        refine ih (.inr (u + 1, 0, out, td, rd 0 td u)) ⟨⟨hB.nd, hB.an, fun z hz => hB.td z (by rw [hd]; exact List.mem_cons_of_mem _ hz), fun z hz => ?_⟩, hy, Nat.zero_le _, by rw [hd] at h3; simp at h3 ⊢; omega, by omega⟩ (.inl ?_)
        · rcases hB.cl z hz with h4 | ⟨j, h4, _⟩ | h4
          · rw [hd] at h4
            rcases List.mem_cons.1 h4 with h5 | h5
            · exact .inr (.inl ⟨0, by rw [h5], fun x hx => by simp at hx⟩)
            · exact .inl h5
          · cases h4
          · exact .inr (.inr h4)
        · simp only [hd, List.length_cons]
          omega
      · have e : td.drop u = [] := List.drop_eq_nil_of_le (by omega)
        rw [e] at hB
        refine ⟨hB.nd, fun x => ⟨fun hx => (hB.an x hx).2, fun hx => ?_⟩⟩
        have closed : ∀ z, (z = id ∨ z ∈ out) → ∀ x ∈ prevsOf es z, found es x → x ∈ out := fun z hz => by
          rcases hB.cl z hz with h4 | ⟨j, h4, _⟩ | h4
          · simp at h4
          · cases h4
          · exact h4
        induction hx with
        | one h4 h5 => exact closed id (.inl rfl) _ h4 h5
        | more _ h4 h5 ih2 => exact closed _ (.inr ih2) _ h4 h5
    · obtain ⟨hB, h1, h2, h3, hu⟩ := hi
      simp only at ih ⊢
      have hlen := hB.len
      have hpl := hp y
      have hpe : (findE es y).1.2.2.2.2.2.2.2.1 = prevsOf es y := rfl
      simp only [z1_i_aheadOf, b1_i_aheadOf, hpe]
      refine Re.brd (fun g => ?_) (fun g => ?_)
      · have hj : j < (prevsOf es y).length := by omega
        refine Re.gdd (by omega) (Re.gdd g ?_)
        simp only [Int.toNat_natCast]
        rw [idx_succ hj (by omega)]
        have step : ∀ out2 td2 u2, BInv es id out2 (td2.drop u2) (some (y, j + 1)) → (y = id ∨ y ∈ out2) → (td2.drop u2).length ≤ out2.length + 1 → u2 ≤ td2.length → (2 * (es.length - out2.length) + (td2.drop u2).length ≤ 2 * (es.length - out.length) + (td.drop u).length) →
            Re (fun x : Nat × Nat => l1_i_aheadOf x.1 x.2 es u2 (findE es y) ((j + 1 : Nat) : Int) out2 td2) (AncL es id) := fun out2 td2 u2 b1 b2 b3 b5 b4 => by
          refine ih (.inr (u2, j + 1, out2, td2, y)) ⟨b1, b2, by omega, b3, b5⟩ ?_
          simp only
          omega
        have tk := take_int hj
        have same : (found es (rd 0 (prevsOf es y) j) → rd 0 (prevsOf es y) j ∈ out) → Re (fun x : Nat × Nat => l1_i_aheadOf x.1 x.2 es u (findE es y) ((j + 1 : Nat) : Int) out td) (AncL es id) := fun hin =>
          step out td u ⟨hB.nd, hB.an, hB.td, fun z hz => by
            rcases hB.cl z hz with h4 | ⟨j', h4, h5⟩ | h4
            · exact .inl h4
            · cases h4
              refine .inr (.inl ⟨j + 1, rfl, fun x hx hf => ?_⟩)
              rw [tk] at hx
              rcases List.mem_append.1 hx with hx | hx
              · exact h5 x hx hf
              · simp at hx; subst hx; exact hin hf
            · exact .inr (.inr h4)⟩ h1 h3 hu (Nat.le_refl _)
        refine Re.c2 (i_Known_ev es hc _) ?_
        cases hf : (findE es (rd 0 (prevsOf es y) j)).2 with
        | false => exact Re.br (b := false) (fun h => by cases h) (fun _ => same fun h => by unfold found at h; rw [hf] at h; cases h)
        | true =>
          refine Re.br (b := true) (fun _ => ?_) (fun h => by cases h)
          refine Re.c2 (slices_Contains_ev out (by omega) _) ?_
          refine Re.br (fun q => ?_) (fun q => same fun _ => by simpa using q)
          have hno : rd 0 (prevsOf es y) j ∉ out := by simpa using q
          have hanc : Anc es id (rd 0 (prevsOf es y) j) := by
            have hm : rd 0 (prevsOf es y) j ∈ prevsOf es y := by rw [rd_at hj]; exact List.getElem_mem _
            rcases h1 with h1 | h1
            · subst h1; exact .one hm hf
            · exact .more (hB.an y h1).2 hm hf
          refine Re.gdd (by simp only [List.length_singleton]; unfold maxRow; omega) (Re.gdd (by simp only [List.length_singleton]; unfold maxRow; omega) ?_)
          have nB : BInv es id (out ++ [rd 0 (prevsOf es y) j]) ((td.drop u ++ [rd 0 (prevsOf es y) j]).drop 0) (some (y, j + 1)) := by
            refine ⟨List.nodup_append.2 ⟨hB.nd, by simp, fun a ha b hb => by simp at hb; subst hb; exact fun e => hno (e ▸ ha)⟩, fun x hx => ?_, fun z hz => ?_, fun z hz => ?_⟩
            · rcases List.mem_append.1 hx with hx | hx
              · exact hB.an x hx
              · simp at hx; subst hx; exact ⟨hf, hanc⟩
            · rw [List.drop_zero] at hz
              rcases List.mem_append.1 hz with hz | hz
              · exact Or.imp_right (fun h => List.mem_append_left _ h) (hB.td z hz)
              · exact .inr (List.mem_append_right _ hz)
            · rw [List.drop_zero]
              by_cases hz2 : z = id ∨ z ∈ out
              · rcases hB.cl z hz2 with h4 | ⟨j', h4, h5⟩ | h4
                · exact .inl (List.mem_append_left _ h4)
                · cases h4
                  refine .inr (.inl ⟨j + 1, rfl, fun x hx hf2 => ?_⟩)
                  rw [tk] at hx
                  rcases List.mem_append.1 hx with hx | hx
                  · exact List.mem_append_left _ (h5 x hx hf2)
                  · exact List.mem_append_right _ hx
                · exact .inr (.inr fun x hx hf2 => List.mem_append_left _ (h4 x hx hf2))
              · rcases hz with hz | hz
                · exact absurd (.inl hz) hz2
                · rcases List.mem_append.1 hz with hz | hz
                  · exact absurd (.inr hz) hz2
                  · exact .inl (List.mem_append_right _ hz)
          have nl := nB.len
          refine step _ _ 0 nB (Or.imp_right (fun h => List.mem_append_left _ h) h1) ?_ (Nat.zero_le _) ?_
          · simp only [List.drop_zero, List.length_append, List.length_singleton]; omega
          · simp only [List.drop_zero, List.length_append, List.length_singleton] at nl ⊢; omega
      · have ej : (prevsOf es y).take j = prevsOf es y := List.take_of_length_le (by omega)
        refine ih (.inl (u, out, td)) ⟨⟨hB.nd, hB.an, hB.td, fun z hz => ?_⟩, by simp at h3; omega, hu, h3⟩ (.inr ⟨rfl, by simp only; omega⟩)
        · rcases hB.cl z hz with h4 | ⟨j', h4, h5⟩ | h4
          · exact .inl h4
          · cases h4
            rw [ej] at h5
            exact .inr (.inr h5)
          · exact .inr (.inr h4)) (.inl (0, [], [id])) ⟨⟨by simp, fun x hx => by simp at hx, fun y hy => by simp at hy; exact .inl hy, fun z hz => .inl (by rcases hz with h | h; simp [h]; simp at h)⟩, by simp, by simp, by simp⟩
  exact this
/-! ### The first of some -/
theorem found_id {es : List TEvent} {x : Int} (h : found es x) : (findE es x).1.1 = x := by
  rcases findE_cases es x with e | ⟨e, _, e2, e3⟩
  · unfold found at h; rw [e] at h; cases h
  · rw [e2]; exact e3
theorem heavier_iff {es : List TEvent} {s : List TItem} {a b : TEvent} : heavier es s a b = true ↔ (heavy a = true ∧ heavy b = false) ∨ (heavy a = heavy b ∧ (level es s a.2.2.1 > level es s b.2.2.1 ∨ (level es s a.2.2.1 = level es s b.2.2.1 ∧ (a.2.2.2.2.2.2.2.2.1 < b.2.2.2.2.2.2.2.2.1 ∨ (a.2.2.2.2.2.2.2.2.1 = b.2.2.2.2.2.2.2.2.1 ∧ a.1 < b.1))))) := by
  unfold heavier
  generalize level es s a.2.2.1 = la
  generalize level es s b.2.2.1 = lb
  generalize a.2.2.2.2.2.2.2.2.1 = da
  generalize b.2.2.2.2.2.2.2.2.1 = db
  have base : (if la = lb then (if da = db then decide (a.1 < b.1) else decide (da < db)) else decide (la > lb)) = true ↔ (la > lb ∨ (la = lb ∧ (da < db ∨ (da = db ∧ a.1 < b.1)))) := by
    by_cases q : la = lb
    · rw [if_pos q]
      by_cases q2 : da = db
      · rw [if_pos q2, decide_eq_true_iff]; omega
      · rw [if_neg q2, decide_eq_true_iff]; omega
    · rw [if_neg q, decide_eq_true_iff]; omega
  cases ha : heavy a <;> cases hb : heavy b
  · simpa using base
  · simp
  · simp
  · simpa using base
theorem heavier_asymm {es : List TEvent} {s : List TItem} {a b : TEvent} (h : heavier es s a b = true) : heavier es s b a = false := by
  rw [Bool.eq_false_iff]
  intro h2
  rw [heavier_iff] at h h2
  rcases h with ⟨h1, h3⟩ | ⟨h1, h3⟩ <;> rcases h2 with ⟨g1, g3⟩ | ⟨g1, g3⟩
  · rw [h1] at g3; cases g3
  · rw [h1, h3] at g1; cases g1
  · rw [g1, g3] at h1; cases h1
  · omega
theorem heavier_total {es : List TEvent} {s : List TItem} {a b : TEvent} (hne : a.1 ≠ b.1) (h : heavier es s a b = false) : heavier es s b a = true := by
  rw [Bool.eq_false_iff] at h
  rw [heavier_iff]
  have h2 := fun x => h (heavier_iff.2 x)
  have alg : ∀ {x y p q u v : Int}, u ≠ v → ¬ (x > y ∨ (x = y ∧ (p < q ∨ (p = q ∧ u < v)))) → (y > x ∨ (y = x ∧ (q < p ∨ (q = p ∧ v < u)))) := by
    intro x y p q u v h1 h2
    omega
  cases ha : heavy a <;> cases hb : heavy b
  · exact .inr ⟨rfl, alg hne fun x => h2 (.inr ⟨by rw [ha, hb], x⟩)⟩
  · exact .inl ⟨rfl, rfl⟩
  · exact absurd (.inl ⟨ha, hb⟩) h2
  · exact .inr ⟨rfl, alg hne fun x => h2 (.inr ⟨by rw [ha, hb], x⟩)⟩
theorem heavier_trans {es : List TEvent} {s : List TItem} {a b c : TEvent} (h : heavier es s a b = true) (h2 : heavier es s b c = true) : heavier es s a c = true := by
  rw [heavier_iff] at h h2 ⊢
  rcases h with ⟨h1, h3⟩ | ⟨h1, h3⟩ <;> rcases h2 with ⟨g1, g3⟩ | ⟨g1, g3⟩
  · rw [h3] at g1; cases g1
  · exact .inl ⟨h1, g1 ▸ h3⟩
  · exact .inl ⟨h1.trans g1, g3⟩
  · exact .inr ⟨h1.trans g1, by omega⟩
def Best (es : List TEvent) (s : List TItem) (C : Int → Prop) (b : TEvent) : Prop := ∃ x, C x ∧ b = (findE es x).1 ∧ ∀ y, C y → y ≠ x → heavier es s (findE es x).1 (findE es y).1 = true
theorem Best.eq {es : List TEvent} {s : List TItem} {C D : Int → Prop} {a b : TEvent} (hCD : ∀ x, C x ↔ D x) (h : Best es s C a) (h' : Best es s D b) : a = b := by
  obtain ⟨x, h1, rfl, h3⟩ := h
  obtain ⟨y, h4, rfl, h6⟩ := h'
  by_cases q : x = y
  · rw [q]
  · have g1 := h3 y ((hCD y).2 h4) (fun e => q e.symm)
    have g2 := h6 x ((hCD x).1 h1) q
    rw [heavier_asymm g1] at g2; cases g2
def PickI (es : List TEvent) (s : List TItem) (L out : List Int) (M : List Int) : Option TEvent → Prop
  | none => ∀ x ∈ M, cand es L out x = false
  | some b => Best es s (fun x => x ∈ M ∧ cand es L out x = true) b
theorem pick_step {es : List TEvent} {s : List TItem} {L out M : List Int} {acc : Option TEvent} {x : Int} (hM : ∀ y ∈ M, found es y) (hx : found es x) (h : PickI es s L out M acc) : PickI es s L out (M ++ [x]) (pickStep es s L out acc x) := by
  unfold pickStep
  cases hc : cand es L out x with
  | false =>
    cases acc with
    | none =>
      intro y hy
      rcases List.mem_append.1 hy with hy | hy
      · exact h y hy
      · simp at hy; subst hy; exact hc
    | some b =>
      obtain ⟨z, ⟨h1, h2⟩, h3, h4⟩ := h
      refine ⟨z, ⟨List.mem_append_left _ h1, h2⟩, h3, fun y hy hne => ?_⟩
      rcases List.mem_append.1 hy.1 with hy1 | hy1
      · exact h4 y ⟨hy1, hy.2⟩ hne
      · simp at hy1; subst hy1
        have := hy.2
        rw [hc] at this; cases this
  | true =>
    cases acc with
    | none =>
      refine ⟨x, ⟨by simp, hc⟩, rfl, fun y hy hne => ?_⟩
      rcases List.mem_append.1 hy.1 with hy1 | hy1
      · have := hy.2
        rw [h y hy1] at this; cases this
      · simp at hy1; exact absurd hy1 hne
    | some b =>
      obtain ⟨z, ⟨h1, h2⟩, rfl, h4⟩ := h
      simp only [cond_true]
      cases hh : heavier es s (findE es x).1 (findE es z).1 with
      | true =>
        refine ⟨x, ⟨by simp, hc⟩, rfl, fun y hy hne => ?_⟩
        rcases List.mem_append.1 hy.1 with hy1 | hy1
        · by_cases q : y = z
          · rw [q]; exact hh
          · exact heavier_trans hh (h4 y ⟨hy1, hy.2⟩ q)
        · simp at hy1; exact absurd hy1 hne
      | false =>
        refine ⟨z, ⟨List.mem_append_left _ h1, h2⟩, rfl, fun y hy hne => ?_⟩
        rcases List.mem_append.1 hy.1 with hy1 | hy1
        · exact h4 y ⟨hy1, hy.2⟩ hne
        · simp at hy1; subst hy1
          exact heavier_total (by rw [found_id hx, found_id (hM z h1)]; exact hne) hh
theorem pick_fold {es : List TEvent} {s : List TItem} {L out : List Int} : ∀ (N M : List Int) (acc : Option TEvent), (∀ y ∈ M ++ N, found es y) → PickI es s L out M acc → PickI es s L out (M ++ N) (N.foldl (pickStep es s L out) acc)
  | [], M, acc, _, h => by simpa using h
  | x :: N, M, acc, hf, h => by
    have := pick_fold N (M ++ [x]) (pickStep es s L out acc x) (fun y hy => hf y (by simpa using hy)) (pick_step (fun y hy => hf y (by simp [hy])) (hf x (by simp)) h)
    simpa using this
theorem pick_spec (es : List TEvent) (s : List TItem) (L out M : List Int) (hf : ∀ y ∈ M, found es y) : PickI es s L out M (M.foldl (pickStep es s L out) none) := by
  have := pick_fold (es := es) (s := s) (L := L) (out := out) M [] none (by simpa using hf) (fun x hx => by simp at hx)
  simpa using this
theorem pick_same {es : List TEvent} {s : List TItem} {L out M N : List Int} (hM : ∀ y ∈ M, found es y) (hN : ∀ y ∈ N, found es y) (h : ∀ x, (x ∈ M ∧ cand es L out x = true) ↔ (x ∈ N ∧ cand es L out x = true)) : M.foldl (pickStep es s L out) none = N.foldl (pickStep es s L out) none := by
  have h1 := pick_spec es s L out M hM
  have h2 := pick_spec es s L out N hN
  cases ha : M.foldl (pickStep es s L out) none with
  | none =>
    rw [ha] at h1
    cases hb : N.foldl (pickStep es s L out) none with
    | none => rfl
    | some b =>
      rw [hb] at h2
      obtain ⟨x, hx, _⟩ := h2
      have := (h x).2 hx
      rw [h1 x this.1] at this; cases this.2
  | some a =>
    rw [ha] at h1
    cases hb : N.foldl (pickStep es s L out) none with
    | none =>
      rw [hb] at h2
      obtain ⟨x, hx, _⟩ := h1
      have := (h x).1 hx
      rw [h2 x this.1] at this; cases this.2
    | some b =>
      rw [hb] at h2
      rw [Best.eq h h1 h2]
theorem nodup_len {a b : List Int} (ha : a.Nodup) (hb : b.Nodup) (h : ∀ x, x ∈ a ↔ x ∈ b) : a.length = b.length :=
  Nat.le_antisymm (nodup_le a b ha fun x hx => (h x).1 hx) (nodup_le b a hb fun x hx => (h x).2 hx)
theorem mgetD_mset {α : Type} (d : α) : ∀ (ms : List (Int × α)) (k v) (k' : Int), mgetD d (mset ms k v) k' = if k' = k then v else mgetD d ms k'
  | [], k, v, k' => by
    by_cases q : k' = k
    · subst q; simp [mset, mgetD]
    · have : (k == k') = false := by simp; exact fun e => q e.symm
      simp [mset, mgetD, this, q]
  | (m, x) :: r, k, v, k' => by
    unfold mset
    by_cases q : m = k
    · subst q
      simp only [beq_self_eq_true, cond_true]
      by_cases q2 : k' = m
      · subst q2; simp [mgetD]
      · have : (m == k') = false := by simp; exact fun e => q2 e.symm
        simp [mgetD, this, q2]
    · have h1 : (m == k) = false := by simp [q]
      simp only [h1, cond_false]
      unfold mgetD
      by_cases q2 : m = k'
      · have : ¬ k' = k := fun e => q (q2.trans e)
        simp [q2, this]
      · have : (m == k') = false := by simp [q2]
        simp only [this, cond_false]
        exact mgetD_mset d r k v k'
/-! ### What is left to be ordered -/
structure LeftI (es : List TEvent) (L out : List Int) (cur : List TEvent) : Prop where
  nd : (cur.map fun e => e.1).Nodup
  mem : ∀ x, x ∈ cur.map (fun e => e.1) ↔ x ∈ L ∧ x ∉ out
  ev : ∀ e ∈ cur, e = (findE es e.1).1 ∧ found es e.1
  len : cur.length + out.length = L.length
def MapI (es : List TEvent) (ms : List (Int × List Int)) (cur : List TEvent) : Prop := ∀ e ∈ cur, AncL es e.1 (mgetD [] ms e.1)
theorem cand_free {es : List TEvent} {L out : List Int} {cur : List TEvent} (h : LeftI es L out cur) {e : TEvent} (he : e ∈ cur) {r : List Int} (hA : AncL es e.1 r) : cand es L out e.1 = true ↔ ∀ f ∈ cur, f.1 ∉ r := by
  have h1 := (h.mem e.1).1 (List.mem_map_of_mem he)
  unfold cand readyP
  rw [decide_eq_false h1.2]
  simp only [Bool.not_false, Bool.true_and]
  rw [@decide_eq_true_iff _ (Classical.propDecidable _)]
  constructor
  · intro g f hf hm
    have h2 := (h.mem f.1).1 (List.mem_map_of_mem hf)
    exact h2.2 (g f.1 ((hA.2 _).1 hm) h2.1)
  · intro g y hy hl
    refine Classical.byContradiction fun hn => ?_
    obtain ⟨f, hf, rfl⟩ := List.mem_map.1 ((h.mem y).2 ⟨hl, hn⟩)
    exact g f hf ((hA.2 _).2 hy)
theorem cand_out {es : List TEvent} {L out : List Int} {x : Int} (h : cand es L out x = true) : x ∉ out := by
  unfold cand at h
  intro hm
  rw [decide_eq_true hm] at h; cases h
theorem round_end {es : List TEvent} {s : List TItem} {L out : List Int} {cur : List TEvent} (h : LeftI es L out cur) (hL : ∀ x ∈ L, found es x) : (cur.map fun e => e.1).foldl (pickStep es s L out) none = pick es s L out :=
  pick_same (fun y hy => hL y ((h.mem y).1 hy).1) hL (fun x => ⟨fun ⟨a, b⟩ => ⟨((h.mem x).1 a).1, b⟩, fun ⟨a, b⟩ => ⟨(h.mem x).2 ⟨a, cand_out b⟩, b⟩⟩)
theorem go_stop {es : List TEvent} {s : List TItem} {L out : List Int} (h : pick es s L out = none) : ∀ f, orderGo es s L f out = out
  | 0 => rfl
  | f + 1 => by unfold orderGo; rw [h]
theorem go_step {es : List TEvent} {s : List TItem} {L out : List Int} {b : TEvent} (h : pick es s L out = some b) (f : Nat) : orderGo es s L (f + 1) out = orderGo es s L f (out ++ [b.1]) := by
  conv => lhs; unfold orderGo; rw [h]
theorem LeftI.del {es : List TEvent} {L out : List Int} {cur : List TEvent} (h : LeftI es L out cur) {p : Nat} (hp : p < cur.length) : LeftI es L (out ++ [(rd dTEvent cur p).1]) (cur.take p ++ cur.drop (p + 1)) := by
  have e1 : cur = cur.take p ++ cur[p] :: cur.drop (p + 1) := by rw [List.getElem_cons_drop hp, List.take_append_drop]
  rw [rd_at hp]
  have hnd := h.nd
  have hmem := h.mem
  have hev := h.ev
  have hlen := h.len
  generalize cur[p] = v at e1 ⊢
  generalize cur.take p = A at e1 ⊢
  generalize cur.drop (p + 1) = B at e1 ⊢
  subst e1
  rw [List.map_append, List.map_cons] at hnd
  obtain ⟨n1, n2, n3⟩ := List.nodup_append.1 hnd
  obtain ⟨n4, n5⟩ := List.nodup_cons.1 n2
  have hvA : v.1 ∉ A.map fun e => e.1 := fun hm => n3 _ hm _ (List.mem_cons_self ..) rfl
  refine ⟨?_, fun x => ?_, fun e he => hev e (by rcases List.mem_append.1 he with q | q <;> simp [q]), by simp at hlen ⊢; omega⟩
  · rw [List.map_append]
    exact List.nodup_append.2 ⟨n1, n5, fun a ha b hb => n3 a ha b (List.mem_cons_of_mem _ hb)⟩
  · have h1 := hmem x
    rw [List.map_append, List.mem_append]
    rw [List.map_append, List.map_cons, List.mem_append, List.mem_cons] at h1
    rw [List.mem_append, List.mem_singleton]
    constructor
    · intro hx
      have hne : x ≠ v.1 := fun e => by
        rcases hx with q | q
        · exact hvA (e ▸ q)
        · exact n4 (e ▸ q)
      have := h1.1 (by rcases hx with q | q; exact .inl q; exact .inr (.inr q))
      exact ⟨this.1, fun q => by rcases q with q | q; exact this.2 q; exact hne q⟩
    · rintro ⟨g1, g2⟩
      rcases h1.2 ⟨g1, fun q => g2 (.inl q)⟩ with q | q | q
      · exact .inl q
      · exact absurd (.inr q) g2
      · exact .inr q
theorem MapI.del {es : List TEvent} {ms : List (Int × List Int)} {cur : List TEvent} (h : MapI es ms cur) (p : Nat) : MapI es ms (cur.take p ++ cur.drop (p + 1)) := fun e he => by
  rcases List.mem_append.1 he with q | q
  · exact h e (List.mem_of_mem_take q)
  · exact h e (List.mem_of_mem_drop q)
theorem del_row (xs : List TEvent) (n p : Nat) (hn : n ≤ xs.length) (hp : p < n) : p + ((xs.take n).drop (p + 1)).length = n - 1 ∧ (app p ((xs.take n).drop (p + 1)) xs).length = xs.length ∧
    (clr dTEvent (some (p + ((xs.take n).drop (p + 1)).length)) (some n) (app p ((xs.take n).drop (p + 1)) xs)).length = xs.length ∧
    (clr dTEvent (some (p + ((xs.take n).drop (p + 1)).length)) (some n) (app p ((xs.take n).drop (p + 1)) xs)).take (p + ((xs.take n).drop (p + 1)).length) = (xs.take n).take p ++ (xs.take n).drop (p + 1) := by
  have hD : ((xs.take n).drop (p + 1)).length = n - (p + 1) := by simp; omega
  have hT : (xs.take n).take p = xs.take p := by rw [List.take_take, Nat.min_eq_left (by omega)]
  rw [hT]
  generalize (xs.take n).drop (p + 1) = D at hD ⊢
  have hA : (app p D xs).length = xs.length := by simp [app]; omega
  refine ⟨by omega, hA, ?_, ?_⟩
  · simp [clr, cutLen, lo0, hA]; omega
  · simp only [clr, cutLen, lo0, List.append_assoc]
    rw [List.take_append_of_le_length (by simp [hA]; omega), List.take_take, Nat.min_self]
    simp only [app]
    rw [List.take_append_of_le_length (by simp; omega), List.take_of_length_le (by simp; omega)]
def bi : Option Nat → Int
  | none => -1
  | some p => (p : Int)
def lv (n i : Nat) : Nat := (n + 1 - i) * (n + 2)
theorem lv_succ {n i : Nat} (h : i ≤ n) : lv n i = lv n (i + 1) + (n + 2) := by
  unfold lv
  have e1 : n + 1 - i = (n - i) + 1 := by omega
  have e2 : n + 1 - (i + 1) = n - i := by omega
  rw [e1, e2, Nat.succ_mul]
theorem rd_take {α : Type} (d : α) (xs : List α) {n i : Nat} (h : i < n) : rd d (xs.take n) i = rd d xs i := by simp [rd, List.getElem?_take, h]
theorem map_take_succ (cur : List TEvent) {i : Nat} (h : i < cur.length) : (cur.take (i + 1)).map (fun e => e.1) = (cur.take i).map (fun e => e.1) ++ [(rd dTEvent cur i).1] := by
  rw [List.take_succ_eq_append_getElem h, List.map_append, rd_at h]; rfl
theorem order_cut (es : List TEvent) (hc : CopyS es) (hz : NoZ es) (s : List TItem) (hs : s.length ≤ 1048576) (L : List Int) (hL : ∀ x ∈ L, found es x) (hLl : L.length ≤ 100000) (ms : List (Int × List Int)) :
    ∀ (xs : List TEvent) (m : Nat) (out : List Int), m ≤ xs.length → xs.length ≤ 100000 → LeftI es L out (xs.take m) → MapI es ms (xs.take m) → Re (fun x : Nat × Nat => l6_i_Order x.1 x.2 es s m xs out ms) (fun r => r = orderGo es s L m out) := by
  have main := Re.wf (l := fun k n (st : (List TEvent × Nat × List Int) ⊕ (List TEvent × Nat × List Int × Option Nat × Nat) ⊕ (List TEvent × Nat × List Int × Option Nat × Nat × Nat)) => match st with
      | .inl (xs, m, out) => l6_i_Order k n es s m xs out ms
      | .inr (.inl (xs, m, out, q, i)) => l7_i_Order k n es s m (bi q) (i : Int) xs out ms
      | .inr (.inr (xs, m, out, q, i, j)) => l8_i_Order k n m (j : Int) xs (i : Int) out ms es s (bi q))
    (I := fun st => match st with
      | .inl (xs, m, out) => m ≤ xs.length ∧ xs.length ≤ 100000 ∧ LeftI es L out (xs.take m) ∧ MapI es ms (xs.take m)
      | .inr (.inl (xs, m, out, q, i)) => (m ≤ xs.length ∧ xs.length ≤ 100000 ∧ LeftI es L out (xs.take m) ∧ MapI es ms (xs.take m)) ∧ i ≤ m ∧ (∀ p, q = some p → p < i) ∧ (((xs.take m).take i).map fun e => e.1).foldl (pickStep es s L out) none = (q.map fun p => rd dTEvent (xs.take m) p)
      | .inr (.inr (xs, m, out, q, i, j)) => (m ≤ xs.length ∧ xs.length ≤ 100000 ∧ LeftI es L out (xs.take m) ∧ MapI es ms (xs.take m)) ∧ i < m ∧ (∀ p, q = some p → p < i) ∧ (((xs.take m).take i).map fun e => e.1).foldl (pickStep es s L out) none = (q.map fun p => rd dTEvent (xs.take m) p) ∧ j ≤ m ∧ ∀ j2, j2 < j → (rd dTEvent (xs.take m) j2).1 ∉ mgetD [] ms (rd dTEvent (xs.take m) i).1)
    (fun st => match st with
      | .inl (xs, m, out) => (m, lv m 0 + 1)
      | .inr (.inl (xs, m, out, q, i)) => (m, lv m i)
      | .inr (.inr (xs, m, out, q, i, j)) => (m, lv m (i + 1) + (m + 1 - j)))
    (Q := fun st r => match st with
      | .inl (xs, m, out) => r = orderGo es s L m out
      | .inr (.inl (xs, m, out, q, i)) => r = orderGo es s L m out
      | .inr (.inr (xs, m, out, q, i, j)) => r = orderGo es s L m out) (fun st hi ih => by
    rcases st with ⟨xs, m, out⟩ | ⟨xs, m, out, q, i⟩ | ⟨xs, m, out, q, i, j⟩
    · simp only at hi ih ⊢
      simp only [z6_i_Order, b6_i_Order]
      exact ih (.inr (.inl (xs, m, out, none, 0))) ⟨hi, Nat.zero_le _, fun p h => (by cases h), rfl⟩ (.inr ⟨rfl, Nat.lt_succ_self _⟩)
    · simp only at hi ih ⊢
      obtain ⟨h0, h1, h2, h3⟩ := hi
      obtain ⟨g0, g1, g2, g3⟩ := h0
      have hcl : (xs.take m).length = m := by simp; omega
      simp only [z7_i_Order, b7_i_Order]
      refine Re.brd (fun g => ?_) (fun g => ?_)
      · have hlt : i < m := by omega
        refine Re.gdd (by omega) (Re.gdd g ?_)
        refine ih (.inr (.inr (xs, m, out, q, i, 0))) ⟨⟨g0, g1, g2, g3⟩, hlt, h2, h3, Nat.zero_le _, fun j2 h => by omega⟩ (.inr ⟨rfl, ?_⟩)
        have := lv_succ (n := m) (i := i) (by omega)
        simp only; omega
      · have hi2 : i = m := by omega
        rw [List.take_of_length_le (by omega), round_end g2 hL] at h3
        cases q with
        | none =>
          refine Re.brd (fun _ => Re.ret ?_) (fun h => absurd (show (-1 : Int) < 0 by omega) h)
          exact (go_stop h3 _).symm
        | some p =>
          have hp : p < m := by have := h2 p rfl; omega
          have hpc : p < (xs.take m).length := by omega
          have hol : out.length ≤ 100000 := by have := g2.len; omega
          simp only [bi, idx_succ (show p < m from hp) (by omega), Int.toNat_natCast, Nat.zero_add]
          obtain ⟨d1, d2, d3, d4⟩ := del_row xs m p g0 hp
          refine Re.brd (fun h => by omega) (fun _ => ?_)
          refine Re.gdd (by omega) (Re.gdd (by omega) (Re.gdd (by simp only [List.length_singleton]; unfold maxRow; omega) (Re.gdd (by omega) (Re.gdd (by omega) (Re.gdd (by omega) (Re.gdd (by omega) (Re.gdd (by omega) (Re.gdd (by omega) ?_))))))))
          refine Re.bre (fun h => by omega) (fun _ => ?_)
          refine Re.gdd (by omega) (Re.gdd (by omega) (Re.gdd (by omega) (Re.gdd (by omega) ?_)))
          refine Re.brd (fun _ => ?_) (fun h => by omega)
          refine Re.gdd (by omega) (Re.gdd (by omega) (Re.gdd (by omega) (Re.gdd (by omega) ?_)))
          have e9 : (rd dTEvent xs p).1 = (rd dTEvent (xs.take m) p).1 := by rw [rd_take _ _ hp]
          rw [e9]
          have hdel := g2.del hpc
          have hdm := g3.del p
          rw [← d4] at hdel hdm
          refine (ih (.inl (_, _, out ++ [(rd dTEvent (xs.take m) p).1])) ⟨by rw [d3]; omega, by rw [d3]; exact g1, hdel, hdm⟩ (.inl (by simp only; omega))).mono fun r hr => ?_
          simp only at hr
          rw [hr, d1]
          obtain ⟨f, hf⟩ : ∃ f, m = f + 1 := ⟨m - 1, by omega⟩
          rw [hf, go_step h3]
          have e10 : f + 1 - 1 = f := by omega
          rw [e10, ← hf]
    · simp only at hi ih ⊢
      obtain ⟨h0, h1, h2, h3, h4, h5⟩ := hi
      obtain ⟨g0, g1, g2, g3⟩ := h0
      have hcl : (xs.take m).length = m := by simp; omega
      have hic : i < (xs.take m).length := by omega
      have hmem : rd dTEvent (xs.take m) i ∈ (xs.take m) := by rw [rd_at hic]; exact List.getElem_mem _
      have hA := g3 _ hmem
      have hev := g2.ev _ hmem
      have ei : rd dTEvent xs i = rd dTEvent (xs.take m) i := by rw [rd_take _ _ h1]
      have h6 : (((xs.take m).take (i + 1)).map fun e => e.1).foldl (pickStep es s L out) none = pickStep es s L out (q.map fun p => rd dTEvent (xs.take m) p) (rd dTEvent (xs.take m) i).1 := by rw [map_take_succ _ hic, List.foldl_append, h3]; rfl
      have next : ∀ q2 : Option Nat, (∀ p, q2 = some p → p < i + 1) → pickStep es s L out (q.map fun p => rd dTEvent (xs.take m) p) (rd dTEvent (xs.take m) i).1 = (q2.map fun p => rd dTEvent (xs.take m) p) → Re (fun x : Nat × Nat => l7_i_Order x.1 x.2 es s m (bi q2) ((i + 1 : Nat) : Int) xs out ms) (fun r => r = orderGo es s L m out) := fun q2 e1 e2 => by
        refine ih (.inr (.inl (xs, m, out, q2, i + 1))) ⟨⟨g0, g1, g2, g3⟩, by omega, e1, by rw [h6, e2]⟩ (.inr ⟨rfl, ?_⟩)
        simp only; omega
      have same : cand es L out (rd dTEvent (xs.take m) i).1 = false → Re (fun x : Nat × Nat => l7_i_Order x.1 x.2 es s m (bi q) ((i + 1 : Nat) : Int) xs out ms) (fun r => r = orderGo es s L m out) := fun hf => next q (fun p h => by have := h2 p h; omega) (by unfold pickStep; rw [hf]; rfl)
      simp only [z8_i_Order, b8_i_Order]
      rw [Int.toNat_natCast, Int.toNat_natCast, idx_succ (show i < m from h1) (by omega), ei]
      refine Re.brd (fun g => ?_) (fun g => ?_)
      · have hj : j < m := by omega
        have ej : rd dTEvent xs j = rd dTEvent (xs.take m) j := by rw [rd_take _ _ hj]
        rw [ej, idx_succ hj (by omega)]
        have hle := hA.len
        have hcs := hc.1
        refine Re.gdd (by omega) (Re.gdd g (Re.c2 (slices_Contains_ev _ (by omega) _) ?_))
        refine Re.brd (fun hin => ?_) (fun hin => ?_)
        · refine Re.br (fun h => by simp at h) (fun _ => same ?_)
          cases hcd : cand es L out (rd dTEvent (xs.take m) i).1 with
          | false => rfl
          | true => exact absurd hin ((cand_free g2 hmem hA).1 hcd _ (by rw [rd_at (show j < (xs.take m).length by omega)]; exact List.getElem_mem _))
        · refine ih (.inr (.inr (xs, m, out, q, i, j + 1))) ⟨⟨g0, g1, g2, g3⟩, h1, h2, h3, by omega, fun j2 hj2 => ?_⟩ (.inr ⟨rfl, by simp only; omega⟩)
          by_cases e : j2 = j
          · rw [e]; exact hin
          · exact h5 j2 (by omega)
      · have hcd : cand es L out (rd dTEvent (xs.take m) i).1 = true := (cand_free g2 hmem hA).2 fun f hf => by
          obtain ⟨j2, hj2, rfl⟩ := List.getElem_of_mem hf
          have := h5 j2 (by omega)
          rw [rd_at hj2] at this; exact this
        have take : pickStep es s L out (q.map fun p => rd dTEvent (xs.take m) p) (rd dTEvent (xs.take m) i).1 = (match q with | none => some (rd dTEvent (xs.take m) i) | some p => bif heavier es s (rd dTEvent (xs.take m) i) (rd dTEvent (xs.take m) p) then some (rd dTEvent (xs.take m) i) else some (rd dTEvent (xs.take m) p)) := by
          unfold pickStep
          rw [hcd, ← hev.1]
          cases q <;> rfl
        cases q with
        | none =>
          refine Re.brd (fun _ => next (some i) (fun p h => by cases h; omega) take) (fun h => absurd (show (-1 : Int) < 0 by omega) h)
        | some p =>
          have hp := h2 p rfl
          have ep : rd dTEvent xs p = rd dTEvent (xs.take m) p := by rw [rd_take _ _ (by omega)]
          refine Re.brd (fun h => by simp only [bi] at h; omega) (fun _ => ?_)
          simp only [bi, Int.toNat_natCast]
          rw [ep]
          refine Re.gdd (by omega) (Re.gdd (by omega) (Re.c2 (i_Heavier_ev es hc hz s hs _ _) ?_))
          refine Re.br (fun hh => next (some i) (fun p h => by cases h; omega) ?_) (fun hh => next (some p) (fun p h => by cases h; omega) ?_)
          · rw [take]; simp only; rw [hh]; rfl
          · rw [take]; simp only; rw [hh]; rfl)
  intro xs m out a1 a2 a3 a4
  exact main (.inl (xs, m, out)) ⟨a1, a2, a3, a4⟩
theorem order_whole (es : List TEvent) (hc : CopyS es) (hz : NoZ es) (s : List TItem) (hs : s.length ≤ 1048576) (L : List Int) (hL : ∀ x ∈ L, found es x) (hLl : L.length ≤ 100000) (ms : List (Int × List Int)) :
    ∀ (xs : List TEvent) (out : List Int), xs.length ≤ 100000 → LeftI es L out xs → MapI es ms xs → Re (fun x : Nat × Nat => l3_i_Order x.1 x.2 es s xs out ms) (fun r => r = orderGo es s L xs.length out) := by
  have main := Re.wf (l := fun k n (st : (List TEvent × List Int) ⊕ (List TEvent × List Int × Option Nat × Nat) ⊕ (List TEvent × List Int × Option Nat × Nat × Nat)) => match st with
      | .inl (xs, out) => l3_i_Order k n es s xs out ms
      | .inr (.inl (xs, out, q, i)) => l4_i_Order k n es s (bi q) xs (i : Int) out ms
      | .inr (.inr (xs, out, q, i, j)) => l5_i_Order k n xs (j : Int) (i : Int) out ms es s (bi q))
    (I := fun st => match st with
      | .inl (xs, out) => xs.length ≤ 100000 ∧ LeftI es L out xs ∧ MapI es ms xs
      | .inr (.inl (xs, out, q, i)) => (xs.length ≤ 100000 ∧ LeftI es L out xs ∧ MapI es ms xs) ∧ i ≤ xs.length ∧ (∀ p, q = some p → p < i) ∧ ((xs.take i).map fun e => e.1).foldl (pickStep es s L out) none = (q.map fun p => rd dTEvent xs p)
      | .inr (.inr (xs, out, q, i, j)) => (xs.length ≤ 100000 ∧ LeftI es L out xs ∧ MapI es ms xs) ∧ i < xs.length ∧ (∀ p, q = some p → p < i) ∧ ((xs.take i).map fun e => e.1).foldl (pickStep es s L out) none = (q.map fun p => rd dTEvent xs p) ∧ j ≤ xs.length ∧ ∀ j2, j2 < j → (rd dTEvent xs j2).1 ∉ mgetD [] ms (rd dTEvent xs i).1)
    (fun st => match st with
      | .inl (xs, out) => (xs.length, lv xs.length 0 + 1)
      | .inr (.inl (xs, out, q, i)) => (xs.length, lv xs.length i)
      | .inr (.inr (xs, out, q, i, j)) => (xs.length, lv xs.length (i + 1) + (xs.length + 1 - j)))
    (Q := fun st r => match st with
      | .inl (xs, out) => r = orderGo es s L xs.length out
      | .inr (.inl (xs, out, q, i)) => r = orderGo es s L xs.length out
      | .inr (.inr (xs, out, q, i, j)) => r = orderGo es s L xs.length out) (fun st hi ih => by
    rcases st with ⟨xs, out⟩ | ⟨xs, out, q, i⟩ | ⟨xs, out, q, i, j⟩
    · simp only at hi ih ⊢
      simp only [z3_i_Order, b3_i_Order]
      exact ih (.inr (.inl (xs, out, none, 0))) ⟨hi, Nat.zero_le _, fun p h => (by cases h), rfl⟩ (.inr ⟨rfl, Nat.lt_succ_self _⟩)
    · simp only at hi ih ⊢
      obtain ⟨h0, h1, h2, h3⟩ := hi
      obtain ⟨g1, g2, g3⟩ := h0
      have hcl : xs.length = xs.length := rfl
      simp only [z4_i_Order, b4_i_Order]
      refine Re.brd (fun g => ?_) (fun g => ?_)
      · have hlt : i < xs.length := by omega
        refine Re.gdd (by omega) (Re.gdd g ?_)
        refine ih (.inr (.inr (xs, out, q, i, 0))) ⟨⟨g1, g2, g3⟩, hlt, h2, h3, Nat.zero_le _, fun j2 h => by omega⟩ (.inr ⟨rfl, ?_⟩)
        have := lv_succ (n := xs.length) (i := i) (by omega)
        simp only; omega
      · have hi2 : i = xs.length := by omega
        rw [List.take_of_length_le (by omega), round_end g2 hL] at h3
        cases q with
        | none =>
          refine Re.brd (fun _ => Re.ret ?_) (fun h => absurd (show (-1 : Int) < 0 by omega) h)
          exact (go_stop h3 _).symm
        | some p =>
          have hp : p < xs.length := by have := h2 p rfl; omega
          have hpc : p < xs.length := by omega
          have hol : out.length ≤ 100000 := by have := g2.len; omega
          simp only [bi, idx_succ (show p < xs.length from hp) (by omega), Int.toNat_natCast, Nat.zero_add]
          obtain ⟨d1, d2, d3, d4⟩ := del_row xs xs.length p (Nat.le_refl _) hp
          rw [List.take_length] at d1 d2 d3 d4
          refine Re.brd (fun h => by omega) (fun _ => ?_)
          refine Re.gdd (by omega) (Re.gdd (by omega) (Re.gdd (by simp only [List.length_singleton]; unfold maxRow; omega) (Re.gdd (by omega) (Re.gdd (by omega) (Re.gdd (by omega) (Re.gdd (by omega) (Re.gdd (by omega) (Re.gdd (by omega) ?_))))))))
          refine Re.bre (fun h => by omega) (fun _ => ?_)
          refine Re.gdd (by omega) (Re.gdd (by omega) (Re.gdd (by omega) (Re.gdd (by omega) ?_)))
          refine Re.brd (fun _ => ?_) (fun h => by omega)
          refine Re.gdd (by omega) (Re.gdd (by omega) (Re.gdd (by omega) (Re.gdd (by omega) ?_)))
          have e9 : (rd dTEvent xs p).1 = (rd dTEvent xs p).1 := by rfl
          rw [e9]
          have hdel := g2.del hpc
          have hdm := g3.del p
          rw [← d4] at hdel hdm
          refine (order_cut es hc hz s hs L hL hLl ms _ _ (out ++ [(rd dTEvent xs p).1]) (by rw [d3]; omega) (by rw [d3]; exact g1) hdel hdm).mono fun r hr => ?_
          rw [hr, d1]
          obtain ⟨f, hf⟩ : ∃ f, xs.length = f + 1 := ⟨xs.length - 1, by omega⟩
          rw [hf, go_step h3]
          have e10 : f + 1 - 1 = f := by omega
          simp only [e10]
    · simp only at hi ih ⊢
      obtain ⟨h0, h1, h2, h3, h4, h5⟩ := hi
      obtain ⟨g1, g2, g3⟩ := h0
      have hcl : xs.length = xs.length := rfl
      have hic : i < xs.length := by omega
      have hmem : rd dTEvent xs i ∈ xs := by rw [rd_at hic]; exact List.getElem_mem _
      have hA := g3 _ hmem
      have hev := g2.ev _ hmem
      have ei : rd dTEvent xs i = rd dTEvent xs i := by rfl
      have h6 : ((xs.take (i + 1)).map fun e => e.1).foldl (pickStep es s L out) none = pickStep es s L out (q.map fun p => rd dTEvent xs p) (rd dTEvent xs i).1 := by rw [map_take_succ _ hic, List.foldl_append, h3]; rfl
      have next : ∀ q2 : Option Nat, (∀ p, q2 = some p → p < i + 1) → pickStep es s L out (q.map fun p => rd dTEvent xs p) (rd dTEvent xs i).1 = (q2.map fun p => rd dTEvent xs p) → Re (fun x : Nat × Nat => l4_i_Order x.1 x.2 es s (bi q2) xs ((i + 1 : Nat) : Int) out ms) (fun r => r = orderGo es s L xs.length out) := fun q2 e1 e2 => by
        refine ih (.inr (.inl (xs, out, q2, i + 1))) ⟨⟨g1, g2, g3⟩, by omega, e1, by rw [h6, e2]⟩ (.inr ⟨rfl, ?_⟩)
        simp only; omega
      have same : cand es L out (rd dTEvent xs i).1 = false → Re (fun x : Nat × Nat => l4_i_Order x.1 x.2 es s (bi q) xs ((i + 1 : Nat) : Int) out ms) (fun r => r = orderGo es s L xs.length out) := fun hf => next q (fun p h => by have := h2 p h; omega) (by unfold pickStep; rw [hf]; rfl)
      simp only [z5_i_Order, b5_i_Order]
      rw [Int.toNat_natCast, Int.toNat_natCast, idx_succ (show i < xs.length from h1) (by omega), ei]
      refine Re.brd (fun g => ?_) (fun g => ?_)
      · have hj : j < xs.length := by omega
        have ej : rd dTEvent xs j = rd dTEvent xs j := by rfl
        rw [ej, idx_succ hj (by omega)]
        have hle := hA.len
        have hcs := hc.1
        refine Re.gdd (by omega) (Re.gdd g (Re.c2 (slices_Contains_ev _ (by omega) _) ?_))
        refine Re.brd (fun hin => ?_) (fun hin => ?_)
        · refine Re.br (fun h => by simp at h) (fun _ => same ?_)
          cases hcd : cand es L out (rd dTEvent xs i).1 with
          | false => rfl
          | true => exact absurd hin ((cand_free g2 hmem hA).1 hcd _ (by rw [rd_at (show j < xs.length by omega)]; exact List.getElem_mem _))
        · refine ih (.inr (.inr (xs, out, q, i, j + 1))) ⟨⟨g1, g2, g3⟩, h1, h2, h3, by omega, fun j2 hj2 => ?_⟩ (.inr ⟨rfl, by simp only; omega⟩)
          by_cases e : j2 = j
          · rw [e]; exact hin
          · exact h5 j2 (by omega)
      · have hcd : cand es L out (rd dTEvent xs i).1 = true := (cand_free g2 hmem hA).2 fun f hf => by
          obtain ⟨j2, hj2, rfl⟩ := List.getElem_of_mem hf
          have := h5 j2 (by omega)
          rw [rd_at hj2] at this; exact this
        have take : pickStep es s L out (q.map fun p => rd dTEvent xs p) (rd dTEvent xs i).1 = (match q with | none => some (rd dTEvent xs i) | some p => bif heavier es s (rd dTEvent xs i) (rd dTEvent xs p) then some (rd dTEvent xs i) else some (rd dTEvent xs p)) := by
          unfold pickStep
          rw [hcd, ← hev.1]
          cases q <;> rfl
        cases q with
        | none =>
          refine Re.brd (fun _ => next (some i) (fun p h => by cases h; omega) take) (fun h => absurd (show (-1 : Int) < 0 by omega) h)
        | some p =>
          have hp := h2 p rfl
          have ep : rd dTEvent xs p = rd dTEvent xs p := by rfl
          refine Re.brd (fun h => by simp only [bi] at h; omega) (fun _ => ?_)
          simp only [bi, Int.toNat_natCast]
          rw [ep]
          refine Re.gdd (by omega) (Re.gdd (by omega) (Re.c2 (i_Heavier_ev es hc hz s hs _ _) ?_))
          refine Re.br (fun hh => next (some i) (fun p h => by cases h; omega) ?_) (fun hh => next (some p) (fun p h => by cases h; omega) ?_)
          · rw [take]; simp only; rw [hh]; rfl
          · rw [take]; simp only; rw [hh]; rfl)
  intro xs out a2 a3 a4
  exact main (.inl (xs, out)) ⟨a2, a3, a4⟩
theorem i_Order_ev (es : List TEvent) (hc : CopyS es) (hz : NoZ es) (hp : ∀ y, (prevsOf es y).length ≤ 1048576) (s : List TItem) (hs : s.length ≤ 1048576) (ids : List Int) (hi : ids.length ≤ 100000) : Ev (fun k => i_Order k es s ids) (orderL es s ids) := by
  have hes := hc.1
  have hLl : (leftL es ids).length ≤ 100000 := by have := leftStep_length es ids []; unfold leftL; simp at this; omega
  obtain ⟨hLn, hLm⟩ := leftL_spec es ids
  have rounds : ∀ (left : List TEvent) (ms : List (Int × List Int)), (left.map fun e => e.1).Nodup → (∀ x, x ∈ left.map (fun e => e.1) ↔ x ∈ ids ∧ found es x) → (∀ e ∈ left, e = (findE es e.1).1 ∧ found es e.1) → left.length ≤ 100000 → MapI es ms left →
      Re (fun x : Nat × Nat => l3_i_Order x.1 x.2 es s left [] ms) (fun r => r = orderL es s ids) := fun left ms h1 h2 h3 h4 h5 => by
    have hll : left.length = (leftL es ids).length := by
      have := nodup_len h1 hLn fun x => (h2 x).trans (hLm x).symm
      simpa using this
    have := order_whole es hc hz s hs (leftL es ids) (fun x hx => ((hLm x).1 hx).2) hLl ms left [] h4 ⟨h1, fun x => by rw [h2 x, hLm x]; simp, h3, by simpa using hll⟩ h5
    rw [hll] at this
    exact this
  have maps : ∀ (left : List TEvent), (left.map fun e => e.1).Nodup → (∀ x, x ∈ left.map (fun e => e.1) ↔ x ∈ ids ∧ found es x) → (∀ e ∈ left, e = (findE es e.1).1 ∧ found es e.1) → left.length ≤ 100000 →
      Re (fun x : Nat × Nat => l2_i_Order x.1 x.2 es s left 0 []) (fun r => r = orderL es s ids) := fun left h1 h2 h3 h4 => by
    have := Re.loop (ι := Nat) (l := fun k n (st : Nat × List (Int × List Int)) => l2_i_Order k n es s left (st.1 : Int) st.2) (I := fun st => st.1 ≤ left.length ∧ ∀ j, j < st.1 → AncL es (rd dTEvent left j).1 (mgetD [] st.2 (rd dTEvent left j).1)) (fun st => left.length - st.1) (Q := fun _ r => r = orderL es s ids) (fun st hi2 ih => by
      obtain ⟨i, ms⟩ := st
      obtain ⟨g1, g2⟩ := hi2
      simp only at g1 g2 ih ⊢
      simp only [l2_i_Order, b2_i_Order]
      refine Re.brd (fun g => ?_) (fun g => ?_)
      · have hl : i < left.length := by omega
        refine Re.gdd (by omega) (Re.gdd g ?_)
        simp only [Int.toNat_natCast]
        rw [idx_succ hl (by omega)]
        refine Re.b2 (i_aheadOf_re es hc hp _) fun r hr => ?_
        refine ih (i + 1, _) ⟨by simp only; omega, fun j hj => ?_⟩ (by simp only; omega)
        rw [mgetD_mset]
        by_cases q : (rd dTEvent left j).1 = (rd dTEvent left i).1
        · rw [if_pos q, q]; exact hr
        · rw [if_neg q]
          refine g2 j ?_
          have : j ≠ i := fun e => q (by rw [e])
          simp only at hj; omega
      · refine rounds left ms h1 h2 h3 h4 fun e he => ?_
        obtain ⟨j, hj, rfl⟩ := List.getElem_of_mem he
        have := g2 j (by omega)
        rw [rd_at hj] at this; exact this) (0, []) ⟨Nat.zero_le _, fun j hj => by omega⟩
    exact this
  refine Re.eq (Re.enter (f := fun k n => l0_i_Order k n es s ids 0 []) among_nat ?_)
  have := Re.wf (l := fun k n (st : (Nat × List TEvent) ⊕ (Nat × List TEvent × Nat)) => match st with
      | .inl (i, left) => l0_i_Order k n es s ids (i : Int) left
      | .inr (i, left, j) => l1_i_Order k n left (j : Int) ids (i : Int) (findE es (rd 0 ids i)) es s)
    (I := fun st => match st with
      | .inl (i, left) => i ≤ ids.length ∧ (left.map fun e => e.1).Nodup ∧ (∀ x, x ∈ left.map (fun e => e.1) ↔ x ∈ ids.take i ∧ found es x) ∧ (∀ e ∈ left, e = (findE es e.1).1 ∧ found es e.1)
      | .inr (i, left, j) => i < ids.length ∧ (left.map fun e => e.1).Nodup ∧ (∀ x, x ∈ left.map (fun e => e.1) ↔ x ∈ ids.take i ∧ found es x) ∧ (∀ e ∈ left, e = (findE es e.1).1 ∧ found es e.1) ∧ j ≤ left.length ∧ found es (rd 0 ids i) ∧ ∀ j2, j2 < j → (rd dTEvent left j2).1 ≠ rd 0 ids i)
    (fun st => match st with
      | .inl (i, left) => (ids.length - i, left.length + 2)
      | .inr (i, left, j) => (ids.length - i, left.length - j + 1)) (Q := fun _ r => r = orderL es s ids) (fun st hi2 ih => by
    rcases st with ⟨i, left⟩ | ⟨i, left, j⟩
    · simp only at hi2 ih ⊢
      obtain ⟨h0, h1, h2, h3⟩ := hi2
      have h4 : left.length ≤ 100000 := by
        have := nodup_le (left.map fun e => e.1) (es.map fun e => e.1) h1 fun x hx => found_mem ((h2 x).1 hx).2
        simp at this; omega
      simp only [z0_i_Order, b0_i_Order]
      refine Re.brd (fun g => ?_) (fun g => ?_)
      · have hl : i < ids.length := by omega
        refine Re.gdd (by omega) (Re.gdd g ?_)
        simp only [Int.toNat_natCast]
        rw [idx_succ hl (by omega)]
        refine Re.c2 (i_Known_ev es hc _) ?_
        refine Re.br (fun hf => ?_) (fun hf => ?_)
        · exact ih (.inr (i, left, 0)) ⟨hl, h1, h2, h3, Nat.zero_le _, hf, fun j2 h => by omega⟩ (.inr ⟨rfl, by simp only; omega⟩)
        · refine ih (.inl (i + 1, left)) ⟨by omega, h1, fun x => ?_, h3⟩ (.inl (by simp only; omega))
          rw [h2 x, take_int hl, List.mem_append, List.mem_singleton]
          constructor
          · exact fun ⟨a, b⟩ => ⟨.inl a, b⟩
          · rintro ⟨a | a, b⟩
            · exact ⟨a, b⟩
            · subst a; unfold found at b; rw [hf] at b; cases b
      · rw [List.take_of_length_le (by omega)] at h2
        exact maps left h1 h2 h3 h4
    · simp only at hi2 ih ⊢
      obtain ⟨h0, h1, h2, h3, h5, h6, h7⟩ := hi2
      have h4 : left.length ≤ 100000 := by
        have := nodup_le (left.map fun e => e.1) (es.map fun e => e.1) h1 fun x hx => found_mem ((h2 x).1 hx).2
        simp at this; omega
      have tk := take_int h0
      simp only [z1_i_Order, b1_i_Order]
      rw [Int.toNat_natCast, Int.toNat_natCast, idx_succ h0 (by omega)]
      have add : rd 0 ids i ∉ left.map (fun e => e.1) → Re (fun x : Nat × Nat => gd (decide (left.length + ([(findE es (rd 0 ids i)).1] : List TEvent).length ≤ maxRow)) (l0_i_Order x.1 x.2 es s ids ((i + 1 : Nat) : Int) (left ++ ([(findE es (rd 0 ids i)).1] : List TEvent)))) (fun r => r = orderL es s ids) := fun hn => by
        refine Re.gdd (by simp only [List.length_singleton]; unfold maxRow; omega) ?_
        have hid := found_id h6
        refine ih (.inl (i + 1, left ++ [(findE es (rd 0 ids i)).1])) ⟨by omega, ?_, fun x => ?_, fun e he => ?_⟩ (.inl (by simp only; omega))
        · rw [List.map_append]
          refine List.nodup_append.2 ⟨h1, by simp, fun a ha b hb => ?_⟩
          simp [hid] at hb; subst hb
          exact fun e => hn (e ▸ ha)
        · rw [List.map_append, List.mem_append, h2 x, tk, List.mem_append, List.mem_singleton]
          simp only [List.map_cons, List.map_nil, List.mem_singleton, hid]
          constructor
          · rintro (⟨a, b⟩ | a)
            · exact ⟨.inl a, b⟩
            · exact ⟨.inr a, by rw [a]; exact h6⟩
          · rintro ⟨a | a, b⟩
            · exact .inl ⟨a, b⟩
            · exact .inr a
        · rcases List.mem_append.1 he with q | q
          · exact h3 e q
          · simp at q; subst q
            rw [hid]; exact ⟨rfl, h6⟩
      refine Re.brd (fun g => ?_) (fun g => ?_)
      · have hj : j < left.length := by omega
        rw [idx_succ hj (by omega)]
        refine Re.gdd (by omega) (Re.gdd g ?_)
        refine Re.bre (fun q => ?_) (fun q => ?_)
        · refine Re.br (fun h => by simp at h) (fun _ => ?_)
          refine ih (.inl (i + 1, left)) ⟨by omega, h1, fun x => ?_, h3⟩ (.inl (by simp only; omega))
          rw [h2 x, tk, List.mem_append, List.mem_singleton]
          constructor
          · exact fun ⟨a, b⟩ => ⟨.inl a, b⟩
          · rintro ⟨a | a, b⟩
            · exact ⟨a, b⟩
            · refine (h2 x).1 ?_
              rw [a, ← q, rd_at hj]
              exact List.mem_map_of_mem (List.getElem_mem hj)
        · refine ih (.inr (i, left, j + 1)) ⟨h0, h1, h2, h3, by omega, h6, fun j2 hj2 => ?_⟩ (.inr ⟨rfl, by simp only; omega⟩)
          by_cases e : j2 = j
          · rw [e]; exact q
          · exact h7 j2 (by omega)
      · refine add fun hm => ?_
        obtain ⟨e, he, h8⟩ := List.mem_map.1 hm
        obtain ⟨j2, hj2, rfl⟩ := List.getElem_of_mem he
        exact h7 j2 (by omega) (by rw [rd_at hj2]; exact h8)) (.inl (0, [])) ⟨Nat.zero_le _, by simp, fun x => by simp, fun e he => by simp at he⟩
  exact this
end Go.Vm
