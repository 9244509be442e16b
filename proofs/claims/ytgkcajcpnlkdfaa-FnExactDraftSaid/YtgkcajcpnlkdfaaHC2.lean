/- Plain laws. -/
import Derived.Test.YtgkcajcpnlkdfaaHB2
set_option linter.unusedVariables false
set_option linter.unusedSimpArgs false
namespace Go.Vm
open Go
/-! ### States of rooms -/
def ItemOk (es : List TEvent) (x : TItem) : Prop := found es x.2.1 ∧ keyOf (findE es x.2.1).1 = x.1
/-- A right state of a room's events. -/
def StI (es : List TEvent) (s : List TItem) : Prop := StP s ∧ ∀ x ∈ s, ItemOk es x
theorem stP_nil : StP [] := ⟨Nat.zero_le _, fun i hi => by simp at hi⟩
theorem keyOk_iff {k : Int} : keyOk k = true ↔ (1 ≤ k ∧ k ≤ 3) ∨ (11 ≤ k ∧ k ≤ 15) := by
  unfold keyOk
  rw [Bool.or_eq_true, inR_iff, inR_iff]
theorem keys_eight {ks : List Int} (h : ks.Nodup) (hk : ∀ k ∈ ks, keyOk k = true) : ks.length ≤ 8 := by
  have := nodup_le ks [1, 2, 3, 11, 12, 13, 14, 15] h fun k hm => by
    have := keyOk_iff.1 (hk k hm)
    simp; omega
  simpa using this
theorem asc_nodup {xs : List Int} (h : Asc xs) : xs.Nodup := h.imp fun h => by omega
/-- A state out of its items: keys that ascend. -/
theorem stP_of {s : List TItem} (h1 : Asc (s.map fun x => x.1)) (h2 : ∀ x ∈ s, keyOk x.1 = true ∧ (1 ≤ x.2.1 ∧ x.2.1 ≤ 1000000)) : StP s := by
  have hl : s.length ≤ 8 := by
    have := keys_eight (asc_nodup h1) fun k hk => by
      obtain ⟨x, hx, rfl⟩ := List.mem_map.1 hk
      exact (h2 x hx).1
    simpa using this
  refine ⟨hl, fun i hi => ?_⟩
  have hm : rd dTItem s i ∈ s := by rw [rd_at hi]; exact List.getElem_mem _
  refine ⟨(h2 _ hm).1, (h2 _ hm).2, fun h0 => ?_⟩
  have := List.pairwise_iff_getElem.1 h1 (i - 1) i (by simp; omega) (by simp; omega) (by omega)
  rw [List.getElem_map, List.getElem_map] at this
  rw [rd_at hi, rd_at (show i - 1 < s.length by omega)]
  exact this
theorem StP.keys {s : List TItem} (h : StP s) : Asc (s.map fun x => x.1) := by
  unfold Asc
  rw [List.pairwise_iff_getElem]
  intro i j hi hj hij
  rw [List.getElem_map, List.getElem_map]
  have hj2 : j < s.length := by simpa using hj
  have := h.asc i j hij hj2
  rwa [rd_at hj2, rd_at (show i < s.length by omega)] at this
theorem StP.item {s : List TItem} (h : StP s) {x : TItem} (hx : x ∈ s) : keyOk x.1 = true ∧ (1 ≤ x.2.1 ∧ x.2.1 ≤ 1000000) := by
  obtain ⟨i, hi, rfl⟩ := List.getElem_of_mem hx
  have := h.2 i hi
  rw [rd_at hi] at this
  exact ⟨this.1, this.2.1⟩
theorem atS_mem {s : List TItem} (h : StP s) {x : TItem} (hx : x ∈ s) : atS s x.1 = x.2.1 := by
  unfold atS
  cases hf : s.find? fun y => y.1 == x.1 with
  | none =>
    rw [List.find?_eq_none] at hf
    exact absurd (by simp) (hf x hx)
  | some y =>
    have h1 : y.1 = x.1 := by simpa using List.find?_some hf
    obtain ⟨i, hi, rfl⟩ := List.getElem_of_mem (List.mem_of_find?_eq_some hf)
    obtain ⟨j, hj, rfl⟩ := List.getElem_of_mem hx
    rw [← rd_at (z := dTItem) hi, ← rd_at (z := dTItem) hj] at h1
    rw [← rd_at (z := dTItem) hj]
    have : i = j := by
      rcases Nat.lt_trichotomy i j with q | q | q
      · have := h.asc i j q hj; omega
      · exact q
      · have := h.asc j i q hi; omega
    subst this
    rw [rd_at hi]; rfl
theorem key_at {s : List TItem} (h : StP s) {k : Int} (hk : ∃ x ∈ s, x.1 = k) : (k, atS s k, ()) ∈ s := by
  obtain ⟨x, hx, rfl⟩ := hk
  rw [atS_mem h hx]; exact hx
theorem rd_mem {α : Type} {d : α} {xs : List α} (h : 0 < xs.length) : rd d xs 0 ∈ xs := by rw [rd_at h]; exact List.getElem_mem _
theorem agreed_item {ss : List (List TItem)} (h : ∀ s ∈ ss, StP s) {x : TItem} (hx : x ∈ agreedL ss) : ∃ s ∈ ss, x ∈ s := by
  unfold agreedL at hx
  obtain ⟨k, hk, rfl⟩ := List.mem_map.1 hx
  rw [List.mem_filter] at hk
  obtain ⟨_, hk2⟩ := ((keysL_spec ss).2 k).1 hk.1
  obtain ⟨s, hs, hx2⟩ := hasK_iff.1 hk2
  have h1 := key_at (h s hs) hx2
  rw [alike_iff.1 hk.2 s hs] at h1
  exact ⟨s, hs, h1⟩
theorem asc_filter {xs : List Int} (h : Asc xs) (p : Int → Bool) : Asc (xs.filter p) := List.Pairwise.filter p h
theorem agreed_st {es : List TEvent} {ss : List (List TItem)} (h : ∀ s ∈ ss, StI es s) : StI es (agreedL ss) := by
  have hit := fun x hx => agreed_item (fun s hs => (h s hs).1) (x := x) hx
  refine ⟨stP_of ?_ fun x hx => ?_, fun x hx => ?_⟩
  · have : (agreedL ss).map (fun x => x.1) = (keysL ss).filter (alike ss) := by
      unfold agreedL
      rw [List.map_map]
      exact List.map_id _
    rw [this]
    exact asc_filter (keysL_spec ss).1 _
  · obtain ⟨s, hs, hm⟩ := hit x hx
    exact (h s hs).1.item hm
  · obtain ⟨s, hs, hm⟩ := hit x hx
    exact (h s hs).2 x hm
theorem putS_mem {s : List TItem} {key id : Int} {x : TItem} (hx : x ∈ putS s key id) : x = (key, id, ()) ∨ (x ∈ s) := by
  unfold putS at hx
  cases hq : stateOk s && stateOk (putOut s key id) with
  | false => rw [hq] at hx; exact .inr hx
  | true =>
    rw [hq] at hx
    simp only [cond_true] at hx
    unfold putOut at hx
    rw [List.mem_append, List.mem_append, List.mem_filter, List.mem_filter, List.mem_singleton] at hx
    rcases hx with (h | h) | h
    · exact .inr h.1
    · exact .inl h
    · exact .inr h.1
theorem putS_st {es : List TEvent} {s : List TItem} (h : StI es s) {key id : Int} (hi : ItemOk es (key, id, ())) : StI es (putS s key id) := by
  refine ⟨?_, fun x hx => ?_⟩
  · unfold putS
    cases hq : stateOk s && stateOk (putOut s key id) with
    | false => exact h.1
    | true =>
      simp only [Bool.and_eq_true] at hq
      exact stateOk_iff.1 hq.2
  · rcases putS_mem hx with e | e
    · rw [e]; exact hi
    · exact h.2 x e
theorem resStep_st {es : List TEvent} {now : List TItem} (h : StI es now) {x : Int} (hf : found es x) : StI es (resStep es now x) := by
  unfold resStep
  cases allowed es now (findE es x).1 && keyOf (findE es x).1 != 0 with
  | false => exact h
  | true =>
    refine putS_st h ?_
    rw [found_id hf]
    exact ⟨hf, rfl⟩
theorem resFold_st {es : List TEvent} : ∀ (xs : List Int) {now : List TItem}, StI es now → (∀ x ∈ xs, found es x) → StI es (xs.foldl (resStep es) now)
  | [], _, h, _ => h
  | x :: xs, _, h, hf => resFold_st xs (resStep_st h (hf x (List.mem_cons_self ..))) fun y hy => hf y (List.mem_cons_of_mem _ hy)
theorem orderL_found (es : List TEvent) (s : List TItem) (ids : List Int) : ∀ x ∈ orderL es s ids, found es x ∧ x ∈ ids := fun x hx => by
  have := ((leftL_spec es ids).2 x).1 ((orderL_ord es s ids).sub x hx)
  exact ⟨this.2, this.1⟩
theorem resolve_st {es : List TEvent} {ss : List (List TItem)} (h : ∀ s ∈ ss, StI es s) : StI es (resolveL es ss) := by
  unfold resolveL
  split
  · exact ⟨stP_nil, fun x hx => by simp at hx⟩
  · split
    · rename_i h1 h2
      exact h _ (rd_mem (by omega))
    · exact resFold_st _ (agreed_st h) fun x hx => (orderL_found es _ _ x hx).1
theorem findE_snoc {es : List TEvent} {e : TEvent} {x : Int} (h : found es x) : findE (es ++ [e]) x = findE es x := by
  unfold found findE at h
  unfold findE
  rw [List.find?_append]
  cases hf : es.find? fun y => y.1 == x with
  | none => rw [hf] at h; cases h
  | some y => rfl
theorem findE_new {es : List TEvent} {e : TEvent} (h : hasE es e.1 < 0) : findE (es ++ [e]) e.1 = (e, true) := by
  rcases hasE_spec es e.1 with ⟨_, hn⟩ | ⟨i, _, e2, _⟩
  · unfold findE
    rw [List.find?_append, List.find?_eq_none.2 fun y hy => by simp; exact hn y hy]
    simp
  · omega
theorem StI.snoc {es : List TEvent} {s : List TItem} (h : StI es s) (e : TEvent) : StI (es ++ [e]) s := ⟨h.1, fun x hx => by
  obtain ⟨a, b⟩ := h.2 x hx
  have := findE_snoc (e := e) a
  exact ⟨by unfold found; rw [this]; exact a, by rw [this]; exact b⟩⟩
theorem before_st {r : TRoom} (h : ∀ s ∈ r.2.1, StI r.1 s) (prev : List Int) : StI r.1 (beforeL r prev).1 := by
  unfold beforeL
  cases hq : prev.all (beforeOk r) with
  | false => exact ⟨stP_nil, fun x hx => by simp at hx⟩
  | true =>
    refine resolve_st fun s hs => ?_
    obtain ⟨p, hp, rfl⟩ := List.mem_map.1 hs
    have := of_decide_eq_true (List.all_eq_true.1 hq p hp)
    refine h _ ?_
    rw [rd_at (show (hasE r.1 p).toNat < r.2.1.length by omega)]
    exact List.getElem_mem _
theorem Built.st {r : TRoom} (h : Built r) : ∀ s ∈ r.2.1, StI r.1 s := by
  induction h with
  | nil => exact fun s hs => by simp at hs
  | @add r e hb hp ho ih =>
    obtain ⟨_, _, h3, _, _, h6⟩ := addR_true ho
    rw [h6]
    intro s hs
    simp only at hs ⊢
    rcases List.mem_append.1 hs with hs | hs
    · exact (ih s hs).snoc e
    · rw [List.mem_singleton] at hs
      have hbs := (before_st ih e.2.2.2.2.2.2.2.1).snoc e
      rw [hs]
      cases allowed r.1 (beforeL r e.2.2.2.2.2.2.2.1).1 e && keyOf e != 0 with
      | false => exact hbs
      | true =>
        refine putS_st hbs ?_
        have := findE_new h3
        exact ⟨by unfold found; rw [this], by rw [this]⟩
/-! ### The same states, in another order -/
end Go.Vm
