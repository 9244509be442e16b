/- Plain laws. -/
import Derived.Test.YtgkcajcpnlkdfaaDI2
import Derived.Test.YtgkcajcpnlkdfaaBI2
set_option linter.unusedVariables false
set_option linter.unusedSimpArgs false
namespace Go.Vm
open Go
/-! ### Ascending rows -/
def Asc (xs : List Int) : Prop := xs.Pairwise (· < ·)
theorem addGo_asc (y : Int) : ∀ (xs : List Int) (d : Bool), Asc xs → Asc (addGo y xs d)
  | [], d, _ => by cases d <;> simp [addGo, Asc]
  | x :: xs, d, h => by
    have hx := List.pairwise_cons.1 h
    have h1 := addGo_asc y xs true hx.2
    have h2 := addGo_asc y xs d hx.2
    unfold addGo
    by_cases q : x ≥ y ∧ d = false
    · rw [if_pos q]
      have hy : ∀ z ∈ addGo y xs true, x < z := fun z hz => by
        rw [addGo_mem] at hz; simp at hz; exact hx.1 z hz.1
      by_cases q2 : x = y
      · rw [if_pos q2]; exact List.pairwise_cons.2 ⟨fun z hz => by have := hy z hz; omega, h1⟩
      · rw [if_neg q2]
        refine List.pairwise_cons.2 ⟨fun z hz => ?_, List.pairwise_cons.2 ⟨hy, h1⟩⟩
        rcases List.mem_cons.1 hz with e | e
        · omega
        · have := hy z e; omega
    · rw [if_neg q]
      by_cases q2 : x = y
      · rw [if_pos q2]; exact h2
      · rw [if_neg q2]
        refine List.pairwise_cons.2 ⟨fun z hz => ?_, h2⟩
        rw [addGo_mem] at hz
        rcases hz with hz | hz
        · exact hx.1 z hz.1
        · have : ¬ x ≥ y := fun g => q ⟨g, hz.1⟩
          omega
theorem asc_ext : ∀ {a b : List Int}, Asc a → Asc b → (∀ x, x ∈ a ↔ x ∈ b) → a = b
  | [], [], _, _, _ => rfl
  | [], y :: b, _, _, h => by have := (h y).2 (List.mem_cons_self ..); simp at this
  | x :: a, [], _, _, h => by have := (h x).1 (List.mem_cons_self ..); simp at this
  | x :: a, y :: b, ha, hb, h => by
    have h1 := List.pairwise_cons.1 ha
    have h2 := List.pairwise_cons.1 hb
    have e : x = y := by
      rcases List.mem_cons.1 ((h x).1 (List.mem_cons_self ..)) with q | q
      · exact q
      · rcases List.mem_cons.1 ((h y).2 (List.mem_cons_self ..)) with q2 | q2
        · exact q2.symm
        · have := h2.1 x q
          have := h1.1 y q2
          omega
    subst e
    rw [asc_ext h1.2 h2.2 fun z => ⟨fun hz => by
      rcases List.mem_cons.1 ((h z).1 (List.mem_cons_of_mem _ hz)) with q | q
      · have := h1.1 z hz; omega
      · exact q, fun hz => by
      rcases List.mem_cons.1 ((h z).2 (List.mem_cons_of_mem _ hz)) with q | q
      · have := h2.1 z hz; omega
      · exact q⟩]
/-! ### What an order bears -/
structure OrdI (es : List TEvent) (L out : List Int) : Prop where
  nd : out.Nodup
  sub : ∀ x ∈ out, x ∈ L
  ah : ∀ i, i < out.length → ∀ y, Anc es (rd 0 out i) y → y ∈ L → y ∈ out.take i
theorem OrdI.add {es : List TEvent} {L out : List Int} (h : OrdI es L out) {x : Int} (hx : x ∈ L) (hc : cand es L out x = true) : OrdI es L (out ++ [x]) := by
  refine ⟨List.nodup_append.2 ⟨h.nd, by simp, fun a ha b hb => by simp at hb; subst hb; exact fun e => cand_out hc (e ▸ ha)⟩, fun y hy => ?_, fun i hi y hy hl => ?_⟩
  · rcases List.mem_append.1 hy with hy | hy
    · exact h.sub y hy
    · simp at hy; subst hy; exact hx
  · rw [rd_snocL] at hy
    by_cases q : i < out.length
    · rw [if_pos q] at hy
      rw [List.take_append_of_le_length (by omega)]
      exact h.ah i q y hy hl
    · have e : i = out.length := by simp at hi; omega
      rw [if_neg q, if_pos e] at hy
      rw [e, List.take_append_of_le_length (Nat.le_refl _), List.take_length]
      unfold cand readyP at hc
      rw [Bool.and_eq_true, @decide_eq_true_iff _ (Classical.propDecidable _)] at hc
      exact hc.2 y hy hl
theorem pick_some {es : List TEvent} {s : List TItem} {L out : List Int} (hL : ∀ x ∈ L, found es x) {b : TEvent} (h : pick es s L out = some b) : b.1 ∈ L ∧ cand es L out b.1 = true := by
  have := pick_spec es s L out L hL
  unfold pick at h
  rw [h] at this
  obtain ⟨x, hx, rfl, _⟩ := this
  rw [found_id (hL x hx.1)]
  exact hx
theorem orderGo_ord {es : List TEvent} {s : List TItem} {L : List Int} (hL : ∀ x ∈ L, found es x) : ∀ (f : Nat) (out : List Int), OrdI es L out → OrdI es L (orderGo es s L f out)
  | 0, out, h => h
  | f + 1, out, h => by
    unfold orderGo
    cases hp : pick es s L out with
    | none => exact h
    | some b =>
      obtain ⟨h1, h2⟩ := pick_some hL hp
      exact orderGo_ord hL f _ (h.add h1 h2)
theorem orderL_ord (es : List TEvent) (s : List TItem) (ids : List Int) : OrdI es (leftL es ids) (orderL es s ids) :=
  orderGo_ord (fun x hx => ((leftL_spec es ids).2 x |>.1 hx).2) _ _ ⟨by simp, fun x hx => by simp at hx, fun i hi => by simp at hi⟩
/-! ### Rooms: what is ahead stands ahead -/
def PrevI (es : List TEvent) : Prop := ∀ i, i < es.length → ∀ p ∈ (rd dTEvent es i).2.2.2.2.2.2.2.1, ∃ j, j < i ∧ (rd dTEvent es j).1 = p
theorem addR_true {r : TRoom} {e : TEvent} (h : (addR r e).2 = true) : (beforeL r e.2.2.2.2.2.2.2.1).2 = true ∧ eventOk e = true ∧ hasE r.1 e.1 < 0 ∧ e.2.2.2.2.2.2.2.2.1 = depthOf r.1 e.2.2.2.2.2.2.2.1 ∧ r.1.length < 40 ∧
    (addR r e).1 = (r.1 ++ [e], r.2.1 ++ [bif allowed r.1 (beforeL r e.2.2.2.2.2.2.2.1).1 e && keyOf e != 0 then putS (beforeL r e.2.2.2.2.2.2.2.1).1 (keyOf e) e.1 else (beforeL r e.2.2.2.2.2.2.2.1).1], r.2.2.1 ++ [allowed r.1 (beforeL r e.2.2.2.2.2.2.2.1).1 e], ()) := by
  unfold addR at h ⊢
  cases hq : (beforeL r e.2.2.2.2.2.2.2.1).2 && (eventOk e && (decide (hasE r.1 e.1 < 0) && (decide (e.2.2.2.2.2.2.2.2.1 = depthOf r.1 e.2.2.2.2.2.2.2.1) && decide (r.1.length < 40)))) with
  | false => rw [hq] at h; cases h
  | true =>
    simp only [Bool.and_eq_true, decide_eq_true_eq] at hq
    exact ⟨hq.1, hq.2.1, hq.2.2.1, hq.2.2.2.1, hq.2.2.2.2, rfl⟩
theorem before_known {r : TRoom} {prev : List Int} (h : (beforeL r prev).2 = true) : ∀ p ∈ prev, 0 ≤ hasE r.1 p ∧ hasE r.1 p < r.2.1.length := by
  unfold beforeL at h
  cases hq : prev.all (beforeOk r) with
  | false => rw [hq] at h; cases h
  | true => exact fun p hp => of_decide_eq_true (List.all_eq_true.1 hq p hp)
theorem has_at {es : List TEvent} {p : Int} (h : 0 ≤ hasE es p) : ∃ j, j < es.length ∧ hasE es p = (j : Int) ∧ (rd dTEvent es j).1 = p := by
  rcases hasE_spec es p with ⟨e, _⟩ | ⟨i, hi, e, e2, _⟩
  · omega
  · exact ⟨i, hi, e, e2⟩
theorem Built.prev {r : TRoom} (h : Built r) : PrevI r.1 := by
  induction h with
  | nil => exact fun i hi => by simp at hi
  | @add r e hb hp ho ih =>
    obtain ⟨h1, _, _, _, _, h6⟩ := addR_true ho
    rw [h6]
    intro i hi p hpm
    simp only at hi hpm ⊢
    rw [rd_snocL] at hpm
    by_cases q : i < r.1.length
    · rw [if_pos q] at hpm
      obtain ⟨j, hj, e2⟩ := ih i q p hpm
      exact ⟨j, hj, by rw [rd_snocL, if_pos (by omega)]; exact e2⟩
    · have e3 : i = r.1.length := by simp at hi; omega
      rw [if_neg q, if_pos e3] at hpm
      obtain ⟨j, hj, _, e2⟩ := has_at (before_known h1 p hpm).1
      exact ⟨j, by omega, by rw [rd_snocL, if_pos hj]; exact e2⟩
theorem RoomI.anc {r : TRoom} (h : RoomI r) {i : Nat} (hi : i < r.1.length) {y : Int} (ha : Anc r.1 (rd dTEvent r.1 i).1 y) : ∃ j, j < i ∧ y = (rd dTEvent r.1 j).1 := by
  have hp := h.bt.prev
  have one : ∀ i, i < r.1.length → ∀ x ∈ prevsOf r.1 (rd dTEvent r.1 i).1, ∃ j, j < i ∧ x = (rd dTEvent r.1 j).1 := fun i hi x hx => by
    unfold prevsOf at hx
    rw [findE_at h hi] at hx
    obtain ⟨j, hj, e⟩ := hp i hi x hx
    exact ⟨j, hj, e.symm⟩
  induction ha with
  | one h1 _ => exact one i hi _ h1
  | more _ h1 _ ih =>
    obtain ⟨j, hj, rfl⟩ := ih
    obtain ⟨j2, hj2, e⟩ := one j (by omega) _ h1
    exact ⟨j2, by omega, e⟩
theorem RoomI.found_at {r : TRoom} (h : RoomI r) {x : Int} (hf : found r.1 x) : ∃ i, i < r.1.length ∧ x = (rd dTEvent r.1 i).1 := by
  obtain ⟨e, he, rfl⟩ := List.mem_map.1 (found_mem hf)
  obtain ⟨i, hi, rfl⟩ := List.getElem_of_mem he
  exact ⟨i, hi, by rw [rd_at hi]⟩
theorem RoomI.cand {r : TRoom} (h : RoomI r) {L : List Int} (hL : ∀ x ∈ L, found r.1 x) (out : List Int) (hx : ∃ x ∈ L, x ∉ out) : ∃ x ∈ L, Vm.cand r.1 L out x = true := by
  have main : ∀ (i : Nat), i < r.1.length → (rd dTEvent r.1 i).1 ∈ L → (rd dTEvent r.1 i).1 ∉ out → ∃ x ∈ L, Vm.cand r.1 L out x = true := by
    intro i
    induction i using Nat.strongRecOn with
    | _ i ih =>
      intro hi hl ho
      cases hc : Vm.cand r.1 L out (rd dTEvent r.1 i).1 with
      | true => exact ⟨_, hl, hc⟩
      | false =>
        unfold Vm.cand readyP at hc
        rw [decide_eq_false ho] at hc
        simp only [Bool.not_false, Bool.true_and] at hc
        have := @of_decide_eq_false _ (Classical.propDecidable _) hc
        obtain ⟨y, hy⟩ := Classical.not_forall.1 this
        obtain ⟨h1, hy2⟩ := Classical.not_imp.1 hy
        obtain ⟨h2, h3⟩ := Classical.not_imp.1 hy2
        obtain ⟨j, hj, rfl⟩ := h.anc hi h1
        exact ih j hj (by omega) h2 h3
  obtain ⟨x, h1, h2⟩ := hx
  obtain ⟨i, hi, rfl⟩ := h.found_at (hL x h1)
  exact main i hi h1 h2
theorem s_Known_ev (es : List TEvent) (h : CopyS es) (id : Int) : Ev (fun k => s_Known k es id) (findE es id) := by
  refine Re.eq (Re.c1 (s_find_ev es (by have := h.1; omega) _) (Re.s1 (v := (findE es id).1) (fun k => ?_) (Re.ret rfl)))
  rcases findE_cases es id with e | ⟨e, he, e2, _⟩
  · rw [e]; exact s_l09Copy_eq k _ (Nat.zero_le _) (Nat.zero_le _)
  · rw [e2]
    obtain ⟨i, hi, rfl⟩ := List.getElem_of_mem he
    have := h.2 i hi
    rw [rd_at hi] at this
    exact s_l09Copy_eq k _ this.1 this.2
end Go.Vm
