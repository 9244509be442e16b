/- Plain laws. -/
import Derived.Test.YtbekdoadbkibdaaGreatJB4
set_option linter.unusedVariables false
set_option linter.unusedSimpArgs false
namespace Go.Vm
open Go
/-! ### A part of a room's events -/
theorem foldl_same {α β : Type} {f g : β → α → β} : ∀ (xs : List α) (a : β), (∀ x ∈ xs, ∀ b, f b x = g b x) → xs.foldl f a = xs.foldl g a
  | [], _, _ => rfl
  | x :: xs, a, h => by
    rw [List.foldl_cons, List.foldl_cons, h x (List.mem_cons_self ..)]
    exact foldl_same xs _ fun y hy => h y (List.mem_cons_of_mem _ hy)
structure Part (es2 es : List TEvent) : Prop where
  sub : ∀ x, found es2 x → findE es2 x = findE es x
  cl : ∀ x, found es2 x → ∀ p ∈ prevsOf es2 x, found es p → found es2 p
  zero : findE es2 0 = findE es 0
theorem Part.found {es2 es : List TEvent} (h : Part es2 es) {x : Int} (hx : found es2 x) : Vm.found es x := by
  have := h.sub x hx
  unfold Vm.found at hx ⊢
  rw [← this]; exact hx
theorem Part.at {es2 es : List TEvent} (h : Part es2 es) {s : List TItem} (hs : StI es2 s) (k : Int) : findE es2 (atS s k) = findE es (atS s k) := by
  by_cases q : atS s k = 0
  · rw [q]; exact h.zero
  · exact h.sub _ (hs.2 _ (atS_item q)).1
theorem Part.created {es2 es : List TEvent} (h : Part es2 es) {s : List TItem} (hs : StI es2 s) (u : Int) : Vm.created es2 s u = Vm.created es s u := by
  unfold Vm.created; simp only [h.at hs]
theorem Part.level {es2 es : List TEvent} (h : Part es2 es) {s : List TItem} (hs : StI es2 s) (u : Int) : Vm.level es2 s u = Vm.level es s u := by
  unfold Vm.level; simp only [h.at hs, h.created hs]
theorem Part.member {es2 es : List TEvent} (h : Part es2 es) {s : List TItem} (hs : StI es2 s) (u : Int) : Vm.member es2 s u = Vm.member es s u := by
  unfold Vm.member; simp only [h.at hs]
theorem Part.allowed {es2 es : List TEvent} (h : Part es2 es) {s : List TItem} (hs : StI es2 s) (e : TEvent) : Vm.allowed es2 s e = Vm.allowed es s e := by
  have hp : powerAt es2 s e = powerAt es s e := by
    funext i; unfold powerAt; simp only [h.level hs]
  unfold Vm.allowed memberOk powerOk selfOk otherOk
  simp only [h.at hs, h.level hs, h.member hs, hp]
theorem Part.heavier {es2 es : List TEvent} (h : Part es2 es) {s : List TItem} (hs : StI es2 s) (a b : TEvent) : Vm.heavier es2 s a b = Vm.heavier es s a b := by
  unfold Vm.heavier; simp only [h.level hs]
theorem Part.prevs {es2 es : List TEvent} (h : Part es2 es) {x : Int} (hx : Vm.found es2 x) : prevsOf es2 x = prevsOf es x := by
  unfold prevsOf; rw [h.sub x hx]
theorem Part.anc {es2 es : List TEvent} (h : Part es2 es) {x : Int} (hx : Vm.found es2 x) (y : Int) : Anc es2 x y ↔ Anc es x y := by
  constructor
  · intro ha
    induction ha with
    | one h1 h2 => exact .one (by rw [← h.prevs hx]; exact h1) (h.found h2)
    | more h1 h2 h3 ih => exact .more ih (by rw [← h.prevs h1.found]; exact h2) (h.found h3)
  · intro ha
    suffices hq : Anc es2 x y ∧ Vm.found es2 y from hq.1
    induction ha with
    | @one z h1 h2 =>
      have h3 : z ∈ prevsOf es2 x := by rw [h.prevs hx]; exact h1
      have h4 := h.cl x hx z h3 h2
      exact ⟨.one h3 h4, h4⟩
    | @more z w h1 h2 h3 ih =>
      have h4 : z ∈ prevsOf es2 w := by rw [h.prevs ih.2]; exact h2
      have h5 := h.cl w ih.2 z h4 h3
      exact ⟨.more ih.1 h4 h5, h5⟩
theorem Part.cand {es2 es : List TEvent} (h : Part es2 es) (L out : List Int) {x : Int} (hx : Vm.found es2 x) : Vm.cand es2 L out x = Vm.cand es L out x := by
  have : readyP es2 L out x = readyP es L out x := by
    unfold readyP
    exact (@decide_eq_decide _ _ (Classical.propDecidable _) (Classical.propDecidable _)).2 (forall_congr' fun y => by rw [h.anc hx])
  unfold Vm.cand
  rw [this]
theorem Part.pick {es2 es : List TEvent} (h : Part es2 es) {s : List TItem} (hs : StI es2 s) {L : List Int} (hL : ∀ x ∈ L, Vm.found es2 x) (out : List Int) : Vm.pick es2 s L out = Vm.pick es s L out := by
  unfold Vm.pick
  refine foldl_same L none fun x hx b => ?_
  unfold pickStep
  rw [h.cand L out (hL x hx), h.sub x (hL x hx)]
  cases b with
  | none => rfl
  | some b0 => simp only [h.heavier hs]
theorem Part.orderGo {es2 es : List TEvent} (h : Part es2 es) {s : List TItem} (hs : StI es2 s) {L : List Int} (hL : ∀ x ∈ L, Vm.found es2 x) : ∀ (f : Nat) (out : List Int), Vm.orderGo es2 s L f out = Vm.orderGo es s L f out
  | 0, _ => rfl
  | f + 1, out => by
    unfold Vm.orderGo
    rw [h.pick hs hL]
    cases Vm.pick es s L out with
    | none => rfl
    | some b => exact h.orderGo hs hL f _
theorem Part.orderL {es2 es : List TEvent} (h : Part es2 es) {s : List TItem} (hs : StI es2 s) {ids : List Int} (hi : ∀ x ∈ ids, Vm.found es2 x) : Vm.orderL es2 s ids = Vm.orderL es s ids := by
  have hl : leftL es2 ids = leftL es ids := by
    unfold leftL
    refine foldl_same ids [] fun x hx b => ?_
    unfold leftStep
    rw [h.sub x (hi x hx)]
  unfold Vm.orderL
  rw [hl]
  exact h.orderGo hs (fun x hx => hi x (((leftL_spec es ids).2 x).1 hx).1) _ _
theorem Part.fold {es2 es : List TEvent} (h : Part es2 es) : ∀ (xs : List Int) {now : List TItem}, StI es2 now → (∀ x ∈ xs, Vm.found es2 x) → xs.foldl (resStep es2) now = xs.foldl (resStep es) now
  | [], _, _, _ => rfl
  | x :: xs, now, hs, hx => by
    have hf := hx x (List.mem_cons_self ..)
    have e : resStep es2 now x = resStep es now x := by
      unfold resStep
      rw [h.sub x hf, h.allowed hs]
    have hst := resStep_st hs hf
    rw [List.foldl_cons, List.foldl_cons, ← e]
    exact h.fold xs hst fun y hy => hx y (List.mem_cons_of_mem _ hy)
theorem Part.resolveL {es2 es : List TEvent} (h : Part es2 es) {ss : List (List TItem)} (hs : ∀ s ∈ ss, StI es2 s) : Vm.resolveL es2 ss = Vm.resolveL es ss := by
  have hids : ∀ x ∈ idsL ss (clashL ss), Vm.found es2 x := fun x hx => by
    obtain ⟨hn, s, hm, k, _, e⟩ := idsL_mem.1 hx
    subst e
    exact ((hs s hm).2 _ (atS_item hn)).1
  have hag := agreed_st hs
  unfold Vm.resolveL
  split
  · rfl
  · split
    · rfl
    · rw [← h.orderL hag hids]
      exact h.fold _ hag fun x hx => (orderL_found es2 _ _ x hx).1
/-! ### A part of a room -/
structure Sub (n r : TRoom) : Prop where
  at_ : ∀ i, i < n.1.length → ∃ k, k < r.1.length ∧ rd dTEvent n.1 i = rd dTEvent r.1 k ∧ rd [] n.2.1 i = rd [] r.2.1 k ∧ rd false n.2.2.1 i = rd false r.2.2.1 k
theorem RoomI.zero {r : TRoom} (h : RoomI r) : findE r.1 0 = (noEv, false) := by
  rcases findE_cases r.1 0 with e | ⟨e, he, _, h0⟩
  · exact e
  · exact absurd h0 (h.noZ e he)
theorem RoomI.has {r : TRoom} (h : RoomI r) {k : Nat} (hk : k < r.1.length) : hasE r.1 (rd dTEvent r.1 k).1 = (k : Int) := by
  rcases hasE_spec r.1 (rd dTEvent r.1 k).1 with ⟨_, hn⟩ | ⟨i, hi, e, e2, _⟩
  · exact absurd rfl (hn _ (by rw [rd_at hk]; exact List.getElem_mem _))
  · rw [e]
    rcases Nat.lt_trichotomy i k with q | q | q
    · exact absurd e2 (h.ids i k q hk)
    · rw [q]
    · exact absurd e2.symm (h.ids k i q hi)
theorem Sub.part {n r : TRoom} (h : Sub n r) (hn : RoomI n) (hr : RoomI r) : Part n.1 r.1 := by
  have hsub : ∀ x, found n.1 x → findE n.1 x = findE r.1 x := fun x hx => by
    obtain ⟨i, hi, rfl⟩ := hn.found_at hx
    obtain ⟨k, hk, e, _, _⟩ := h.at_ i hi
    rw [findE_at hn hi, e, findE_at hr hk]
  refine ⟨hsub, fun x hx p hp hf => ?_, by rw [hn.zero, hr.zero]⟩
  obtain ⟨i, hi, rfl⟩ := hn.found_at hx
  unfold prevsOf at hp
  rw [findE_at hn hi] at hp
  obtain ⟨j, hj, e⟩ := hn.bt.prev i hi p hp
  rw [← e]; exact hn.at_found (by omega)
theorem found_has {es : List TEvent} {p : Int} (h : found es p) : 0 ≤ hasE es p := by
  unfold found at h
  rw [hasE_find] at h
  by_cases q : hasE es p ≥ 0
  · exact q
  · rw [if_neg q] at h; cases h
theorem has_found {es : List TEvent} {p : Int} (h : 0 ≤ hasE es p) : found es p := by
  unfold found
  rw [hasE_find, if_pos h]
theorem Sub.before {n r : TRoom} (h : Sub n r) (hn : RoomI n) (hr : RoomI r) {prev : List Int} (hp : ∀ p ∈ prev, found n.1 p) : beforeL n prev = beforeL r prev := by
  have hP := h.part hn hr
  have hok : ∀ (q : TRoom), RoomI q → (∀ p ∈ prev, found q.1 p) → prev.all (beforeOk q) = true := fun q hq hf => by
    rw [List.all_eq_true]
    intro p hpm
    have h1 := found_has (hf p hpm)
    obtain ⟨j, hj, e, _⟩ := has_at h1
    have := hq.sl
    exact decide_eq_true ⟨h1, by omega⟩
  have hst : (prev.map fun p => rd [] n.2.1 (hasE n.1 p).toNat) = prev.map fun p => rd [] r.2.1 (hasE r.1 p).toNat := by
    refine List.map_congr_left fun p hpm => ?_
    obtain ⟨i, hi, e⟩ := hn.found_at (hp p hpm)
    obtain ⟨k, hk, e1, e2, _⟩ := h.at_ i hi
    rw [e, hn.has hi, e1, hr.has hk]
    exact e2
  unfold beforeL
  rw [hok n hn hp, hok r hr fun p hpm => hP.found (hp p hpm), ← hst]
  have : resolveL n.1 (prev.map fun p => rd [] n.2.1 (hasE n.1 p).toNat) = resolveL r.1 (prev.map fun p => rd [] n.2.1 (hasE n.1 p).toNat) := hP.resolveL fun s hs => by
    obtain ⟨p, hpm, rfl⟩ := List.mem_map.1 hs
    obtain ⟨i, hi, e⟩ := hn.found_at (hp p hpm)
    rw [e, hn.has hi]
    have hsl := hn.sl
    refine hn.bt.st _ ?_
    show rd [] n.2.1 i ∈ n.2.1
    rw [rd_at (show i < n.2.1.length by omega)]; exact List.getElem_mem _
  rw [this]
theorem Sub.depth {n r : TRoom} (h : Sub n r) (hn : RoomI n) (hr : RoomI r) {prev : List Int} (hp : ∀ p ∈ prev, found n.1 p) : depthOf n.1 prev = depthOf r.1 prev := by
  have hP := h.part hn hr
  have : mostD n.1 prev = mostD r.1 prev := by
    unfold mostD
    refine foldl_same prev (-1) fun p hpm b => ?_
    have f1 := hp p hpm
    have f2 := hP.found f1
    have e := hP.sub p f1
    rw [hasE_find, hasE_find, if_pos (found_has f1), if_pos (found_has f2)] at e
    have e2 := (Prod.ext_iff.1 e).1
    simp only at e2
    unfold moreD
    rw [e2]
    simp only [found_has f1, found_has f2, ge_iff_le, true_and]
  unfold depthOf
  rw [this]
noncomputable def stFor (r : TRoom) (e : TEvent) : List TItem := bif allowed r.1 (beforeL r e.2.2.2.2.2.2.2.1).1 e && keyOf e != 0 then putS (beforeL r e.2.2.2.2.2.2.2.1).1 (keyOf e) e.1 else (beforeL r e.2.2.2.2.2.2.2.1).1
noncomputable def goodOf (r : TRoom) (e : TEvent) : Bool := allowed r.1 (beforeL r e.2.2.2.2.2.2.2.1).1 e
/-- An event stands in a room as it should. -/
structure EvFix (r : TRoom) (e : TEvent) (s : List TItem) (g : Bool) : Prop where
  ok : eventOk e = true
  pv : ∀ p ∈ e.2.2.2.2.2.2.2.1, found r.1 p
  dp : e.2.2.2.2.2.2.2.2.1 = depthOf r.1 e.2.2.2.2.2.2.2.1
  st : s = stFor r e
  gd : g = goodOf r e
theorem Sub.good {n r : TRoom} (h : Sub n r) (hn : RoomI n) (hr : RoomI r) {e : TEvent} (hp : ∀ p ∈ e.2.2.2.2.2.2.2.1, found n.1 p) : goodOf n e = goodOf r e ∧ stFor n e = stFor r e := by
  have hP := h.part hn hr
  have hb := h.before hn hr hp
  have ha := hP.allowed (before_st hn.bt.st e.2.2.2.2.2.2.2.1) e
  unfold goodOf stFor
  rw [ha, hb]
  exact ⟨rfl, rfl⟩
theorem EvFix.up {n r : TRoom} (h : Sub n r) (hn : RoomI n) (hr : RoomI r) {e : TEvent} {s : List TItem} {g : Bool} (hf : EvFix n e s g) : EvFix r e s g := by
  obtain ⟨h1, h2⟩ := h.good hn hr hf.pv
  exact ⟨hf.ok, fun p hp => (h.part hn hr).found (hf.pv p hp), by rw [← h.depth hn hr hf.pv]; exact hf.dp, by rw [← h2]; exact hf.st, by rw [← h1]; exact hf.gd⟩
theorem EvFix.down {n r : TRoom} (h : Sub n r) (hn : RoomI n) (hr : RoomI r) {e : TEvent} {s : List TItem} {g : Bool} (hf : EvFix r e s g) (hp : ∀ p ∈ e.2.2.2.2.2.2.2.1, found n.1 p) : EvFix n e s g := by
  obtain ⟨h1, h2⟩ := h.good hn hr hp
  exact ⟨hf.ok, hp, by rw [h.depth hn hr hp]; exact hf.dp, by rw [h2]; exact hf.st, by rw [h1]; exact hf.gd⟩
def Fix (r : TRoom) : Prop := ∀ k, k < r.1.length → EvFix r (rd dTEvent r.1 k) (rd [] r.2.1 k) (rd false r.2.2.1 k)
theorem Built.fix {r : TRoom} (h : Built r) : Fix r := by
  induction h with
  | nil => exact fun k hk => by simp at hk
  | @add r e hb hp ho ih =>
    have hI := hb.roomI
    have hnI := (addR_room hI hp ho).1
    have hsl := hI.sl
    have hgl := hI.gl
    obtain ⟨h1, h2, h3, h4, h5, h6⟩ := addR_true ho
    have hsub : Sub r (addR r e).1 := ⟨fun i hi => by
      rw [h6]
      refine ⟨i, by simp; omega, ?_⟩
      simp only
      rw [rd_snocL, if_pos hi, rd_snocL, if_pos (by omega), rd_snocL, if_pos (by omega)]
      exact ⟨rfl, rfl, rfl⟩⟩
    intro k hk
    by_cases q : k < r.1.length
    · have := EvFix.up hsub hI hnI (ih k q)
      rw [h6] at this ⊢
      simp only at this ⊢
      rw [rd_snocL, if_pos q, rd_snocL, if_pos (by omega), rd_snocL, if_pos (by omega)]
      exact this
    · have e3 : k = r.1.length := by rw [h6] at hk; simp at hk; omega
      have hfix : EvFix r e (stFor r e) (goodOf r e) := ⟨h2, fun p hpm => has_found (before_known h1 p hpm).1, h4, rfl, rfl⟩
      have := EvFix.up hsub hI hnI hfix
      have e4 : rd dTEvent (addR r e).1.1 k = e ∧ rd [] (addR r e).1.2.1 k = stFor r e ∧ rd false (addR r e).1.2.2.1 k = goodOf r e := by
        rw [h6, e3]
        simp only
        rw [rd_snocL, if_neg (by omega), if_pos rfl, rd_snocL, if_neg (by omega), if_pos (by omega), rd_snocL, if_neg (by omega), if_pos (by omega)]
        exact ⟨rfl, rfl, rfl⟩
      rw [e4.1, e4.2.1, e4.2.2]; exact this
/-- One more event of a room. -/
theorem Sub.add {n r : TRoom} (h : Sub n r) (hn : RoomI n) (hr : RoomI r) {k : Nat} (hk : k < r.1.length) (hp : ∀ p ∈ (rd dTEvent r.1 k).2.2.2.2.2.2.2.1, found n.1 p) (hnew : ∀ e ∈ n.1, e.1 ≠ (rd dTEvent r.1 k).1) :
    addR n (rd dTEvent r.1 k) = ((n.1 ++ [rd dTEvent r.1 k], n.2.1 ++ [rd [] r.2.1 k], n.2.2.1 ++ [rd false r.2.2.1 k], ()), true) ∧ Sub (addR n (rd dTEvent r.1 k)).1 r ∧ RoomI (addR n (rd dTEvent r.1 k)).1 := by
  have hf := EvFix.down h hn hr (hr.bt.fix k hk) hp
  have hpl := (hr.mE hk).2
  have hsl := hn.sl
  have hgl := hn.gl
  have hl := hr.len
  have hlt : n.1.length < 40 := by
    have hnd : ((rd dTEvent r.1 k).1 :: n.1.map fun e => e.1).Nodup := by
      rw [List.nodup_cons]
      refine ⟨fun hm => ?_, ?_⟩
      · obtain ⟨e, he, e2⟩ := List.mem_map.1 hm
        exact hnew e he e2
      · unfold List.Nodup
        rw [List.pairwise_map, List.pairwise_iff_getElem]
        intro i j hi hj hij
        have := hn.ids i j hij hj
        rw [rd_at hi, rd_at hj] at this
        exact this
    have := nodup_le _ (r.1.map fun e => e.1) hnd fun x hx => by
      rcases List.mem_cons.1 hx with e | hm
      · rw [e]; exact List.mem_map.2 ⟨_, by rw [rd_at hk]; exact List.getElem_mem _, rfl⟩
      · obtain ⟨e, he, rfl⟩ := List.mem_map.1 hm
        obtain ⟨i, hi, rfl⟩ := List.getElem_of_mem he
        obtain ⟨j, hj, e2, _⟩ := h.at_ i hi
        rw [← rd_at (z := dTEvent) hi, e2]
        exact List.mem_map.2 ⟨_, by rw [rd_at hj]; exact List.getElem_mem _, rfl⟩
    simp at this
    omega
  have hne : hasE n.1 (rd dTEvent r.1 k).1 < 0 := by
    rcases hasE_spec n.1 (rd dTEvent r.1 k).1 with ⟨e, _⟩ | ⟨i, hi, _, e, _⟩
    · omega
    · exact absurd e (hnew _ (by rw [rd_at hi]; exact List.getElem_mem _))
  have hb2 : (beforeL n (rd dTEvent r.1 k).2.2.2.2.2.2.2.1).2 = true := by
    have : (rd dTEvent r.1 k).2.2.2.2.2.2.2.1.all (beforeOk n) = true := by
      rw [List.all_eq_true]
      intro p hpm
      have h1 := found_has (hp p hpm)
      obtain ⟨j, hj, e, _⟩ := has_at h1
      exact decide_eq_true ⟨h1, by omega⟩
    unfold beforeL
    rw [this]; rfl
  have he : addR n (rd dTEvent r.1 k) = ((n.1 ++ [rd dTEvent r.1 k], n.2.1 ++ [rd [] r.2.1 k], n.2.2.1 ++ [rd false r.2.2.1 k], ()), true) := by
    unfold addR
    rw [hb2, hf.ok, decide_eq_true hne, decide_eq_true hf.dp, decide_eq_true hlt, hf.st, hf.gd]
    rfl
  have hroom := addR_room hn (e := rd dTEvent r.1 k) (by omega) (by rw [he])
  refine ⟨he, ⟨fun i hi => ?_⟩, hroom.1⟩
  rw [he] at hi ⊢
  simp only at hi ⊢
  by_cases q : i < n.1.length
  · obtain ⟨j, hj, e1, e2, e3⟩ := h.at_ i q
    rw [rd_snocL, if_pos q, rd_snocL, if_pos (by omega), rd_snocL, if_pos (by omega)]
    exact ⟨j, hj, e1, e2, e3⟩
  · have e3 : i = n.1.length := by simp at hi; omega
    rw [e3, rd_snocL, if_neg (by omega), if_pos rfl, rd_snocL, if_neg (by omega), if_pos (by omega), rd_snocL, if_neg (by omega), if_pos (by omega)]
    exact ⟨k, hk, rfl, rfl, rfl⟩
end Go.Vm
