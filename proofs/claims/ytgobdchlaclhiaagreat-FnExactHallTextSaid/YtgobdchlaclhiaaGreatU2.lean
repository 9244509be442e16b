/- Plain laws. -/
import Derived.Test.YtgobdchlaclhiaaGreatP2
import Derived.Test.YtgobdchlaclhiaaGreatI2
import Derived.Test.YtgobdchlaclhiaaGreatWm
set_option linter.unusedVariables false
set_option linter.unusedSimpArgs false
namespace Go.Vm
open Go
/-- A call of a function whose value is known. -/
theorem Re.call {ι α R : Type} [Fuel ι] {κ : ι → Nat} {g : Nat → Option α} {F : ι → α → Option R} {v : α} {Q : R → Prop} (hκ : Among κ) (h : Ev g v) (h2 : Re (fun x => F x v) Q) : Re (fun x => Vm.bd (g (κ x)) (F x)) Q :=
  Re.bd (P := fun a => a = v) hκ (Ev.re h rfl) fun a ha => by subst ha; exact h2
theorem Re.some {ι R : Type} [Fuel ι] {v w : R} (h : v = w) : Re (fun _ : ι => some v) (fun a => a = w) := Re.ret h
/-- Two rows are compared element by element; what goes on behind comes to V. -/
theorem eq_loop {α : Type} {l : Nat → Nat → Nat → Option Bool} {V : Bool} (a b : List α) (hl : a.length = b.length)
    (hs : ∀ i (h : i < a.length) (h' : i < b.length), (a[i] = b[i] → Re (fun x : Nat × Nat => l x.1 x.2 (i + 1)) (fun v => v = V)) → (a[i] ≠ b[i] → V = false) → Re (fun x : Nat × Nat => l x.1 (x.2 + 1) i) (fun v => v = V))
    (hne : a ≠ b → V = false) (he : a = b → Re (fun x : Nat × Nat => l x.1 (x.2 + 1) a.length) (fun v => v = V)) : Re (fun x : Nat × Nat => l x.1 x.2 0) (fun v => v = V) := by
  have := Re.loop (ι := Nat) (l := fun k n i => l k n i) (I := fun i => i ≤ a.length ∧ ∀ j, j < i → a[j]? = b[j]?) (fun i => a.length - i) (Q := fun _ v => v = V) (fun i hi ih => by
    by_cases h : i < a.length
    · have h' : i < b.length := by omega
      refine hs i h h' (fun e => ih (i + 1) ⟨by omega, fun j hj => ?_⟩ (by omega)) (fun e => hne (fun e2 => e (by simp only [e2])))
      by_cases hj2 : j < i
      · exact hi.2 j hj2
      · have : j = i := by omega
        subst this
        rw [List.getElem?_eq_getElem h, List.getElem?_eq_getElem h', e]
    · have hi2 : i = a.length := by omega
      subst hi2
      refine he (List.ext_getElem? fun j => ?_)
      by_cases hj : j < a.length
      · exact hi.2 j hj
      · rw [List.getElem?_eq_none (by omega), List.getElem?_eq_none (by omega)]) 0 ⟨Nat.zero_le _, fun j hj => by omega⟩
  exact this
theorem len_of_ne {a b : Int} (h : (a != b) = false) : a = b := by simpa using h
theorem item_dec (x y : TItem) : (x.1 == y.1 && (x.2.1 == y.2.1 && true)) = decide (x = y) := by
  obtain ⟨x1, x2, ⟨⟩⟩ := x
  obtain ⟨y1, y2, ⟨⟩⟩ := y
  rw [Bool.eq_iff_iff]
  simp
theorem eqInts_dec (a b : List Int) (h : a.length ≤ 1048576) : Ev (fun k => slices_Equal_int_int k a b) (decide (a = b)) := by
  refine Re.eq ?_
  refine Re.br (fun h => ?_) (fun h => ?_)
  · exact .some (decide_eq_false (fun e => by subst e; simp at h)).symm
  · have hl : a.length = b.length := by have := len_of_ne h; omega
    refine Re.enter (f := fun k n => l0_slices_Equal_int_int k n a b 0) among_nat ?_
    refine eq_loop (l := fun k n i => l0_slices_Equal_int_int k n a b (i : Int)) a b hl (fun i h h' ih hf => ?_) (fun h => decide_eq_false h) (fun h => ?_)
    · simp only [l0_slices_Equal_int_int, b0_slices_Equal_int_int, Int.ofNat_lt, h, h', Int.natCast_nonneg, decide_true, br_true, gd_true, Int.toNat_natCast, rd_at, idx_succ h (by omega)]
      refine Re.br (fun hc => ?_) (fun hc => ?_)
      · exact .some (hf (by simpa using hc)).symm
      · exact ih (by simpa using hc)
    · simp only [l0_slices_Equal_int_int, b0_slices_Equal_int_int, Int.lt_irrefl, decide_false, br_false]
      exact .some (decide_eq_true h).symm
theorem seqInts_dec (a b : List Int) (h : a.length ≤ 1048576) : Ev (fun k => s_l05SameInts k a b) (decide (a = b)) := by
  refine Re.eq ?_
  refine Re.br (fun h => ?_) (fun h => ?_)
  · exact .some (decide_eq_false (fun e => by subst e; simp at h)).symm
  · have hl : a.length = b.length := by have := len_of_ne h; omega
    refine Re.enter (f := fun k n => l0_s_l05SameInts k n a b 0) among_nat ?_
    refine eq_loop (l := fun k n i => l0_s_l05SameInts k n a b (i : Int)) a b hl (fun i h h' ih hf => ?_) (fun h => decide_eq_false h) (fun h => ?_)
    · simp only [l0_s_l05SameInts, b0_s_l05SameInts, Int.ofNat_lt, h, h', Int.natCast_nonneg, decide_true, br_true, gd_true, Int.toNat_natCast, rd_at, idx_succ h (by omega)]
      refine Re.br (fun hc => ?_) (fun hc => ?_)
      · exact .some (hf (by simpa using hc)).symm
      · exact ih (by simpa using hc)
    · simp only [l0_s_l05SameInts, b0_s_l05SameInts, Int.lt_irrefl, decide_false, br_false]
      exact .some (decide_eq_true h).symm
theorem eqItems_dec (a b : List TItem) (h : a.length ≤ 1048576) : Ev (fun k => slices_Equal_impl_Item_impl_Item k a b) (decide (a = b)) := by
  refine Re.eq ?_
  refine Re.br (fun h => ?_) (fun h => ?_)
  · exact .some (decide_eq_false (fun e => by subst e; simp at h)).symm
  · have hl : a.length = b.length := by have := len_of_ne h; omega
    refine Re.enter (f := fun k n => l0_slices_Equal_impl_Item_impl_Item k n a b 0) among_nat ?_
    refine eq_loop (l := fun k n i => l0_slices_Equal_impl_Item_impl_Item k n a b (i : Int)) a b hl (fun i h h' ih hf => ?_) (fun h => decide_eq_false h) (fun h => ?_)
    · simp only [l0_slices_Equal_impl_Item_impl_Item, b0_slices_Equal_impl_Item_impl_Item, Int.ofNat_lt, h, h', Int.natCast_nonneg, decide_true, br_true, gd_true, Int.toNat_natCast, rd_at, idx_succ h (by omega), item_dec]
      refine Re.br (fun hc => ?_) (fun hc => ?_)
      · exact .some (hf (by simpa using hc)).symm
      · exact ih (by simpa using hc)
    · simp only [l0_slices_Equal_impl_Item_impl_Item, b0_slices_Equal_impl_Item_impl_Item, Int.lt_irrefl, decide_false, br_false]
      exact .some (decide_eq_true h).symm
theorem sameState_dec (a b : List TItem) (h : a.length ≤ 1048576) : Ev (fun k => s_l12SameState k a b) (decide (a = b)) := by
  refine Re.eq ?_
  refine Re.br (fun h => ?_) (fun h => ?_)
  · exact .some (decide_eq_false (fun e => by subst e; simp at h)).symm
  · have hl : a.length = b.length := by have := len_of_ne h; omega
    refine Re.enter (f := fun k n => l0_s_l12SameState k n a b 0) among_nat ?_
    refine eq_loop (l := fun k n i => l0_s_l12SameState k n a b (i : Int)) a b hl (fun i h h' ih hf => ?_) (fun h => decide_eq_false h) (fun h => ?_)
    · simp only [l0_s_l12SameState, b0_s_l12SameState, Int.ofNat_lt, h, h', Int.natCast_nonneg, decide_true, br_true, gd_true, Int.toNat_natCast, rd_at, idx_succ h (by omega), item_dec]
      refine Re.br (fun hc => ?_) (fun hc => ?_)
      · exact .some (hf (by simpa using hc)).symm
      · exact ih (by simpa using hc)
    · simp only [l0_s_l12SameState, b0_s_l12SameState, Int.lt_irrefl, decide_false, br_false]
      exact .some (decide_eq_true h).symm
theorem eqBools_dec (a b : List Bool) (h : a.length ≤ 1048576) : Ev (fun k => slices_Equal_bool_bool k a b) (decide (a = b)) := by
  refine Re.eq ?_
  refine Re.br (fun h => ?_) (fun h => ?_)
  · exact .some (decide_eq_false (fun e => by subst e; simp at h)).symm
  · have hl : a.length = b.length := by have := len_of_ne h; omega
    refine Re.enter (f := fun k n => l0_slices_Equal_bool_bool k n a b 0) among_nat ?_
    refine eq_loop (l := fun k n i => l0_slices_Equal_bool_bool k n a b (i : Int)) a b hl (fun i h h' ih hf => ?_) (fun h => decide_eq_false h) (fun h => ?_)
    · simp only [l0_slices_Equal_bool_bool, b0_slices_Equal_bool_bool, Int.ofNat_lt, h, h', Int.natCast_nonneg, decide_true, br_true, gd_true, Int.toNat_natCast, rd_at, idx_succ h (by omega)]
      refine Re.br (fun hc => ?_) (fun hc => ?_)
      · exact .some (hf (by simpa using hc)).symm
      · exact ih (by simpa using hc)
    · simp only [l0_slices_Equal_bool_bool, b0_slices_Equal_bool_bool, Int.lt_irrefl, decide_false, br_false]
      exact .some (decide_eq_true h).symm
theorem eqInts_iff (a b : List Int) : eqInts a b = decide (a = b) := by
  rw [Bool.eq_iff_iff]
  unfold eqInts
  simp only [Bool.and_eq_true, beq_iff_eq, allN_iff, decide_eq_true_eq]
  constructor
  · rintro ⟨h1, h2⟩
    have hl : a.length = b.length := by omega
    refine List.ext_getElem hl fun i h h' => ?_
    have := h2 i h
    rwa [rd_at h, rd_at h'] at this
  · rintro rfl
    exact ⟨rfl, fun _ _ => rfl⟩
theorem sameEv_dec (a b : TEvent) : sameEv a b = eqd a b := by
  obtain ⟨x0, x1, x2, x3, x4, l, t, p, d, ⟨⟩⟩ := a
  obtain ⟨y0, y1, y2, y3, y4, l2, t2, p2, d2, ⟨⟩⟩ := b
  rw [Bool.eq_iff_iff]
  rw [eqd_iff]
  simp only [sameEv, eqText, str_beq, eqInts_iff, eKind, eSender, eUser, eMember, eText, eDepth, eLevels, ePrev, Bool.and_eq_true, beq_iff_eq, decide_eq_true_eq, Prod.mk.injEq, and_true]
  constructor
  · rintro ⟨⟨⟨⟨⟨⟨⟨⟨h0, h1⟩, h2⟩, h3⟩, h4⟩, h5⟩, h6⟩, h7⟩, h8⟩
    exact ⟨h0, h1, h2, h3, h4, h7, h5, h8, h6⟩
  · rintro ⟨h0, h1, h2, h3, h4, h7, h5, h8, h6⟩
    exact ⟨⟨⟨⟨⟨⟨⟨⟨h0, h1⟩, h2⟩, h3⟩, h4⟩, h5⟩, h6⟩, h7⟩, h8⟩
theorem sroom_dec (a b : TRoom) (ha : m_Room a ≤ 1048576) : Ev (fun k => s_l12Same k a b) (eqd a b) := by
  have h1 : m_EventS a.1 + (m_ItemSS a.2.1 + (m_BoolS a.2.2.1 + 0)) ≤ 1048576 := ha
  have he : a.1.length + (a.1.map m_Event).sum ≤ 1048576 := by have : m_EventS a.1 = a.1.length + (a.1.map m_Event).sum := rfl; omega
  have hi : a.2.1.length + (a.2.1.map m_ItemS).sum ≤ 1048576 := by have : m_ItemSS a.2.1 = a.2.1.length + (a.2.1.map m_ItemS).sum := rfl; omega
  have hb : a.2.2.1.length ≤ 1048576 := by have : m_BoolS a.2.2.1 = a.2.2.1.length := rfl; omega
  refine Re.eq ?_
  refine Re.br (fun h => .some (eqd_ne (fun e => by subst e; simp at h)).symm) (fun h => ?_)
  have l1 : a.1.length = b.1.length := by have := len_of_ne h; omega
  refine Re.br (fun h => .some (eqd_ne (fun e => by subst e; simp at h)).symm) (fun h => ?_)
  have l2 : a.2.1.length = b.2.1.length := by have := len_of_ne h; omega
  refine Re.br (fun h => .some (eqd_ne (fun e => by subst e; simp at h)).symm) (fun h => ?_)
  have l3 : a.2.2.1.length = b.2.2.1.length := by have := len_of_ne h; omega
  refine Re.enter (f := fun k n => l0_s_l12Same k n 0 a b) among_nat ?_
  refine eq_loop (l := fun k n i => l0_s_l12Same k n (i : Int) a b) a.1 b.1 l1 (fun i h h' ih hf => ?_) (fun h => eqd_ne (fun e => h (by rw [e]))) (fun e1 => ?_)
  · simp only [l0_s_l12Same, b0_s_l12Same, Int.ofNat_lt, h, h', Int.natCast_nonneg, decide_true, br_true, gd_true, Int.toNat_natCast, rd_at, idx_succ h (by omega)]
    refine Re.call (g := fun k => s_l09Same k a.1[i] b.1[i]) (among_fst among_nat) (s_l09Same_ev a.1[i] b.1[i] (by have := mem_sum m_Event (List.getElem_mem h); omega)) ?_
    rw [sameEv_dec]
    refine Re.br (fun hc => .some (hf (fun e => by rw [eqd_of e] at hc; cases hc)).symm) (fun hc => ih (eqd_iff.1 (by simpa using hc)))
  · simp only [l0_s_l12Same, b0_s_l12Same, Int.lt_irrefl, decide_false, br_false]
    refine eq_loop (l := fun k n i => l1_s_l12Same k n (i : Int) a b) a.2.1 b.2.1 l2 (fun i h h' ih hf => ?_) (fun h => eqd_ne (fun e => h (by rw [e]))) (fun e2 => ?_)
    · simp only [l1_s_l12Same, b1_s_l12Same, Int.ofNat_lt, h, h', Int.natCast_nonneg, decide_true, br_true, gd_true, Int.toNat_natCast, rd_at, idx_succ h (by omega)]
      refine Re.call (g := fun k => s_l12SameState k a.2.1[i] b.2.1[i]) (among_fst among_nat) (sameState_dec a.2.1[i] b.2.1[i] (by have := mem_sum m_ItemS (List.getElem_mem h); have : m_ItemS a.2.1[i] = a.2.1[i].length := rfl; omega)) ?_
      refine Re.br (fun hc => .some (hf (by simpa using hc)).symm) (fun hc => ih (by simpa using hc))
    · simp only [l1_s_l12Same, b1_s_l12Same, Int.lt_irrefl, decide_false, br_false]
      refine eq_loop (l := fun k n i => l2_s_l12Same k n (i : Int) a b) a.2.2.1 b.2.2.1 l3 (fun i h h' ih hf => ?_) (fun h => eqd_ne (fun e => h (by rw [e]))) (fun e3 => ?_)
      · simp only [l2_s_l12Same, b2_s_l12Same, Int.ofNat_lt, h, h', Int.natCast_nonneg, decide_true, br_true, gd_true, Int.toNat_natCast, rd_at, idx_succ h (by omega)]
        refine Re.br (fun hc => .some (hf (by simpa using hc)).symm) (fun hc => ih (by simpa using hc))
      · simp only [l2_s_l12Same, b2_s_l12Same, Int.lt_irrefl, decide_false, br_false]
        exact .some (eqd_of (Prod.ext e1 (Prod.ext e2 (Prod.ext e3 rfl)))).symm
theorem iroom_dec (a b : TRoom) (ha : m_Room a ≤ 1048576) : Ev (fun k => i_sameRoom k a b) (eqd a b) := by
  have h1 : m_EventS a.1 + (m_ItemSS a.2.1 + (m_BoolS a.2.2.1 + 0)) ≤ 1048576 := ha
  have he : a.1.length + (a.1.map m_Event).sum ≤ 1048576 := by have : m_EventS a.1 = a.1.length + (a.1.map m_Event).sum := rfl; omega
  have hi : a.2.1.length + (a.2.1.map m_ItemS).sum ≤ 1048576 := by have : m_ItemSS a.2.1 = a.2.1.length + (a.2.1.map m_ItemS).sum := rfl; omega
  have hb : a.2.2.1.length ≤ 1048576 := by have : m_BoolS a.2.2.1 = a.2.2.1.length := rfl; omega
  refine Re.eq ?_
  refine Re.br (fun h => .some (eqd_ne (fun e => by subst e; simp at h)).symm) (fun h => ?_)
  have l1 : a.1.length = b.1.length := by have := len_of_ne h; omega
  refine Re.enter (f := fun k n => l0_i_sameRoom k n b a 0) among_nat ?_
  refine eq_loop (l := fun k n i => l0_i_sameRoom k n b a (i : Int)) a.1 b.1 l1 (fun i h h' ih hf => ?_) (fun h => eqd_ne (fun e => h (by rw [e]))) (fun e1 => ?_)
  · simp only [l0_i_sameRoom, b0_i_sameRoom, Int.ofNat_lt, h, h', Int.natCast_nonneg, decide_true, br_true, gd_true, Int.toNat_natCast, rd_at, idx_succ h (by omega)]
    have hm : m_Event a.1[i] ≤ 1048576 := by have := mem_sum m_Event (List.getElem_mem h); omega
    obtain ⟨n1, n2, n3⟩ := m_Event_le hm
    revert ih hf
    generalize a.1[i] = x at n1 n2 n3 ⊢
    generalize b.1[i] = y
    intro ih hf
    obtain ⟨x0, x1, x2, x3, x4, l, t, p, d, ⟨⟩⟩ := x
    obtain ⟨y0, y1, y2, y3, y4, m, u, q, c, ⟨⟩⟩ := y
    simp only [eLevels, ePrev] at n1 n3
    refine Re.br (fun c0 => ?_) (fun c0 => .some (hf (fun e => by simp only [Prod.mk.injEq, and_true] at e; simp [e] at c0)).symm)
    refine Re.br (fun c1 => ?_) (fun c0 => .some (hf (fun e => by simp only [Prod.mk.injEq, and_true] at e; simp [e] at c0)).symm)
    refine Re.br (fun c2 => ?_) (fun c0 => .some (hf (fun e => by simp only [Prod.mk.injEq, and_true] at e; simp [e] at c0)).symm)
    refine Re.br (fun c3 => ?_) (fun c0 => .some (hf (fun e => by simp only [Prod.mk.injEq, and_true] at e; simp [e] at c0)).symm)
    refine Re.br (fun c4 => ?_) (fun c0 => .some (hf (fun e => by simp only [Prod.mk.injEq, and_true] at e; simp [e] at c0)).symm)
    refine Re.call (g := fun k => slices_Equal_int_int k l m) (among_fst among_nat) (eqInts_dec l m n1) ?_
    refine Re.br (fun c5 => ?_) (fun c0 => .some (hf (fun e => by simp only [Prod.mk.injEq, and_true] at e; simp [e] at c0)).symm)
    refine Re.br (fun c6 => ?_) (fun c0 => .some (hf (fun e => by simp only [Prod.mk.injEq, and_true] at e; simp [e] at c0)).symm)
    refine Re.call (g := fun k => slices_Equal_int_int k p q) (among_fst among_nat) (eqInts_dec p q n3) ?_
    refine Re.br (fun c7 => ?_) (fun c0 => .some (hf (fun e => by simp only [Prod.mk.injEq, and_true] at e; simp [e] at c0)).symm)
    refine Re.br (fun c0 => .some (hf (fun e => by simp only [Prod.mk.injEq, and_true] at e; simp [e] at c0)).symm) (fun c8 => ih ?_)
    rw [str_beq] at c6
    simp only [beq_iff_eq, decide_eq_true_eq, Bool.not_eq_false', Prod.mk.injEq, and_true] at *
    exact ⟨c0, c1, c2, c3, c4, c5, c6, c7, c8⟩
  · simp only [l0_i_sameRoom, b0_i_sameRoom, Int.lt_irrefl, decide_false, br_false]
    refine Re.br (fun h => .some (eqd_ne (fun e => by subst e; simp at h)).symm) (fun h => ?_)
    have l2 : a.2.1.length = b.2.1.length := by have := len_of_ne h; omega
    refine eq_loop (l := fun k n i => l1_i_sameRoom k n b a (i : Int)) a.2.1 b.2.1 l2 (fun i h h' ih hf => ?_) (fun h => eqd_ne (fun e => h (by rw [e]))) (fun e2 => ?_)
    · simp only [l1_i_sameRoom, b1_i_sameRoom, Int.ofNat_lt, h, h', Int.natCast_nonneg, decide_true, br_true, gd_true, Int.toNat_natCast, rd_at, idx_succ h (by omega)]
      refine Re.call (g := fun k => slices_Equal_impl_Item_impl_Item k a.2.1[i] b.2.1[i]) (among_fst among_nat) (eqItems_dec a.2.1[i] b.2.1[i] (by have := mem_sum m_ItemS (List.getElem_mem h); have : m_ItemS a.2.1[i] = a.2.1[i].length := rfl; omega)) ?_
      refine Re.br (fun hc => .some (hf (by simpa using hc)).symm) (fun hc => ih (by simpa using hc))
    · simp only [l1_i_sameRoom, b1_i_sameRoom, Int.lt_irrefl, decide_false, br_false]
      refine Re.call (g := fun k => slices_Equal_bool_bool k a.2.2.1 b.2.2.1) (among_fst among_nat) (eqBools_dec a.2.2.1 b.2.2.1 hb) ?_
      refine .some ?_
      rw [Bool.eq_iff_iff]
      simp only [decide_eq_true_eq, eqd_iff]
      exact ⟨fun e3 => Prod.ext e1 (Prod.ext e2 (Prod.ext e3 rfl)), fun e => by rw [e]⟩
end Go.Vm
