/- Plain laws. -/
import Derived.Test.YtgobdchlaclhiaaGreatC2
set_option linter.unusedVariables false
set_option linter.unusedSimpArgs false
namespace Go.Vm
open Go
/-! ### What is ahead -/
def heavy (e : TEvent) : Bool := e.2.1 == 3 || (e.2.1 == 2 && ((e.2.2.2.2.1 == 0 || e.2.2.2.2.1 == 3) && e.2.2.1 != e.2.2.2.1))
theorem s_l11Heavy_eq (k : Nat) (e : TEvent) : s_l11Heavy k e = some (heavy e) := by
  unfold s_l11Heavy heavy
  cases e.2.1 == 3 <;> cases e.2.1 == 2 <;> cases e.2.2.2.2.1 == 0 <;> cases e.2.2.2.2.1 == 3 <;> rfl
def heavier (es : List TEvent) (s : List TItem) (a b : TEvent) : Bool :=
  bif heavy a == heavy b then (if level es s a.2.2.1 = level es s b.2.2.1 then (if a.2.2.2.2.2.2.2.2.1 = b.2.2.2.2.2.2.2.2.1 then decide (a.1 < b.1) else decide (a.2.2.2.2.2.2.2.2.1 < b.2.2.2.2.2.2.2.2.1)) else decide (level es s a.2.2.1 > level es s b.2.2.1)) else heavy a
theorem s_Heavier_ev (es : List TEvent) (s : List TItem) (h : Fits es s) (a b : TEvent) : Ev (fun k => s_Heavier k es s a b) (heavier es s a b) := by
  refine Re.eq (Re.s1 (s_l11Heavy_eq · _) (Re.s1 (s_l11Heavy_eq · _) ?_))
  unfold heavier
  cases heavy a == heavy b with
  | false => exact Re.br (b := true) (fun _ => Re.s1 (s_l11Heavy_eq · _) (Re.ret rfl)) (fun h => by cases h)
  | true =>
    refine Re.br (b := false) (fun h => by cases h) (fun _ => Re.c1 (s_LevelOf_ev es s h _) (Re.c1 (s_LevelOf_ev es s h _) ?_))
    refine Re.brn (fun q => Re.ret (by simp [q])) (fun q => ?_)
    exact Re.brn (fun q2 => Re.ret (by simp [q, q2])) (fun q2 => Re.ret (by simp [q, q2]))
def ready (ahead left out : List Int) : Bool := ahead.all fun x => !decide (x ∈ left) || decide (x ∈ out)
theorem s_l11Ready_ev (ahead left out : List Int) (h1 : ahead.length ≤ 1048576) (h2 : left.length ≤ 1048576) (h3 : out.length ≤ 1048576) : Ev (fun k => s_l11Ready k ahead left out) (ready ahead left out) := by
  refine Re.eq (Re.enter (f := fun k n => l0_s_l11Ready k n ahead left out 0) among_nat ?_)
  have := Re.loop (ι := Nat) (l := fun k n (i : Nat) => l0_s_l11Ready k n ahead left out (i : Int)) (I := fun i => i ≤ ahead.length ∧ ∀ j, j < i → (rd 0 ahead j ∈ left → rd 0 ahead j ∈ out)) (fun i => ahead.length - i) (Q := fun _ v => v = ready ahead left out) (fun i hi ih => by
    simp only [l0_s_l11Ready, b0_s_l11Ready]
    refine Re.brd (fun g => ?_) (fun g => Re.ret ?_)
    · have hl : i < ahead.length := by omega
      refine Re.gdd (by omega) (Re.gdd g ?_)
      simp only [Int.toNat_natCast]
      rw [idx_succ hl (by omega)]
      have next : (rd 0 ahead i ∈ left → rd 0 ahead i ∈ out) → Re (fun x : Nat × Nat => l0_s_l11Ready x.1 x.2 ahead left out ((i + 1 : Nat) : Int)) (fun v => v = ready ahead left out) := fun q => ih (i + 1) ⟨by omega, fun j hj => by
        by_cases q2 : j < i
        · exact hi.2 j q2
        · have : j = i := by omega
          subst this; exact q⟩ (by omega)
      refine Re.c2 (s_l05In_ev left h2 _) ?_
      refine Re.brd (fun q => ?_) (fun q => next fun h => absurd h q)
      refine Re.gdd (by omega) (Re.gdd g (Re.c2 (s_l05In_ev out h3 _) ?_))
      refine Re.br (fun q2 => Re.ret ?_) (fun q2 => next fun _ => by simpa using q2)
      unfold ready
      rw [eq_comm, List.all_eq_false]
      refine ⟨rd 0 ahead i, by rw [rd_at hl]; exact List.getElem_mem _, ?_⟩
      have q3 : ¬ rd 0 ahead i ∈ out := by simpa using q2
      simp [q, q3]
    · unfold ready
      rw [eq_comm, List.all_eq_true]
      intro x hx
      obtain ⟨j, hj, rfl⟩ := List.getElem_of_mem hx
      have := hi.2 j (by omega)
      rw [rd_at hj] at this
      by_cases q : ahead[j] ∈ left
      · simp [q, this q]
      · simp [q]) 0 ⟨Nat.zero_le _, fun j hj => by omega⟩
  exact this
def found (es : List TEvent) (x : Int) : Prop := (findE es x).2 = true
def prevsOf (es : List TEvent) (x : Int) : List Int := (findE es x).1.2.2.2.2.2.2.2.1
/-- Ahead of an event, by Prev. -/
inductive Anc (es : List TEvent) (id : Int) : Int → Prop where
  | one {x : Int} : x ∈ prevsOf es id → found es x → Anc es id x
  | more {x y : Int} : Anc es id y → x ∈ prevsOf es y → found es x → Anc es id x
theorem found_mem {es : List TEvent} {x : Int} (h : found es x) : x ∈ es.map fun e => e.1 := by
  unfold found findE at h
  cases hf : es.find? fun e => e.1 == x with
  | none => rw [hf] at h; cases h
  | some e =>
    have h1 := List.find?_some hf
    have h2 := List.mem_of_find?_eq_some hf
    exact List.mem_map.2 ⟨e, h2, by simpa using h1⟩
theorem nodup_le {α : Type} [DecidableEq α] : ∀ (l m : List α), l.Nodup → (∀ x ∈ l, x ∈ m) → l.length ≤ m.length
  | [], m, _, _ => Nat.zero_le _
  | a :: l, m, hn, hs => by
    have ha : a ∈ m := hs a (List.mem_cons_self ..)
    rw [List.nodup_cons] at hn
    have := nodup_le l (m.erase a) hn.2 fun x hx => (List.mem_erase_of_ne (fun e => by subst e; exact hn.1 hx)).2 (hs x (List.mem_cons_of_mem _ hx))
    rw [List.length_erase_of_mem ha] at this
    have : 0 < m.length := List.length_pos_of_mem ha
    simp; omega
def AncL (es : List TEvent) (id : Int) (r : List Int) : Prop := r.Nodup ∧ ∀ x, x ∈ r ↔ Anc es id x
structure BInv (es : List TEvent) (id : Int) (out todo : List Int) (cur : Option (Int × Nat)) : Prop where
  nd : out.Nodup
  an : ∀ x ∈ out, found es x ∧ Anc es id x
  td : ∀ y ∈ todo, y = id ∨ y ∈ out
  cl : ∀ z, (z = id ∨ z ∈ out) → z ∈ todo ∨ (∃ j, cur = some (z, j) ∧ ∀ x ∈ (prevsOf es z).take j, found es x → x ∈ out) ∨ (∀ x ∈ prevsOf es z, found es x → x ∈ out)
theorem BInv.len {es : List TEvent} {id : Int} {out todo : List Int} {cur : Option (Int × Nat)} (h : BInv es id out todo cur) : out.length ≤ es.length := by
  have := nodup_le out (es.map fun e => e.1) h.nd fun x hx => found_mem (h.an x hx).1
  simpa using this
theorem s_l11Behind_re (es : List TEvent) (h : es.length ≤ 100000) (hp : ∀ y, (prevsOf es y).length ≤ 1048576) (id : Int) : Re (fun k => s_l11Behind k es id) (AncL es id) := by
  refine Re.enter (f := fun k n => l0_s_l11Behind k n es 0 [] [id]) among_nat ?_
  have := Re.wf (l := fun k n (st : (Nat × List Int × List Int) ⊕ (Nat × Nat × List Int × List Int × Int)) => match st with
      | .inl (u, out, td) => l0_s_l11Behind k n es u out td
      | .inr (u, j, out, td, y) => l1_s_l11Behind k n es u (j : Int) out td (findE es y))
    (I := fun st => match st with
      | .inl (u, out, td) => BInv es id out (td.drop u) none ∧ td.length ≤ 1000000 + u ∧ u ≤ td.length ∧ (td.drop u).length ≤ out.length + 1
      | .inr (u, j, out, td, y) => BInv es id out (td.drop u) (some (y, j)) ∧ (y = id ∨ y ∈ out) ∧ j ≤ (prevsOf es y).length ∧ (td.drop u).length ≤ out.length + 1 ∧ u ≤ td.length)
    (fun st => match st with
      | .inl (u, out, td) => (2 * (es.length - out.length) + (td.drop u).length, 0)
      | .inr (u, j, out, td, y) => (2 * (es.length - out.length) + (td.drop u).length, (prevsOf es y).length - j + 1)) (Q := fun _ r => AncL es id r) (fun st hi ih => by
    rcases st with ⟨u, out, td⟩ | ⟨u, j, out, td, y⟩
    · obtain ⟨hB, h1, h2, h3⟩ := hi
      simp only at ih ⊢
      simp only [z0_s_l11Behind, b0_s_l11Behind]
      refine Re.brd (fun g => ?_) (fun g => Re.ret ?_)
      · have hu : u < td.length := by omega
        have hd : td.drop u = rd 0 td u :: td.drop (u + 1) := by rw [rd_at hu]; exact List.drop_eq_getElem_cons hu
        refine Re.gdd (by omega) ?_
        rw [Nat.add_zero]
        refine Re.c2 (s_find_ev es (by omega) _) (Re.gdd (by omega) ?_)
        have hy := hB.td (rd 0 td u) (by rw [hd]; exact List.mem_cons_self ..)
        refine ih (.inr (u + 1, 0, out, td, rd 0 td u)) ⟨⟨hB.nd, hB.an, fun z hz => hB.td z (by rw [hd]; exact List.mem_cons_of_mem _ hz), fun z hz => ?_⟩, hy, Nat.zero_le _, by rw [hd] at h3; simp at h3 ⊢; omega, by omega⟩ (.inl ?_)
        · rcases hB.cl z hz with h4 | ⟨j, h4, _⟩ | h4
          · rw [hd] at h4
            rcases List.mem_cons.1 h4 with h5 | h5
            · exact .inr (.inl ⟨0, by rw [h5], fun x hx => by simp at hx⟩)
            · exact .inl h5
          · cases h4
          · exact .inr (.inr h4)
        · simp only [hd, List.length_cons]
          omega
      · have e : td.drop u = [] := List.drop_eq_nil_of_le (by omega)
        rw [e] at hB
        refine ⟨hB.nd, fun x => ⟨fun hx => (hB.an x hx).2, fun hx => ?_⟩⟩
        have closed : ∀ z, (z = id ∨ z ∈ out) → ∀ x ∈ prevsOf es z, found es x → x ∈ out := fun z hz => by
          rcases hB.cl z hz with h4 | ⟨j, h4, _⟩ | h4
          · simp at h4
          · cases h4
          · exact h4
        induction hx with
        | one h4 h5 => exact closed id (.inl rfl) _ h4 h5
        | more _ h4 h5 ih2 => exact closed _ (.inr ih2) _ h4 h5
    · obtain ⟨hB, h1, h2, h3, hu⟩ := hi
      simp only at ih ⊢
      have hlen := hB.len
      have hpl := hp y
      have hpe : (findE es y).1.2.2.2.2.2.2.2.1 = prevsOf es y := rfl
      simp only [z1_s_l11Behind, b1_s_l11Behind, hpe]
      refine Re.brd (fun g => ?_) (fun g => ?_)
      · have hj : j < (prevsOf es y).length := by omega
        refine Re.gdd (by omega) (Re.gdd g ?_)
        simp only [Int.toNat_natCast]
        rw [idx_succ hj (by omega)]
        have step : ∀ out2 td2 u2, BInv es id out2 (td2.drop u2) (some (y, j + 1)) → (y = id ∨ y ∈ out2) → (td2.drop u2).length ≤ out2.length + 1 → u2 ≤ td2.length → (2 * (es.length - out2.length) + (td2.drop u2).length ≤ 2 * (es.length - out.length) + (td.drop u).length) →
            Re (fun x : Nat × Nat => l1_s_l11Behind x.1 x.2 es u2 ((j + 1 : Nat) : Int) out2 td2 (findE es y)) (AncL es id) := fun out2 td2 u2 b1 b2 b3 b5 b4 => by
          refine ih (.inr (u2, j + 1, out2, td2, y)) ⟨b1, b2, by omega, b3, b5⟩ ?_
          simp only
          omega
        have tk := take_int hj
        have same : (found es (rd 0 (prevsOf es y) j) → rd 0 (prevsOf es y) j ∈ out) → Re (fun x : Nat × Nat => l1_s_l11Behind x.1 x.2 es u ((j + 1 : Nat) : Int) out td (findE es y)) (AncL es id) := fun hin =>
          step out td u ⟨hB.nd, hB.an, hB.td, fun z hz => by
            rcases hB.cl z hz with h4 | ⟨j', h4, h5⟩ | h4
            · exact .inl h4
            · cases h4
              refine .inr (.inl ⟨j + 1, rfl, fun x hx hf => ?_⟩)
              rw [tk] at hx
              rcases List.mem_append.1 hx with hx | hx
              · exact h5 x hx hf
              · simp at hx; subst hx; exact hin hf
            · exact .inr (.inr h4)⟩ h1 h3 hu (Nat.le_refl _)
        refine Re.c2 (s_find_ev es (by omega) _) ?_
        cases hf : (findE es (rd 0 (prevsOf es y) j)).2 with
        | false => exact Re.br (b := false) (fun h => by cases h) (fun _ => same fun h => by unfold found at h; rw [hf] at h; cases h)
        | true =>
          refine Re.br (b := true) (fun _ => ?_) (fun h => by cases h)
          refine Re.gdd (by omega) (Re.gdd g (Re.c2 (s_l05In_ev out (by omega) _) ?_))
          refine Re.br (fun q => ?_) (fun q => same fun _ => by simpa using q)
          have hno : rd 0 (prevsOf es y) j ∉ out := by simpa using q
          have hanc : Anc es id (rd 0 (prevsOf es y) j) := by
            have hm : rd 0 (prevsOf es y) j ∈ prevsOf es y := by rw [rd_at hj]; exact List.getElem_mem _
            rcases h1 with h1 | h1
            · subst h1; exact .one hm hf
            · exact .more (hB.an y h1).2 hm hf
          refine Re.gdd (by omega) (Re.gdd g (Re.gdd (by simp only [List.length_singleton]; unfold maxRow; omega) (Re.gdd (by omega) (Re.gdd g (Re.gdd (by simp only [List.length_singleton]; unfold maxRow; omega) ?_)))))
          have nB : BInv es id (out ++ [rd 0 (prevsOf es y) j]) ((td.drop u ++ [rd 0 (prevsOf es y) j]).drop 0) (some (y, j + 1)) := by
            refine ⟨List.nodup_append.2 ⟨hB.nd, by simp, fun a ha b hb => by simp at hb; subst hb; exact fun e => hno (e ▸ ha)⟩, fun x hx => ?_, fun z hz => ?_, fun z hz => ?_⟩
            · rcases List.mem_append.1 hx with hx | hx
              · exact hB.an x hx
              · simp at hx; subst hx; exact ⟨hf, hanc⟩
            · rw [List.drop_zero] at hz
              rcases List.mem_append.1 hz with hz | hz
              · exact Or.imp_right (fun h => List.mem_append_left _ h) (hB.td z hz)
              · exact .inr (List.mem_append_right _ hz)
            · rw [List.drop_zero]
              by_cases hz2 : z = id ∨ z ∈ out
              · rcases hB.cl z hz2 with h4 | ⟨j', h4, h5⟩ | h4
                · exact .inl (List.mem_append_left _ h4)
                · cases h4
                  refine .inr (.inl ⟨j + 1, rfl, fun x hx hf2 => ?_⟩)
                  rw [tk] at hx
                  rcases List.mem_append.1 hx with hx | hx
                  · exact List.mem_append_left _ (h5 x hx hf2)
                  · exact List.mem_append_right _ hx
                · exact .inr (.inr fun x hx hf2 => List.mem_append_left _ (h4 x hx hf2))
              · rcases hz with hz | hz
                · exact absurd (.inl hz) hz2
                · rcases List.mem_append.1 hz with hz | hz
                  · exact absurd (.inr hz) hz2
                  · exact .inl (List.mem_append_right _ hz)
          have nl := nB.len
          refine step _ _ 0 nB (Or.imp_right (fun h => List.mem_append_left _ h) h1) ?_ (Nat.zero_le _) ?_
          · simp only [List.drop_zero, List.length_append, List.length_singleton]; omega
          · simp only [List.drop_zero, List.length_append, List.length_singleton] at nl ⊢; omega
      · have ej : (prevsOf es y).take j = prevsOf es y := List.take_of_length_le (by omega)
        refine ih (.inl (u, out, td)) ⟨⟨hB.nd, hB.an, hB.td, fun z hz => ?_⟩, by simp at h3; omega, hu, h3⟩ (.inr ⟨rfl, by simp only; omega⟩)
        · rcases hB.cl z hz with h4 | ⟨j', h4, h5⟩ | h4
          · exact .inl h4
          · cases h4
            rw [ej] at h5
            exact .inr (.inr h5)
          · exact .inr (.inr h4)) (.inl (0, [], [id])) ⟨⟨by simp, fun x hx => by simp at hx, fun y hy => by simp at hy; exact .inl hy, fun z hz => .inl (by rcases hz with h | h; simp [h]; simp at h)⟩, by simp, by simp, by simp⟩
  exact this
end Go.Vm
