/- Plain laws. -/
import Derived.Test.YtpcdgghbhgjgfaaE3
import Derived.Test.YtpcdgghbhgjgfaaWm
set_option linter.unusedVariables false
set_option linter.unusedSimpArgs false
namespace Go.Vm
open Go
theorem Re.b1 {α R : Type} {g : Nat → Option α} {F : Nat → α → Option R} {P : α → Prop} {Q : R → Prop} (h : Re g P) (h2 : ∀ a, P a → Re (fun k => F k a) Q) : Re (fun k => Vm.bd (g k) (F k)) Q := Re.bd among_nat h h2
theorem Re.b2 {α R : Type} {g : Nat → Option α} {F : Nat × Nat → α → Option R} {P : α → Prop} {Q : R → Prop} (h : Re g P) (h2 : ∀ a, P a → Re (fun x => F x a) Q) : Re (fun x : Nat × Nat => Vm.bd (g x.1) (F x)) Q := Re.bd (among_fst among_nat) h h2
theorem Re.c1 {α R : Type} {g : Nat → Option α} {F : Nat → α → Option R} {v : α} {Q : R → Prop} (h : Ev g v) (h2 : Re (fun k => F k v) Q) : Re (fun k => Vm.bd (g k) (F k)) Q := Re.b1 (P := fun a => a = v) (Ev.re h rfl) fun a ha => by subst ha; exact h2
theorem Re.s1 {α R : Type} {g : Nat → Option α} {F : Nat → α → Option R} {v : α} {Q : R → Prop} (h : ∀ k, g k = some v) (h2 : Re (fun k => F k v) Q) : Re (fun k => Vm.bd (g k) (F k)) Q := Re.c1 (Ev.of h) h2
theorem beq_ne0 {a b : Int} (h : a ≠ b) : (a == b) = false := by simpa using h
theorem Re.s2 {α R : Type} {g : Nat → Option α} {F : Nat × Nat → α → Option R} {v : α} {Q : R → Prop} (h : ∀ k, g k = some v) (h2 : Re (fun x => F x v) Q) : Re (fun x : Nat × Nat => Vm.bd (g x.1) (F x)) Q := Re.b2 (P := fun a => a = v) (Ev.re (Ev.of h) rfl) fun a ha => by subst ha; exact h2
theorem Re.c2 {α R : Type} {g : Nat → Option α} {F : Nat × Nat → α → Option R} {v : α} {Q : R → Prop} (h : Ev g v) (h2 : Re (fun x => F x v) Q) : Re (fun x : Nat × Nat => Vm.bd (g x.1) (F x)) Q := Re.b2 (P := fun a => a = v) (Ev.re h rfl) fun a ha => by subst ha; exact h2
theorem Re.gdd {ι R : Type} [Fuel ι] {p : Prop} [Decidable p] {f : ι → Option R} {Q : R → Prop} (hp : p) (h : Re f Q) : Re (fun x => Vm.gd (decide p) (f x)) Q := Re.gd (decide_eq_true hp) h
theorem Re.brd {ι R : Type} [Fuel ι] {p : Prop} [Decidable p] {f g : ι → Option R} {Q : R → Prop} (h1 : p → Re f Q) (h2 : ¬ p → Re g Q) : Re (fun x => Vm.br (decide p) (f x) (g x)) Q := Re.br (fun h => h1 (of_decide_eq_true h)) (fun h => h2 (of_decide_eq_false h))
theorem Re.bre {ι R : Type} [Fuel ι] {a b : Int} {f g : ι → Option R} {Q : R → Prop} (h1 : a = b → Re f Q) (h2 : a ≠ b → Re g Q) : Re (fun x => Vm.br (a == b) (f x) (g x)) Q := Re.br (fun h => h1 (by simpa using h)) (fun h => h2 (by simpa using h))
theorem Re.brn {ι R : Type} [Fuel ι] {a b : Int} {f g : ι → Option R} {Q : R → Prop} (h1 : a ≠ b → Re f Q) (h2 : a = b → Re g Q) : Re (fun x => Vm.br (a != b) (f x) (g x)) Q := Re.br (fun h => h1 (by simpa using h)) (fun h => h2 (by simpa using h))
theorem Re.brb {ι R : Type} [Fuel ι] {b : Bool} {f g : ι → Option R} {Q : R → Prop} (h1 : Re f Q) (h2 : Re g Q) : Re (fun x => Vm.br b (f x) (g x)) Q := Re.br (fun _ => h1) (fun _ => h2)
/-- Loops that need each other: with one more fuel. -/
theorem Re.wf {σ R : Type} {l : Nat → Nat → σ → Option R} {I : σ → Prop} (μ : σ → Nat × Nat) {Q : σ → R → Prop}
    (step : ∀ s, I s → (∀ s', I s' → ((μ s').1 < (μ s).1 ∨ ((μ s').1 = (μ s).1 ∧ (μ s').2 < (μ s).2)) → Re (fun x : Nat × Nat => l x.1 x.2 s') (Q s')) → Re (fun x : Nat × Nat => l x.1 (x.2 + 1) s) (Q s)) : ∀ s, I s → Re (fun x : Nat × Nat => l x.1 x.2 s) (Q s) := by
  have : ∀ a b s, (μ s).1 = a → (μ s).2 = b → I s → Re (fun x : Nat × Nat => l x.1 x.2 s) (Q s) := by
    intro a
    induction a using Nat.strongRecOn with
    | _ a iha =>
      intro b
      induction b using Nat.strongRecOn with
      | _ b ihb =>
        intro s h1 h2 hI
        obtain ⟨v, hv, K, hK⟩ := step s hI fun s' g1 g2 => by
          rcases g2 with g2 | ⟨g2, g3⟩
          · exact iha (μ s').1 (by omega) (μ s').2 s' rfl rfl g1
          · exact ihb (μ s').2 (by omega) s' (by omega) rfl g1
        refine ⟨v, hv, K + 1, fun x hx => ?_⟩
        obtain ⟨y, n⟩ := x
        obtain ⟨m, rfl⟩ : ∃ m, n = m + 1 := ⟨n - 1, by have := hx.2; simp only at this; omega⟩
        exact hK (y, m) ⟨Fuel.mono (Nat.le_succ K) hx.1, by have := hx.2; simp only at this ⊢; omega⟩
  exact fun s hI => this _ _ s rfl rfl hI
theorem iand255 (a : Int) : 0 ≤ iand .i64 a 255 ∧ iand .i64 a 255 < 256 := by
  have h : (BitVec.ofInt 64 a &&& BitVec.ofInt 64 255).toNat ≤ 255 := by
    rw [BitVec.toNat_and]
    exact Nat.and_le_right
  have e : iand .i64 a 255 = w64 (((BitVec.ofInt 64 a &&& BitVec.ofInt 64 255).toNat : Nat) : Int) := rfl
  rw [e, w64_eq (by omega) (by omega)]
  omega
/-- A draw's cursor. -/
def CurOk (c : TL01Cur) : Prop := 0 ≤ c.2.1 ∧ c.2.1 ≤ c.1.length ∧ c.1.length ≤ 1048576
theorem byte_re (c : TL01Cur) (h : CurOk c) : Re (fun k => s_l01Byte k c) (fun r => (0 ≤ r.1 ∧ r.1 < 256) ∧ CurOk r.2.1) := by
  obtain ⟨h1, h2, h3⟩ := h
  refine Re.brd (fun h4 => ?_) (fun h4 => ?_)
  · refine Re.gdd h1 (Re.gdd h4 (Re.ret ⟨iand255 _, ?_⟩))
    have : w64 (c.2.1 + 1) = c.2.1 + 1 := w64_eq (by omega) (by omega)
    exact ⟨by simp only [this]; omega, by simp only [this]; omega, h3⟩
  · exact Re.ret ⟨iand255 _, h1, h2, h3⟩
def Below (n : Int) (r : Int × TL01Cur × Unit) : Prop := (0 ≤ r.1 ∧ (r.1 < n ∨ n ≤ 0 ∧ r.1 = 0)) ∧ CurOk r.2.1
theorem below_re (c : TL01Cur) (n : Int) (h : CurOk c) : Re (fun k => s_l01Below k c n) (Below n) := by
  refine Re.brd (fun h1 => Re.ret ⟨⟨Int.le_refl 0, .inr ⟨h1, rfl⟩⟩, h⟩) (fun h1 => ?_)
  refine Re.brd (fun h2 => ?_) (fun h2 => ?_)
  · refine Re.b1 (byte_re c h) fun r hr => ?_
    refine Re.ng (by simp; omega) (Re.ret ⟨⟨Int.tmod_nonneg _ hr.1.1, .inl (Int.tmod_lt_of_pos _ (by omega))⟩, hr.2⟩)
  · refine Re.b1 (byte_re c h) fun r2 hr2 => ?_
    refine Re.b1 (byte_re _ hr2.2) fun r3 hr3 => ?_
    refine Re.b1 (byte_re _ hr3.2) fun r4 hr4 => ?_
    refine Re.b1 (byte_re _ hr4.2) fun r5 hr5 => ?_
    obtain ⟨⟨a1, a2⟩, _⟩ := hr2
    obtain ⟨⟨a3, a4⟩, _⟩ := hr3
    obtain ⟨⟨a5, a6⟩, _⟩ := hr4
    obtain ⟨⟨a7, a8⟩, _⟩ := hr5
    have e1 : w64 (r2.1 * 16777216) = r2.1 * 16777216 := w64_eq (by omega) (by omega)
    have e2 : w64 (r3.1 * 65536) = r3.1 * 65536 := w64_eq (by omega) (by omega)
    have e3 : w64 (r4.1 * 256) = r4.1 * 256 := w64_eq (by omega) (by omega)
    have e4 : w64 (r2.1 * 16777216 + r3.1 * 65536) = r2.1 * 16777216 + r3.1 * 65536 := w64_eq (by omega) (by omega)
    have e5 : w64 (r2.1 * 16777216 + r3.1 * 65536 + r4.1 * 256) = r2.1 * 16777216 + r3.1 * 65536 + r4.1 * 256 := w64_eq (by omega) (by omega)
    have e6 : w64 (r2.1 * 16777216 + r3.1 * 65536 + r4.1 * 256 + r5.1) = r2.1 * 16777216 + r3.1 * 65536 + r4.1 * 256 + r5.1 := w64_eq (by omega) (by omega)
    simp only [e1, e2, e3, e4, e5, e6]
    refine Re.ng (by simp; omega) (Re.ret ⟨⟨Int.tmod_nonneg _ (by omega), .inl (Int.tmod_lt_of_pos _ (by omega))⟩, ?_⟩)
    assumption
theorem once_re (c : TL01Cur) (n : Int) (h : CurOk c) : Re (fun k => s_l01Once k c n) (fun r => CurOk r.2.1) :=
  Re.b1 (below_re c n h) fun r hr => Re.ret hr.2
theorem pickInt_re (c : TL01Cur) (l : List Int) (h : CurOk c) (hl : l ≠ []) : Re (fun k => s_l01PickInt k c l) (fun r => r.1 ∈ l ∧ CurOk r.2.1) := by
  refine Re.b1 (below_re c l.length h) fun r hr => ?_
  obtain ⟨⟨h1, h2⟩, h3⟩ := hr
  have hl : 0 < l.length := List.length_pos_iff.2 hl
  have h4 : r.1 < l.length := by omega
  refine Re.gdd h1 (Re.gdd h4 (Re.ret ⟨?_, h3⟩))
  rw [rd_at (show r.1.toNat < l.length by omega)]
  exact List.getElem_mem _
theorem pick_re (c : TL01Cur) (l : List ByteArray) (h : CurOk c) (hl : l ≠ []) : Re (fun k => s_l01Pick k c l) (fun r => r.1 ∈ l ∧ CurOk r.2.1) := by
  refine Re.b1 (below_re c l.length h) fun r hr => ?_
  obtain ⟨⟨h1, h2⟩, h3⟩ := hr
  have hl : 0 < l.length := List.length_pos_iff.2 hl
  have h4 : r.1 < l.length := by omega
  refine Re.gdd h1 (Re.gdd h4 (Re.ret ⟨?_, h3⟩))
  rw [rd_at (show r.1.toNat < l.length by omega)]
  exact List.getElem_mem _
/-- The cursor of a draw is made anew. -/
theorem new_re {R : Type} {l : Nat → Nat → Int → Int → Option R} {h : Int → Int → Int} {C : Nat → Int → Option R} {Q : R → Prop} (a : List Int) (ha : a.length ≤ 1048576)
    (hs : ∀ k n v1 v2, l k (n + 1) v1 v2 = br (decide (v2 < (a.length : Int))) (br (decide (v2 < 4000)) (gd (decide (0 ≤ v2)) (gd (decide (v2 < (a.length : Int))) (l k n (h v1 v2) (w64 (v2 + 1))))) (C k v1)) (C k v1))
    (hC : ∀ c : Int, CurOk (a, 0, c, ()) → Re (fun k : Nat => C k c) Q) (v : Int) : Re (fun k => l k k v 0) Q := by
  have hc : ∀ c : Int, Re (fun x : Nat × Nat => C x.1 c) Q := fun c => Re.up (hC c ⟨Int.le_refl 0, by show (0 : Int) ≤ _; omega, ha⟩)
  refine Re.enter (f := fun k n => l k n v 0) among_nat ?_
  have := Re.loop (ι := Nat) (l := fun k n (s : Int × Int) => l k n s.1 s.2) (I := fun s => 0 ≤ s.2 ∧ s.2 ≤ a.length) (fun s => (a.length - s.2).toNat) (Q := fun _ v => Q v) (fun s hi ih => by
    obtain ⟨v1, v2⟩ := s
    simp only at hi
    simp only [hs]
    refine Re.brd (fun h1 => ?_) (fun h1 => hc _)
    refine Re.brd (fun h2 => ?_) (fun h2 => hc _)
    have e : w64 (v2 + 1) = v2 + 1 := w64_eq (by omega) (by omega)
    refine Re.gdd hi.1 (Re.gdd h1 ?_)
    rw [e]
    exact ih (h v1 v2, v2 + 1) (by simp only; omega) (by simp only; omega)) (v, 0) ⟨Int.le_refl 0, by simp only; omega⟩
  exact this
theorem CurOk.eta {c : TL01Cur} (h : CurOk c) : CurOk (c.1, c.2.1, c.2.2.1, ()) := h
/-- What is drawn of an event's body. -/
def Bodied (e : TEvent) : Prop := e.1 = 0 ∧ (e.2.1 = 2 ∨ e.2.1 = 3 ∨ e.2.1 = 4 ∨ e.2.1 = 5) ∧ (1 ≤ e.2.2.1 ∧ e.2.2.1 ≤ 3) ∧ (0 ≤ e.2.2.2.1 ∧ e.2.2.2.1 ≤ 4) ∧ (0 ≤ e.2.2.2.2.1 ∧ e.2.2.2.2.1 ≤ 3) ∧ (e.2.1 = 3 → e.2.2.2.2.2.1.length = 5) ∧ (e.2.1 ≠ 3 → e.2.2.2.2.2.1 = []) ∧ e.2.2.2.2.2.2.1.size ≤ 5 ∧ e.2.2.2.2.2.2.2.1 = [] ∧ e.2.2.2.2.2.2.2.2.1 = 0
theorem below3 {r : Int × TL01Cur × Unit} (h : Below 3 r) : w64 (1 + r.1) = 1 + r.1 ∧ 1 ≤ 1 + r.1 ∧ 1 + r.1 ≤ 3 := by
  obtain ⟨⟨h1, h2⟩, _⟩ := h
  have : r.1 < 3 := by omega
  exact ⟨w64_eq (by omega) (by omega), by omega, by omega⟩
theorem bodied_re (c : TL01Cur) (h : CurOk c) : Re (fun k => s_l09Bodied k c) (fun r => Bodied r.1 ∧ CurOk r.2.1) := by
  refine Re.b1 (pickInt_re c _ h (by simp)) fun r1 h1 => ?_
  refine Re.b1 (below_re _ 3 h1.2) fun r2 h2 => ?_
  obtain ⟨w, w1, w2⟩ := below3 h2
  have c2 := h2.2
  obtain ⟨hk, h1c⟩ := h1
  simp only [List.mem_cons, List.not_mem_nil, or_false] at hk
  refine Re.bre (fun o2 => ?_) (fun o2 => ?_)
  · refine Re.b1 (below_re _ 4 c2) fun r3 h3 => ?_
    have e3 : w64 (1 + r3.1) = 1 + r3.1 := by obtain ⟨⟨q1, q2⟩, _⟩ := h3; exact w64_eq (by omega) (by omega)
    have b3 : 0 ≤ 1 + r3.1 ∧ 1 + r3.1 ≤ 4 := by obtain ⟨⟨q1, q2⟩, _⟩ := h3; omega
    refine Re.b1 (once_re _ 2 h3.2) fun r4 h4 => ?_
    rw [w, e3]
    refine Re.brb ?_ ?_
    · refine Re.b1 (pickInt_re _ _ h4 (List.cons_ne_nil _ _)) fun r5 h5 => ?_
      obtain ⟨g5, c5⟩ := h5
      simp only [List.mem_cons, List.not_mem_nil, or_false] at g5
      have m5 : 0 ≤ r5.1 ∧ r5.1 ≤ 3 := by omega
      refine Re.brb (Re.brb ?_ ?_) ?_ <;> exact Re.ret ⟨⟨rfl, .inl o2, ⟨w1, w2⟩, ⟨by simp only; omega, by simp only; omega⟩, by simp only; omega, fun h => absurd (o2.symm.trans h) (by decide), fun _ => rfl, by simp only; decide, rfl, rfl⟩, c5⟩
    · refine Re.b1 (pickInt_re _ _ h4 (List.cons_ne_nil _ _)) fun r5 h5 => ?_
      obtain ⟨g5, c5⟩ := h5
      simp only [List.mem_cons, List.not_mem_nil, or_false] at g5
      have m5 : 0 ≤ r5.1 ∧ r5.1 ≤ 3 := by omega
      refine Re.brb (Re.brb ?_ ?_) ?_ <;> exact Re.ret ⟨⟨rfl, .inl o2, ⟨w1, w2⟩, ⟨by simp only; omega, by simp only; omega⟩, by simp only; omega, fun h => absurd (o2.symm.trans h) (by decide), fun _ => rfl, by simp only; decide, rfl, rfl⟩, c5⟩
  refine Re.bre (fun o3 => ?_) (fun o3 => ?_)
  · refine Re.enter (f := fun k n => l0_s_l09Bodied k n 0 r2.2.1.1 r2.2.1.2.1 r2.2.1.2.2.1 r1 r2 []) among_nat ?_
    have := Re.loop (ι := Nat) (l := fun k n (s : Int × TL01Cur × List Int) => l0_s_l09Bodied k n s.1 s.2.1.1 s.2.1.2.1 s.2.1.2.2.1 r1 r2 s.2.2) (I := fun s => s.1 = s.2.2.length ∧ s.2.2.length ≤ 5 ∧ CurOk s.2.1) (fun s => 5 - s.2.2.length) (Q := fun _ r => Bodied r.1 ∧ CurOk r.2.1) (fun s hi ih => by
      obtain ⟨i, c, xs⟩ := s
      obtain ⟨hi1, hi2, hi3⟩ := hi
      simp only at hi1 hi2 hi3 ih ⊢
      simp only [l0_s_l09Bodied, b0_s_l09Bodied]
      refine Re.brd (fun q1 => ?_) (fun q1 => ?_)
      · refine Re.b2 (pickInt_re _ _ hi3.eta (List.cons_ne_nil _ _)) fun r7 h7 => ?_
        refine Re.gdd (by simp [maxRow]; omega) ?_
        have e : w64 (i + 1) = i + 1 := w64_eq (by omega) (by omega)
        rw [e]
        exact ih (i + 1, r7.2.1, xs ++ [r7.1]) ⟨by simp; omega, by simp; omega, h7.2⟩ (by simp; omega)
      · refine Re.b2 (once_re _ 2 hi3.eta) fun r8 h8 => ?_
        rw [w]
        have hx : xs.length = 5 := by omega
        refine Re.brb (Re.gdd (by omega) (Re.ret ?_)) (Re.ret ?_)
        · exact ⟨⟨rfl, .inr (.inl o3), ⟨w1, w2⟩, ⟨by simp only; omega, by simp only; omega⟩, by simp only; omega, fun _ => by simp only [List.length_set]; exact hx, fun h => absurd o3 h, by simp only; decide, rfl, rfl⟩, h8⟩
        · exact ⟨⟨rfl, .inr (.inl o3), ⟨w1, w2⟩, ⟨by simp only; omega, by simp only; omega⟩, by simp only; omega, fun _ => hx, fun h => absurd o3 h, by simp only; decide, rfl, rfl⟩, h8⟩) (0, r2.2.1, []) ⟨rfl, by simp, c2⟩
    exact this
  rw [w]
  have hno : r1.1 ≠ 3 := o3
  refine Re.bre (fun o4 => ?_) (fun o4 => ?_)
  · refine Re.b1 (pick_re _ _ c2 (List.cons_ne_nil _ _)) fun r9 h9 => Re.ret ?_
    have hs : r9.1.size ≤ 5 := by
      have := h9.1
      simp only [List.mem_cons, List.not_mem_nil, or_false] at this
      rcases this with e | e | e | e <;> (rw [e]; decide)
    exact ⟨⟨rfl, .inr (.inr (.inl o4)), ⟨w1, w2⟩, ⟨by simp only; omega, by simp only; omega⟩, by simp only; omega, fun h => absurd h hno, fun _ => rfl, hs, rfl, rfl⟩, h9.2⟩
  have o5 : r1.1 = 5 := by omega
  refine Re.bre (fun _ => ?_) (fun h => absurd o5 h)
  refine Re.b1 (pick_re _ _ c2 (List.cons_ne_nil _ _)) fun r9 h9 => Re.ret ?_
  have hs : r9.1.size ≤ 5 := by
    have := h9.1
    simp only [List.mem_cons, List.not_mem_nil, or_false] at this
    rcases this with e | e | e | e <;> (rw [e]; decide)
  exact ⟨⟨rfl, .inr (.inr (.inr o5)), ⟨w1, w2⟩, ⟨by simp only; omega, by simp only; omega⟩, by simp only; omega, fun h => absurd h hno, fun _ => rfl, hs, rfl, rfl⟩, h9.2⟩
theorem long_re (n a : Int) (h0 : 0 ≤ n) (h : n ≤ 1048576) : Re (fun k => s_l01Long k n a) (fun r => r.size = n.toNat) := by
  refine Re.gdd rfl (Re.gdd h0 (Re.gdd (by unfold maxRow; omega) ?_))
  refine Re.enter (f := fun k m => l0_s_l01Long k m n a 0 (List.replicate n.toNat 0)) among_nat ?_
  have := Re.loop (ι := Nat) (l := fun k m (s : Int × List Int) => l0_s_l01Long k m n a s.1 s.2) (I := fun s => 0 ≤ s.1 ∧ s.2.length = n.toNat) (fun s => (n - s.1).toNat) (Q := fun _ r => r.size = n.toNat) (fun s hi ih => by
    obtain ⟨i, xs⟩ := s
    obtain ⟨h1, h2⟩ := hi
    simp only at h1 h2 ih ⊢
    simp only [l0_s_l01Long, b0_s_l01Long]
    refine Re.brd (fun q => ?_) (fun q => Re.ret (by rw [strOfNums_size]; exact h2))
    refine Re.gdd h1 (Re.gdd (by omega) ?_)
    have e : w64 (i + 1) = i + 1 := w64_eq (by omega) (by omega)
    rw [e]
    exact ih (i + 1, xs.set i.toNat a) ⟨by simp only; omega, by simpa using h2⟩ (by simp only; omega)) (0, List.replicate n.toNat 0) ⟨Int.le_refl 0, by simp⟩
  exact this
/-- What is drawn of an event: it is small. -/
def Small (e : TEvent) : Prop := e.2.2.2.2.2.1.length ≤ 6 ∧ e.2.2.2.2.2.2.1.size ≤ 25 ∧ e.2.2.2.2.2.2.2.1.length ≤ 4
set_option maxRecDepth 20000 in
theorem any_re (c : TL01Cur) (h : CurOk c) : Re (fun k => s_l09Any k c) (fun r => Small r.1 ∧ CurOk r.2.1) := by
  refine Re.b1 (bodied_re c h) fun r1 h1 => ?_
  obtain ⟨⟨b0, b1, b2, b3, b4, b5, b6, b7, b8, b9⟩, c1⟩ := h1
  have hl : r1.1.2.2.2.2.2.1.length ≤ 5 := by
    by_cases h3 : r1.1.2.1 = 3
    · have := b5 h3; omega
    · rw [b6 h3]; simp
  refine Re.b1 (below_re _ 50 c1) fun r2 h2 => ?_
  refine Re.b1 (below_re _ 9 h2.2) fun r3 h3 => ?_
  rw [b8]
  refine Re.enter (f := fun k n => l0_s_l09Any k n 0 r3.2.1.1 r3.2.1.2.1 r3.2.1.2.2.1 r2 r1 r3 []) among_nat ?_
  have := Re.loop (ι := Nat) (l := fun k n (s : Int × TL01Cur × List Int) => l0_s_l09Any k n s.1 s.2.1.1 s.2.1.2.1 s.2.1.2.2.1 r2 r1 r3 s.2.2) (I := fun s => s.1 = s.2.2.length ∧ s.2.2.length ≤ 3 ∧ CurOk s.2.1) (fun s => 3 - s.2.2.length) (Q := fun _ r => Small r.1 ∧ CurOk r.2.1) (fun s hi ih => by
    obtain ⟨i, c, xs⟩ := s
    obtain ⟨hi1, hi2, hi3⟩ := hi
    simp only at hi1 hi2 hi3 ih ⊢
    simp only [l0_s_l09Any, b0_s_l09Any]
    refine Re.b2 (below_re _ 3 hi3.eta) fun r4 h4 => ?_
    obtain ⟨w, w1, w2⟩ := below3 h4
    rw [w]
    refine Re.brd (fun q1 => ?_) (fun q1 => ?_)
    · have e : w64 (i + 1) = i + 1 := w64_eq (by omega) (by omega)
      refine Re.brd (fun q2 => ?_) (fun q2 => ?_)
      · have e1 : w64 (i - 1) = i - 1 := w64_eq (by omega) (by omega)
        rw [e1]
        refine Re.gdd (by omega) (Re.gdd (by omega) ?_)
        refine Re.b2 (below_re _ 9 h4.2) fun r5 h5 => ?_
        refine Re.gdd (by simp [maxRow]; omega) ?_
        rw [e]
        exact ih (i + 1, r5.2.1, xs ++ [_]) ⟨by simp; omega, by simp; omega, h5.2⟩ (by simp; omega)
      · refine Re.b2 (below_re _ 9 h4.2) fun r5 h5 => ?_
        refine Re.gdd (by simp [maxRow]; omega) ?_
        rw [e]
        exact ih (i + 1, r5.2.1, xs ++ [_]) ⟨by simp; omega, by simp; omega, h5.2⟩ (by simp; omega)
    · refine Re.b2 (below_re _ 30 h4.2) fun r7 h7 => ?_
      have c7 := h7.2
      refine Re.bre (fun _ => Re.b2 (pickInt_re _ _ c7 (List.cons_ne_nil _ _)) fun r h => Re.ret ⟨⟨by simp only; omega, by simp only; omega, by simp only; omega⟩, h.2⟩) (fun _ => ?_)
      refine Re.bre (fun _ => Re.b2 (pickInt_re _ _ c7 (List.cons_ne_nil _ _)) fun r h => Re.ret ⟨⟨by simp only; omega, by simp only; omega, by simp only; omega⟩, h.2⟩) (fun _ => ?_)
      refine Re.bre (fun _ => Re.b2 (pickInt_re _ _ c7 (List.cons_ne_nil _ _)) fun r h => Re.ret ⟨⟨by simp only; omega, by simp only; omega, by simp only; omega⟩, h.2⟩) (fun _ => ?_)
      refine Re.bre (fun _ => Re.b2 (pickInt_re _ _ c7 (List.cons_ne_nil _ _)) fun r h => Re.ret ⟨⟨by simp only; omega, by simp only; omega, by simp only; omega⟩, h.2⟩) (fun _ => ?_)
      refine Re.bre (fun _ => Re.b2 (pickInt_re _ _ c7 (List.cons_ne_nil _ _)) fun r h => Re.gdd (by simp [maxRow]; omega) (Re.ret ⟨⟨by simp; omega, by simp only; omega, by simp only; omega⟩, h.2⟩)) (fun _ => ?_)
      refine Re.bre (fun _ => Re.b2 (below_re _ 2 c7) fun r13 h => ?_) (fun _ => ?_)
      · obtain ⟨⟨g1, g2⟩, g3⟩ := h
        have e : w64 (24 + r13.1) = 24 + r13.1 := w64_eq (by omega) (by omega)
        rw [e]
        exact Re.b2 (long_re _ 65 (by omega) (by omega)) fun r14 g => Re.ret ⟨⟨by simp only; omega, by simp only; omega, by simp only; omega⟩, g3⟩
      refine Re.bre (fun _ => Re.b2 (pickInt_re _ _ c7 (List.cons_ne_nil _ _)) fun r h => Re.gdd (by simp [maxRow]; omega) (Re.ret ⟨⟨by simp only; omega, by simp only; omega, by simp; omega⟩, h.2⟩)) (fun _ => ?_)
      refine Re.bre (fun _ => Re.b2 (pickInt_re _ _ c7 (List.cons_ne_nil _ _)) fun r h => Re.ret ⟨⟨by simp only; omega, by simp only; omega, by simp only; omega⟩, h.2⟩) (fun _ => ?_)
      refine Re.bre (fun _ => Re.b2 (pickInt_re _ _ c7 (List.cons_ne_nil _ _)) fun r h => Re.ret ⟨⟨by simp only; omega, by simp only; omega, by simp only; omega⟩, h.2⟩) (fun _ => ?_)
      refine Re.bre (fun _ => Re.b2 (below_re _ 9 c7) fun r18 h => Re.b2 (below_re _ 3 h.2) fun r19 g => Re.ret ⟨⟨by simp, by simp only; decide, by simp⟩, g.2⟩) (fun _ => ?_)
      exact Re.ret ⟨⟨by simp only; omega, by simp only; omega, by simp only; omega⟩, c7⟩) (0, r3.2.1, []) ⟨rfl, by simp, h3.2⟩
  exact this
end Go.Vm
