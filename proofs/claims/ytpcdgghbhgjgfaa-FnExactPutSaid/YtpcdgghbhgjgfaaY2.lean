/- Plain laws. -/
import Derived.Test.YtpcdgghbhgjgfaaE2
import Derived.Test.YtpcdgghbhgjgfaaWm
set_option linter.unusedVariables false
set_option linter.unusedSimpArgs false
namespace Go.Vm
open Go
theorem Re.b1 {α R : Type} {g : Nat → Option α} {F : Nat → α → Option R} {P : α → Prop} {Q : R → Prop} (h : Re g P) (h2 : ∀ a, P a → Re (fun k => F k a) Q) : Re (fun k => Vm.bd (g k) (F k)) Q := Re.bd among_nat h h2
theorem Re.b2 {α R : Type} {g : Nat → Option α} {F : Nat × Nat → α → Option R} {P : α → Prop} {Q : R → Prop} (h : Re g P) (h2 : ∀ a, P a → Re (fun x => F x a) Q) : Re (fun x : Nat × Nat => Vm.bd (g x.1) (F x)) Q := Re.bd (among_fst among_nat) h h2
theorem Re.c1 {α R : Type} {g : Nat → Option α} {F : Nat → α → Option R} {v : α} {Q : R → Prop} (h : Ev g v) (h2 : Re (fun k => F k v) Q) : Re (fun k => Vm.bd (g k) (F k)) Q := Re.b1 (P := fun a => a = v) (Ev.re h rfl) fun a ha => by subst ha; exact h2
theorem Re.s1 {α R : Type} {g : Nat → Option α} {F : Nat → α → Option R} {v : α} {Q : R → Prop} (h : ∀ k, g k = some v) (h2 : Re (fun k => F k v) Q) : Re (fun k => Vm.bd (g k) (F k)) Q := Re.c1 (Ev.of h) h2
theorem Re.yes {b : Bool} (h : b = true) : Re (fun _ : Nat => some b) (fun v => v = true) := Re.ret h
theorem beq_ne0 {a b : Int} (h : a ≠ b) : (a == b) = false := by simpa using h
theorem Re.s2 {α R : Type} {g : Nat → Option α} {F : Nat × Nat → α → Option R} {v : α} {Q : R → Prop} (h : ∀ k, g k = some v) (h2 : Re (fun x => F x v) Q) : Re (fun x : Nat × Nat => Vm.bd (g x.1) (F x)) Q := Re.b2 (P := fun a => a = v) (Ev.re (Ev.of h) rfl) fun a ha => by subst ha; exact h2
theorem Re.c2 {α R : Type} {g : Nat → Option α} {F : Nat × Nat → α → Option R} {v : α} {Q : R → Prop} (h : Ev g v) (h2 : Re (fun x => F x v) Q) : Re (fun x : Nat × Nat => Vm.bd (g x.1) (F x)) Q := Re.b2 (P := fun a => a = v) (Ev.re h rfl) fun a ha => by subst ha; exact h2
theorem Re.gdd {ι R : Type} [Fuel ι] {p : Prop} [Decidable p] {f : ι → Option R} {Q : R → Prop} (hp : p) (h : Re f Q) : Re (fun x => Vm.gd (decide p) (f x)) Q := Re.gd (decide_eq_true hp) h
theorem Re.brd {ι R : Type} [Fuel ι] {p : Prop} [Decidable p] {f g : ι → Option R} {Q : R → Prop} (h1 : p → Re f Q) (h2 : ¬ p → Re g Q) : Re (fun x => Vm.br (decide p) (f x) (g x)) Q := Re.br (fun h => h1 (of_decide_eq_true h)) (fun h => h2 (of_decide_eq_false h))
theorem Re.bre {ι R : Type} [Fuel ι] {a b : Int} {f g : ι → Option R} {Q : R → Prop} (h1 : a = b → Re f Q) (h2 : a ≠ b → Re g Q) : Re (fun x => Vm.br (a == b) (f x) (g x)) Q := Re.br (fun h => h1 (by simpa using h)) (fun h => h2 (by simpa using h))
theorem Re.brn {ι R : Type} [Fuel ι] {a b : Int} {f g : ι → Option R} {Q : R → Prop} (h1 : a ≠ b → Re f Q) (h2 : a = b → Re g Q) : Re (fun x => Vm.br (a != b) (f x) (g x)) Q := Re.br (fun h => h1 (by simpa using h)) (fun h => h2 (by simpa using h))
theorem Re.brb {ι R : Type} [Fuel ι] {b : Bool} {f g : ι → Option R} {Q : R → Prop} (h1 : Re f Q) (h2 : Re g Q) : Re (fun x => Vm.br b (f x) (g x)) Q := Re.br (fun _ => h1) (fun _ => h2)
/-- Loops that need each other: with one more fuel. -/
theorem Re.wf {σ R : Type} {l : Nat → Nat → σ → Option R} {I : σ → Prop} (μ : σ → Nat × Nat) {Q : σ → R → Prop}
    (step : ∀ s, I s → (∀ s', I s' → ((μ s').1 < (μ s).1 ∨ ((μ s').1 = (μ s).1 ∧ (μ s').2 < (μ s).2)) → Re (fun x : Nat × Nat => l x.1 x.2 s') (Q s')) → Re (fun x : Nat × Nat => l x.1 (x.2 + 1) s) (Q s)) : ∀ s, I s → Re (fun x : Nat × Nat => l x.1 x.2 s) (Q s) := by
  have : ∀ a b s, (μ s).1 = a → (μ s).2 = b → I s → Re (fun x : Nat × Nat => l x.1 x.2 s) (Q s) := by
    intro a
    induction a using Nat.strongRecOn with
    | _ a iha =>
      intro b
      induction b using Nat.strongRecOn with
      | _ b ihb =>
        intro s h1 h2 hI
        obtain ⟨v, hv, K, hK⟩ := step s hI fun s' g1 g2 => by
          rcases g2 with g2 | ⟨g2, g3⟩
          · exact iha (μ s').1 (by omega) (μ s').2 s' rfl rfl g1
          · exact ihb (μ s').2 (by omega) s' (by omega) rfl g1
        refine ⟨v, hv, K + 1, fun x hx => ?_⟩
        obtain ⟨y, n⟩ := x
        obtain ⟨m, rfl⟩ : ∃ m, n = m + 1 := ⟨n - 1, by have := hx.2; simp only at this; omega⟩
        exact hK (y, m) ⟨Fuel.mono (Nat.le_succ K) hx.1, by have := hx.2; simp only at this ⊢; omega⟩
  exact fun s hI => this _ _ s rfl rfl hI
theorem iand255 (a : Int) : 0 ≤ iand .i64 a 255 ∧ iand .i64 a 255 < 256 := by
  have h : (BitVec.ofInt 64 a &&& BitVec.ofInt 64 255).toNat ≤ 255 := by
    rw [BitVec.toNat_and]
    exact Nat.and_le_right
  have e : iand .i64 a 255 = w64 (((BitVec.ofInt 64 a &&& BitVec.ofInt 64 255).toNat : Nat) : Int) := rfl
  rw [e, w64_eq (by omega) (by omega)]
  omega
/-- A draw's cursor. -/
def CurOk (c : TL01Cur) : Prop := 0 ≤ c.2.1 ∧ c.2.1 ≤ c.1.length ∧ c.1.length ≤ 1048576
def Below (n : Int) (r : Int × TL01Cur × Unit) : Prop := (0 ≤ r.1 ∧ (r.1 < n ∨ n ≤ 0 ∧ r.1 = 0)) ∧ CurOk r.2.1
/-- The cursor of a draw is made anew. -/
theorem new_re {R : Type} {l : Nat → Nat → Int → Int → Option R} {h : Int → Int → Int} {C : Nat → Int → Option R} {Q : R → Prop} (a : List Int) (ha : a.length ≤ 1048576)
    (hs : ∀ k n v1 v2, l k (n + 1) v1 v2 = br (decide (v2 < (a.length : Int))) (br (decide (v2 < 4000)) (gd (decide (0 ≤ v2)) (gd (decide (v2 < (a.length : Int))) (l k n (h v1 v2) (w64 (v2 + 1))))) (C k v1)) (C k v1))
    (hC : ∀ c : Int, CurOk (a, 0, c, ()) → Re (fun k : Nat => C k c) Q) (v : Int) : Re (fun k => l k k v 0) Q := by
  have hc : ∀ c : Int, Re (fun x : Nat × Nat => C x.1 c) Q := fun c => Re.up (hC c ⟨Int.le_refl 0, by show (0 : Int) ≤ _; omega, ha⟩)
  refine Re.enter (f := fun k n => l k n v 0) among_nat ?_
  have := Re.loop (ι := Nat) (l := fun k n (s : Int × Int) => l k n s.1 s.2) (I := fun s => 0 ≤ s.2 ∧ s.2 ≤ a.length) (fun s => (a.length - s.2).toNat) (Q := fun _ v => Q v) (fun s hi ih => by
    obtain ⟨v1, v2⟩ := s
    simp only at hi
    simp only [hs]
    refine Re.brd (fun h1 => ?_) (fun h1 => hc _)
    refine Re.brd (fun h2 => ?_) (fun h2 => hc _)
    have e : w64 (v2 + 1) = v2 + 1 := w64_eq (by omega) (by omega)
    refine Re.gdd hi.1 (Re.gdd h1 ?_)
    rw [e]
    exact ih (h v1 v2, v2 + 1) (by simp only; omega) (by simp only; omega)) (v, 0) ⟨Int.le_refl 0, by simp only; omega⟩
  exact this
theorem CurOk.eta {c : TL01Cur} (h : CurOk c) : CurOk (c.1, c.2.1, c.2.2.1, ()) := h
/-- What is drawn of an event's body. -/
def Bodied (e : TEvent) : Prop := e.1 = 0 ∧ (e.2.1 = 2 ∨ e.2.1 = 3 ∨ e.2.1 = 4 ∨ e.2.1 = 5) ∧ (1 ≤ e.2.2.1 ∧ e.2.2.1 ≤ 3) ∧ (0 ≤ e.2.2.2.1 ∧ e.2.2.2.1 ≤ 4) ∧ (0 ≤ e.2.2.2.2.1 ∧ e.2.2.2.2.1 ≤ 3) ∧ (e.2.1 = 3 → e.2.2.2.2.2.1.length = 5) ∧ (e.2.1 ≠ 3 → e.2.2.2.2.2.1 = []) ∧ e.2.2.2.2.2.2.1.size ≤ 5 ∧ e.2.2.2.2.2.2.2.1 = [] ∧ e.2.2.2.2.2.2.2.2.1 = 0
theorem below3 {r : Int × TL01Cur × Unit} (h : Below 3 r) : w64 (1 + r.1) = 1 + r.1 ∧ 1 ≤ 1 + r.1 ∧ 1 + r.1 ≤ 3 := by
  obtain ⟨⟨h1, h2⟩, _⟩ := h
  have : r.1 < 3 := by omega
  exact ⟨w64_eq (by omega) (by omega), by omega, by omega⟩
theorem extract_le (a : ByteArray) (i j : Nat) : (a.extract i j).size ≤ a.size := by
  rw [ByteArray.size_extract]; omega
/-- What is drawn of an event: it is small. -/
def Small (e : TEvent) : Prop := e.2.2.2.2.2.1.length ≤ 6 ∧ e.2.2.2.2.2.2.1.size ≤ 25 ∧ e.2.2.2.2.2.2.2.1.length ≤ 4
end Go.Vm
