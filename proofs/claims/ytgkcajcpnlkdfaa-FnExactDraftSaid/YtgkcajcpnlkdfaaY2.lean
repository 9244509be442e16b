/- Plain laws. -/
import Derived.Test.YtgkcajcpnlkdfaaE2
import Derived.Test.YtgkcajcpnlkdfaaWm
set_option linter.unusedVariables false
set_option linter.unusedSimpArgs false
namespace Go.Vm
open Go
theorem Re.b1 {α R : Type} {g : Nat → Option α} {F : Nat → α → Option R} {P : α → Prop} {Q : R → Prop} (h : Re g P) (h2 : ∀ a, P a → Re (fun k => F k a) Q) : Re (fun k => Vm.bd (g k) (F k)) Q := Re.bd among_nat h h2
theorem Re.b2 {α R : Type} {g : Nat → Option α} {F : Nat × Nat → α → Option R} {P : α → Prop} {Q : R → Prop} (h : Re g P) (h2 : ∀ a, P a → Re (fun x => F x a) Q) : Re (fun x : Nat × Nat => Vm.bd (g x.1) (F x)) Q := Re.bd (among_fst among_nat) h h2
theorem Re.c1 {α R : Type} {g : Nat → Option α} {F : Nat → α → Option R} {v : α} {Q : R → Prop} (h : Ev g v) (h2 : Re (fun k => F k v) Q) : Re (fun k => Vm.bd (g k) (F k)) Q := Re.b1 (P := fun a => a = v) (Ev.re h rfl) fun a ha => by subst ha; exact h2
theorem Re.s1 {α R : Type} {g : Nat → Option α} {F : Nat → α → Option R} {v : α} {Q : R → Prop} (h : ∀ k, g k = some v) (h2 : Re (fun k => F k v) Q) : Re (fun k => Vm.bd (g k) (F k)) Q := Re.c1 (Ev.of h) h2
theorem Re.s2 {α R : Type} {g : Nat → Option α} {F : Nat × Nat → α → Option R} {v : α} {Q : R → Prop} (h : ∀ k, g k = some v) (h2 : Re (fun x => F x v) Q) : Re (fun x : Nat × Nat => Vm.bd (g x.1) (F x)) Q := Re.b2 (P := fun a => a = v) (Ev.re (Ev.of h) rfl) fun a ha => by subst ha; exact h2
theorem Re.c2 {α R : Type} {g : Nat → Option α} {F : Nat × Nat → α → Option R} {v : α} {Q : R → Prop} (h : Ev g v) (h2 : Re (fun x => F x v) Q) : Re (fun x : Nat × Nat => Vm.bd (g x.1) (F x)) Q := Re.b2 (P := fun a => a = v) (Ev.re h rfl) fun a ha => by subst ha; exact h2
theorem Re.gdd {ι R : Type} [Fuel ι] {p : Prop} [Decidable p] {f : ι → Option R} {Q : R → Prop} (hp : p) (h : Re f Q) : Re (fun x => Vm.gd (decide p) (f x)) Q := Re.gd (decide_eq_true hp) h
theorem Re.brd {ι R : Type} [Fuel ι] {p : Prop} [Decidable p] {f g : ι → Option R} {Q : R → Prop} (h1 : p → Re f Q) (h2 : ¬ p → Re g Q) : Re (fun x => Vm.br (decide p) (f x) (g x)) Q := Re.br (fun h => h1 (of_decide_eq_true h)) (fun h => h2 (of_decide_eq_false h))
theorem Re.bre {ι R : Type} [Fuel ι] {a b : Int} {f g : ι → Option R} {Q : R → Prop} (h1 : a = b → Re f Q) (h2 : a ≠ b → Re g Q) : Re (fun x => Vm.br (a == b) (f x) (g x)) Q := Re.br (fun h => h1 (by simpa using h)) (fun h => h2 (by simpa using h))
theorem Re.brn {ι R : Type} [Fuel ι] {a b : Int} {f g : ι → Option R} {Q : R → Prop} (h1 : a ≠ b → Re f Q) (h2 : a = b → Re g Q) : Re (fun x => Vm.br (a != b) (f x) (g x)) Q := Re.br (fun h => h1 (by simpa using h)) (fun h => h2 (by simpa using h))
/-- Loops that need each other: with one more fuel. -/
theorem Re.wf {σ R : Type} {l : Nat → Nat → σ → Option R} {I : σ → Prop} (μ : σ → Nat × Nat) {Q : σ → R → Prop}
    (step : ∀ s, I s → (∀ s', I s' → ((μ s').1 < (μ s).1 ∨ ((μ s').1 = (μ s).1 ∧ (μ s').2 < (μ s).2)) → Re (fun x : Nat × Nat => l x.1 x.2 s') (Q s')) → Re (fun x : Nat × Nat => l x.1 (x.2 + 1) s) (Q s)) : ∀ s, I s → Re (fun x : Nat × Nat => l x.1 x.2 s) (Q s) := by
  have : ∀ a b s, (μ s).1 = a → (μ s).2 = b → I s → Re (fun x : Nat × Nat => l x.1 x.2 s) (Q s) := by
    intro a
    induction a using Nat.strongRecOn with
    | _ a iha =>
      intro b
      induction b using Nat.strongRecOn with
      | _ b ihb =>
        intro s h1 h2 hI
        obtain ⟨v, hv, K, hK⟩ := step s hI fun s' g1 g2 => by
          rcases g2 with g2 | ⟨g2, g3⟩
          · exact iha (μ s').1 (by omega) (μ s').2 s' rfl rfl g1
          · exact ihb (μ s').2 (by omega) s' (by omega) rfl g1
        refine ⟨v, hv, K + 1, fun x hx => ?_⟩
        obtain ⟨y, n⟩ := x
        obtain ⟨m, rfl⟩ : ∃ m, n = m + 1 := ⟨n - 1, by have := hx.2; simp only at this; omega⟩
        exact hK (y, m) ⟨Fuel.mono (Nat.le_succ K) hx.1, by have := hx.2; simp only at this ⊢; omega⟩
  exact fun s hI => this _ _ s rfl rfl hI
end Go.Vm
