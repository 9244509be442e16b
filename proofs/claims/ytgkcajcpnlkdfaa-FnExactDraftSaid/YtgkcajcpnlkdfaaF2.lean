/- Plain laws. -/
import Derived.Test.YtgkcajcpnlkdfaaC2
set_option linter.unusedVariables false
set_option linter.unusedSimpArgs false
namespace Go.Vm
open Go
/-! ### What is ahead -/
def heavy (e : TEvent) : Bool := e.2.1 == 3 || (e.2.1 == 2 && ((e.2.2.2.2.1 == 0 || e.2.2.2.2.1 == 3) && e.2.2.1 != e.2.2.2.1))
def heavier (es : List TEvent) (s : List TItem) (a b : TEvent) : Bool :=
  bif heavy a == heavy b then (if level es s a.2.2.1 = level es s b.2.2.1 then (if a.2.2.2.2.2.2.2.2.1 = b.2.2.2.2.2.2.2.2.1 then decide (a.1 < b.1) else decide (a.2.2.2.2.2.2.2.2.1 < b.2.2.2.2.2.2.2.2.1)) else decide (level es s a.2.2.1 > level es s b.2.2.1)) else heavy a
def found (es : List TEvent) (x : Int) : Prop := (findE es x).2 = true
def prevsOf (es : List TEvent) (x : Int) : List Int := (findE es x).1.2.2.2.2.2.2.2.1
/-- Ahead of an event, by Prev. -/
inductive Anc (es : List TEvent) (id : Int) : Int → Prop where
  | one {x : Int} : x ∈ prevsOf es id → found es x → Anc es id x
  | more {x y : Int} : Anc es id y → x ∈ prevsOf es y → found es x → Anc es id x
theorem found_mem {es : List TEvent} {x : Int} (h : found es x) : x ∈ es.map fun e => e.1 := by
  unfold found findE at h
  cases hf : es.find? fun e => e.1 == x with
  | none => rw [hf] at h; cases h
  | some e =>
    have h1 := List.find?_some hf
    have h2 := List.mem_of_find?_eq_some hf
    exact List.mem_map.2 ⟨e, h2, by simpa using h1⟩
theorem nodup_le {α : Type} [DecidableEq α] : ∀ (l m : List α), l.Nodup → (∀ x ∈ l, x ∈ m) → l.length ≤ m.length
  | [], m, _, _ => Nat.zero_le _
  | a :: l, m, hn, hs => by
    have ha : a ∈ m := hs a (List.mem_cons_self ..)
    rw [List.nodup_cons] at hn
    have := nodup_le l (m.erase a) hn.2 fun x hx => (List.mem_erase_of_ne (fun e => by subst e; exact hn.1 hx)).2 (hs x (List.mem_cons_of_mem _ hx))
    rw [List.length_erase_of_mem ha] at this
    have : 0 < m.length := List.length_pos_of_mem ha
    simp; omega
def AncL (es : List TEvent) (id : Int) (r : List Int) : Prop := r.Nodup ∧ ∀ x, x ∈ r ↔ Anc es id x
structure BInv (es : List TEvent) (id : Int) (out todo : List Int) (cur : Option (Int × Nat)) : Prop where
  nd : out.Nodup
  an : ∀ x ∈ out, found es x ∧ Anc es id x
  td : ∀ y ∈ todo, y = id ∨ y ∈ out
  cl : ∀ z, (z = id ∨ z ∈ out) → z ∈ todo ∨ (∃ j, cur = some (z, j) ∧ ∀ x ∈ (prevsOf es z).take j, found es x → x ∈ out) ∨ (∀ x ∈ prevsOf es z, found es x → x ∈ out)
theorem BInv.len {es : List TEvent} {id : Int} {out todo : List Int} {cur : Option (Int × Nat)} (h : BInv es id out todo cur) : out.length ≤ es.length := by
  have := nodup_le out (es.map fun e => e.1) h.nd fun x hx => found_mem (h.an x hx).1
  simpa using this
end Go.Vm
