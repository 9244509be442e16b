/- Plain laws. -/
import Derived.Test.YtgkcajcpnlkdfaaF2
set_option linter.unusedVariables false
set_option linter.unusedSimpArgs false
namespace Go.Vm
open Go
/-! ### The order -/
theorem Anc.found {es : List TEvent} {id x : Int} (h : Anc es id x) : found es x := by cases h <;> assumption
theorem AncL.len {es : List TEvent} {id : Int} {r : List Int} (h : AncL es id r) : r.length ≤ es.length := by
  have := nodup_le r (es.map fun e => e.1) h.1 fun x hx => found_mem ((h.2 x).1 hx).found
  simpa using this
def leftStep (es : List TEvent) (a : List Int) (x : Int) : List Int := bif (findE es x).2 then addL a x else a
def leftL (es : List TEvent) (ids : List Int) : List Int := ids.foldl (leftStep es) []
noncomputable def readyP (es : List TEvent) (L out : List Int) (x : Int) : Bool := @decide (∀ y, Anc es x y → y ∈ L → y ∈ out) (Classical.propDecidable _)
noncomputable def cand (es : List TEvent) (L out : List Int) (x : Int) : Bool := !decide (x ∈ out) && readyP es L out x
noncomputable def pickStep (es : List TEvent) (s : List TItem) (L out : List Int) (b : Option TEvent) (x : Int) : Option TEvent :=
  bif cand es L out x then (match b with | none => some (findE es x).1 | some b0 => bif heavier es s (findE es x).1 b0 then some (findE es x).1 else some b0) else b
noncomputable def pick (es : List TEvent) (s : List TItem) (L out : List Int) : Option TEvent := L.foldl (pickStep es s L out) none
noncomputable def orderGo (es : List TEvent) (s : List TItem) (L : List Int) : Nat → List Int → List Int
  | 0, out => out
  | f + 1, out => match pick es s L out with
    | none => out
    | some b => orderGo es s L f (out ++ [b.1])
noncomputable def orderL (es : List TEvent) (s : List TItem) (ids : List Int) : List Int := orderGo es s (leftL es ids) (leftL es ids).length []
theorem addGo_nodup (y : Int) : ∀ (xs : List Int) (d : Bool), xs.Nodup → (addGo y xs d).Nodup
  | [], d, _ => by cases d <;> simp [addGo]
  | x :: xs, d, h => by
    have hx := List.nodup_cons.1 h
    have h1 := addGo_nodup y xs true hx.2
    have h2 := addGo_nodup y xs d hx.2
    unfold addGo
    by_cases q : x ≥ y ∧ d = false
    · rw [if_pos q]
      have hy : y ∉ addGo y xs true := fun hm => by rw [addGo_mem] at hm; simp at hm
      by_cases q2 : x = y
      · rw [if_pos q2]; exact List.nodup_cons.2 ⟨hy, h1⟩
      · rw [if_neg q2]
        refine List.nodup_cons.2 ⟨?_, List.nodup_cons.2 ⟨fun hm => ?_, h1⟩⟩
        · intro hm
          rcases List.mem_cons.1 hm with e | e
          · exact q2 e.symm
          · exact hy e
        · rw [addGo_mem] at hm; simp at hm; exact hx.1 hm.1
    · rw [if_neg q]
      by_cases q2 : x = y
      · rw [if_pos q2]; exact h2
      · rw [if_neg q2]
        refine List.nodup_cons.2 ⟨fun hm => ?_, h2⟩
        rw [addGo_mem] at hm
        rcases hm with hm | hm
        · exact hx.1 hm.1
        · exact q2 hm.2
theorem leftL_spec (es : List TEvent) (ids : List Int) : (leftL es ids).Nodup ∧ ∀ x, x ∈ leftL es ids ↔ x ∈ ids ∧ found es x := by
  have : ∀ (xs a : List Int), a.Nodup → (xs.foldl (leftStep es) a).Nodup ∧ ∀ x, x ∈ xs.foldl (leftStep es) a ↔ x ∈ a ∨ (x ∈ xs ∧ found es x) := by
    intro xs
    induction xs with
    | nil => intro a h; exact ⟨h, fun x => by simp⟩
    | cons y ys ih =>
      intro a h
      rw [List.foldl_cons]
      have h1 : (leftStep es a y).Nodup := by
        unfold leftStep
        cases (findE es y).2 with
        | false => exact h
        | true => exact addGo_nodup y a false h
      obtain ⟨g1, g2⟩ := ih _ h1
      refine ⟨g1, fun x => ?_⟩
      rw [g2]
      unfold leftStep found
      cases hf : (findE es y).2 with
      | false =>
        simp only [cond_false, List.mem_cons]
        constructor
        · rintro (q | ⟨q, q2⟩)
          · exact .inl q
          · exact .inr ⟨.inr q, q2⟩
        · rintro (q | ⟨q | q, q2⟩)
          · exact .inl q
          · subst q; rw [hf] at q2; cases q2
          · exact .inr ⟨q, q2⟩
      | true =>
        simp only [cond_true, addL_mem, List.mem_cons]
        constructor
        · rintro ((q | q) | ⟨q, q2⟩)
          · exact .inl q
          · exact .inr ⟨.inl q, by rw [q]; exact hf⟩
          · exact .inr ⟨.inr q, q2⟩
        · rintro (q | ⟨q | q, q2⟩)
          · exact .inl (.inl q)
          · exact .inl (.inr q)
          · exact .inr ⟨q, q2⟩
  obtain ⟨h1, h2⟩ := this ids [] (by simp)
  exact ⟨h1, fun x => by rw [leftL, h2]; simp⟩
end Go.Vm
