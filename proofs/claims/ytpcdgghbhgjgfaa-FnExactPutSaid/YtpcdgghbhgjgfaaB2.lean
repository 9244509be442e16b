/- Plain laws. -/
import Derived.Test.YtpcdgghbhgjgfaaA2
set_option linter.unusedVariables false
set_option linter.unusedSimpArgs false
namespace Go.Vm
open Go
/-! ### Rows of numbers -/
/-- A number goes into an ascending row, once. -/
def addGo (y : Int) : List Int → Bool → List Int
  | [], d => if d then [] else [y]
  | x :: xs, d => if x ≥ y ∧ d = false then y :: (if x = y then addGo y xs true else x :: addGo y xs true) else (if x = y then addGo y xs d else x :: addGo y xs d)
def addL (xs : List Int) (y : Int) : List Int := addGo y xs false
theorem addGo_length (y : Int) : ∀ (xs : List Int) (d : Bool), (addGo y xs d).length ≤ xs.length + 1
  | [], d => by unfold addGo; split <;> simp
  | x :: xs, d => by
    have h1 := addGo_length y xs true
    have h2 := addGo_length y xs d
    have h3 : (addGo y xs true).length ≤ xs.length := by
      clear h1 h2
      induction xs with
      | nil => simp [addGo]
      | cons z zs ih =>
        unfold addGo
        rw [if_neg (by simp)]
        split <;> simp <;> omega
    unfold addGo
    split
    · split <;> simp <;> omega
    · split <;> simp <;> omega
theorem addL_length (xs : List Int) (y : Int) : (addL xs y).length ≤ xs.length + 1 := addGo_length y xs false
theorem addGo_mem (y : Int) : ∀ (xs : List Int) (d : Bool) (z : Int), z ∈ addGo y xs d ↔ (z ∈ xs ∧ z ≠ y) ∨ (d = false ∧ z = y)
  | [], d, z => by cases d <;> simp [addGo]
  | x :: xs, d, z => by
    have h1 := addGo_mem y xs true z
    have h2 := addGo_mem y xs d z
    unfold addGo
    by_cases hd : x ≥ y ∧ d = false
    · rw [if_pos hd]
      by_cases hx : x = y
      · rw [if_pos hx]
        simp only [List.mem_cons, h1, hd.2, hx]
        constructor
        · rintro (h | h | h)
          · exact .inr ⟨trivial, h⟩
          · exact .inl ⟨.inr h.1, h.2⟩
          · cases h.1
        · rintro (h | h)
          · rcases h.1 with h3 | h3
            · exact .inl h3
            · exact .inr (.inl ⟨h3, h.2⟩)
          · exact .inl h.2
      · rw [if_neg hx]
        simp only [List.mem_cons, h1, hd.2]
        constructor
        · rintro (h | h | h | h)
          · exact .inr ⟨trivial, h⟩
          · subst h; exact .inl ⟨.inl rfl, hx⟩
          · exact .inl ⟨.inr h.1, h.2⟩
          · cases h.1
        · rintro (h | h)
          · rcases h.1 with h3 | h3
            · exact .inr (.inl h3)
            · exact .inr (.inr (.inl ⟨h3, h.2⟩))
          · exact .inl h.2
    · rw [if_neg hd]
      by_cases hx : x = y
      · rw [if_pos hx, h2]
        simp only [List.mem_cons, hx]
        constructor
        · rintro (h | h)
          · exact .inl ⟨.inr h.1, h.2⟩
          · exact .inr h
        · rintro (h | h)
          · rcases h.1 with h3 | h3
            · exact absurd h3 h.2
            · exact .inl ⟨h3, h.2⟩
          · exact .inr h
      · rw [if_neg hx]
        simp only [List.mem_cons, h2]
        constructor
        · rintro (h | h | h)
          · subst h; exact .inl ⟨.inl rfl, hx⟩
          · exact .inl ⟨.inr h.1, h.2⟩
          · exact .inr h
        · rintro (h | h)
          · rcases h.1 with h3 | h3
            · exact .inl h3
            · exact .inr (.inl ⟨h3, h.2⟩)
          · exact .inr (.inr h)
theorem addL_mem {xs : List Int} {y z : Int} : z ∈ addL xs y ↔ z ∈ xs ∨ z = y := by
  unfold addL
  rw [addGo_mem]
  by_cases h : z = y
  · simp [h]
  · simp [h]
/-! ### Rooms' events -/
def hasE (es : List TEvent) (id : Int) : Int := if es.findIdx (fun e => e.1 == id) < es.length then ((es.findIdx fun e => e.1 == id : Nat) : Int) else -1
theorem hasE_spec (es : List TEvent) (id : Int) : (hasE es id = -1 ∧ ∀ e ∈ es, e.1 ≠ id) ∨ (∃ i : Nat, i < es.length ∧ hasE es id = i ∧ (rd dTEvent es i).1 = id ∧ ∀ j, j < i → (rd dTEvent es j).1 ≠ id) := by
  unfold hasE
  by_cases h : es.findIdx (fun e => e.1 == id) < es.length
  · rw [if_pos h]
    refine .inr ⟨_, h, rfl, ?_, fun j hj => ?_⟩
    · rw [rd_at h]
      have := List.findIdx_getElem (w := h)
      simpa using this
    · have := List.not_of_lt_findIdx hj
      rw [rd_at (Nat.lt_trans hj h)]
      simpa using this
  · rw [if_neg h]
    refine .inl ⟨rfl, fun e he g => h ?_⟩
    exact List.findIdx_lt_length_of_exists ⟨e, he, by simp [g]⟩
def moreD (es : List TEvent) (m : Int) (p : Int) : Int := if hasE es p ≥ 0 ∧ (rd dTEvent es (hasE es p).toNat).2.2.2.2.2.2.2.2.1 > m then (rd dTEvent es (hasE es p).toNat).2.2.2.2.2.2.2.2.1 else m
def mostD (es : List TEvent) (prev : List Int) : Int := prev.foldl (moreD es) (-1)
def depthOf (es : List TEvent) (prev : List Int) : Int := if mostD es prev > 1000000 then 1000001 else mostD es prev + 1
theorem foldl_take {α β : Type} (f : β → α → β) (d : α) (xs : List α) (b : β) {i : Nat} (h : i < xs.length) : (xs.take (i + 1)).foldl f b = f ((xs.take i).foldl f b) (rd d xs i) := by
  rw [List.take_add_one, List.getElem?_eq_getElem h, rd_at h, List.foldl_append]
  rfl
theorem moreD_ge (es : List TEvent) : ∀ (prev : List Int) (m : Int), m ≤ prev.foldl (moreD es) m
  | [], m => Int.le_refl m
  | p :: ps, m => by
    rw [List.foldl_cons]
    have : m ≤ moreD es m p := by unfold moreD; split <;> omega
    exact Int.le_trans this (moreD_ge es ps _)
def named (es : List TEvent) (id : Int) : Bool := es.any fun f => decide (id ∈ f.2.2.2.2.2.2.2.1)
def endStep (es : List TEvent) (a : List Int) (e : TEvent) : List Int := bif named es e.1 then a else addL a e.1
def endsL (es : List TEvent) : List Int := es.foldl (endStep es) []
theorem endStep_length (es : List TEvent) : ∀ (xs : List TEvent) (a : List Int), (xs.foldl (endStep es) a).length ≤ a.length + xs.length
  | [], a => by simp
  | x :: xs, a => by
    rw [List.foldl_cons]
    have h1 := endStep_length es xs (endStep es a x)
    have h2 : (endStep es a x).length ≤ a.length + 1 := by
      unfold endStep
      have := addL_length a x.1
      cases named es x.1 <;> simp <;> omega
    simp; omega
/-- The events' sizes. -/
def PrevS (es : List TEvent) : Prop := es.length ≤ 100000 ∧ ∀ i, i < es.length → (rd dTEvent es i).2.2.2.2.2.2.2.1.length ≤ 1048576
end Go.Vm
