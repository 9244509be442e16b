/- Plain laws. -/
import Derived.Test.YtgkcajcpnlkdfaaW2
set_option linter.unusedVariables false
set_option linter.unusedSimpArgs false
namespace Go.Vm
open Go
def beforeOk (r : TRoom) (p : Int) : Bool := decide (0 ≤ hasE r.1 p ∧ hasE r.1 p < r.2.1.length)
noncomputable def beforeL (r : TRoom) (prev : List Int) : List TItem × Bool := bif prev.all (beforeOk r) then (resolveL r.1 (prev.map fun p => rd [] r.2.1 (hasE r.1 p).toNat), true) else ([], false)
/-! ### A room grows -/
noncomputable def addR (r : TRoom) (e : TEvent) : TRoom × Bool :=
  bif (beforeL r e.2.2.2.2.2.2.2.1).2 && (eventOk e && (decide (hasE r.1 e.1 < 0) && (decide (e.2.2.2.2.2.2.2.2.1 = depthOf r.1 e.2.2.2.2.2.2.2.1) && decide (r.1.length < 40)))) then
    ((r.1 ++ [e], r.2.1 ++ [bif allowed r.1 (beforeL r e.2.2.2.2.2.2.2.1).1 e && keyOf e != 0 then putS (beforeL r e.2.2.2.2.2.2.2.1).1 (keyOf e) e.1 else (beforeL r e.2.2.2.2.2.2.2.1).1], r.2.2.1 ++ [allowed r.1 (beforeL r e.2.2.2.2.2.2.2.1).1 e], ()), true)
  else (([], [], [], ()), false)
/-- What comes of right events, one behind the other. -/
inductive Built : TRoom → Prop where
  | nil : Built ([], [], [], ())
  | add {r : TRoom} {e : TEvent} : Built r → e.2.2.2.2.2.2.2.1.length ≤ 1000 → (addR r e).2 = true → Built (addR r e).1
/-! ### Drawn rooms -/
/-- A room that was made step by step. -/
structure RoomI (r : TRoom) : Prop where
  bt : Built r
  len : r.1.length ≤ 40
  sl : r.2.1.length = r.1.length
  gl : r.2.2.1.length = r.1.length
  st : ∀ i, i < r.2.1.length → (rd [] r.2.1 i).length ≤ 16
  ev : ∀ e ∈ r.1, eventOk e = true
  ids : ∀ i j, i < j → j < r.1.length → (rd dTEvent r.1 i).1 ≠ (rd dTEvent r.1 j).1
theorem findE_cases (es : List TEvent) (y : Int) : findE es y = (noEv, false) ∨ ∃ e ∈ es, findE es y = (e, true) ∧ e.1 = y := by
  unfold findE
  cases hf : es.find? fun e => e.1 == y with
  | none => exact .inl rfl
  | some e => exact .inr ⟨e, List.mem_of_find?_eq_some hf, rfl, by simpa using List.find?_some hf⟩
theorem event_small {e : TEvent} (h : eventOk e = true) : e.2.2.2.2.2.2.2.1.length ≤ 3 ∧ m_Event e ≤ 1000 := by
  have hf := event_facts h
  have hb := body_facts hf.1
  have h4 : (ePrev e).length ≤ 3 := hf.2.2.2.1
  refine ⟨h4, ?_⟩
  show (eLevels e).length + ((eText e).size + ((ePrev e).length + 0)) ≤ 1000
  omega
/-- What comes next to a room. -/
structure NextP (r : TRoom) (id : Int) (e : TEvent) : Prop where
  eid : e.1 = id
  pl : e.2.2.2.2.2.2.2.1.length ≤ 3
  ll : e.2.2.2.2.2.1.length ≤ 6
  tl : e.2.2.2.2.2.2.1.size ≤ 5
  dp : e.2.2.2.2.2.2.2.2.1 = depthOf r.1 e.2.2.2.2.2.2.2.1
  pm : ∀ p ∈ e.2.2.2.2.2.2.2.1, ∃ x ∈ r.1, x.1 = p
  first : r.1 = [] → e = (id, 1, 1, 0, 0, [], ByteArray.empty, [], 0, ())
theorem rd_snocL {α : Type} (d : α) (xs : List α) (y : α) (i : Nat) : rd d (xs ++ [y]) i = if i < xs.length then rd d xs i else if i = xs.length then y else d := by
  unfold rd
  by_cases h : i < xs.length
  · rw [if_pos h]; simp [List.getElem?_append_left h]
  · rw [if_neg h]
    by_cases h2 : i = xs.length
    · subst h2; simp
    · rw [if_neg h2]; simp [List.getElem?_eq_none (show (xs ++ [y]).length ≤ i by simp; omega)]
theorem s_l09Copy_eq (k : Nat) (e : TEvent) (h1 : e.2.2.2.2.2.1.length ≤ 1048576) (h2 : e.2.2.2.2.2.2.2.1.length ≤ 1048576) : s_l09Copy k e = some e := by
  unfold s_l09Copy
  rw [decide_eq_true (by simp [maxRow]; omega), decide_eq_true (by simp [maxRow]; omega)]
  rfl
end Go.Vm
