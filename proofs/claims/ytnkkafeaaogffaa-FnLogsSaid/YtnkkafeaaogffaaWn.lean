/- Plain laws about reading texts: numbers in sevens, what stands at a place of a text. -/
import Derived.Test.YtnkkafeaaogffaaWm
set_option linter.unusedVariables false
set_option linter.unusedSimpArgs false
namespace Go.Vm
open Go

/-! ### Texts as rows of numbers -/
theorem numsOf_append (s t : ByteArray) : numsOf (s ++ t) = numsOf s ++ numsOf t := by simp [numsOf]
theorem numsOf_strOfNums {xs : List Int} (h : ∀ x ∈ xs, 0 ≤ x ∧ x < 256) : numsOf (strOfNums xs) = xs := by
  simp only [numsOf, strOfNums, List.map_map]
  rw [List.map_congr_left (g := id) (fun b hb => ?_)]
  · simp
  · obtain ⟨h0, h1⟩ := h b hb
    have e : (UInt8.ofNat b.toNat).toNat = b.toNat := by
      rw [UInt8.toNat_ofNat']
      exact Nat.mod_eq_of_lt (by omega)
    simp only [Function.comp, e, id]
    omega
theorem numsOf_inj {s t : ByteArray} (h : numsOf s = numsOf t) : s = t := by
  rw [← strOfNums_numsOf s, h, strOfNums_numsOf]
theorem numsOf_range {s : ByteArray} : ∀ x ∈ numsOf s, 0 ≤ x ∧ x < 256 := by
  intro x hx
  simp only [numsOf, List.mem_map] at hx
  obtain ⟨b, _, rfl⟩ := hx
  have := b.toNat_lt
  omega
theorem bt_rd (s : ByteArray) (i : Nat) : bt s i = rd 0 (numsOf s) i := by
  unfold bt
  by_cases h : i < s.size
  · rw [dif_pos h, rd_at (by rw [numsOf_length]; exact h)]
    simp only [numsOf, List.getElem_map, Array.getElem_toList]
    rfl
  · rw [dif_neg h]
    simp [rd, numsOf_length, h]
theorem numsOf_extract (s : ByteArray) (p q : Nat) : numsOf (s.extract p q) = ((numsOf s).take q).drop p := by
  simp only [numsOf, ByteArray.data_extract, Array.toList_extract, List.map_drop, List.map_take]
  rw [List.drop_take]

/-- s stands in a at p. -/
def Sits (a : ByteArray) (p : Nat) (s : ByteArray) : Prop := numsOf s <+: (numsOf a).drop p
theorem sits_append {a s t : ByteArray} {p : Nat} : Sits a p (s ++ t) ↔ Sits a p s ∧ Sits a (p + s.size) t := by
  unfold Sits
  rw [numsOf_append, ← List.drop_drop, ← numsOf_length s]
  generalize (numsOf a).drop p = d
  constructor
  · rintro ⟨r, rfl⟩
    refine ⟨⟨numsOf t ++ r, by simp⟩, ?_⟩
    rw [List.append_assoc, List.drop_left]
    exact ⟨r, rfl⟩
  · rintro ⟨⟨r, rfl⟩, h⟩
    rw [List.drop_left] at h
    obtain ⟨q, rfl⟩ := h
    exact ⟨q, by simp⟩
theorem sits_le {a s : ByteArray} {p : Nat} (h : Sits a p s) (hp : p ≤ a.size) : p + s.size ≤ a.size := by
  have := h.length_le
  rw [List.length_drop, numsOf_length, numsOf_length] at this
  omega
theorem sits_extract {a : ByteArray} {p q : Nat} (h : p ≤ q) (h2 : q ≤ a.size) : Sits a p (a.extract p q) := by
  unfold Sits
  rw [numsOf_extract, List.drop_take]
  exact List.take_prefix _ _
theorem extract_sits {a s : ByteArray} {p : Nat} (h : Sits a p s) : a.extract p (p + s.size) = s := by
  apply numsOf_inj
  rw [numsOf_extract, List.drop_take]
  obtain ⟨r, hr⟩ := h
  rw [← hr, ← numsOf_length s]
  simp
theorem sits_all {a s : ByteArray} (h : Sits a 0 s) (h2 : s.size = a.size) : s = a := by
  apply numsOf_inj
  obtain ⟨r, hr⟩ := h
  simp only [List.drop_zero] at hr
  have := congrArg List.length hr
  rw [List.length_append, numsOf_length, numsOf_length] at this
  have : r = [] := List.length_eq_zero_iff.1 (by omega)
  subst this
  simpa using hr
theorem sits_self (a : ByteArray) : Sits a 0 a := ⟨[], by simp⟩
theorem sits_byte {a : ByteArray} {p : Nat} (hp : p < a.size) : Sits a p (strOfNums [bt a p]) := by
  unfold Sits
  have hb : 0 ≤ bt a p ∧ bt a p < 256 := by
    rw [bt_rd, rd_at (by rw [numsOf_length]; exact hp)]
    exact numsOf_range _ (List.getElem_mem _)
  rw [numsOf_strOfNums (by simpa using hb), ← List.getElem_cons_drop (show p < (numsOf a).length by rw [numsOf_length]; exact hp), bt_rd, rd_at (by rw [numsOf_length]; exact hp)]
  exact ⟨_, rfl⟩
theorem bt_range (a : ByteArray) (p : Nat) : 0 ≤ bt a p ∧ bt a p < 256 := by
  by_cases hp : p < a.size
  · rw [bt_rd, rd_at (by rw [numsOf_length]; exact hp)]
    exact numsOf_range _ (List.getElem_mem _)
  · unfold bt; rw [dif_neg hp]; omega
theorem sits_one {a : ByteArray} {p : Nat} {b : Int} (hb : 0 ≤ b ∧ b < 256) (h : Sits a p (strOfNums [b])) : p < a.size ∧ bt a p = b := by
  unfold Sits at h
  rw [numsOf_strOfNums (by simpa using hb)] at h
  obtain ⟨r, hr⟩ := h
  have h1 : p < (numsOf a).length := by
    have := congrArg List.length hr
    simp at this
    omega
  rw [numsOf_length] at h1
  refine ⟨h1, ?_⟩
  have hr2 := hr.trans (List.getElem_cons_drop (show p < (numsOf a).length by rw [numsOf_length]; exact h1)).symm
  rw [bt_rd, rd_at (by rw [numsOf_length]; exact h1)]
  simp only [List.cons_append, List.nil_append, List.cons.injEq] at hr2
  exact hr2.1.symm

/-! ### Numbers in sevens, read -/
def dec : List Int → Int
  | [] => 0
  | d :: ds => d % 128 + 128 * dec ds
theorem dec_snoc : ∀ (D : List Int) (b : Int), dec (D ++ [b]) = dec D + (b % 128) * 128 ^ D.length
  | [], b => by simp [dec]
  | d :: D, b => by
    rw [List.cons_append, dec, dec_snoc D b, dec, List.length_cons, Int.pow_succ]
    generalize dec D = x
    generalize (128 : Int) ^ D.length = y
    generalize b % 128 = z
    rw [Int.mul_add]
    have : 128 * (z * y) = z * (y * 128) := by rw [← Int.mul_assoc, Int.mul_comm 128 z, Int.mul_assoc, Int.mul_comm 128 y]
    omega
theorem dec_bd : ∀ (D : List Int), 0 ≤ dec D ∧ dec D < 128 ^ D.length
  | [] => by simp [dec]
  | d :: D => by
    obtain ⟨h0, h1⟩ := dec_bd D
    rw [dec, List.length_cons, Int.pow_succ]
    generalize (128 : Int) ^ D.length = y at *
    omega
theorem dec_varL (n : Nat) : dec (varL n) = n := by
  induction n using Nat.strongRecOn with
  | _ n ih =>
    unfold varL
    by_cases h : n < 128
    · rw [if_pos h]; simp only [dec]; omega
    · rw [if_neg h, dec, ih (n / 128) (by omega)]; omega
def Hi (D : List Int) : Prop := ∀ d ∈ D, 128 ≤ d ∧ d < 256
def Code (xs : List Int) : Prop := ∃ D b, xs = D ++ [b] ∧ Hi D ∧ 0 ≤ b ∧ b < 128
theorem code_varL (n : Nat) : Code (varL n) := by
  induction n using Nat.strongRecOn with
  | _ n ih =>
    unfold varL
    by_cases h : n < 128
    · rw [if_pos h]; exact ⟨[], n, rfl, fun _ h => by simp at h, by omega, by omega⟩
    · rw [if_neg h]
      obtain ⟨D, b, e, hD, h0, h1⟩ := ih (n / 128) (by omega)
      rw [e]
      refine ⟨((n % 128 + 128 : Nat) : Int) :: D, b, rfl, fun d hd => ?_, h0, h1⟩
      rcases List.mem_cons.1 hd with rfl | hd
      · omega
      · exact hD d hd
theorem code_range {xs : List Int} (h : Code xs) : ∀ x ∈ xs, 0 ≤ x ∧ x < 256 := by
  obtain ⟨D, b, rfl, hD, h0, h1⟩ := h
  intro x hx
  rcases List.mem_append.1 hx with h | h
  · have := hD x h; omega
  · simp at h; omega
theorem canon : ∀ (D : List Int) (b : Int), Hi D → 0 ≤ b → b < 128 → (varL (dec (D ++ [b])).toNat).length = D.length + 1 → varL (dec (D ++ [b])).toNat = D ++ [b]
  | [], b, _, h0, h1, _ => by
    have e : dec ([] ++ [b]) = b := by simp [dec]; omega
    rw [e]
    unfold varL
    rw [if_pos (by omega)]
    simp; omega
  | d :: D, b, hD, h0, h1, hl => by
    have hd := hD d (List.mem_cons_self ..)
    have ih := canon D b (fun x hx => hD x (List.mem_cons_of_mem _ hx)) h0 h1
    have hb := dec_bd (D ++ [b])
    rw [List.cons_append, dec] at hl ⊢
    generalize dec (D ++ [b]) = x at *
    rw [varL.eq_def] at hl ⊢
    by_cases h : (d % 128 + 128 * x).toNat < 128
    · rw [if_pos h] at hl; simp at hl
    · rw [if_neg h] at hl ⊢
      have e : (d % 128 + 128 * x).toNat / 128 = x.toNat := by omega
      rw [e] at hl ⊢
      rw [ih (by simpa using hl)]
      congr 1
      omega
theorem hi_lt {D ys zs : List Int} (hD : Hi D) (hy : Code ys) (h1 : D <+: zs) (h2 : ys <+: zs) : D.length < ys.length := by
  apply Nat.lt_of_not_le
  intro hle
  obtain ⟨D', b, rfl, _, h3, h4⟩ := hy
  have := List.prefix_of_prefix_length_le h2 h1 hle
  have := hD b (this.mem (by simp))
  omega
theorem code_uniq {xs ys zs : List Int} (hx : Code xs) (hy : Code ys) (h1 : xs <+: zs) (h2 : ys <+: zs) : xs = ys := by
  have aux : ∀ {xs ys : List Int}, Code xs → Code ys → xs <+: ys → xs = ys := by
    intro xs ys hx hy h
    obtain ⟨D, b, rfl, hD, h0, h1⟩ := hx
    obtain ⟨t, ht⟩ := h
    by_cases e : t = []
    · subst e; simpa using ht
    · exfalso
      obtain ⟨D', b', rfl, hD', h0', h1'⟩ := hy
      have hl := congrArg List.length ht
      have : 1 ≤ t.length := by cases t with | nil => exact absurd rfl e | cons _ _ => simp
      simp at hl
      have h5 : (D ++ [b]) <+: D' := List.prefix_of_prefix_length_le (l₃ := D' ++ [b']) ⟨t, ht⟩ ⟨[b'], rfl⟩ (by simp; omega)
      have := hD' b (h5.mem (by simp))
      omega
  rcases List.prefix_or_prefix_of_prefix h1 h2 with h | h
  · exact aux hx hy h
  · exact (aux hy hx h).symm
theorem numsOf_varS (n : Int) : numsOf (varS n) = varL n.toNat := numsOf_strOfNums (code_range (code_varL _))
end Go.Vm
