/- Plain laws of reading: numbers, bytes, texts, rows. -/
import Derived.Test.YtnkkafeaaogffaaP3
import Derived.Test.YtnkkafeaaogffaaWn
set_option linter.unusedVariables false
set_option linter.unusedSimpArgs false
namespace Go.Vm
open Go
/-- What reading a number at p gives. -/
structure RV (a : ByteArray) (p : Nat) (r : Int × Int × Bool) : Prop where
  sound : r.2.2 = true → 0 ≤ r.1 ∧ r.1 ≤ 1000000000 ∧ r.2.1 = ((p + (varS r.1).size : Nat) : Int) ∧ p + (varS r.1).size ≤ a.size ∧ Sits a p (varS r.1)
  full : ∀ n : Int, 0 ≤ n → n ≤ 1000000000 → Sits a p (varS n) → r = (n, ((p + (varS n).size : Nat) : Int), true)
theorem RV.no {a : ByteArray} {p : Nat} (h : ∀ n : Int, 0 ≤ n → n ≤ 1000000000 → ¬ Sits a p (varS n)) : RV a p (0, 0, false) :=
  ⟨fun h => (by cases h), fun n h0 h1 h2 => absurd h2 (h n h0 h1)⟩
theorem varS_len (n : Int) : (varS n).size = (varL n.toNat).length := by unfold varS; rw [strOfNums_size]
theorem RV.code {a : ByteArray} {p : Nat} {xs : List Int} (hx : Code xs) (hs : xs <+: (numsOf a).drop p) (hp : p + xs.length ≤ a.size) (hc : ∃ D b, xs = D ++ [b] ∧ Hi D ∧ 0 ≤ b ∧ b < 128) :
    RV a p (if dec xs ≤ 1000000000 ∧ (varL (dec xs).toNat).length = xs.length then (dec xs, ((p + xs.length : Nat) : Int), true) else (0, 0, false)) := by
  have h0 : 0 ≤ dec xs := (dec_bd xs).1
  have key : ∀ n : Int, 0 ≤ n → Sits a p (varS n) → dec xs = n ∧ (varL (dec xs).toNat).length = xs.length := by
    intro n hn h
    unfold Sits at h
    rw [numsOf_varS] at h
    have e := code_uniq (code_varL _) hx h hs
    have e2 : dec xs = n := by rw [← e, dec_varL]; omega
    exact ⟨e2, by rw [e2, e]⟩
  by_cases h : dec xs ≤ 1000000000 ∧ (varL (dec xs).toNat).length = xs.length
  · rw [if_pos h]
    refine ⟨fun _ => ?_, fun n hn h1 h2 => ?_⟩
    · obtain ⟨D, b, rfl, hD, hb0, hb1⟩ := hc
      have e := canon D b hD hb0 hb1 (by rw [h.2]; simp)
      refine ⟨h0, h.1, by simp only [varS_len, h.2], by rw [varS_len, h.2]; exact hp, ?_⟩
      unfold Sits
      rw [numsOf_varS, e]; exact hs
    · obtain ⟨e1, e2⟩ := key n hn h2
      rw [varS_len, ← e1, h.2]
  · rw [if_neg h]
    refine RV.no fun n hn h1 h2 => ?_
    obtain ⟨e1, e2⟩ := key n hn h2
    exact h ⟨by omega, e2⟩
theorem pow_le5 {i : Nat} (h : i ≤ 5) : (128 : Int) ^ i ≤ 34359738368 ∧ 0 < (128 : Int) ^ i := by
  rcases i with _ | _ | _ | _ | _ | _ | i <;> first | omega | decide
theorem seven {i : Nat} (h : i ≤ 4) : (2 : Int) ^ (min (w64 (7 * (i : Int))).toNat 64) = 128 ^ i ∧ decide (w64 (7 * (i : Int)) < 0) = false := by
  rw [w64_eq (by omega) (by omega)]
  rcases i with _ | _ | _ | _ | _ | i <;> first | omega | decide
theorem rv_loop (a : ByteArray) (p : Nat) (ha : a.size ≤ 1048576) : ∀ (j i : Nat) (D : List Int), i + j = 5 → D.length = i → Hi D → D <+: (numsOf a).drop p → p + i ≤ a.size →
    ∃ r : Int × Int × Bool, RV a p r ∧ (∃ K, ∀ k, K ≤ k → ∀ n, j < n → l0_s_ReadVar k n a (p : Int) (dec D) ((128 : Int) ^ i) ((p + i : Nat) : Int) = some r) ∧
      (∃ K, ∀ k, K ≤ k → ∀ n, j < n → l0_i_ReadVar k n a (p : Int) (dec D) (i : Int) = some r) := by
  intro j
  induction j with
  | zero =>
    intro i D hi hD hh hs hp
    refine ⟨(0, 0, false), RV.no fun n h0 h1 h2 => ?_, ⟨0, fun k _ n hn => ?_⟩, ⟨0, fun k _ n hn => ?_⟩⟩
    · unfold Sits at h2
      rw [numsOf_varS] at h2
      have := hi_lt hh (code_varL _) hs h2
      have h5 := varS_size h1
      rw [varS_len] at h5
      omega
    · obtain ⟨m, rfl⟩ : ∃ m, n = m + 1 := ⟨n - 1, by omega⟩
      have e1 : w64 ((p : Int) + 5) = p + 5 := w64_eq (by omega) (by omega)
      simp only [l0_s_ReadVar, b0_s_ReadVar, e1]
      rw [show decide (((p + i : Nat) : Int) < (p : Int) + 5) = false by simp; omega]
      simp only [br_false]
      cases decide (((p + i : Nat) : Int) < (a.size : Int)) <;> rfl
    · obtain ⟨m, rfl⟩ : ∃ m, n = m + 1 := ⟨n - 1, by omega⟩
      simp only [l0_i_ReadVar, b0_i_ReadVar]
      rw [show decide ((i : Int) < 5) = false by simp; omega]
      rfl
  | succ j ih =>
    intro i D hi hD hh hs hp
    have e5 : w64 ((p : Int) + 5) = p + 5 := w64_eq (by omega) (by omega)
    have epi : w64 ((p : Int) + (i : Int)) = ((p + i : Nat) : Int) := by rw [w64_eq (by omega) (by omega)]; omega
    have d5 : decide (((p + i : Nat) : Int) < (p : Int) + 5) = true := by simp; omega
    have di : decide ((i : Int) < 5) = true := by simp; omega
    by_cases hz : p + i < a.size
    · have dz : decide (((p + i : Nat) : Int) < (a.size : Int)) = true := by simp; omega
      have d0 : decide (0 ≤ ((p + i : Nat) : Int)) = true := decide_eq_true (Int.natCast_nonneg _)
      have hb := bt_range a (p + i)
      have hsb := sits_byte hz
      unfold Sits at hsb
      rw [numsOf_strOfNums (by simpa using hb)] at hsb
      generalize hbe : bt a (p + i) = b at hb hsb
      have hs2 : (D ++ [b]) <+: (numsOf a).drop p := by
        obtain ⟨t, ht⟩ := hs
        rw [← List.drop_drop, ← ht, ← hD, List.drop_left] at hsb
        obtain ⟨u, rfl⟩ := hsb
        exact ⟨u, by rw [← ht]; simp⟩
      have hw : w64 b = b := w64_eq (by omega) (by omega)
      have ht : Int.tmod b 128 = b % 128 := Int.tmod_eq_emod_of_nonneg (by omega)
      obtain ⟨q1, q2⟩ := pow_le5 (i := i) (by omega)
      obtain ⟨q3, q4⟩ := pow_le5 (i := i + 1) (by omega)
      have hsn := dec_snoc D b
      rw [hD] at hsn
      have hd1 := dec_bd D
      have hd2 := dec_bd (D ++ [b])
      have hl2 : (D ++ [b]).length = i + 1 := by simp [hD]
      rw [hl2] at hd2
      have hx0 : 0 ≤ (b % 128) * 128 ^ i := Int.mul_nonneg (by omega) (by omega)
      have hw2 : w64 ((b % 128) * 128 ^ i) = (b % 128) * 128 ^ i := w64_eq (by omega) (by omega)
      have hw3 : w64 (dec D + (b % 128) * 128 ^ i) = dec (D ++ [b]) := by rw [← hsn]; exact w64_eq (by omega) (by omega)
      have hw4 : w64 ((128 : Int) ^ i * 128) = 128 ^ (i + 1) := by rw [← Int.pow_succ]; exact w64_eq (by omega) (by omega)
      have hw5 : w64 (((p + i : Nat) : Int) + 1) = ((p + (i + 1) : Nat) : Int) := by rw [w64_eq (by omega) (by omega)]; omega
      have hw6 : w64 ((i : Int) + 1) = ((i + 1 : Nat) : Int) := by rw [w64_eq (by omega) (by omega)]; omega
      have hb2 : (b == b && (128 : Int) == 0) = false := beq0 b
      obtain ⟨s1, s2⟩ := seven (i := i) (by omega)
      have step_s : ∀ k m, l0_s_ReadVar k (m + 1) a (p : Int) (dec D) ((128 : Int) ^ i) ((p + i : Nat) : Int) =
          br (decide (b < 128)) (br (decide (dec (D ++ [b]) > 1000000000)) (some (0, 0, false)) (bd (s_l01Var k (dec (D ++ [b]))) fun r2 => br (!(r2.toList == (a.extract p (p + (i + 1))).toList)) (some (0, 0, false)) (some (dec (D ++ [b]), ((p + (i + 1) : Nat) : Int), true)))) (l0_s_ReadVar k m a (p : Int) (dec (D ++ [b])) ((128 : Int) ^ (i + 1)) ((p + (i + 1) : Nat) : Int)) := by
        intro k m
        have g1 : decide (((p + (i + 1) : Nat) : Int) ≤ (a.size : Int)) = true := by simp; omega
        have g2 : decide ((p : Int) ≤ ((p + (i + 1) : Nat) : Int)) = true := by simp; omega
        have g3 : decide (0 ≤ ((p + (i + 1) : Nat) : Int)) = true := by simp; omega
        have g4 : decide (0 ≤ (p : Int)) = true := by simp
        simp only [l0_s_ReadVar, b0_s_ReadVar, e5, d5, dz, d0, br_true, gd_true, Int.toNat_natCast, hbe, hw, ht, hw2, hw3, hw4, hw5, hb2, ng_false, g1, g2, g3, g4]
      have step_i : ∀ k m, l0_i_ReadVar k (m + 1) a (p : Int) (dec D) (i : Int) =
          br (decide (b < 128)) (bd (i_VarText k (dec (D ++ [b]))) fun r2 => br (!r2.2) (some (0, 0, false)) (br ((r2.1.size : Int) != ((i + 1 : Nat) : Int)) (some (0, 0, false)) (some (dec (D ++ [b]), ((p + (i + 1) : Nat) : Int), true)))) (l0_i_ReadVar k m a (p : Int) (dec (D ++ [b])) ((i + 1 : Nat) : Int)) := by
        intro k m
        simp only [l0_i_ReadVar, b0_i_ReadVar, di, epi, dz, d0, br_true, gd_true, Int.toNat_natCast, hbe, hw, ht, hb2, ng_false, s1, s2, hw2, hw3, hw5, hw6]
      by_cases hlt : b < 128
      · have hcode : Code (D ++ [b]) := ⟨D, b, rfl, hh, hb.1, hlt⟩
        refine ⟨_, RV.code hcode hs2 (by rw [hl2]; omega) hcode, ?_, ?_⟩
        · by_cases hn : dec (D ++ [b]) ≤ 1000000000
          · obtain ⟨K, hK⟩ := s_l01Var_ev (dec (D ++ [b])) hd2.1 (by omega)
            refine ⟨K, fun k hk n hn' => ?_⟩
            obtain ⟨m, rfl⟩ : ∃ m, n = m + 1 := ⟨n - 1, by omega⟩
            have hK2 : s_l01Var k (dec (D ++ [b])) = some (varS (dec (D ++ [b]))) := hK k hk
            rw [step_s, decide_eq_true hlt, br_true, show decide (dec (D ++ [b]) > 1000000000) = false by simp; omega, br_false, hK2, bd_some, str_beq, hl2]
            by_cases hl : (varL (dec (D ++ [b])).toNat).length = i + 1
            · rw [if_pos ⟨hn, hl⟩]
              have e := canon D b hh hb.1 hlt (by rw [hl, hD])
              have : varS (dec (D ++ [b])) = a.extract p (p + (i + 1)) := by
                have hsit : Sits a p (varS (dec (D ++ [b]))) := by unfold Sits; rw [numsOf_varS, e]; exact hs2
                have := extract_sits hsit
                rw [varS_len, hl] at this
                exact this.symm
              rw [decide_eq_true this]; rfl
            · rw [if_neg (fun h => hl h.2)]
              have : varS (dec (D ++ [b])) ≠ a.extract p (p + (i + 1)) := by
                intro h
                apply hl
                rw [← varS_len, h, ByteArray.size_extract]
                omega
              rw [decide_eq_false this]; rfl
          · refine ⟨0, fun k _ n hn' => ?_⟩
            obtain ⟨m, rfl⟩ : ∃ m, n = m + 1 := ⟨n - 1, by omega⟩
            rw [step_s, decide_eq_true hlt, br_true, show decide (dec (D ++ [b]) > 1000000000) = true by simp; omega, br_true, if_neg (fun h => hn h.1)]
        · obtain ⟨K, hK⟩ := i_VarText_ev (dec (D ++ [b]))
          refine ⟨K, fun k hk n hn' => ?_⟩
          obtain ⟨m, rfl⟩ : ∃ m, n = m + 1 := ⟨n - 1, by omega⟩
          have hK2 : i_VarText k (dec (D ++ [b])) = some (varR (dec (D ++ [b]))) := hK k hk
          rw [step_i, decide_eq_true hlt, br_true, hK2, bd_some, hl2]
          by_cases hn : dec (D ++ [b]) ≤ 1000000000
          · rw [varR_ok hd2.1 hn]
            simp only [Bool.not_true, br_false, varS_len]
            by_cases hl : (varL (dec (D ++ [b])).toNat).length = i + 1
            · rw [if_pos ⟨hn, hl⟩, hl]; simp
            · rw [if_neg (fun h => hl h.2), show (((varL (dec (D ++ [b])).toNat).length : Int) != ((i + 1 : Nat) : Int)) = true by simp; omega]; rfl
          · rw [if_neg (fun h => hn h.1)]
            have : varR (dec (D ++ [b])) = (⟨#[]⟩, false) := by
              unfold varR inR
              rw [show decide (dec (D ++ [b]) ≤ 1000000000) = false by simp; omega]
              simp
            rw [this]; rfl
      · obtain ⟨r, hr, ⟨K1, h1⟩, ⟨K2, h2⟩⟩ := ih (i + 1) (D ++ [b]) (by omega) hl2 (fun d hd => by
          rcases List.mem_append.1 hd with h | h
          · exact hh d h
          · simp at h; omega) hs2 (by omega)
        refine ⟨r, hr, ⟨K1, fun k hk n hn' => ?_⟩, ⟨K2, fun k hk n hn' => ?_⟩⟩
        · obtain ⟨m, rfl⟩ : ∃ m, n = m + 1 := ⟨n - 1, by omega⟩
          rw [step_s, decide_eq_false hlt, br_false]; exact h1 k hk m (by omega)
        · obtain ⟨m, rfl⟩ : ∃ m, n = m + 1 := ⟨n - 1, by omega⟩
          rw [step_i, decide_eq_false hlt, br_false]; exact h2 k hk m (by omega)
    · have dz : decide (((p + i : Nat) : Int) < (a.size : Int)) = false := by simp; omega
      refine ⟨(0, 0, false), RV.no fun n h0 h1 h2 => ?_, ⟨0, fun k _ n hn => ?_⟩, ⟨0, fun k _ n hn => ?_⟩⟩
      · have h3 := sits_le h2 (by omega)
        unfold Sits at h2
        rw [numsOf_varS] at h2
        have := hi_lt hh (code_varL _) hs h2
        rw [varS_len] at h3
        omega
      · obtain ⟨m, rfl⟩ : ∃ m, n = m + 1 := ⟨n - 1, by omega⟩
        simp only [l0_s_ReadVar, b0_s_ReadVar, dz, br_false]
      · obtain ⟨m, rfl⟩ : ∃ m, n = m + 1 := ⟨n - 1, by omega⟩
        simp only [l0_i_ReadVar, b0_i_ReadVar, di, br_true, epi, dz, br_false]
theorem ReadVar_ev (a : ByteArray) (p : Nat) (ha : a.size ≤ 1048576) (hp : p ≤ a.size) : ∃ r : Int × Int × Bool, RV a p r ∧ Ev (fun k => s_ReadVar k a (p : Int)) r ∧ Ev (fun k => i_ReadVar k a (p : Int)) r := by
  obtain ⟨r, h0, ⟨K1, h1⟩, ⟨K2, h2⟩⟩ := rv_loop a p ha 5 0 [] rfl rfl (fun _ h => by cases h) ⟨_, rfl⟩ (by omega)
  have hin : inR (p : Int) 0 (a.size : Int) = true := by simp [inR]; omega
  refine ⟨r, h0, ⟨K1 + 6, fun k hk => ?_⟩, ⟨K2 + 6, fun k hk => ?_⟩⟩
  · have := h1 k (by omega) k (by omega)
    simpa [s_ReadVar, g_s_ReadVar, l01In_eq, hin, dec] using this
  · have := h2 k (by omega) k (by omega)
    simpa [i_ReadVar, g_i_ReadVar, within_eq, hin, dec] using this

/-! ### Readers -/
abbrev cur (a : ByteArray) (p : Nat) (b : Bool) : TL05Cur := (a, (p : Int), b, ())
/-- What a reader does: from p, b (bad) to q, b', giving x. -/
structure Rd {α : Type} (a : ByteArray) (enc : α → ByteArray) (ok : α → Prop) (d : α) (p : Nat) (b : Bool) (x : α) (q : Nat) (b' : Bool) : Prop where
  le : p ≤ q
  hi : q ≤ a.size
  bad : b = true → x = d ∧ q = p ∧ b' = true
  badv : b' = true → x = d
  sound : b' = false → ok x ∧ q = p + (enc x).size ∧ Sits a p (enc x)
  full : b = false → ∀ y, ok y → Sits a p (enc y) → x = y ∧ q = p + (enc y).size ∧ b' = false
def numOk (n : Int) : Prop := 0 ≤ n ∧ n ≤ 1000000000
def bytOk (n : Int) : Prop := 0 ≤ n ∧ n < 256
def byteS (n : Int) : ByteArray := strOfNums [n]
theorem Rd.stuck {α : Type} {a : ByteArray} {enc : α → ByteArray} {ok : α → Prop} {d : α} {p : Nat} (hp : p ≤ a.size) : Rd a enc ok d p true d p true :=
  ⟨Nat.le_refl _, hp, fun _ => ⟨rfl, rfl, rfl⟩, fun _ => rfl, fun h => by (cases h), fun h => by (cases h)⟩
theorem num_ev (a : ByteArray) (p : Nat) (b : Bool) (ha : a.size ≤ 1048576) (hp : p ≤ a.size) :
    ∃ x q b', Rd a varS numOk 0 p b x q b' ∧ Ev (fun k => s_l05Var k (cur a p b)) (x, cur a q b', ()) ∧ Ev (fun k => i_reader_num k (cur a p b)) (x, cur a q b', ()) := by
  obtain ⟨r, hr, h1, h2⟩ := ReadVar_ev a p ha hp
  obtain ⟨n, q, o⟩ := r
  cases b with
  | true => exact ⟨0, p, true, .stuck hp, h1.bd (.of fun _ => rfl), h2.bd (.of fun _ => rfl)⟩
  | false =>
    cases o with
    | false =>
      refine ⟨0, p, true, ⟨Nat.le_refl _, hp, fun h => by (cases h), fun _ => rfl, fun h => by (cases h), fun _ y hy hs => ?_⟩, h1.bd (.of fun _ => rfl), h2.bd (.of fun _ => rfl)⟩
      have := hr.full y hy.1 hy.2 hs
      simp at this
    | true =>
      obtain ⟨e1, e2, e3, e4, e5⟩ := hr.sound rfl
      simp only at e1 e2 e3 e4 e5
      subst e3
      refine ⟨n, p + (varS n).size, false, ⟨by omega, e4, fun h => by (cases h), fun h => by (cases h), fun _ => ⟨⟨e1, e2⟩, rfl, e5⟩, fun _ y hy hs => ?_⟩, h1.bd (.of fun _ => rfl), h2.bd (.of fun _ => rfl)⟩
      have := hr.full y hy.1 hy.2 hs
      simp only [Prod.mk.injEq] at this
      refine ⟨this.1, ?_, rfl⟩
      omega
theorem bt_extract (a : ByteArray) (p : Nat) (hp : p < a.size) : bt (a.extract p (p + 1)) 0 = bt a p := by
  have h := sits_extract (a := a) (p := p) (q := p + 1) (by omega) (by omega)
  have hs : (a.extract p (p + 1)).size = 1 := by rw [ByteArray.size_extract]; omega
  have h2 : numsOf (a.extract p (p + 1)) = [bt (a.extract p (p + 1)) 0] := by
    have hl : (numsOf (a.extract p (p + 1))).length = 1 := by rw [numsOf_length, hs]
    rw [bt_rd]
    match hx : numsOf (a.extract p (p + 1)), hl with
    | [y], _ => rfl
  have h3 : a.extract p (p + 1) = strOfNums [bt (a.extract p (p + 1)) 0] := by rw [← h2, strOfNums_numsOf]
  rw [h3] at h
  exact (sits_one (bt_range _ _) h).2.symm
theorem byte_ev (a : ByteArray) (p : Nat) (b : Bool) (ha : a.size ≤ 1048576) (hp : p ≤ a.size) :
    ∃ x q b', Rd a byteS bytOk 0 p b x q b' ∧ Ev (fun k => s_l09One k (cur a p b)) (x, cur a q b', ()) ∧ Ev (fun k => i_reader_byte k (cur a p b)) (x, cur a q b', ()) := by
  cases b with
  | true => exact ⟨0, p, true, .stuck hp, .of fun _ => rfl, .of fun _ => rfl⟩
  | false =>
    have e1 : w64 ((a.size : Int) - (p : Int)) = (a.size : Int) - p := w64_eq (by omega) (by omega)
    have e2 : w64 ((p : Int) + 1) = ((p + 1 : Nat) : Int) := by rw [w64_eq (by omega) (by omega)]; omega
    have e3 : w64 (((p + 1 : Nat) : Int) - 1) = (p : Int) := by rw [w64_eq (by omega) (by omega)]; omega
    by_cases hlt : p < a.size
    · have hb := bt_range a p
      have e4 : w64 (bt a p) = bt a p := w64_eq (by omega) (by omega)
      have hs := sits_byte hlt
      have d1 : decide ((1 : Int) > (a.size : Int) - p) = false := by simp; omega
      have d2 : decide (((p + 1 : Nat) : Int) ≤ (a.size : Int)) = true := by simp; omega
      have d3 : decide (0 ≤ ((p + 1 : Nat) : Int)) = true := decide_eq_true (Int.natCast_nonneg _)
      have d4 : decide (0 ≤ (p : Int)) = true := decide_eq_true (Int.natCast_nonneg _)
      have d5 : decide ((p : Int) ≤ ((p + 1 : Nat) : Int)) = true := by simp; omega
      have d6 : decide ((p : Int) ≥ (a.size : Int)) = false := by simp; omega
      have d7 : decide ((p : Int) < (a.size : Int)) = true := by simp; omega
      have hsz : ((a.extract p (p + 1)).size : Int) = 1 := by rw [ByteArray.size_extract]; omega
      refine ⟨bt a p, p + 1, false, ⟨by omega, by omega, fun h => by (cases h), fun h => by (cases h), fun _ => ⟨hb, by simp [byteS, strOfNums_size], hs⟩, fun _ y hy h => ?_⟩, .of fun k => ?_, .of fun k => ?_⟩
      · exact ⟨(sits_one hy h).2, by simp [byteS, strOfNums_size], rfl⟩
      · simp only [s_l09One, s_l05Take, br_false, e1, d1, e2, e3, d2, d3, d4, d5, gd_true, bd_some, Int.toNat_natCast, hsz, bt_extract a p hlt, e4]
        rfl
      · simp only [i_reader_byte, br_false, d6, e2, e3, d4, d7, gd_true, Int.toNat_natCast, e4]
    · have hpe : p = a.size := by omega
      refine ⟨0, p, true, ⟨Nat.le_refl _, hp, fun h => by (cases h), fun _ => rfl, fun h => by (cases h), fun _ y hy h => ?_⟩, .of fun k => ?_, .of fun k => ?_⟩
      · have := (sits_one hy h).1; omega
      · have d1 : decide ((1 : Int) > (a.size : Int) - p) = true := by simp; omega
        simp only [s_l09One, s_l05Take, br_false, e1, d1, br_true, bd_some]
      · have d6 : decide ((p : Int) ≥ (a.size : Int)) = true := by simp; omega
        simp only [i_reader_byte, br_false, d6, br_true]
def txtOk (m : Nat) (t : ByteArray) : Prop := t.size ≤ m
theorem shortS_size (t : ByteArray) : (shortS t).size = (varS (t.size : Int)).size + t.size := by unfold shortS; rw [ba_size]
theorem stext_ev (a : ByteArray) (p : Nat) (b : Bool) (ha : a.size ≤ 1048576) (hp : p ≤ a.size) :
    ∃ x q b', Rd a shortS (txtOk 1000000000) (⟨#[]⟩ : ByteArray) p b x q b' ∧ Ev (fun k => s_l05ReadShort k (cur a p b)) (x, cur a q b', ()) := by
  obtain ⟨n, q, b1, hr, h1, _⟩ := num_ev a p b ha hp
  have hq := hr.hi
  have hpq := hr.le
  have step : ∀ {r : ByteArray × TL05Cur × Unit}, Ev (fun k => s_l05Take k (cur a q b1) n) r → Ev (fun k => s_l05ReadShort k (cur a p b)) (r.1, r.2.1, ()) := fun h => h1.bd (h.bd (.of fun _ => rfl))
  cases b1 with
  | true =>
    have hn := hr.badv rfl
    subst hn
    refine ⟨⟨#[]⟩, q, true, ⟨hpq, hq, fun h => ⟨rfl, (hr.bad h).2.1, rfl⟩, fun _ => rfl, fun h => by (cases h), fun hb y hy hs => ?_⟩, step (r := (⟨#[]⟩, cur a q true, ())) (.of fun _ => rfl)⟩
    unfold shortS at hs
    have := hr.full hb _ ⟨by omega, by have : y.size ≤ 1000000000 := hy; omega⟩ (sits_append.1 hs).1
    cases this.2.2
  | false =>
    have hb : b = false := by cases b with | false => rfl | true => cases (hr.bad rfl).2.2
    subst hb
    obtain ⟨⟨n0, n1⟩, hqe, hsit⟩ := hr.sound rfl
    obtain ⟨m, rfl⟩ : ∃ m : Nat, n = (m : Int) := ⟨n.toNat, by omega⟩
    have e1 : w64 ((a.size : Int) - (q : Int)) = (a.size : Int) - q := w64_eq (by omega) (by omega)
    have e2 : w64 ((q : Int) + (m : Int)) = ((q + m : Nat) : Int) := by rw [w64_eq (by omega) (by omega)]; omega
    have e3 : w64 (((q + m : Nat) : Int) - (m : Int)) = (q : Int) := by rw [w64_eq (by omega) (by omega)]; omega
    by_cases hlt : q + m ≤ a.size
    · have d1 : decide ((m : Int) > (a.size : Int) - q) = false := by simp; omega
      have d2 : decide (((q + m : Nat) : Int) ≤ (a.size : Int)) = true := by simp; omega
      have d3 : decide (0 ≤ ((q + m : Nat) : Int)) = true := decide_eq_true (Int.natCast_nonneg _)
      have d4 : decide (0 ≤ (q : Int)) = true := decide_eq_true (Int.natCast_nonneg _)
      have d5 : decide ((q : Int) ≤ ((q + m : Nat) : Int)) = true := by simp; omega
      have hsz : (a.extract q (q + m)).size = m := by rw [ByteArray.size_extract]; omega
      refine ⟨a.extract q (q + m), q + m, false, ⟨by omega, by omega, fun h => by (cases h), fun h => by (cases h), fun _ => ⟨by unfold txtOk; omega, by rw [shortS_size, hsz]; omega, ?_⟩, fun _ y hy hs => ?_⟩,
        step (r := (a.extract q (q + m), cur a (q + m) false, ())) (.of fun k => ?_)⟩
      · unfold shortS
        rw [hsz]
        refine sits_append.2 ⟨hsit, ?_⟩
        rw [← hqe]
        exact sits_extract (by omega) hlt
      · unfold shortS at hs
        obtain ⟨h3, h4⟩ := sits_append.1 hs
        have := hr.full rfl _ ⟨by omega, by have : y.size ≤ 1000000000 := hy; omega⟩ h3
        obtain ⟨e4, e5, _⟩ := this
        have e6 : m = y.size := by omega
        subst e6
        rw [← e5] at h4
        exact ⟨extract_sits h4, by rw [shortS_size]; omega, rfl⟩
      · simp only [s_l05Take, br_false, e1, d1, e2, e3, d2, d3, d4, d5, gd_true, Int.toNat_natCast]
    · refine ⟨⟨#[]⟩, q, true, ⟨hpq, hq, fun h => by (cases h), fun _ => rfl, fun h => by (cases h), fun _ y hy hs => ?_⟩, step (r := (⟨#[]⟩, cur a q true, ())) (.of fun k => ?_)⟩
      · unfold shortS at hs
        obtain ⟨h3, h4⟩ := sits_append.1 hs
        have := hr.full rfl _ ⟨by omega, by have : y.size ≤ 1000000000 := hy; omega⟩ h3
        obtain ⟨e4, e5, _⟩ := this
        rw [← e5] at h4
        have := sits_le h4 hq
        omega
      · have d1 : decide ((m : Int) > (a.size : Int) - q) = true := by simp; omega
        simp only [s_l05Take, br_false, e1, d1, br_true]
theorem itext_ev (a : ByteArray) (p : Nat) (b : Bool) (ha : a.size ≤ 1048576) (hp : p ≤ a.size) :
    ∃ x q b', Rd a shortS (txtOk 20000) (⟨#[]⟩ : ByteArray) p b x q b' ∧ Ev (fun k => i_reader_text k (cur a p b)) (x, cur a q b', ()) := by
  obtain ⟨r, hr, _, h2⟩ := ReadVar_ev a p ha hp
  obtain ⟨n, q, o⟩ := r
  have nope : ∀ {x : ByteArray × Int}, Ev (fun k => i_ReadShort k a (p : Int)) (x.1, x.2, false) → (∀ y : ByteArray, y.size ≤ 20000 → ¬ Sits a p (shortS y)) →
      ∃ x q b', Rd a shortS (txtOk 20000) (⟨#[]⟩ : ByteArray) p b x q b' ∧ Ev (fun k => i_reader_text k (cur a p b)) (x, cur a q b', ()) := by
    intro x h hno
    refine ⟨⟨#[]⟩, p, true, ⟨Nat.le_refl _, hp, fun _ => ⟨rfl, rfl, rfl⟩, fun _ => rfl, fun h => by (cases h), fun _ y hy hs => absurd hs (hno y hy)⟩, h.bd (.of fun k => ?_)⟩
    cases b <;> rfl
  cases o with
  | false =>
    refine nope (x := (⟨#[]⟩, 0)) (h2.bd (.of fun _ => rfl)) fun y hy hs => ?_
    unfold shortS at hs
    have := hr.full _ (by omega) (by omega) (sits_append.1 hs).1
    simp at this
  | true =>
    obtain ⟨n0, n1, hq, hqs, hsit⟩ := hr.sound rfl
    simp only at n0 n1 hq hqs hsit
    obtain ⟨m, rfl⟩ : ∃ m : Nat, n = (m : Int) := ⟨n.toNat, by omega⟩
    generalize hqe : p + (varS (m : Int)).size = q' at *
    subst hq
    have same : ∀ y : ByteArray, y.size ≤ 20000 → Sits a p (shortS y) → m = y.size ∧ Sits a q' y := by
      intro y hy hs
      unfold shortS at hs
      obtain ⟨h3, h4⟩ := sits_append.1 hs
      have := hr.full _ (by omega) (by omega) h3
      simp only [Prod.mk.injEq] at this
      have e6 : m = y.size := by omega
      subst e6
      rw [hqe] at h4
      exact ⟨rfl, h4⟩
    have e1 : w64 ((a.size : Int) - (q' : Int)) = (a.size : Int) - q' := w64_eq (by omega) (by omega)
    have e2 : w64 ((q' : Int) + (m : Int)) = ((q' + m : Nat) : Int) := by rw [w64_eq (by omega) (by omega)]; omega
    by_cases hbig : m ≤ 20000
    · have d0 : decide ((m : Int) > 20000) = false := by simp; omega
      by_cases hlt : q' + m ≤ a.size
      · have d1 : decide ((m : Int) > (a.size : Int) - q') = false := by simp; omega
        have d2 : decide (((q' + m : Nat) : Int) ≤ (a.size : Int)) = true := by simp; omega
        have d3 : decide (0 ≤ ((q' + m : Nat) : Int)) = true := decide_eq_true (Int.natCast_nonneg _)
        have d4 : decide (0 ≤ (q' : Int)) = true := decide_eq_true (Int.natCast_nonneg _)
        have d5 : decide ((q' : Int) ≤ ((q' + m : Nat) : Int)) = true := by simp; omega
        have hsz : (a.extract q' (q' + m)).size = m := by rw [ByteArray.size_extract]; omega
        have hev : Ev (fun k => i_ReadShort k a (p : Int)) (a.extract q' (q' + m), ((q' + m : Nat) : Int), true) := h2.bd (.of fun k => by
          simp only [Bool.not_true, br_false, d0, e1, d1, e2, d2, d3, d4, d5, gd_true, Int.toNat_natCast])
        cases b with
        | true => exact ⟨⟨#[]⟩, p, true, .stuck hp, hev.bd (.of fun _ => rfl)⟩
        | false =>
          refine ⟨a.extract q' (q' + m), q' + m, false, ⟨by omega, by omega, fun h => by (cases h), fun h => by (cases h), fun _ => ⟨by unfold txtOk; omega, by rw [shortS_size, hsz]; omega, ?_⟩, fun _ y hy hs => ?_⟩, hev.bd (.of fun _ => rfl)⟩
          · unfold shortS
            rw [hsz]
            refine sits_append.2 ⟨hsit, ?_⟩
            rw [hqe]
            exact sits_extract (by omega) hlt
          · obtain ⟨e6, h4⟩ := same y hy hs
            subst e6
            exact ⟨extract_sits h4, by rw [shortS_size]; omega, rfl⟩
      · refine nope (x := (⟨#[]⟩, 0)) (h2.bd (.of fun k => ?_)) fun y hy hs => ?_
        · have d1 : decide ((m : Int) > (a.size : Int) - q') = true := by simp; omega
          simp only [Bool.not_true, br_false, d0, e1, d1, br_true]
        · obtain ⟨e6, h4⟩ := same y hy hs
          have := sits_le h4 hqs
          omega
    · refine nope (x := (⟨#[]⟩, 0)) (h2.bd (.of fun k => ?_)) fun y hy hs => ?_
      · have d0 : decide ((m : Int) > 20000) = true := by simp; omega
        simp only [Bool.not_true, br_false, d0, br_true]
      · obtain ⟨e6, h4⟩ := same y hy hs
        omega

def catB (enc : Int → ByteArray) : List Int → ByteArray
  | [] => ⟨#[]⟩
  | x :: xs => enc x ++ catB enc xs
theorem sits_nil (a : ByteArray) (p : Nat) : Sits a p (⟨#[]⟩ : ByteArray) := ⟨_, rfl⟩
structure Each (a : ByteArray) (enc : Int → ByteArray) (ok : Int → Prop) (N : Int) (go : Nat → Bool) (n0 : Nat) (p : Nat) (b : Bool) (xs : List Int) (q : Nat) (b' : Bool) : Prop where
  le : p ≤ q
  hi : q ≤ a.size
  bad : b = true → xs = [] ∧ q = p ∧ b' = true
  len : xs.length ≤ (q - p) + 1
  sound : b' = false → xs.length ≤ q - p ∧ (∀ x ∈ xs, ok x) ∧ q = p + (catB enc xs).size ∧ Sits a p (catB enc xs)
  count : b' = false → (∀ v, go v = true) → (n0 : Int) + xs.length = max 0 N
  full : b = false → ∀ ys : List Int, (∀ y ∈ ys, ok y) → (n0 : Int) + ys.length = N → (∀ v : Nat, (v : Int) < N → go v = true) → Sits a p (catB enc ys) → xs = ys ∧ q = p + (catB enc ys).size ∧ b' = false
/-- From some fuels on. -/
def Ev2 {R : Type} (f : Nat → Nat → Option R) (v : R) : Prop := ∃ K, ∀ k, K ≤ k → ∀ n, K ≤ n → f k n = some v
theorem Ev.two {R : Type} {f : Nat → Option R} {v : R} (h : Ev f v) : Ev2 (fun k _ => f k) v := h.imp fun K hK k hk _ _ => hK k hk
theorem Ev2.diag {R : Type} {f : Nat → Nat → Option R} {v : R} (h : Ev2 f v) : Ev (fun k => f k k) v := h.imp fun K hK k hk => hK k hk k hk
theorem Ev.bd2 {α R : Type} {f : Nat → Option α} {v : α} {g : Nat → Nat → α → Option R} {w : R} (h : Ev f v) (h2 : Ev2 (fun k n => g k n v) w) : Ev2 (fun k n => Vm.bd (f k) (g k n)) w := by
  obtain ⟨K, hK⟩ := h
  obtain ⟨L, hL⟩ := h2
  refine ⟨max K L, fun k hk n hn => ?_⟩
  simp only [hK k (by omega), bd_some]
  exact hL k (by omega) n (by omega)
theorem each_ev2 {R : Type} {a : ByteArray} (enc : Int → ByteArray) (ok : Int → Prop) (elem : Nat → TL05Cur → Option (Int × TL05Cur × Unit))
    (he : ∀ p b, p ≤ a.size → ∃ x q b', Rd a enc ok 0 p b x q b' ∧ (b' = false → p < q) ∧ Ev (fun k => elem k (cur a p b)) (x, cur a q b', ()))
    (N : Int) (go : Nat → Bool) (C : Nat → Nat → TL05Cur → List Int → Option R) (l : Nat → Nat → TL05Cur → List Int → Option R) (ha : a.size ≤ 1048576) (p0 : Nat) (b0 : Bool)
    (hl : ∀ k n p b (xs : List Int), xs.length ≤ 2000000 → (xs = [] → p = p0 ∧ b = b0) → l k (n + 1) (cur a p b) xs =
      if (xs.length : Int) < N ∧ go xs.length = true ∧ b = false then bd (elem k (cur a p b)) (fun r => l k n r.2.1 (xs ++ [r.1])) else C k n (cur a p b) xs) :
    ∀ (m p : Nat) (b : Bool) (xs0 : List Int), p ≤ a.size → (b = false → a.size - p < m) → (b = false → xs0.length + (a.size - p) ≤ 1100000) → xs0.length ≤ 1100001 → (xs0 = [] ∨ (xs0.length : Int) ≤ N) → (xs0 = [] → p = p0 ∧ b = b0) →
    ∃ q b' xs, Each a enc ok N go xs0.length p b xs q b' ∧ ∀ v, Ev2 (fun k n => C k n (cur a q b') (xs0 ++ xs)) v → ∃ K, ∀ k, K ≤ k → ∀ n, K ≤ n → l k n (cur a p b) xs0 = some v := by
  intro m
  have stop : ∀ (p : Nat) (b : Bool) (xs0 : List Int), p ≤ a.size → xs0.length ≤ 1100001 → (xs0 = [] ∨ (xs0.length : Int) ≤ N) → (xs0 = [] → p = p0 ∧ b = b0) → ¬ ((xs0.length : Int) < N ∧ go xs0.length = true ∧ b = false) →
      ∃ q b' xs, Each a enc ok N go xs0.length p b xs q b' ∧ ∀ v, Ev2 (fun k n => C k n (cur a q b') (xs0 ++ xs)) v → ∃ K, ∀ k, K ≤ k → ∀ n, K ≤ n → l k n (cur a p b) xs0 = some v := by
    intro p b xs0 hp h2 h3 h4 hc
    refine ⟨p, b, [], ⟨Nat.le_refl _, hp, fun h => ⟨rfl, rfl, h⟩, by simp, fun _ => ⟨by simp, fun _ h => by (cases h), rfl, sits_nil a p⟩, fun hb hg => ?_, fun hb ys _ h5 hg _ => ?_⟩, fun v hv => ?_⟩
    · have : ¬ (xs0.length : Int) < N := fun h => hc ⟨h, hg _, hb⟩
      rcases h3 with h3 | h3
      · subst h3; simp at this ⊢; omega
      · simp; omega
    · have : ¬ (xs0.length : Int) < N := fun h => hc ⟨h, hg _ h, hb⟩
      have : ys = [] := List.length_eq_zero_iff.1 (by omega)
      subst this
      exact ⟨rfl, rfl, hb⟩
    · obtain ⟨K, hK⟩ := hv
      refine ⟨K + 1, fun k hk n hn => ?_⟩
      obtain ⟨n, rfl⟩ : ∃ n', n = n' + 1 := ⟨n - 1, by omega⟩
      rw [hl k n p b xs0 (by omega) h4, if_neg hc]
      simpa using hK k (by omega) n (by omega)
  induction m with
  | zero =>
    intro p b xs0 hp h0 h1 h2 h3 h4
    refine stop p b xs0 hp h2 h3 h4 (fun h => ?_)
    have := h0 h.2.2
    omega
  | succ m ih =>
    intro p b xs0 hp h0 h1 h2 h3 h4
    by_cases hc : (xs0.length : Int) < N ∧ go xs0.length = true ∧ b = false
    · obtain ⟨hlt, hgo, hb⟩ := hc
      subst hb
      obtain ⟨x, q1, b1, hr, hpq, hev⟩ := he p false hp
      have hz := h0 rfl
      have hz1 := h1 rfl
      obtain ⟨q, b', xs, hE, hk⟩ := ih q1 b1 (xs0 ++ [x]) hr.hi (fun h => by have := hpq h; have := hr.hi; omega) (fun h => by have := hpq h; have := hr.hi; simp; omega) (by simp; omega) (.inr (by simp; omega)) (fun h => by simp at h)
      refine ⟨q, b', x :: xs, ⟨by have := hr.le; have := hE.le; omega, hE.hi, fun h => by (cases h), ?_, fun h => ?_, fun h hg => ?_, fun _ ys hy hlen hg hs => ?_⟩, fun v hv => ?_⟩
      · have e1 := hE.len
        have e2 := hE.le
        cases b1 with
        | true => have := (hE.bad rfl).1; subst this; simp
        | false => have := hpq rfl; simp; omega
      · have hb1 : b1 = false := by cases b1 with | false => rfl | true => have := (hE.bad rfl).2.2; rw [this] at h; cases h
        obtain ⟨s1, s2, s3, s4⟩ := hE.sound h
        obtain ⟨t1, t2, t3⟩ := hr.sound hb1
        have := hpq hb1
        have := hE.le
        refine ⟨by simp; omega, fun y hy => ?_, ?_, ?_⟩
        · rcases List.mem_cons.1 hy with rfl | hy
          · exact t1
          · exact s2 y hy
        · rw [catB, ba_size]; omega
        · rw [catB]; exact sits_append.2 ⟨t3, by rw [← t2]; exact s4⟩
      · have := hE.count h hg
        simp at this ⊢
        omega
      · cases ys with
        | nil => simp at hlen; omega
        | cons y ys =>
          rw [catB] at hs
          obtain ⟨h5, h6⟩ := sits_append.1 hs
          obtain ⟨rfl, e2, e3⟩ := hr.full rfl y (hy y (List.mem_cons_self ..)) h5
          rw [← e2] at h6
          obtain ⟨rfl, e4, e5⟩ := hE.full e3 ys (fun z hz => hy z (List.mem_cons_of_mem _ hz)) (by simp at hlen ⊢; omega) hg h6
          exact ⟨rfl, by rw [catB, ba_size]; omega, e5⟩
      · obtain ⟨K, hK⟩ := hk v (by simpa using hv)
        obtain ⟨K2, hK2⟩ := hev
        refine ⟨max K K2 + 1, fun k hk n hn => ?_⟩
        obtain ⟨n, rfl⟩ : ∃ n', n = n' + 1 := ⟨n - 1, by omega⟩
        have e3 : elem k (cur a p false) = some (x, cur a q1 b1, ()) := hK2 k (by omega)
        rw [hl k n p false xs0 (by omega) h4, if_pos ⟨hlt, hgo, rfl⟩, e3, bd_some]
        exact hK k (by omega) n (by omega)
    · exact stop p b xs0 hp h2 h3 h4 hc
theorem each_ev {R : Type} {a : ByteArray} (enc : Int → ByteArray) (ok : Int → Prop) (elem : Nat → TL05Cur → Option (Int × TL05Cur × Unit))
    (he : ∀ p b, p ≤ a.size → ∃ x q b', Rd a enc ok 0 p b x q b' ∧ (b' = false → p < q) ∧ Ev (fun k => elem k (cur a p b)) (x, cur a q b', ()))
    (N : Int) (go : Nat → Bool) (C : Nat → TL05Cur → List Int → Option R) (l : Nat → Nat → TL05Cur → List Int → Option R) (ha : a.size ≤ 1048576) (p0 : Nat) (b0 : Bool)
    (hl : ∀ k n p b (xs : List Int), xs.length ≤ 2000000 → (xs = [] → p = p0 ∧ b = b0) → l k (n + 1) (cur a p b) xs =
      if (xs.length : Int) < N ∧ go xs.length = true ∧ b = false then bd (elem k (cur a p b)) (fun r => l k n r.2.1 (xs ++ [r.1])) else C k (cur a p b) xs) :
    ∀ (m p : Nat) (b : Bool) (xs0 : List Int), p ≤ a.size → (b = false → a.size - p < m) → (b = false → xs0.length + (a.size - p) ≤ 1100000) → xs0.length ≤ 1100001 → (xs0 = [] ∨ (xs0.length : Int) ≤ N) → (xs0 = [] → p = p0 ∧ b = b0) →
    ∃ q b' xs, Each a enc ok N go xs0.length p b xs q b' ∧ ∀ v, Ev (fun k => C k (cur a q b') (xs0 ++ xs)) v → ∃ K, ∀ k, K ≤ k → ∀ n, K ≤ n → l k n (cur a p b) xs0 = some v := by
  intro m p b xs0 h1 h2 h3 h4 h5 h6
  obtain ⟨q, b', xs, hE, hk⟩ := each_ev2 enc ok elem he N go (fun k _ => C k) l ha p0 b0 hl m p b xs0 h1 h2 h3 h4 h5 h6
  exact ⟨q, b', xs, hE, fun v hv => hk v hv.two⟩
theorem num_pos {a : ByteArray} {p : Nat} {b : Bool} {x : Int} {q : Nat} {b' : Bool} (h : Rd a varS numOk 0 p b x q b') : b' = false → p < q := by
  intro hb
  have := (h.sound hb).2.1
  have h2 := varL_pos x.toNat
  rw [varS_len] at this
  omega
theorem byte_pos {a : ByteArray} {p : Nat} {b : Bool} {x : Int} {q : Nat} {b' : Bool} (h : Rd a byteS bytOk 0 p b x q b') : b' = false → p < q := by
  intro hb
  have := (h.sound hb).2.1
  simp [byteS, strOfNums_size] at this
  omega

theorem ba_assoc (a b c : ByteArray) : a ++ b ++ c = a ++ (b ++ c) := ByteArray.append_assoc
theorem catB_varS (l : List Int) : catV l = catB varS l := by
  induction l with
  | nil => apply ba_ext; simp [catV, catB, strOfNums]
  | cons x xs ih =>
    rw [catB, ← ih]
    unfold catV
    rw [List.flatMap_cons, strOfNums_append, strOfNums_numsOf]
theorem catB_byteS {l : List Int} (h : ∀ x ∈ l, bytOk x) : byteL l = catB byteS l := by
  induction l with
  | nil => apply ba_ext; simp [byteL, catB, strOfNums]
  | cons x xs ih =>
    rw [catB, ← ih (fun y hy => h y (List.mem_cons_of_mem _ hy))]
    have hx := h x (List.mem_cons_self ..)
    unfold byteL byteS
    rw [List.map_cons, u8_eq hx.1 hx.2, ← strOfNums_append]
    rfl
/-- What an event tells, byte by byte. -/
def mainB (x1 x2 x3 x4 : Int) (l : List Int) (t : ByteArray) : ByteArray := byteS x1 ++ (byteS x2 ++ (byteS x3 ++ (byteS x4 ++ (varS (l.length : Int) ++ (catB byteS l ++ shortS t)))))
theorem mainS_eq {e : TEvent} (h1 : bytOk (eKind e)) (h2 : bytOk (eSender e)) (h3 : bytOk (eUser e)) (h4 : bytOk (eMember e)) (h5 : ∀ x ∈ eLevels e, bytOk x) :
    mainS e = mainB (eKind e) (eSender e) (eUser e) (eMember e) (eLevels e) (eText e) := by
  have e4 : bytes4 e = byteS (eKind e) ++ (byteS (eSender e) ++ (byteS (eUser e) ++ byteS (eMember e))) := by
    unfold bytes4 byteS
    rw [u8_eq h1.1 h1.2, u8_eq h2.1 h2.2, u8_eq h3.1 h3.2, u8_eq h4.1 h4.2, ← strOfNums_append, ← strOfNums_append, ← strOfNums_append]
    rfl
  unfold mainS mainB
  rw [e4, catB_byteS h5]
  simp only [ba_assoc]
theorem imain_ev (a : ByteArray) (p : Nat) (b : Bool) (ha : a.size ≤ 1048576) (hp : p ≤ a.size) :
    ∃ x1 x2 x3 x4 l t q b', Ev (fun k => i_reader_main k (cur a p b)) ((0, x1, x2, x3, x4, l, t, [], 0, ()), cur a q b', ()) ∧ p ≤ q ∧ q ≤ a.size ∧ l.length ≤ 1048577 ∧
      (b = true → b' = true) ∧ (b' = false → p < q ∧ bytOk x1 ∧ bytOk x2 ∧ bytOk x3 ∧ bytOk x4 ∧ (∀ x ∈ l, bytOk x) ∧ q = p + (mainB x1 x2 x3 x4 l t).size ∧ Sits a p (mainB x1 x2 x3 x4 l t)) ∧
      (b = false → ∀ y1 y2 y3 y4 m u, bytOk y1 → bytOk y2 → bytOk y3 → bytOk y4 → (∀ x ∈ m, bytOk x) → m.length ≤ 1000 → u.size ≤ 20000 → Sits a p (mainB y1 y2 y3 y4 m u) →
        (x1 = y1 ∧ x2 = y2 ∧ x3 = y3 ∧ x4 = y4 ∧ l = m ∧ t = u) ∧ q = p + (mainB y1 y2 y3 y4 m u).size ∧ b' = false) := by
  obtain ⟨x1, q1, b1, R1, _, E1⟩ := byte_ev a p b ha hp
  obtain ⟨x2, q2, b2, R2, _, E2⟩ := byte_ev a q1 b1 ha R1.hi
  obtain ⟨x3, q3, b3, R3, _, E3⟩ := byte_ev a q2 b2 ha R2.hi
  obtain ⟨x4, q4, b4, R4, _, E4⟩ := byte_ev a q3 b3 ha R3.hi
  obtain ⟨N, q5, b5, R5, _, E5⟩ := num_ev a q4 b4 ha R4.hi
  obtain ⟨q6, b6, l, hE, hk⟩ := each_ev byteS bytOk (fun k c => i_reader_byte k c) (fun p b hp => by
      obtain ⟨x, q, b', h1, _, h2⟩ := byte_ev a p b ha hp
      exact ⟨x, q, b', h1, byte_pos h1, h2⟩) N (fun _ => true)
    (fun k c xs => bd (i_reader_text k c) fun r8 => some (((0, x1, x2, x3, x4, xs, r8.1, [], 0, ()) : TEvent), r8.2.1, ()))
    (fun k n c xs => match xs with
      | [] => l0_i_reader_main k n (N, c, ()) (x1, cur a q1 b1, ()) (x2, cur a q2 b2, ()) (x3, cur a q3 b3, ()) (x4, cur a q4 b4, ())
      | _ :: _ => l1_i_reader_main k n (N, cur a q5 b5, ()) (xs.length : Int) c.1 c.2.1 c.2.2.1 (x1, cur a q1 b1, ()) (x2, cur a q2 b2, ()) (x3, cur a q3 b3, ()) (x4, cur a q4 b4, ()) xs) ha q5 b5
    (fun k n p b xs hx hx0 => by
      cases xs with
      | nil =>
        obtain ⟨rfl, rfl⟩ := hx0 rfl
        simp only [l0_i_reader_main, b0_i_reader_main, List.length_nil]
        by_cases h : (0 : Int) < N
        · cases b with
          | true => simp [h]
          | false => simp [h, maxRow]
        · simp [h]
      | cons y ys =>
        have hw : w64 (((y :: ys).length : Int) + 1) = (((y :: ys).length + 1 : Nat) : Int) := by rw [w64_eq (by simp at hx ⊢; omega) (by simp at hx ⊢; omega)]; rfl
        have hm : (y :: ys).length + 1 ≤ maxRow := by unfold maxRow; omega
        simp only [l1_i_reader_main, b1_i_reader_main]
        by_cases h : ((y :: ys).length : Int) < N
        · cases b with
          | true => rw [decide_eq_true h]; simp
          | false =>
            rw [decide_eq_true h, br_true, if_pos ⟨h, trivial, rfl⟩, hw]
            simp only [Bool.not_false, br_true]
            congr 1
            funext r
            rw [List.length_singleton, gd_le hm]
            simp
        · rw [decide_eq_false h, br_false, if_neg (fun hh => h hh.1)]) (a.size + 1) q5 b5 [] R5.hi (fun _ => by omega) (fun _ => by simp; omega) (by simp) (.inl rfl) (fun _ => ⟨rfl, rfl⟩)
  obtain ⟨t, q7, b7, R7, E7⟩ := itext_ev a q6 b6 ha hE.hi
  obtain ⟨K, hK⟩ := hk ((0, x1, x2, x3, x4, l, t, [], 0, ()), cur a q7 b7, ()) (E7.bd (.of fun _ => rfl))
  refine ⟨x1, x2, x3, x4, l, t, q7, b7, ?_, ?_, R7.hi, ?_, ?_, ?_, ?_⟩
  · refine E1.bd (E2.bd (E3.bd (E4.bd (E5.bd ⟨K, fun k hk => ?_⟩))))
    exact hK k hk k hk
  · have := R1.le; have := R2.le; have := R3.le; have := R4.le; have := R5.le; have := hE.le; have := R7.le; omega
  · have := hE.len; have := hE.hi; omega
  · intro h
    have h1 := (R1.bad h).2.2; have h2 := (R2.bad h1).2.2; have h3 := (R3.bad h2).2.2; have h4 := (R4.bad h3).2.2; have h5 := (R5.bad h4).2.2; have h6 := (hE.bad h5).2.2
    exact (R7.bad h6).2.2
  · intro h7
    have f : ∀ {b b' : Bool}, (b = true → b' = true) → b' = false → b = false := fun {b b'} h h' => by cases b with | false => rfl | true => rw [h rfl] at h'; cases h'
    have h6 := f (fun h => (R7.bad h).2.2) h7
    have h5 := f (fun h => (hE.bad h).2.2) h6
    have h4 := f (fun h => (R5.bad h).2.2) h5
    have h3 := f (fun h => (R4.bad h).2.2) h4
    have h2 := f (fun h => (R3.bad h).2.2) h3
    have h1 := f (fun h => (R2.bad h).2.2) h2
    obtain ⟨o1, z1, s1⟩ := R1.sound h1
    obtain ⟨o2, z2, s2⟩ := R2.sound h2
    obtain ⟨o3, z3, s3⟩ := R3.sound h3
    obtain ⟨o4, z4, s4⟩ := R4.sound h4
    obtain ⟨o5, z5, s5⟩ := R5.sound h5
    obtain ⟨_, o6, z6, s6⟩ := hE.sound h6
    obtain ⟨o7, z7, s7⟩ := R7.sound h7
    have hc := hE.count h6 (fun _ => rfl)
    have hN : N = (l.length : Int) := by
      have := o5.1
      simp at hc
      omega
    subst hN
    have := byte_pos R1 h1
    have := R2.le; have := R3.le; have := R4.le; have := R5.le; have := hE.le; have := R7.le
    refine ⟨by omega, o1, o2, o3, o4, o6, ?_, ?_⟩
    · unfold mainB; simp only [ba_size]; omega
    · unfold mainB
      refine sits_append.2 ⟨s1, ?_⟩; rw [← z1]
      refine sits_append.2 ⟨s2, ?_⟩; rw [← z2]
      refine sits_append.2 ⟨s3, ?_⟩; rw [← z3]
      refine sits_append.2 ⟨s4, ?_⟩; rw [← z4]
      refine sits_append.2 ⟨s5, ?_⟩; rw [← z5]
      refine sits_append.2 ⟨s6, ?_⟩; rw [← z6]
      exact s7
  · intro hb y1 y2 y3 y4 m u k1 k2 k3 k4 k5 hm hu hs
    unfold mainB at hs
    obtain ⟨c1, hs⟩ := sits_append.1 hs
    obtain ⟨rfl, z1, hb⟩ := R1.full hb y1 k1 c1; rw [← z1] at hs
    obtain ⟨c2, hs⟩ := sits_append.1 hs
    obtain ⟨rfl, z2, hb⟩ := R2.full hb y2 k2 c2; rw [← z2] at hs
    obtain ⟨c3, hs⟩ := sits_append.1 hs
    obtain ⟨rfl, z3, hb⟩ := R3.full hb y3 k3 c3; rw [← z3] at hs
    obtain ⟨c4, hs⟩ := sits_append.1 hs
    obtain ⟨rfl, z4, hb⟩ := R4.full hb y4 k4 c4; rw [← z4] at hs
    obtain ⟨c5, hs⟩ := sits_append.1 hs
    obtain ⟨e5, z5, hb⟩ := R5.full hb (m.length : Int) ⟨by omega, by omega⟩ c5; rw [← z5] at hs
    obtain ⟨c6, hs⟩ := sits_append.1 hs
    obtain ⟨rfl, z6, hb⟩ := hE.full hb m k5 (by simp; omega) (fun _ _ => rfl) c6; rw [← z6] at hs
    obtain ⟨rfl, z7, hb⟩ := R7.full hb u hu hs
    exact ⟨⟨rfl, rfl, rfl, rfl, rfl, rfl⟩, by unfold mainB; simp only [ba_size]; omega, hb⟩
end Go.Vm
