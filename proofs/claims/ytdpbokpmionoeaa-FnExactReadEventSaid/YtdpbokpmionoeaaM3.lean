/- Plain laws of reading: numbers, bytes, texts, events. -/
import Derived.Test.YtdpbokpmionoeaaM2
import Derived.Test.YtdpbokpmionoeaaWn
set_option linter.unusedVariables false
set_option linter.unusedSimpArgs false
namespace Go.Vm
open Go

/-- What reading a number at p gives. -/
structure RV (a : ByteArray) (p : Nat) (r : Int × Int × Bool) : Prop where
  sound : r.2.2 = true → 0 ≤ r.1 ∧ r.1 ≤ 1000000000 ∧ r.2.1 = ((p + (varS r.1).size : Nat) : Int) ∧ p + (varS r.1).size ≤ a.size ∧ Sits a p (varS r.1)
  full : ∀ n : Int, 0 ≤ n → n ≤ 1000000000 → Sits a p (varS n) → r = (n, ((p + (varS n).size : Nat) : Int), true)
theorem RV.no {a : ByteArray} {p : Nat} (h : ∀ n : Int, 0 ≤ n → n ≤ 1000000000 → ¬ Sits a p (varS n)) : RV a p (0, 0, false) :=
  ⟨fun h => (by cases h), fun n h0 h1 h2 => absurd h2 (h n h0 h1)⟩
theorem varS_len (n : Int) : (varS n).size = (varL n.toNat).length := by unfold varS; rw [strOfNums_size]
theorem RV.code {a : ByteArray} {p : Nat} {xs : List Int} (hx : Code xs) (hs : xs <+: (numsOf a).drop p) (hp : p + xs.length ≤ a.size) (hc : ∃ D b, xs = D ++ [b] ∧ Hi D ∧ 0 ≤ b ∧ b < 128) :
    RV a p (if dec xs ≤ 1000000000 ∧ (varL (dec xs).toNat).length = xs.length then (dec xs, ((p + xs.length : Nat) : Int), true) else (0, 0, false)) := by
  have h0 : 0 ≤ dec xs := (dec_bd xs).1
  have key : ∀ n : Int, 0 ≤ n → Sits a p (varS n) → dec xs = n ∧ (varL (dec xs).toNat).length = xs.length := by
    intro n hn h
    unfold Sits at h
    rw [numsOf_varS] at h
    have e := code_uniq (code_varL _) hx h hs
    have e2 : dec xs = n := by rw [← e, dec_varL]; omega
    exact ⟨e2, by rw [e2, e]⟩
  by_cases h : dec xs ≤ 1000000000 ∧ (varL (dec xs).toNat).length = xs.length
  · rw [if_pos h]
    refine ⟨fun _ => ?_, fun n hn h1 h2 => ?_⟩
    · obtain ⟨D, b, rfl, hD, hb0, hb1⟩ := hc
      have e := canon D b hD hb0 hb1 (by rw [h.2]; simp)
      refine ⟨h0, h.1, by simp only [varS_len, h.2], by rw [varS_len, h.2]; exact hp, ?_⟩
      unfold Sits
      rw [numsOf_varS, e]; exact hs
    · obtain ⟨e1, e2⟩ := key n hn h2
      rw [varS_len, ← e1, h.2]
  · rw [if_neg h]
    refine RV.no fun n hn h1 h2 => ?_
    obtain ⟨e1, e2⟩ := key n hn h2
    exact h ⟨by omega, e2⟩
theorem pow_le5 {i : Nat} (h : i ≤ 5) : (128 : Int) ^ i ≤ 34359738368 ∧ 0 < (128 : Int) ^ i := by
  rcases i with _ | _ | _ | _ | _ | _ | i <;> first | omega | decide
theorem seven {i : Nat} (h : i ≤ 4) : (2 : Int) ^ (min (w64 (7 * (i : Int))).toNat 64) = 128 ^ i ∧ decide (w64 (7 * (i : Int)) < 0) = false := by
  rw [w64_eq (by omega) (by omega)]
  rcases i with _ | _ | _ | _ | _ | i <;> first | omega | decide
theorem rv_loop (a : ByteArray) (p : Nat) (ha : a.size ≤ 1048576) : ∀ (j i : Nat) (D : List Int), i + j = 5 → D.length = i → Hi D → D <+: (numsOf a).drop p → p + i ≤ a.size →
    ∃ r : Int × Int × Bool, RV a p r ∧ (∃ K, ∀ k, K ≤ k → ∀ n, j < n → l0_s_ReadVar k n a (p : Int) (dec D) ((128 : Int) ^ i) ((p + i : Nat) : Int) = some r) ∧
      (∃ K, ∀ k, K ≤ k → ∀ n, j < n → l0_i_ReadVar k n a (p : Int) (dec D) (i : Int) = some r) := by
  intro j
  induction j with
  | zero =>
    intro i D hi hD hh hs hp
    refine ⟨(0, 0, false), RV.no fun n h0 h1 h2 => ?_, ⟨0, fun k _ n hn => ?_⟩, ⟨0, fun k _ n hn => ?_⟩⟩
    · unfold Sits at h2
      rw [numsOf_varS] at h2
      have := hi_lt hh (code_varL _) hs h2
      have h5 := varS_size h1
      rw [varS_len] at h5
      omega
    · obtain ⟨m, rfl⟩ : ∃ m, n = m + 1 := ⟨n - 1, by omega⟩
      have e1 : w64 ((p : Int) + 5) = p + 5 := w64_eq (by omega) (by omega)
      simp only [l0_s_ReadVar, b0_s_ReadVar, e1]
      rw [show decide (((p + i : Nat) : Int) < (p : Int) + 5) = false by simp; omega]
      simp only [br_false]
      cases decide (((p + i : Nat) : Int) < (a.size : Int)) <;> rfl
    · obtain ⟨m, rfl⟩ : ∃ m, n = m + 1 := ⟨n - 1, by omega⟩
      simp only [l0_i_ReadVar, b0_i_ReadVar]
      rw [show decide ((i : Int) < 5) = false by simp; omega]
      rfl
  | succ j ih =>
    intro i D hi hD hh hs hp
    have e5 : w64 ((p : Int) + 5) = p + 5 := w64_eq (by omega) (by omega)
    have epi : w64 ((p : Int) + (i : Int)) = ((p + i : Nat) : Int) := by rw [w64_eq (by omega) (by omega)]; omega
    have d5 : decide (((p + i : Nat) : Int) < (p : Int) + 5) = true := by simp; omega
    have di : decide ((i : Int) < 5) = true := by simp; omega
    by_cases hz : p + i < a.size
    · have dz : decide (((p + i : Nat) : Int) < (a.size : Int)) = true := by simp; omega
      have d0 : decide (0 ≤ ((p + i : Nat) : Int)) = true := decide_eq_true (Int.natCast_nonneg _)
      have hb := bt_range a (p + i)
      have hsb := sits_byte hz
      unfold Sits at hsb
      rw [numsOf_strOfNums (by simpa using hb)] at hsb
      generalize hbe : bt a (p + i) = b at hb hsb
      have hs2 : (D ++ [b]) <+: (numsOf a).drop p := by
        obtain ⟨t, ht⟩ := hs
        rw [← List.drop_drop, ← ht, ← hD, List.drop_left] at hsb
        obtain ⟨u, rfl⟩ := hsb
        exact ⟨u, by rw [← ht]; simp⟩
      have hw : w64 b = b := w64_eq (by omega) (by omega)
      have ht : Int.tmod b 128 = b % 128 := Int.tmod_eq_emod_of_nonneg (by omega)
      obtain ⟨q1, q2⟩ := pow_le5 (i := i) (by omega)
      obtain ⟨q3, q4⟩ := pow_le5 (i := i + 1) (by omega)
      have hsn := dec_snoc D b
      rw [hD] at hsn
      have hd1 := dec_bd D
      have hd2 := dec_bd (D ++ [b])
      have hl2 : (D ++ [b]).length = i + 1 := by simp [hD]
      rw [hl2] at hd2
      have hx0 : 0 ≤ (b % 128) * 128 ^ i := Int.mul_nonneg (by omega) (by omega)
      have hw2 : w64 ((b % 128) * 128 ^ i) = (b % 128) * 128 ^ i := w64_eq (by omega) (by omega)
      have hw3 : w64 (dec D + (b % 128) * 128 ^ i) = dec (D ++ [b]) := by rw [← hsn]; exact w64_eq (by omega) (by omega)
      have hw4 : w64 ((128 : Int) ^ i * 128) = 128 ^ (i + 1) := by rw [← Int.pow_succ]; exact w64_eq (by omega) (by omega)
      have hw5 : w64 (((p + i : Nat) : Int) + 1) = ((p + (i + 1) : Nat) : Int) := by rw [w64_eq (by omega) (by omega)]; omega
      have hw6 : w64 ((i : Int) + 1) = ((i + 1 : Nat) : Int) := by rw [w64_eq (by omega) (by omega)]; omega
      have hb2 : (b == b && (128 : Int) == 0) = false := beq0 b
      obtain ⟨s1, s2⟩ := seven (i := i) (by omega)
      have step_s : ∀ k m, l0_s_ReadVar k (m + 1) a (p : Int) (dec D) ((128 : Int) ^ i) ((p + i : Nat) : Int) =
          br (decide (b < 128)) (br (decide (dec (D ++ [b]) > 1000000000)) (some (0, 0, false)) (bd (s_l01Var k (dec (D ++ [b]))) fun r2 => br (!(r2.toList == (a.extract p (p + (i + 1))).toList)) (some (0, 0, false)) (some (dec (D ++ [b]), ((p + (i + 1) : Nat) : Int), true)))) (l0_s_ReadVar k m a (p : Int) (dec (D ++ [b])) ((128 : Int) ^ (i + 1)) ((p + (i + 1) : Nat) : Int)) := by
        intro k m
        have g1 : decide (((p + (i + 1) : Nat) : Int) ≤ (a.size : Int)) = true := by simp; omega
        have g2 : decide ((p : Int) ≤ ((p + (i + 1) : Nat) : Int)) = true := by simp; omega
        have g3 : decide (0 ≤ ((p + (i + 1) : Nat) : Int)) = true := by simp; omega
        have g4 : decide (0 ≤ (p : Int)) = true := by simp
        simp only [l0_s_ReadVar, b0_s_ReadVar, e5, d5, dz, d0, br_true, gd_true, Int.toNat_natCast, hbe, hw, ht, hw2, hw3, hw4, hw5, hb2, ng_false, g1, g2, g3, g4]
      have step_i : ∀ k m, l0_i_ReadVar k (m + 1) a (p : Int) (dec D) (i : Int) =
          br (decide (b < 128)) (bd (i_VarText k (dec (D ++ [b]))) fun r2 => br (!r2.2) (some (0, 0, false)) (br ((r2.1.size : Int) != ((i + 1 : Nat) : Int)) (some (0, 0, false)) (some (dec (D ++ [b]), ((p + (i + 1) : Nat) : Int), true)))) (l0_i_ReadVar k m a (p : Int) (dec (D ++ [b])) ((i + 1 : Nat) : Int)) := by
        intro k m
        simp only [l0_i_ReadVar, b0_i_ReadVar, di, epi, dz, d0, br_true, gd_true, Int.toNat_natCast, hbe, hw, ht, hb2, ng_false, s1, s2, hw2, hw3, hw5, hw6]
      by_cases hlt : b < 128
      · have hcode : Code (D ++ [b]) := ⟨D, b, rfl, hh, hb.1, hlt⟩
        refine ⟨_, RV.code hcode hs2 (by rw [hl2]; omega) hcode, ?_, ?_⟩
        · by_cases hn : dec (D ++ [b]) ≤ 1000000000
          · obtain ⟨K, hK⟩ := s_l01Var_ev (dec (D ++ [b])) hd2.1 (by omega)
            refine ⟨K, fun k hk n hn' => ?_⟩
            obtain ⟨m, rfl⟩ : ∃ m, n = m + 1 := ⟨n - 1, by omega⟩
            have hK2 : s_l01Var k (dec (D ++ [b])) = some (varS (dec (D ++ [b]))) := hK k hk
            rw [step_s, decide_eq_true hlt, br_true, show decide (dec (D ++ [b]) > 1000000000) = false by simp; omega, br_false, hK2, bd_some, str_beq, hl2]
            by_cases hl : (varL (dec (D ++ [b])).toNat).length = i + 1
            · rw [if_pos ⟨hn, hl⟩]
              have e := canon D b hh hb.1 hlt (by rw [hl, hD])
              have : varS (dec (D ++ [b])) = a.extract p (p + (i + 1)) := by
                have hsit : Sits a p (varS (dec (D ++ [b]))) := by unfold Sits; rw [numsOf_varS, e]; exact hs2
                have := extract_sits hsit
                rw [varS_len, hl] at this
                exact this.symm
              rw [decide_eq_true this]; rfl
            · rw [if_neg (fun h => hl h.2)]
              have : varS (dec (D ++ [b])) ≠ a.extract p (p + (i + 1)) := by
                intro h
                apply hl
                rw [← varS_len, h, ByteArray.size_extract]
                omega
              rw [decide_eq_false this]; rfl
          · refine ⟨0, fun k _ n hn' => ?_⟩
            obtain ⟨m, rfl⟩ : ∃ m, n = m + 1 := ⟨n - 1, by omega⟩
            rw [step_s, decide_eq_true hlt, br_true, show decide (dec (D ++ [b]) > 1000000000) = true by simp; omega, br_true, if_neg (fun h => hn h.1)]
        · obtain ⟨K, hK⟩ := i_VarText_ev (dec (D ++ [b]))
          refine ⟨K, fun k hk n hn' => ?_⟩
          obtain ⟨m, rfl⟩ : ∃ m, n = m + 1 := ⟨n - 1, by omega⟩
          have hK2 : i_VarText k (dec (D ++ [b])) = some (varR (dec (D ++ [b]))) := hK k hk
          rw [step_i, decide_eq_true hlt, br_true, hK2, bd_some, hl2]
          by_cases hn : dec (D ++ [b]) ≤ 1000000000
          · rw [varR_ok hd2.1 hn]
            simp only [Bool.not_true, br_false, varS_len]
            by_cases hl : (varL (dec (D ++ [b])).toNat).length = i + 1
            · rw [if_pos ⟨hn, hl⟩, hl]; simp
            · rw [if_neg (fun h => hl h.2), show (((varL (dec (D ++ [b])).toNat).length : Int) != ((i + 1 : Nat) : Int)) = true by simp; omega]; rfl
          · rw [if_neg (fun h => hn h.1)]
            have : varR (dec (D ++ [b])) = (⟨#[]⟩, false) := by
              unfold varR inR
              rw [show decide (dec (D ++ [b]) ≤ 1000000000) = false by simp; omega]
              simp
            rw [this]; rfl
      · obtain ⟨r, hr, ⟨K1, h1⟩, ⟨K2, h2⟩⟩ := ih (i + 1) (D ++ [b]) (by omega) hl2 (fun d hd => by
          rcases List.mem_append.1 hd with h | h
          · exact hh d h
          · simp at h; omega) hs2 (by omega)
        refine ⟨r, hr, ⟨K1, fun k hk n hn' => ?_⟩, ⟨K2, fun k hk n hn' => ?_⟩⟩
        · obtain ⟨m, rfl⟩ : ∃ m, n = m + 1 := ⟨n - 1, by omega⟩
          rw [step_s, decide_eq_false hlt, br_false]; exact h1 k hk m (by omega)
        · obtain ⟨m, rfl⟩ : ∃ m, n = m + 1 := ⟨n - 1, by omega⟩
          rw [step_i, decide_eq_false hlt, br_false]; exact h2 k hk m (by omega)
    · have dz : decide (((p + i : Nat) : Int) < (a.size : Int)) = false := by simp; omega
      refine ⟨(0, 0, false), RV.no fun n h0 h1 h2 => ?_, ⟨0, fun k _ n hn => ?_⟩, ⟨0, fun k _ n hn => ?_⟩⟩
      · have h3 := sits_le h2 (by omega)
        unfold Sits at h2
        rw [numsOf_varS] at h2
        have := hi_lt hh (code_varL _) hs h2
        rw [varS_len] at h3
        omega
      · obtain ⟨m, rfl⟩ : ∃ m, n = m + 1 := ⟨n - 1, by omega⟩
        simp only [l0_s_ReadVar, b0_s_ReadVar, dz, br_false]
      · obtain ⟨m, rfl⟩ : ∃ m, n = m + 1 := ⟨n - 1, by omega⟩
        simp only [l0_i_ReadVar, b0_i_ReadVar, di, br_true, epi, dz, br_false]
theorem ReadVar_ev (a : ByteArray) (p : Nat) (ha : a.size ≤ 1048576) (hp : p ≤ a.size) : ∃ r : Int × Int × Bool, RV a p r ∧ Ev (fun k => s_ReadVar k a (p : Int)) r ∧ Ev (fun k => i_ReadVar k a (p : Int)) r := by
  obtain ⟨r, h0, ⟨K1, h1⟩, ⟨K2, h2⟩⟩ := rv_loop a p ha 5 0 [] rfl rfl (fun _ h => by cases h) ⟨_, rfl⟩ (by omega)
  have hin : inR (p : Int) 0 (a.size : Int) = true := by simp [inR]; omega
  refine ⟨r, h0, ⟨K1 + 6, fun k hk => ?_⟩, ⟨K2 + 6, fun k hk => ?_⟩⟩
  · have := h1 k (by omega) k (by omega)
    simpa [s_ReadVar, g_s_ReadVar, l01In_eq, hin, dec] using this
  · have := h2 k (by omega) k (by omega)
    simpa [i_ReadVar, g_i_ReadVar, within_eq, hin, dec] using this

/-! ### Readers -/
abbrev cur (a : ByteArray) (p : Nat) (b : Bool) : TL05Cur := (a, (p : Int), b, ())
/-- What a reader does: from p, b (bad) to q, b', giving x. -/
structure Rd {α : Type} (a : ByteArray) (enc : α → ByteArray) (ok : α → Prop) (d : α) (p : Nat) (b : Bool) (x : α) (q : Nat) (b' : Bool) : Prop where
  le : p ≤ q
  hi : q ≤ a.size
  bad : b = true → x = d ∧ q = p ∧ b' = true
  badv : b' = true → x = d
  sound : b' = false → ok x ∧ q = p + (enc x).size ∧ Sits a p (enc x)
  full : b = false → ∀ y, ok y → Sits a p (enc y) → x = y ∧ q = p + (enc y).size ∧ b' = false
def numOk (n : Int) : Prop := 0 ≤ n ∧ n ≤ 1000000000
def bytOk (n : Int) : Prop := 0 ≤ n ∧ n < 256
def byteS (n : Int) : ByteArray := strOfNums [n]
theorem Rd.stuck {α : Type} {a : ByteArray} {enc : α → ByteArray} {ok : α → Prop} {d : α} {p : Nat} (hp : p ≤ a.size) : Rd a enc ok d p true d p true :=
  ⟨Nat.le_refl _, hp, fun _ => ⟨rfl, rfl, rfl⟩, fun _ => rfl, fun h => by (cases h), fun h => by (cases h)⟩
theorem num_ev (a : ByteArray) (p : Nat) (b : Bool) (ha : a.size ≤ 1048576) (hp : p ≤ a.size) :
    ∃ x q b', Rd a varS numOk 0 p b x q b' ∧ Ev (fun k => s_l05Var k (cur a p b)) (x, cur a q b', ()) ∧ Ev (fun k => i_reader_num k (cur a p b)) (x, cur a q b', ()) := by
  obtain ⟨r, hr, h1, h2⟩ := ReadVar_ev a p ha hp
  obtain ⟨n, q, o⟩ := r
  cases b with
  | true => exact ⟨0, p, true, .stuck hp, h1.bd (.of fun _ => rfl), h2.bd (.of fun _ => rfl)⟩
  | false =>
    cases o with
    | false =>
      refine ⟨0, p, true, ⟨Nat.le_refl _, hp, fun h => by (cases h), fun _ => rfl, fun h => by (cases h), fun _ y hy hs => ?_⟩, h1.bd (.of fun _ => rfl), h2.bd (.of fun _ => rfl)⟩
      have := hr.full y hy.1 hy.2 hs
      simp at this
    | true =>
      obtain ⟨e1, e2, e3, e4, e5⟩ := hr.sound rfl
      simp only at e1 e2 e3 e4 e5
      subst e3
      refine ⟨n, p + (varS n).size, false, ⟨by omega, e4, fun h => by (cases h), fun h => by (cases h), fun _ => ⟨⟨e1, e2⟩, rfl, e5⟩, fun _ y hy hs => ?_⟩, h1.bd (.of fun _ => rfl), h2.bd (.of fun _ => rfl)⟩
      have := hr.full y hy.1 hy.2 hs
      simp only [Prod.mk.injEq] at this
      refine ⟨this.1, ?_, rfl⟩
      omega
theorem bt_extract (a : ByteArray) (p : Nat) (hp : p < a.size) : bt (a.extract p (p + 1)) 0 = bt a p := by
  have h := sits_extract (a := a) (p := p) (q := p + 1) (by omega) (by omega)
  have hs : (a.extract p (p + 1)).size = 1 := by rw [ByteArray.size_extract]; omega
  have h2 : numsOf (a.extract p (p + 1)) = [bt (a.extract p (p + 1)) 0] := by
    have hl : (numsOf (a.extract p (p + 1))).length = 1 := by rw [numsOf_length, hs]
    rw [bt_rd]
    match hx : numsOf (a.extract p (p + 1)), hl with
    | [y], _ => rfl
  have h3 : a.extract p (p + 1) = strOfNums [bt (a.extract p (p + 1)) 0] := by rw [← h2, strOfNums_numsOf]
  rw [h3] at h
  exact (sits_one (bt_range _ _) h).2.symm
theorem byte_ev (a : ByteArray) (p : Nat) (b : Bool) (ha : a.size ≤ 1048576) (hp : p ≤ a.size) :
    ∃ x q b', Rd a byteS bytOk 0 p b x q b' ∧ Ev (fun k => s_l09One k (cur a p b)) (x, cur a q b', ()) ∧ Ev (fun k => i_reader_byte k (cur a p b)) (x, cur a q b', ()) := by
  cases b with
  | true => exact ⟨0, p, true, .stuck hp, .of fun _ => rfl, .of fun _ => rfl⟩
  | false =>
    have e1 : w64 ((a.size : Int) - (p : Int)) = (a.size : Int) - p := w64_eq (by omega) (by omega)
    have e2 : w64 ((p : Int) + 1) = ((p + 1 : Nat) : Int) := by rw [w64_eq (by omega) (by omega)]; omega
    have e3 : w64 (((p + 1 : Nat) : Int) - 1) = (p : Int) := by rw [w64_eq (by omega) (by omega)]; omega
    by_cases hlt : p < a.size
    · have hb := bt_range a p
      have e4 : w64 (bt a p) = bt a p := w64_eq (by omega) (by omega)
      have hs := sits_byte hlt
      have d1 : decide ((1 : Int) > (a.size : Int) - p) = false := by simp; omega
      have d2 : decide (((p + 1 : Nat) : Int) ≤ (a.size : Int)) = true := by simp; omega
      have d3 : decide (0 ≤ ((p + 1 : Nat) : Int)) = true := decide_eq_true (Int.natCast_nonneg _)
      have d4 : decide (0 ≤ (p : Int)) = true := decide_eq_true (Int.natCast_nonneg _)
      have d5 : decide ((p : Int) ≤ ((p + 1 : Nat) : Int)) = true := by simp; omega
      have d6 : decide ((p : Int) ≥ (a.size : Int)) = false := by simp; omega
      have d7 : decide ((p : Int) < (a.size : Int)) = true := by simp; omega
      have hsz : ((a.extract p (p + 1)).size : Int) = 1 := by rw [ByteArray.size_extract]; omega
      refine ⟨bt a p, p + 1, false, ⟨by omega, by omega, fun h => by (cases h), fun h => by (cases h), fun _ => ⟨hb, by simp [byteS, strOfNums_size], hs⟩, fun _ y hy h => ?_⟩, .of fun k => ?_, .of fun k => ?_⟩
      · exact ⟨(sits_one hy h).2, by simp [byteS, strOfNums_size], rfl⟩
      · simp only [s_l09One, s_l05Take, br_false, e1, d1, e2, e3, d2, d3, d4, d5, gd_true, bd_some, Int.toNat_natCast, hsz, bt_extract a p hlt, e4]
        rfl
      · simp only [i_reader_byte, br_false, d6, e2, e3, d4, d7, gd_true, Int.toNat_natCast, e4]
    · have hpe : p = a.size := by omega
      refine ⟨0, p, true, ⟨Nat.le_refl _, hp, fun h => by (cases h), fun _ => rfl, fun h => by (cases h), fun _ y hy h => ?_⟩, .of fun k => ?_, .of fun k => ?_⟩
      · have := (sits_one hy h).1; omega
      · have d1 : decide ((1 : Int) > (a.size : Int) - p) = true := by simp; omega
        simp only [s_l09One, s_l05Take, br_false, e1, d1, br_true, bd_some]
      · have d6 : decide ((p : Int) ≥ (a.size : Int)) = true := by simp; omega
        simp only [i_reader_byte, br_false, d6, br_true]
def txtOk (m : Nat) (t : ByteArray) : Prop := t.size ≤ m
theorem shortS_size (t : ByteArray) : (shortS t).size = (varS (t.size : Int)).size + t.size := by unfold shortS; rw [ba_size]
theorem stext_ev (a : ByteArray) (p : Nat) (b : Bool) (ha : a.size ≤ 1048576) (hp : p ≤ a.size) :
    ∃ x q b', Rd a shortS (txtOk 1000000000) (⟨#[]⟩ : ByteArray) p b x q b' ∧ Ev (fun k => s_l05ReadShort k (cur a p b)) (x, cur a q b', ()) := by
  obtain ⟨n, q, b1, hr, h1, _⟩ := num_ev a p b ha hp
  have hq := hr.hi
  have hpq := hr.le
  have step : ∀ {r : ByteArray × TL05Cur × Unit}, Ev (fun k => s_l05Take k (cur a q b1) n) r → Ev (fun k => s_l05ReadShort k (cur a p b)) (r.1, r.2.1, ()) := fun h => h1.bd (h.bd (.of fun _ => rfl))
  cases b1 with
  | true =>
    have hn := hr.badv rfl
    subst hn
    refine ⟨⟨#[]⟩, q, true, ⟨hpq, hq, fun h => ⟨rfl, (hr.bad h).2.1, rfl⟩, fun _ => rfl, fun h => by (cases h), fun hb y hy hs => ?_⟩, step (r := (⟨#[]⟩, cur a q true, ())) (.of fun _ => rfl)⟩
    unfold shortS at hs
    have := hr.full hb _ ⟨by omega, by have : y.size ≤ 1000000000 := hy; omega⟩ (sits_append.1 hs).1
    cases this.2.2
  | false =>
    have hb : b = false := by cases b with | false => rfl | true => cases (hr.bad rfl).2.2
    subst hb
    obtain ⟨⟨n0, n1⟩, hqe, hsit⟩ := hr.sound rfl
    obtain ⟨m, rfl⟩ : ∃ m : Nat, n = (m : Int) := ⟨n.toNat, by omega⟩
    have e1 : w64 ((a.size : Int) - (q : Int)) = (a.size : Int) - q := w64_eq (by omega) (by omega)
    have e2 : w64 ((q : Int) + (m : Int)) = ((q + m : Nat) : Int) := by rw [w64_eq (by omega) (by omega)]; omega
    have e3 : w64 (((q + m : Nat) : Int) - (m : Int)) = (q : Int) := by rw [w64_eq (by omega) (by omega)]; omega
    by_cases hlt : q + m ≤ a.size
    · have d1 : decide ((m : Int) > (a.size : Int) - q) = false := by simp; omega
      have d2 : decide (((q + m : Nat) : Int) ≤ (a.size : Int)) = true := by simp; omega
      have d3 : decide (0 ≤ ((q + m : Nat) : Int)) = true := decide_eq_true (Int.natCast_nonneg _)
      have d4 : decide (0 ≤ (q : Int)) = true := decide_eq_true (Int.natCast_nonneg _)
      have d5 : decide ((q : Int) ≤ ((q + m : Nat) : Int)) = true := by simp; omega
      have hsz : (a.extract q (q + m)).size = m := by rw [ByteArray.size_extract]; omega
      refine ⟨a.extract q (q + m), q + m, false, ⟨by omega, by omega, fun h => by (cases h), fun h => by (cases h), fun _ => ⟨by unfold txtOk; omega, by rw [shortS_size, hsz]; omega, ?_⟩, fun _ y hy hs => ?_⟩,
        step (r := (a.extract q (q + m), cur a (q + m) false, ())) (.of fun k => ?_)⟩
      · unfold shortS
        rw [hsz]
        refine sits_append.2 ⟨hsit, ?_⟩
        rw [← hqe]
        exact sits_extract (by omega) hlt
      · unfold shortS at hs
        obtain ⟨h3, h4⟩ := sits_append.1 hs
        have := hr.full rfl _ ⟨by omega, by have : y.size ≤ 1000000000 := hy; omega⟩ h3
        obtain ⟨e4, e5, _⟩ := this
        have e6 : m = y.size := by omega
        subst e6
        rw [← e5] at h4
        exact ⟨extract_sits h4, by rw [shortS_size]; omega, rfl⟩
      · simp only [s_l05Take, br_false, e1, d1, e2, e3, d2, d3, d4, d5, gd_true, Int.toNat_natCast]
    · refine ⟨⟨#[]⟩, q, true, ⟨hpq, hq, fun h => by (cases h), fun _ => rfl, fun h => by (cases h), fun _ y hy hs => ?_⟩, step (r := (⟨#[]⟩, cur a q true, ())) (.of fun k => ?_)⟩
      · unfold shortS at hs
        obtain ⟨h3, h4⟩ := sits_append.1 hs
        have := hr.full rfl _ ⟨by omega, by have : y.size ≤ 1000000000 := hy; omega⟩ h3
        obtain ⟨e4, e5, _⟩ := this
        rw [← e5] at h4
        have := sits_le h4 hq
        omega
      · have d1 : decide ((m : Int) > (a.size : Int) - q) = true := by simp; omega
        simp only [s_l05Take, br_false, e1, d1, br_true]
theorem itext_ev (a : ByteArray) (p : Nat) (b : Bool) (ha : a.size ≤ 1048576) (hp : p ≤ a.size) :
    ∃ x q b', Rd a shortS (txtOk 20000) (⟨#[]⟩ : ByteArray) p b x q b' ∧ Ev (fun k => i_reader_text k (cur a p b)) (x, cur a q b', ()) := by
  obtain ⟨r, hr, _, h2⟩ := ReadVar_ev a p ha hp
  obtain ⟨n, q, o⟩ := r
  have nope : ∀ {x : ByteArray × Int}, Ev (fun k => i_ReadShort k a (p : Int)) (x.1, x.2, false) → (∀ y : ByteArray, y.size ≤ 20000 → ¬ Sits a p (shortS y)) →
      ∃ x q b', Rd a shortS (txtOk 20000) (⟨#[]⟩ : ByteArray) p b x q b' ∧ Ev (fun k => i_reader_text k (cur a p b)) (x, cur a q b', ()) := by
    intro x h hno
    refine ⟨⟨#[]⟩, p, true, ⟨Nat.le_refl _, hp, fun _ => ⟨rfl, rfl, rfl⟩, fun _ => rfl, fun h => by (cases h), fun _ y hy hs => absurd hs (hno y hy)⟩, h.bd (.of fun k => ?_)⟩
    cases b <;> rfl
  cases o with
  | false =>
    refine nope (x := (⟨#[]⟩, 0)) (h2.bd (.of fun _ => rfl)) fun y hy hs => ?_
    unfold shortS at hs
    have := hr.full _ (by omega) (by omega) (sits_append.1 hs).1
    simp at this
  | true =>
    obtain ⟨n0, n1, hq, hqs, hsit⟩ := hr.sound rfl
    simp only at n0 n1 hq hqs hsit
    obtain ⟨m, rfl⟩ : ∃ m : Nat, n = (m : Int) := ⟨n.toNat, by omega⟩
    generalize hqe : p + (varS (m : Int)).size = q' at *
    subst hq
    have same : ∀ y : ByteArray, y.size ≤ 20000 → Sits a p (shortS y) → m = y.size ∧ Sits a q' y := by
      intro y hy hs
      unfold shortS at hs
      obtain ⟨h3, h4⟩ := sits_append.1 hs
      have := hr.full _ (by omega) (by omega) h3
      simp only [Prod.mk.injEq] at this
      have e6 : m = y.size := by omega
      subst e6
      rw [hqe] at h4
      exact ⟨rfl, h4⟩
    have e1 : w64 ((a.size : Int) - (q' : Int)) = (a.size : Int) - q' := w64_eq (by omega) (by omega)
    have e2 : w64 ((q' : Int) + (m : Int)) = ((q' + m : Nat) : Int) := by rw [w64_eq (by omega) (by omega)]; omega
    by_cases hbig : m ≤ 20000
    · have d0 : decide ((m : Int) > 20000) = false := by simp; omega
      by_cases hlt : q' + m ≤ a.size
      · have d1 : decide ((m : Int) > (a.size : Int) - q') = false := by simp; omega
        have d2 : decide (((q' + m : Nat) : Int) ≤ (a.size : Int)) = true := by simp; omega
        have d3 : decide (0 ≤ ((q' + m : Nat) : Int)) = true := decide_eq_true (Int.natCast_nonneg _)
        have d4 : decide (0 ≤ (q' : Int)) = true := decide_eq_true (Int.natCast_nonneg _)
        have d5 : decide ((q' : Int) ≤ ((q' + m : Nat) : Int)) = true := by simp; omega
        have hsz : (a.extract q' (q' + m)).size = m := by rw [ByteArray.size_extract]; omega
        have hev : Ev (fun k => i_ReadShort k a (p : Int)) (a.extract q' (q' + m), ((q' + m : Nat) : Int), true) := h2.bd (.of fun k => by
          simp only [Bool.not_true, br_false, d0, e1, d1, e2, d2, d3, d4, d5, gd_true, Int.toNat_natCast])
        cases b with
        | true => exact ⟨⟨#[]⟩, p, true, .stuck hp, hev.bd (.of fun _ => rfl)⟩
        | false =>
          refine ⟨a.extract q' (q' + m), q' + m, false, ⟨by omega, by omega, fun h => by (cases h), fun h => by (cases h), fun _ => ⟨by unfold txtOk; omega, by rw [shortS_size, hsz]; omega, ?_⟩, fun _ y hy hs => ?_⟩, hev.bd (.of fun _ => rfl)⟩
          · unfold shortS
            rw [hsz]
            refine sits_append.2 ⟨hsit, ?_⟩
            rw [hqe]
            exact sits_extract (by omega) hlt
          · obtain ⟨e6, h4⟩ := same y hy hs
            subst e6
            exact ⟨extract_sits h4, by rw [shortS_size]; omega, rfl⟩
      · refine nope (x := (⟨#[]⟩, 0)) (h2.bd (.of fun k => ?_)) fun y hy hs => ?_
        · have d1 : decide ((m : Int) > (a.size : Int) - q') = true := by simp; omega
          simp only [Bool.not_true, br_false, d0, e1, d1, br_true]
        · obtain ⟨e6, h4⟩ := same y hy hs
          have := sits_le h4 hqs
          omega
    · refine nope (x := (⟨#[]⟩, 0)) (h2.bd (.of fun k => ?_)) fun y hy hs => ?_
      · have d0 : decide ((m : Int) > 20000) = true := by simp; omega
        simp only [Bool.not_true, br_false, d0, br_true]
      · obtain ⟨e6, h4⟩ := same y hy hs
        omega
end Go.Vm
