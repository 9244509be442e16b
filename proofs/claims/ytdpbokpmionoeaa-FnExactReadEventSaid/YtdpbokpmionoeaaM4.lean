/- Plain laws of reading events. -/
import Derived.Test.YtdpbokpmionoeaaM3
set_option linter.unusedVariables false
set_option linter.unusedSimpArgs false
namespace Go.Vm
open Go

def catB (enc : Int → ByteArray) : List Int → ByteArray
  | [] => ⟨#[]⟩
  | x :: xs => enc x ++ catB enc xs
theorem sits_nil (a : ByteArray) (p : Nat) : Sits a p (⟨#[]⟩ : ByteArray) := ⟨_, rfl⟩
structure Each (a : ByteArray) (enc : Int → ByteArray) (ok : Int → Prop) (N : Int) (go : Nat → Bool) (n0 : Nat) (p : Nat) (b : Bool) (xs : List Int) (q : Nat) (b' : Bool) : Prop where
  le : p ≤ q
  hi : q ≤ a.size
  bad : b = true → xs = [] ∧ q = p ∧ b' = true
  len : xs.length ≤ (q - p) + 1
  sound : b' = false → xs.length ≤ q - p ∧ (∀ x ∈ xs, ok x) ∧ q = p + (catB enc xs).size ∧ Sits a p (catB enc xs)
  count : b' = false → (∀ v, go v = true) → (n0 : Int) + xs.length = max 0 N
  full : b = false → ∀ ys : List Int, (∀ y ∈ ys, ok y) → (n0 : Int) + ys.length = N → (∀ v : Nat, (v : Int) < N → go v = true) → Sits a p (catB enc ys) → xs = ys ∧ q = p + (catB enc ys).size ∧ b' = false
theorem each_ev {R : Type} {a : ByteArray} (enc : Int → ByteArray) (ok : Int → Prop) (elem : Nat → TL05Cur → Option (Int × TL05Cur × Unit))
    (he : ∀ p b, p ≤ a.size → ∃ x q b', Rd a enc ok 0 p b x q b' ∧ (b' = false → p < q) ∧ Ev (fun k => elem k (cur a p b)) (x, cur a q b', ()))
    (N : Int) (go : Nat → Bool) (C : Nat → TL05Cur → List Int → Option R) (l : Nat → Nat → TL05Cur → List Int → Option R) (ha : a.size ≤ 1048576) (p0 : Nat) (b0 : Bool)
    (hl : ∀ k n p b (xs : List Int), xs.length ≤ 2000000 → (xs = [] → p = p0 ∧ b = b0) → l k (n + 1) (cur a p b) xs =
      if (xs.length : Int) < N ∧ go xs.length = true ∧ b = false then bd (elem k (cur a p b)) (fun r => l k n r.2.1 (xs ++ [r.1])) else C k (cur a p b) xs) :
    ∀ (m p : Nat) (b : Bool) (xs0 : List Int), p ≤ a.size → (b = false → a.size - p < m) → (b = false → xs0.length + (a.size - p) ≤ 1100000) → xs0.length ≤ 1100001 → (xs0 = [] ∨ (xs0.length : Int) ≤ N) → (xs0 = [] → p = p0 ∧ b = b0) →
    ∃ q b' xs, Each a enc ok N go xs0.length p b xs q b' ∧ ∀ v, Ev (fun k => C k (cur a q b') (xs0 ++ xs)) v → ∃ K, ∀ k, K ≤ k → ∀ n, K ≤ n → l k n (cur a p b) xs0 = some v := by
  intro m
  have stop : ∀ (p : Nat) (b : Bool) (xs0 : List Int), p ≤ a.size → xs0.length ≤ 1100001 → (xs0 = [] ∨ (xs0.length : Int) ≤ N) → (xs0 = [] → p = p0 ∧ b = b0) → ¬ ((xs0.length : Int) < N ∧ go xs0.length = true ∧ b = false) →
      ∃ q b' xs, Each a enc ok N go xs0.length p b xs q b' ∧ ∀ v, Ev (fun k => C k (cur a q b') (xs0 ++ xs)) v → ∃ K, ∀ k, K ≤ k → ∀ n, K ≤ n → l k n (cur a p b) xs0 = some v := by
    intro p b xs0 hp h2 h3 h4 hc
    refine ⟨p, b, [], ⟨Nat.le_refl _, hp, fun h => ⟨rfl, rfl, h⟩, by simp, fun _ => ⟨by simp, fun _ h => by (cases h), rfl, sits_nil a p⟩, fun hb hg => ?_, fun hb ys _ h5 hg _ => ?_⟩, fun v hv => ?_⟩
    · have : ¬ (xs0.length : Int) < N := fun h => hc ⟨h, hg _, hb⟩
      rcases h3 with h3 | h3
      · subst h3; simp at this ⊢; omega
      · simp; omega
    · have : ¬ (xs0.length : Int) < N := fun h => hc ⟨h, hg _ h, hb⟩
      have : ys = [] := List.length_eq_zero_iff.1 (by omega)
      subst this
      exact ⟨rfl, rfl, hb⟩
    · obtain ⟨K, hK⟩ := hv
      refine ⟨K + 1, fun k hk n hn => ?_⟩
      obtain ⟨n, rfl⟩ : ∃ n', n = n' + 1 := ⟨n - 1, by omega⟩
      rw [hl k n p b xs0 (by omega) h4, if_neg hc]
      simpa using hK k (by omega)
  induction m with
  | zero =>
    intro p b xs0 hp h0 h1 h2 h3 h4
    refine stop p b xs0 hp h2 h3 h4 (fun h => ?_)
    have := h0 h.2.2
    omega
  | succ m ih =>
    intro p b xs0 hp h0 h1 h2 h3 h4
    by_cases hc : (xs0.length : Int) < N ∧ go xs0.length = true ∧ b = false
    · obtain ⟨hlt, hgo, hb⟩ := hc
      subst hb
      obtain ⟨x, q1, b1, hr, hpq, hev⟩ := he p false hp
      have hz := h0 rfl
      have hz1 := h1 rfl
      obtain ⟨q, b', xs, hE, hk⟩ := ih q1 b1 (xs0 ++ [x]) hr.hi (fun h => by have := hpq h; have := hr.hi; omega) (fun h => by have := hpq h; have := hr.hi; simp; omega) (by simp; omega) (.inr (by simp; omega)) (fun h => by simp at h)
      refine ⟨q, b', x :: xs, ⟨by have := hr.le; have := hE.le; omega, hE.hi, fun h => by (cases h), ?_, fun h => ?_, fun h hg => ?_, fun _ ys hy hlen hg hs => ?_⟩, fun v hv => ?_⟩
      · have e1 := hE.len
        have e2 := hE.le
        cases b1 with
        | true => have := (hE.bad rfl).1; subst this; simp
        | false => have := hpq rfl; simp; omega
      · have hb1 : b1 = false := by cases b1 with | false => rfl | true => have := (hE.bad rfl).2.2; rw [this] at h; cases h
        obtain ⟨s1, s2, s3, s4⟩ := hE.sound h
        obtain ⟨t1, t2, t3⟩ := hr.sound hb1
        have := hpq hb1
        have := hE.le
        refine ⟨by simp; omega, fun y hy => ?_, ?_, ?_⟩
        · rcases List.mem_cons.1 hy with rfl | hy
          · exact t1
          · exact s2 y hy
        · rw [catB, ba_size]; omega
        · rw [catB]; exact sits_append.2 ⟨t3, by rw [← t2]; exact s4⟩
      · have := hE.count h hg
        simp at this ⊢
        omega
      · cases ys with
        | nil => simp at hlen; omega
        | cons y ys =>
          rw [catB] at hs
          obtain ⟨h5, h6⟩ := sits_append.1 hs
          obtain ⟨rfl, e2, e3⟩ := hr.full rfl y (hy y (List.mem_cons_self ..)) h5
          rw [← e2] at h6
          obtain ⟨rfl, e4, e5⟩ := hE.full e3 ys (fun z hz => hy z (List.mem_cons_of_mem _ hz)) (by simp at hlen ⊢; omega) hg h6
          exact ⟨rfl, by rw [catB, ba_size]; omega, e5⟩
      · obtain ⟨K, hK⟩ := hk v (by simpa using hv)
        obtain ⟨K2, hK2⟩ := hev
        refine ⟨max K K2 + 1, fun k hk n hn => ?_⟩
        obtain ⟨n, rfl⟩ : ∃ n', n = n' + 1 := ⟨n - 1, by omega⟩
        have e3 : elem k (cur a p false) = some (x, cur a q1 b1, ()) := hK2 k (by omega)
        rw [hl k n p false xs0 (by omega) h4, if_pos ⟨hlt, hgo, rfl⟩, e3, bd_some]
        exact hK k (by omega) n (by omega)
    · exact stop p b xs0 hp h2 h3 h4 hc
theorem num_pos {a : ByteArray} {p : Nat} {b : Bool} {x : Int} {q : Nat} {b' : Bool} (h : Rd a varS numOk 0 p b x q b') : b' = false → p < q := by
  intro hb
  have := (h.sound hb).2.1
  have h2 := varL_pos x.toNat
  rw [varS_len] at this
  omega
theorem byte_pos {a : ByteArray} {p : Nat} {b : Bool} {x : Int} {q : Nat} {b' : Bool} (h : Rd a byteS bytOk 0 p b x q b') : b' = false → p < q := by
  intro hb
  have := (h.sound hb).2.1
  simp [byteS, strOfNums_size] at this
  omega

theorem ba_assoc (a b c : ByteArray) : a ++ b ++ c = a ++ (b ++ c) := ByteArray.append_assoc
theorem catB_varS (l : List Int) : catV l = catB varS l := by
  induction l with
  | nil => apply ba_ext; simp [catV, catB, strOfNums]
  | cons x xs ih =>
    rw [catB, ← ih]
    unfold catV
    rw [List.flatMap_cons, strOfNums_append, strOfNums_numsOf]
theorem catB_byteS {l : List Int} (h : ∀ x ∈ l, bytOk x) : byteL l = catB byteS l := by
  induction l with
  | nil => apply ba_ext; simp [byteL, catB, strOfNums]
  | cons x xs ih =>
    rw [catB, ← ih (fun y hy => h y (List.mem_cons_of_mem _ hy))]
    have hx := h x (List.mem_cons_self ..)
    unfold byteL byteS
    rw [List.map_cons, u8_eq hx.1 hx.2, ← strOfNums_append]
    rfl
/-- What an event tells, byte by byte. -/
def mainB (x1 x2 x3 x4 : Int) (l : List Int) (t : ByteArray) : ByteArray := byteS x1 ++ (byteS x2 ++ (byteS x3 ++ (byteS x4 ++ (varS (l.length : Int) ++ (catB byteS l ++ shortS t)))))
theorem mainS_eq {e : TEvent} (h1 : bytOk (eKind e)) (h2 : bytOk (eSender e)) (h3 : bytOk (eUser e)) (h4 : bytOk (eMember e)) (h5 : ∀ x ∈ eLevels e, bytOk x) :
    mainS e = mainB (eKind e) (eSender e) (eUser e) (eMember e) (eLevels e) (eText e) := by
  have e4 : bytes4 e = byteS (eKind e) ++ (byteS (eSender e) ++ (byteS (eUser e) ++ byteS (eMember e))) := by
    unfold bytes4 byteS
    rw [u8_eq h1.1 h1.2, u8_eq h2.1 h2.2, u8_eq h3.1 h3.2, u8_eq h4.1 h4.2, ← strOfNums_append, ← strOfNums_append, ← strOfNums_append]
    rfl
  unfold mainS mainB
  rw [e4, catB_byteS h5]
  simp only [ba_assoc]
theorem imain_ev (a : ByteArray) (p : Nat) (b : Bool) (ha : a.size ≤ 1048576) (hp : p ≤ a.size) :
    ∃ x1 x2 x3 x4 l t q b', Ev (fun k => i_reader_main k (cur a p b)) ((0, x1, x2, x3, x4, l, t, [], 0, ()), cur a q b', ()) ∧ p ≤ q ∧ q ≤ a.size ∧ l.length ≤ 1048577 ∧
      (b = true → b' = true) ∧ (b' = false → p < q ∧ bytOk x1 ∧ bytOk x2 ∧ bytOk x3 ∧ bytOk x4 ∧ (∀ x ∈ l, bytOk x) ∧ q = p + (mainB x1 x2 x3 x4 l t).size ∧ Sits a p (mainB x1 x2 x3 x4 l t)) ∧
      (b = false → ∀ y1 y2 y3 y4 m u, bytOk y1 → bytOk y2 → bytOk y3 → bytOk y4 → (∀ x ∈ m, bytOk x) → m.length ≤ 1000 → u.size ≤ 20000 → Sits a p (mainB y1 y2 y3 y4 m u) →
        (x1 = y1 ∧ x2 = y2 ∧ x3 = y3 ∧ x4 = y4 ∧ l = m ∧ t = u) ∧ q = p + (mainB y1 y2 y3 y4 m u).size ∧ b' = false) := by
  obtain ⟨x1, q1, b1, R1, _, E1⟩ := byte_ev a p b ha hp
  obtain ⟨x2, q2, b2, R2, _, E2⟩ := byte_ev a q1 b1 ha R1.hi
  obtain ⟨x3, q3, b3, R3, _, E3⟩ := byte_ev a q2 b2 ha R2.hi
  obtain ⟨x4, q4, b4, R4, _, E4⟩ := byte_ev a q3 b3 ha R3.hi
  obtain ⟨N, q5, b5, R5, _, E5⟩ := num_ev a q4 b4 ha R4.hi
  obtain ⟨q6, b6, l, hE, hk⟩ := each_ev byteS bytOk (fun k c => i_reader_byte k c) (fun p b hp => by
      obtain ⟨x, q, b', h1, _, h2⟩ := byte_ev a p b ha hp
      exact ⟨x, q, b', h1, byte_pos h1, h2⟩) N (fun _ => true)
    (fun k c xs => bd (i_reader_text k c) fun r8 => some (((0, x1, x2, x3, x4, xs, r8.1, [], 0, ()) : TEvent), r8.2.1, ()))
    (fun k n c xs => match xs with
      | [] => l0_i_reader_main k n (N, c, ()) (x1, cur a q1 b1, ()) (x2, cur a q2 b2, ()) (x3, cur a q3 b3, ()) (x4, cur a q4 b4, ())
      | _ :: _ => l1_i_reader_main k n (N, cur a q5 b5, ()) (xs.length : Int) c.1 c.2.1 c.2.2.1 (x1, cur a q1 b1, ()) (x2, cur a q2 b2, ()) (x3, cur a q3 b3, ()) (x4, cur a q4 b4, ()) xs) ha q5 b5
    (fun k n p b xs hx hx0 => by
      cases xs with
      | nil =>
        obtain ⟨rfl, rfl⟩ := hx0 rfl
        simp only [l0_i_reader_main, b0_i_reader_main, List.length_nil]
        by_cases h : (0 : Int) < N
        · cases b with
          | true => simp [h]
          | false => simp [h, maxRow]
        · simp [h]
      | cons y ys =>
        have hw : w64 (((y :: ys).length : Int) + 1) = (((y :: ys).length + 1 : Nat) : Int) := by rw [w64_eq (by simp at hx ⊢; omega) (by simp at hx ⊢; omega)]; rfl
        have hm : (y :: ys).length + 1 ≤ maxRow := by unfold maxRow; omega
        simp only [l1_i_reader_main, b1_i_reader_main]
        by_cases h : ((y :: ys).length : Int) < N
        · cases b with
          | true => rw [decide_eq_true h]; simp
          | false =>
            rw [decide_eq_true h, br_true, if_pos ⟨h, trivial, rfl⟩, hw]
            simp only [Bool.not_false, br_true]
            congr 1
            funext r
            rw [List.length_singleton, gd_le hm]
            simp
        · rw [decide_eq_false h, br_false, if_neg (fun hh => h hh.1)]) (a.size + 1) q5 b5 [] R5.hi (fun _ => by omega) (fun _ => by simp; omega) (by simp) (.inl rfl) (fun _ => ⟨rfl, rfl⟩)
  obtain ⟨t, q7, b7, R7, E7⟩ := itext_ev a q6 b6 ha hE.hi
  obtain ⟨K, hK⟩ := hk ((0, x1, x2, x3, x4, l, t, [], 0, ()), cur a q7 b7, ()) (E7.bd (.of fun _ => rfl))
  refine ⟨x1, x2, x3, x4, l, t, q7, b7, ?_, ?_, R7.hi, ?_, ?_, ?_, ?_⟩
  · refine E1.bd (E2.bd (E3.bd (E4.bd (E5.bd ⟨K, fun k hk => ?_⟩))))
    exact hK k hk k hk
  · have := R1.le; have := R2.le; have := R3.le; have := R4.le; have := R5.le; have := hE.le; have := R7.le; omega
  · have := hE.len; have := hE.hi; omega
  · intro h
    have h1 := (R1.bad h).2.2; have h2 := (R2.bad h1).2.2; have h3 := (R3.bad h2).2.2; have h4 := (R4.bad h3).2.2; have h5 := (R5.bad h4).2.2; have h6 := (hE.bad h5).2.2
    exact (R7.bad h6).2.2
  · intro h7
    have f : ∀ {b b' : Bool}, (b = true → b' = true) → b' = false → b = false := fun {b b'} h h' => by cases b with | false => rfl | true => rw [h rfl] at h'; cases h'
    have h6 := f (fun h => (R7.bad h).2.2) h7
    have h5 := f (fun h => (hE.bad h).2.2) h6
    have h4 := f (fun h => (R5.bad h).2.2) h5
    have h3 := f (fun h => (R4.bad h).2.2) h4
    have h2 := f (fun h => (R3.bad h).2.2) h3
    have h1 := f (fun h => (R2.bad h).2.2) h2
    obtain ⟨o1, z1, s1⟩ := R1.sound h1
    obtain ⟨o2, z2, s2⟩ := R2.sound h2
    obtain ⟨o3, z3, s3⟩ := R3.sound h3
    obtain ⟨o4, z4, s4⟩ := R4.sound h4
    obtain ⟨o5, z5, s5⟩ := R5.sound h5
    obtain ⟨_, o6, z6, s6⟩ := hE.sound h6
    obtain ⟨o7, z7, s7⟩ := R7.sound h7
    have hc := hE.count h6 (fun _ => rfl)
    have hN : N = (l.length : Int) := by
      have := o5.1
      simp at hc
      omega
    subst hN
    have := byte_pos R1 h1
    have := R2.le; have := R3.le; have := R4.le; have := R5.le; have := hE.le; have := R7.le
    refine ⟨by omega, o1, o2, o3, o4, o6, ?_, ?_⟩
    · unfold mainB; simp only [ba_size]; omega
    · unfold mainB
      refine sits_append.2 ⟨s1, ?_⟩; rw [← z1]
      refine sits_append.2 ⟨s2, ?_⟩; rw [← z2]
      refine sits_append.2 ⟨s3, ?_⟩; rw [← z3]
      refine sits_append.2 ⟨s4, ?_⟩; rw [← z4]
      refine sits_append.2 ⟨s5, ?_⟩; rw [← z5]
      refine sits_append.2 ⟨s6, ?_⟩; rw [← z6]
      exact s7
  · intro hb y1 y2 y3 y4 m u k1 k2 k3 k4 k5 hm hu hs
    unfold mainB at hs
    obtain ⟨c1, hs⟩ := sits_append.1 hs
    obtain ⟨rfl, z1, hb⟩ := R1.full hb y1 k1 c1; rw [← z1] at hs
    obtain ⟨c2, hs⟩ := sits_append.1 hs
    obtain ⟨rfl, z2, hb⟩ := R2.full hb y2 k2 c2; rw [← z2] at hs
    obtain ⟨c3, hs⟩ := sits_append.1 hs
    obtain ⟨rfl, z3, hb⟩ := R3.full hb y3 k3 c3; rw [← z3] at hs
    obtain ⟨c4, hs⟩ := sits_append.1 hs
    obtain ⟨rfl, z4, hb⟩ := R4.full hb y4 k4 c4; rw [← z4] at hs
    obtain ⟨c5, hs⟩ := sits_append.1 hs
    obtain ⟨e5, z5, hb⟩ := R5.full hb (m.length : Int) ⟨by omega, by omega⟩ c5; rw [← z5] at hs
    obtain ⟨c6, hs⟩ := sits_append.1 hs
    obtain ⟨rfl, z6, hb⟩ := hE.full hb m k5 (by simp; omega) (fun _ _ => rfl) c6; rw [← z6] at hs
    obtain ⟨rfl, z7, hb⟩ := R7.full hb u hu hs
    exact ⟨⟨rfl, rfl, rfl, rfl, rfl, rfl⟩, by unfold mainB; simp only [ba_size]; omega, hb⟩
end Go.Vm
