/- Plain laws. -/
import Derived.Test.YtnkkafeaaogffaaS3
import Derived.Test.YtnkkafeaaogffaaV3
set_option linter.unusedVariables false
set_option linter.unusedSimpArgs false
namespace Go.Vm
open Go
/-! ### Confs -/
def RiseP (xs : List Int) : Prop := ∀ i, i < xs.length → (1 ≤ rd 0 xs i ∧ rd 0 xs i ≤ 4) ∧ (0 < i → rd 0 xs (i - 1) < rd 0 xs i)
def ConfP (xs : List Int) : Prop := 1 ≤ xs.length ∧ xs.length ≤ 4 ∧ RiseP xs
noncomputable def confOk (xs : List Int) : Bool := @decide (ConfP xs) (Classical.propDecidable _)
theorem confOk_iff {xs : List Int} : confOk xs = true ↔ ConfP xs := by unfold confOk; exact @decide_eq_true_iff _ (Classical.propDecidable _)
theorem confOk_no {xs : List Int} (h : ¬ ConfP xs) : confOk xs = false := by
  cases e : confOk xs with
  | false => rfl
  | true => exact absurd (confOk_iff.1 e) h
theorem inR_dec (a b c : Int) : inR a b c = decide (b ≤ a ∧ a ≤ c) := by unfold inR; rw [Bool.decide_and]
/-- A row is looked through for what does not rise. -/
theorem rise_loop {l : Nat → Nat → Nat → Option Bool} {V : Bool} (xs : List Int)
    (hs : ∀ i, i < xs.length → (((1 ≤ rd 0 xs i ∧ rd 0 xs i ≤ 4) ∧ (0 < i → rd 0 xs (i - 1) < rd 0 xs i)) → Re (fun x : Nat × Nat => l x.1 x.2 (i + 1)) (fun v => v = V)) → (¬ ((1 ≤ rd 0 xs i ∧ rd 0 xs i ≤ 4) ∧ (0 < i → rd 0 xs (i - 1) < rd 0 xs i)) → V = false) → Re (fun x : Nat × Nat => l x.1 (x.2 + 1) i) (fun v => v = V))
    (hn : ¬ RiseP xs → V = false) (he : RiseP xs → Re (fun x : Nat × Nat => l x.1 (x.2 + 1) xs.length) (fun v => v = V)) : Re (fun x : Nat × Nat => l x.1 x.2 0) (fun v => v = V) := by
  have := Re.loop (ι := Nat) (l := fun k n i => l k n i) (I := fun i => i ≤ xs.length ∧ ∀ j, j < i → (1 ≤ rd 0 xs j ∧ rd 0 xs j ≤ 4) ∧ (0 < j → rd 0 xs (j - 1) < rd 0 xs j)) (fun i => xs.length - i) (Q := fun _ v => v = V) (fun i hi ih => by
    by_cases h : i < xs.length
    · refine hs i h (fun g => ih (i + 1) ⟨by omega, fun j hj => ?_⟩ (by omega)) (fun g => hn fun hr => g (hr i h))
      by_cases hj2 : j < i
      · exact hi.2 j hj2
      · have : j = i := by omega
        subst this; exact g
    · have hi2 : i = xs.length := by omega
      subst hi2
      exact he hi.2) 0 ⟨Nat.zero_le _, fun j hj => by omega⟩
  exact this
theorem s_ConfOk_ev (xs : List Int) (hx : xs.length ≤ 1048576) : Ev (fun k => s_ConfOk k xs) (confOk xs) := by
  refine Re.eq ?_
  refine Re.s1 (l01In_eq · _ _ _) ?_
  rw [inR_dec]
  refine Re.brd (fun h => ?_) (fun h => Re.ret (confOk_no fun hc => h ⟨by have := hc.1; omega, by have := hc.2.1; omega⟩).symm)
  refine Re.b1 (P := fun v => v = confOk xs) ?_ (fun v hv => Re.ret hv)
  refine Re.enter (f := fun k n => l0_s_l05Rise k n xs 1 4 0) among_nat ?_
  refine rise_loop (l := fun k n i => l0_s_l05Rise k n xs 1 4 (i : Int)) xs (fun i hi ih hf => ?_) (fun g => confOk_no fun hc => g hc.2.2) (fun g => ?_)
  · simp only [l0_s_l05Rise, b0_s_l05Rise]
    refine Re.brd (fun _ => ?_) (fun h => absurd (by omega : (i : Int) < xs.length) h)
    refine Re.gdd (by omega) (Re.gdd (by omega) ?_)
    refine Re.b2 (P := fun v => v = inR (rd 0 xs i) 1 4) (Ev.re (Ev.of fun k => l01In_eq k _ _ _) rfl) fun v hv => ?_
    subst hv
    rw [inR_dec]
    refine Re.br (fun h1 => ?_) (fun h1 => ?_)
    · exact Re.ret (hf fun g => by simp [g.1] at h1).symm
    · have h1 : 1 ≤ rd 0 xs i ∧ rd 0 xs i ≤ 4 := by simpa using h1
      have e : w64 ((i : Int) + 1) = ((i + 1 : Nat) : Int) := idx_succ hi (by omega)
      rw [e]
      refine Re.brd (fun h2 => ?_) (fun h2 => ih ⟨h1, fun h => absurd (by omega) h2⟩)
      have e2 : w64 ((i : Int) - 1) = ((i - 1 : Nat) : Int) := idx_pred (by omega) (by omega)
      rw [e2]
      refine Re.gdd (by omega) (Re.gdd (by omega) (Re.gdd (by omega) (Re.gdd (by omega) ?_)))
      simp only [Int.toNat_natCast]
      refine Re.brd (fun h3 => Re.ret (hf fun g => by have := g.2 (by omega); omega).symm) (fun h3 => ih ⟨h1, fun _ => by omega⟩)
  · simp only [l0_s_l05Rise, b0_s_l05Rise, Int.lt_irrefl, decide_false, br_false]
    exact Re.ret (confOk_iff.2 ⟨by omega, by omega, g⟩).symm
theorem i_ConfOk_ev (xs : List Int) (hx : xs.length ≤ 1048576) : Ev (fun k => i_ConfOk k xs) (confOk xs) := by
  refine Re.eq ?_
  refine Re.enter (f := fun k n => l0_i_ConfOk k n xs 0) among_nat ?_
  refine rise_loop (l := fun k n i => l0_i_ConfOk k n xs (i : Int)) xs (fun i hi ih hf => ?_) (fun g => confOk_no fun hc => g hc.2.2) (fun g => ?_)
  · simp only [l0_i_ConfOk, b0_i_ConfOk]
    refine Re.brd (fun _ => ?_) (fun h => absurd (by omega : (i : Int) < xs.length) h)
    refine Re.gdd (by omega) (Re.gdd (by omega) ?_)
    refine Re.b2 (P := fun v => v = inR (rd 0 xs i) 1 4) (Ev.re (Ev.of fun k => within_eq k _ _ _) rfl) fun v hv => ?_
    subst hv
    rw [inR_dec]
    refine Re.br (fun h1 => ?_) (fun h1 => ?_)
    · exact Re.ret (hf fun g => by simp [g.1] at h1).symm
    · have h1 : 1 ≤ rd 0 xs i ∧ rd 0 xs i ≤ 4 := by simpa using h1
      have e : w64 ((i : Int) + 1) = ((i + 1 : Nat) : Int) := idx_succ hi (by omega)
      rw [e]
      refine Re.brd (fun h2 => ?_) (fun h2 => ih ⟨h1, fun h => absurd (by omega) h2⟩)
      have e2 : w64 ((i : Int) - 1) = ((i - 1 : Nat) : Int) := idx_pred (by omega) (by omega)
      rw [e2]
      refine Re.gdd (by omega) (Re.gdd (by omega) ?_)
      simp only [Int.toNat_natCast]
      refine Re.brd (fun h3 => Re.ret (hf fun g => by have := g.2 (by omega); omega).symm) (fun h3 => ih ⟨h1, fun _ => by omega⟩)
  · simp only [l0_i_ConfOk, b0_i_ConfOk, Int.lt_irrefl, decide_false, br_false]
    refine Re.b2 (P := fun v => v = inR (xs.length : Int) 1 4) (Ev.re (Ev.of fun k => within_eq k _ _ _) rfl) fun v hv => ?_
    subst hv
    refine Re.ret ?_
    rw [inR_dec, Bool.eq_iff_iff, decide_eq_true_iff, confOk_iff]
    exact ⟨fun h => ⟨by omega, by omega, g⟩, fun h => ⟨by have := h.1; omega, by have := h.2.1; omega⟩⟩
/-- The bytes of a text. -/
def bytesL (a : ByteArray) : List Int := numsOf a
theorem bytesL_length (a : ByteArray) : (bytesL a).length = a.size := numsOf_length a
theorem bytesL_take {a : ByteArray} {i : Nat} (h : i < a.size) : (bytesL a).take (i + 1) = (bytesL a).take i ++ [w64 (bt a i)] := by
  have hb := bt_range a i
  have hl : i < (numsOf a).length := by rw [numsOf_length]; exact h
  rw [w64_eq (by omega) (by omega), bt_rd, rd_at hl]
  unfold bytesL
  rw [List.take_add_one, List.getElem?_eq_getElem hl]
  rfl
noncomputable def readConf (a : ByteArray) : List Int × Bool := bif confOk (bytesL a) then (bytesL a, true) else ([], false)
theorem i_ReadConf_ev (a : ByteArray) (ha : a.size ≤ 1048576) : Ev (fun k => i_ReadConf k a) (readConf a) := by
  refine Re.eq ?_
  refine Re.enter (f := fun k n => l0_i_ReadConf k n a 0 []) among_nat ?_
  have := Re.loop (ι := Nat) (l := fun k n (i : Nat) => l0_i_ReadConf k n a (i : Int) ((bytesL a).take i)) (I := fun i => i ≤ a.size) (fun i => a.size - i) (Q := fun _ v => v = readConf a) (fun i hi ih => by
    simp only [l0_i_ReadConf, b0_i_ReadConf]
    refine Re.brd (fun h => ?_) (fun h => ?_)
    · refine Re.gdd (by omega) (Re.gdd h (Re.gdd ?_ ?_))
      · have := bytesL_length a
        simp [maxRow]; omega
      · rw [idx_succ (show i < a.size by omega) (by omega), Int.toNat_natCast, ← bytesL_take (by omega)]
        exact ih (i + 1) (by omega) (by omega)
    · have e : (bytesL a).take i = bytesL a := List.take_of_length_le (by rw [bytesL_length]; omega)
      rw [e]
      refine Re.b2 (P := fun v => v = confOk (bytesL a)) (Ev.re (i_ConfOk_ev _ (by rw [bytesL_length]; exact ha)) rfl) fun v hv => ?_
      subst hv
      unfold readConf
      cases confOk (bytesL a) <;> exact Re.ret rfl) 0 (Nat.zero_le _)
  simpa using this
theorem s_ReadConf_ev (a : ByteArray) (ha : a.size ≤ 1048576) : Ev (fun k => s_ReadConf k a) (readConf a) := by
  refine Re.eq ?_
  refine Re.enter (f := fun k n => l0_s_ReadConf k n a 0 []) among_nat ?_
  have fin : ∀ i : Nat, i ≤ a.size → (i = a.size ∨ 5 ≤ i) → Re (fun x : Nat × Nat => br (((((bytesL a).take i).length : Nat) : Int) != (a.size : Int)) (some (([] : List Int), false)) (bd (s_ConfOk x.1 ((bytesL a).take i)) fun r1 => (br (!r1) (some ([], false)) (some (((bytesL a).take i), true))))) (fun v => v = readConf a) := by
    intro i hi h5
    have hl : ((bytesL a).take i).length = i := by rw [List.length_take, bytesL_length]; omega
    rw [hl]
    refine Re.brn (fun h => Re.ret ?_) (fun h => ?_)
    · unfold readConf
      rw [confOk_no (fun hc => by have := hc.2.1; rw [bytesL_length] at this; omega)]
      rfl
    · have e : (bytesL a).take i = bytesL a := List.take_of_length_le (by rw [bytesL_length]; omega)
      rw [e]
      refine Re.b2 (P := fun v => v = confOk (bytesL a)) (Ev.re (s_ConfOk_ev _ (by rw [bytesL_length]; exact ha)) rfl) fun v hv => ?_
      subst hv
      unfold readConf
      cases confOk (bytesL a) <;> exact Re.ret rfl
  have := Re.loop (ι := Nat) (l := fun k n (i : Nat) => l0_s_ReadConf k n a (i : Int) ((bytesL a).take i)) (I := fun i => i ≤ a.size) (fun i => a.size - i) (Q := fun _ v => v = readConf a) (fun i hi ih => by
    simp only [l0_s_ReadConf, b0_s_ReadConf]
    refine Re.brd (fun h => ?_) (fun h => fin i hi (.inl (by omega)))
    refine Re.brd (fun h4 => ?_) (fun h4 => fin i hi (.inr (by omega)))
    refine Re.gdd (by omega) (Re.gdd h (Re.gdd ?_ ?_))
    · have := bytesL_length a
      simp [maxRow]; omega
    · rw [idx_succ (show i < a.size by omega) (by omega), Int.toNat_natCast, ← bytesL_take (by omega)]
      exact ih (i + 1) (by omega) (by omega)) 0 (Nat.zero_le _)
  simpa using this
/-! ### Entries -/
noncomputable def entryOk (e : TSession) : Bool := inR e.1 0 100000 && (bif e.2.1 == 1 then decide (e.2.2.1 = ⟨#[]⟩) else bif e.2.1 == 2 then confOk (bytesL e.2.2.1) else bif e.2.1 == 3 then decide (e.2.2.1.size ≤ 120) else false)
theorem size_dec (a : ByteArray) : decide ((a.size : Int) ≤ 120) = decide (a.size ≤ 120) := by
  by_cases h : a.size ≤ 120
  · rw [decide_eq_true h, decide_eq_true (by omega)]
  · rw [decide_eq_false h, decide_eq_false (by omega)]
theorem s_EntryOk_ev (e : TSession) (h : e.2.2.1.size ≤ 1048576) : Ev (fun k => s_EntryOk k e) (entryOk e) := by
  refine Re.eq ?_
  refine Re.s1 (l01In_eq · _ _ _) ?_
  unfold entryOk
  refine Re.br (fun h1 => ?_) (fun h1 => ?_)
  · rw [show inR e.1 0 100000 = false by simpa using h1]; exact Re.ret rfl
  rw [show inR e.1 0 100000 = true by simpa using h1, Bool.true_and]
  refine Re.bre (fun h2 => ?_) (fun h2 => ?_)
  · rw [h2, str_beq]; exact Re.ret rfl
  rw [beq_ne0 h2]
  refine Re.bre (fun h3 => ?_) (fun h3 => ?_)
  · rw [h3]
    refine Re.c1 (s_ReadConf_ev _ h) ?_
    unfold readConf
    cases confOk (bytesL e.2.2.1) <;> exact Re.ret rfl
  rw [beq_ne0 h3]
  refine Re.bre (fun h4 => ?_) (fun h4 => ?_)
  · rw [h4, size_dec]; exact Re.ret rfl
  rw [beq_ne0 h4]; exact Re.ret rfl
theorem i_EntryOk_ev (e : TSession) (h : e.2.2.1.size ≤ 1048576) : Ev (fun k => i_EntryOk k e) (entryOk e) := by
  refine Re.eq ?_
  refine Re.s1 (within_eq · _ _ _) ?_
  unfold entryOk
  refine Re.br (fun h1 => ?_) (fun h1 => ?_)
  · rw [show inR e.1 0 100000 = false by simpa using h1]; exact Re.ret rfl
  rw [show inR e.1 0 100000 = true by simpa using h1, Bool.true_and]
  refine Re.bre (fun h2 => ?_) (fun h2 => ?_)
  · rw [h2, str_beq]; exact Re.ret rfl
  rw [beq_ne0 h2]
  refine Re.bre (fun h3 => ?_) (fun h3 => ?_)
  · rw [h3]
    refine Re.c1 (i_ReadConf_ev _ h) ?_
    unfold readConf
    cases confOk (bytesL e.2.2.1) <;> exact Re.ret rfl
  rw [beq_ne0 h3]
  refine Re.bre (fun h4 => ?_) (fun h4 => ?_)
  · rw [h4, size_dec]; exact Re.ret rfl
  rw [beq_ne0 h4]; exact Re.ret rfl
/-! ### Texts of confs -/
noncomputable def confText (xs : List Int) : ByteArray × Bool := bif confOk xs then (strOfNums xs, true) else (⟨#[]⟩, false)
theorem wrap_conf {xs : List Int} (h : ConfP xs) : ∀ i, i < xs.length → IntKind.wrap .u8 (rd 0 xs i) = rd 0 xs i := fun i hi => by
  have := (h.2.2 i hi).1
  exact u8_eq (by omega) (by omega)
theorem take_snoc {xs : List Int} {i : Nat} (h : i < xs.length) : xs.take (i + 1) = xs.take i ++ [rd 0 xs i] := by
  rw [List.take_add_one, List.getElem?_eq_getElem h, rd_at h]; rfl
theorem s_ConfText_ev (xs : List Int) (hx : xs.length ≤ 1048576) : Ev (fun k => s_ConfText k xs) (confText xs) := by
  refine Re.eq ?_
  refine Re.c1 (s_ConfOk_ev xs hx) ?_
  unfold confText
  refine Re.br (fun h => ?_) (fun h => ?_)
  · rw [show confOk xs = false by simpa using h]; exact Re.ret rfl
  have hc : confOk xs = true := by simpa using h
  have hp := confOk_iff.1 hc
  rw [hc]
  refine Re.enter (f := fun k n => l0_s_ConfText k n xs 0 []) among_nat ?_
  have := Re.loop (ι := Nat) (l := fun k n (i : Nat) => l0_s_ConfText k n xs (i : Int) (xs.take i)) (I := fun i => i ≤ xs.length) (fun i => xs.length - i) (Q := fun _ v => v = (strOfNums xs, true)) (fun i hi ih => by
    simp only [l0_s_ConfText, b0_s_ConfText]
    refine Re.brd (fun h => ?_) (fun h => Re.ret (by rw [List.take_of_length_le (by omega)]))
    refine Re.gdd (by omega) (Re.gdd h (Re.gdd (by simp [maxRow]; omega) ?_))
    rw [idx_succ (show i < xs.length by omega) (by omega), Int.toNat_natCast, wrap_conf hp i (by omega), ← take_snoc (by omega)]
    exact ih (i + 1) (by omega) (by omega)) 0 (Nat.zero_le _)
  simpa using this
theorem i_ConfText_ev (xs : List Int) (hx : xs.length ≤ 1048576) : Ev (fun k => i_ConfText k xs) (confText xs) := by
  refine Re.eq ?_
  refine Re.c1 (i_ConfOk_ev xs hx) ?_
  unfold confText
  refine Re.br (fun h => ?_) (fun h => ?_)
  · rw [show confOk xs = false by simpa using h]; exact Re.ret rfl
  have hc : confOk xs = true := by simpa using h
  have hp := confOk_iff.1 hc
  rw [hc]
  refine Re.enter (f := fun k n => l0_i_ConfText k n xs 0 []) among_nat ?_
  have := Re.loop (ι := Nat) (l := fun k n (i : Nat) => l0_i_ConfText k n xs (i : Int) (xs.take i)) (I := fun i => i ≤ xs.length) (fun i => xs.length - i) (Q := fun _ v => v = (strOfNums xs, true)) (fun i hi ih => by
    simp only [l0_i_ConfText, b0_i_ConfText]
    refine Re.brd (fun h => ?_) (fun h => Re.ret (by rw [List.take_of_length_le (by omega)]))
    refine Re.gdd (by omega) (Re.gdd h (Re.gdd (by simp [maxRow]; omega) ?_))
    rw [idx_succ (show i < xs.length by omega) (by omega), Int.toNat_natCast, wrap_conf hp i (by omega), ← take_snoc (by omega)]
    exact ih (i + 1) (by omega) (by omega)) 0 (Nat.zero_le _)
  simpa using this
theorem numsOf_bytes {xs : List Int} (h : ∀ x ∈ xs, 0 ≤ x ∧ x < 256) : numsOf (strOfNums xs) = xs := by
  unfold numsOf strOfNums
  simp only [List.map_map]
  induction xs with
  | nil => rfl
  | cons x xs ih =>
    have hx := h x (List.mem_cons_self ..)
    simp only [List.map_cons]
    rw [ih fun y hy => h y (List.mem_cons_of_mem _ hy)]
    congr 1
    show ((UInt8.ofNat x.toNat).toNat : Int) = x
    rw [UInt8.toNat_ofNat']
    omega
theorem conf_mem {xs : List Int} (h : ConfP xs) : ∀ x ∈ xs, 1 ≤ x ∧ x ≤ 4 := fun x hx => by
  obtain ⟨i, hi, rfl⟩ := List.getElem_of_mem hx
  have := (h.2.2 i hi).1
  rwa [rd_at hi] at this
theorem bytes_conf {xs : List Int} (h : ConfP xs) : bytesL (strOfNums xs) = xs := numsOf_bytes fun x hx => by have := conf_mem h x hx; omega
/-! ### Draws of entries -/
theorem conf_re (c : TL01Cur) (h : CurOk c) : Re (fun k => s_l05Conf k c) (fun r => ConfP r.1 ∧ CurOk r.2.1) := by
  refine Re.enter (f := fun k n => l0_s_l05Conf k n 1 c.1 c.2.1 c.2.2.1 []) among_nat ?_
  have := Re.loop (ι := Nat) (l := fun k n (s : Int × TL01Cur × List Int) => l0_s_l05Conf k n s.1 s.2.1.1 s.2.1.2.1 s.2.1.2.2.1 s.2.2)
    (I := fun s => (1 ≤ s.1 ∧ s.1 ≤ 5) ∧ CurOk s.2.1 ∧ (s.2.2.length : Int) < s.1 ∧ RiseP s.2.2 ∧ ∀ i, i < s.2.2.length → rd 0 s.2.2 i < s.1) (fun s => (5 - s.1).toNat) (Q := fun _ r => ConfP r.1 ∧ CurOk r.2.1) (fun s hi ih => by
    obtain ⟨v, c, xs⟩ := s
    obtain ⟨⟨h1, h2⟩, h3, h4, h5, h6⟩ := hi
    simp only at h1 h2 h3 h4 h5 h6 ih ⊢
    simp only [l0_s_l05Conf, b0_s_l05Conf]
    refine Re.brd (fun h7 => ?_) (fun h7 => ?_)
    · refine Re.b2 (once_re _ 2 h3.eta) fun r hr => ?_
      have e : w64 (v + 1) = v + 1 := w64_eq (by omega) (by omega)
      rw [e]
      have app : ∀ i, i < (xs ++ [v]).length → i < xs.length ∧ rd 0 (xs ++ [v]) i = rd 0 xs i ∨ i = xs.length ∧ rd 0 (xs ++ [v]) i = v := fun i hi => by
        by_cases q : i < xs.length
        · refine .inl ⟨q, ?_⟩
          simp [rd, List.getElem?_append_left q]
        · refine .inr ⟨by simp at hi; omega, ?_⟩
          have : i = xs.length := by simp at hi; omega
          subst this
          simp [rd]
      refine Re.brb (Re.gdd (by simp [maxRow]; omega) (ih (v + 1, r.2.1, xs ++ [v]) ⟨⟨by simp only; omega, by simp only; omega⟩, hr, by simp; omega, fun i hi => ?_, fun i hi => ?_⟩ (by simp only; omega))) (ih (v + 1, r.2.1, xs) ⟨⟨by simp only; omega, by simp only; omega⟩, hr, by simp only; omega, h5, fun i hi => by have := h6 i hi; simp only; omega⟩ (by simp only; omega))
      · simp only at hi ⊢
        rcases app i hi with ⟨q, e1⟩ | ⟨q, e1⟩
        · rw [e1]
          refine ⟨(h5 i q).1, fun h => ?_⟩
          have e2 : rd 0 (xs ++ [v]) (i - 1) = rd 0 xs (i - 1) := by
            rcases app (i - 1) (by simp; omega) with ⟨_, e2⟩ | ⟨q2, _⟩
            · exact e2
            · omega
          rw [e2]
          exact (h5 i q).2 h
        · rw [e1]
          refine ⟨⟨h1, h7⟩, fun h => ?_⟩
          have e2 : rd 0 (xs ++ [v]) (i - 1) = rd 0 xs (i - 1) := by
            rcases app (i - 1) (by simp; omega) with ⟨_, e2⟩ | ⟨q2, _⟩
            · exact e2
            · omega
          rw [e2]
          exact h6 (i - 1) (by omega)
      · simp only at hi ⊢
        rcases app i hi with ⟨q, e1⟩ | ⟨q, e1⟩
        · rw [e1]; have := h6 i q; omega
        · rw [e1]; omega
    · refine Re.bre (fun h8 => Re.gdd (by simp [maxRow]; omega) (Re.ret ?_)) (fun h8 => Re.ret ⟨⟨by simp only; omega, by simp only; omega, h5⟩, h3⟩)
      have : xs = [] := List.length_eq_zero_iff.1 (by omega)
      subst this
      refine ⟨⟨by simp, by simp, fun i hi => ?_⟩, h3⟩
      have : i = 0 := by simp at hi; omega
      subst this
      exact ⟨by simp [rd], fun h => absurd h (by omega)⟩) (1, c, []) ⟨⟨Int.le_refl 1, by simp only; omega⟩, h, by simp, fun i hi => absurd hi (by simp), fun i hi => absurd hi (by simp)⟩
  exact this
theorem anyConf_re (c : TL01Cur) (h : CurOk c) : Re (fun k => s_l05AnyConf k c) (fun r => r.1.length ≤ 5 ∧ CurOk r.2.1) := by
  refine Re.b1 (conf_re c h) fun r1 h1 => ?_
  have hl := h1.1.2.1
  refine Re.b1 (below_re _ 12 h1.2) fun r2 h2 => ?_
  refine Re.bre (fun _ => Re.b1 (pickInt_re _ _ h2.2 (List.cons_ne_nil _ _)) fun r3 h3 => Re.gdd (by simp [maxRow]; omega) (Re.ret ⟨by simp; omega, h3.2⟩)) (fun _ => ?_)
  exact Re.bre (fun _ => Re.ret ⟨by simp, h2.2⟩) (fun _ => Re.ret ⟨by simp only; omega, h2.2⟩)
theorem drawConf_re (a : List Int) (h : a.length ≤ 1048576) : Re (fun k => s_DrawConfText k a) (fun xs => xs.length ≤ 5) :=
  new_re (l := fun k n v i => l0_s_DrawConfText k n a v i) (C := fun k c => bd (s_l05AnyConf k (a, 0, c, ())) fun r1 => some r1.1) a h (fun k n v1 v2 => rfl) (fun c hc => Re.b1 (anyConf_re _ hc) fun r hr => Re.ret hr.1) _
theorem hallNew_re : Re (fun k => s_HallNew k) (fun h => ∃ outs, h = ([], ([], [], [], ()), outs, ())) := by
  refine Re.enter (f := fun k n => l0_s_HallNew k n 1 []) among_nat ?_
  have := Re.loop (ι := Nat) (l := fun k n (s : Int × List TOut) => l0_s_HallNew k n s.1 s.2) (I := fun s => 1 ≤ s.1 ∧ s.1 ≤ 3 ∧ (s.2.length : Int) < s.1) (fun s => (3 - s.1).toNat) (Q := fun _ h => ∃ outs, h = (([] : List TSession), (([] : List TEvent), ([] : List (List TItem)), ([] : List Bool), ()), outs, ())) (fun s hi ih => by
    obtain ⟨v, xs⟩ := s
    obtain ⟨h1, h2, h3⟩ := hi
    simp only at h1 h2 h3 ih ⊢
    simp only [l0_s_HallNew, b0_s_HallNew]
    refine Re.brd (fun h4 => Re.gdd (by simp [maxRow]; omega) ?_) (fun h4 => Re.ret ⟨_, rfl⟩)
    rw [w64_eq (by omega) (by omega)]
    exact ih (v + 1, _) ⟨by simp only; omega, by simp only; omega, by simp; omega⟩ (by simp only; omega)) (1, []) ⟨by decide, by decide, by simp⟩
  exact this
theorem next_empty (k : Nat) (c : TL01Cur) (id : Int) : s_l12Next k c (([] : List TEvent), ([] : List (List TItem)), ([] : List Bool), ()) id = some ((id, 1, 1, 0, 0, [], ByteArray.empty, [], 0, ()), c, ()) := by
  unfold s_l12Next g_s_l12Next
  rfl
/-- A drawn command holds next to nothing. -/
def Bare (x : TCommand) : Prop := eLevels x.2.2.2.1 = [] ∧ eText x.2.2.2.1 = ByteArray.empty ∧ ePrev x.2.2.2.1 = []
abbrev noRoom : TRoom := ([], [], [], ())
abbrev newE (id : Int) : TEvent := (id, 1, 1, 0, 0, [], ByteArray.empty, [], 0, ())
def CmdQ (r : TCommand × TL01Cur × Unit) : Prop := Bare r.1 ∧ CurOk r.2.1
theorem Re.s2 {α R : Type} {g : Nat → Option α} {F : Nat × Nat → α → Option R} {v : α} {Q : R → Prop} (h : ∀ k, g k = some v) (h2 : Re (fun x => F x v) Q) : Re (fun x : Nat × Nat => Vm.bd (g x.1) (F x)) Q := Re.b2 (P := fun a => a = v) (Ev.re (Ev.of h) rfl) fun a ha => by subst ha; exact h2
theorem Re.c2 {α R : Type} {g : Nat → Option α} {F : Nat × Nat → α → Option R} {v : α} {Q : R → Prop} (h : Ev g v) (h2 : Re (fun x => F x v) Q) : Re (fun x : Nat × Nat => Vm.bd (g x.1) (F x)) Q := Re.b2 (P := fun a => a = v) (Ev.re h rfl) fun a ha => by subst ha; exact h2
theorem cmd_switch (v4 t s : Int) (c : TL01Cur) (hc : CurOk c) : Re (fun x : Nat × Nat => (br (v4 == 2) (bd (s_l12Next x.1 c noRoom 2) fun r7 => (some ((v4, t, s, (0, r7.1.2.1, r7.1.2.2.1, r7.1.2.2.2.1, r7.1.2.2.2.2.1, r7.1.2.2.2.2.2.1, r7.1.2.2.2.2.2.2.1, ([] : List Int), 0, ()), 0, 0, ()), r7.2.1, ()))) (br (v4 == 3) (bd (s_l01Below x.1 c 40) fun r8 => (bd (s_l12Next x.1 r8.2.1 noRoom (w64 ((w64 (2 * r8.1)) + 1))) fun r9 => (bd (s_EventOk x.1 r9.1) fun r10 => (br (!r10) (bd (s_l01Below x.1 r9.2.1 40) fun r11 => (some ((v4, t, s, ((w64 (101 + (w64 (2 * r11.1)))), r9.1.2), 0, 0, ()), r11.2.1, ()))) (some ((v4, t, s, r9.1, 0, 0, ()), r9.2.1, ())))))) (br (v4 == 4) (bd (s_l01Below x.1 c 2) fun r12 => (bd (s_l01Below x.1 r12.2.1 6) fun r13 => (some ((v4, t, s, (0, 0, 0, 0, 0, [], ByteArray.empty, [], 0, ()), (w64 (1 + r12.1)), r13.1, ()), r13.2.1, ())))) (some ((v4, t, s, (0, 0, 0, 0, 0, [], ByteArray.empty, [], 0, ()), 0, 0, ()), c, ())))))) CmdQ := by
  refine Re.bre (fun _ => Re.s2 (next_empty · _ _) (Re.ret ⟨⟨rfl, rfl, rfl⟩, hc⟩)) (fun _ => ?_)
  refine Re.bre (fun _ => Re.b2 (below_re _ 40 hc) fun r8 h8 => Re.s2 (next_empty · _ _) (Re.c2 (s_EventOk_ev _ (by show 0 + (0 + (0 + 0)) ≤ 1048576; omega)) ?_)) (fun _ => ?_)
  · exact Re.brb (Re.b2 (below_re _ 40 h8.2) fun r11 h11 => Re.ret ⟨⟨rfl, rfl, rfl⟩, h11.2⟩) (Re.ret ⟨⟨rfl, rfl, rfl⟩, h8.2⟩)
  exact Re.bre (fun _ => Re.b2 (below_re _ 2 hc) fun r h => Re.b2 (below_re _ 6 h.2) fun r13 h13 => Re.ret ⟨⟨rfl, rfl, rfl⟩, h13.2⟩) (fun _ => Re.ret ⟨⟨rfl, rfl, rfl⟩, hc⟩)
theorem command_re (c : TL01Cur) (h : CurOk c) (x : TSession) (outs : List TOut) : Re (fun k => s_l13Command k c ([x], noRoom, outs, ())) CmdQ := by
  have go : ∀ (v4 : Int) (c : TL01Cur), CurOk c → Re (fun k => l0_s_l13Command k k c.1 c.2.1 c.2.2.1 ([x], noRoom, outs, ()) v4) CmdQ := by
    intro v4 c hc
    refine Re.enter (f := fun k n => l0_s_l13Command k n c.1 c.2.1 c.2.2.1 ([x], noRoom, outs, ()) v4) among_nat ?_
    have := Re.loop (ι := Nat) (l := fun k n (s : Unit) => l0_s_l13Command k n c.1 c.2.1 c.2.2.1 ([x], noRoom, outs, ()) v4) (I := fun _ => True) (fun _ => 0) (Q := fun _ => CmdQ) (fun s hi ih => by
      simp only [l0_s_l13Command, b0_s_l13Command]
      have hl : ((1 : Nat) : Int) = 1 := rfl
      refine Re.brn (fun _ => ?_) (fun _ => cmd_switch _ _ _ _ hc.eta)
      refine Re.brd (fun _ => ?_) (fun h => absurd (by simp) h)
      refine Re.b2 (below_re _ _ hc.eta) fun r4 h4 => ?_
      obtain ⟨⟨g1, g2⟩, g3⟩ := h4
      have g4 : r4.1 < (([x].length : Nat) : Int) := by simp only [List.length_singleton] at g2 ⊢; omega
      refine Re.gdd g1 (Re.gdd g4 ?_)
      refine Re.b2 (below_re _ 10 g3) fun r5 h5 => ?_
      refine Re.bre (fun _ => Re.b2 (below_re _ _ h5.2) fun r6 h6 => cmd_switch _ _ _ _ h6.2) (fun _ => ?_)
      exact Re.bre (fun _ => Re.b2 (below_re _ 12 h5.2) fun r6 h6 => cmd_switch _ _ _ _ h6.2) (fun _ => cmd_switch _ _ _ _ h5.2)) () trivial
    exact this
  refine Re.b1 (pickInt_re _ _ h (List.cons_ne_nil _ _)) fun r1 h1 => ?_
  refine Re.bre (fun h => absurd h (by simp)) (fun _ => ?_)
  refine Re.brb (Re.brb (Re.b1 (once_re _ 3 h1.2) fun r3 h3 => Re.brb (go _ _ h3) (go _ _ h3)) (go _ _ h1.2)) (go _ _ h1.2)
theorem right_re (c : TL01Cur) (h : CurOk c) : Re (fun k => s_l14Right k c) CmdQ := by
  refine Re.b1 hallNew_re fun r1 h1 => ?_
  obtain ⟨outs, rfl⟩ := h1
  refine Re.b1 (below_re _ 5 h) fun r2 h2 => Re.b1 (below_re _ 4 h2.2) fun r3 h3 => Re.b1 (command_re _ h3.2 _ _) fun r4 h4 => Re.ret h4
theorem varS_small {n : Int} (h : numOk n) : (varS n).size ≤ 5 := varS_size h.2
theorem bare_size {x : TCommand} (hb : Bare x) (h : commandOk x = true) : (cmdS x).size ≤ 100 := by
  obtain ⟨hc, _, g1, g2⟩ := cmd_cases h
  obtain ⟨b1, b2, b3⟩ := hb
  have n1 := varS_small g1
  have n2 := varS_small g2
  have hd : ∀ rest : ByteArray, (cmdB x rest).size ≤ 11 + rest.size := fun rest => by
    unfold cmdB
    have : (byteS x.1).size = 1 := strOfNums_size _
    simp only [ba_size]; omega
  have z0 : (varS 0).size ≤ 5 := varS_size (by omega)
  have hm : ∀ y1 y2 y3 y4 : Int, (mainB y1 y2 y3 y4 [] ByteArray.empty).size ≤ 30 := fun y1 y2 y3 y4 => by
    unfold mainB
    have e1 : ∀ y : Int, (byteS y).size = 1 := fun y => strOfNums_size _
    simp only [ba_size, e1, shortS_size, List.length_nil, catB]
    have : ByteArray.empty.size = 0 := rfl
    have e0 : (varS ((0 : Nat) : Int)).size ≤ 5 := z0
    have e4 : (varS (ByteArray.empty.size : Int)).size ≤ 5 := z0
    have e3 : (⟨#[]⟩ : ByteArray).size = 0 := rfl
    omega
  cases hc with
  | sent _ _ _ h4 =>
    rw [h4, b1, b2]
    have := hd (mainB (eKind x.2.2.2.1) (eSender x.2.2.2.1) (eUser x.2.2.2.1) (eMember x.2.2.2.1) [] ByteArray.empty)
    have := hm (eKind x.2.2.2.1) (eSender x.2.2.2.1) (eUser x.2.2.2.1) (eMember x.2.2.2.1)
    omega
  | come _ _ he h4 =>
    rw [h4]
    obtain ⟨k1, k2, k3, k4, k5, k6, k7, k8, k9, k10, k11⟩ := event_bytes he
    have e := textS_eq x.2.2.2.1.1 (eKind x.2.2.2.1) (eSender x.2.2.2.1) (eUser x.2.2.2.1) (eMember x.2.2.2.1) (eLevels x.2.2.2.1) (eText x.2.2.2.1) (ePrev x.2.2.2.1) (eDepth x.2.2.2.1) k1 k2 k3 k4 k5
    have e2 : textS x.2.2.2.1 = evB x.2.2.2.1.1 (eKind x.2.2.2.1) (eSender x.2.2.2.1) (eUser x.2.2.2.1) (eMember x.2.2.2.1) (eLevels x.2.2.2.1) (eText x.2.2.2.1) (ePrev x.2.2.2.1) (eDepth x.2.2.2.1) := e
    have hs : (textS x.2.2.2.1).size ≤ 50 := by
      rw [e2, b1, b2, b3]
      unfold evB
      have := hm (eKind x.2.2.2.1) (eSender x.2.2.2.1) (eUser x.2.2.2.1) (eMember x.2.2.2.1)
      have m1 := varS_small k8
      have m2 := varS_small k9
      have e0 : (varS ((0 : Nat) : Int)).size ≤ 5 := z0
      have e3 : (⟨#[]⟩ : ByteArray).size = 0 := rfl
      simp only [ba_size, List.length_nil, catB]
      omega
    have := hd (shortS (textS x.2.2.2.1))
    have hv : (varS ((textS x.2.2.2.1).size : Int)).size ≤ 5 := varS_size (by omega)
    rw [shortS_size] at this
    omega
  | ack _ _ h2 h3 h4 =>
    rw [h4]
    have := hd (varS x.2.2.2.2.1 ++ varS x.2.2.2.2.2.1)
    have := varS_small h2
    have := varS_small h3
    simp only [ba_size] at *
    omega
  | bare _ _ _ _ h4 =>
    rw [h4]
    have := hd ⟨#[]⟩
    have e3 : (⟨#[]⟩ : ByteArray).size = 0 := rfl
    omega
/-- What is drawn of a right entry. -/
def EntR (t : Int) (e : TSession) : Prop := e.1 = t ∧ e.2.2.1.size ≤ 120 ∧ (0 ≤ t → t ≤ 100000 → entryOk e = true)
theorem inR_yes {a b c : Int} (h : b ≤ a) (h2 : a ≤ c) : inR a b c = true := inR_iff.2 ⟨h, h2⟩
theorem entR_one (t : Int) : EntR t (t, 1, ByteArray.empty, ()) := ⟨rfl, by show (0 : Nat) ≤ 120; omega, fun h1 h2 => by
  unfold entryOk
  rw [inR_yes h1 h2]
  rfl⟩
theorem l05Right_re (c : TL01Cur) (h : CurOk c) (t : Int) : Re (fun k => s_l05Right k c t) (fun r => EntR t r.1 ∧ CurOk r.2.1) := by
  refine Re.b1 (pickInt_re _ _ h (List.cons_ne_nil _ _)) fun r1 h1 => ?_
  obtain ⟨g1, c1⟩ := h1
  simp only [List.mem_cons, List.not_mem_nil, or_false] at g1
  refine Re.bre (fun o2 => ?_) (fun o2 => ?_)
  · refine Re.b1 (conf_re _ c1) fun r2 h2 => ?_
    obtain ⟨hc, c2⟩ := h2
    refine Re.c1 (s_ConfText_ev _ (by have := hc.2.1; omega)) (Re.ret ⟨?_, c2⟩)
    unfold confText
    rw [confOk_iff.2 hc]
    refine ⟨rfl, ?_, fun h1 h2 => ?_⟩
    · simp only [cond_true, strOfNums_size]; have := hc.2.1; omega
    · unfold entryOk
      simp only [cond_true, inR_yes h1 h2, o2]
      rw [bytes_conf hc, confOk_iff.2 hc]
      rfl
  refine Re.bre (fun o3 => ?_) (fun o3 => Re.ret ⟨?_, c1⟩)
  · refine Re.b1 (right_re _ c1) fun r4 h4 => ?_
    obtain ⟨hb, c4⟩ := h4
    have hm : m_Command r4.1 ≤ 1048576 := by
      obtain ⟨b1, b2, b3⟩ := hb
      show (eLevels r4.1.2.2.2.1).length + ((eText r4.1.2.2.2.1).size + ((ePrev r4.1.2.2.2.1).length + 0)) + 0 ≤ 1048576
      rw [b1, b2, b3]
      show 0 + (0 + (0 + 0)) + 0 ≤ 1048576; omega
    refine Re.c1 (s_CommandText_ev _ hm) (Re.ret ⟨?_, c4⟩)
    have hs : (bif commandOk r4.1 then (cmdS r4.1, true) else ((⟨#[]⟩ : ByteArray), false)).1.size ≤ 100 := by
      cases ho : commandOk r4.1 with
      | false => show 0 ≤ 100; omega
      | true => exact bare_size hb ho
    refine ⟨rfl, by simp only; omega, fun h1 h2 => ?_⟩
    unfold entryOk
    simp only [inR_yes h1 h2, o3]
    exact decide_eq_true (by omega)
  · have o1 : r1.1 = 1 := by omega
    rw [o1]; exact entR_one t
theorem l05Any_re (c : TL01Cur) (h : CurOk c) : Re (fun k => s_l05Any k c) (fun r => r.1.2.2.1.size ≤ 121 ∧ CurOk r.2.1) := by
  refine Re.b1 (below_re _ 9 h) fun r1 h1 => ?_
  refine Re.b1 (l05Right_re _ h1.2 _) fun r2 h2 => ?_
  obtain ⟨⟨_, hs, _⟩, c2⟩ := h2
  refine Re.b1 (below_re _ 30 c2) fun r3 h3 => ?_
  refine Re.bre (fun _ => Re.b1 (pickInt_re _ _ h3.2 (List.cons_ne_nil _ _)) fun r h => Re.ret ⟨by simp only; omega, h.2⟩) (fun _ => ?_)
  refine Re.bre (fun _ => Re.b1 (pickInt_re _ _ h3.2 (List.cons_ne_nil _ _)) fun r h => Re.ret ⟨by simp only; omega, h.2⟩) (fun _ => ?_)
  refine Re.bre (fun _ => Re.b1 (below_re _ 2 h3.2) fun r h => ?_) (fun _ => Re.ret ⟨by simp only; omega, h3.2⟩)
  obtain ⟨⟨g1, g2⟩, g3⟩ := h
  have e : w64 (120 + r.1) = 120 + r.1 := w64_eq (by omega) (by omega)
  rw [e]
  exact Re.b1 (long_re _ 65 (by omega) (by omega)) fun q hq => Re.ret ⟨by simp only; omega, g3⟩
theorem l05Index_re (c : TL01Cur) (h : CurOk c) : Re (fun k => s_l05Index k c) (fun r => CurOk r.2.1) := by
  refine Re.b1 (once_re _ 12 h) fun r1 h1 => ?_
  exact Re.brb (Re.b1 (pickInt_re _ _ h1 (List.cons_ne_nil _ _)) fun r h => Re.ret h.2) (Re.b1 (below_re _ 200 h1) fun r h => Re.ret h.2)
theorem drawEntryText_re (a : List Int) (h : a.length ≤ 1048576) : Re (fun k => s_DrawEntryText k a) (fun r => r.2.2.2.1.size ≤ 121) :=
  new_re (l := fun k n v i => l0_s_DrawEntryText k n a v i) (C := fun k c => bd (s_l05Index k (a, 0, c, ())) fun r1 => (bd (s_l05Any k r1.2.1) fun r2 => (some (r1.1, r2.1)))) a h (fun k n v1 v2 => rfl) (fun c hc => Re.b1 (l05Index_re _ hc) fun r hr => Re.b1 (l05Any_re _ hr) fun r2 hr2 => Re.ret hr2.1) _
/-! ### The entry's text, and back -/
def entB (i t k : Int) (d : ByteArray) : ByteArray := byteS 69 ++ (varS i ++ (varS t ++ (byteS k ++ d)))
noncomputable def entText (i : Int) (e : TSession) : ByteArray × Bool := bif entryOk e && inR i 1 1000000 then (entB i e.1 e.2.1 e.2.2.1, true) else (⟨#[]⟩, false)
theorem entry_kind {e : TSession} (h : entryOk e = true) : (0 ≤ e.1 ∧ e.1 ≤ 100000) ∧ (e.2.1 = 1 ∨ e.2.1 = 2 ∨ e.2.1 = 3) ∧ e.2.2.1.size ≤ 120 := by
  unfold entryOk at h
  simp only [Bool.and_eq_true] at h
  obtain ⟨h1, h2⟩ := h
  refine ⟨inR_iff.1 h1, ?_⟩
  by_cases o1 : e.2.1 = 1
  · rw [o1] at h2
    have := of_decide_eq_true h2
    exact ⟨.inl o1, by rw [this]; decide⟩
  rw [beq_ne0 o1] at h2
  by_cases o2 : e.2.1 = 2
  · rw [o2] at h2
    have := (confOk_iff.1 h2).2.1
    rw [bytesL_length] at this
    exact ⟨.inr (.inl o2), by omega⟩
  rw [beq_ne0 o2] at h2
  by_cases o3 : e.2.1 = 3
  · rw [o3] at h2
    exact ⟨.inr (.inr o3), of_decide_eq_true h2⟩
  rw [beq_ne0 o3] at h2
  cases h2
theorem byteE : (⟨#[69]⟩ : ByteArray) = byteS 69 := by apply ba_ext; simp [byteS, strOfNums]
theorem i_EntryText_ev (i : Int) (e : TSession) (hs : e.2.2.1.size ≤ 1048576) : Ev (fun k => i_EntryText k i e) (entText i e) := by
  refine Re.eq ?_
  refine Re.c1 (i_EntryOk_ev e hs) ?_
  unfold entText
  cases ho : entryOk e with
  | false => exact Re.ret rfl
  | true =>
    refine Re.s1 (within_eq · _ _ _) ?_
    cases hi : inR i 1 1000000 with
    | false => exact Re.ret rfl
    | true =>
      obtain ⟨k1, k2, k3⟩ := entry_kind ho
      have i1 := inR_iff.1 hi
      refine Re.c1 (i_vars_ev [i, e.1] (by simp) (fun n hn => by simp at hn; rcases hn with rfl | rfl <;> omega)) ?_
      have e1 : catV [i, e.1] = varS i ++ varS e.1 := by
        rw [catB_varS]
        show varS i ++ (varS e.1 ++ (⟨#[]⟩ : ByteArray)) = _
        rw [show varS e.1 ++ (⟨#[]⟩ : ByteArray) = varS e.1 from ByteArray.append_empty]
      have n1 : (varS i).size ≤ 5 := varS_size (by omega)
      have n2 : (varS e.1).size ≤ 5 := varS_size (by omega)
      have hk : IntKind.wrap .u8 e.2.1 = e.2.1 := u8_eq (by omega) (by omega)
      have n0 : (⟨#[69]⟩ : ByteArray).size = 1 := rfl
      rw [e1, hk]
      refine Re.gdd (by simp only [ba_size]; unfold maxRow; omega) (Re.gdd (by simp only [ba_size, strOfNums_size, List.length_singleton]; unfold maxRow; omega) (Re.gdd (by simp only [ba_size, strOfNums_size, List.length_singleton]; unfold maxRow; omega) (Re.ret ?_)))
      unfold entB
      rw [byteE]
      simp only [ba_assoc]
      rfl
theorem s_EntryText_ok (i : Int) (e : TSession) (hs : e.2.2.1.size ≤ 1048576) : Re (fun k => s_EntryText k i e) (fun r => r.2 = (entText i e).2) := by
  refine Re.c1 (s_EntryOk_ev e hs) ?_
  unfold entText
  cases ho : entryOk e with
  | false => exact Re.ret rfl
  | true =>
    refine Re.s1 (l01In_eq · _ _ _) ?_
    cases hi : inR i 1 1000000 with
    | false => exact Re.ret rfl
    | true =>
      obtain ⟨k1, k2, k3⟩ := entry_kind ho
      have i1 := inR_iff.1 hi
      have n1 : (varS i).size ≤ 5 := varS_size (by omega)
      have n2 : (varS e.1).size ≤ 5 := varS_size (by omega)
      have n0 : (⟨#[69]⟩ : ByteArray).size = 1 := rfl
      refine Re.c1 (s_l01Var_ev i (by omega) (by omega)) ?_
      refine Re.gdd (by unfold maxRow; omega) (Re.c1 (s_l01Var_ev e.1 (by omega) (by omega)) ?_)
      exact Re.gdd (by simp only [ba_size]; unfold maxRow; omega) (Re.gdd (by simp only [ba_size, strOfNums_size, List.length_singleton]; unfold maxRow; omega) (Re.gdd (by simp only [ba_size, strOfNums_size, List.length_singleton]; unfold maxRow; omega) (Re.ret rfl)))
theorem i_ReadEntry_ev (i : Int) (e : TSession) (ho : entryOk e = true) (hi : inR i 1 1000000 = true) : Ev (fun k => i_ReadEntry k (entB i e.1 e.2.1 e.2.2.1)) (i, e, true) := by
  obtain ⟨k1, k2, k3⟩ := entry_kind ho
  have i1 := inR_iff.1 hi
  have n1 : (varS i).size ≤ 5 := varS_size (by omega)
  have n2 : (varS e.1).size ≤ 5 := varS_size (by omega)
  have hb : ∀ y : Int, (byteS y).size = 1 := fun y => strOfNums_size _
  have hs : Sits (entB i e.1 e.2.1 e.2.2.1) 0 (entB i e.1 e.2.1 e.2.2.1) := sits_self _
  have hsz : (entB i e.1 e.2.1 e.2.2.1).size = 1 + ((varS i).size + ((varS e.1).size + (1 + e.2.2.1.size))) := by unfold entB; simp only [ba_size, hb]
  generalize ha : entB i e.1 e.2.1 e.2.2.1 = a at hs hsz
  rw [← ha] at hs
  rw [ha] at hs
  have hs2 : Sits a 0 (byteS 69 ++ (varS i ++ (varS e.1 ++ (byteS e.2.1 ++ e.2.2.1)))) := by rw [← ha] at hs ⊢; exact hs
  obtain ⟨x0, q0, b0, R0, _, E0⟩ := byte_ev a 0 false (by omega) (by omega)
  obtain ⟨x1, q1, b1, R1, _, E1⟩ := num_ev a q0 b0 (by omega) R0.hi
  obtain ⟨x2, q2, b2, R2, _, E2⟩ := num_ev a q1 b1 (by omega) R1.hi
  obtain ⟨x3, q3, b3, R3, _, E3⟩ := byte_ev a q2 b2 (by omega) R2.hi
  obtain ⟨c, hs2⟩ := sits_append.1 hs2
  obtain ⟨rfl, z0, hb0⟩ := R0.full rfl 69 (by unfold bytOk; omega) c; rw [← z0] at hs2
  obtain ⟨c, hs2⟩ := sits_append.1 hs2
  obtain ⟨rfl, z1, hb1⟩ := R1.full hb0 i (by unfold numOk; omega) c; rw [← z1] at hs2
  obtain ⟨c, hs2⟩ := sits_append.1 hs2
  obtain ⟨rfl, z2, hb2⟩ := R2.full hb1 e.1 (by unfold numOk; omega) c; rw [← z2] at hs2
  obtain ⟨c, hs2⟩ := sits_append.1 hs2
  obtain ⟨rfl, z3, hb3⟩ := R3.full hb2 e.2.1 (by unfold bytOk; omega) c; rw [← z3] at hs2
  rw [hb] at z0 z3
  have he : a.extract q3 a.size = e.2.2.1 := by
    have := extract_sits hs2
    rwa [show q3 + e.2.2.1.size = a.size by omega] at this
  refine Re.eq ?_
  refine Re.c1 E0 (Re.c1 E1 (Re.c1 E2 (Re.c1 E3 ?_)))
  subst hb3
  refine Re.br (b := false) (fun h => by cases h) (fun _ => ?_)
  refine Re.brn (fun h => absurd rfl h) (fun _ => ?_)
  refine Re.gdd (by show (0 : Int) ≤ (q3 : Int); omega) (Re.gdd (by show (q3 : Int) ≤ (a.size : Int); omega) ?_)
  have e4 : ((e.1, e.2.1, a.extract ((cur a q3 false).2.1).toNat a.size, ()) : TSession) = e := by
    show ((e.1, e.2.1, a.extract ((q3 : Int)).toNat a.size, ()) : TSession) = e
    rw [Int.toNat_natCast, he]
  refine Re.c1 (v := entryOk e) (Ev.congr (i_EntryOk_ev e (by omega)) fun k => congrArg (i_EntryOk k) e4) ?_
  rw [ho]
  refine Re.s1 (within_eq · _ _ _) ?_
  rw [hi]
  exact Re.ret (Prod.ext rfl (Prod.ext e4 rfl))
/-! ### Most of a conf -/
theorem index_re (xs : List Int) (hx : xs.length ≤ 1048576) (y : Int) : Re (fun k => slices_Index_int_int k xs y) (fun r => (0 ≤ r ↔ y ∈ xs)) := by
  refine Re.enter (f := fun k n => l0_slices_Index_int_int k n xs y 0) among_nat ?_
  have := Re.loop (ι := Nat) (l := fun k n (i : Nat) => l0_slices_Index_int_int k n xs y (i : Int)) (I := fun i => i ≤ xs.length ∧ ∀ j, j < i → rd 0 xs j ≠ y) (fun i => xs.length - i) (Q := fun _ r => (0 ≤ r ↔ y ∈ xs)) (fun i hi ih => by
    simp only [l0_slices_Index_int_int, b0_slices_Index_int_int]
    refine Re.brd (fun h => ?_) (fun h => ?_)
    · have hl : i < xs.length := by omega
      refine Re.gdd (by omega) (Re.gdd h ?_)
      rw [Int.toNat_natCast]
      refine Re.bre (fun e => Re.ret ⟨fun _ => ?_, fun _ => by omega⟩) (fun e => ?_)
      · rw [e, rd_at hl]; exact List.getElem_mem _
      · rw [idx_succ hl (by omega)]
        refine ih (i + 1) ⟨by omega, fun j hj => ?_⟩ (by omega)
        by_cases q : j < i
        · exact hi.2 j q
        · have : j = i := by omega
          subst this; exact fun h => e h.symm
    · refine Re.ret ⟨fun h => by omega, fun hm => ?_⟩
      obtain ⟨j, hj, e⟩ := List.getElem_of_mem hm
      exact absurd (by rw [rd_at hj]; exact e) (hi.2 j (by omega))) 0 ⟨Nat.zero_le _, fun j hj => by omega⟩
  exact this
theorem contains_ev (xs : List Int) (hx : xs.length ≤ 1048576) (y : Int) : Ev (fun k => slices_Contains_int_int k xs y) (decide (y ∈ xs)) := by
  refine Re.eq (Re.b1 (index_re xs hx y) fun r hr => Re.ret ?_)
  by_cases h : y ∈ xs
  · rw [decide_eq_true h]; exact decide_eq_true (hr.2 h)
  · rw [decide_eq_false h]; exact decide_eq_false fun g => h (hr.1 g)
/-- How many of a row are in another one. -/
def cntIn (xs ys : List Int) (i : Nat) : Nat := ((xs.take i).filter (fun x => decide (x ∈ ys))).length
theorem cntIn_succ {xs ys : List Int} {i : Nat} (h : i < xs.length) : cntIn xs ys (i + 1) = cntIn xs ys i + (if rd 0 xs i ∈ ys then 1 else 0) := by
  unfold cntIn
  rw [take_snoc h, List.filter_append, List.length_append]
  congr 1
  by_cases g : rd 0 xs i ∈ ys <;> simp [g]
theorem cntIn_le (xs ys : List Int) (i : Nat) : cntIn xs ys i ≤ i := by
  unfold cntIn
  exact Nat.le_trans (List.length_filter_le _ _) (List.length_take_le _ _)
theorem most_ev (xs ys : List Int) (hc : ConfP xs) (hy : ys.length ≤ 1048576) : Ev (fun k => i_Most k xs ys) (decide (xs.length < 2 * cntIn xs ys xs.length)) := by
  have h4 := hc.2.1
  refine Re.eq ?_
  refine Re.enter (f := fun k n => l0_i_Most k n xs ys 0 0) among_nat ?_
  have := Re.loop (ι := Nat) (l := fun k n (i : Nat) => l0_i_Most k n xs ys ((cntIn xs ys i : Nat) : Int) (i : Int)) (I := fun i => i ≤ xs.length) (fun i => xs.length - i) (Q := fun _ r => r = decide (xs.length < 2 * cntIn xs ys xs.length)) (fun i hi ih => by
    have hle := cntIn_le xs ys i
    simp only [l0_i_Most, b0_i_Most]
    refine Re.brd (fun h => ?_) (fun h => ?_)
    · have hl : i < xs.length := by omega
      refine Re.gdd (by omega) (Re.gdd h ?_)
      rw [Int.toNat_natCast]
      refine Re.c2 (contains_ev ys hy _) ?_
      have hs := cntIn_succ (ys := ys) hl
      rw [idx_succ hl (by omega)]
      have := ih (i + 1) (by omega) (by omega)
      refine Re.brd (fun g => ?_) (fun g => ?_)
      · rw [if_pos g] at hs
        rw [w64_eq (by omega) (by omega), show ((cntIn xs ys i : Nat) : Int) + 1 = ((cntIn xs ys (i + 1) : Nat) : Int) by omega]
        exact this
      · rw [if_neg g] at hs
        rw [show cntIn xs ys i = cntIn xs ys (i + 1) by omega]
        exact this
    · have hl : i = xs.length := by omega
      subst hl
      refine Re.c2 (i_ConfOk_ev xs (by omega)) ?_
      rw [confOk_iff.2 hc]
      refine Re.ret ?_
      rw [w64_eq (by omega) (by omega)]
      by_cases q : xs.length < 2 * cntIn xs ys xs.length
      · rw [decide_eq_true q]; exact decide_eq_true (by omega)
      · rw [decide_eq_false q]; exact decide_eq_false (by omega)) 0 (Nat.zero_le _)
  exact this
theorem cntIn_self (xs : List Int) : cntIn xs xs xs.length = xs.length := by
  unfold cntIn
  rw [List.take_length, List.filter_eq_self.2 (fun x hx => decide_eq_true hx)]
theorem cntIn_none (xs : List Int) (i : Nat) : cntIn xs [] i = 0 := by
  unfold cntIn
  simp
theorem cntIn_one {xs : List Int} (hc : ConfP xs) : ∀ i, 1 ≤ i → i ≤ xs.length → cntIn xs (xs.take 1) i = 1 ∧ rd 0 xs 0 ≤ rd 0 xs (i - 1) ∧ (1 < i → rd 0 xs 0 < rd 0 xs (i - 1)) := by
  have h1 := hc.1
  have e1 : xs.take 1 = [rd 0 xs 0] := by rw [take_snoc (show 0 < xs.length by omega)]; rfl
  intro i
  induction i with
  | zero => intro h; omega
  | succ i ih =>
    intro _ hi
    by_cases h0 : i = 0
    · subst h0
      refine ⟨?_, Int.le_refl _, fun h => absurd h (by omega)⟩
      rw [cntIn_succ (by omega), e1]
      simp [cntIn]
    · obtain ⟨a1, a2, a3⟩ := ih (by omega) (by omega)
      have hr := (hc.2.2 i (by omega)).2 (by omega)
      have : rd 0 xs 0 < rd 0 xs i := by omega
      refine ⟨?_, by simp only [Nat.add_sub_cancel]; omega, fun _ => by simp only [Nat.add_sub_cancel]; exact this⟩
      rw [cntIn_succ (by omega), a1, e1, if_neg]
      simp; omega
theorem i_ReadEntry_tot (a : ByteArray) (ha : a.size ≤ 1048576) : Re (fun k => i_ReadEntry k a) (fun _ => True) := by
  obtain ⟨x0, q0, b0, R0, _, E0⟩ := byte_ev a 0 false (by omega) (by omega)
  obtain ⟨x1, q1, b1, R1, _, E1⟩ := num_ev a q0 b0 (by omega) R0.hi
  obtain ⟨x2, q2, b2, R2, _, E2⟩ := num_ev a q1 b1 (by omega) R1.hi
  obtain ⟨x3, q3, b3, R3, _, E3⟩ := byte_ev a q2 b2 (by omega) R2.hi
  have h3 := R3.hi
  refine Re.c1 E0 (Re.c1 E1 (Re.c1 E2 (Re.c1 E3 ?_)))
  refine Re.brb (Re.ret trivial) (Re.brb (Re.ret trivial) ?_)
  refine Re.gdd (by show (0 : Int) ≤ (q3 : Int); omega) (Re.gdd (by show (q3 : Int) ≤ (a.size : Int); omega) ?_)
  refine Re.c1 (i_EntryOk_ev _ (Nat.le_trans (extract_le a _ _) ha)) ?_
  refine Re.brb (Re.ret trivial) (Re.s1 (within_eq · _ _ _) (Re.brb (Re.ret trivial) (Re.ret trivial)))
theorem FnEntries_ev (a : List Int) : Ev (fun k => l_FnEntries k a) true := by
  refine Re.eq ?_
  refine Re.s1 (v := decide ((a.length : Int) > 1048576)) (fun k => rfl) ?_
  refine Re.brd (fun _ => Re.ret rfl) (fun hl => ?_)
  have ha : a.length ≤ 1048576 := by omega
  refine Re.b1 (drawEntryText_re a ha) fun r2 h2 => ?_
  obtain ⟨i, e⟩ := r2
  refine Re.c1 (i_EntryText_ev i e (by simp only at h2; omega)) ?_
  refine Re.b1 (s_EntryText_ok i e (by simp only at h2; omega)) fun r4 h4 => ?_
  have tail : Re (fun k => (bd (s_DrawConfText k a) fun r6 => (bd (i_ConfText k r6) fun r7 => (bd (i_ReadConf k r7.1) fun r8 => (bd (s_ConfOk k r6) fun r9 => (br (!(r7.2 == r9)) (some false) (br r7.2 (br (!r8.2) (some false) (bd (l_sameInts k r8.1 r6) fun r10 => (br (!r10) (some false) (bd (i_ConfOk k r6) fun r11 => (br (!(r11 == r7.2)) (some false) (br (!r7.2) (some true) (bd (i_Most k r6 r6) fun r12 => (br r12 (bd (i_Most k r6 []) fun r13 => (br (!r13) (gd (decide (1 ≤ (r6.length : Int))) (bd (i_Most k r6 (r6.take 1)) fun r14 => (some (r14 == ((r6.length : Int) == 1))))) (some false))) (some false))))))))) (bd (i_ConfOk k r6) fun r15 => (br (!(r15 == r7.2)) (some false) (br (!r7.2) (some true) (bd (i_Most k r6 r6) fun r16 => (br r16 (bd (i_Most k r6 []) fun r17 => (br (!r17) (gd (decide (1 ≤ (r6.length : Int))) (bd (i_Most k r6 (r6.take 1)) fun r18 => (some (r18 == ((r6.length : Int) == 1))))) (some false))) (some false))))))))))))) (fun v => v = true) := by
    refine Re.b1 (drawConf_re a ha) fun xs hx => ?_
    refine Re.c1 (i_ConfText_ev xs (by omega)) ?_
    cases hc : confOk xs with
    | false =>
      have e1 : confText xs = ((⟨#[]⟩ : ByteArray), false) := by unfold confText; rw [hc]; rfl
      rw [e1]
      refine Re.c1 (i_ReadConf_ev _ (by decide)) (Re.c1 (s_ConfOk_ev xs (by omega)) ?_)
      rw [hc]
      refine Re.c1 (i_ConfOk_ev xs (by omega)) ?_
      rw [hc]
      exact Re.ret rfl
    | true =>
      have hp := confOk_iff.1 hc
      have e1 : confText xs = (strOfNums xs, true) := by unfold confText; rw [hc]; rfl
      rw [e1]
      refine Re.c1 (i_ReadConf_ev (strOfNums xs) (by rw [strOfNums_size]; omega)) (Re.c1 (s_ConfOk_ev xs (by omega)) ?_)
      have e2 : readConf (strOfNums xs) = (xs, true) := by unfold readConf; rw [bytes_conf hp, hc]; rfl
      rw [e2, hc]
      refine Re.c1 (lsameInts_ev xs (by omega)) ?_
      refine Re.c1 (i_ConfOk_ev xs (by omega)) ?_
      rw [hc]
      have m1 := most_ev xs xs hp (by omega)
      have m2 := most_ev xs [] hp (by simp)
      have m3 := most_ev xs (xs.take 1) hp (by simp; omega)
      rw [cntIn_self, decide_eq_true (show xs.length < 2 * xs.length by have := hp.1; omega)] at m1
      rw [cntIn_none, decide_eq_false (show ¬ xs.length < 2 * 0 by omega)] at m2
      rw [(cntIn_one hp xs.length hp.1 (Nat.le_refl _)).1] at m3
      refine Re.c1 m1 (Re.c1 m2 (Re.gdd (by have := hp.1; omega) (Re.c1 m3 (Re.ret ?_))))
      by_cases q : xs.length = 1
      · rw [q]; rfl
      · rw [decide_eq_false (show ¬ xs.length < 2 * 1 by have := hp.1; omega), beq_ne0 (show (xs.length : Int) ≠ 1 by omega)]; rfl
  cases hq : entryOk e && inR i 1 1000000 with
  | false =>
    have e1 : entText i e = ((⟨#[]⟩ : ByteArray), false) := by unfold entText; rw [hq]; rfl
    rw [e1] at h4 ⊢
    obtain ⟨r4a, r4b⟩ := r4
    simp only at h4
    subst h4
    exact Re.b1 (i_ReadEntry_tot _ (by decide)) fun r5 _ => tail
  | true =>
    have e1 : entText i e = (entB i e.1 e.2.1 e.2.2.1, true) := by unfold entText; rw [hq]; rfl
    rw [e1] at h4 ⊢
    obtain ⟨r4a, r4b⟩ := r4
    simp only at h4
    subst h4
    simp only [Bool.and_eq_true] at hq
    refine Re.c1 (i_ReadEntry_ev i e hq.1 hq.2) ?_
    refine Re.brn (fun h => absurd rfl h) (fun _ => ?_)
    refine Re.br (fun h => by simp at h) (fun _ => tail)
end Go.Vm
