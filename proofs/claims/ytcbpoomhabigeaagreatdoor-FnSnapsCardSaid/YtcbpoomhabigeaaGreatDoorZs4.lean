/- Plain laws. -/
import Derived.Test.YtcbpoomhabigeaaGreatDoorZs3
import Derived.KernelRfl
set_option linter.all false
section
namespace Go.Vm
open Go
def Bb1 (r : A6) (p : Int) : Bool := decide (0 ≤ Be6 r.1 p ∧ Be6 r.1 p < r.2.1.length)
noncomputable def M3 (r : A6) (prev : List Int) : List A1 × Bool := bif prev.all (Bb1 r) then (B65 r.1 (prev.map fun p => rd [] r.2.1 (Be6 r.1 p).toNat), true) else ([], false)
noncomputable def b9 (r : A6) (e : A0) : A6 × Bool :=
 bif (M3 r e.2.2.2.2.2.2.2.1).2 && (N4 e && (decide (Be6 r.1 e.1 < 0) && (decide (e.2.2.2.2.2.2.2.2.1 = Y3 r.1 e.2.2.2.2.2.2.2.1) && decide (r.1.length < 40)))) then
  ((r.1 ++ [e], r.2.1 ++ [bif Av4 r.1 (M3 r e.2.2.2.2.2.2.2.1).1 e && Ch0 e != 0 then E27 (M3 r e.2.2.2.2.2.2.2.1).1 (Ch0 e) e.1 else (M3 r e.2.2.2.2.2.2.2.1).1], r.2.2.1 ++ [Av4 r.1 (M3 r e.2.2.2.2.2.2.2.1).1 e], ()), true)
 else (([], [], [], ()), false)
inductive Built : A6 → Prop where
 | nil : Built ([], [], [], ())
 | add {r : A6} {e : A0} : Built r → e.2.2.2.2.2.2.2.1.length ≤ 1000 → (b9 r e).2 = true → Built (b9 r e).1
structure RoomI (r : A6) : Prop where
 bt : Built r
 len : r.1.length ≤ 40
 sl : r.2.1.length = r.1.length
 gl : r.2.2.1.length = r.1.length
 st : ∀ i, i < r.2.1.length → (rd [] r.2.1 i).length ≤ 16
 ev : ∀ e ∈ r.1, N4 e = true
 ids : ∀ i j, i < j → j < r.1.length → (rd D2 r.1 i).1 ≠ (rd D2 r.1 j).1
theorem C72 (es : List A0) (y : Int) : H2 es y = (Dw8, false) ∨ ∃ e ∈ es, H2 es y = (e, true) ∧ e.1 = y := by
 unfold H2
 cases hf : es.find? fun e => e.1 == y with
 | none => exact .inl rfl
 | some e => exact .inr ⟨e, List.mem_of_find?_eq_some hf, rfl, by simpa using List.find?_some hf⟩
theorem S3 {e : A0} (h : N4 e = true) : e.2.2.2.2.2.2.2.1.length ≤ 3 ∧ I0 e ≤ 1000 := by
 have hf := Ax3 h
 have hb := Bv6 hf.1
 have h4 : (H7 e).length ≤ 3 := hf.2.2.2.1
 refine ⟨h4, ?_⟩
 show (G0 e).length + ((z6 e).size + ((H7 e).length + 0)) ≤ 1000
 omega
theorem RoomI.evs {r : A6} (h : RoomI r) : EvS r.1 := by
 refine ⟨by have := h.len; omega, fun y => ?_, fun y => ?_⟩
 ·unfold M8
  rcases C72 r.1 y with e | ⟨e, he, e2, _⟩
  ·rw [e]; show 0 ≤ 1048576; omega
  ·rw [e2]; have := (S3 (h.ev e he)).1; simp only; omega
 ·rcases C72 r.1 y with e | ⟨e, he, e2, _⟩
  ·rw [e]; show 0 + (0 + (0 + 0)) ≤ 1048576; omega
  ·rw [e2]; have := (S3 (h.ev e he)).2; simp only; omega
theorem RoomI.prevS {r : A6} (h : RoomI r) : Ha2 r.1 := ⟨by have := h.len; omega, fun i hi => by
 have := (S3 (h.ev (rd D2 r.1 i) (by rw [E8 hi]; exact List.getElem_mem _))).1
 exact Nat.le_trans this (by omega)⟩
theorem B10 {r : A6} (h : RoomI r) {prev : List Int} (hp : prev.length ≤ 1048576) : (M3 r prev).1.length ≤ 16 := by
 unfold M3
 cases hq : prev.all (Bb1 r) with
 | false => exact Nat.zero_le _
 | true =>
  refine C07 ⟨by simp; omega, fun i hi => ?_⟩
  have hi2 : i < prev.length := by simpa using hi
  rw [E8 hi, List.getElem_map]
  have := List.all_eq_true.1 hq _ (List.getElem_mem hi2)
  unfold Bb1 at this
  have := of_decide_eq_true this
  exact h.st _ (by omega)
theorem Am6 {r : A6} (h : RoomI r) {prev : List Int} (hp : prev.length ≤ 1000) : (M3 r prev).1.length ≤ 16 := B10 h (by omega)
theorem B11 (r : A6) (h : RoomI r) (prev : List Int) (hp : prev.length ≤ 1048576) : Ev (fun k => M6 k r prev) (M3 r prev) := by
 refine Re.eq (Re.enter (f := fun k n => T1 k n prev 0 r []) C6 ?_)
 have hlen := h.len
 have := Re.loop (ι := Nat) (l := fun k n (i : Nat) => T1 k n prev (i : Int) r ((prev.take i).map fun p => rd [] r.2.1 (Be6 r.1 p).toNat)) (I := fun i => i ≤ prev.length ∧ ∀ j, j < i → Bb1 r (rd 0 prev j) = true) (fun i => prev.length - i) (Q := fun _ v => v = M3 r prev) (fun i hi ih => by
  obtain ⟨g1, g2⟩ := hi
  simp only [T1, A94]
  refine Re.brd (fun g => ?_) (fun g => ?_)
  ·have hl : i < prev.length := by omega
   refine Re.gdd (by omega) (Re.gdd g ?_)
   simp only [Int.toNat_natCast]
   refine Re.c2 (B56 r (by omega) _) ?_
   have no : ¬ (0 ≤ Be6 r.1 (rd 0 prev i) ∧ Be6 r.1 (rd 0 prev i) < r.2.1.length) → (([] : List A1), false) = M3 r prev := fun q => by
    unfold M3
    have : prev.all (Bb1 r) = false := by
     rw [List.all_eq_false]
     exact ⟨rd 0 prev i, by rw [E8 hl]; exact List.getElem_mem _, by unfold Bb1; simp [q]⟩
    rw [this]; rfl
   refine Re.brd (fun q => Re.ret (no fun x => by omega)) (fun q => ?_)
   refine Re.brd (fun q2 => Re.ret (no fun x => by omega)) (fun q2 => ?_)
   refine Re.gdd (by omega) (Re.gdd (by omega) (Re.gdd (by simp [A3]; omega) ?_))
   rw [C5 hl (by omega)]
   have next := ih (i + 1) ⟨by omega, fun j hj => by
    by_cases q3 : j < i
    ·exact g2 j q3
    ·have : j = i := by omega
     subst this
     exact decide_eq_true ⟨by omega, by omega⟩⟩ (by omega)
   rw [B59 hl, List.map_append] at next
   exact next
  ·rw [List.take_of_length_le (by omega)]
   have hall : prev.all (Bb1 r) = true := by
    rw [List.all_eq_true]
    intro p hp
    obtain ⟨j, hj, rfl⟩ := List.getElem_of_mem hp
    have := g2 j (by omega)
    rwa [E8 hj] at this
   have hN : StsB (prev.map fun p => rd [] r.2.1 (Be6 r.1 p).toNat) := ⟨by simp; omega, fun j hj => by
    have hj2 : j < prev.length := by simpa using hj
    rw [E8 hj, List.getElem_map]
    have := of_decide_eq_true (List.all_eq_true.1 hall _ (List.getElem_mem hj2))
    exact h.st _ (by omega)⟩
   refine Re.c2 (Dx1 r.1 h.evs _ hN) (Re.ret ?_)
   unfold M3
   rw [hall]; rfl) 0 ⟨Nat.zero_le _, fun j hj => by omega⟩
 simpa using this
theorem Bb2 (r : A6) (h : RoomI r) (prev : List Int) (hp : prev.length ≤ 1000) : Ev (fun k => M6 k r prev) (M3 r prev) := B11 r h prev (by omega)
theorem Gj1 {es : List A0} {x : Int} (h : x ∈ z7 es) : ∃ e ∈ es, e.1 = x := by
 have : ∀ (xs : List A0) (a : List Int), x ∈ xs.foldl (Ad1 es) a → x ∈ a ∨ ∃ e ∈ xs, e.1 = x := by
  intro xs
  induction xs with
  | nil => intro a h; exact .inl h
  | cons e xs ih =>
   intro a h
   rw [List.foldl_cons] at h
   rcases ih _ h with h1 | ⟨e', h1, h2⟩
   ·unfold Ad1 at h1
    cases hn : named es e.1 with
    | true => rw [hn] at h1; exact .inl h1
    | false =>
     rw [hn] at h1
     rcases E23.1 h1 with h2 | h2
     ·exact .inl h2
     ·exact .inr ⟨e, List.mem_cons_self .., h2.symm⟩
   ·exact .inr ⟨e', List.mem_cons_of_mem _ h1, h2⟩
 rcases this es [] h with h1 | h1
 ·simp at h1
 ·exact h1
structure NextP (r : A6) (id : Int) (e : A0) : Prop where
 eid : e.1 = id
 pl : e.2.2.2.2.2.2.2.1.length ≤ 3
 ll : e.2.2.2.2.2.1.length ≤ 6
 tl : e.2.2.2.2.2.2.1.size ≤ 5
 dp : e.2.2.2.2.2.2.2.2.1 = Y3 r.1 e.2.2.2.2.2.2.2.1
 pm : ∀ p ∈ e.2.2.2.2.2.2.2.1, ∃ x ∈ r.1, x.1 = p
 first : r.1 = [] → e = (id, 1, 1, 0, 0, [], ByteArray.empty, [], 0, ())
theorem NextP.small {r : A6} {id : Int} {e : A0} (h : NextP r id e) : I0 e ≤ 1000 := by
 have h1 := h.pl; have h2 := h.ll; have h3 := h.tl
 show e.2.2.2.2.2.1.length + (e.2.2.2.2.2.2.1.size + (e.2.2.2.2.2.2.2.1.length + 0)) ≤ 1000
 omega
theorem Ea1 (r : A6) (h : RoomI r) (hne : r.1 ≠ []) (id : Int) (s : List A1) (hs : s.length ≤ 16) (prev : List Int) (hpl : prev.length ≤ 3) (hpm : ∀ p ∈ prev, ∃ x ∈ r.1, x.1 = p) (c : A9) (hc : CurOk c) (b : A0) (hb : b.2.2.2.2.2.1.length ≤ 6 ∧ b.2.2.2.2.2.2.1.size ≤ 5) :
  Re (fun x : Nat × Nat => V0 x.1 x.2 id 0 c.1 c.2.1 c.2.2.1 r b.2.1 b.2.2.1 b.2.2.2.1 b.2.2.2.2.1 b.2.2.2.2.2.2.1 (Y3 r.1 prev) s b.2.2.2.2.2.1 prev) (fun q => NextP r id q.1 ∧ CurOk q.2.1) := by
 have hlen := h.len
 have hpos : 0 < r.1.length := List.length_pos_iff.2 hne
 have := Re.loop (ι := Nat) (l := fun k n (st : Nat × A9 × A0) => V0 k n id (st.1 : Int) st.2.1.1 st.2.1.2.1 st.2.1.2.2.1 r st.2.2.2.1 st.2.2.2.2.1 st.2.2.2.2.2.1 st.2.2.2.2.2.2.1 st.2.2.2.2.2.2.2.2.1 (Y3 r.1 prev) s st.2.2.2.2.2.2.2.1 prev) (I := fun st => st.1 ≤ 6 ∧ CurOk st.2.1 ∧ st.2.2.2.2.2.2.2.1.length ≤ 6 ∧ st.2.2.2.2.2.2.2.2.1.size ≤ 5) (fun st => 6 - st.1) (Q := fun _ q => NextP r id q.1 ∧ CurOk q.2.1) (fun st hi ih => by
  obtain ⟨i, c, b⟩ := st
  obtain ⟨g1, g2, g3, g4⟩ := hi
  simp only at g1 g2 g3 g4 ih ⊢
  simp only [V0, Bu3]
  have fin : Re (fun x : Nat × Nat => (br ((r.1.length : Int) == 1) (gd (decide (0 < (r.1.length : Int))) (gd (decide (0 < (r.1.length : Int))) (some ((id, 2, (rd D2 r.1 0).2.2.1, (rd D2 r.1 0).2.2.1, 2, [], ByteArray.empty, prev, Y3 r.1 prev, ()), (c.1, c.2.1, c.2.2.1, ()), ())))) (some ((id, b.2.1, b.2.2.1, b.2.2.2.1, b.2.2.2.2.1, b.2.2.2.2.2.1, b.2.2.2.2.2.2.1, prev, Y3 r.1 prev, ()), (c.1, c.2.1, c.2.2.1, ()), ())))) (fun q => NextP r id q.1 ∧ CurOk q.2.1) := by
   refine Re.brb (Re.gdd (by omega) (Re.gdd (by omega) (Re.ret ⟨⟨rfl, hpl, by simp, by show (0 : Nat) ≤ 5; omega, rfl, hpm, fun e => absurd e hne⟩, g2.eta⟩))) (Re.ret ⟨⟨rfl, hpl, g3, g4, rfl, hpm, fun e => absurd e hne⟩, g2.eta⟩)
  refine Re.brd (fun q => ?_) (fun q => fin)
  refine Re.c2 (Bv8 r.1 s ⟨by omega, by omega⟩ (id, b.2.1, b.2.2.1, b.2.2.2.1, b.2.2.2.2.1, b.2.2.2.2.2.1, b.2.2.2.2.2.2.1, prev, Y3 r.1 prev, ()) (by show b.2.2.2.2.2.1.length + (b.2.2.2.2.2.2.1.size + (prev.length + 0)) ≤ 1048576; omega)) ?_
  refine Re.brb (Re.b2 (D98 _ g2.eta) fun r9 h9 => ?_) fin
  obtain ⟨⟨_, _, _, _, _, b5, b6, b7, _, _⟩, c9⟩ := h9
  have hl : r9.1.2.2.2.2.2.1.length ≤ 6 := by
   by_cases h3 : r9.1.2.1 = 3
   ·have := b5 h3; omega
   ·rw [b6 h3]; simp
  have e1 : B5 ((i : Int) + 1) = ((i + 1 : Nat) : Int) := by rw [D8 (by omega) (by omega)]; rfl
  rw [e1]
  exact ih (i + 1, r9.2.1, r9.1) ⟨by simp only; omega, c9, hl, b7⟩ (by simp only; omega)) (0, c, b) ⟨Nat.zero_le _, hc, hb.1, hb.2⟩
 exact this
theorem Dm8 (c : A9) (hc : CurOk c) (r : A6) (h : RoomI r) (id : Int) : Re (fun k => N8 k c r id) (fun q => NextP r id q.1 ∧ CurOk q.2.1) := by
 have hlen := h.len
 refine Re.bre (fun q => Re.ret ⟨?_, hc⟩) (fun q => ?_)
 ·have he : r.1 = [] := List.length_eq_zero_iff.1 (by omega)
  exact ⟨rfl, by simp, by simp, by show (0 : Nat) ≤ 5; omega, by simp [Y3, Gd5], fun p hp => by simp at hp, fun _ => rfl⟩
 have hne : r.1 ≠ [] := fun e => q (by rw [e]; rfl)
 have hpos : 0 < r.1.length := List.length_pos_iff.2 hne
 refine Re.b1 (D98 c hc) fun r1 h1 => ?_
 obtain ⟨⟨_, _, _, _, _, b5, b6, b7, _, _⟩, c1⟩ := h1
 have hl : r1.1.2.2.2.2.2.1.length ≤ 6 := by
  by_cases h3 : r1.1.2.1 = 3
  ·have := b5 h3; omega
  ·rw [b6 h3]; simp
 refine Re.c1 (B57 r h.prevS) ?_
 have hel : (z7 r.1).length ≤ 40 := by
  have := z8 r.1 r.1 []
  unfold z7; simp at this; omega
 have hem : ∀ j, j < (z7 r.1).length → ∃ x ∈ r.1, x.1 = rd 0 (z7 r.1) j := fun j hj => Gj1 (by rw [E8 hj]; exact List.getElem_mem _)
 generalize z7 r.1 = ends at hel hem ⊢
 refine Re.enter (f := fun k n => V2 k n id 0 r1.2.1.1 r1.2.1.2.1 r1.2.1.2.2.1 r r1 ends []) C6 ?_
 have := Re.loop (ι := Nat) (l := fun k n (st : Nat × A9 × List Int) => V2 k n id (st.1 : Int) st.2.1.1 st.2.1.2.1 st.2.1.2.2.1 r r1 ends st.2.2) (I := fun st => st.1 ≤ ends.length ∧ CurOk st.2.1 ∧ st.2.2.length ≤ 3 ∧ ∀ p ∈ st.2.2, ∃ x ∈ r.1, x.1 = p) (fun st => ends.length - st.1) (Q := fun _ q => NextP r id q.1 ∧ CurOk q.2.1) (fun st hi ih => by
  obtain ⟨i, c, xs⟩ := st
  obtain ⟨g1, g2, g3, g4⟩ := hi
  simp only at g1 g2 g3 g4 ih ⊢
  simp only [V2, Bu4]
  have tail : ∀ (c : A9), CurOk c → Re (fun x : Nat × Nat => (bd (N7 x.1 (c.1, c.2.1, c.2.2.1, ()) 4) fun r4 => (br r4.1 (bd (C7 x.1 r4.2.1 (r.1.length : Int)) fun r5 => (gd (decide (0 ≤ r5.1)) (gd (decide (r5.1 < (r.1.length : Int))) (bd (J0 x.1 r [(rd D2 r.1 r5.1.toNat).1]) fun r6 => (bd (M6 x.1 r [(rd D2 r.1 r5.1.toNat).1]) fun r7 => (V0 x.1 x.2 id 0 r5.2.1.1 r5.2.1.2.1 r5.2.1.2.2.1 r r1.1.2.1 r1.1.2.2.1 r1.1.2.2.2.1 r1.1.2.2.2.2.1 r1.1.2.2.2.2.2.2.1 r6 r7.1 r1.1.2.2.2.2.2.1 [(rd D2 r.1 r5.1.toNat).1])))))) (bd (J0 x.1 r xs) fun r10 => (bd (M6 x.1 r xs) fun r11 => (V0 x.1 x.2 id 0 r4.2.1.1 r4.2.1.2.1 r4.2.1.2.2.1 r r1.1.2.1 r1.1.2.2.1 r1.1.2.2.2.1 r1.1.2.2.2.2.1 r1.1.2.2.2.2.2.2.1 r10 r11.1 r1.1.2.2.2.2.2.1 xs)))))) (fun q => NextP r id q.1 ∧ CurOk q.2.1) := by
   intro c hc
   refine Re.b2 (Bh0 _ 4 hc.eta) fun r4 h4 => ?_
   refine Re.brb (Re.b2 (M7 _ _ h4) fun r5 h5 => ?_) ?_
   ·obtain ⟨⟨q1, q2⟩, q3⟩ := h5
    have q4 : r5.1 < r.1.length := by omega
    refine Re.gdd q1 (Re.gdd q4 (Re.c2 (Ad0 r (by omega) _ (by simp)) (Re.c2 (Bb2 r h _ (by simp)) ?_)))
    refine Ea1 r h hne id _ (Am6 h (by simp)) _ (by simp) (fun p hp => ?_) r5.2.1 q3 r1.1 ⟨hl, b7⟩
    simp at hp
    subst hp
    exact ⟨rd D2 r.1 r5.1.toNat, by rw [E8 (show r5.1.toNat < r.1.length by omega)]; exact List.getElem_mem _, rfl⟩
   ·refine Re.c2 (Ad0 r (by omega) _ (by omega)) (Re.c2 (Bb2 r h _ (by omega)) ?_)
    exact Ea1 r h hne id _ (Am6 h (by omega)) _ g3 g4 r4.2.1 h4 r1.1 ⟨hl, b7⟩
  refine Re.brd (fun q1 => ?_) (fun q1 => tail c g2)
  refine Re.brd (fun q2 => ?_) (fun q2 => tail c g2)
  have hli : i < ends.length := by omega
  refine Re.b2 (Bh0 _ 2 g2.eta) fun r3 h3 => ?_
  rw [C5 hli (by omega)]
  simp only [Int.toNat_natCast]
  have add := ih (i + 1, r3.2.1, xs ++ [rd 0 ends i]) ⟨by simp only; omega, h3, by simp; omega, fun p hp => by
   rcases List.mem_append.1 hp with hp | hp
   ·exact g4 p hp
   ·simp at hp; subst hp; exact hem i hli⟩ (by simp only; omega)
  have skip := ih (i + 1, r3.2.1, xs) ⟨by simp only; omega, h3, g3, g4⟩ (by simp only; omega)
  have ga : Re (fun x : Nat × Nat => gd (decide (0 ≤ (i : Int))) (gd (decide ((i : Int) < (ends.length : Int))) (gd (decide (xs.length + [(rd 0 ends i)].length ≤ A3)) (V2 x.1 x.2 id ((i + 1 : Nat) : Int) r3.2.1.1 r3.2.1.2.1 r3.2.1.2.2.1 r r1 ends (xs ++ [(rd 0 ends i)]))))) (fun q => NextP r id q.1 ∧ CurOk q.2.1) := Re.gdd (by omega) (Re.gdd q1 (Re.gdd (by simp [A3]; omega) add))
  exact Re.brb ga (Re.brb (Re.brb ga skip) skip)) (0, r1.2.1, []) ⟨Nat.zero_le _, c1, by simp, fun p hp => by simp at hp⟩
 exact this
theorem Ct0 (r : A6) (h : RoomI r) (e : A0) (hm : I0 e ≤ 1048576) (hp : e.2.2.2.2.2.2.2.1.length ≤ 1048576) : Ev (fun k => A95 k r e) (b9 r e) := by
 have hlen := h.len
 have hsl := h.sl
 have hgl := h.gl
 have hbl := B10 h hp
 refine Re.eq (Re.c1 (B11 r h _ hp) ?_)
 unfold b9
 generalize M3 r e.2.2.2.2.2.2.2.1 = b at hbl ⊢
 obtain ⟨s, ok⟩ := b
 cases ok with
 | false => exact Re.ret rfl
 | true =>
  refine Re.br (b := false) (fun h => by cases h) (fun _ => Re.c1 (Ac9 e hm) ?_)
  cases ho : N4 e with
  | false => exact Re.ret rfl
  | true =>
   refine Re.br (b := false) (fun h => by cases h) (fun _ => Re.c1 (B56 r (by omega) _) ?_)
   refine Re.brd (fun q => Re.ret (by rw [decide_eq_false (show ¬ Be6 r.1 e.1 < 0 by omega)]; rfl)) (fun q => ?_)
   rw [decide_eq_true (show Be6 r.1 e.1 < 0 by omega)]
   refine Re.c1 (Ad0 r (by omega) _ (by omega)) ?_
   refine Re.brn (fun q2 => Re.ret (by rw [decide_eq_false q2]; rfl)) (fun q2 => ?_)
   rw [decide_eq_true q2]
   refine Re.brd (fun q3 => Re.ret (by rw [decide_eq_false (show ¬ r.1.length < 40 by omega)]; rfl)) (fun q3 => ?_)
   rw [decide_eq_true (show r.1.length < 40 by omega)]
   refine Re.c1 (Bv8 r.1 s ⟨by omega, by simp only at hbl; omega⟩ e hm) ?_
   simp only at hbl
   cases ha : Av4 r.1 s e with
   | false =>
    refine Re.br (b := false) (fun h => by cases h) (fun _ => ?_)
    exact Re.gdd (by simp [A3]; omega) (Re.gdd (by simp [A3]; omega) (Re.gdd (by simp [A3]; omega) (Re.gdd (by simp [A3]; omega) (Re.gdd (by simp [A3]; omega) (Re.gdd (by simp [A3]; omega) (Re.ret rfl))))))
   | true =>
    refine Re.br (b := true) (fun _ => Re.s1 (Bv9 e ·) ?_) (fun h => by cases h)
    refine Re.br (fun q4 => ?_) (fun q4 => ?_)
    ·refine Re.s1 (Bv9 e ·) (Re.c1 (E28 s (by omega) _ _) ?_)
     refine Re.gdd (by simp [A3]; omega) (Re.gdd (by simp [A3]; omega) (Re.gdd (by simp [A3]; omega) (Re.gdd (by simp [A3]; omega) (Re.gdd (by simp [A3]; omega) (Re.gdd (by simp [A3]; omega) (Re.ret ?_))))))
     rw [q4]; rfl
    ·refine Re.gdd (by simp [A3]; omega) (Re.gdd (by simp [A3]; omega) (Re.gdd (by simp [A3]; omega) (Re.gdd (by simp [A3]; omega) (Re.gdd (by simp [A3]; omega) (Re.gdd (by simp [A3]; omega) (Re.ret ?_))))))
     rw [q4]; rfl
theorem E30 (r : A6) (h : RoomI r) (e : A0) (hm : I0 e ≤ 1048576) (hp : e.2.2.2.2.2.2.2.1.length ≤ 1000) : Ev (fun k => A95 k r e) (b9 r e) := Ct0 r h e hm (by omega)
theorem Dm9 {α : Type} (d : α) (xs : List α) (y : α) (i : Nat) : rd d (xs ++ [y]) i = if i < xs.length then rd d xs i else if i = xs.length then y else d := by
 unfold rd
 by_cases h : i < xs.length
 ·rw [if_pos h]; simp [List.getElem?_append_left h]
 ·rw [if_neg h]
  by_cases h2 : i = xs.length
  ·subst h2; simp
  ·rw [if_neg h2]; simp [List.getElem?_eq_none (show (xs ++ [y]).length ≤ i by simp; omega)]
theorem Cd5 {r : A6} (h : RoomI r) {e : A0} (hp : e.2.2.2.2.2.2.2.1.length ≤ 1000) (ho : (b9 r e).2 = true) : RoomI (b9 r e).1 ∧ (b9 r e).1.1 = r.1 ++ [e] := by
 have hbl := Am6 h hp
 have hbt := Built.add h.bt hp ho
 unfold b9 at ho hbt ⊢
 cases hq : (M3 r e.2.2.2.2.2.2.2.1).2 && (N4 e && (decide (Be6 r.1 e.1 < 0) && (decide (e.2.2.2.2.2.2.2.2.1 = Y3 r.1 e.2.2.2.2.2.2.2.1) && decide (r.1.length < 40)))) with
 | false => rw [hq] at ho; cases ho
 | true =>
  rw [hq] at hbt
  simp only [cond_true]
  simp only [Bool.and_eq_true, decide_eq_true_eq] at hq
  obtain ⟨_, q1, q2, _, q3⟩ := hq
  refine ⟨⟨hbt, by simp; omega, by simp [h.sl], by simp [h.gl], fun i hi => ?_, fun x hx => ?_, fun i j hij hj => ?_⟩, trivial⟩
  ·simp only at hi ⊢
   rw [Dm9]
   by_cases q : i < r.2.1.length
   ·rw [if_pos q]; exact h.st i q
   ·rw [if_neg q, if_pos (by simp at hi; omega)]
    cases Av4 r.1 (M3 r e.2.2.2.2.2.2.2.1).1 e && Ch0 e != 0 with
    | true => exact C70 hbl (by omega)
    | false => exact hbl
  ·rcases List.mem_append.1 hx with hx | hx
   ·exact h.ev x hx
   ·simp at hx; subst hx; exact q1
  ·simp only at hj ⊢
   rw [Dm9, Dm9]
   have hj2 : j < r.1.length + 1 := by simpa using hj
   rw [if_pos (show i < r.1.length by omega)]
   by_cases q : j < r.1.length
   ·rw [if_pos q]; exact h.ids i j hij q
   ·rw [if_neg q, if_pos (by omega)]
    rcases D99 r.1 e.1 with ⟨_, hn⟩ | ⟨k, hk, e2, _⟩
    ·exact hn _ (by rw [E8 (show i < r.1.length by omega)]; exact List.getElem_mem _)
    ·omega
theorem Ct1 (k : Nat) (e : A0) (h1 : e.2.2.2.2.2.1.length ≤ 1048576) (h2 : e.2.2.2.2.2.2.2.1.length ≤ 1048576) : At1 k e = some e := by
 unfold At1
 rw [decide_eq_true (by simp [A3]; omega), decide_eq_true (by simp [A3]; omega)]
 rfl
theorem Ct2 (r : A6) (h : RoomI r) : Ev (fun k => A74 k r) r := by
 have hlen := h.len
 have hsl := h.sl
 have hgl := h.gl
 have h0 : Ev (fun k => Ae4 k r.1) r.1 := by
  refine Re.eq (Re.enter (f := fun k n => O3 k n r.1 0 []) C6 ?_)
  have := Re.loop (ι := Nat) (l := fun k n (i : Nat) => O3 k n r.1 (i : Int) (r.1.take i)) (I := fun i => i ≤ r.1.length) (fun i => r.1.length - i) (Q := fun _ v => v = r.1) (fun i hi ih => by
   simp only [O3, At2]
   refine Re.brd (fun g => ?_) (fun g => Re.ret (List.take_of_length_le (by omega)))
   have hl : i < r.1.length := by omega
   have hs := S3 (h.ev (rd D2 r.1 i) (by rw [E8 hl]; exact List.getElem_mem _))
   have hm := Bv4 (e := rd D2 r.1 i) (by omega)
   refine Re.gdd (by omega) (Re.gdd g ?_)
   simp only [Int.toNat_natCast]
   refine Re.s2 (Ct1 · _ hm.1 hm.2.2) (Re.gdd (by simp [A3]; omega) ?_)
   rw [C5 hl (by omega)]
   have next := ih (i + 1) (by omega) (by omega)
   rw [List.take_add_one, List.getElem?_eq_getElem hl] at next
   rw [E8 hl]
   exact next) 0 (Nat.zero_le _)
  simpa using this
 refine Re.eq (Re.c1 h0 (Re.gdd (by simp [A3]; omega) ?_))
 refine Re.enter (f := fun k n => i8 k n 0 r r.1 []) C6 ?_
 have := Re.loop (ι := Nat) (l := fun k n (i : Nat) => i8 k n (i : Int) r r.1 (r.2.1.take i)) (I := fun i => i ≤ r.2.1.length) (fun i => r.2.1.length - i) (Q := fun _ v => v = r) (fun i hi ih => by
  simp only [i8, Bt8]
  refine Re.brd (fun g => ?_) (fun g => Re.ret (by rw [List.take_of_length_le (by omega)]; rfl))
  have hl : i < r.2.1.length := by omega
  have hs := h.st i hl
  refine Re.gdd (by omega) (Re.gdd g ?_)
  simp only [Int.toNat_natCast]
  refine Re.gdd (by simp [A3]; omega) (Re.gdd (by simp [A3]; omega) ?_)
  rw [C5 hl (by omega)]
  have next := ih (i + 1) (by omega) (by omega)
  rw [List.take_add_one, List.getElem?_eq_getElem hl] at next
  rw [E8 hl, List.nil_append]
  exact next) 0 (Nat.zero_le _)
 simpa using this
theorem Dg1 : RoomI ([], [], [], ()) := ⟨.nil, by simp, rfl, rfl, fun i hi => by simp at hi, fun e he => by simp at he, fun i j _ hj => by simp at hj⟩
end Go.Vm
end
section
namespace Go.Vm
open Go
theorem Eh0 (a : List Int) (h : a.length ≤ 1048576) : Ev (fun k => Ba4 k a a) true := by
 refine Re.eq ?_
 refine Re.brn (fun h => absurd rfl h) (fun _ => ?_)
 refine Re.enter (f := fun k n => X3 k n a a 0) C6 ?_
 have := Re.loop (ι := Nat) (l := fun k n (i : Nat) => X3 k n a a (i : Int)) (I := fun i => i ≤ a.length) (fun i => a.length - i) (Q := fun _ v => v = true) (fun i hi ih => by
  simp only [X3, Bj7]
  refine Re.brd (fun q => ?_) (fun q => Re.ret rfl)
  refine Re.gdd (by omega) (Re.gdd q (Re.gdd (by omega) (Re.gdd q ?_)))
  refine Re.brn (fun h => absurd rfl h) (fun _ => ?_)
  rw [C5 (show i < a.length by omega) (by omega)]
  exact ih (i + 1) (by omega) (by omega)) 0 (Nat.zero_le _)
 exact this
end Go.Vm
end
section
namespace Go.Vm
open Go
noncomputable def B67 (r : A6) : List A1 := (M3 r (z7 r.1)).1
theorem Ct3 (r : A6) (h : RoomI r) : (z7 r.1).length ≤ 40 := by
 have := z8 r.1 r.1 []
 have := h.len
 unfold z7; simp at *; omega
theorem Dx2 {r : A6} (h : RoomI r) : (B67 r).length ≤ 16 := Am6 h (by have := Ct3 r h; omega)
theorem Eh1 (r : A6) (h : RoomI r) : Ev (fun k => Bo8 k r) (B67 r) := by
 refine Re.eq (Re.c1 (B57 r h.prevS) (Re.c1 (Bb2 r h _ (by have := Ct3 r h; omega)) (Re.ret rfl)))
end Go.Vm
end
section
namespace Go.Vm
open Go
theorem Gj2 {r : A6} {e : A0} (h : (b9 r e).2 = true) : (M3 r e.2.2.2.2.2.2.2.1).2 = true ∧ N4 e = true ∧ Be6 r.1 e.1 < 0 ∧ e.2.2.2.2.2.2.2.2.1 = Y3 r.1 e.2.2.2.2.2.2.2.1 ∧ r.1.length < 40 ∧
  (b9 r e).1 = (r.1 ++ [e], r.2.1 ++ [bif Av4 r.1 (M3 r e.2.2.2.2.2.2.2.1).1 e && Ch0 e != 0 then E27 (M3 r e.2.2.2.2.2.2.2.1).1 (Ch0 e) e.1 else (M3 r e.2.2.2.2.2.2.2.1).1], r.2.2.1 ++ [Av4 r.1 (M3 r e.2.2.2.2.2.2.2.1).1 e], ()) := by
 unfold b9 at h ⊢
 cases hq : (M3 r e.2.2.2.2.2.2.2.1).2 && (N4 e && (decide (Be6 r.1 e.1 < 0) && (decide (e.2.2.2.2.2.2.2.2.1 = Y3 r.1 e.2.2.2.2.2.2.2.1) && decide (r.1.length < 40)))) with
 | false => rw [hq] at h; cases h
 | true =>
  simp only [Bool.and_eq_true, decide_eq_true_eq] at hq
  exact ⟨hq.1, hq.2.1, hq.2.2.1, hq.2.2.2.1, hq.2.2.2.2, rfl⟩
end Go.Vm
end
section
namespace Go.Vm
open Go
theorem RoomI.mE {r : A6} (h : RoomI r) {i : Nat} (hi : i < r.1.length) : I0 (rd D2 r.1 i) ≤ 1000 ∧ (rd D2 r.1 i).2.2.2.2.2.2.2.1.length ≤ 3 := by
 have := S3 (h.ev (rd D2 r.1 i) (by rw [E8 hi]; exact List.getElem_mem _))
 exact ⟨this.2, this.1⟩
end Go.Vm
end
section
namespace Go.Vm
open Go
theorem Re.call {ι α R : Type} [Fuel ι] {κ : ι → Nat} {g : Nat → Option α} {F : ι → α → Option R} {v : α} {Q : R → Prop} (hκ : Dj4 κ) (h : Ev g v) (h2 : Re (fun x => F x v) Q) : Re (fun x => Vm.bd (g (κ x)) (F x)) Q :=
 Re.bd (P := fun a => a = v) hκ (Ev.re h rfl) fun a ha => by subst ha; exact h2
theorem Re.some {ι R : Type} [Fuel ι] {v w : R} (h : v = w) : Re (fun _ : ι => some v) (fun a => a = w) := Re.ret h
theorem Ct4 {α : Type} {l : Nat → Nat → Nat → Option Bool} {V : Bool} (a b : List α) (hl : a.length = b.length)
  (hs : ∀ i (h : i < a.length) (h' : i < b.length), (a[i] = b[i] → Re (fun x : Nat × Nat => l x.1 x.2 (i + 1)) (fun v => v = V)) → (a[i] ≠ b[i] → V = false) → Re (fun x : Nat × Nat => l x.1 (x.2 + 1) i) (fun v => v = V))
  (hne : a ≠ b → V = false) (he : a = b → Re (fun x : Nat × Nat => l x.1 (x.2 + 1) a.length) (fun v => v = V)) : Re (fun x : Nat × Nat => l x.1 x.2 0) (fun v => v = V) := by
 have := Re.loop (ι := Nat) (l := fun k n i => l k n i) (I := fun i => i ≤ a.length ∧ ∀ j, j < i → a[j]? = b[j]?) (fun i => a.length - i) (Q := fun _ v => v = V) (fun i hi ih => by
  by_cases h : i < a.length
  ·have h' : i < b.length := by omega
   refine hs i h h' (fun e => ih (i + 1) ⟨by omega, fun j hj => ?_⟩ (by omega)) (fun e => hne (fun e2 => e (by simp only [e2])))
   by_cases hj2 : j < i
   ·exact hi.2 j hj2
   ·have : j = i := by omega
    subst this
    rw [List.getElem?_eq_getElem h, List.getElem?_eq_getElem h', e]
  ·have hi2 : i = a.length := by omega
   subst hi2
   refine he (List.ext_getElem? fun j => ?_)
   by_cases hj : j < a.length
   ·exact hi.2 j hj
   ·rw [List.getElem?_eq_none (by omega), List.getElem?_eq_none (by omega)]) 0 ⟨Nat.zero_le _, fun j hj => by omega⟩
 exact this
theorem Bp6 {a b : Int} (h : (a != b) = false) : a = b := by simpa using h
theorem Gu9 (x y : A1) : (x.1 == y.1 && (x.2.1 == y.2.1 && true)) = decide (x = y) := by
 obtain ⟨x1, x2, ⟨⟩⟩ := x
 obtain ⟨y1, y2, ⟨⟩⟩ := y
 rw [Bool.eq_iff_iff]
 simp
theorem E31 (a b : List Int) (h : a.length ≤ 1048576) : Ev (fun k => M0 k a b) (decide (a = b)) := by
 refine Re.eq ?_
 refine Re.br (fun h => ?_) (fun h => ?_)
 ·exact .some (decide_eq_false (fun e => by subst e; simp at h)).symm
 ·have hl : a.length = b.length := by have := Bp6 h; omega
  refine Re.enter (f := fun k n => H6 k n a b 0) C6 ?_
  refine Ct4 (l := fun k n i => H6 k n a b (i : Int)) a b hl (fun i h h' ih hf => ?_) (fun h => decide_eq_false h) (fun h => ?_)
  ·simp only [H6, S4, Int.ofNat_lt, h, h', Int.natCast_nonneg, decide_true, br_true, gd_true, Int.toNat_natCast, E8, C5 h (by omega)]
   refine Re.br (fun hc => ?_) (fun hc => ?_)
   ·exact .some (hf (by simpa using hc)).symm
   ·exact ih (by simpa using hc)
  ·simp only [H6, S4, Int.lt_irrefl, decide_false, br_false]
   exact .some (decide_eq_true h).symm
theorem Dx3 (a b : List A1) (h : a.length ≤ 1048576) : Ev (fun k => Z0 k a b) (decide (a = b)) := by
 refine Re.eq ?_
 refine Re.br (fun h => ?_) (fun h => ?_)
 ·exact .some (decide_eq_false (fun e => by subst e; simp at h)).symm
 ·have hl : a.length = b.length := by have := Bp6 h; omega
  refine Re.enter (f := fun k n => K9 k n a b 0) C6 ?_
  refine Ct4 (l := fun k n i => K9 k n a b (i : Int)) a b hl (fun i h h' ih hf => ?_) (fun h => decide_eq_false h) (fun h => ?_)
  ·simp only [K9, p9, Int.ofNat_lt, h, h', Int.natCast_nonneg, decide_true, br_true, gd_true, Int.toNat_natCast, E8, C5 h (by omega), Gu9]
   refine Re.br (fun hc => ?_) (fun hc => ?_)
   ·exact .some (hf (by simpa using hc)).symm
   ·exact ih (by simpa using hc)
  ·simp only [K9, p9, Int.lt_irrefl, decide_false, br_false]
   exact .some (decide_eq_true h).symm
theorem Fr8 (a b : List Int) : Cm0 a b = decide (a = b) := by
 rw [Bool.eq_iff_iff]
 unfold Cm0
 simp only [Bool.and_eq_true, beq_iff_eq, Ae3, decide_eq_true_eq]
 constructor
 ·rintro ⟨h1, h2⟩
  have hl : a.length = b.length := by omega
  refine List.ext_getElem hl fun i h h' => ?_
  have := h2 i h
  rwa [E8 h, E8 h'] at this
 ·rintro rfl
  exact ⟨rfl, fun _ _ => rfl⟩
theorem Fr9 (a b : A0) : Bv7 a b = eqd a b := by
 obtain ⟨x0, x1, x2, x3, x4, l, t, p, d, ⟨⟩⟩ := a
 obtain ⟨y0, y1, y2, y3, y4, l2, t2, p2, d2, ⟨⟩⟩ := b
 rw [Bool.eq_iff_iff]
 rw [Cs4]
 simp only [Bv7, Fr0, Y1, Fr8, Aj5, Bv3, C67, Bg8, z6, A15, G0, H7, Bool.and_eq_true, beq_iff_eq, decide_eq_true_eq, Prod.mk.injEq, and_true]
 constructor
 ·rintro ⟨⟨⟨⟨⟨⟨⟨⟨h0, h1⟩, h2⟩, h3⟩, h4⟩, h5⟩, h6⟩, h7⟩, h8⟩
  exact ⟨h0, h1, h2, h3, h4, h7, h5, h8, h6⟩
 ·rintro ⟨h0, h1, h2, h3, h4, h7, h5, h8, h6⟩
  exact ⟨⟨⟨⟨⟨⟨⟨⟨h0, h1⟩, h2⟩, h3⟩, h4⟩, h5⟩, h6⟩, h7⟩, h8⟩
theorem Gj3 (a b : A6) (ha : Bk1 a ≤ 1048576) : Ev (fun k => Bo6 k a b) (eqd a b) := by
 have h1 : Am3 a.1 + (B54 a.2.1 + (Cs0 a.2.2.1 + 0)) ≤ 1048576 := ha
 have he : a.1.length + (a.1.map I0).sum ≤ 1048576 := by have : Am3 a.1 = a.1.length + (a.1.map I0).sum := rfl; omega
 have hi : a.2.1.length + (a.2.1.map A49).sum ≤ 1048576 := by have : B54 a.2.1 = a.2.1.length + (a.2.1.map A49).sum := rfl; omega
 have hb : a.2.2.1.length ≤ 1048576 := by have : Cs0 a.2.2.1 = a.2.2.1.length := rfl; omega
 refine Re.eq ?_
 refine Re.br (fun h => .some (C03 (fun e => by subst e; simp at h)).symm) (fun h => ?_)
 have l1 : a.1.length = b.1.length := by have := Bp6 h; omega
 refine Re.br (fun h => .some (C03 (fun e => by subst e; simp at h)).symm) (fun h => ?_)
 have l2 : a.2.1.length = b.2.1.length := by have := Bp6 h; omega
 refine Re.br (fun h => .some (C03 (fun e => by subst e; simp at h)).symm) (fun h => ?_)
 have l3 : a.2.2.1.length = b.2.2.1.length := by have := Bp6 h; omega
 refine Re.enter (f := fun k n => U9 k n 0 a b) C6 ?_
 refine Ct4 (l := fun k n i => U9 k n (i : Int) a b) a.1 b.1 l1 (fun i h h' ih hf => ?_) (fun h => C03 (fun e => h (by rw [e]))) (fun e1 => ?_)
 ·simp only [U9, A42, Int.ofNat_lt, h, h', Int.natCast_nonneg, decide_true, br_true, gd_true, Int.toNat_natCast, E8, C5 h (by omega)]
  refine Re.call (g := fun k => Ai9 k a.1[i] b.1[i]) (A71 C6) (Cs2 a.1[i] b.1[i] (by have := Df8 I0 (List.getElem_mem h); omega)) ?_
  rw [Fr9]
  refine Re.br (fun hc => .some (hf (fun e => by rw [Fr3 e] at hc; cases hc)).symm) (fun hc => ih (Cs4.1 (by simpa using hc)))
 ·simp only [U9, A42, Int.lt_irrefl, decide_false, br_false]
  refine Ct4 (l := fun k n i => Ac0 k n (i : Int) a b) a.2.1 b.2.1 l2 (fun i h h' ih hf => ?_) (fun h => C03 (fun e => h (by rw [e]))) (fun e2 => ?_)
  ·simp only [Ac0, A41, Int.ofNat_lt, h, h', Int.natCast_nonneg, decide_true, br_true, gd_true, Int.toNat_natCast, E8, C5 h (by omega)]
   refine Re.call (g := fun k => Z0 k a.2.1[i] b.2.1[i]) (A71 C6) (Dx3 a.2.1[i] b.2.1[i] (by have := Df8 A49 (List.getElem_mem h); have : A49 a.2.1[i] = a.2.1[i].length := rfl; omega)) ?_
   refine Re.br (fun hc => .some (hf (by simpa using hc)).symm) (fun hc => ih (by simpa using hc))
  ·simp only [Ac0, A41, Int.lt_irrefl, decide_false, br_false]
   refine Ct4 (l := fun k n i => Ab9 k n (i : Int) a b) a.2.2.1 b.2.2.1 l3 (fun i h h' ih hf => ?_) (fun h => C03 (fun e => h (by rw [e]))) (fun e3 => ?_)
   ·simp only [Ab9, A40, Int.ofNat_lt, h, h', Int.natCast_nonneg, decide_true, br_true, gd_true, Int.toNat_natCast, E8, C5 h (by omega)]
    refine Re.br (fun hc => .some (hf (by simpa using hc)).symm) (fun hc => ih (by simpa using hc))
   ·simp only [Ab9, A40, Int.lt_irrefl, decide_false, br_false]
    exact .some (Fr3 (Prod.ext e1 (Prod.ext e2 (Prod.ext e3 rfl)))).symm
end Go.Vm
end
section
namespace Go.Vm
open Go
theorem Dn0 {r : A6} (h : RoomI r) {e : A0} (ho : (b9 r e).2 = true) : RoomI (b9 r e).1 := by
 obtain ⟨_, h2, _⟩ := Gj2 ho
 have := (S3 h2).1
 exact (Cd5 h (by omega) ho).1
theorem Cm1 {α : Type} (f : α → Nat) (c : Nat) : ∀ (xs : List α), (∀ x ∈ xs, f x ≤ c) → (xs.map f).sum ≤ xs.length * c
 | [], _ => by simp
 | x :: xs, h => by
  have h1 := h x (List.mem_cons_self ..)
  have h2 := Cm1 f c xs fun y hy => h y (List.mem_cons_of_mem _ hy)
  rw [List.map_cons, List.sum_cons, List.length_cons, Nat.succ_mul]
  omega
noncomputable def C08 : A6 → List A0 → A6 × Bool
 | n, [] => (n, true)
 | n, e :: es => bif (b9 n e).2 then C08 (b9 n e).1 es else (([], [], [], ()), false)
theorem C73 : ∀ (es : List A0) {n : A6}, RoomI n → RoomI (C08 n es).1
 | [], _, h => h
 | e :: es, n, h => by
  unfold C08
  cases ho : (b9 n e).2 with
  | false => exact Dg1
  | true => exact C73 es (Dn0 h ho)
theorem Gd6 {α : Type} {d : α} {xs : List α} {i : Nat} (h : i < xs.length) : xs.drop i = rd d xs i :: xs.drop (i + 1) := by
 rw [List.drop_eq_getElem_cons h, E8 h]
noncomputable def Ea2 (es : List A0) : A6 × Bool := C08 ([], [], [], ()) es
noncomputable def Bw2 (r : A6) : Bool := !decide ((r.1.length : Int) > 40) && ((Ea2 r.1).2 && eqd (Ea2 r.1).1 r)
theorem RoomI.m {r : A6} (h : RoomI r) : Bk1 r ≤ 1048576 := by
 have hl := h.len
 have hsl := h.sl
 have hgl := h.gl
 have s1 : (r.1.map I0).sum ≤ r.1.length * 1000 := Cm1 I0 1000 r.1 fun e he => (S3 (h.ev e he)).2
 have s2 : (r.2.1.map A49).sum ≤ r.2.1.length * 16 := Cm1 A49 16 r.2.1 fun s hs => by
  obtain ⟨i, hi, rfl⟩ := List.getElem_of_mem hs
  have := h.st i hi
  rw [E8 hi] at this
  exact this
 unfold Bk1 Am3 B54 Cs0
 omega
theorem Eh2 (r : A6) (hm : Bk1 r ≤ 1048576) : Ev (fun k => B46 k r) (Bw2 r) := by
 have hme0 : Am3 r.1 ≤ 1048576 := by unfold Bk1 at hm; omega
 have hl : r.1.length ≤ 1048576 := by unfold Am3 at hme0; omega
 have hme : ∀ i, i < r.1.length → I0 (rd D2 r.1 i) ≤ 1048576 := fun i hi => by
  have : rd D2 r.1 i ∈ r.1 := by rw [E8 hi]; exact List.getElem_mem _
  have := Df8 I0 this
  unfold Am3 at hme0; omega
 unfold Bw2
 refine Re.eq (Re.brd (fun q => Re.ret (by rw [decide_eq_true q]; rfl)) (fun q => ?_))
 rw [decide_eq_false q]
 refine Re.enter (f := fun k n => u6 k n 0 r [] [] []) C6 ?_
 have := Re.loop (ι := Nat) (l := fun k n (st : Nat × A6) => u6 k n (st.1 : Int) r st.2.1 st.2.2.1 st.2.2.2.1) (I := fun st => st.1 ≤ r.1.length ∧ RoomI st.2 ∧ C08 st.2 (r.1.drop st.1) = Ea2 r.1) (fun st => r.1.length - st.1) (Q := fun _ v => v = ((Ea2 r.1).2 && eqd (Ea2 r.1).1 r)) (fun st hi ih => by
  obtain ⟨i, n⟩ := st
  obtain ⟨g1, g2, g3⟩ := hi
  simp only at g1 g2 g3 ih ⊢
  simp only [u6, B45, Int.toNat_natCast]
  refine Re.brd (fun g => ?_) (fun g => ?_)
  ·have hil : i < r.1.length := by omega
   rw [Gd6 (d := D2) hil] at g3
   unfold C08 at g3
   have hmi := hme i hil
   refine Re.gdd (by omega) (Re.gdd g (Re.c2 (Ct0 n g2 _ hmi (Bv4 hmi).2.2) ?_))
   rw [C5 hil (by omega)]
   cases ho : (b9 n (rd D2 r.1 i)).2 with
   | false =>
    refine Re.br (b := true) (fun _ => Re.ret ?_) (fun h => by cases h)
    rw [ho] at g3; rw [← g3]; rfl
   | true =>
    rw [ho] at g3
    exact Re.br (b := false) (fun h => by cases h) (fun _ => ih (i + 1, (b9 n (rd D2 r.1 i)).1) ⟨by omega, Dn0 g2 ho, g3⟩ (by simp only; omega))
  ·have e : r.1.drop i = [] := List.drop_eq_nil_of_le (by omega)
   rw [e] at g3
   refine Re.c2 (Gj3 n r g2.m) (Re.ret ?_)
   rw [← g3]; rfl) (0, ([], [], [], ())) ⟨Nat.zero_le _, Dg1, rfl⟩
 exact this
end Go.Vm
end
section
namespace Go.Vm
open Go
theorem E32 {l : Nat → Nat → Nat → Option Bool} {N : Nat} (c : Nat → Bool) {V : Bool}
  (step : ∀ i, i < N → ∀ v, (c i = true → Re (fun x : Nat × Nat => l x.1 x.2 (i + 1)) (fun r => r = v)) → (c i = false → false = v) → Re (fun x : Nat × Nat => l x.1 (x.2 + 1) i) (fun r => r = v))
  (fin : Re (fun x : Nat × Nat => l x.1 (x.2 + 1) N) (fun r => r = V)) : Re (fun x : Nat × Nat => l x.1 x.2 0) (fun r => r = (Ah3 N c && V)) := by
 have := Re.loop (ι := Nat) (l := l) (I := fun i => i ≤ N ∧ ∀ j, j < i → c j = true) (fun i => N - i) (Q := fun _ r => r = (Ah3 N c && V)) (fun i hi ih => by
  obtain ⟨g1, g2⟩ := hi
  by_cases q : i < N
  ·refine step i q _ (fun h => ih (i + 1) ⟨by omega, fun j hj => ?_⟩ (by omega)) fun h => ?_
   ·by_cases q2 : j < i
    ·exact g2 j q2
    ·have : j = i := by omega
     rw [this]; exact h
   ·have : Ah3 N c = false := by
     cases ha : Ah3 N c with
     | false => rfl
     | true => rw [Ae3.1 ha i q] at h; cases h
    rw [this]; rfl
  ·have e : i = N := by omega
   subst e
   have : Ah3 i c = true := Ae3.2 g2
   rw [this, Bool.true_and]
   exact fin) 0 ⟨Nat.zero_le _, fun j hj => by omega⟩
 exact this
def Gv0 (ss : List D4) (i : Nat) : Bool :=
 X6 (rd A8 ss i).1 1 1000000 && (X6 (rd A8 ss i).2.1 0 1000000 && (!decide ((((rd A8 ss i).2.2.1.size : Nat) : Int) > 40) && (!((rd A8 ss i).2.1 == 0 && !((rd A8 ss i).2.2.1.toList == (⟨#[]⟩ : ByteArray).toList)) && !(decide ((i : Int) > 0) && decide ((rd A8 ss (i - 1)).1 ≥ (rd A8 ss i).1)))))
def E33 (os : List J5) (own : List Int) (i : Nat) : Bool :=
 !((rd H1 os i).1 != ((i + 1 : Nat) : Int)) && (decide ((rd H1 os i).2.2.1 = own) && X6 (rd H1 os i).2.1 0 (own.length : Int))
def B12 (r : A6) : Nat → List Int
 | 0 => []
 | i + 1 => if Int.tmod (rd D2 r.1 i).1 2 = 0 ∧ rd false r.2.2.1 i = true then B12 r i ++ [(rd D2 r.1 i).1] else B12 r i
theorem Bp7 (r : A6) : ∀ i, (B12 r i).length ≤ i
 | 0 => Nat.le_refl _
 | i + 1 => by
  have := Bp7 r i
  unfold B12
  split <;> simp <;> omega
theorem ng2 {a : Int} : (a == a && (2 : Int) == 0) = false := by simp
theorem E34 (r : A6) (h1 : r.1.length ≤ 1048576) (hg : r.2.2.1.length = r.1.length) : Ev (fun k => B48 k r) (B12 r r.1.length) := by
 refine Re.eq (Re.enter (f := fun k n => u7 k n 0 r []) C6 ?_)
 have := Re.loop (ι := Nat) (l := fun k n (i : Nat) => u7 k n (i : Int) r (B12 r i)) (I := fun i => i ≤ r.1.length) (fun i => r.1.length - i) (Q := fun _ v => v = B12 r r.1.length) (fun i hi ih => by
  simp only [u7, B47]
  refine Re.brd (fun g => ?_) (fun g => Re.ret (by rw [show i = r.1.length by omega]))
  have hl : i < r.1.length := by omega
  have hlen := Bp7 r i
  rw [C5 hl (by omega)]
  simp only [Int.toNat_natCast, ng2]
  have next := ih (i + 1) (by omega) (by omega)
  simp only [B12] at next
  refine Re.gdd (by omega) (Re.gdd (by omega) (Re.br (fun q2 => ?_) (fun q2 => ?_)))
  ·refine Re.gdd (by omega) (Re.gdd g (Re.ng rfl ?_))
   refine Re.bre (fun q => ?_) (fun q => by rw [if_neg fun h => q h.1] at next; exact next)
   rw [if_pos ⟨q, q2⟩] at next
   exact Re.gdd (by omega) (Re.gdd (by omega) (Re.gdd (by simp [A3]; omega) next))
  ·rw [if_neg fun h => by rw [q2] at h; cases h.2] at next
   exact next) 0 (Nat.zero_le _)
 exact this
noncomputable def P8 (h : C0) : Bool := !decide ((h.1.length : Int) > 3) && (!((h.2.2.1.length : Int) != 2) && (Bw2 h.2.1 && (Ah3 h.1.length (Gv0 h.1) && (Ah3 h.2.2.1.length (E33 h.2.2.1 (B12 h.2.1 h.2.1.1.length)) && true))))
theorem Cm2 {h : C0} (hm : Bv2 h ≤ 1048576) : Bk1 h.2.1 ≤ 1048576 ∧ h.1.length ≤ 1048576 ∧ h.2.2.1.length ≤ 1048576 ∧ h.2.1.1.length ≤ 1048576 ∧ ∀ i, i < h.2.2.1.length → (rd H1 h.2.2.1 i).2.2.1.length ≤ 1048576 := by
 unfold Bv2 Dl3 Fq6 at hm
 refine ⟨by omega, by omega, by omega, ?_, fun i hi => ?_⟩
 ·unfold Bk1 Am3 at hm; omega
 ·have : rd H1 h.2.2.1 i ∈ h.2.2.1 := by rw [E8 hi]; exact List.getElem_mem _
  have := Df8 D94 this
  have e : D94 (rd H1 h.2.2.1 i) = (rd H1 h.2.2.1 i).2.2.1.length + 0 := rfl
  omega
theorem C74 {r : A6} (h : Bw2 r = true) : RoomI r := by
 unfold Bw2 at h
 rw [Bool.and_eq_true, Bool.and_eq_true] at h
 have := Cs4.1 h.2.2
 rw [← this]
 exact C73 r.1 Dg1
theorem Gj4 (h : C0) (hm : Bv2 h ≤ 1048576) (own : List Int) : Re (fun x : Nat × Nat => u9 x.1 x.2 0 h own) (fun r => r = (Ah3 h.2.2.1.length (E33 h.2.2.1 own) && true)) := by
 obtain ⟨m1, m2, m3, m4, m5⟩ := Cm2 hm
 refine E32 (l := fun k n i => u9 k n (i : Int) h own) (E33 h.2.2.1 own) (fun i hi v next no => ?_) ?_
 ·simp only [u9, Bg0, Int.toNat_natCast]
  refine Re.brd (fun g => ?_) (fun g => by omega)
  rw [C5 hi (by omega)]
  unfold E33 at next no
  refine Re.gdd (by omega) (Re.gdd g (Re.br (fun q => Re.ret (no (by rw [q]; rfl))) (fun q => ?_)))
  rw [q] at next no
  refine Re.c2 (E31 _ own (m5 i hi)) ?_
  cases q2 : decide ((rd H1 h.2.2.1 i).2.2.1 = own) with
  | false => rw [q2] at no; exact Re.br (b := true) (fun _ => Re.ret (no rfl)) (fun h => by cases h)
  | true =>
   rw [q2] at next no
   refine Re.br (b := false) (fun h => by cases h) (fun _ => Re.s2 (G8 · _ _ _) ?_)
   exact Re.br (fun q3 => Re.ret (no (by simpa using q3))) (fun q3 => next (by simpa using q3))
 ·simp only [u9, Bg0, Int.lt_irrefl, decide_false, br_false]
  exact Re.ret rfl
theorem Gv1 (h : C0) (hm : Bv2 h ≤ 1048576) (hg : Bw2 h.2.1 = true) : Re (fun x : Nat × Nat => N9 x.1 x.2 0 h) (fun r => r = (Ah3 h.1.length (Gv0 h.1) && (Ah3 h.2.2.1.length (E33 h.2.2.1 (B12 h.2.1 h.2.1.1.length)) && true))) := by
 obtain ⟨m1, m2, m3, m4, m5⟩ := Cm2 hm
 refine E32 (l := fun k n i => N9 k n (i : Int) h) (Gv0 h.1) (fun i hi v next no => ?_) ?_
 ·simp only [N9, Bg1, Int.toNat_natCast]
  refine Re.brd (fun g => ?_) (fun g => by omega)
  rw [C5 hi (by omega)]
  have tail : ((!(decide ((i : Int) > 0) && decide ((rd A8 h.1 (i - 1)).1 ≥ (rd A8 h.1 i).1))) = true → Re (fun x : Nat × Nat => N9 x.1 x.2 ((i + 1 : Nat) : Int) h) (fun r => r = v)) → ((!(decide ((i : Int) > 0) && decide ((rd A8 h.1 (i - 1)).1 ≥ (rd A8 h.1 i).1))) = false → false = v) →
    Re (fun x : Nat × Nat => (br (decide ((i : Int) > 0)) (gd (decide (0 ≤ (B5 ((i : Int) - 1)))) (gd (decide ((B5 ((i : Int) - 1)) < (h.1.length : Int))) (br (decide ((rd A8 h.1 (B5 ((i : Int) - 1)).toNat).1 ≥ (rd A8 h.1 i).1)) (some false) (N9 x.1 x.2 ((i + 1 : Nat) : Int) h)))) (N9 x.1 x.2 ((i + 1 : Nat) : Int) h))) (fun r => r = v) := fun next no => by
   refine Re.brd (fun q => ?_) (fun q => next (by rw [decide_eq_false q]; rfl))
   have e : B5 ((i : Int) - 1) = ((i - 1 : Nat) : Int) := by rw [D8 (by omega) (by omega)]; omega
   rw [e]
   simp only [Int.toNat_natCast]
   rw [decide_eq_true q, Bool.true_and] at next no
   refine Re.gdd (by omega) (Re.gdd (by omega) (Re.brd (fun q2 => Re.ret (no (by rw [decide_eq_true q2]; rfl))) (fun q2 => next (by rw [decide_eq_false q2]; rfl))))
  unfold Gv0 at next no
  refine Re.gdd (by omega) (Re.gdd g (Re.s2 (G8 · _ _ _) ?_))
  cases ha : X6 (rd A8 h.1 i).1 1 1000000 with
  | false => rw [ha] at no; exact Re.br (b := true) (fun _ => Re.ret (no rfl)) (fun h => by cases h)
  | true =>
   rw [ha] at next no
   refine Re.br (b := false) (fun h => by cases h) (fun _ => Re.s2 (G8 · _ _ _) ?_)
   cases hb : X6 (rd A8 h.1 i).2.1 0 1000000 with
   | false => rw [hb] at no; exact Re.br (b := true) (fun _ => Re.ret (no rfl)) (fun h => by cases h)
   | true =>
    rw [hb] at next no
    refine Re.br (b := false) (fun h => by cases h) (fun _ => ?_)
    refine Re.brd (fun q => Re.ret (no (by rw [decide_eq_true q]; rfl))) (fun q => ?_)
    rw [decide_eq_false q] at next no
    refine Re.br (fun q1 => ?_) (fun q1 => ?_)
    ·rw [q1] at next no
     refine Re.br (fun q2 => Re.ret (no (by rw [q2]; rfl))) (fun q2 => ?_)
     rw [q2] at next no
     exact tail (fun z => next (by rw [z]; rfl)) (fun z => no (by rw [z]; rfl))
    ·rw [q1] at next no
     exact tail (fun z => next (by rw [z]; rfl)) (fun z => no (by rw [z]; rfl))
 ·simp only [N9, Bg1, Int.lt_irrefl, decide_false, br_false]
  exact Re.c2 (E34 h.2.1 m4 (C74 hg).gl) (Gj4 h hm _)
theorem Bw3 (h : C0) (hm : Bv2 h ≤ 1048576) : Ev (fun k => Al6 k h) (P8 h) := by
 obtain ⟨m1, m2, m3, m4, m5⟩ := Cm2 hm
 unfold P8
 refine Re.eq (Re.brd (fun q => Re.ret (by rw [decide_eq_true q]; rfl)) (fun q => ?_))
 rw [decide_eq_false q]
 refine Re.br (fun q2 => Re.ret (by rw [q2]; rfl)) (fun q2 => Re.c1 (Eh2 h.2.1 m1) ?_)
 rw [q2]
 cases hr : Bw2 h.2.1 with
 | false => exact Re.br (b := true) (fun _ => Re.ret rfl) (fun h => by cases h)
 | true =>
  refine Re.br (b := false) (fun h => by cases h) (fun _ => ?_)
  exact Re.enter (f := fun k n => N9 k n 0 h) C6 (Gv1 h hm hr)
end Go.Vm
end
section
namespace Go.Vm
open Go
theorem Gj5 (l : List Int) (hl : l.length ≤ 1000) (h : ∀ n ∈ l, 0 ≤ n ∧ n ≤ 1000000000) : Ev (fun k => Cz8 k l) (Ce1 l, true) := by
 have each : ∀ i (hi : i < l.length), Ev (fun k => U4 k l[i]) (G9 l[i], true) := fun i hi => by
  obtain ⟨h1, h2⟩ := h _ (List.getElem_mem hi)
  rw [← Eg3 h1 h2]
  exact Bv5 _
 have sz : ∀ i, i ≤ l.length → ((l.take i).flatMap fun n => D3 (G9 n)).length ≤ 5 * i := fun i hi => by
  have := Cz7 (l := l.take i) (fun n hn => (h n (List.mem_of_mem_take hn)).2)
  unfold Ce1 at this
  rw [H5] at this
  simp at this ⊢
  omega
 have loop := Gu0 (l := fun k m i => At5 k m l (i : Int) ((l.take i).flatMap fun n => D3 (G9 n))) (N := l.length) (r := (Ce1 l, true)) (fun i hi => by
  obtain ⟨K, hK⟩ := each i hi
  refine ⟨K, fun k hk m => ?_⟩
  have e := C5 hi (by omega)
  have h1 := hK k hk
  have h2 := sz i (by omega)
  have h3 := G3 (h _ (List.getElem_mem hi)).2
  simp only [At5, Cd2, hi, Int.ofNat_lt, Int.natCast_nonneg, decide_true, br_true, gd_true, Int.toNat_natCast, E8 hi, e, h1, bd_some, Bool.not_true, br_false]
  rw [A89 (by unfold A3; rw [D5]; omega), List.take_succ_eq_append_getElem hi, List.flatMap_append]
  simp) ⟨0, fun k _ m => by simp [At5, Cd2, Ce1]⟩ 0 (Nat.zero_le _)
 obtain ⟨K, hK⟩ := loop
 exact ⟨K, fun k hk => by simpa [Cz8, Dl0] using hK k hk k hk⟩
theorem B68 (t : ByteArray) (h : t.size ≤ 20000) : Ev (fun k => w7 k t) (J8 t, true) := by
 unfold w7
 have h1 : ¬ ((t.size : Int) > 20000) := by omega
 simp only [decide_eq_false h1, br_false]
 have h2 := Bv5 (t.size : Int)
 rw [Eg3 (by omega) (by omega)] at h2
 refine h2.bd (.of fun k => ?_)
 have := G3 (n := (t.size : Int)) (by omega)
 simp only
 rw [A89 (by unfold A3; omega)]
 rfl
theorem Gv2 (a b : Int) : Ce1 [a, b] = G9 a ++ G9 b := by
 unfold Ce1
 simp only [List.flatMap_cons, List.flatMap_nil, List.append_nil, Ab6, O1]
end Go.Vm
end
section
namespace Go.Vm
open Go
def Ce4 (a : ByteArray) (f : Nat → ByteArray) : Nat → ByteArray
 | 0 => a
 | i + 1 => Ce4 a f i ++ f i
theorem At9 (a : ByteArray) (f : Nat → ByteArray) (c : Nat) : ∀ n, (∀ i, i < n → (f i).size ≤ c) → (Ce4 a f n).size ≤ a.size + n * c
 | 0, _ => by simp [Ce4]
 | n + 1, h => by
  have h1 := At9 a f c n fun i hi => h i (by omega)
  have h2 := h n (by omega)
  show (Ce4 a f n ++ f n).size ≤ _
  rw [F8, Nat.succ_mul]
  omega
theorem Ct5 (a b : ByteArray) : D3 (a ++ b) = D3 a ++ D3 b := by simp [D3]
def Eh3 (h : C0) (i : Nat) : ByteArray := (G9 (rd A8 h.1 i).1 ++ G9 (rd A8 h.1 i).2.1) ++ J8 (rd A8 h.1 i).2.2.1
def evT (h : C0) (i : Nat) : ByteArray := J8 (Dl6 (rd D2 h.2.1.1 i))
def Fs0 (h : C0) (i : Nat) : ByteArray := G9 (rd H1 h.2.2.1 i).2.1
def Ct6 (h : C0) : ByteArray := Ce4 (G9 (h.1.length : Int)) (Eh3 h) h.1.length
def C75 (h : C0) : ByteArray := Ce4 (Ct6 h ++ G9 (h.2.1.1.length : Int)) (evT h) h.2.1.1.length
def Ax4 (h : C0) : ByteArray := Ce4 (C75 h) (Fs0 h) h.2.2.1.length
noncomputable def Gv3 (h : C0) : ByteArray × Bool := bif P8 h then (bif decide (((Ax4 h).size : Int) > 20000) then (⟨#[]⟩, false) else (Ax4 h, true)) else (⟨#[]⟩, false)
structure HallF (h : C0) : Prop where
 nS : h.1.length ≤ 3
 ses : ∀ i, i < h.1.length → (1 ≤ (rd A8 h.1 i).1 ∧ (rd A8 h.1 i).1 ≤ 1000000) ∧ (0 ≤ (rd A8 h.1 i).2.1 ∧ (rd A8 h.1 i).2.1 ≤ 1000000) ∧ (rd A8 h.1 i).2.2.1.size ≤ 40
 rI : RoomI h.2.1
 nO : h.2.2.1.length ≤ 2
 ack : ∀ i, i < h.2.2.1.length → 0 ≤ (rd H1 h.2.2.1 i).2.1 ∧ (rd H1 h.2.2.1 i).2.1 ≤ 40
theorem Am7 {h : C0} (hk : P8 h = true) : HallF h := by
 unfold P8 at hk
 simp only [Bool.and_eq_true, Bool.not_eq_true', decide_eq_false_iff_not, Bool.and_true] at hk
 obtain ⟨h1, h2, h3, h4, h5⟩ := hk
 have hI := C74 h3
 have hlen := hI.len
 have hfl := Bp7 h.2.1 h.2.1.1.length
 refine ⟨by omega, fun i hi => ?_, hI, ?_, fun i hi => ?_⟩
 ·have := Ae3.1 h4 i hi
  unfold Gv0 at this
  simp only [Bool.and_eq_true] at this
  obtain ⟨g1, g2, g3, _⟩ := this
  refine ⟨G2.1 g1, G2.1 g2, ?_⟩
  have : ¬ (((rd A8 h.1 i).2.2.1.size : Nat) : Int) > 40 := by simpa using g3
  omega
 ·have : (h.2.2.1.length : Int) = 2 := by simpa using h2
  omega
 ·have := Ae3.1 h5 i hi
  unfold E33 at this
  simp only [Bool.and_eq_true] at this
  have := G2.1 this.2.2
  omega
theorem RoomI.evOk {r : A6} (h : RoomI r) {i : Nat} (hi : i < r.1.length) : N4 (rd D2 r.1 i) = true := h.ev _ (by rw [E8 hi]; exact List.getElem_mem _)
theorem HallF.sizes {h : C0} (hf : HallF h) : (∀ i, i < h.1.length → (Eh3 h i).size ≤ 60) ∧ (∀ i, i < h.2.1.1.length → (evT h i).size ≤ 1010) ∧ (∀ i, i < h.2.2.1.length → (Fs0 h i).size ≤ 5) ∧
  (∀ i, i ≤ h.1.length → (Ce4 (G9 (h.1.length : Int)) (Eh3 h) i).size ≤ 200) ∧ (∀ i, i ≤ h.2.1.1.length → (Ce4 (Ct6 h ++ G9 (h.2.1.1.length : Int)) (evT h) i).size ≤ 50000) ∧ (∀ i, i ≤ h.2.2.1.length → (Ce4 (C75 h) (Fs0 h) i).size ≤ 60000) := by
 have hl := hf.rI.len
 have hnS := hf.nS
 have hnO := hf.nO
 have s1 : ∀ i, i < h.1.length → (Eh3 h i).size ≤ 60 := fun i hi => by
  obtain ⟨a, b, c⟩ := hf.ses i hi
  have h1 := G3 (n := (rd A8 h.1 i).1) (by omega)
  have h2 := G3 (n := (rd A8 h.1 i).2.1) (by omega)
  have h3 := G3 (n := ((rd A8 h.1 i).2.2.1.size : Int)) (by omega)
  unfold Eh3 J8
  simp only [F8]
  omega
 have s2 : ∀ i, i < h.2.1.1.length → (evT h i).size ≤ 1010 := fun i hi => by
  have h1 := D96 (hf.rI.evOk hi)
  have h3 := G3 (n := ((Dl6 (rd D2 h.2.1.1 i)).size : Int)) (by omega)
  unfold evT J8
  simp only [F8]
  omega
 have s3 : ∀ i, i < h.2.2.1.length → (Fs0 h i).size ≤ 5 := fun i hi => by
  have := hf.ack i hi
  exact G3 (by omega)
 have z1 := G3 (n := (h.1.length : Int)) (by omega)
 have z2 := G3 (n := (h.2.1.1.length : Int)) (by omega)
 have s4 : ∀ i, i ≤ h.1.length → (Ce4 (G9 (h.1.length : Int)) (Eh3 h) i).size ≤ 200 := fun i hi => by
  have := At9 (G9 (h.1.length : Int)) (Eh3 h) 60 i fun j hj => s1 j (by omega)
  omega
 have s5 : ∀ i, i ≤ h.2.1.1.length → (Ce4 (Ct6 h ++ G9 (h.2.1.1.length : Int)) (evT h) i).size ≤ 50000 := fun i hi => by
  have h1 := At9 (Ct6 h ++ G9 (h.2.1.1.length : Int)) (evT h) 1010 i fun j hj => s2 j (by omega)
  have h2 := s4 h.1.length (Nat.le_refl _)
  have h3 : (Ct6 h).size ≤ 200 := h2
  rw [F8] at h1
  omega
 refine ⟨s1, s2, s3, s4, s5, fun i hi => ?_⟩
 have h1 := At9 (C75 h) (Fs0 h) 5 i fun j hj => s3 j (by omega)
 have h2 : (C75 h).size ≤ 50000 := s5 h.2.1.1.length (Nat.le_refl _)
 omega
theorem Dx4 (h : C0) (hm : Bv2 h ≤ 1048576) : Ev (fun k => Ah8 k h) (Gv3 h) := by
 refine Re.eq (Re.c1 (Bw3 h hm) ?_)
 unfold Gv3
 cases hk : P8 h with
 | false => exact Re.br (b := true) (fun _ => Re.ret rfl) (fun h => by cases h)
 | true =>
  have hf := Am7 hk
  obtain ⟨s1, s2, s3, s4, s5, s6⟩ := hf.sizes
  have hl := hf.rI.len
  have hnS := hf.nS
  have hnO := hf.nO
  have z1 := G3 (n := (h.2.1.1.length : Int)) (by omega)
  refine Re.br (b := false) (fun h => by cases h) (fun _ => Re.c1 (L5 _ (by omega) (by omega)) ?_)
  have three : Re (fun x : Nat × Nat => n9 x.1 x.2 0 h (D3 (C75 h))) (fun r => r = (bif decide (((Ax4 h).size : Int) > 20000) then (⟨#[]⟩, false) else (Ax4 h, true))) := by
   have := Re.loop (ι := Nat) (l := fun k n (i : Nat) => n9 k n (i : Int) h (D3 (Ce4 (C75 h) (Fs0 h) i))) (I := fun i => i ≤ h.2.2.1.length) (fun i => h.2.2.1.length - i) (Q := fun _ r => r = (bif decide (((Ax4 h).size : Int) > 20000) then (⟨#[]⟩, false) else (Ax4 h, true))) (fun i hi ih => by
    simp only [n9, Bj1, Int.toNat_natCast]
    refine Re.brd (fun g => ?_) (fun g => ?_)
    ·have hil : i < h.2.2.1.length := by omega
     have ha := hf.ack i hil
     have g1 := s6 i hi
     have g2 : (G9 (rd H1 h.2.2.1 i).2.1).size ≤ 5 := s3 i hil
     rw [C5 hil (by omega)]
     refine Re.gdd (by omega) (Re.gdd g (Re.c2 (L5 _ (by omega) (by omega)) (Re.gdd (by rw [D5, D5]; unfold A3; omega) ?_)))
     rw [← Ct5]
     exact ih (i + 1) (by omega) (by omega)
    ·have e : i = h.2.2.1.length := by omega
     rw [e]
     show Re (fun _ : Nat × Nat => br (decide (((D3 (Ax4 h)).length : Int) > 20000)) _ (some (B6 (D3 (Ax4 h)), true))) _
     rw [D5, O1]
     refine Re.br (fun q => Re.ret (by rw [q]; rfl)) (fun q => Re.ret (by rw [q]; rfl))) 0 (Nat.zero_le _)
   exact this
  have two : Re (fun x : Nat × Nat => o0 x.1 x.2 0 h (D3 (Ct6 h ++ G9 (h.2.1.1.length : Int)))) (fun r => r = (bif decide (((Ax4 h).size : Int) > 20000) then (⟨#[]⟩, false) else (Ax4 h, true))) := by
   have := Re.loop (ι := Nat) (l := fun k n (i : Nat) => o0 k n (i : Int) h (D3 (Ce4 (Ct6 h ++ G9 (h.2.1.1.length : Int)) (evT h) i))) (I := fun i => i ≤ h.2.1.1.length) (fun i => h.2.1.1.length - i) (Q := fun _ r => r = (bif decide (((Ax4 h).size : Int) > 20000) then (⟨#[]⟩, false) else (Ax4 h, true))) (fun i hi ih => by
    simp only [o0, Bj2, Int.toNat_natCast]
    refine Re.brd (fun g => ?_) (fun g => ?_)
    ·have hil : i < h.2.1.1.length := by omega
     have ho := hf.rI.evOk hil
     have hme := hf.rI.mE hil
     have g1 := s5 i hi
     have g2 := s2 i hil
     have g3 := D96 ho
     have hT := Dl7 (rd D2 h.2.1.1 i) (by omega)
     rw [ho] at hT
     rw [C5 hil (by omega)]
     refine Re.gdd (by omega) (Re.gdd g (Re.c2 hT (Re.c2 (Ae5 _ (by show (Dl6 _).size ≤ _; omega)) (Re.gdd (by show (D3 (Ce4 _ _ i)).length + (D3 (evT h i)).length ≤ _; rw [D5, D5]; unfold A3; omega) ?_))))
     rw [← Ct5]
     exact ih (i + 1) (by omega) (by omega)
    ·have e : i = h.2.1.1.length := by omega
     rw [e]; exact three) 0 (Nat.zero_le _)
   exact this
  refine Re.enter (f := fun k n => W8 k n 0 h (D3 (G9 (h.1.length : Int)))) C6 ?_
  have := Re.loop (ι := Nat) (l := fun k n (i : Nat) => W8 k n (i : Int) h (D3 (Ce4 (G9 (h.1.length : Int)) (Eh3 h) i))) (I := fun i => i ≤ h.1.length) (fun i => h.1.length - i) (Q := fun _ r => r = (bif decide (((Ax4 h).size : Int) > 20000) then (⟨#[]⟩, false) else (Ax4 h, true))) (fun i hi ih => by
   simp only [W8, Bj3, Int.toNat_natCast]
   refine Re.brd (fun g => ?_) (fun g => ?_)
   ·have hil : i < h.1.length := by omega
    obtain ⟨a, b, c⟩ := hf.ses i hil
    have g1 := s4 i hi
    have g2 : ((G9 (rd A8 h.1 i).1 ++ G9 (rd A8 h.1 i).2.1) ++ J8 (rd A8 h.1 i).2.2.1).size ≤ 60 := s1 i hil
    have g3 := g2
    rw [F8] at g3
    have g4 := g3
    rw [F8] at g4
    rw [C5 hil (by omega)]
    refine Re.gdd (by omega) (Re.gdd g (Re.c2 (L5 _ (by omega) (by omega)) (Re.c2 (L5 _ (by omega) (by omega)) (Re.gdd (by unfold A3; omega) (Re.c2 (Ae5 _ (by omega)) (Re.gdd (by unfold A3; omega) (Re.gdd (by rw [D5, D5]; unfold A3; omega) ?_)))))))
    rw [← Ct5]
    exact ih (i + 1) (by omega) (by omega)
   ·have e : i = h.1.length := by omega
    have g1 := s4 i hi
    rw [e] at g1 ⊢
    refine Re.c2 (L5 _ (by omega) (by omega)) (Re.gdd (by rw [D5, D5]; unfold A3; omega) ?_)
    rw [← Ct5]; exact two) 0 (Nat.zero_le _)
  exact this
end Go.Vm
end
section
namespace Go.Vm
open Go
def E35 (r : A6) (a : List ByteArray) (i : Nat) : List ByteArray := if (rd D2 r.1 i).2.1 = 5 ∧ rd false r.2.2.1 i = true then a ++ [(rd D2 r.1 i).2.2.2.2.2.2.1] else a
def Fs1 (r : A6) : Nat → List ByteArray
 | 0 => []
 | i + 1 => E35 r (Fs1 r i) i
theorem Fs2 (r : A6) : ∀ i, (Fs1 r i).length ≤ i
 | 0 => Nat.le_refl _
 | i + 1 => by
  have := Fs2 r i
  unfold Fs1 E35
  split <;> simp <;> omega
def S5 (es : List A0) (s : List A1) : Nat → List Int
 | 0 => []
 | u + 1 => if J9 es s ((u + 1 : Nat) : Int) = 2 then S5 es s u ++ [((u + 1 : Nat) : Int)] else S5 es s u
theorem Bb3 (es : List A0) (s : List A1) : ∀ n : Nat, (S5 es s n).length ≤ n ∧ ∀ x, x ∈ S5 es s n ↔ (1 ≤ x ∧ x ≤ n) ∧ J9 es s x = 2
 | 0 => ⟨Nat.le_refl _, fun x => by simp [S5]; omega⟩
 | n + 1 => by
  obtain ⟨h1, h2⟩ := Bb3 es s n
  unfold S5
  by_cases q : J9 es s ((n + 1 : Nat) : Int) = 2
  ·rw [if_pos q]
   refine ⟨by simp; omega, fun x => ?_⟩
   rw [List.mem_append, List.mem_singleton, h2]
   constructor
   ·rintro (⟨a, b⟩ | a)
    ·exact ⟨by omega, b⟩
    ·exact ⟨by omega, by rw [a]; exact q⟩
   ·rintro ⟨a, b⟩
    by_cases e : x = ((n + 1 : Nat) : Int)
    ·exact .inr e
    ·exact .inl ⟨by omega, b⟩
  ·rw [if_neg q]
   refine ⟨by omega, fun x => ?_⟩
   rw [h2]
   constructor
   ·rintro ⟨a, b⟩; exact ⟨by omega, b⟩
   ·rintro ⟨a, b⟩
    by_cases e : x = ((n + 1 : Nat) : Int)
    ·rw [e] at b; exact absurd b q
    ·exact ⟨by omega, b⟩
end Go.Vm
end
section
namespace Go.Vm
open Go
theorem Ch6 (r : A6) (h : RoomI r) (e : A0) (hm : I0 e ≤ 1048576) (hp : e.2.2.2.2.2.2.2.1.length ≤ 1000) : Ev (fun k => At3 k r e) (b9 r e) := by
 have hsl := h.sl
 have hgl := h.gl
 refine Re.eq (Re.brn (fun q => absurd (by rw [hsl]) q) (fun _ => Re.brn (fun q => absurd (by rw [hgl]) q) (fun _ => Re.c1 (E30 r h e hm hp) ?_)))
 have hR : RoomI (b9 r e).1 := by
  cases ho : (b9 r e).2 with
  | true => exact (Cd5 h hp ho).1
  | false =>
   have : (b9 r e).1 = ([], [], [], ()) := by
    unfold b9 at ho ⊢
    cases hq : (M3 r e.2.2.2.2.2.2.2.1).2 && (N4 e && (decide (Be6 r.1 e.1 < 0) && (decide (e.2.2.2.2.2.2.2.2.1 = Y3 r.1 e.2.2.2.2.2.2.2.1) && decide (r.1.length < 40)))) with
    | true => rw [hq] at ho; cases ho
    | false => rfl
   rw [this]; exact Dg1
 exact Re.c1 (Ct2 _ hR) (Re.ret rfl)
end Go.Vm
end
section
namespace Go.Vm
open Go
def Ae7 (es : List A0) : List Int := (z7 es).drop ((z7 es).length - 3)
theorem Bw4 (es : List A0) : (Ae7 es).length ≤ 3 := by
 unfold Ae7
 rw [List.length_drop]
 omega
theorem Gv4 (es : List A0) : (z7 es).length ≤ es.length := by
 have := z8 es es []
 simpa [z7] using this
def Gv5 (r : A6) (id : Int) (e : A0) (prev : List Int) : A0 := (id, e.2.1, e.2.2.1, e.2.2.2.1, e.2.2.2.2.1, e.2.2.2.2.2.1, e.2.2.2.2.2.2.1, prev, Y3 r.1 prev, ())
def A16 (r : A6) (idx : Int) (e : A0) : A0 := Gv5 r (bif X6 idx 0 1000000 then B5 (2 * idx) else 0) e (if e.2.1 = 1 then [] else Ae7 r.1)
theorem Ea3 (r : A6) (h : RoomI r) (id : Int) (e : A0) : Re (fun k : Nat => br (e.2.1 != 1) (bd (Al8 k r) fun r3 => (br (decide ((B5 ((r3.length : Int) - 3)) < 0)) (gd (decide (0 ≤ (r3.length : Int))) (gd (decide (([] : List Int).length + (r3.drop 0).length ≤ A3)) (bd (J0 k r (([] : List Int) ++ (r3.drop 0))) fun r4 => (some (id, e.2.1, e.2.2.1, e.2.2.2.1, e.2.2.2.2.1, e.2.2.2.2.2.1, e.2.2.2.2.2.2.1, (([] : List Int) ++ (r3.drop 0)), r4, ()))))) (gd (decide (0 ≤ (B5 ((r3.length : Int) - 3)))) (gd (decide ((B5 ((r3.length : Int) - 3)) ≤ (r3.length : Int))) (gd (decide (([] : List Int).length + (r3.drop (B5 ((r3.length : Int) - 3)).toNat).length ≤ A3)) (bd (J0 k r (([] : List Int) ++ (r3.drop (B5 ((r3.length : Int) - 3)).toNat))) fun r5 => (some (id, e.2.1, e.2.2.1, e.2.2.2.1, e.2.2.2.2.1, e.2.2.2.2.2.1, e.2.2.2.2.2.2.1, (([] : List Int) ++ (r3.drop (B5 ((r3.length : Int) - 3)).toNat)), r5, ())))))))) (bd (J0 k r []) fun r6 => (some (id, e.2.1, e.2.2.1, e.2.2.2.1, e.2.2.2.2.1, e.2.2.2.2.2.1, e.2.2.2.2.2.2.1, [], r6, ()))))
  (fun v => v = Gv5 r id e (if e.2.1 = 1 then [] else Ae7 r.1)) := by
 have hl := h.len
 have he := Gv4 r.1
 have hp := B57 r h.prevS
 have hl' : r.1.length ≤ 1048576 := by omega
 refine Re.br (fun q => ?_) (fun q => ?_)
 ·have hn : e.2.1 ≠ 1 := by simpa using q
  rw [if_neg hn]
  refine Re.c1 hp ?_
  have hw : B5 (((z7 r.1).length : Int) - 3) = ((z7 r.1).length : Int) - 3 := D8 (by omega) (by omega)
  rw [hw]
  have e1 : ([] : List Int) ++ (z7 r.1).drop (((z7 r.1).length : Int) - 3).toNat = Ae7 r.1 := by
   unfold Ae7
   rw [List.nil_append, show (((z7 r.1).length : Int) - 3).toNat = (z7 r.1).length - 3 by omega]
  refine Re.brd (fun g => ?_) (fun g => ?_)
  ·have e0 : ([] : List Int) ++ (z7 r.1).drop 0 = Ae7 r.1 := by
    unfold Ae7
    rw [List.nil_append, show (z7 r.1).length - 3 = 0 by omega]
   rw [e0]
   refine Re.gdd (by omega) (Re.gdd (by simp; unfold A3; omega) (Re.c1 (Ad0 r hl' _ (by have := Bw4 r.1; omega)) (Re.ret rfl)))
  ·rw [e1]
   refine Re.gdd (by omega) (Re.gdd (by omega) (Re.gdd (by simp; unfold A3; omega) (Re.c1 (Ad0 r hl' _ (by have := Bw4 r.1; omega)) (Re.ret rfl))))
 ·have hn : e.2.1 = 1 := by simpa using q
  rw [if_pos hn]
  exact Re.c1 (Ad0 r hl' [] (by simp)) (Re.ret rfl)
theorem Fs3 (r : A6) (h : RoomI r) (idx : Int) (e : A0) (g1 : e.2.2.2.2.2.1.length ≤ 1048576) (g2 : e.2.2.2.2.2.2.2.1.length ≤ 1048576) : Ev (fun k => Cr2 k r idx e) (A16 r idx e) := by
 refine Re.eq (Re.s1 (Ct1 · e g1 g2) (Re.s1 (G8 · _ _ _) ?_))
 unfold A16
 cases X6 idx 0 1000000 with
 | true => exact Re.br (b := true) (fun _ => Ea3 r h _ e) (fun h => by cases h)
 | false => exact Re.br (b := false) (fun h => by cases h) (fun _ => Ea3 r h _ e)
end Go.Vm
end
section
namespace Go.Vm
open Go
theorem Hh0 (s : ByteArray) : (⟨#[]⟩ : ByteArray) ++ s = s := by apply A11; simp
theorem Gd7 : ∀ (k m : Nat), m < 10 ^ (k + 1) → (Lib.decDigits m).length ≤ k + 1
 | 0, m, h => by rw [Lib.decDigits, dif_pos (by simpa using h)]; exact Nat.le_refl 1
 | k + 1, m, h => by
  rw [Lib.decDigits]
  split
  ·simp
  ·have : m / 10 < 10 ^ (k + 1) := by rw [Nat.div_lt_iff_lt_mul (by decide)]; rwa [Nat.pow_succ] at h
   have := Gd7 k (m / 10) this
   simp; omega
theorem Bp8 {m : Nat} (h : m < 10000000000) : (U0 m).size ≤ 10 := by
 have := Gd7 9 m (by simpa using h)
 simpa [U0, ByteArray.size] using this
def E36 (m : Nat) : ByteArray := if m = 0 then ⟨#[]⟩ else U0 m
theorem Gj6 {m : Nat} (h : m ≠ 0) : E36 m = E36 (m / 10) ++ ⟨#[UInt8.ofNat (48 + m % 10)]⟩ := by
 unfold E36 U0
 rw [if_neg h]
 by_cases q : m < 10
 ·rw [if_pos (by omega), Lib.decDigits, dif_pos q, Nat.mod_eq_of_lt q]
  apply A11; simp
 ·rw [if_neg (by omega), Lib.decDigits, dif_neg q]
  apply A11; simp
theorem Hd3 {d : Nat} (h : d < 10) (k : Nat) : w5 k (d : Int) = some ((48 + d : Nat) : Int) := by
 unfold w5
 have h1 : ((d : Nat) : Int) < 10 := by omega
 rw [decide_eq_true h1]
 have e : B5 (48 + (d : Int)) = 48 + d := D8 (by omega) (by omega)
 have e2 : IntKind.wrap .u8 (48 + (d : Int)) = 48 + d := E11 (by omega) (by omega)
 show some (IntKind.wrap .u8 (B5 (48 + (d : Int)))) = _
 rw [e, e2]
 rfl
theorem E37 (m : Nat) (h : m < 10000000000) : Ev (fun k => Z1 k (m : Int)) (U0 m) := by
 refine Re.eq (Re.bre (fun q => Re.ret ?_) (fun q => ?_))
 ·have : m = 0 := by omega
  subst this
  unfold U0
  rw [Lib.decDigits, dif_pos (by decide)]
  rfl
 ·rw [show decide ((m : Int) < 0) = false from decide_eq_false (by omega)]
  refine Re.enter (f := fun k n => i7 k n (m : Int) false (⟨#[]⟩ : ByteArray)) C6 ?_
  have hd : E36 m = U0 m := by unfold E36; rw [if_neg (by omega)]
  have hs : (E36 m).size ≤ 10 := by rw [hd]; exact Bp8 h
  have := Re.loop (ι := Nat) (l := fun k n (s : Nat × ByteArray) => i7 k n (s.1 : Int) false s.2) (I := fun s => s.1 < 10000000000 ∧ E36 s.1 ++ s.2 = E36 m) (fun s => s.1) (Q := fun _ v => v = U0 m) (fun s hi ih => by
   obtain ⟨p, v⟩ := s
   obtain ⟨h1, h2⟩ := hi
   simp only at h1 h2 ih ⊢
   simp only [i7, Bt7]
   have hv : v.size ≤ 10 := by have := congrArg ByteArray.size h2; rw [F8] at this; omega
   refine Re.brn (fun q => ?_) (fun q => ?_)
   ·have hp : p ≠ 0 := by omega
    have em : Int.tmod (p : Int) 10 = ((p % 10 : Nat) : Int) := by rw [Int.tmod_eq_emod_of_nonneg (by omega)]; omega
    have ed : B5 (Int.tdiv (p : Int) 10) = ((p / 10 : Nat) : Int) := by rw [Int.tdiv_eq_ediv_of_nonneg (by omega), D8 (by omega) (by omega)]; omega
    have e10 : ((10 : Int) == 0) = false := rfl
    simp only [em, ed, e10, Bool.and_false]
    refine Re.ng rfl (Re.brd (fun g => by omega) (fun _ => Re.s2 (Hd3 (show p % 10 < 10 by omega) ·) (Re.gdd (by rw [H5]; simp [A3]; omega) (Re.ng rfl ?_))))
    refine ih (p / 10, _) ⟨by simp only; omega, ?_⟩ (by simp only; omega)
    rw [← h2, Gj6 hp, ByteArray.append_assoc]
    rfl
   ·have hp : p = 0 := by omega
    subst hp
    refine Re.br (b := false) (fun h => by cases h) (fun _ => Re.ret ?_)
    rw [← hd, ← h2]
    show v = (⟨#[]⟩ : ByteArray) ++ v
    rw [Hh0]) (m, ⟨#[]⟩) ⟨h, Hd1 _⟩
  exact this
theorem Gd8 (n : Int) (h : 0 ≤ n ∧ n ≤ 9000000000) : Ev (fun k => Z1 k n) (U0 n.toNat) := by
 obtain ⟨m, rfl⟩ : ∃ m : Nat, n = m := ⟨n.toNat, (Int.toNat_of_nonneg h.1).symm⟩
 exact E37 m (by omega)
theorem Ct7 {n : Int} (h : 0 ≤ n ∧ n ≤ 9000000000) : (U0 n.toNat).size ≤ 10 := Bp8 (by omega)
abbrev Ea4 : ByteArray := ⟨#[111, 112, 101, 110, 32]⟩
abbrev Ct8 : ByteArray := ⟨#[110, 111, 110, 101]⟩
abbrev Hh1 : ByteArray := ⟨#[103, 97, 112]⟩
abbrev G68 : ByteArray := ⟨#[111, 108, 100]⟩
abbrev Gd9 : ByteArray := ⟨#[114, 111, 111, 109]⟩
abbrev Ge0 : ByteArray := ⟨#[100, 101, 110, 105, 101, 100]⟩
abbrev Ea5 : ByteArray := ⟨#[115, 101, 110, 116, 32]⟩
abbrev Hh2 : ByteArray := ⟨#[103, 111, 116, 32]⟩
abbrev Ha3 : ByteArray := ⟨#[107, 101, 112, 116, 32]⟩
abbrev A17 : ByteArray := ⟨#[97, 99, 107, 101, 100]⟩
def Gv6 : C0 := ([], ([], [], [], ()), [], ())
def Bp9 (r : A6) : Bool := rd false r.2.2.1 (r.2.2.1.length - 1)
def Ct9 (id : Int) (o : J5) : J5 := (o.1, o.2.1, o.2.2.1 ++ [id], ())
def Dx5 (o : J5) (upto : Int) : J5 := (o.1, (if (if upto > o.2.2.1.length then (o.2.2.1.length : Int) else upto) > o.2.1 then (if upto > o.2.2.1.length then (o.2.2.1.length : Int) else upto) else o.2.1), o.2.2)
def inT (us : List Int) (n : Nat) : ByteArray := (us.take n).foldl (fun s u => (s ++ (⟨#[32]⟩ : ByteArray)) ++ U0 u.toNat) (⟨#[105, 110]⟩ : ByteArray)
noncomputable def doL (r : A6) (os : List J5) (idx : Int) (x : D1) : (A6 × List J5) × ByteArray :=
 if x.1 = 2 then (if (b9 r (A16 r idx x.2.2.2.1)).2 = false then ((r, os), Gd9) else if Bp9 (b9 r (A16 r idx x.2.2.2.1)).1 = false then ((r, os), Ge0)
  else (((b9 r (A16 r idx x.2.2.2.1)).1, os.map (Ct9 (A16 r idx x.2.2.2.1).1)), Ea5 ++ U0 (A16 r idx x.2.2.2.1).1.toNat))
 else if x.1 = 3 then (if (b9 r x.2.2.2.1).2 = false then ((r, os), Gd9) else (((b9 r x.2.2.2.1).1, os), (if Bp9 (b9 r x.2.2.2.1).1 = true then Hh2 else Ha3) ++ U0 x.2.2.2.1.1.toNat))
 else if x.1 = 4 then ((r, os.set (x.2.2.2.2.1 - 1).toNat (Dx5 (rd H1 os (x.2.2.2.2.1 - 1).toNat) x.2.2.2.2.2.1)), A17)
 else ((r, os), inT (S5 r.1 (B67 r) 5) (S5 r.1 (B67 r) 5).length)
def C09 (ss : List D4) (i : Nat) (seq : Int) (t : ByteArray) : List D4 := ss.set i ((rd A8 ss i).1, seq, t, ())
noncomputable def Gv7 (h : C0) (i : Nat) (idx : Int) (x : D1) : C0 × ByteArray :=
 if x.2.2.1 > (rd A8 h.1 i).2.1 + 1 then (h, Hh1)
 else if x.2.2.1 < (rd A8 h.1 i).2.1 ∨ x.2.2.1 = 0 then (h, G68)
 else if x.2.2.1 = (rd A8 h.1 i).2.1 then (h, (rd A8 h.1 i).2.2.1)
 else ((C09 h.1 i x.2.2.1 (doL h.2.1 h.2.2.1 idx x).2, (doL h.2.1 h.2.2.1 idx x).1.1, (doL h.2.1 h.2.2.1 idx x).1.2, ()), (doL h.2.1 h.2.2.1 idx x).2)
def Dc4 (ss : List D4) (tok : Int) : Nat := ss.findIdx fun s => s.1 == tok
def Ch7 (ss : List D4) (idx : Int) : List D4 := (if ss.length < 3 then ss else ss.drop 1) ++ [(idx, 0, ByteArray.empty, ())]
noncomputable def C76 (h : C0) (idx : Int) (x : D1) : C0 × ByteArray :=
 if x.1 = 1 then ((Ch7 h.1 idx, h.2.1, h.2.2.1, ()), Ea4 ++ U0 idx.toNat)
 else if Dc4 h.1 x.2.1 < h.1.length then Gv7 h (Dc4 h.1 x.2.1) idx x else (h, Ct8)
noncomputable def Bw5 (q : C0 × ByteArray) : C0 × ByteArray × Bool := bif P8 q.1 then (q.1, q.2, true) else (Gv6, (⟨#[]⟩ : ByteArray), false)
noncomputable def Ax5 (h : C0) (idx : Int) (x : D1) : C0 × ByteArray × Bool :=
 bif P8 h && (Q2 x && X6 idx 1 400000) then Bw5 (C76 h idx x) else (Gv6, (⟨#[]⟩ : ByteArray), false)
theorem RoomI.m2 {r : A6} (h : RoomI r) : Bk1 r ≤ 50000 := by
 have hl := h.len
 have hsl := h.sl
 have hgl := h.gl
 have s1 : (r.1.map I0).sum ≤ r.1.length * 1000 := Cm1 I0 1000 r.1 fun e he => (S3 (h.ev e he)).2
 have s2 : (r.2.1.map A49).sum ≤ r.2.1.length * 16 := Cm1 A49 16 r.2.1 fun s hs => by
  obtain ⟨i, hi, rfl⟩ := List.getElem_of_mem hs
  have := h.st i hi
  rw [E8 hi] at this
  exact this
 unfold Bk1 Am3 B54 Cs0
 omega
structure FewH (ss : List D4) (os : List J5) : Prop where
 nS : ss.length ≤ 10
 ses : ∀ s ∈ ss, s.2.2.1.size ≤ 1000
 nO : os.length ≤ 2
 out : ∀ o ∈ os, o.2.2.1.length ≤ 1000
theorem FewH.m {ss : List D4} {r : A6} {os : List J5} (h : FewH ss os) (hr : RoomI r) : Bv2 (ss, r, os, ()) ≤ 1048576 := by
 obtain ⟨h1, h2, h3, h4⟩ := h
 have s1 : (ss.map Dg0).sum ≤ ss.length * 1000 := Cm1 Dg0 1000 ss fun s hs => by have := h2 s hs; unfold Dg0; omega
 have s2 : (os.map D94).sum ≤ os.length * 1000 := Cm1 D94 1000 os fun o ho => by have := h4 o ho; unfold D94 C00; omega
 have := hr.m2
 unfold Bv2 Dl3 Fq6
 simp only
 omega
theorem Au0 {h : C0} (hk : P8 h = true) : FewH h.1 h.2.2.1 ∧ RoomI h.2.1 := by
  have hf := Am7 hk
  obtain ⟨h1, h2, h3, h4, h5⟩ := hf
  refine ⟨⟨by omega, fun s hs => ?_, h4, fun o ho => ?_⟩, h3⟩
  · obtain ⟨i, hi, rfl⟩ := List.getElem_of_mem hs
    have := (h2 i hi).2.2
    rw [E8 hi] at this
    omega
  · unfold P8 at hk
    simp only [Bool.and_eq_true, Bool.not_eq_true', decide_eq_false_iff_not, Bool.and_true] at hk
    obtain ⟨i, hi, rfl⟩ := List.getElem_of_mem ho
    have := Ae3.1 hk.2.2.2.2 i hi
    unfold E33 at this
    simp only [Bool.and_eq_true] at this
    have h6 := of_decide_eq_true this.2.1
    have h7 := Bp7 h.2.1 h.2.1.1.length
    have := h3.len
    rw [E8 hi] at h6
    rw [h6]; omega
theorem G69 {h : C0} (hk : P8 h = true) : h.2.2.1.length = 2 ∧ ∀ i, i < h.2.2.1.length → (rd H1 h.2.2.1 i).1 = ((i + 1 : Nat) : Int) ∧ (rd H1 h.2.2.1 i).2.2.1 = B12 h.2.1 h.2.1.1.length ∧ 0 ≤ (rd H1 h.2.2.1 i).2.1 ∧ (rd H1 h.2.2.1 i).2.1 ≤ (B12 h.2.1 h.2.1.1.length).length := by
  unfold P8 at hk
  simp only [Bool.and_eq_true, Bool.not_eq_true', decide_eq_false_iff_not, Bool.and_true] at hk
  obtain ⟨h1, h2, h3, h4, h5⟩ := hk
  refine ⟨by have : (h.2.2.1.length : Int) = 2 := by simpa using h2
             omega, fun i hi => ?_⟩
  have := Ae3.1 h5 i hi
  unfold E33 at this
  simp only [Bool.and_eq_true] at this
  obtain ⟨g1, g2, g3⟩ := this
  exact ⟨by simpa using g1, of_decide_eq_true g2, G2.1 g3⟩
theorem Cu0 (h : C0) (hs : FewH h.1 h.2.2.1) (hr : RoomI h.2.1) : Ev (fun k => Aj1 k h) h := by
 obtain ⟨h1, h2, h3, h4⟩ := hs
 refine Re.eq (Re.gdd (by simp only [List.length_nil]; unfold A3; omega) (Re.c1 (Ct2 _ hr) ?_))
 refine Re.enter (f := fun k n => j0 k n 0 h h.2.1 []) C6 ?_
 have := Re.loop (ι := Nat) (l := fun k n (i : Nat) => j0 k n (i : Int) h h.2.1 (h.2.2.1.take i)) (I := fun i => i ≤ h.2.2.1.length) (fun i => h.2.2.1.length - i) (Q := fun _ v => v = h) (fun i hi ih => by
  simp only [j0, Bt9, List.nil_append]
  refine Re.brd (fun g => ?_) (fun g => Re.ret (by rw [List.take_of_length_le (by omega)]))
  have hl : i < h.2.2.1.length := by omega
  have ho := h4 (rd H1 h.2.2.1 i) (by rw [E8 hl]; exact List.getElem_mem _)
  simp only [Int.toNat_natCast]
  refine Re.gdd (by omega) (Re.gdd g (Re.gdd (by simp [A3] <;> omega) (Re.gdd (by simp [A3] <;> omega) ?_)))
  rw [C5 hl (by omega)]
  have next := ih (i + 1) (by omega) (by omega)
  rw [List.take_add_one, List.getElem?_eq_getElem hl] at next
  rw [E8 hl]
  exact next) 0 (Nat.zero_le _)
 exact this
theorem Fs4 (q : C0 × ByteArray) (hs : FewH q.1.1 q.1.2.2.1) (hr : RoomI q.1.2.1) {ι : Type} [Fuel ι] {κ : ι → Nat} (hκ : Dj4 κ) : Re (fun x : ι => bd (Al6 (κ x) q.1) fun r16 => (br (!r16) (some (([], ([], [], [], ()), [], ()), (⟨#[]⟩ : ByteArray), false)) (bd (Aj1 (κ x) q.1) fun r17 => (some (r17, q.2, true))))) (fun v => v = Bw5 q) := by
 refine Re.call hκ (Bw3 q.1 (hs.m hr)) ?_
 unfold Bw5
 cases hk : P8 q.1 with
 | false => exact Re.br (b := true) (fun _ => Re.ret rfl) (fun h => by cases h)
 | true => exact Re.br (b := false) (fun h => by cases h) (fun _ => Re.call hκ (Cu0 q.1 hs hr) (Re.ret rfl))
theorem Eh4 (idx : Int) (x : D1) (ss : List D4) (r : A6) (os : List J5) (t : ByteArray) (hs : FewH ss os) (hr : RoomI r) (v : Int) (hv : (ss.length : Int) ≤ v) :
  Re (fun y : Nat × Nat => H3 y.1 y.2 idx t v x ss r.1 r.2.1 r.2.2.1 os) (fun w => w = Bw5 ((ss, r, os, ()), t)) := by
 have := Re.loop (ι := Nat) (l := fun k n (_ : Unit) => H3 k n idx t v x ss r.1 r.2.1 r.2.2.1 os) (I := fun _ => True) (fun _ => 0) (Q := fun _ w => w = Bw5 ((ss, r, os, ()), t)) (fun _ _ _ => by
  simp only [Bu2, Ac2]
  refine Re.brd (fun h => absurd h (by omega)) (fun _ => ?_)
  exact Fs4 ((ss, r, os, ()), t) hs hr (κ := fun y : Nat × Nat => y.1) (A71 C6)) () trivial
 exact this
theorem Gv8 {α : Type} {d : α} {xs : List α} {i : Nat} (h : i < xs.length) : xs.set i (rd d xs i) = xs := by
 rw [E8 h]
 exact List.set_getElem_self h
theorem Fs5 {ss : List D4} {os : List J5} (h : FewH ss os) {os' : List J5} (h3 : os'.length ≤ 2) (h4 : ∀ o ∈ os', o.2.2.1.length ≤ 1000) {i : Nat} {q : Int} {t : ByteArray} (ht : t.size ≤ 1000) : FewH (C09 ss i q t) os' := by
 refine ⟨by unfold C09; rw [List.length_set]; exact h.nS, fun s hs => ?_, h3, h4⟩
 unfold C09 at hs
 rcases List.mem_or_eq_of_mem_set hs with hs | rfl
 ·exact h.ses s hs
 ·exact ht
section
variable {idx : Int} {x : D1} {ss : List D4} {r : A6} {os : List J5} {i : Nat}
theorem B69 (hs : FewH ss os) {os' : List J5} (h3 : os'.length ≤ 2) (h4 : ∀ o ∈ os', o.2.2.1.length ≤ 1000) {r' : A6} (hr : RoomI r') (hi : i < ss.length) {t : ByteArray} (ht : t.size ≤ 1000) :
  Re (fun y : Nat × Nat => gd (decide (0 ≤ (i : Int))) (gd (decide ((i : Int) < (ss.length : Int))) (H3 y.1 y.2 idx t (B5 ((((ss.set i ((rd A8 ss i).1, x.2.2.1, t, ())).length : Nat) : Int) + 1)) x (ss.set i ((rd A8 ss i).1, x.2.2.1, t, ())) r'.1 r'.2.1 r'.2.2.1 os'))) (fun w => w = Bw5 ((C09 ss i x.2.2.1 t, r', os', ()), t)) := by
 have hn := hs.nS
 refine Re.gdd (by omega) (Re.gdd (by omega) ?_)
 refine Eh4 idx x (C09 ss i x.2.2.1 t) r' os' t (Fs5 hs h3 h4 ht) hr _ ?_
 rw [D8 (by simp; omega) (by simp; omega)]
 unfold C09
 omega
theorem Hh3 (hs : FewH ss os) {q : A6 × Bool} (hr : RoomI q.1) (hi : i < ss.length) {d : A0} (hd : 0 ≤ d.1 ∧ d.1 ≤ 9000000000) (h4 : ∀ o ∈ os, o.2.2.1.length ≤ 900) (v3 : ByteArray) :
  Re (fun y : Nat × Nat => Ac3 y.1 y.2 0 d x ss (i : Int) q os idx v3) (fun w => w = Bw5 ((C09 ss i x.2.2.1 (Ea5 ++ U0 d.1.toNat), q.1, os.map (Ct9 d.1), ()), Ea5 ++ U0 d.1.toNat)) := by
 have hn := hs.nS
 have hno := hs.nO
 have := Re.loop (ι := Nat) (l := fun k n (j : Nat) => Ac3 k n (j : Int) d x ss (i : Int) q ((os.take j).map (Ct9 d.1) ++ os.drop j) idx v3) (I := fun j => j ≤ os.length) (fun j => os.length - j)
  (Q := fun _ w => w = Bw5 ((C09 ss i x.2.2.1 (Ea5 ++ U0 d.1.toNat), q.1, os.map (Ct9 d.1), ()), Ea5 ++ U0 d.1.toNat)) (fun j hj ih => by
  simp only [Ef8, A44, List.nil_append, Int.toNat_natCast]
  have hlen : ((os.take j).map (Ct9 d.1) ++ os.drop j).length = os.length := by simp; omega
  rw [hlen]
  refine Re.brd (fun g => ?_) (fun g => ?_)
  ·have hl : j < os.length := by omega
   have hrd : rd H1 ((os.take j).map (Ct9 d.1) ++ os.drop j) j = rd H1 os j := by
    have e0 : ((os.take j).map (Ct9 d.1)).length = j := by simp; omega
    unfold rd
    rw [List.getD_eq_getElem?_getD, List.getElem?_append_right (by omega), e0, Nat.sub_self, List.getElem?_drop, Nat.add_zero, List.getD_eq_getElem?_getD]
   have ho := h4 (rd H1 os j) (by rw [E8 hl]; exact List.getElem_mem _)
   simp only [hrd]
   refine Re.gdd (by omega) (Re.gdd g (Re.gdd (by simp [A3] <;> omega) (Re.gdd (by simp [A3] <;> omega) (Re.gdd (by omega) (Re.gdd g ?_)))))
   rw [C5 hl (by omega)]
   have next := ih (j + 1) (by omega) (by omega)
   have hset : ((os.take j).map (Ct9 d.1) ++ os.drop j).set j ((rd H1 os j).1, (rd H1 os j).2.1, (rd H1 os j).2.2.1 ++ [d.1], ()) = (os.take (j + 1)).map (Ct9 d.1) ++ os.drop (j + 1) := by
    have e0 : ((os.take j).map (Ct9 d.1)).length = j := by simp; omega
    rw [List.set_append_right _ _ (by omega), e0, Nat.sub_self, Gd6 (d := H1) hl, List.set_cons_zero, List.take_add_one, List.getElem?_eq_getElem hl, List.map_append, List.append_assoc, E8 hl]
    rfl
   rw [hset]
   exact next
  ·have hl : j = os.length := by omega
   subst hl
   have e0 : (os.take os.length).map (Ct9 d.1) ++ os.drop os.length = os.map (Ct9 d.1) := by simp
   rw [e0]
   have hz := Ct7 hd
   refine Re.c2 (Gd8 d.1 hd) (Re.gdd (by show 5 + (U0 d.1.toNat).size ≤ A3; unfold A3; omega) ?_)
   refine B69 (os' := os.map (Ct9 d.1)) hs (by simpa using hno) (fun o ho => ?_) hr hi (t := Ea5 ++ U0 d.1.toNat) (by rw [F8]; show 5 + _ ≤ 1000; omega)
   obtain ⟨o', ho', rfl⟩ := List.mem_map.1 ho
   have := h4 o' ho'
   simp [Ct9]; omega) 0 (Nat.zero_le _)
 exact this
theorem Gv9 {us : List Int} (hu : ∀ u ∈ us, 0 ≤ u ∧ u ≤ 9000000000) : ∀ n, (inT us n).size ≤ 2 + 11 * n := by
 intro n
 induction n with
 | zero => exact Nat.le_refl 2
 | succ n ih =>
  by_cases q : n < us.length
  ·unfold inT at ih ⊢
   rw [List.take_add_one, List.getElem?_eq_getElem q, List.foldl_append]
   have hz := Bp8 (m := us[n].toNat) (by have := hu _ (List.getElem_mem q); omega)
   show (_ ++ (⟨#[32]⟩ : ByteArray) ++ U0 us[n].toNat).size ≤ _
   rw [F8, F8]
   show _ + 1 + _ ≤ _
   omega
  ·unfold inT at ih ⊢
   rw [List.take_of_length_le (by omega)] at ih ⊢
   omega
theorem Hh4 (hs : FewH ss os) (hr : RoomI r) (hi : i < ss.length) {us : List Int} (hu : ∀ u ∈ us, 0 ≤ u ∧ u ≤ 9000000000) (hl : us.length ≤ 5) (v3 : ByteArray) :
  Re (fun y : Nat × Nat => Ac4 y.1 y.2 (⟨#[105, 110]⟩ : ByteArray) 0 us x ss (i : Int) r.1 r.2.1 r.2.2.1 os idx v3) (fun w => w = Bw5 ((C09 ss i x.2.2.1 (inT us us.length), r, os, ()), inT us us.length)) := by
 have hn := hs.nS
 have := Re.loop (ι := Nat) (l := fun k n (j : Nat) => Ac4 k n (inT us j) (j : Int) us x ss (i : Int) r.1 r.2.1 r.2.2.1 os idx v3) (I := fun j => j ≤ us.length) (fun j => us.length - j)
  (Q := fun _ w => w = Bw5 ((C09 ss i x.2.2.1 (inT us us.length), r, os, ()), inT us us.length)) (fun j hj ih => by
  simp only [Ef9, A45, Int.toNat_natCast]
  have hz := Gv9 hu j
  refine Re.brd (fun g => ?_) (fun g => ?_)
  ·have hlj : j < us.length := by omega
   have hb := hu (rd 0 us j) (by rw [E8 hlj]; exact List.getElem_mem _)
   have hzm := Ct7 hb
   refine Re.gdd (by show _ + 1 ≤ A3; unfold A3; omega) (Re.gdd (by omega) (Re.gdd g (Re.c2 (Gd8 _ hb) (Re.gdd (by rw [F8]; show _ + 1 + _ ≤ A3; unfold A3; omega) ?_))))
   rw [C5 hlj (by omega)]
   have next := ih (j + 1) (by omega) (by omega)
   have e : inT us (j + 1) = (inT us j ++ (⟨#[32]⟩ : ByteArray)) ++ U0 (rd 0 us j).toNat := by
    unfold inT
    rw [List.take_add_one, List.getElem?_eq_getElem hlj, List.foldl_append, E8 hlj]
    rfl
   rw [e] at next
   exact next
  ·have : j = us.length := by omega
   subst this
   exact B69 (os' := os) hs hs.nO hs.out hr hi (t := inT us us.length) (by omega)) 0 (Nat.zero_le _)
 exact this
end
end Go.Vm
end
section
namespace Go.Vm
open Go
theorem Eh5 (r : A6) (h : RoomI r) : Ev (fun k => Bo9 k r) (S5 r.1 (B67 r) 5) := by
 have hsl := Dx2 h
 have hlen := h.len
 refine Re.eq (Re.c1 (Eh1 r h) ?_)
 generalize B67 r = s at hsl ⊢
 refine Re.enter (f := fun k n => j1 k n 1 r [] s) C6 ?_
 have := Re.loop (ι := Nat) (l := fun k n (i : Nat) => j1 k n ((i + 1 : Nat) : Int) r (S5 r.1 s i) s) (I := fun i => i ≤ 5) (fun i => 5 - i) (Q := fun _ v => v = S5 r.1 s 5) (fun i hi ih => by
  simp only [j1, Bu0]
  refine Re.brd (fun g => ?_) (fun g => Re.ret (by rw [show i = 5 by omega]))
  have hm := (Bb3 r.1 s i).1
  have next := ih (i + 1) (by omega) (by omega)
  have e2 : B5 (((i + 1 : Nat) : Int) + 1) = ((i + 1 + 1 : Nat) : Int) := by rw [D8 (by omega) (by omega)]; omega
  rw [e2]
  refine Re.c2 (S1 r.1 s ⟨by omega, by omega⟩ _) ?_
  unfold S5 at next
  refine Re.bre (fun q => ?_) (fun q => ?_)
  ·rw [if_pos q] at next
   exact Re.gdd (by simp [A3]; omega) next
  ·rw [if_neg q] at next; exact next) 0 (Nat.zero_le _)
 exact this
theorem Gw0 {x : D1} (h : Q2 x = true) : (0 ≤ x.2.1 ∧ x.2.1 ≤ 1000000) ∧ (0 ≤ x.2.2.1 ∧ x.2.2.1 ≤ 1000000) := by
 unfold Q2 at h
 simp only [Bool.and_eq_true] at h
 exact ⟨G2.1 h.1.1, G2.1 h.1.2⟩
theorem Gw1 {x : D1} (h : Q2 x = true) (h2 : x.1 = 2) : C02 x.2.2.2.1 = true := by
 unfold Q2 at h
 rw [h2] at h
 simp only [Bool.and_eq_true] at h
 have := h.2
 simp only [show ((2 : Int) == 1) = false from rfl, show ((2 : Int) == 2) = true from rfl, cond_false, cond_true, Bool.and_eq_true] at this
 exact this.2
theorem Gw2 {x : D1} (h : Q2 x = true) (h2 : x.1 = 3) : N4 x.2.2.2.1 = true ∧ odd x.2.2.2.1.1 = true := by
 unfold Q2 at h
 rw [h2] at h
 simp only [Bool.and_eq_true] at h
 have := h.2
 simp only [show ((3 : Int) == 1) = false from rfl, show ((3 : Int) == 2) = false from rfl, show ((3 : Int) == 3) = true from rfl, cond_false, cond_true, Bool.and_eq_true] at this
 exact ⟨this.1.2, this.2⟩
theorem Hd5 {x : D1} (h : Q2 x = true) (h2 : x.1 = 4) : (1 ≤ x.2.2.2.2.1 ∧ x.2.2.2.2.1 ≤ 2) ∧ 0 ≤ x.2.2.2.2.2.1 ∧ x.2.2.2.2.2.1 ≤ 1000000 := by
 unfold Q2 at h
 rw [h2] at h
 simp only [Bool.and_eq_true] at h
 have := h.2
 simp only [show ((4 : Int) == 1) = false from rfl, show ((4 : Int) == 2) = false from rfl, show ((4 : Int) == 3) = false from rfl, show ((4 : Int) == 4) = true from rfl, cond_false, cond_true, Bool.and_eq_true] at this
 exact ⟨G2.1 this.1.2, G2.1 this.2⟩
theorem Dn1 {e : A0} (h : C02 e = true) : e.2.2.2.2.2.1.length ≤ 5 ∧ e.2.2.2.2.2.2.1.size ≤ 24 ∧ e.2.2.2.2.2.2.2.1.length ≤ 3 := by
 unfold C02 at h
 simp only [Bool.and_eq_true] at h
 have hb := Bv6 h.2
 have h0 : Ce3 (H7 e) = true := h.1.2
 have h1 : (H7 e).length = 0 := by unfold Ce3 at h0; simpa using h0
 exact ⟨hb.2.2.1, hb.2.2.2.1, by show (H7 e).length ≤ 3; omega⟩
theorem C77 {r : A6} {idx : Int} {e : A0} (h : C02 e = true) : I0 (A16 r idx e) ≤ 1000 ∧ (A16 r idx e).2.2.2.2.2.2.2.1.length ≤ 3 := by
 obtain ⟨h1, h2, _⟩ := Dn1 h
 have hp : (if e.2.1 = 1 then [] else Ae7 r.1).length ≤ 3 := by
  split
  ·simp
  ·exact Bw4 _
 refine ⟨?_, hp⟩
 show e.2.2.2.2.2.1.length + (e.2.2.2.2.2.2.1.size + ((if e.2.1 = 1 then [] else Ae7 r.1).length + 0)) ≤ 1000
 omega
theorem Gw3 {r : A6} {idx : Int} {e : A0} (h : 1 ≤ idx ∧ idx ≤ 400000) : (A16 r idx e).1 = 2 * idx := by
 show (bif X6 idx 0 1000000 then B5 (2 * idx) else 0) = _
 rw [G2.2 ⟨by omega, by omega⟩]
 exact D8 (by omega) (by omega)
theorem Ge1 {r : A6} (h : RoomI r) {e : A0} (hp : e.2.2.2.2.2.2.2.1.length ≤ 1000) (ho : (b9 r e).2 = true) : RoomI (b9 r e).1 ∧ (b9 r e).1.2.2.1.length = r.1.length + 1 := by
 obtain ⟨h1, h2⟩ := Cd5 h hp ho
 refine ⟨h1, ?_⟩
 rw [h1.gl, h2]
 simp
theorem Ea6 {r : A6} {n : Nat} (h : r.2.2.1.length = n + 1) (hn : n ≤ 1000) : rd false r.2.2.1 (B5 ((r.2.2.1.length : Int) - 1)).toNat = Bp9 r ∧ B5 ((r.2.2.1.length : Int) - 1) = (n : Int) := by
 unfold Bp9
 have e : B5 ((r.2.2.1.length : Int) - 1) = (n : Int) := by rw [D8 (by omega) (by omega)]; omega
 rw [e]
 exact ⟨by congr 1; omega, rfl⟩
theorem Gj8 {ss : List D4} {tok : Int} {i : Nat} (hi : i < ss.length) (h : i ≤ Dc4 ss tok) : ((rd A8 ss i).1 = tok → Dc4 ss tok = i) ∧ ((rd A8 ss i).1 ≠ tok → i + 1 ≤ Dc4 ss tok) := by
 unfold Dc4 at h ⊢
 rw [E8 hi]
 refine ⟨fun e => ?_, fun e => ?_⟩
 ·rcases Nat.lt_or_ge i (ss.findIdx fun s => s.1 == tok) with q | q
  ·have := List.not_of_lt_findIdx q
   simp [e] at this
  ·exact Nat.le_antisymm q h
 ·rcases Nat.lt_or_ge i (ss.findIdx fun s => s.1 == tok) with q | q
  ·exact q
  ·have e2 : i = ss.findIdx fun s => s.1 == tok := Nat.le_antisymm h q
   have := List.findIdx_getElem (xs := ss) (p := fun s : D4 => s.1 == tok) (w := by rw [← e2]; exact hi)
   simp only [← e2] at this
   exact absurd (by simpa using this) e
theorem G70 {ss : List D4} {tok : Int} : Dc4 ss tok ≤ ss.length := List.findIdx_le_length
section
variable {h : C0} {idx : Int} {x : D1}
theorem Hh5 (hk : P8 h = true) (hx : Q2 x = true) (h1 : x.1 ≠ 1) (hi : 1 ≤ idx ∧ idx ≤ 400000) :
  Re (fun y : Nat × Nat => H3 y.1 y.2 idx Ct8 0 x h.1 h.2.1.1 h.2.1.2.1 h.2.1.2.2.1 h.2.2.1) (fun w => w = Bw5 (C76 h idx x)) := by
 obtain ⟨hs, hr⟩ := Au0 hk
 have hf := Am7 hk
 have hO := G69 hk
 have hn := hs.nS
 have hseq := Gw0 hx
 have hrl := hr.len
 have hids : ∀ o ∈ h.2.2.1, o.2.2.1.length ≤ 900 := fun o ho => by
  obtain ⟨j, hj, rfl⟩ := List.getElem_of_mem ho
  have := (hO.2 j hj).2.1
  have hl := Bp7 h.2.1 h.2.1.1.length
  rw [E8 hj] at this
  rw [this]; omega
 have hd : C76 h idx x = if Dc4 h.1 x.2.1 < h.1.length then Gv7 h (Dc4 h.1 x.2.1) idx x else (h, Ct8) := by unfold C76; rw [if_neg h1]
 rw [hd]
 have := Re.loop (ι := Nat) (l := fun k n (i : Nat) => H3 k n idx Ct8 (i : Int) x h.1 h.2.1.1 h.2.1.2.1 h.2.1.2.2.1 h.2.2.1) (I := fun i => i ≤ h.1.length ∧ i ≤ Dc4 h.1 x.2.1) (fun i => h.1.length - i)
  (Q := fun _ w => w = Bw5 (if Dc4 h.1 x.2.1 < h.1.length then Gv7 h (Dc4 h.1 x.2.1) idx x else (h, Ct8))) (fun i hi2 ih => by
  obtain ⟨i1, i2⟩ := hi2
  by_cases q : i < h.1.length
  ·obtain ⟨t1, t2⟩ := Gj8 q i2
   simp only [Bu2, Ac2, Int.toNat_natCast]
   have g0 : (0 : Int) ≤ (i : Int) := Int.natCast_nonneg _
   have g1 : (i : Int) < (h.1.length : Int) := Int.ofNat_lt.2 q
   refine Re.brd (fun _ => ?_) (fun g => absurd g1 g)
   refine Re.gdd g0 (Re.gdd g1 (Re.bre (fun e => ?_) (fun e => ?_)))
   ·have et := t1 e
    rw [et, if_pos q]
    have hses := hf.ses i q
    have ew : B5 ((rd A8 h.1 i).2.1 + 1) = (rd A8 h.1 i).2.1 + 1 := D8 (by omega) (by omega)
    have efin : (h.1.length : Int) ≤ B5 ((h.1.length : Int) + 1) := by rw [D8 (by omega) (by omega)]; omega
    simp only [ew]
    unfold Gv7
    refine Re.gdd g0 (Re.gdd g1 (Re.brd (fun a1 => ?_) (fun a1 => ?_)))
    ·rw [if_pos a1]; exact Eh4 idx x h.1 h.2.1 h.2.2.1 Hh1 hs hr _ efin
    rw [if_neg a1]
    have old : Re (fun y : Nat × Nat => H3 y.1 y.2 idx G68 (B5 ((h.1.length : Int) + 1)) x h.1 h.2.1.1 h.2.1.2.1 h.2.1.2.2.1 h.2.2.1) (fun w => w = Bw5 (h, G68)) := Eh4 idx x h.1 h.2.1 h.2.2.1 G68 hs hr _ efin
    refine Re.brd (fun a2 => ?_) (fun a2 => Re.bre (fun a3 => ?_) (fun a3 => ?_))
    ·rw [if_pos (.inl a2)]; exact old
    ·rw [if_pos (.inr a3)]; exact old
    rw [if_neg (fun o => o.elim a2 a3)]
    refine Re.bre (fun a4 => ?_) (fun a4 => ?_)
    ·rw [if_pos a4]; exact Eh4 idx x h.1 h.2.1 h.2.2.1 _ hs hr _ efin
    rw [if_neg a4]
    unfold doL
    refine Re.bre (fun c2 => ?_) (fun c2 => ?_)
    ·rw [if_pos c2]
     have hsent := Gw1 hx c2
     obtain ⟨b1, b2, b3⟩ := Dn1 hsent
     obtain ⟨d1, d2⟩ := C77 (r := h.2.1) (idx := idx) hsent
     have did := Gw3 (r := h.2.1) (e := x.2.2.2.1) hi
     refine Re.c2 (Fs3 h.2.1 hr idx x.2.2.2.1 (by omega) (by omega)) (Re.c2 (Ch6 h.2.1 hr (A16 h.2.1 idx x.2.2.2.1) (by omega) (by omega)) ?_)
     generalize A16 h.2.1 idx x.2.2.2.1 = d at d1 d2 did ⊢
     cases ho : (b9 h.2.1 d).2 with
     | false =>
      rw [if_pos rfl]
      exact Re.br (b := true) (fun _ => B69 (os' := h.2.2.1) hs hs.nO hs.out hr q (t := Gd9) (by decide)) (fun h => by cases h)
     | true =>
      obtain ⟨hR, hlen⟩ := Ge1 hr (by omega) ho
      obtain ⟨l1, l2⟩ := Ea6 hlen (by omega)
      rw [if_neg (by decide)]
      refine Re.br (b := false) (fun h => by cases h) (fun _ => Re.gdd (by rw [l2]; omega) (Re.gdd (by rw [l2]; omega) ?_))
      rw [l1]
      cases hg : Bp9 (b9 h.2.1 d).1 with
      | false =>
       rw [if_pos rfl]
       exact Re.br (b := true) (fun _ => B69 (os' := h.2.2.1) hs hs.nO hs.out hr q (t := Ge0) (by decide)) (fun h => by cases h)
      | true =>
       rw [if_neg (by decide)]
       exact Re.br (b := false) (fun h => by cases h) (fun _ => Hh3 hs (q := b9 h.2.1 d) hR q ⟨by omega, by omega⟩ hids Ct8)
    rw [if_neg c2]
    refine Re.bre (fun c3 => ?_) (fun c3 => ?_)
    ·rw [if_pos c3]
     obtain ⟨hev, -⟩ := Gw2 hx c3
     have hes := S3 hev
     have hef := (Ax3 hev).2.1
     refine Re.c2 (Ch6 h.2.1 hr x.2.2.2.1 (by omega) (by omega)) ?_
     cases ho : (b9 h.2.1 x.2.2.2.1).2 with
     | false =>
      rw [if_pos rfl]
      exact Re.br (b := true) (fun _ => B69 (os' := h.2.2.1) hs hs.nO hs.out hr q (t := Gd9) (by decide)) (fun h => by cases h)
     | true =>
      obtain ⟨hR, hlen⟩ := Ge1 hr (by omega) ho
      obtain ⟨l1, l2⟩ := Ea6 hlen (by omega)
      rw [if_neg (by decide)]
      refine Re.br (b := false) (fun h => by cases h) (fun _ => Re.gdd (by rw [l2]; omega) (Re.gdd (by rw [l2]; omega) ?_))
      rw [l1]
      have hz := Ct7 (n := x.2.2.2.1.1) ⟨by omega, by omega⟩
      have hdec := Gd8 x.2.2.2.1.1 ⟨by omega, by omega⟩
      cases hg : Bp9 (b9 h.2.1 x.2.2.2.1).1 with
      | false =>
       rw [if_neg (by decide)]
       exact Re.br (b := false) (fun h => by cases h) (fun _ => Re.c2 hdec (Re.gdd (by show 5 + _ ≤ A3; unfold A3; omega) (B69 (os' := h.2.2.1) hs hs.nO hs.out hR q (t := Ha3 ++ U0 x.2.2.2.1.1.toNat) (by rw [F8]; show 5 + _ ≤ 1000; omega))))
      | true =>
       rw [if_pos rfl]
       exact Re.br (b := true) (fun _ => Re.c2 hdec (Re.gdd (by show 4 + _ ≤ A3; unfold A3; omega) (B69 (os' := h.2.2.1) hs hs.nO hs.out hR q (t := Hh2 ++ U0 x.2.2.2.1.1.toNat) (by rw [F8]; show 4 + _ ≤ 1000; omega)))) (fun h => by cases h)
    rw [if_neg c3]
    refine Re.bre (fun c4 => ?_) (fun c4 => ?_)
    ·rw [if_pos c4]
     obtain ⟨⟨u1, u2⟩, u3, u4⟩ := Hd5 hx c4
     have ed : B5 (x.2.2.2.2.1 - 1) = x.2.2.2.2.1 - 1 := D8 (by omega) (by omega)
     simp only [ed]
     obtain ⟨j, hj⟩ : ∃ j : Nat, x.2.2.2.2.1 - 1 = j := ⟨(x.2.2.2.2.1 - 1).toNat, (Int.toNat_of_nonneg (by omega)).symm⟩
     simp only [hj, Int.toNat_natCast]
     have hjl : j < h.2.2.1.length := by rw [hO.1]; omega
     have hout : ∀ o : J5, o.2.2 = (rd H1 h.2.2.1 j).2.2 → ∀ o' ∈ h.2.2.1.set j o, o'.2.2.1.length ≤ 1000 := fun o ho o' ho' => by
      rcases List.mem_or_eq_of_mem_set ho' with ho' | rfl
      ·exact hs.out o' ho'
      ·rw [ho]; exact hs.out _ (by rw [E8 hjl]; exact List.getElem_mem _)
     have done : ∀ o : J5, o = Dx5 (rd H1 h.2.2.1 j) x.2.2.2.2.2.1 → Re (fun y : Nat × Nat => gd (decide (0 ≤ (i : Int))) (gd (decide ((i : Int) < (h.1.length : Int))) (H3 y.1 y.2 idx A17 (B5 ((((h.1.set i ((rd A8 h.1 i).1, x.2.2.1, A17, ())).length : Nat) : Int) + 1)) x (h.1.set i ((rd A8 h.1 i).1, x.2.2.1, A17, ())) h.2.1.1 h.2.1.2.1 h.2.1.2.2.1 (h.2.2.1.set j o)))) (fun w => w = Bw5 ((C09 h.1 i x.2.2.1 A17, h.2.1, h.2.2.1.set j (Dx5 (rd H1 h.2.2.1 j) x.2.2.2.2.2.1), ()), A17)) := fun o ho => by
      subst ho
      exact B69 (os' := h.2.2.1.set j (Dx5 (rd H1 h.2.2.1 j) x.2.2.2.2.2.1)) hs (by rw [List.length_set]; exact hs.nO) (hout _ rfl) hr q (t := A17) (by decide)
     have same : Dx5 (rd H1 h.2.2.1 j) x.2.2.2.2.2.1 = rd H1 h.2.2.1 j → Re (fun y : Nat × Nat => gd (decide (0 ≤ (i : Int))) (gd (decide ((i : Int) < (h.1.length : Int))) (H3 y.1 y.2 idx A17 (B5 ((((h.1.set i ((rd A8 h.1 i).1, x.2.2.1, A17, ())).length : Nat) : Int) + 1)) x (h.1.set i ((rd A8 h.1 i).1, x.2.2.1, A17, ())) h.2.1.1 h.2.1.2.1 h.2.1.2.2.1 h.2.2.1))) (fun w => w = Bw5 ((C09 h.1 i x.2.2.1 A17, h.2.1, h.2.2.1.set j (Dx5 (rd H1 h.2.2.1 j) x.2.2.2.2.2.1), ()), A17)) := fun e => by
      have := done _ rfl
      rw [e, Gv8 hjl] at this
      rw [e, Gv8 hjl]
      exact this
     refine Re.gdd (by omega) (Re.gdd (by omega) (Re.brd (fun v1 => Re.brd (fun v2 => done _ ?_) (fun v2 => same ?_)) (fun v1 => Re.brd (fun v2 => done _ ?_) (fun v2 => same ?_))))
     ·unfold Dx5; rw [if_pos v1, if_pos v2]
     ·unfold Dx5; rw [if_pos v1, if_neg v2]
     ·unfold Dx5; rw [if_neg v1, if_pos v2]
     ·unfold Dx5; rw [if_neg v1, if_neg v2]
    rw [if_neg c4]
    have hsp := Bb3 h.2.1.1 (B67 h.2.1) 5
    refine Re.c2 (Eh5 h.2.1 hr) ?_
    exact Hh4 hs hr q (us := S5 h.2.1.1 (B67 h.2.1) 5) (fun u hu => by have := ((hsp.2 u).1 hu).1; omega) hsp.1 Ct8
   ·rw [C5 q (by omega)]
    exact ih (i + 1) ⟨by omega, t2 e⟩ (by omega)
  ·have el : i = h.1.length := by omega
   have := G70 (ss := h.1) (tok := x.2.1)
   rw [if_neg (by omega)]
   simp only [Bu2, Ac2]
   refine Re.brd (fun g => by omega) (fun _ => ?_)
   exact Fs4 (h, Ct8) hs hr (κ := fun y : Nat × Nat => y.1) (A71 C6)) 0 ⟨Nat.zero_le _, Nat.zero_le _⟩
 exact this
theorem E38 {ss : List D4} {os : List J5} (h : FewH ss os) (idx : Int) (hl : ss.length ≤ 3) : FewH (Ch7 ss idx) os := by
 unfold Ch7
 refine ⟨?_, fun s hs => ?_, h.nO, h.out⟩
 ·split <;> simp <;> omega
 ·rw [List.mem_append, List.mem_singleton] at hs
  rcases hs with hs | rfl
  ·split at hs
   ·exact h.ses s hs
   ·exact h.ses s (List.mem_of_mem_drop hs)
  ·show ByteArray.empty.size ≤ 1000
   decide
theorem Hh6 (hk : P8 h = true) (hi : 1 ≤ idx ∧ idx ≤ 400000) :
  Re (fun y : Nat × Nat => R5 y.1 y.2 idx 0 ([] : List D4) h) (fun w => w = Bw5 ((Ch7 h.1 idx, h.2.1, h.2.2.1, ()), Ea4 ++ U0 idx.toNat)) := by
 obtain ⟨hs, hr⟩ := Au0 hk
 have hl3 := (Am7 hk).nS
 have := Re.loop (ι := Nat) (l := fun k n (i : Nat) => R5 k n idx (i : Int) (if h.1.length < 3 then h.1.take i else (h.1.take i).drop 1) h) (I := fun i => i ≤ h.1.length) (fun i => h.1.length - i) (Q := fun _ w => w = Bw5 ((Ch7 h.1 idx, h.2.1, h.2.2.1, ()), Ea4 ++ U0 idx.toNat)) (fun i hi2 ih => by
  simp only [R5, Bu1, Int.toNat_natCast]
  have hlen : (if h.1.length < 3 then h.1.take i else (h.1.take i).drop 1).length ≤ 3 := by split <;> simp <;> omega
  refine Re.brd (fun g => ?_) (fun g => ?_)
  ·have q : i < h.1.length := by omega
   have next := ih (i + 1) (by omega) (by omega)
   have et : h.1.take (i + 1) = h.1.take i ++ [rd A8 h.1 i] := by rw [List.take_add_one, List.getElem?_eq_getElem q, E8 q]; rfl
   rw [C5 q (by omega)]
   have keepIt : (i > 0 ∨ h.1.length < 3) → Re (fun y : Nat × Nat => gd (decide (0 ≤ (i : Int))) (gd (decide ((i : Int) < (h.1.length : Int))) (gd (decide ((if h.1.length < 3 then h.1.take i else (h.1.take i).drop 1).length + ([rd A8 h.1 i] : List D4).length ≤ A3)) (R5 y.1 y.2 idx ((i + 1 : Nat) : Int) ((if h.1.length < 3 then h.1.take i else (h.1.take i).drop 1) ++ ([rd A8 h.1 i] : List D4)) h)))) (fun w => w = Bw5 ((Ch7 h.1 idx, h.2.1, h.2.2.1, ()), Ea4 ++ U0 idx.toNat)) := fun hc => by
    refine Re.gdd (by omega) (Re.gdd g (Re.gdd (by simp only [List.length_singleton]; unfold A3; omega) ?_))
    have e : (if h.1.length < 3 then h.1.take (i + 1) else (h.1.take (i + 1)).drop 1) = (if h.1.length < 3 then h.1.take i else (h.1.take i).drop 1) ++ [rd A8 h.1 i] := by
     rw [et]
     split
     ·rfl
     ·have hi0 : i > 0 := by omega
      rw [List.drop_append_of_le_length (by simp; omega)]
    rw [e] at next
    exact next
   refine Re.brd (fun a => keepIt (.inl (by omega))) (fun a => Re.brd (fun b => keepIt (.inr (by omega))) (fun b => ?_))
   have i0 : i = 0 := by omega
   have e : (if h.1.length < 3 then h.1.take (i + 1) else (h.1.take (i + 1)).drop 1) = (if h.1.length < 3 then h.1.take i else (h.1.take i).drop 1) := by
    rw [if_neg (by omega), if_neg (by omega), et, i0]
    simp
   rw [e] at next
   exact next
  ·have el : i = h.1.length := by omega
   have eo : (if h.1.length < 3 then h.1.take i else (h.1.take i).drop 1) ++ [((idx, 0, ByteArray.empty, ()) : D4)] = Ch7 h.1 idx := by
    unfold Ch7
    rw [List.take_of_length_le (by omega)]
   have hz := Ct7 (n := idx) ⟨by omega, by omega⟩
   refine Re.gdd (by simp only [List.length_singleton]; unfold A3; omega) (Re.c2 (Gd8 idx ⟨by omega, by omega⟩) (Re.gdd (by show 5 + _ ≤ A3; unfold A3; omega) ?_))
   rw [eo]
   exact Fs4 ((Ch7 h.1 idx, h.2), Ea4 ++ U0 idx.toNat) (E38 hs idx hl3) hr (κ := fun y : Nat × Nat => y.1) (A71 C6)) 0 (Nat.zero_le _)
 have e : (if h.1.length < 3 then h.1.take 0 else (h.1.take 0).drop 1) = [] := by split <;> simp
 rw [e] at this
 exact this
theorem Eh6 (h : C0) (hm : Bv2 h ≤ 1048576) (idx : Int) (x : D1) (hx : Aj4 x ≤ 1048576) : Ev (fun k => Bp0 k h idx x) (Ax5 h idx x) := by
 refine Re.eq (Re.c1 (Bw3 h hm) ?_)
 unfold Ax5
 cases hk : P8 h with
 | false => exact Re.br (b := true) (fun _ => Re.ret rfl) (fun h => by cases h)
 | true =>
  refine Re.br (b := false) (fun h => by cases h) (fun _ => Re.c1 (Dl8 x hx) ?_)
  cases hc : Q2 x with
  | false => exact Re.br (b := true) (fun _ => Re.ret rfl) (fun h => by cases h)
  | true =>
   refine Re.br (b := false) (fun h => by cases h) (fun _ => Re.s1 (G8 · _ _ _) ?_)
   cases hI : X6 idx 1 400000 with
   | false => exact Re.br (b := true) (fun _ => Re.ret rfl) (fun h => by cases h)
   | true =>
    have hi := G2.1 hI
    obtain ⟨hs, hr⟩ := Au0 hk
    refine Re.br (b := false) (fun h => by cases h) (fun _ => Re.c1 (Cu0 h hs hr) ?_)
    refine Re.bre (fun h1 => ?_) (fun h1 => ?_)
    ·refine Re.enter (f := fun k n => R5 k n idx 0 ([] : List D4) h) C6 ?_
     have := Hh6 hk hi
     have e : C76 h idx x = ((Ch7 h.1 idx, h.2.1, h.2.2.1, ()), Ea4 ++ U0 idx.toNat) := by unfold C76; rw [if_pos h1]
     rw [e]
     exact this
    ·exact Re.enter (f := fun k n => H3 k n idx Ct8 0 x h.1 h.2.1.1 h.2.1.2.1 h.2.1.2.2.1 h.2.2.1) C6 (Hh5 hk hc h1 hi)
end
end Go.Vm
end
section
namespace Go.Vm
open Go
def Dn2 : C0 := ([], ([], [], [], ()), [(1, 0, [], ()), (2, 0, [], ())], ())
theorem Fs6 : Ev (fun k => Bo7 k) Dn2 := by
 refine ⟨3, fun k hk => ?_⟩
 obtain ⟨m, rfl⟩ : ∃ m, k = m + 3 := ⟨k - 3, by omega⟩
 rfl
theorem G71 : P8 Dn2 = true := by
 unfold P8
 have h1 : Bw2 Dn2.2.1 = true := by
  unfold Bw2
  have : Ea2 Dn2.2.1.1 = (([], [], [], ()), true) := rfl
  rw [this]
  have e : eqd ((([], [], [], ()) : A6), true).1 Dn2.2.1 = true := Fr3 rfl
  rw [e]
  rfl
 rw [h1]
 rfl
theorem B70 (v4 tok seq : Int) (c : A9) (hc : CurOk c) (r : A6) (hr : RoomI r) :
  Re (fun y : Nat × Nat => (br (v4 == 2) (bd (N8 y.1 c r 2) fun r7 => (some ((v4, tok, seq, (0, r7.1.2.1, r7.1.2.2.1, r7.1.2.2.2.1, r7.1.2.2.2.2.1, r7.1.2.2.2.2.2.1, r7.1.2.2.2.2.2.2.1, ([] : List Int), 0, ()), 0, 0, ()), r7.2.1, ()))) (br (v4 == 3) (bd (C7 y.1 c 40) fun r8 => (bd (N8 y.1 r8.2.1 r (B5 ((B5 (2 * r8.1)) + 1))) fun r9 => (bd (I9 y.1 r9.1) fun r10 => (br (!r10) (bd (C7 y.1 r9.2.1 40) fun r11 => (some ((v4, tok, seq, ((B5 (101 + (B5 (2 * r11.1)))), r9.1.2), 0, 0, ()), r11.2.1, ()))) (some ((v4, tok, seq, r9.1, 0, 0, ()), r9.2.1, ())))))) (br (v4 == 4) (bd (C7 y.1 c 2) fun r12 => (bd (C7 y.1 r12.2.1 6) fun r13 => (some ((v4, tok, seq, (0, 0, 0, 0, 0, ([] : List Int), ByteArray.empty, ([] : List Int), 0, ()), (B5 (1 + r12.1)), r13.1, ()), r13.2.1, ())))) (some ((v4, tok, seq, (0, 0, 0, 0, 0, ([] : List Int), ByteArray.empty, ([] : List Int), 0, ()), 0, 0, ()), c, ()))))))
   (fun q : D1 × A9 × Unit => Aj4 q.1 ≤ 1000 ∧ CurOk q.2.1) := by
 refine Re.bre (fun _ => Re.b2 (Dm8 c hc r hr 2) fun r7 h7 => Re.ret ?_) (fun _ => Re.bre (fun _ => ?_) (fun _ => Re.bre (fun _ => ?_) (fun _ => Re.ret ?_)))
 ·obtain ⟨hn, h7c⟩ := h7
  have h1 := hn.ll; have h2 := hn.tl
  refine ⟨?_, h7c⟩
  show r7.1.2.2.2.2.2.1.length + (r7.1.2.2.2.2.2.2.1.size + (0 + 0)) + 0 ≤ 1000
  omega
 ·refine Re.b2 (M7 c 40 hc) fun r8 h8 => Re.b2 (Dm8 _ h8.2 r hr _) fun r9 h9 => ?_
  obtain ⟨hn, h9c⟩ := h9
  have hs := hn.small
  refine Re.c2 (Ac9 r9.1 (by omega)) (Re.brb (Re.b2 (M7 _ 40 h9c) fun r11 h11 => Re.ret ⟨?_, h11.2⟩) (Re.ret ⟨?_, h9c⟩))
  ·have : I0 r9.1 ≤ 1000 := hs
   show I0 r9.1 + 0 ≤ 1000
   omega
  ·show I0 r9.1 + 0 ≤ 1000
   omega
 ·exact Re.b2 (M7 c 2 hc) fun r12 h12 => Re.b2 (M7 _ 6 h12.2) fun r13 h13 => Re.ret ⟨by show 0 + (0 + (0 + 0)) + 0 ≤ 1000; omega, h13.2⟩
 ·exact ⟨by show 0 + (0 + (0 + 0)) + 0 ≤ 1000; omega, hc⟩
theorem Dx6 (c : A9) (hc : CurOk c) (h : C0) (hr : RoomI h.2.1) : Re (fun k => Ac5 k c h) (fun q => Aj4 q.1 ≤ 1000 ∧ CurOk q.2.1) := by
 have tail : ∀ (c : A9) (_ : CurOk c) (v4 : Int), Re (fun k : Nat => I5 k k c.1 c.2.1 c.2.2.1 h v4) (fun q => Aj4 q.1 ≤ 1000 ∧ CurOk q.2.1) := fun c hc v4 => by
  refine Re.enter (f := fun k n => I5 k n c.1 c.2.1 c.2.2.1 h v4) C6 ?_
  have := Re.loop (ι := Nat) (l := fun k n (_ : Unit) => I5 k n c.1 c.2.1 c.2.2.1 h v4) (I := fun _ => True) (fun _ => 0) (Q := fun _ q => Aj4 q.1 ≤ 1000 ∧ CurOk q.2.1) (fun _ _ _ => by
   simp only [I5, A13]
   refine Re.brn (fun _ => Re.brd (fun g => ?_) (fun _ => B70 v4 0 0 (c.1, c.2.1, c.2.2.1, ()) hc.eta h.2.1 hr)) (fun _ => B70 v4 0 0 (c.1, c.2.1, c.2.2.1, ()) hc.eta h.2.1 hr)
   refine Re.b2 (M7 _ _ hc.eta) fun r4 h4 => ?_
   obtain ⟨⟨g1, g2⟩, g3⟩ := h4
   refine Re.gdd g1 (Re.gdd (by omega) (Re.b2 (M7 _ 10 g3) fun r5 h5 => ?_))
   refine Re.bre (fun _ => Re.b2 (M7 _ _ h5.2) fun r6 h6 => B70 v4 _ _ _ h6.2 h.2.1 hr) (fun _ => Re.bre (fun _ => Re.b2 (M7 _ 12 h5.2) fun r14 h14 => B70 v4 _ _ _ h14.2 h.2.1 hr) (fun _ => B70 v4 _ _ _ h5.2 h.2.1 hr))) () trivial
  exact this
 unfold Ac5 A97
 refine Re.b1 (Ba7 c _ hc (by simp)) fun r1 h1 => ?_
 have one : ∀ (c : A9) (_ : CurOk c) (v : Int), Re (fun k : Nat => br (v == 1) (br (decide ((h.1.length : Int) > 0)) (bd (N7 k c 3) fun r3 => (br (!r3.1) (I5 k k r3.2.1.1 r3.2.1.2.1 r3.2.1.2.2.1 h 2) (I5 k k r3.2.1.1 r3.2.1.2.1 r3.2.1.2.2.1 h v))) (I5 k k c.1 c.2.1 c.2.2.1 h v)) (I5 k k c.1 c.2.1 c.2.2.1 h v)) (fun q => Aj4 q.1 ≤ 1000 ∧ CurOk q.2.1) := fun c hc v =>
  Re.brb (Re.brb (Re.b1 (Bh0 c 3 hc) fun r3 h3 => Re.brb (tail _ h3 2) (tail _ h3 v)) (tail c hc v)) (tail c hc v)
 refine Re.brb (Re.b1 (Bh0 _ 8 h1.2) fun r2 h2 => Re.brb ?_ (one _ h2 r1.1)) (one _ h1.2 r1.1)
 exact Re.brb (Re.b1 (Bh0 _ 3 h2) fun r3 h3 => Re.brb (tail _ h3 2) (tail _ h3 1)) (tail _ h2 1)
theorem Fs7 {h : C0} {idx : Int} {x : D1} (hk : P8 h = true) (ho : (Ax5 h idx x).2.2 = true) : P8 (Ax5 h idx x).1 = true ∧ (Ax5 h idx x).1.2.1.1.length ≤ h.2.1.1.length + 1 := by
 unfold Ax5 at ho ⊢
 cases hb : P8 h && (Q2 x && X6 idx 1 400000) with
 | false => rw [hb] at ho; cases ho
 | true =>
  rw [hb] at ho
  simp only [cond_true] at ho ⊢
  simp only [Bool.and_eq_true] at hb
  obtain ⟨-, hx, hi⟩ := hb
  have hi := G2.1 hi
  obtain ⟨hs, hr⟩ := Au0 hk
  unfold Bw5 at ho ⊢
  cases hq : P8 (C76 h idx x).1 with
  | false => rw [hq] at ho; cases ho
  | true =>
   refine ⟨hq, ?_⟩
   simp only [cond_true]
   have add : ∀ (e : A0), e.2.2.2.2.2.2.2.1.length ≤ 1000 → (b9 h.2.1 e).2 = true → (b9 h.2.1 e).1.1.length ≤ h.2.1.1.length + 1 := fun e hp ho => by
    rw [(Cd5 hr hp ho).2]; simp
   have hdo : (doL h.2.1 h.2.2.1 idx x).1.1.1.length ≤ h.2.1.1.length + 1 := by
    unfold doL
    split
    ·rename_i h2
     split
     ·exact Nat.le_succ _
     ·rename_i ha
      split
      ·exact Nat.le_succ _
      ·exact add _ (by have := (C77 (r := h.2.1) (idx := idx) (Gw1 hx h2)).2; omega) (by simpa using ha)
    ·split
     ·rename_i h3
      split
      ·exact Nat.le_succ _
      ·rename_i ha
       exact add _ (by have := (S3 (Gw2 hx h3).1).1; omega) (by simpa using ha)
     ·split
      ·exact Nat.le_succ _
      ·exact Nat.le_succ _
   unfold C76 Gv7
   split
   ·exact Nat.le_succ _
   ·split
    ·split
     ·exact Nat.le_succ _
     ·split
      ·exact Nat.le_succ _
      ·split
       ·exact Nat.le_succ _
       ·exact hdo
    ·exact Nat.le_succ _
set_option maxRecDepth 8000 in
theorem Dn3 (c : A9) (hc : CurOk c) (n : Nat) (hn : n ≤ 24) : Re (fun k => A76 k c (n : Int)) (fun q => (P8 q.1 = true ∧ q.1.2.1.1.length ≤ n) ∧ CurOk q.2.1) := by
 refine Re.c1 Fs6 (Re.enter (f := fun k m => j2 k m (n : Int) 0 c.1 c.2.1 c.2.2.1 Dn2.1 Dn2.2.1.1 Dn2.2.1.2.1 Dn2.2.1.2.2.1 Dn2.2.2.1) C6 ?_)
 have := Re.loop (ι := Nat) (l := fun k m (s : Nat × A9 × C0) => j2 k m (n : Int) (s.1 : Int) s.2.1.1 s.2.1.2.1 s.2.1.2.2.1 s.2.2.1 s.2.2.2.1.1 s.2.2.2.1.2.1 s.2.2.2.1.2.2.1 s.2.2.2.2.1) (I := fun s => s.1 ≤ n ∧ CurOk s.2.1 ∧ P8 s.2.2 = true ∧ s.2.2.2.1.1.length ≤ s.1) (fun s => n - s.1)
  (Q := fun _ q => (P8 q.1 = true ∧ q.1.2.1.1.length ≤ n) ∧ CurOk q.2.1) (fun s hi ih => by
  obtain ⟨i, c, h⟩ := s
  obtain ⟨i1, i2, i3, i4⟩ := hi
  simp only at i1 i2 i3 i4 ih ⊢
  simp only [j2, Bu5]
  have ei : B5 ((i : Int) + 1) = ((i + 1 : Nat) : Int) := by rw [D8 (by omega) (by omega)]; rfl
  have en : B5 ((n : Int) + 1) = ((n + 1 : Nat) : Int) := by rw [D8 (by omega) (by omega)]; rfl
  simp only [ei, en]
  obtain ⟨hs, hr⟩ := Au0 i3
  refine Re.b2 (M7 (c.1, c.2.1, c.2.2.1, ()) ((n + 1 : Nat) : Int) i2.eta) fun r2 h2 => ?_
  refine Re.brd (fun q => ?_) (fun q => Re.ret ⟨⟨i3, by show h.2.1.1.length ≤ n; omega⟩, h2.2⟩)
  have hin : i < n := by obtain ⟨⟨a, b⟩, _⟩ := h2; omega
  refine Re.b2 (Dx6 _ h2.2 h hr) fun r3 h3 => ?_
  refine Re.c2 (Eh6 h (hs.m hr) ((i + 1 : Nat) : Int) r3.1 (by have := h3.1; omega)) ?_
  cases ho : (Ax5 h ((i + 1 : Nat) : Int) r3.1).2.2 with
  | true =>
   obtain ⟨p1, p2⟩ := Fs7 i3 ho
   exact Re.br (b := true) (fun _ => ih (i + 1, r3.2.1, (Ax5 h ((i + 1 : Nat) : Int) r3.1).1) ⟨by simp only; omega, h3.2, p1, by simp only; omega⟩ (by simp only; omega)) (fun h => by cases h)
  | false => exact Re.br (b := false) (fun h => by cases h) (fun _ => ih (i + 1, r3.2.1, h) ⟨by simp only; omega, h3.2, i3, by simp only; omega⟩ (by simp only; omega))) (0, c, Dn2) ⟨Nat.zero_le _, hc, G71, Nat.le_refl _⟩
 exact this
theorem C78 {h : C0} (hk : P8 h = true) (hn : h.2.1.1.length ≤ 12) : Re (fun k => Ah8 k h) (fun q => q.1.size ≤ 13000) := by
 obtain ⟨hs, hr⟩ := Au0 hk
 have hf := Am7 hk
 obtain ⟨z1, z2, z3, z4, z5⟩ := hf.sizes
 refine Ev.re (Dx4 h (hs.m hr)) ?_
 unfold Gv3
 rw [hk]
 simp only [cond_true]
 cases hd : decide (((Ax4 h).size : Int) > 20000) with
 | true => exact Nat.zero_le _
 | false =>
  simp only [cond_false]
  have nS := hf.nS
  have nO := hf.nO
  have a1 : (Ct6 h).size ≤ _ := At9 (G9 (h.1.length : Int)) (Eh3 h) 60 h.1.length z1
  have a2 : (C75 h).size ≤ _ := At9 (Ct6 h ++ G9 (h.2.1.1.length : Int)) (evT h) 1010 h.2.1.1.length z2
  have a3 : (Ax4 h).size ≤ _ := At9 (C75 h) (Fs0 h) 5 h.2.2.1.length z3
  rw [F8] at a2
  have v1 : (G9 (h.1.length : Int)).size ≤ 5 := G3 (by omega)
  have v2 : (G9 (h.2.1.1.length : Int)).size ≤ 5 := G3 (by omega)
  have m1 : h.2.1.1.length * 1010 ≤ 12 * 1010 := Nat.mul_le_mul_right _ hn
  have m2 : h.1.length * 60 ≤ 3 * 60 := Nat.mul_le_mul_right _ nS
  have m3 : h.2.2.1.length * 5 ≤ 2 * 5 := Nat.mul_le_mul_right _ nO
  show (Ax4 h).size ≤ 13000
  omega
end Go.Vm
end
section
namespace Go.Vm
open Go
theorem Bk3 (s t : ByteArray) : D3 (s ++ t) = D3 s ++ D3 t := by simp [D3]
theorem Au1 {xs : List Int} (h : ∀ x ∈ xs, 0 ≤ x ∧ x < 256) : D3 (B6 xs) = xs := by
 simp only [D3, B6, List.map_map]
 rw [List.map_congr_left (g := id) (fun b hb => ?_)]
 ·simp
 ·obtain ⟨h0, h1⟩ := h b hb
  have e : (UInt8.ofNat b.toNat).toNat = b.toNat := by
   rw [UInt8.toNat_ofNat']
   exact Nat.mod_eq_of_lt (by omega)
  simp only [Function.comp, e, id]
  omega
theorem Fs8 {s t : ByteArray} (h : D3 s = D3 t) : s = t := by
 rw [← O1 s, h, O1]
theorem Cu1 {s : ByteArray} : ∀ x ∈ D3 s, 0 ≤ x ∧ x < 256 := by
 intro x hx
 simp only [D3, List.mem_map] at hx
 obtain ⟨b, _, rfl⟩ := hx
 have := b.toNat_lt
 omega
theorem Ge2 (s : ByteArray) (i : Nat) : bt s i = rd 0 (D3 s) i := by
 unfold bt
 by_cases h : i < s.size
 ·rw [dif_pos h, E8 (by rw [D5]; exact h)]
  simp only [D3, List.getElem_map, Array.getElem_toList]
  rfl
 ·rw [dif_neg h]
  simp [rd, D5, h]
theorem T4 (s : ByteArray) (p q : Nat) : D3 (s.extract p q) = ((D3 s).take q).drop p := by
 simp only [D3, ByteArray.data_extract, Array.toList_extract, List.map_drop, List.map_take]
 rw [List.drop_take]
def Ar9 (a : ByteArray) (p : Nat) (s : ByteArray) : Prop := D3 s <+: (D3 a).drop p
theorem Aj6 {a s t : ByteArray} {p : Nat} : Ar9 a p (s ++ t) ↔ Ar9 a p s ∧ Ar9 a (p + s.size) t := by
 unfold Ar9
 rw [Bk3, ← List.drop_drop, ← D5 s]
 generalize (D3 a).drop p = d
 constructor
 ·rintro ⟨r, rfl⟩
  refine ⟨⟨D3 t ++ r, by simp⟩, ?_⟩
  rw [List.append_assoc, List.drop_left]
  exact ⟨r, rfl⟩
 ·rintro ⟨⟨r, rfl⟩, h⟩
  rw [List.drop_left] at h
  obtain ⟨q, rfl⟩ := h
  exact ⟨q, by simp⟩
theorem Ge3 {a s : ByteArray} {p : Nat} (h : Ar9 a p s) (hp : p ≤ a.size) : p + s.size ≤ a.size := by
 have := h.length_le
 rw [List.length_drop, D5, D5] at this
 omega
theorem Eh7 {a : ByteArray} {p q : Nat} (h : p ≤ q) (h2 : q ≤ a.size) : Ar9 a p (a.extract p q) := by
 unfold Ar9
 rw [T4, List.drop_take]
 exact List.take_prefix _ _
theorem Cu2 {a s : ByteArray} {p : Nat} (h : Ar9 a p s) : a.extract p (p + s.size) = s := by
 apply Fs8
 rw [T4, List.drop_take]
 obtain ⟨r, hr⟩ := h
 rw [← hr, ← D5 s]
 simp
theorem Gj9 (a : ByteArray) : Ar9 a 0 a := ⟨[], by simp⟩
theorem Gk0 {a : ByteArray} {p : Nat} (hp : p < a.size) : Ar9 a p (B6 [bt a p]) := by
 unfold Ar9
 have hb : 0 ≤ bt a p ∧ bt a p < 256 := by
  rw [Ge2, E8 (by rw [D5]; exact hp)]
  exact Cu1 _ (List.getElem_mem _)
 rw [Au1 (by simpa using hb), ← List.getElem_cons_drop (show p < (D3 a).length by rw [D5]; exact hp), Ge2, E8 (by rw [D5]; exact hp)]
 exact ⟨_, rfl⟩
theorem E39 (a : ByteArray) (p : Nat) : 0 ≤ bt a p ∧ bt a p < 256 := by
 by_cases hp : p < a.size
 ·rw [Ge2, E8 (by rw [D5]; exact hp)]
  exact Cu1 _ (List.getElem_mem _)
 ·unfold bt; rw [dif_neg hp]; omega
def dec : List Int → Int
 | [] => 0
 | d :: ds => d % 128 + 128 * dec ds
theorem E40 : ∀ (D : List Int) (b : Int), dec (D ++ [b]) = dec D + (b % 128) * 128 ^ D.length
 | [], b => by simp [dec]
 | d :: D, b => by
  rw [List.cons_append, dec, E40 D b, dec, List.length_cons, Int.pow_succ]
  generalize dec D = x
  generalize (128 : Int) ^ D.length = y
  generalize b % 128 = z
  rw [Int.mul_add]
  have : 128 * (z * y) = z * (y * 128) := by rw [← Int.mul_assoc, Int.mul_comm 128 z, Int.mul_assoc, Int.mul_comm 128 y]
  omega
theorem Dn4 : ∀ (D : List Int), 0 ≤ dec D ∧ dec D < 128 ^ D.length
 | [] => by simp [dec]
 | d :: D => by
  obtain ⟨h0, h1⟩ := Dn4 D
  rw [dec, List.length_cons, Int.pow_succ]
  generalize (128 : Int) ^ D.length = y at *
  omega
theorem Gw4 (n : Nat) : dec (varL n) = n := by
 induction n using Nat.strongRecOn with
 | _ n ih =>
  unfold varL
  by_cases h : n < 128
  ·rw [if_pos h]; simp only [dec]; omega
  ·rw [if_neg h, dec, ih (n / 128) (by omega)]; omega
def Hi (D : List Int) : Prop := ∀ d ∈ D, 128 ≤ d ∧ d < 256
def Code (xs : List Int) : Prop := ∃ D b, xs = D ++ [b] ∧ Hi D ∧ 0 ≤ b ∧ b < 128
theorem Cd6 (n : Nat) : Code (varL n) := by
 induction n using Nat.strongRecOn with
 | _ n ih =>
  unfold varL
  by_cases h : n < 128
  ·rw [if_pos h]; exact ⟨[], n, rfl, fun _ h => by simp at h, by omega, by omega⟩
  ·rw [if_neg h]
   obtain ⟨D, b, e, hD, h0, h1⟩ := ih (n / 128) (by omega)
   rw [e]
   refine ⟨((n % 128 + 128 : Nat) : Int) :: D, b, rfl, fun d hd => ?_, h0, h1⟩
   rcases List.mem_cons.1 hd with rfl | hd
   ·omega
   ·exact hD d hd
theorem Fs9 {xs : List Int} (h : Code xs) : ∀ x ∈ xs, 0 ≤ x ∧ x < 256 := by
 obtain ⟨D, b, rfl, hD, h0, h1⟩ := h
 intro x hx
 rcases List.mem_append.1 hx with h | h
 ·have := hD x h; omega
 ·simp at h; omega
theorem Gw5 : ∀ (D : List Int) (b : Int), Hi D → 0 ≤ b → b < 128 → (varL (dec (D ++ [b])).toNat).length = D.length + 1 → varL (dec (D ++ [b])).toNat = D ++ [b]
 | [], b, _, h0, h1, _ => by
  have e : dec ([] ++ [b]) = b := by simp [dec]; omega
  rw [e]
  unfold varL
  rw [if_pos (by omega)]
  simp; omega
 | d :: D, b, hD, h0, h1, hl => by
  have hd := hD d (List.mem_cons_self ..)
  have ih := Gw5 D b (fun x hx => hD x (List.mem_cons_of_mem _ hx)) h0 h1
  have hb := Dn4 (D ++ [b])
  rw [List.cons_append, dec] at hl ⊢
  generalize dec (D ++ [b]) = x at *
  rw [varL.eq_def] at hl ⊢
  by_cases h : (d % 128 + 128 * x).toNat < 128
  ·rw [if_pos h] at hl; simp at hl
  ·rw [if_neg h] at hl ⊢
   have e : (d % 128 + 128 * x).toNat / 128 = x.toNat := by omega
   rw [e] at hl ⊢
   rw [ih (by simpa using hl)]
   congr 1
   omega
theorem Ha4 {D ys zs : List Int} (hD : Hi D) (hy : Code ys) (h1 : D <+: zs) (h2 : ys <+: zs) : D.length < ys.length := by
 apply Nat.lt_of_not_le
 intro hle
 obtain ⟨D', b, rfl, _, h3, h4⟩ := hy
 have := List.prefix_of_prefix_length_le h2 h1 hle
 have := hD b (this.mem (by simp))
 omega
theorem Gk1 {xs ys zs : List Int} (hx : Code xs) (hy : Code ys) (h1 : xs <+: zs) (h2 : ys <+: zs) : xs = ys := by
 have aux : ∀ {xs ys : List Int}, Code xs → Code ys → xs <+: ys → xs = ys := by
  intro xs ys hx hy h
  obtain ⟨D, b, rfl, hD, h0, h1⟩ := hx
  obtain ⟨t, ht⟩ := h
  by_cases e : t = []
  ·subst e; simpa using ht
  ·exfalso
   obtain ⟨D', b', rfl, hD', h0', h1'⟩ := hy
   have hl := congrArg List.length ht
   have : 1 ≤ t.length := by cases t with | nil => exact absurd rfl e | cons _ _ => simp
   simp at hl
   have h5 : (D ++ [b]) <+: D' := List.prefix_of_prefix_length_le (l₃ := D' ++ [b']) ⟨t, ht⟩ ⟨[b'], rfl⟩ (by simp; omega)
   have := hD' b (h5.mem (by simp))
   omega
 rcases List.prefix_or_prefix_of_prefix h1 h2 with h | h
 ·exact aux hx hy h
 ·exact (aux hy hx h).symm
theorem Ax6 (n : Int) : D3 (G9 n) = varL n.toNat := Au1 (Fs9 (Cd6 _))
end Go.Vm
end
section
namespace Go.Vm
open Go
structure RV (a : ByteArray) (p : Nat) (r : Int × Int × Bool) : Prop where
 sound : r.2.2 = true → 0 ≤ r.1 ∧ r.1 ≤ 1000000000 ∧ r.2.1 = ((p + (G9 r.1).size : Nat) : Int) ∧ p + (G9 r.1).size ≤ a.size ∧ Ar9 a p (G9 r.1)
 full : ∀ n : Int, 0 ≤ n → n ≤ 1000000000 → Ar9 a p (G9 n) → r = (n, ((p + (G9 n).size : Nat) : Int), true)
theorem RV.no {a : ByteArray} {p : Nat} (h : ∀ n : Int, 0 ≤ n → n ≤ 1000000000 → ¬ Ar9 a p (G9 n)) : RV a p (0, 0, false) :=
 ⟨fun h => (by cases h), fun n h0 h1 h2 => absurd h2 (h n h0 h1)⟩
theorem Ax7 (n : Int) : (G9 n).size = (varL n.toNat).length := by unfold G9; rw [H5]
theorem RV.code {a : ByteArray} {p : Nat} {xs : List Int} (hx : Code xs) (hs : xs <+: (D3 a).drop p) (hp : p + xs.length ≤ a.size) (hc : ∃ D b, xs = D ++ [b] ∧ Hi D ∧ 0 ≤ b ∧ b < 128) :
  RV a p (if dec xs ≤ 1000000000 ∧ (varL (dec xs).toNat).length = xs.length then (dec xs, ((p + xs.length : Nat) : Int), true) else (0, 0, false)) := by
 have h0 : 0 ≤ dec xs := (Dn4 xs).1
 have key : ∀ n : Int, 0 ≤ n → Ar9 a p (G9 n) → dec xs = n ∧ (varL (dec xs).toNat).length = xs.length := by
  intro n hn h
  unfold Ar9 at h
  rw [Ax6] at h
  have e := Gk1 (Cd6 _) hx h hs
  have e2 : dec xs = n := by rw [← e, Gw4]; omega
  exact ⟨e2, by rw [e2, e]⟩
 by_cases h : dec xs ≤ 1000000000 ∧ (varL (dec xs).toNat).length = xs.length
 ·rw [if_pos h]
  refine ⟨fun _ => ?_, fun n hn h1 h2 => ?_⟩
  ·obtain ⟨D, b, rfl, hD, hb0, hb1⟩ := hc
   have e := Gw5 D b hD hb0 hb1 (by rw [h.2]; simp)
   refine ⟨h0, h.1, by simp only [Ax7, h.2], by rw [Ax7, h.2]; exact hp, ?_⟩
   unfold Ar9
   rw [Ax6, e]; exact hs
  ·obtain ⟨e1, e2⟩ := key n hn h2
   rw [Ax7, ← e1, h.2]
 ·rw [if_neg h]
  refine RV.no fun n hn h1 h2 => ?_
  obtain ⟨e1, e2⟩ := key n hn h2
  exact h ⟨by omega, e2⟩
theorem Ge4 {i : Nat} (h : i ≤ 5) : (128 : Int) ^ i ≤ 34359738368 ∧ 0 < (128 : Int) ^ i := by
 rcases i with _ | _ | _ | _ | _ | _ | i <;> first | omega | decide
theorem Hh7 {i : Nat} (h : i ≤ 4) : (2 : Int) ^ (min (B5 (7 * (i : Int))).toNat 64) = 128 ^ i ∧ decide (B5 (7 * (i : Int)) < 0) = false := by
 rw [D8 (by omega) (by omega)]
 rcases i with _ | _ | _ | _ | _ | i <;> first | omega | decide
theorem G72 (a : ByteArray) (p : Nat) (ha : a.size ≤ 1048576) : ∀ (j i : Nat) (D : List Int), i + j = 5 → D.length = i → Hi D → D <+: (D3 a).drop p → p + i ≤ a.size →
  ∃ r : Int × Int × Bool, RV a p r ∧ (∃ K, ∀ k, K ≤ k → ∀ n, j < n → V4 k n a (p : Int) (dec D) ((128 : Int) ^ i) ((p + i : Nat) : Int) = some r) ∧
   (∃ K, ∀ k, K ≤ k → ∀ n, j < n → P3 k n a (p : Int) (dec D) (i : Int) = some r) := by
 intro j
 induction j with
 | zero =>
  intro i D hi hD hh hs hp
  refine ⟨(0, 0, false), RV.no fun n h0 h1 h2 => ?_, ⟨0, fun k _ n hn => ?_⟩, ⟨0, fun k _ n hn => ?_⟩⟩
  ·unfold Ar9 at h2
   rw [Ax6] at h2
   have := Ha4 hh (Cd6 _) hs h2
   have h5 := G3 h1
   rw [Ax7] at h5
   omega
  ·obtain ⟨m, rfl⟩ : ∃ m, n = m + 1 := ⟨n - 1, by omega⟩
   have e1 : B5 ((p : Int) + 5) = p + 5 := D8 (by omega) (by omega)
   simp only [V4, A48, e1]
   rw [show decide (((p + i : Nat) : Int) < (p : Int) + 5) = false by simp; omega]
   simp only [br_false]
   cases decide (((p + i : Nat) : Int) < (a.size : Int)) <;> rfl
  ·obtain ⟨m, rfl⟩ : ∃ m, n = m + 1 := ⟨n - 1, by omega⟩
   simp only [P3, Am2]
   rw [show decide ((i : Int) < 5) = false by simp; omega]
   rfl
 | succ j ih =>
  intro i D hi hD hh hs hp
  have e5 : B5 ((p : Int) + 5) = p + 5 := D8 (by omega) (by omega)
  have epi : B5 ((p : Int) + (i : Int)) = ((p + i : Nat) : Int) := by rw [D8 (by omega) (by omega)]; omega
  have d5 : decide (((p + i : Nat) : Int) < (p : Int) + 5) = true := by simp; omega
  have di : decide ((i : Int) < 5) = true := by simp; omega
  by_cases hz : p + i < a.size
  ·have dz : decide (((p + i : Nat) : Int) < (a.size : Int)) = true := by simp; omega
   have d0 : decide (0 ≤ ((p + i : Nat) : Int)) = true := decide_eq_true (Int.natCast_nonneg _)
   have hb := E39 a (p + i)
   have hsb := Gk0 hz
   unfold Ar9 at hsb
   rw [Au1 (by simpa using hb)] at hsb
   generalize hbe : bt a (p + i) = b at hb hsb
   have hs2 : (D ++ [b]) <+: (D3 a).drop p := by
    obtain ⟨t, ht⟩ := hs
    rw [← List.drop_drop, ← ht, ← hD, List.drop_left] at hsb
    obtain ⟨u, rfl⟩ := hsb
    exact ⟨u, by rw [← ht]; simp⟩
   have hw : B5 b = b := D8 (by omega) (by omega)
   have ht : Int.tmod b 128 = b % 128 := Int.tmod_eq_emod_of_nonneg (by omega)
   obtain ⟨q1, q2⟩ := Ge4 (i := i) (by omega)
   obtain ⟨q3, q4⟩ := Ge4 (i := i + 1) (by omega)
   have hsn := E40 D b
   rw [hD] at hsn
   have hd1 := Dn4 D
   have hd2 := Dn4 (D ++ [b])
   have hl2 : (D ++ [b]).length = i + 1 := by simp [hD]
   rw [hl2] at hd2
   have hx0 : 0 ≤ (b % 128) * 128 ^ i := Int.mul_nonneg (by omega) (by omega)
   have hw2 : B5 ((b % 128) * 128 ^ i) = (b % 128) * 128 ^ i := D8 (by omega) (by omega)
   have hw3 : B5 (dec D + (b % 128) * 128 ^ i) = dec (D ++ [b]) := by rw [← hsn]; exact D8 (by omega) (by omega)
   have hw4 : B5 ((128 : Int) ^ i * 128) = 128 ^ (i + 1) := by rw [← Int.pow_succ]; exact D8 (by omega) (by omega)
   have hw5 : B5 (((p + i : Nat) : Int) + 1) = ((p + (i + 1) : Nat) : Int) := by rw [D8 (by omega) (by omega)]; omega
   have hw6 : B5 ((i : Int) + 1) = ((i + 1 : Nat) : Int) := by rw [D8 (by omega) (by omega)]; omega
   have hb2 : (b == b && (128 : Int) == 0) = false := Hc8 b
   obtain ⟨s1, s2⟩ := Hh7 (i := i) (by omega)
   have step_s : ∀ k m, V4 k (m + 1) a (p : Int) (dec D) ((128 : Int) ^ i) ((p + i : Nat) : Int) =
     br (decide (b < 128)) (br (decide (dec (D ++ [b]) > 1000000000)) (some (0, 0, false)) (bd (L9 k (dec (D ++ [b]))) fun r2 => br (!(r2.toList == (a.extract p (p + (i + 1))).toList)) (some (0, 0, false)) (some (dec (D ++ [b]), ((p + (i + 1) : Nat) : Int), true)))) (V4 k m a (p : Int) (dec (D ++ [b])) ((128 : Int) ^ (i + 1)) ((p + (i + 1) : Nat) : Int)) := by
    intro k m
    have g1 : decide (((p + (i + 1) : Nat) : Int) ≤ (a.size : Int)) = true := by simp; omega
    have g2 : decide ((p : Int) ≤ ((p + (i + 1) : Nat) : Int)) = true := by simp; omega
    have g3 : decide (0 ≤ ((p + (i + 1) : Nat) : Int)) = true := by simp; omega
    have g4 : decide (0 ≤ (p : Int)) = true := by simp
    simp only [V4, A48, e5, d5, dz, d0, br_true, gd_true, Int.toNat_natCast, hbe, hw, ht, hw2, hw3, hw4, hw5, hb2, ng_false, g1, g2, g3, g4]
   have step_i : ∀ k m, P3 k (m + 1) a (p : Int) (dec D) (i : Int) =
     br (decide (b < 128)) (bd (U4 k (dec (D ++ [b]))) fun r2 => br (!r2.2) (some (0, 0, false)) (br ((r2.1.size : Int) != ((i + 1 : Nat) : Int)) (some (0, 0, false)) (some (dec (D ++ [b]), ((p + (i + 1) : Nat) : Int), true)))) (P3 k m a (p : Int) (dec (D ++ [b])) ((i + 1 : Nat) : Int)) := by
    intro k m
    simp only [P3, Am2, di, epi, dz, d0, br_true, gd_true, Int.toNat_natCast, hbe, hw, ht, hb2, ng_false, s1, s2, hw2, hw3, hw5, hw6]
   by_cases hlt : b < 128
   ·have hcode : Code (D ++ [b]) := ⟨D, b, rfl, hh, hb.1, hlt⟩
    refine ⟨_, RV.code hcode hs2 (by rw [hl2]; omega) hcode, ?_, ?_⟩
    ·by_cases hn : dec (D ++ [b]) ≤ 1000000000
     ·obtain ⟨K, hK⟩ := L5 (dec (D ++ [b])) hd2.1 (by omega)
      refine ⟨K, fun k hk n hn' => ?_⟩
      obtain ⟨m, rfl⟩ : ∃ m, n = m + 1 := ⟨n - 1, by omega⟩
      have hK2 : L9 k (dec (D ++ [b])) = some (G9 (dec (D ++ [b]))) := hK k hk
      rw [step_s, decide_eq_true hlt, br_true, show decide (dec (D ++ [b]) > 1000000000) = false by simp; omega, br_false, hK2, bd_some, Y1, hl2]
      by_cases hl : (varL (dec (D ++ [b])).toNat).length = i + 1
      ·rw [if_pos ⟨hn, hl⟩]
       have e := Gw5 D b hh hb.1 hlt (by rw [hl, hD])
       have : G9 (dec (D ++ [b])) = a.extract p (p + (i + 1)) := by
        have hsit : Ar9 a p (G9 (dec (D ++ [b]))) := by unfold Ar9; rw [Ax6, e]; exact hs2
        have := Cu2 hsit
        rw [Ax7, hl] at this
        exact this.symm
       rw [decide_eq_true this]; rfl
      ·rw [if_neg (fun h => hl h.2)]
       have : G9 (dec (D ++ [b])) ≠ a.extract p (p + (i + 1)) := by
        intro h
        apply hl
        rw [← Ax7, h, ByteArray.size_extract]
        omega
       rw [decide_eq_false this]; rfl
     ·refine ⟨0, fun k _ n hn' => ?_⟩
      obtain ⟨m, rfl⟩ : ∃ m, n = m + 1 := ⟨n - 1, by omega⟩
      rw [step_s, decide_eq_true hlt, br_true, show decide (dec (D ++ [b]) > 1000000000) = true by simp; omega, br_true, if_neg (fun h => hn h.1)]
    ·obtain ⟨K, hK⟩ := Bv5 (dec (D ++ [b]))
     refine ⟨K, fun k hk n hn' => ?_⟩
     obtain ⟨m, rfl⟩ : ∃ m, n = m + 1 := ⟨n - 1, by omega⟩
     have hK2 : U4 k (dec (D ++ [b])) = some (E19 (dec (D ++ [b]))) := hK k hk
     rw [step_i, decide_eq_true hlt, br_true, hK2, bd_some, hl2]
     by_cases hn : dec (D ++ [b]) ≤ 1000000000
     ·rw [Eg3 hd2.1 hn]
      simp only [Bool.not_true, br_false, Ax7]
      by_cases hl : (varL (dec (D ++ [b])).toNat).length = i + 1
      ·rw [if_pos ⟨hn, hl⟩, hl]; simp
      ·rw [if_neg (fun h => hl h.2), show (((varL (dec (D ++ [b])).toNat).length : Int) != ((i + 1 : Nat) : Int)) = true by simp; omega]; rfl
     ·rw [if_neg (fun h => hn h.1)]
      have : E19 (dec (D ++ [b])) = (⟨#[]⟩, false) := by
       unfold E19 X6
       rw [show decide (dec (D ++ [b]) ≤ 1000000000) = false by simp; omega]
       simp
      rw [this]; rfl
   ·obtain ⟨r, hr, ⟨K1, h1⟩, ⟨K2, h2⟩⟩ := ih (i + 1) (D ++ [b]) (by omega) hl2 (fun d hd => by
     rcases List.mem_append.1 hd with h | h
     ·exact hh d h
     ·simp at h; omega) hs2 (by omega)
    refine ⟨r, hr, ⟨K1, fun k hk n hn' => ?_⟩, ⟨K2, fun k hk n hn' => ?_⟩⟩
    ·obtain ⟨m, rfl⟩ : ∃ m, n = m + 1 := ⟨n - 1, by omega⟩
     rw [step_s, decide_eq_false hlt, br_false]; exact h1 k hk m (by omega)
    ·obtain ⟨m, rfl⟩ : ∃ m, n = m + 1 := ⟨n - 1, by omega⟩
     rw [step_i, decide_eq_false hlt, br_false]; exact h2 k hk m (by omega)
  ·have dz : decide (((p + i : Nat) : Int) < (a.size : Int)) = false := by simp; omega
   refine ⟨(0, 0, false), RV.no fun n h0 h1 h2 => ?_, ⟨0, fun k _ n hn => ?_⟩, ⟨0, fun k _ n hn => ?_⟩⟩
   ·have h3 := Ge3 h2 (by omega)
    unfold Ar9 at h2
    rw [Ax6] at h2
    have := Ha4 hh (Cd6 _) hs h2
    rw [Ax7] at h3
    omega
   ·obtain ⟨m, rfl⟩ : ∃ m, n = m + 1 := ⟨n - 1, by omega⟩
    simp only [V4, A48, dz, br_false]
   ·obtain ⟨m, rfl⟩ : ∃ m, n = m + 1 := ⟨n - 1, by omega⟩
    simp only [P3, Am2, di, br_true, epi, dz, br_false]
theorem Dn5 (a : ByteArray) (p : Nat) (ha : a.size ≤ 1048576) (hp : p ≤ a.size) : ∃ r : Int × Int × Bool, RV a p r ∧ Ev (fun k => Cz9 k a (p : Int)) r ∧ Ev (fun k => At6 k a (p : Int)) r := by
 obtain ⟨r, h0, ⟨K1, h1⟩, ⟨K2, h2⟩⟩ := G72 a p ha 5 0 [] rfl rfl (fun _ h => by cases h) ⟨_, rfl⟩ (by omega)
 have hin : X6 (p : Int) 0 (a.size : Int) = true := by simp [X6]; omega
 refine ⟨r, h0, ⟨K1 + 6, fun k hk => ?_⟩, ⟨K2 + 6, fun k hk => ?_⟩⟩
 ·have := h1 k (by omega) k (by omega)
  simpa [Cz9, C66, G8, hin, dec] using this
 ·have := h2 k (by omega) k (by omega)
  simpa [At6, B51, Ac8, hin, dec] using this
abbrev Gp7 (a : ByteArray) (p : Nat) (b : Bool) : Ab7 := (a, (p : Int), b, ())
structure Rd {α : Type} (a : ByteArray) (enc : α → ByteArray) (ok : α → Prop) (d : α) (p : Nat) (b : Bool) (x : α) (q : Nat) (b' : Bool) : Prop where
 le : p ≤ q
 hi : q ≤ a.size
 bad : b = true → x = d ∧ q = p ∧ b' = true
 badv : b' = true → x = d
 sound : b' = false → ok x ∧ q = p + (enc x).size ∧ Ar9 a p (enc x)
 full : b = false → ∀ y, ok y → Ar9 a p (enc y) → x = y ∧ q = p + (enc y).size ∧ b' = false
def E41 (n : Int) : Prop := 0 ≤ n ∧ n ≤ 1000000000
def Hh8 (n : Int) : Prop := 0 ≤ n ∧ n < 256
def Hh9 (n : Int) : ByteArray := B6 [n]
theorem Rd.stuck {α : Type} {a : ByteArray} {enc : α → ByteArray} {ok : α → Prop} {d : α} {p : Nat} (hp : p ≤ a.size) : Rd a enc ok d p true d p true :=
 ⟨Nat.le_refl _, hp, fun _ => ⟨rfl, rfl, rfl⟩, fun _ => rfl, fun h => by (cases h), fun h => by (cases h)⟩
theorem Gw6 (a : ByteArray) (p : Nat) (b : Bool) (ha : a.size ≤ 1048576) (hp : p ≤ a.size) :
  ∃ x q b', Rd a G9 E41 0 p b x q b' ∧ Ev (fun k => Gu4 k (Gp7 a p b)) (x, Gp7 a q b', ()) ∧ Ev (fun k => Ac6 k (Gp7 a p b)) (x, Gp7 a q b', ()) := by
 obtain ⟨r, hr, h1, h2⟩ := Dn5 a p ha hp
 obtain ⟨n, q, o⟩ := r
 cases b with
 | true => exact ⟨0, p, true, .stuck hp, h1.bd (.of fun _ => rfl), h2.bd (.of fun _ => rfl)⟩
 | false =>
  cases o with
  | false =>
   refine ⟨0, p, true, ⟨Nat.le_refl _, hp, fun h => by (cases h), fun _ => rfl, fun h => by (cases h), fun _ y hy hs => ?_⟩, h1.bd (.of fun _ => rfl), h2.bd (.of fun _ => rfl)⟩
   have := hr.full y hy.1 hy.2 hs
   simp at this
  | true =>
   obtain ⟨e1, e2, e3, e4, e5⟩ := hr.sound rfl
   simp only at e1 e2 e3 e4 e5
   subst e3
   refine ⟨n, p + (G9 n).size, false, ⟨by omega, e4, fun h => by (cases h), fun h => by (cases h), fun _ => ⟨⟨e1, e2⟩, rfl, e5⟩, fun _ y hy hs => ?_⟩, h1.bd (.of fun _ => rfl), h2.bd (.of fun _ => rfl)⟩
   have := hr.full y hy.1 hy.2 hs
   simp only [Prod.mk.injEq] at this
   refine ⟨this.1, ?_, rfl⟩
   omega
def E42 (m : Nat) (t : ByteArray) : Prop := t.size ≤ m
theorem Ax8 (t : ByteArray) : (J8 t).size = (G9 (t.size : Int)).size + t.size := by unfold J8; rw [F8]
theorem E43 (a : ByteArray) (p : Nat) (b : Bool) (ha : a.size ≤ 1048576) (hp : p ≤ a.size) :
  ∃ x q b', Rd a J8 (E42 20000) (⟨#[]⟩ : ByteArray) p b x q b' ∧ Ev (fun k => X2 k (Gp7 a p b)) (x, Gp7 a q b', ()) := by
 obtain ⟨r, hr, _, h2⟩ := Dn5 a p ha hp
 obtain ⟨n, q, o⟩ := r
 have nope : ∀ {x : ByteArray × Int}, Ev (fun k => Aj3 k a (p : Int)) (x.1, x.2, false) → (∀ y : ByteArray, y.size ≤ 20000 → ¬ Ar9 a p (J8 y)) →
   ∃ x q b', Rd a J8 (E42 20000) (⟨#[]⟩ : ByteArray) p b x q b' ∧ Ev (fun k => X2 k (Gp7 a p b)) (x, Gp7 a q b', ()) := by
  intro x h hno
  refine ⟨⟨#[]⟩, p, true, ⟨Nat.le_refl _, hp, fun _ => ⟨rfl, rfl, rfl⟩, fun _ => rfl, fun h => by (cases h), fun _ y hy hs => absurd hs (hno y hy)⟩, h.bd (.of fun k => ?_)⟩
  cases b <;> rfl
 cases o with
 | false =>
  refine nope (x := (⟨#[]⟩, 0)) (h2.bd (.of fun _ => rfl)) fun y hy hs => ?_
  unfold J8 at hs
  have := hr.full _ (by omega) (by omega) (Aj6.1 hs).1
  simp at this
 | true =>
  obtain ⟨n0, n1, hq, hqs, hsit⟩ := hr.sound rfl
  simp only at n0 n1 hq hqs hsit
  obtain ⟨m, rfl⟩ : ∃ m : Nat, n = (m : Int) := ⟨n.toNat, by omega⟩
  generalize hqe : p + (G9 (m : Int)).size = q' at *
  subst hq
  have same : ∀ y : ByteArray, y.size ≤ 20000 → Ar9 a p (J8 y) → m = y.size ∧ Ar9 a q' y := by
   intro y hy hs
   unfold J8 at hs
   obtain ⟨h3, h4⟩ := Aj6.1 hs
   have := hr.full _ (by omega) (by omega) h3
   simp only [Prod.mk.injEq] at this
   have e6 : m = y.size := by omega
   subst e6
   rw [hqe] at h4
   exact ⟨rfl, h4⟩
  have e1 : B5 ((a.size : Int) - (q' : Int)) = (a.size : Int) - q' := D8 (by omega) (by omega)
  have e2 : B5 ((q' : Int) + (m : Int)) = ((q' + m : Nat) : Int) := by rw [D8 (by omega) (by omega)]; omega
  by_cases hbig : m ≤ 20000
  ·have d0 : decide ((m : Int) > 20000) = false := by simp; omega
   by_cases hlt : q' + m ≤ a.size
   ·have d1 : decide ((m : Int) > (a.size : Int) - q') = false := by simp; omega
    have d2 : decide (((q' + m : Nat) : Int) ≤ (a.size : Int)) = true := by simp; omega
    have d3 : decide (0 ≤ ((q' + m : Nat) : Int)) = true := decide_eq_true (Int.natCast_nonneg _)
    have d4 : decide (0 ≤ (q' : Int)) = true := decide_eq_true (Int.natCast_nonneg _)
    have d5 : decide ((q' : Int) ≤ ((q' + m : Nat) : Int)) = true := by simp; omega
    have hsz : (a.extract q' (q' + m)).size = m := by rw [ByteArray.size_extract]; omega
    have hev : Ev (fun k => Aj3 k a (p : Int)) (a.extract q' (q' + m), ((q' + m : Nat) : Int), true) := h2.bd (.of fun k => by
     simp only [Bool.not_true, br_false, d0, e1, d1, e2, d2, d3, d4, d5, gd_true, Int.toNat_natCast])
    cases b with
    | true => exact ⟨⟨#[]⟩, p, true, .stuck hp, hev.bd (.of fun _ => rfl)⟩
    | false =>
     refine ⟨a.extract q' (q' + m), q' + m, false, ⟨by omega, by omega, fun h => by (cases h), fun h => by (cases h), fun _ => ⟨by unfold E42; omega, by rw [Ax8, hsz]; omega, ?_⟩, fun _ y hy hs => ?_⟩, hev.bd (.of fun _ => rfl)⟩
     ·unfold J8
      rw [hsz]
      refine Aj6.2 ⟨hsit, ?_⟩
      rw [hqe]
      exact Eh7 (by omega) hlt
     ·obtain ⟨e6, h4⟩ := same y hy hs
      subst e6
      exact ⟨Cu2 h4, by rw [Ax8]; omega, rfl⟩
   ·refine nope (x := (⟨#[]⟩, 0)) (h2.bd (.of fun k => ?_)) fun y hy hs => ?_
    ·have d1 : decide ((m : Int) > (a.size : Int) - q') = true := by simp; omega
     simp only [Bool.not_true, br_false, d0, e1, d1, br_true]
    ·obtain ⟨e6, h4⟩ := same y hy hs
     have := Ge3 h4 hqs
     omega
  ·refine nope (x := (⟨#[]⟩, 0)) (h2.bd (.of fun k => ?_)) fun y hy hs => ?_
   ·have d0 : decide ((m : Int) > 20000) = true := by simp; omega
    simp only [Bool.not_true, br_false, d0, br_true]
   ·obtain ⟨e6, h4⟩ := same y hy hs
    omega
end Go.Vm
end
section
namespace Go.Vm
open Go
def Ge5 (xs : List Int) : Prop := ∀ i, i < xs.length → (1 ≤ rd 0 xs i ∧ rd 0 xs i ≤ 4) ∧ (0 < i → rd 0 xs (i - 1) < rd 0 xs i)
def Cu3 (xs : List Int) : Prop := 1 ≤ xs.length ∧ xs.length ≤ 4 ∧ Ge5 xs
noncomputable def X7 (xs : List Int) : Bool := @decide (Cu3 xs) (Classical.propDecidable _)
theorem j7 {xs : List Int} : X7 xs = true ↔ Cu3 xs := by unfold X7; exact @decide_eq_true_iff _ (Classical.propDecidable _)
theorem C10 {xs : List Int} (h : ¬ Cu3 xs) : X7 xs = false := by
 cases e : X7 xs with
 | false => rfl
 | true => exact absurd (j7.1 e) h
theorem Dg2 (a b c : Int) : X6 a b c = decide (b ≤ a ∧ a ≤ c) := by unfold X6; rw [Bool.decide_and]
theorem Ea7 {l : Nat → Nat → Nat → Option Bool} {V : Bool} (xs : List Int)
  (hs : ∀ i, i < xs.length → (((1 ≤ rd 0 xs i ∧ rd 0 xs i ≤ 4) ∧ (0 < i → rd 0 xs (i - 1) < rd 0 xs i)) → Re (fun x : Nat × Nat => l x.1 x.2 (i + 1)) (fun v => v = V)) → (¬ ((1 ≤ rd 0 xs i ∧ rd 0 xs i ≤ 4) ∧ (0 < i → rd 0 xs (i - 1) < rd 0 xs i)) → V = false) → Re (fun x : Nat × Nat => l x.1 (x.2 + 1) i) (fun v => v = V))
  (hn : ¬ Ge5 xs → V = false) (he : Ge5 xs → Re (fun x : Nat × Nat => l x.1 (x.2 + 1) xs.length) (fun v => v = V)) : Re (fun x : Nat × Nat => l x.1 x.2 0) (fun v => v = V) := by
 have := Re.loop (ι := Nat) (l := fun k n i => l k n i) (I := fun i => i ≤ xs.length ∧ ∀ j, j < i → (1 ≤ rd 0 xs j ∧ rd 0 xs j ≤ 4) ∧ (0 < j → rd 0 xs (j - 1) < rd 0 xs j)) (fun i => xs.length - i) (Q := fun _ v => v = V) (fun i hi ih => by
  by_cases h : i < xs.length
  ·refine hs i h (fun g => ih (i + 1) ⟨by omega, fun j hj => ?_⟩ (by omega)) (fun g => hn fun hr => g (hr i h))
   by_cases hj2 : j < i
   ·exact hi.2 j hj2
   ·have : j = i := by omega
    subst this; exact g
  ·have hi2 : i = xs.length := by omega
   subst hi2
   exact he hi.2) 0 ⟨Nat.zero_le _, fun j hj => by omega⟩
 exact this
theorem E44 (xs : List Int) (hx : xs.length ≤ 1048576) : Ev (fun k => B49 k xs) (X7 xs) := by
 refine Re.eq ?_
 refine Re.s1 (G8 · _ _ _) ?_
 rw [Dg2]
 refine Re.brd (fun h => ?_) (fun h => Re.ret (C10 fun hc => h ⟨by have := hc.1; omega, by have := hc.2.1; omega⟩).symm)
 refine Re.b1 (P := fun v => v = X7 xs) ?_ (fun v hv => Re.ret hv)
 refine Re.enter (f := fun k n => V3 k n xs 1 4 0) C6 ?_
 refine Ea7 (l := fun k n i => V3 k n xs 1 4 (i : Int)) xs (fun i hi ih hf => ?_) (fun g => C10 fun hc => g hc.2.2) (fun g => ?_)
 ·simp only [V3, A46]
  refine Re.brd (fun _ => ?_) (fun h => absurd (by omega : (i : Int) < xs.length) h)
  refine Re.gdd (by omega) (Re.gdd (by omega) ?_)
  refine Re.b2 (P := fun v => v = X6 (rd 0 xs i) 1 4) (Ev.re (Ev.of fun k => G8 k _ _ _) rfl) fun v hv => ?_
  subst hv
  rw [Dg2]
  refine Re.br (fun h1 => ?_) (fun h1 => ?_)
  ·exact Re.ret (hf fun g => by simp [g.1] at h1).symm
  ·have h1 : 1 ≤ rd 0 xs i ∧ rd 0 xs i ≤ 4 := by simpa using h1
   have e : B5 ((i : Int) + 1) = ((i + 1 : Nat) : Int) := C5 hi (by omega)
   rw [e]
   refine Re.brd (fun h2 => ?_) (fun h2 => ih ⟨h1, fun h => absurd (by omega) h2⟩)
   have e2 : B5 ((i : Int) - 1) = ((i - 1 : Nat) : Int) := Cq3 (by omega) (by omega)
   rw [e2]
   refine Re.gdd (by omega) (Re.gdd (by omega) (Re.gdd (by omega) (Re.gdd (by omega) ?_)))
   simp only [Int.toNat_natCast]
   refine Re.brd (fun h3 => Re.ret (hf fun g => by have := g.2 (by omega); omega).symm) (fun h3 => ih ⟨h1, fun _ => by omega⟩)
 ·simp only [V3, A46, Int.lt_irrefl, decide_false, br_false]
  exact Re.ret (j7.2 ⟨by omega, by omega, g⟩).symm
theorem C79 (xs : List Int) (hx : xs.length ≤ 1048576) : Ev (fun k => Bp1 k xs) (X7 xs) := by
 refine Re.eq ?_
 refine Re.enter (f := fun k n => d9 k n xs 0) C6 ?_
 refine Ea7 (l := fun k n i => d9 k n xs (i : Int)) xs (fun i hi ih hf => ?_) (fun g => C10 fun hc => g hc.2.2) (fun g => ?_)
 ·simp only [d9, Bg4]
  refine Re.brd (fun _ => ?_) (fun h => absurd (by omega : (i : Int) < xs.length) h)
  refine Re.gdd (by omega) (Re.gdd (by omega) ?_)
  refine Re.b2 (P := fun v => v = X6 (rd 0 xs i) 1 4) (Ev.re (Ev.of fun k => Ac8 k _ _ _) rfl) fun v hv => ?_
  subst hv
  rw [Dg2]
  refine Re.br (fun h1 => ?_) (fun h1 => ?_)
  ·exact Re.ret (hf fun g => by simp [g.1] at h1).symm
  ·have h1 : 1 ≤ rd 0 xs i ∧ rd 0 xs i ≤ 4 := by simpa using h1
   have e : B5 ((i : Int) + 1) = ((i + 1 : Nat) : Int) := C5 hi (by omega)
   rw [e]
   refine Re.brd (fun h2 => ?_) (fun h2 => ih ⟨h1, fun h => absurd (by omega) h2⟩)
   have e2 : B5 ((i : Int) - 1) = ((i - 1 : Nat) : Int) := Cq3 (by omega) (by omega)
   rw [e2]
   refine Re.gdd (by omega) (Re.gdd (by omega) ?_)
   simp only [Int.toNat_natCast]
   refine Re.brd (fun h3 => Re.ret (hf fun g => by have := g.2 (by omega); omega).symm) (fun h3 => ih ⟨h1, fun _ => by omega⟩)
 ·simp only [d9, Bg4, Int.lt_irrefl, decide_false, br_false]
  refine Re.b2 (P := fun v => v = X6 (xs.length : Int) 1 4) (Ev.re (Ev.of fun k => Ac8 k _ _ _) rfl) fun v hv => ?_
  subst hv
  refine Re.ret ?_
  rw [Dg2, Bool.eq_iff_iff, decide_eq_true_iff, j7]
  exact ⟨fun h => ⟨by omega, by omega, g⟩, fun h => ⟨by have := h.1; omega, by have := h.2.1; omega⟩⟩
def Am8 (a : ByteArray) : List Int := D3 a
theorem Av5 (a : ByteArray) : (Am8 a).length = a.size := D5 a
theorem E45 {a : ByteArray} {i : Nat} (h : i < a.size) : (Am8 a).take (i + 1) = (Am8 a).take i ++ [B5 (bt a i)] := by
 have hb := E39 a i
 have hl : i < (D3 a).length := by rw [D5]; exact h
 rw [D8 (by omega) (by omega), Ge2, E8 hl]
 unfold Am8
 rw [List.take_add_one, List.getElem?_eq_getElem hl]
 rfl
noncomputable def Z6 (a : ByteArray) : List Int × Bool := bif X7 (Am8 a) then (Am8 a, true) else ([], false)
theorem Dx7 (a : ByteArray) (ha : a.size ≤ 1048576) : Ev (fun k => Ba3 k a) (Z6 a) := by
 refine Re.eq ?_
 refine Re.enter (f := fun k n => X1 k n a 0 []) C6 ?_
 have := Re.loop (ι := Nat) (l := fun k n (i : Nat) => X1 k n a (i : Int) ((Am8 a).take i)) (I := fun i => i ≤ a.size) (fun i => a.size - i) (Q := fun _ v => v = Z6 a) (fun i hi ih => by
  simp only [X1, Bj6]
  refine Re.brd (fun h => ?_) (fun h => ?_)
  ·refine Re.gdd (by omega) (Re.gdd h (Re.gdd ?_ ?_))
   ·have := Av5 a
    simp [A3]; omega
   ·rw [C5 (show i < a.size by omega) (by omega), Int.toNat_natCast, ← E45 (by omega)]
    exact ih (i + 1) (by omega) (by omega)
  ·have e : (Am8 a).take i = Am8 a := List.take_of_length_le (by rw [Av5]; omega)
   rw [e]
   refine Re.b2 (P := fun v => v = X7 (Am8 a)) (Ev.re (C79 _ (by rw [Av5]; exact ha)) rfl) fun v hv => ?_
   subst hv
   unfold Z6
   cases X7 (Am8 a) <;> exact Re.ret rfl) 0 (Nat.zero_le _)
 simpa using this
noncomputable def G73 (e : D4) : Bool := X6 e.1 0 100000 && (bif e.2.1 == 1 then decide (e.2.2.1 = ⟨#[]⟩) else bif e.2.1 == 2 then X7 (Am8 e.2.2.1) else bif e.2.1 == 3 then decide (e.2.2.1.size ≤ 120) else false)
noncomputable def l7 (xs : List Int) : ByteArray × Bool := bif X7 xs then (B6 xs, true) else (⟨#[]⟩, false)
theorem Ea8 {xs : List Int} (h : Cu3 xs) : ∀ i, i < xs.length → IntKind.wrap .u8 (rd 0 xs i) = rd 0 xs i := fun i hi => by
 have := (h.2.2 i hi).1
 exact E11 (by omega) (by omega)
theorem Ea9 {xs : List Int} {i : Nat} (h : i < xs.length) : xs.take (i + 1) = xs.take i ++ [rd 0 xs i] := by
 rw [List.take_add_one, List.getElem?_eq_getElem h, E8 h]; rfl
theorem Ch8 (xs : List Int) (hx : xs.length ≤ 1048576) : Ev (fun k => A98 k xs) (l7 xs) := by
 refine Re.eq ?_
 refine Re.c1 (E44 xs hx) ?_
 unfold l7
 refine Re.br (fun h => ?_) (fun h => ?_)
 ·rw [show X7 xs = false by simpa using h]; exact Re.ret rfl
 have hc : X7 xs = true := by simpa using h
 have hp := j7.1 hc
 rw [hc]
 refine Re.enter (f := fun k n => W9 k n xs 0 []) C6 ?_
 have := Re.loop (ι := Nat) (l := fun k n (i : Nat) => W9 k n xs (i : Int) (xs.take i)) (I := fun i => i ≤ xs.length) (fun i => xs.length - i) (Q := fun _ v => v = (B6 xs, true)) (fun i hi ih => by
  simp only [W9, Bj4]
  refine Re.brd (fun h => ?_) (fun h => Re.ret (by rw [List.take_of_length_le (by omega)]))
  refine Re.gdd (by omega) (Re.gdd h (Re.gdd (by simp [A3]; omega) ?_))
  rw [C5 (show i < xs.length by omega) (by omega), Int.toNat_natCast, Ea8 hp i (by omega), ← Ea9 (by omega)]
  exact ih (i + 1) (by omega) (by omega)) 0 (Nat.zero_le _)
 simpa using this
theorem Ch9 (xs : List Int) (hx : xs.length ≤ 1048576) : Ev (fun k => Ba1 k xs) (l7 xs) := by
 refine Re.eq ?_
 refine Re.c1 (C79 xs hx) ?_
 unfold l7
 refine Re.br (fun h => ?_) (fun h => ?_)
 ·rw [show X7 xs = false by simpa using h]; exact Re.ret rfl
 have hc : X7 xs = true := by simpa using h
 have hp := j7.1 hc
 rw [hc]
 refine Re.enter (f := fun k n => X0 k n xs 0 []) C6 ?_
 have := Re.loop (ι := Nat) (l := fun k n (i : Nat) => X0 k n xs (i : Int) (xs.take i)) (I := fun i => i ≤ xs.length) (fun i => xs.length - i) (Q := fun _ v => v = (B6 xs, true)) (fun i hi ih => by
  simp only [X0, Bj5]
  refine Re.brd (fun h => ?_) (fun h => Re.ret (by rw [List.take_of_length_le (by omega)]))
  refine Re.gdd (by omega) (Re.gdd h (Re.gdd (by simp [A3]; omega) ?_))
  rw [C5 (show i < xs.length by omega) (by omega), Int.toNat_natCast, Ea8 hp i (by omega), ← Ea9 (by omega)]
  exact ih (i + 1) (by omega) (by omega)) 0 (Nat.zero_le _)
 simpa using this
theorem Eh8 {xs : List Int} (h : ∀ x ∈ xs, 0 ≤ x ∧ x < 256) : D3 (B6 xs) = xs := by
 unfold D3 B6
 simp only [List.map_map]
 induction xs with
 | nil => rfl
 | cons x xs ih =>
  have hx := h x (List.mem_cons_self ..)
  simp only [List.map_cons]
  rw [ih fun y hy => h y (List.mem_cons_of_mem _ hy)]
  congr 1
  show ((UInt8.ofNat x.toNat).toNat : Int) = x
  rw [UInt8.toNat_ofNat']
  omega
theorem Gw7 {xs : List Int} (h : Cu3 xs) : ∀ x ∈ xs, 1 ≤ x ∧ x ≤ 4 := fun x hx => by
 obtain ⟨i, hi, rfl⟩ := List.getElem_of_mem hx
 have := (h.2.2 i hi).1
 rwa [E8 hi] at this
theorem Ft0 {xs : List Int} (h : Cu3 xs) : Am8 (B6 xs) = xs := Eh8 fun x hx => by have := Gw7 h x hx; omega
theorem Ge6 (c : A9) (h : CurOk c) : Re (fun k => A77 k c) (fun r => Cu3 r.1 ∧ CurOk r.2.1) := by
 refine Re.enter (f := fun k n => j3 k n 1 c.1 c.2.1 c.2.2.1 []) C6 ?_
 have := Re.loop (ι := Nat) (l := fun k n (s : Int × A9 × List Int) => j3 k n s.1 s.2.1.1 s.2.1.2.1 s.2.1.2.2.1 s.2.2)
  (I := fun s => (1 ≤ s.1 ∧ s.1 ≤ 5) ∧ CurOk s.2.1 ∧ (s.2.2.length : Int) < s.1 ∧ Ge5 s.2.2 ∧ ∀ i, i < s.2.2.length → rd 0 s.2.2 i < s.1) (fun s => (5 - s.1).toNat) (Q := fun _ r => Cu3 r.1 ∧ CurOk r.2.1) (fun s hi ih => by
  obtain ⟨v, c, xs⟩ := s
  obtain ⟨⟨h1, h2⟩, h3, h4, h5, h6⟩ := hi
  simp only at h1 h2 h3 h4 h5 h6 ih ⊢
  simp only [j3, Bu6]
  refine Re.brd (fun h7 => ?_) (fun h7 => ?_)
  ·refine Re.b2 (Bh0 _ 2 h3.eta) fun r hr => ?_
   have e : B5 (v + 1) = v + 1 := D8 (by omega) (by omega)
   rw [e]
   have app : ∀ i, i < (xs ++ [v]).length → i < xs.length ∧ rd 0 (xs ++ [v]) i = rd 0 xs i ∨ i = xs.length ∧ rd 0 (xs ++ [v]) i = v := fun i hi => by
    by_cases q : i < xs.length
    ·refine .inl ⟨q, ?_⟩
     simp [rd, List.getElem?_append_left q]
    ·refine .inr ⟨by simp at hi; omega, ?_⟩
     have : i = xs.length := by simp at hi; omega
     subst this
     simp [rd]
   refine Re.brb (Re.gdd (by simp [A3]; omega) (ih (v + 1, r.2.1, xs ++ [v]) ⟨⟨by simp only; omega, by simp only; omega⟩, hr, by simp; omega, fun i hi => ?_, fun i hi => ?_⟩ (by simp only; omega))) (ih (v + 1, r.2.1, xs) ⟨⟨by simp only; omega, by simp only; omega⟩, hr, by simp only; omega, h5, fun i hi => by have := h6 i hi; simp only; omega⟩ (by simp only; omega))
   ·simp only at hi ⊢
    rcases app i hi with ⟨q, e1⟩ | ⟨q, e1⟩
    ·rw [e1]
     refine ⟨(h5 i q).1, fun h => ?_⟩
     have e2 : rd 0 (xs ++ [v]) (i - 1) = rd 0 xs (i - 1) := by
      rcases app (i - 1) (by simp; omega) with ⟨_, e2⟩ | ⟨q2, _⟩
      ·exact e2
      ·omega
     rw [e2]
     exact (h5 i q).2 h
    ·rw [e1]
     refine ⟨⟨h1, h7⟩, fun h => ?_⟩
     have e2 : rd 0 (xs ++ [v]) (i - 1) = rd 0 xs (i - 1) := by
      rcases app (i - 1) (by simp; omega) with ⟨_, e2⟩ | ⟨q2, _⟩
      ·exact e2
      ·omega
     rw [e2]
     exact h6 (i - 1) (by omega)
   ·simp only at hi ⊢
    rcases app i hi with ⟨q, e1⟩ | ⟨q, e1⟩
    ·rw [e1]; have := h6 i q; omega
    ·rw [e1]; omega
  ·refine Re.bre (fun h8 => Re.gdd (by simp [A3]; omega) (Re.ret ?_)) (fun h8 => Re.ret ⟨⟨by simp only; omega, by simp only; omega, h5⟩, h3⟩)
   have : xs = [] := List.length_eq_zero_iff.1 (by omega)
   subst this
   refine ⟨⟨by simp, by simp, fun i hi => ?_⟩, h3⟩
   have : i = 0 := by simp at hi; omega
   subst this
   exact ⟨by simp [rd], fun h => absurd h (by omega)⟩) (1, c, []) ⟨⟨Int.le_refl 1, by simp only; omega⟩, h, by simp, fun i hi => absurd hi (by simp), fun i hi => absurd hi (by simp)⟩
 exact this
end Go.Vm
end
section
namespace Go.Vm
open Go
def Hi0 (l : Ef2) (i : Nat) : Int := if i = 0 then l.2.1 else (rd A8 l.2.2.1 (i - 1)).1
def Hi1 (l : Ef2) : Prop := ∀ i, i < l.2.2.1.length → G73 (rd A8 l.2.2.1 i) = true ∧ Hi0 l i ≤ (rd A8 l.2.2.1 i).1
def Hj4 (l : Ef2) : Prop := (0 ≤ l.1 ∧ l.1 ≤ 1000000) ∧ (0 ≤ l.2.1 ∧ l.2.1 ≤ 100000) ∧ l.2.2.1.length ≤ 60 ∧ l.1 + l.2.2.1.length ≤ 1000000 ∧ Hi1 l
noncomputable def Ha5 (l : Ef2) : Bool := @decide (Hj4 l) (Classical.propDecidable _)
def Ft1 (l : Ef2) : Int := l.1 + l.2.2.1.length
def Ft2 (l : Ef2) (i : Int) : Int := if i = l.1 then l.2.1 else if i < l.1 ∨ i > Ft1 l then -1 else (rd A8 l.2.2.1 (i - l.1 - 1).toNat).1
noncomputable def Hd6 (a b : Ef2) (v : Int) : Bool := decide (v < Ft1 a) && (decide (v < Ft1 b) && eqd (rd A8 a.2.2.1 (v - a.1).toNat) (rd A8 b.2.2.1 (v - b.1).toNat))
noncomputable def shN (a b : Ef2) : Nat → Int → Int
 | 0, v => v
 | f + 1, v => bif Hd6 a b v then shN a b f (v + 1) else v
noncomputable def shared (a b : Ef2) : Int := bif Ha5 a && Ha5 b then (let s := if b.1 > a.1 then b.1 else a.1; if Ft2 a s < 0 then -1 else if Ft2 a s = Ft2 b s then shN a b 200 s else -1) else -1
end Go.Vm
end
section
namespace Go.Vm
open Go
theorem Eb0 (k : Nat) : ∀ n, P1 k n = P2 k n
 | 0 => rfl
 | n + 1 => by
  show (Al9 k (P1 k n).2, Am0 k (P1 k n).2 (P1 k n).1) = (Bu8 k (P2 k n).2, Bu9 k (P2 k n).2 (P2 k n).1)
  rw [Eb0 k n]; rfl
theorem Ft3 (k : Nat) (t : ByteArray) : Cr5 k t = Bu7 k t := by
 show bd ((P2 k k).1 4294967295 t 0) _ = bd ((P1 k k).1 4294967295 t 0) _
 rw [Eb0]
theorem Gw8 (t : ByteArray) (ht : t.size ≤ 1048576) : Re (fun k => Bu7 k t) (fun _ => True) := by
 refine Re.b1 (P := fun _ => True) ?_ fun v _ => Re.ret trivial
 refine Re.enter (f := fun k n => j4 k n 4294967295 t 0) C6 ?_
 have := Re.wf (l := fun k n (st : (Int × Nat) ⊕ (Int × Nat × Nat)) => match st with
  | .inl (a, i) => j4 k n a t (i : Int)
  | .inr (a, i, j) => Am1 k n a t (i : Int) (j : Int))
  (I := fun st => match st with
  | .inl (_, i) => i ≤ t.size
  | .inr (_, i, j) => i < t.size ∧ j ≤ 8)
  (fun st => match st with
  | .inl (_, i) => (t.size - i, 10)
  | .inr (_, i, j) => (t.size - i, 9 - j)) (Q := fun _ _ => True) (fun st hi ih => by
   rcases st with ⟨a, i⟩ | ⟨a, i, j⟩
   ·simp only at hi ih ⊢
    simp only [Eg0, Al9]
    refine Re.brd (fun h => Re.gdd (Int.natCast_nonneg _) (Re.gdd h ?_)) (fun h => Re.ret trivial)
    exact ih (.inr (_, i, 0)) ⟨by omega, by omega⟩ (.inr ⟨rfl, by simp only; omega⟩)
   ·obtain ⟨h1, h2⟩ := hi
    simp only at ih ⊢
    simp only [Eg1, Am0]
    have ej : B5 ((j : Int) + 1) = ((j + 1 : Nat) : Int) := by rw [D8 (by omega) (by omega)]; rfl
    have ei : B5 ((i : Int) + 1) = ((i + 1 : Nat) : Int) := by rw [D8 (by omega) (by omega)]; rfl
    refine Re.brd (fun h => Re.ng (Gu1 _) (Re.ng (Gu1 _) ?_)) (fun h => ?_)
    ·rw [ej]
     exact Re.brb (ih (.inr (_, i, j + 1)) ⟨h1, by omega⟩ (.inr ⟨rfl, by simp only; omega⟩)) (ih (.inr (_, i, j + 1)) ⟨h1, by omega⟩ (.inr ⟨rfl, by simp only; omega⟩))
    ·rw [ei]
     exact ih (.inl (a, i + 1)) (by simp only; omega) (.inl (by simp only; omega))) (.inl (4294967295, 0)) (Nat.zero_le _)
 exact this
noncomputable def Gw9 (t : ByteArray) : Int := @dite Int (t.size ≤ 1048576) (Classical.propDecidable _) (fun h => Classical.choose (Gw8 t h)) (fun _ => 0)
theorem Gx0 (t : ByteArray) (ht : t.size ≤ 1048576) : Ev (fun k => Bu7 k t) (Gw9 t) := by
 unfold Gw9
 rw [dif_pos ht]
 exact (Classical.choose_spec (Gw8 t ht)).2
def E46 (x : Int) : ByteArray := B6 [IntKind.wrap .u8 (Int.fdiv x (2 ^ 24)), IntKind.wrap .u8 (Int.fdiv x (2 ^ 16)), IntKind.wrap .u8 (Int.fdiv x (2 ^ 8)), IntKind.wrap .u8 x]
theorem Cm3 (x : Int) : (E46 x).size = 4 := by unfold E46; rw [H5]; rfl
theorem Gx1 (s : ByteArray) : (⟨#[]⟩ : ByteArray) ++ s = s := by apply A11; simp
end Go.Vm
end
section
namespace Go.Vm
open Go
def A18 (a b : ByteArray) : Bool := Op.bytesLess a.toList b.toList
def Ci0 (f : B4) : Prop := (1 ≤ f.1.size ∧ f.1.size ≤ 8) ∧ f.2.1.size ≤ 20000 ∧ 0 ≤ f.2.2.1 ∧ f.2.2.1 ≤ f.2.1.size
def B13 (d : List B4) : Prop := d.length ≤ 30 ∧ ∀ i, i < d.length → Ci0 (rd B0 d i) ∧ (0 < i → A18 (rd B0 d (i - 1)).1 (rd B0 d i).1 = true)
theorem Eb1 {l : Nat → Nat → Nat → Option Bool} {V : Bool} (d : List B4) (h : B13 d)
  (hs : ∀ i, i < d.length → ∀ k n, l k (n + 1) i = l k n (i + 1)) (he : ∀ k n, l k (n + 1) d.length = some V) : Ev (fun k => l k k 0) V :=
 Df7 d.length (fun i hi => ⟨0, fun k _ n => hs i hi k n⟩) ⟨0, fun k _ n => he k n⟩
theorem V5 (d : List B4) (h : B13 d) : Ev (fun k => F5 k (d, ())) true := by
 have hl := h.1
 have := Eb1 (l := fun k n i => c7 k n (i : Int) (d, ())) (V := true) d h (fun i hi k n => by
  obtain ⟨⟨⟨n1, n2⟩, t1, k1, k2⟩, hlt⟩ := h.2 i hi
  have d1 : decide ((i : Int) < (d.length : Int)) = true := decide_eq_true (by omega)
  have d2 : decide (0 ≤ (i : Int)) = true := decide_eq_true (Int.natCast_nonneg _)
  have d3 : X6 ((rd B0 d i).1.size : Int) 1 8 = true := G2.2 ⟨by omega, by omega⟩
  have d4 : decide (((rd B0 d i).2.1.size : Int) > 20000) = false := decide_eq_false (by omega)
  have d5 : X6 (rd B0 d i).2.2.1 0 ((rd B0 d i).2.1.size : Int) = true := G2.2 ⟨k1, k2⟩
  have ei : B5 ((i : Int) + 1) = ((i + 1 : Nat) : Int) := by rw [D8 (by omega) (by omega)]; rfl
  simp only [c7, Bf3, d1, d2, br_true, gd_true, Int.toNat_natCast, Q1, G8, bd_some, d3, Bool.not_true, br_false, d4, d5, ei]
  by_cases h0 : i = 0
  ·subst h0; rfl
  ·have d6 : decide ((i : Int) > 0) = true := decide_eq_true (by omega)
   have ep : B5 ((i : Int) - 1) = ((i - 1 : Nat) : Int) := by rw [D8 (by omega) (by omega)]; omega
   have d7 : decide (((i - 1 : Nat) : Int) < (d.length : Int)) = true := decide_eq_true (by omega)
   have d8 : decide (0 ≤ ((i - 1 : Nat) : Int)) = true := decide_eq_true (Int.natCast_nonneg _)
   have hb : Op.bytesLess (rd B0 d (i - 1)).1.toList (rd B0 d i).1.toList = true := hlt (by omega)
   simp only [d6, br_true, ep, d7, d8, gd_true, Int.toNat_natCast, hb, Bool.not_true, br_false]) (fun k n => by
  simp only [c7, Bf3, decide_eq_false (Int.lt_irrefl _), br_false])
 show Ev (fun k => br (decide ((d.length : Int) > 30)) (some false) (c7 k k 0 (d, ()))) true
 rw [show decide ((d.length : Int) > 30) = false from decide_eq_false (by omega)]
 exact this
theorem C80 (d : List B4) (h : B13 d) : Ev (fun k => Bp3 k (d, ())) true := by
 have hl := h.1
 have := Eb1 (l := fun k n i => w9 k n (d, ()) (i : Int)) (V := true) d h (fun i hi k n => by
  obtain ⟨⟨⟨n1, n2⟩, t1, k1, k2⟩, hlt⟩ := h.2 i hi
  have d1 : decide ((i : Int) < (d.length : Int)) = true := decide_eq_true (by omega)
  have d2 : decide (0 ≤ (i : Int)) = true := decide_eq_true (Int.natCast_nonneg _)
  have d3 : X6 ((rd B0 d i).1.size : Int) 1 8 = true := G2.2 ⟨by omega, by omega⟩
  have d4 : decide (((rd B0 d i).2.1.size : Int) > 20000) = false := decide_eq_false (by omega)
  have d5 : X6 (rd B0 d i).2.2.1 0 ((rd B0 d i).2.1.size : Int) = true := G2.2 ⟨k1, k2⟩
  have ei : B5 ((i : Int) + 1) = ((i + 1 : Nat) : Int) := by rw [D8 (by omega) (by omega)]; rfl
  simp only [w9, Bg6, d1, d2, br_true, gd_true, Int.toNat_natCast, Ac8, bd_some, d3, Bool.not_true, br_false, d4, d5, ei]
  by_cases h0 : i = 0
  ·subst h0; rfl
  ·have d6 : decide ((i : Int) > 0) = true := decide_eq_true (by omega)
   have ep : B5 ((i : Int) - 1) = ((i - 1 : Nat) : Int) := by rw [D8 (by omega) (by omega)]; omega
   have d7 : decide (((i - 1 : Nat) : Int) < (d.length : Int)) = true := decide_eq_true (by omega)
   have d8 : decide (0 ≤ ((i - 1 : Nat) : Int)) = true := decide_eq_true (Int.natCast_nonneg _)
   have hb : Op.bytesLess (rd B0 d (i - 1)).1.toList (rd B0 d i).1.toList = true := hlt (by omega)
   simp only [d6, br_true, ep, d7, d8, gd_true, Int.toNat_natCast, hb, Bool.not_true, br_false]) (fun k n => by
  simp only [w9, Bg6, decide_eq_false (Int.lt_irrefl _), br_false, decide_eq_true (show (d.length : Int) ≤ 30 by omega)])
 exact this
def atF : List B4 → ByteArray → Nat → Int
 | [], _, _ => -1
 | f :: r, nm, i => bif decide (f.1 = nm) then (i : Int) else atF r nm (i + 1)
theorem Eh9 (d : List B4) (nm : ByteArray) (hl : d.length ≤ 1000) : ∀ (m i : Nat), i + m = d.length → ∀ k n, m < n →
  Ah4 k n nm (i : Int) (d, ()) = some (atF (d.drop i) nm i) ∧ x9 k n (d, ()) (i : Int) nm = some (atF (d.drop i) nm i)
 | 0, i, hm, k, n, hn => by
  obtain ⟨n, rfl⟩ : ∃ q, n = q + 1 := ⟨n - 1, by omega⟩
  have d1 : decide ((i : Int) < (d.length : Int)) = false := decide_eq_false (by omega)
  rw [List.drop_eq_nil_of_le (by omega)]
  simp only [Ah4, Bs9, x9, Bg7, d1, br_false, atF, and_self]
 | m + 1, i, hm, k, n, hn => by
  obtain ⟨n, rfl⟩ : ∃ q, n = q + 1 := ⟨n - 1, by omega⟩
  have hi : i < d.length := by omega
  have d1 : decide ((i : Int) < (d.length : Int)) = true := decide_eq_true (by omega)
  have d2 : decide (0 ≤ (i : Int)) = true := decide_eq_true (Int.natCast_nonneg _)
  have ei : B5 ((i : Int) + 1) = ((i + 1 : Nat) : Int) := by rw [D8 (by omega) (by omega)]; rfl
  obtain ⟨h1, h2⟩ := Eh9 d nm hl m (i + 1) (by omega) k n (by omega)
  have hd : d.drop i = rd B0 d i :: d.drop (i + 1) := by rw [List.drop_eq_getElem_cons hi, ← E8 hi (z := B0)]
  simp only [Ah4, Bs9, x9, Bg7, d1, d2, br_true, gd_true, Int.toNat_natCast, ei, h1, h2, Y1, hd, atF]
  cases decide ((rd B0 d i).1 = nm) with
  | true => exact ⟨rfl, rfl⟩
  | false => exact ⟨rfl, rfl⟩
theorem E47 (d : List B4) (nm : ByteArray) (hl : d.length ≤ 1000) : Ev (fun k => Bf6 k (d, ()) nm) (atF d nm 0) ∧ Ev (fun k => B52 k (d, ()) nm) (atF d nm 0) :=
 ⟨⟨d.length + 1, fun k hk => (Eh9 d nm hl d.length 0 (Nat.zero_add _) k k (by omega)).1⟩, ⟨d.length + 1, fun k hk => (Eh9 d nm hl d.length 0 (Nat.zero_add _) k k (by omega)).2⟩⟩
theorem Dn6 : ∀ (d : List B4) (nm : ByteArray) (i : Nat), atF d nm i < 0 ∨ ((i : Int) ≤ atF d nm i ∧ atF d nm i < i + d.length)
 | [], _, _ => .inl (by show (-1 : Int) < 0; decide)
 | f :: r, nm, i => by
  unfold atF
  cases decide (f.1 = nm) with
  | true => exact .inr ⟨Int.le_refl _, by simp; omega⟩
  | false =>
   rcases Dn6 r nm (i + 1) with h | h
   ·exact .inl h
   ·exact .inr ⟨by simp only [cond_false]; omega, by simp only [cond_false, List.length_cons]; omega⟩
def Bb4 (f : B4) (x : B4) : Bool := !(A18 x.1 f.1 || decide (x.1 = f.1))
def As0 (d : List B4) (f : B4) : List B4 := d.filter (fun x => A18 x.1 f.1) ++ [f] ++ d.filter (Bb4 f)
theorem Ft4 (d : List B4) (f : B4) (hl : d.length ≤ 1000) : ∀ (m i : Nat) (xs : List B4), i + m = d.length → xs.length ≤ 3000 - m → ∀ k n, m < n →
  Ai7 k n (i : Int) (d, ()) f xs = some (xs ++ (d.drop i).filter (Bb4 f), ())
 | 0, i, xs, hm, _, k, n, hn => by
  obtain ⟨n, rfl⟩ : ∃ q, n = q + 1 := ⟨n - 1, by omega⟩
  have d1 : decide ((i : Int) < (d.length : Int)) = false := decide_eq_false (by omega)
  rw [List.drop_eq_nil_of_le (by omega)]
  simp only [Ai7, Bf4, d1, br_false, List.filter_nil, List.append_nil]
 | m + 1, i, xs, hm, hx, k, n, hn => by
  obtain ⟨n, rfl⟩ : ∃ q, n = q + 1 := ⟨n - 1, by omega⟩
  have hi : i < d.length := by omega
  have d1 : decide ((i : Int) < (d.length : Int)) = true := decide_eq_true (by omega)
  have d2 : decide (0 ≤ (i : Int)) = true := decide_eq_true (Int.natCast_nonneg _)
  have d3 : decide (xs.length + ([rd B0 d i] : List B4).length ≤ A3) = true := decide_eq_true (by simp; unfold A3; omega)
  have ei : B5 ((i : Int) + 1) = ((i + 1 : Nat) : Int) := by rw [D8 (by omega) (by omega)]; rfl
  have hd : d.drop i = rd B0 d i :: d.drop (i + 1) := by rw [List.drop_eq_getElem_cons hi, ← E8 hi (z := B0)]
  have h1 := Ft4 d f hl m (i + 1) xs (by omega) (by omega) k n (by omega)
  have h2 := Ft4 d f hl m (i + 1) (xs ++ [rd B0 d i]) (by omega) (by simp; omega) k n (by omega)
  simp only [Ai7, Bf4, d1, d2, d3, br_true, gd_true, Int.toNat_natCast, ei, h1, h2, Y1, hd]
  rw [List.filter_cons]
  have e : Bb4 f (rd B0 d i) = !(Op.bytesLess (rd B0 d i).1.toList f.1.toList || decide ((rd B0 d i).1 = f.1)) := rfl
  rw [e]
  cases (!(Op.bytesLess (rd B0 d i).1.toList f.1.toList || decide ((rd B0 d i).1 = f.1))) with
  | true => simp
  | false => simp
theorem Ft5 (d : List B4) (f : B4) (hl : d.length ≤ 1000) : ∀ (m i : Nat) (xs : List B4), i + m = d.length → xs.length ≤ i → ∀ k n, m + d.length + 1 < n →
  s8 k n (i : Int) (d, ()) f xs = some (xs ++ (d.drop i).filter (fun x => A18 x.1 f.1) ++ [f] ++ d.filter (Bb4 f), ())
 | 0, i, xs, hm, hx, k, n, hn => by
  obtain ⟨n, rfl⟩ : ∃ q, n = q + 1 := ⟨n - 1, by omega⟩
  have d1 : decide ((i : Int) < (d.length : Int)) = false := decide_eq_false (by omega)
  have d3 : decide (xs.length + ([f] : List B4).length ≤ A3) = true := decide_eq_true (by simp; unfold A3; omega)
  rw [List.drop_eq_nil_of_le (by omega)]
  have h1 := Ft4 d f hl d.length 0 (xs ++ [f]) (Nat.zero_add _) (by simp; omega) k n (by omega)
  rw [List.drop_zero] at h1
  simp only [s8, Bf5, d1, d3, br_false, gd_true, List.filter_nil, List.append_nil]
  exact h1
 | m + 1, i, xs, hm, hx, k, n, hn => by
  obtain ⟨n, rfl⟩ : ∃ q, n = q + 1 := ⟨n - 1, by omega⟩
  have hi : i < d.length := by omega
  have d1 : decide ((i : Int) < (d.length : Int)) = true := decide_eq_true (by omega)
  have d2 : decide (0 ≤ (i : Int)) = true := decide_eq_true (Int.natCast_nonneg _)
  have d3 : decide (xs.length + ([rd B0 d i] : List B4).length ≤ A3) = true := decide_eq_true (by simp; unfold A3; omega)
  have ei : B5 ((i : Int) + 1) = ((i + 1 : Nat) : Int) := by rw [D8 (by omega) (by omega)]; rfl
  have hd : d.drop i = rd B0 d i :: d.drop (i + 1) := by rw [List.drop_eq_getElem_cons hi, ← E8 hi (z := B0)]
  have h1 := Ft5 d f hl m (i + 1) xs (by omega) (by omega) k n (by omega)
  have h2 := Ft5 d f hl m (i + 1) (xs ++ [rd B0 d i]) (by omega) (by simp; omega) k n (by omega)
  simp only [s8, Bf5, d1, d2, d3, br_true, gd_true, Int.toNat_natCast, ei, h1, h2, hd]
  rw [List.filter_cons]
  have e : A18 (rd B0 d i).1 f.1 = Op.bytesLess (rd B0 d i).1.toList f.1.toList := rfl
  rw [e]
  cases Op.bytesLess (rd B0 d i).1.toList f.1.toList with
  | true => simp
  | false => simp
theorem Dn7 (d : List B4) (f : B4) (hl : d.length ≤ 1000) : Ev (fun k => G6 k (d, ()) f) (As0 d f, ()) :=
 ⟨d.length + d.length + 2, fun k hk => by
  have := Ft5 d f hl d.length 0 [] (Nat.zero_add _) (Nat.le_refl _) k k (by omega)
  rwa [List.drop_zero, List.nil_append] at this⟩
def Ce5 (d : List B4) (nm : ByteArray) : List B4 := d.filter fun x => !decide (x.1 = nm)
theorem Dn8 (d : List B4) (nm : ByteArray) (hl : d.length ≤ 1000) : ∀ (m i : Nat) (xs : List B4), i + m = d.length → xs.length ≤ i → ∀ k n, m < n →
  Q4 k n nm (i : Int) (d, ()) xs = some (xs ++ Ce5 (d.drop i) nm, ())
 | 0, i, xs, hm, _, k, n, hn => by
  obtain ⟨n, rfl⟩ : ∃ q, n = q + 1 := ⟨n - 1, by omega⟩
  have d1 : decide ((i : Int) < (d.length : Int)) = false := decide_eq_false (by omega)
  rw [List.drop_eq_nil_of_le (by omega)]
  simp only [Q4, Ag7, d1, br_false, Ce5, List.filter_nil, List.append_nil]
 | m + 1, i, xs, hm, hx, k, n, hn => by
  obtain ⟨n, rfl⟩ : ∃ q, n = q + 1 := ⟨n - 1, by omega⟩
  have hi : i < d.length := by omega
  have d1 : decide ((i : Int) < (d.length : Int)) = true := decide_eq_true (by omega)
  have d2 : decide (0 ≤ (i : Int)) = true := decide_eq_true (Int.natCast_nonneg _)
  have d3 : decide (xs.length + ([rd B0 d i] : List B4).length ≤ A3) = true := decide_eq_true (by simp; unfold A3; omega)
  have ei : B5 ((i : Int) + 1) = ((i + 1 : Nat) : Int) := by rw [D8 (by omega) (by omega)]; rfl
  have hd : d.drop i = rd B0 d i :: d.drop (i + 1) := by rw [List.drop_eq_getElem_cons hi, ← E8 hi (z := B0)]
  have h1 := Dn8 d nm hl m (i + 1) xs (by omega) (by omega) k n (by omega)
  have h2 := Dn8 d nm hl m (i + 1) (xs ++ [rd B0 d i]) (by omega) (by simp; omega) k n (by omega)
  unfold Ce5 at h1 h2 ⊢
  simp only [Q4, Ag7, d1, d2, d3, br_true, gd_true, Int.toNat_natCast, ei, h1, h2, Y1, hd]
  rw [List.filter_cons]
  cases decide ((rd B0 d i).1 = nm) with
  | true => simp
  | false => simp
theorem Gx2 (d : List B4) (nm : ByteArray) (hl : d.length ≤ 1000) : Ev (fun k => F9 k (d, ()) nm) (Ce5 d nm, ()) :=
 ⟨d.length + 1, fun k hk => by
  have := Dn8 d nm hl d.length 0 [] (Nat.zero_add _) (Nat.le_refl _) k k (by omega)
  rwa [List.drop_zero, List.nil_append] at this⟩
end Go.Vm
end
section
namespace Go.Vm
open Go
theorem noE : ¬ ((!(ByteArray.empty.toList == (⟨#[]⟩ : ByteArray).toList)) = true) := by
 rw [show ByteArray.empty = (⟨#[]⟩ : ByteArray) from rfl, beq_self_eq_true]
 decide
theorem Ge7 {d : List B4} {nm tx : ByteArray} {f : B4} (hd : B13 d) (hn : 1 ≤ nm.size ∧ nm.size ≤ 8) (hf : (atF d nm 0 < 0 ∧ f = (nm, tx, 0, ())) ∨ (0 ≤ atF d nm 0 ∧ f = ((rd B0 d (atF d nm 0).toNat).1, (rd B0 d (atF d nm 0).toNat).2.1 ++ tx, (rd B0 d (atF d nm 0).toNat).2.2.1, ())))
  (htx : tx.size ≤ 20000) (h' : B13 (As0 d f)) : Ev (fun k => Y2 k (d, ()) (1, nm, tx, ByteArray.empty, ())) ((As0 d f, ()), true) := by
 have hl : d.length ≤ 1000 := by have := hd.1; omega
 have hlt := Dn6 d nm 0
 refine Re.eq (Re.c1 (V5 d hd) (Re.br (b := false) (fun h => by cases h) (fun _ => ?_)))
 refine Re.s1 (v := true) (fun k => by show bd (D9 k (nm.size : Int) 1 8) _ = _; rw [G8, G2.2 ⟨by omega, by omega⟩]; rfl) (Re.br (b := false) (fun h => by cases h) (fun _ => ?_))
 refine Re.br (b := true) (fun _ => ?_) (fun h => by cases h)
 refine Re.br (fun h => absurd h noE) (fun _ => ?_)
 refine Re.br (b := false) (fun h => by cases h) (fun _ => ?_)
 refine Re.c1 (E47 d nm hl).1 (Re.brd (fun h => ?_) (fun h => ?_))
 ·rcases hf with ⟨h1, _⟩ | ⟨_, rfl⟩
  ·exact absurd h (by omega)
  have hi : (atF d nm 0).toNat < d.length := by omega
  have hfs := (hd.2 _ hi).1.2.1
  refine Re.gdd h (Re.gdd (by show atF d nm 0 < (d.length : Int); omega) (Re.br (b := true) (fun _ => ?_) (fun h => by cases h)))
  refine Re.gdd (by show (rd B0 d (atF d nm 0).toNat).2.1.size + tx.size ≤ A3; unfold A3; omega) (Re.c1 (Dn7 d _ hl) (Re.c1 (V5 _ h') (Re.br (b := false) (fun h => by cases h) (fun _ => Re.ret rfl))))
 ·rcases hf with ⟨_, rfl⟩ | ⟨h1, _⟩
  ·refine Re.br (b := true) (fun _ => ?_) (fun h => by cases h)
   refine Re.gdd (by show 0 + tx.size ≤ A3; unfold A3; omega) ?_
   have e : ByteArray.empty ++ tx = tx := Gx1 tx
   refine Re.c1 (v := (As0 d (nm, tx, 0, ()), ())) ((Dn7 d _ hl).congr fun k => by show G6 k (d, ()) (nm, ByteArray.empty ++ tx, 0, ()) = _; rw [e]) (Re.c1 (V5 _ h') (Re.br (b := false) (fun h => by cases h) (fun _ => Re.ret rfl)))
  ·exact absurd h1 h
theorem Gx3 {d : List B4} {nm : ByteArray} (hd : B13 d) (hn : 1 ≤ nm.size ∧ nm.size ≤ 8) {f : B4} (ha : 0 ≤ atF d nm 0) (hf : f = ((rd B0 d (atF d nm 0).toNat).1, (rd B0 d (atF d nm 0).toNat).2.1, (((rd B0 d (atF d nm 0).toNat).2.1.size : Nat) : Int), ()))
  (h' : B13 (As0 d f)) : Ev (fun k => Y2 k (d, ()) (2, nm, ByteArray.empty, ByteArray.empty, ())) ((As0 d f, ()), true) := by
 have hl : d.length ≤ 1000 := by have := hd.1; omega
 have hlt := Dn6 d nm 0
 subst hf
 refine Re.eq (Re.c1 (V5 d hd) (Re.br (b := false) (fun h => by cases h) (fun _ => ?_)))
 refine Re.s1 (v := true) (fun k => by show bd (D9 k (nm.size : Int) 1 8) _ = _; rw [G8, G2.2 ⟨by omega, by omega⟩]; rfl) (Re.br (b := false) (fun h => by cases h) (fun _ => ?_))
 refine Re.br (b := true) (fun _ => ?_) (fun h => by cases h)
 refine Re.br (fun h => absurd h noE) (fun _ => ?_)
 refine Re.br (b := true) (fun _ => ?_) (fun h => by cases h)
 refine Re.br (fun h => absurd h noE) (fun _ => ?_)
 refine Re.c1 (E47 d nm hl).1 (Re.brd (fun h => ?_) (fun h => absurd ha h))
 refine Re.gdd h (Re.gdd (by show atF d nm 0 < (d.length : Int); omega) (Re.br (b := false) (fun h => by cases h) (fun _ => ?_)))
 refine Re.brd (fun h => absurd ha (by omega)) (fun _ => Re.br (b := true) (fun _ => ?_) (fun h => by cases h))
 exact Re.c1 (Dn7 d _ hl) (Re.c1 (V5 _ h') (Re.br (b := false) (fun h => by cases h) (fun _ => Re.ret rfl)))
theorem Gx4 {d : List B4} {nm to : ByteArray} (hd : B13 d) (hn : 1 ≤ nm.size ∧ nm.size ≤ 8) (ht : 1 ≤ to.size ∧ to.size ≤ 8) (hne : to ≠ nm) {f : B4} (ha : 0 ≤ atF d nm 0) (hf : f = (to, (rd B0 d (atF d nm 0).toNat).2))
  (hk : (rd B0 d (atF d nm 0).toNat).2.2.1 = ((rd B0 d (atF d nm 0).toNat).2.1.size : Int)) (h' : B13 (As0 (Ce5 d nm) f)) : Ev (fun k => Y2 k (d, ()) (3, nm, ByteArray.empty, to, ())) ((As0 (Ce5 d nm) f, ()), true) := by
 have hl : d.length ≤ 1000 := by have := hd.1; omega
 have hl2 : (Ce5 d nm).length ≤ 1000 := Nat.le_trans (List.length_filter_le _ _) hl
 have hlt := Dn6 d nm 0
 subst hf
 refine Re.eq (Re.c1 (V5 d hd) (Re.br (b := false) (fun h => by cases h) (fun _ => ?_)))
 refine Re.s1 (v := true) (fun k => by show bd (D9 k (nm.size : Int) 1 8) _ = _; rw [G8, G2.2 ⟨by omega, by omega⟩]; rfl) (Re.br (b := false) (fun h => by cases h) (fun _ => ?_))
 refine Re.br (b := false) (fun h => by cases h) (fun _ => ?_)
 refine Re.br (b := true) (fun _ => ?_) (fun h => by cases h)
 refine Re.br (fun h => absurd h noE) (fun _ => ?_)
 refine Re.c1 (E47 d nm hl).1 (Re.brd (fun h => ?_) (fun h => absurd ha h))
 refine Re.gdd h (Re.gdd (by show atF d nm 0 < (d.length : Int); omega) (Re.br (b := false) (fun h => by cases h) (fun _ => ?_)))
 refine Re.brd (fun h => absurd ha (by omega)) (fun _ => Re.br (b := false) (fun h => by cases h) (fun _ => Re.br (b := true) (fun _ => ?_) (fun h => by cases h)))
 refine Re.brd (fun h => absurd h (by show ¬ (rd B0 d (atF d nm 0).toNat).2.2.1 < ((rd B0 d (atF d nm 0).toNat).2.1.size : Int); rw [hk]; omega)) (fun _ => ?_)
 refine Re.br (fun h => absurd (by rw [Y1] at h; exact of_decide_eq_true h) hne) (fun _ => ?_)
 refine Re.s1 (v := true) (fun k => by show bd (D9 k (to.size : Int) 1 8) _ = _; rw [G8, G2.2 ⟨by omega, by omega⟩]; rfl) (Re.br (b := false) (fun h => by cases h) (fun _ => ?_))
 exact Re.c1 (Gx2 d nm hl) (Re.c1 (Dn7 _ _ hl2) (Re.c1 (V5 _ h') (Re.br (b := false) (fun h => by cases h) (fun _ => Re.ret rfl))))
theorem Gx5 {d : List B4} {nm : ByteArray} (hd : B13 d) (hn : 1 ≤ nm.size ∧ nm.size ≤ 8) (ha : 0 ≤ atF d nm 0) (h' : B13 (Ce5 d nm)) :
  Ev (fun k => Y2 k (d, ()) (4, nm, ByteArray.empty, ByteArray.empty, ())) ((Ce5 d nm, ()), true) := by
 have hl : d.length ≤ 1000 := by have := hd.1; omega
 have hlt := Dn6 d nm 0
 refine Re.eq (Re.c1 (V5 d hd) (Re.br (b := false) (fun h => by cases h) (fun _ => ?_)))
 refine Re.s1 (v := true) (fun k => by show bd (D9 k (nm.size : Int) 1 8) _ = _; rw [G8, G2.2 ⟨by omega, by omega⟩]; rfl) (Re.br (b := false) (fun h => by cases h) (fun _ => ?_))
 refine Re.br (b := true) (fun _ => ?_) (fun h => by cases h)
 refine Re.br (fun h => absurd h noE) (fun _ => ?_)
 refine Re.br (b := true) (fun _ => ?_) (fun h => by cases h)
 refine Re.br (fun h => absurd h noE) (fun _ => ?_)
 refine Re.c1 (E47 d nm hl).1 (Re.brd (fun h => ?_) (fun h => absurd ha h))
 refine Re.gdd h (Re.gdd (by show atF d nm 0 < (d.length : Int); omega) (Re.br (b := false) (fun h => by cases h) (fun _ => ?_)))
 refine Re.brd (fun h => absurd ha (by omega)) (fun _ => Re.br (b := false) (fun h => by cases h) (fun _ => Re.br (b := false) (fun h => by cases h) (fun _ => Re.br (b := true) (fun _ => ?_) (fun h => by cases h))))
 exact Re.c1 (Gx2 d nm hl) (Re.c1 (V5 _ h') (Re.br (b := false) (fun h => by cases h) (fun _ => Re.ret rfl)))
inductive Done : List B4 → List I3 → List B4 → Prop where
 | nil {d} : Done d [] d
 | cons {d a r d1 d2} : Ev (fun k => Y2 k (d, ()) a) ((d1, ()), true) → Done d1 r d2 → Done d (a :: r) d2
theorem Eb2 (all : List I3) (hl : all.length ≤ 1000000) : ∀ (rest pre : List I3) (d d' : List B4), all = pre ++ rest → Done d rest d' →
  ∃ K, ∀ k, K ≤ k → ∀ n, rest.length < n → c8 k n all (pre.length : Int) d = some ((d', ()), (all.length : Int))
 | [], pre, d, d', hall, h => by
  cases h
  rw [List.append_nil] at hall
  subst hall
  refine ⟨0, fun k _ n hn => ?_⟩
  obtain ⟨n, rfl⟩ : ∃ q, n = q + 1 := ⟨n - 1, by simp at hn; omega⟩
  simp only [c8, Bf7, decide_eq_false (Int.lt_irrefl _), br_false]
 | a :: rest, pre, d, d', hall, h => by
  cases h with
  | @cons _ _ _ d1 _ h1 h2 =>
   obtain ⟨K1, h1⟩ := h1
   obtain ⟨K2, h2⟩ := Eb2 all hl rest (pre ++ [a]) d1 d' (by rw [hall]; simp) h2
   refine ⟨max K1 K2, fun k hk n hn => ?_⟩
   obtain ⟨n, rfl⟩ : ∃ q, n = q + 1 := ⟨n - 1, by simp at hn; omega⟩
   have hlen : all.length = pre.length + 1 + rest.length := by rw [hall]; simp; omega
   have hrd : rd Ha1 all pre.length = a := by rw [hall]; simp [rd]
   have e1 : Y2 k (d, ()) a = some ((d1, ()), true) := h1 k (by omega)
   have d1' : decide ((pre.length : Int) < (all.length : Int)) = true := decide_eq_true (by omega)
   have d2 : decide (0 ≤ (pre.length : Int)) = true := decide_eq_true (Int.natCast_nonneg _)
   have ei : B5 ((pre.length : Int) + 1) = ((pre ++ [a]).length : Int) := by rw [D8 (by omega) (by omega)]; simp
   have g := h2 k (by omega) n (by simp at hn; omega)
   simp only [c8, Bf7, d1', d2, br_true, gd_true, Int.toNat_natCast, hrd, e1, bd_some, Bool.not_true, br_false, ei]
   exact g
theorem G74 {d d' : List B4} {list : List I3} (hl : list.length ≤ 1000000) (hd : d.length ≤ 1000000) (h : Done d list d') : Ev (fun k => B40 k (d, ()) list) ((d', ()), (list.length : Int)) := by
 obtain ⟨K, hK⟩ := Eb2 list hl list [] d d' rfl h
 refine ⟨max K (list.length + 1), fun k hk => ?_⟩
 show gd (decide (([] : List B4).length + d.length ≤ A3)) (c8 k k list 0 ([] ++ d)) = _
 rw [decide_eq_true (by simp; unfold A3; omega)]
 exact hK k (by omega) k (by omega)
theorem Done.append {d1 d2 d3 : List B4} {a b : List I3} (h : Done d1 a d2) (k : Done d2 b d3) : Done d1 (a ++ b) d3 := by
 induction h with
 | nil => exact k
 | cons h1 _ ih => exact .cons h1 (ih k)
end Go.Vm
end
section
namespace Go.Vm
open Go
noncomputable def M1 (t : ByteArray) : ByteArray := t ++ E46 (Gw9 t)
theorem Bb5 (t : ByteArray) : (M1 t).size = t.size + 4 := by unfold M1; rw [F8, Cm3]
noncomputable def Dn9 (t : ByteArray) : ByteArray × Bool := if t.size ≤ 20000 then (M1 t, true) else (⟨#[]⟩, false)
theorem E48 (t : ByteArray) (h : t.size ≤ 1048576) : Ev (fun k => B50 k t) (Dn9 t) := by
 unfold Dn9
 refine Re.eq (Re.brd (fun q => ?_) (fun q => ?_))
 ·rw [if_neg (by omega)]; exact Re.ret rfl
 ·rw [if_pos (by omega)]
  exact Re.c1 (Gx0 t h) (Re.s1 (v := E46 (Gw9 t)) (fun _ => rfl) (Re.gdd (by rw [Cm3]; unfold A3; omega) (Re.ret rfl)))
theorem C81 (t : ByteArray) (h : t.size ≤ 1048576) : Ev (fun k => Bp2 k t) (Dn9 t) := by
 unfold Dn9
 refine Re.eq (Re.brd (fun q => ?_) (fun q => ?_))
 ·rw [if_neg (by omega)]; exact Re.ret rfl
 ·rw [if_pos (by omega)]
  exact Re.c1 ((Gx0 t h).congr fun k => Ft3 k t) (Re.gdd (by show t.size + (E46 (Gw9 t)).size ≤ A3; rw [Cm3]; unfold A3; omega) (Re.ret rfl))
theorem Ei0 {a b : ByteArray} (h : D3 a = D3 b) : a = b := by rw [← O1 a, h, O1]
theorem Gx6 (a b : ByteArray) : (a ++ b).extract 0 a.size = a := by
 apply Ei0
 rw [T4, List.drop_zero, Bk3, ← D5 a, List.take_left]
noncomputable def C11 (x : ByteArray) : ByteArray × Bool := if 4 ≤ x.size ∧ x.size ≤ 20004 ∧ M1 (x.extract 0 (x.size - 4)) = x then (x.extract 0 (x.size - 4), true) else (⟨#[]⟩, false)
theorem Gk2 (x : ByteArray) : (C11 x).1.size ≤ x.size := by
 unfold C11
 split
 ·rw [ByteArray.size_extract]; omega
 ·exact Nat.zero_le _
theorem Eb3 {t : ByteArray} (h : t.size ≤ 20000) : C11 (M1 t) = (t, true) := by
 have hs := Bb5 t
 have he : (M1 t).extract 0 ((M1 t).size - 4) = t := by
  rw [hs, Nat.add_sub_cancel]
  exact Gx6 _ _
 unfold C11
 rw [he, if_pos ⟨by omega, by omega, rfl⟩]
theorem Ci1 (x : ByteArray) (h : x.size ≤ 1048576) : Ev (fun k => Ba2 k x) (C11 x) := by
 unfold C11
 refine Re.eq (Re.brd (fun q => ?_) (fun q => ?_))
 ·rw [if_neg (fun z => by omega)]; exact Re.ret rfl
 ·have e : B5 ((x.size : Int) - 4) = ((x.size - 4 : Nat) : Int) := by rw [D8 (by omega) (by omega)]; omega
  simp only [e, Int.toNat_natCast]
  refine Re.gdd (by omega) (Re.gdd (by omega) (Re.c1 (C81 _ (by rw [ByteArray.size_extract]; omega)) ?_))
  have hsz : (x.extract 0 (x.size - 4)).size = x.size - 4 := by rw [ByteArray.size_extract]; omega
  unfold Dn9
  by_cases q2 : x.size ≤ 20004
  ·rw [if_pos (by omega)]
   refine Re.br (b := false) (fun h => by cases h) (fun _ => ?_)
   rw [Y1]
   by_cases q3 : M1 (x.extract 0 (x.size - 4)) = x
   ·rw [if_pos ⟨by omega, q2, q3⟩]
    exact Re.br (fun g => by rw [decide_eq_true q3] at g; cases g) (fun _ => Re.ret rfl)
   ·rw [if_neg (fun z => q3 z.2.2)]
    exact Re.br (fun _ => Re.ret rfl) (fun g => by rw [decide_eq_false q3] at g; cases g)
  ·rw [if_neg (by omega), if_neg (fun z => q2 z.2.1)]
   exact Re.br (b := true) (fun _ => Re.ret rfl) (fun h => by cases h)
noncomputable def I7 (s : E5) : ByteArray := ((G9 s.1 ++ G9 s.2.1) ++ J8 (B6 s.2.2.1)) ++ J8 s.2.2.2.1
noncomputable def Ci2 (s : E5) : ByteArray × Bool :=
 if X7 s.2.2.1 = true ∧ X6 s.1 0 1000000 = true ∧ X6 s.2.1 0 100000 = true ∧ s.2.2.2.1.size ≤ 20000 ∧ (I7 s).size ≤ 19996 then (M1 (I7 s), true) else (⟨#[]⟩, false)
theorem B71 {s : E5} (hc : X7 s.2.2.1 = true) (h1 : X6 s.1 0 1000000 = true) (h2 : X6 s.2.1 0 100000 = true) : (G9 s.1).size ≤ 5 ∧ (G9 s.2.1).size ≤ 5 ∧ (J8 (B6 s.2.2.1)).size ≤ 9 ∧ (B6 s.2.2.1).size ≤ 4 := by
 have hC := j7.1 hc
 have i1 := G2.1 h1
 have i2 := G2.1 h2
 have hl : (B6 s.2.2.1).size ≤ 4 := by rw [H5]; exact hC.2.1
 have n : (G9 ((B6 s.2.2.1).size : Int)).size ≤ 5 := G3 (by omega)
 exact ⟨G3 (by omega), G3 (by omega), by rw [Ax8]; omega, hl⟩
theorem Do0 (t : ByteArray) (h : t.size ≤ 20000) : (J8 t).size ≤ t.size + 5 := by
 have n : (G9 (t.size : Int)).size ≤ 5 := G3 (by omega)
 rw [Ax8]; omega
theorem Cm4 (s : E5) : (I7 s).size = (G9 s.1).size + (G9 s.2.1).size + (J8 (B6 s.2.2.1)).size + (J8 s.2.2.2.1).size := by unfold I7; rw [F8, F8, F8]
theorem Dx8 (s : E5) (hc : s.2.2.1.length ≤ 1048576) : Ev (fun k => A99 k s) (Ci2 s) := by
 unfold Ci2
 cases h1 : X7 s.2.2.1 with
 | false =>
  have hct : l7 s.2.2.1 = (⟨#[]⟩, false) := by unfold l7; rw [h1]; rfl
  rw [if_neg (fun z => by cases z.1)]
  exact Re.eq (Re.c1 ((Ch8 s.2.2.1 hc).congr_val (fun _ => rfl) hct) (Re.br (b := true) (fun _ => Re.ret rfl) (fun h => by cases h)))
 | true =>
  have hct : l7 s.2.2.1 = (B6 s.2.2.1, true) := by unfold l7; rw [h1]; rfl
  refine Re.eq (Re.c1 ((Ch8 s.2.2.1 hc).congr_val (fun _ => rfl) hct) ?_)
  refine Re.br (b := false) (fun h => by cases h) (fun _ => Re.s1 (G8 · _ _ _) ?_)
  cases h2 : X6 s.1 0 1000000 with
  | false =>
   rw [if_neg (fun z => by cases z.2.1)]
   exact Re.br (b := true) (fun _ => Re.ret rfl) (fun h => by cases h)
  | true =>
   refine Re.br (b := false) (fun h => by cases h) (fun _ => Re.s1 (G8 · _ _ _) ?_)
   cases h3 : X6 s.2.1 0 100000 with
   | false =>
    rw [if_neg (fun z => by cases z.2.2.1)]
    exact Re.br (b := true) (fun _ => Re.ret rfl) (fun h => by cases h)
   | true =>
    obtain ⟨p1, p2, p3, p4⟩ := B71 h1 h2 h3
    have i1 := G2.1 h2
    have i2 := G2.1 h3
    refine Re.br (b := false) (fun h => by cases h) (fun _ => Re.brd (fun q => ?_) (fun q => ?_))
    ·rw [if_neg (fun z => by have := z.2.2.2.1; omega)]
     exact Re.ret rfl
    have hb : s.2.2.2.1.size ≤ 20000 := by omega
    have p5 := Do0 _ hb
    have hz := Cm4 s
    refine Re.c1 (L5 s.1 (by omega) (by omega)) (Re.c1 (L5 s.2.1 (by omega) (by omega)) (Re.gdd (by unfold A3; omega) (Re.c1 (Ae5 _ (by show (B6 s.2.2.1).size ≤ _; omega)) (Re.gdd (by simp only [F8]; unfold A3; omega) (Re.c1 (Ae5 _ (by omega)) (Re.gdd (by simp only [F8]; unfold A3; omega) ?_))))))
    rw [show ((G9 s.1 ++ G9 s.2.1) ++ J8 (B6 s.2.2.1)) ++ J8 s.2.2.2.1 = I7 s from rfl]
    rw [show B5 (((I7 s).size : Int) + 4) = ((I7 s).size : Int) + 4 from D8 (by omega) (by omega)]
    refine Re.brd (fun q2 => ?_) (fun q2 => ?_)
    ·rw [if_neg (fun z => by have := z.2.2.2.2; omega)]
     exact Re.ret rfl
    ·rw [if_pos ⟨rfl, rfl, rfl, hb, by omega⟩]
     refine Re.c1 (E48 (I7 s) (by omega)) ?_
     unfold Dn9
     rw [if_pos (by omega)]
     exact Re.ret rfl
theorem Bk4 (s : E5) (hc : s.2.2.1.length ≤ 1048576) : Ev (fun k => Ah9 k s) (Ci2 s) := by
 unfold Ci2
 cases h1 : X7 s.2.2.1 with
 | false =>
  have hct : l7 s.2.2.1 = (⟨#[]⟩, false) := by unfold l7; rw [h1]; rfl
  rw [if_neg (fun z => by cases z.1)]
  exact Re.eq (Re.c1 ((Ch9 s.2.2.1 hc).congr_val (fun _ => rfl) hct) (Re.br (b := true) (fun _ => Re.ret rfl) (fun h => by cases h)))
 | true =>
  have hct : l7 s.2.2.1 = (B6 s.2.2.1, true) := by unfold l7; rw [h1]; rfl
  refine Re.eq (Re.c1 ((Ch9 s.2.2.1 hc).congr_val (fun _ => rfl) hct) ?_)
  refine Re.br (b := false) (fun h => by cases h) (fun _ => Re.s1 (Ac8 · _ _ _) ?_)
  cases h2 : X6 s.1 0 1000000 with
  | false =>
   rw [if_neg (fun z => by cases z.2.1)]
   exact Re.br (b := true) (fun _ => Re.ret rfl) (fun h => by cases h)
  | true =>
   refine Re.br (b := false) (fun h => by cases h) (fun _ => Re.s1 (Ac8 · _ _ _) ?_)
   cases h3 : X6 s.2.1 0 100000 with
   | false =>
    rw [if_neg (fun z => by cases z.2.2.1)]
    exact Re.br (b := true) (fun _ => Re.ret rfl) (fun h => by cases h)
   | true =>
    obtain ⟨p1, p2, p3, p4⟩ := B71 h1 h2 h3
    have i1 := G2.1 h2
    have i2 := G2.1 h3
    refine Re.br (b := false) (fun h => by cases h) (fun _ => Re.brd (fun q => ?_) (fun q => ?_))
    ·rw [if_neg (fun z => by have := z.2.2.2.1; omega)]
     exact Re.ret rfl
    have hb : s.2.2.2.1.size ≤ 20000 := by omega
    have p5 := Do0 _ hb
    have hz := Cm4 s
    have hv := Gj5 [s.1, s.2.1] (by simp) (fun n hn => by simp at hn; rcases hn with rfl | rfl <;> omega)
    rw [Gv2] at hv
    refine Re.c1 hv (Re.c1 (B68 _ (by show (B6 s.2.2.1).size ≤ _; omega)) (Re.c1 (B68 _ hb) (Re.gdd (by simp only [F8]; unfold A3; omega) (Re.gdd (by simp only [F8]; unfold A3; omega) ?_))))
    rw [show ((G9 s.1 ++ G9 s.2.1) ++ J8 (B6 s.2.2.1)) ++ J8 s.2.2.2.1 = I7 s from rfl]
    refine Re.c1 (C81 (I7 s) (by omega)) ?_
    unfold Dn9
    by_cases q2 : (I7 s).size ≤ 20000
    ·rw [if_pos q2]
     refine Re.br (b := false) (fun h => by cases h) (fun _ => ?_)
     rw [Bb5]
     refine Re.brd (fun q3 => ?_) (fun q3 => ?_)
     ·rw [if_neg (fun z => by have := z.2.2.2.2; omega)]
      exact Re.ret rfl
     ·rw [if_pos ⟨rfl, rfl, rfl, hb, by omega⟩]
      exact Re.ret rfl
    ·rw [if_neg q2, if_neg (fun z => by have := z.2.2.2.2; omega)]
     exact Re.br (b := true) (fun _ => Re.ret rfl) (fun h => by cases h)
def SnapP (s : E5) : Prop := Cu3 s.2.2.1 ∧ (0 ≤ s.1 ∧ s.1 ≤ 1000000) ∧ (0 ≤ s.2.1 ∧ s.2.1 ≤ 100000) ∧ s.2.2.2.1.size ≤ 13000
theorem SnapP.small {s : E5} (h : SnapP s) : (I7 s).size ≤ 13100 := by
 obtain ⟨h1, h2, h3, h4⟩ := h
 obtain ⟨p1, p2, p3, p4⟩ := B71 (j7.2 h1) (G2.2 h2) (G2.2 h3)
 have := Do0 s.2.2.2.1 (by omega)
 rw [Cm4]; omega
theorem SnapP.text {s : E5} (h : SnapP s) : Ci2 s = (M1 (I7 s), true) := by
 have := h.small
 obtain ⟨h1, h2, h3, h4⟩ := h
 unfold Ci2
 rw [if_pos ⟨j7.2 h1, G2.2 h2, G2.2 h3, by omega, by omega⟩]
theorem Gx7 {α : Type} {a : ByteArray} {enc : α → ByteArray} {ok : α → Prop} {d : α} {p q : Nat} {b b' : Bool} {x : α} (h : Rd a enc ok d p b x q b') (f : α → Nat) (hd : f d ≤ a.size) (he : ∀ y, f y ≤ (enc y).size) : f x ≤ a.size := by
 cases hb : b' with
 | true => rw [h.badv hb]; exact hd
 | false =>
  have h1 := (h.sound hb).2.1
  have h2 := h.hi
  have := he x
  omega
theorem Gx8 (t : ByteArray) : (Z6 t).1.length ≤ t.size := by
 unfold Z6
 cases X7 (Am8 t) with
 | true => simp only [cond_true]; rw [Av5]; exact Nat.le_refl _
 | false => exact Nat.zero_le _
theorem Gk3 {s : E5} : Ar9 (I7 s) 0 (G9 s.1 ++ (G9 s.2.1 ++ (J8 (B6 s.2.2.1) ++ J8 s.2.2.2.1))) := by
 have : I7 s = G9 s.1 ++ (G9 s.2.1 ++ (J8 (B6 s.2.2.1) ++ J8 s.2.2.2.1)) := by unfold I7; rw [ByteArray.append_assoc, ByteArray.append_assoc]
 rw [← this]
 exact Gj9 _
theorem Bk5 (x : ByteArray) (hx : x.size ≤ 1048576) : ∃ v : E5 × Bool, Ev (fun k => Ai0 k x) v ∧ ∀ s, SnapP s → x = M1 (I7 s) → v = (s, true) := by
 cases ho : (C11 x).2 with
 | false =>
  refine ⟨((0, 0, [], ByteArray.empty, ()), false), Re.eq (Re.c1 (Ci1 x hx) ?_), fun s hs e => ?_⟩
  ·rw [ho]
   exact Re.br (b := true) (fun _ => Re.ret rfl) (fun h => by cases h)
  ·rw [e, Eb3 (by have := hs.small; omega)] at ho
   cases ho
 | true =>
  have hu := Gk2 x
  obtain ⟨x1, q1, b1, R1, -, E1⟩ := Gw6 (C11 x).1 0 false (by omega) (Nat.zero_le _)
  obtain ⟨x2, q2, b2, R2, -, E2⟩ := Gw6 (C11 x).1 q1 b1 (by omega) R1.hi
  obtain ⟨x3, q3, b3, R3, E3⟩ := E43 (C11 x).1 q2 b2 (by omega) R2.hi
  have z3 : x3.size ≤ (C11 x).1.size := Gx7 R3 ByteArray.size (Nat.zero_le _) fun y => by rw [Ax8]; omega
  obtain ⟨x4, q4, b4, R4, E4⟩ := E43 (C11 x).1 q3 b3 (by omega) R3.hi
  have hc := Gx8 x3
  have key : ∃ v, Re (fun k => Ai0 k x) (fun w => w = v) ∧ v = (if b4 = true ∨ (Ci2 (x1, x2, (Z6 x3).1, x4, ())).2 = false ∨ (Ci2 (x1, x2, (Z6 x3).1, x4, ())).1 ≠ x then ((0, 0, [], ByteArray.empty, ()), false) else ((x1, x2, (Z6 x3).1, x4, ()), true)) := by
   refine ⟨_, Re.c1 (Ci1 x hx) ?_, rfl⟩
   rw [ho]
   refine Re.br (b := false) (fun h => by cases h) (fun _ => Re.c1 E1 (Re.c1 E2 (Re.c1 E3 (Re.c1 (Dx7 x3 (by omega)) (Re.c1 E4 (Re.c1 (Bk4 (x1, x2, (Z6 x3).1, x4, ()) (by simp only; omega)) ?_))))))
   cases hb : b4 with
   | true => rw [if_pos (.inl rfl)]; exact Re.br (b := true) (fun _ => Re.ret rfl) (fun h => by cases h)
   | false =>
    refine Re.br (b := false) (fun h => by cases h) (fun _ => ?_)
    cases hv : (Ci2 (x1, x2, (Z6 x3).1, x4, ())).2 with
    | false => rw [if_pos (.inr (.inl rfl))]; exact Re.br (b := true) (fun _ => Re.ret rfl) (fun h => by cases h)
    | true =>
     refine Re.br (b := false) (fun h => by cases h) (fun _ => ?_)
     rw [Y1]
     by_cases q : (Ci2 (x1, x2, (Z6 x3).1, x4, ())).1 = x
     ·rw [if_neg (fun z => by rcases z with z | z | z; cases z; cases z; exact z q)]
      exact Re.br (fun g => by rw [decide_eq_true q] at g; cases g) (fun _ => Re.ret rfl)
     ·rw [if_pos (.inr (.inr q))]
      exact Re.br (fun _ => Re.ret rfl) (fun g => by rw [decide_eq_false q] at g; cases g)
  obtain ⟨v, hv, he⟩ := key
  refine ⟨v, Re.eq hv, fun s hs e => ?_⟩
  have hsm := hs.small
  have hun : (C11 x).1 = I7 s := by rw [e, Eb3 (by omega)]
  obtain ⟨h1, h2, h3, h4⟩ := hs
  have hsit := Gk3 (s := s)
  rw [← hun] at hsit
  obtain ⟨c, hsit⟩ := Aj6.1 hsit
  obtain ⟨rfl, w1, rfl⟩ := R1.full rfl s.1 (by unfold E41; omega) c; rw [← w1] at hsit
  obtain ⟨c, hsit⟩ := Aj6.1 hsit
  obtain ⟨rfl, w2, rfl⟩ := R2.full rfl s.2.1 (by unfold E41; omega) c; rw [← w2] at hsit
  obtain ⟨c, hsit⟩ := Aj6.1 hsit
  obtain ⟨rfl, w3, rfl⟩ := R3.full rfl (B6 s.2.2.1) (by unfold E42; rw [H5]; have := h1.2.1; omega) c; rw [← w3] at hsit
  obtain ⟨rfl, w4, rfl⟩ := R4.full rfl s.2.2.2.1 (by unfold E42; omega) hsit
  have hrc : (Z6 (B6 s.2.2.1)).1 = s.2.2.1 := by unfold Z6; rw [Ft0 h1, j7.2 h1]; rfl
  have hP : SnapP s := ⟨h1, h2, h3, h4⟩
  rw [hrc] at he
  rw [he]
  refine if_neg ?_
  rintro (z | z | z)
  ·cases z
  ·have := hP.text
   rw [show ((s.1, s.2.1, s.2.2.1, s.2.2.2.1, ()) : E5) = s from rfl, this] at z
   cases z
  ·have := hP.text
   rw [show ((s.1, s.2.1, s.2.2.1, s.2.2.2.1, ()) : E5) = s from rfl, this] at z
   exact z e.symm
end Go.Vm
end
section
namespace Go.Vm
open Go
def P9 : ByteArray := ⟨#[115, 43]⟩
def nmS (n : Nat) : ByteArray := ⟨(115 :: Lib.decDigits n).toArray⟩
def nmC (c : Nat) : ByteArray := if c = 0 then P9 else nmS (c - 1)
def rkC (c : Nat) : Nat := if c ≤ 2 then c else if c ≤ 10 then c + 8 else c - 8
theorem Ax9 : ∀ i j : Fin 19, A18 (nmC i.1) (nmC j.1) = decide (rkC i.1 < rkC j.1) := by decide +kernel
theorem G76 : ∀ i j : Fin 19, rkC i.1 = rkC j.1 → i = j := by decide
theorem Gx9 : ∀ i : Fin 19, 1 ≤ (nmC i.1).size ∧ (nmC i.1).size ≤ 8 := by decide +kernel
def OkName (nm : ByteArray) : Prop := ∃ c : Fin 19, nm = nmC c.1
theorem ok_new : OkName P9 := ⟨⟨0, by decide⟩, rfl⟩
theorem C82 {n : Nat} (h : n ≤ 17) : OkName (nmS n) := ⟨⟨n + 1, by omega⟩, rfl⟩
theorem OkName.size {a : ByteArray} (h : OkName a) : 1 ≤ a.size ∧ a.size ≤ 8 := by obtain ⟨c, rfl⟩ := h; exact Gx9 c
theorem Ft6 {a b c : ByteArray} (ha : OkName a) (hb : OkName b) (hc : OkName c) (h1 : A18 a b = true) (h2 : A18 b c = true) : A18 a c = true := by
 obtain ⟨i, rfl⟩ := ha; obtain ⟨j, rfl⟩ := hb; obtain ⟨m, rfl⟩ := hc
 rw [Ax9] at h1 h2 ⊢
 have h1 := of_decide_eq_true h1
 have h2 := of_decide_eq_true h2
 exact decide_eq_true (by omega)
theorem E49 {a b : ByteArray} (ha : OkName a) (hb : OkName b) : a = b ∨ A18 a b = true ∨ A18 b a = true := by
 obtain ⟨i, rfl⟩ := ha; obtain ⟨j, rfl⟩ := hb
 rw [Ax9, Ax9]
 rcases Nat.lt_trichotomy (rkC i.1) (rkC j.1) with h | h | h
 ·exact .inr (.inl (decide_eq_true h))
 ·exact .inl (by rw [G76 i j h])
 ·exact .inr (.inr (decide_eq_true h))
theorem Bq0 {a b : ByteArray} (ha : OkName a) (hb : OkName b) (h : A18 a b = true) : A18 b a = false ∧ a ≠ b := by
 obtain ⟨i, rfl⟩ := ha; obtain ⟨j, rfl⟩ := hb
 rw [Ax9] at h ⊢
 have h := of_decide_eq_true h
 refine ⟨decide_eq_false (by omega), fun e => ?_⟩
 have h1 := Ax9 i j
 have h2 := Ax9 j j
 rw [e, h2] at h1
 have : decide (rkC i.1 < rkC j.1) = true := decide_eq_true h
 rw [this] at h1
 have := of_decide_eq_true h1
 omega
def numS (nm : ByteArray) : Int := match (List.range 18).find? fun n => decide (nmS n = nm) with
 | some n => (n : Int)
 | none => -1
theorem B72 : ∀ c : Fin 19, numS (nmC c.1) = (c.1 : Int) - 1 := by decide +kernel
theorem Cu4 : numS P9 = -1 := B72 ⟨0, by decide⟩
theorem Bw6 {n : Nat} (h : n ≤ 17) : numS (nmS n) = (n : Int) := by
 have := B72 ⟨n + 1, by omega⟩
 show numS (nmC (n + 1)) = _
 rw [this]
 show ((n + 1 : Nat) : Int) - 1 = _
 omega
theorem G77 {a b : ByteArray} (ha : OkName a) (hb : OkName b) (h : numS a = numS b) : a = b := by
 obtain ⟨i, rfl⟩ := ha; obtain ⟨j, rfl⟩ := hb
 rw [B72, B72] at h
 have : i.1 = j.1 := by omega
 rw [this]
theorem Gy0 {a : ByteArray} (ha : OkName a) (h : numS a < 0) : a = P9 := by
 obtain ⟨i, rfl⟩ := ha
 rw [B72] at h
 have : i.1 = 0 := by omega
 rw [this]; rfl
theorem Ge8 {n : Nat} (h : n ≤ 17) : nmS n ≠ P9 := fun e => by
 have h1 := Bw6 h
 rw [e, Cu4] at h1
 omega
theorem E50 (n : Nat) : (⟨#[115]⟩ : ByteArray) ++ U0 n = nmS n := by apply A11; simp [nmS, U0]
theorem Dx9 {n : Nat} (h : n ≤ 17) : Ev (fun k => At4 k (n : Int)) (nmS n) := by
 refine Re.eq (Re.s1 (G8 · _ _ _) ?_)
 rw [G2.2 ⟨by omega, by omega⟩]
 have hz := Bp8 (m := n) (by omega)
 exact Re.br (b := false) (fun h => by cases h) (fun _ => Re.c1 (E37 n (by omega)) (Re.gdd (by show 1 + _ ≤ A3; unfold A3; omega) (Re.ret (E50 n))))
theorem Gy1 {n : Nat} (h : n < 100) (k : Nat) : A78 k (n : Int) = some (U0 n) := by
 have : D60 (n : Int) = some (U0 n) := by unfold D60; rw [if_pos ⟨by omega, by omega⟩, Int.toNat_natCast]
 unfold A78 Bv1
 rw [this]
 rfl
theorem Ci3 {n : Nat} (h : n ≤ 17) : Ev (fun k => w8 k (n : Int)) (nmS n) := by
 refine Re.eq (Re.s1 (Ac8 · _ _ _) ?_)
 rw [G2.2 ⟨by omega, by omega⟩]
 have hz := Bp8 (m := n) (by omega)
 exact Re.br (b := false) (fun h => by cases h) (fun _ => Re.s1 (Gy1 (by omega) ·) (Re.gdd (by show 1 + _ ≤ A3; unfold A3; omega) (Re.ret (E50 n))))
theorem Ei1 (k : Nat) : X4 k P9 (⟨#[115]⟩ : ByteArray) 1000000 = some (-1) := by kernel_rfl
theorem E51 {n : Nat} (hn : n ≤ 17) (k : Nat) : X4 k (nmS n) (⟨#[115]⟩ : ByteArray) 1000000 = some (n : Int) := by
 have all : ∀ i : Fin 18, X4 k (nmS i.1) (⟨#[115]⟩ : ByteArray) 1000000 = some (i.1 : Int) := fun i => by
  match i with
  | ⟨0, _⟩ => (show _ = some _; kernel_rfl)
  | ⟨1, _⟩ => (show _ = some _; kernel_rfl)
  | ⟨2, _⟩ => (show _ = some _; kernel_rfl)
  | ⟨3, _⟩ => (show _ = some _; kernel_rfl)
  | ⟨4, _⟩ => (show _ = some _; kernel_rfl)
  | ⟨5, _⟩ => (show _ = some _; kernel_rfl)
  | ⟨6, _⟩ => (show _ = some _; kernel_rfl)
  | ⟨7, _⟩ => (show _ = some _; kernel_rfl)
  | ⟨8, _⟩ => (show _ = some _; kernel_rfl)
  | ⟨9, _⟩ => (show _ = some _; kernel_rfl)
  | ⟨10, _⟩ => (show _ = some _; kernel_rfl)
  | ⟨11, _⟩ => (show _ = some _; kernel_rfl)
  | ⟨12, _⟩ => (show _ = some _; kernel_rfl)
  | ⟨13, _⟩ => (show _ = some _; kernel_rfl)
  | ⟨14, _⟩ => (show _ = some _; kernel_rfl)
  | ⟨15, _⟩ => (show _ = some _; kernel_rfl)
  | ⟨16, _⟩ => (show _ = some _; kernel_rfl)
  | ⟨17, _⟩ => (show _ = some _; kernel_rfl)
  | ⟨n + 18, h⟩ => exact absurd h (by omega)
 exact all ⟨n, by omega⟩
theorem Do1 {nm : ByteArray} (h : OkName nm) (k : Nat) : X4 k nm (⟨#[115]⟩ : ByteArray) 1000000 = some (numS nm) := by
 obtain ⟨⟨c, hc⟩, rfl⟩ := h
 cases c with
 | zero => exact (Ei1 k).trans (by rw [show numS (nmC 0) = -1 from Cu4])
 | succ n => exact (E51 (n := n) (by omega) k).trans (congrArg some (show (n : Int) = numS (nmC (n + 1)) from (Bw6 (by omega)).symm))
end Go.Vm
end
section
namespace Go.Vm
open Go
def SnapD (d : List B4) : Prop := d.length ≤ 10 ∧ (∀ f ∈ d, OkName f.1 ∧ Ci0 f) ∧ d.Pairwise fun f g => A18 f.1 g.1 = true
theorem Cd7 {α : Type} {z : α} {xs : List α} {i : Nat} (h : i < xs.length) : rd z xs i ∈ xs := by rw [E8 h]; exact List.getElem_mem _
theorem SnapD.disk {d : List B4} (h : SnapD d) : B13 d := by
 obtain ⟨h1, h2, h3⟩ := h
 refine ⟨by omega, fun i hi => ⟨(h2 _ (Cd7 hi)).2, fun h0 => ?_⟩⟩
 rw [E8 hi, E8 (show i - 1 < d.length by omega)]
 exact List.pairwise_iff_getElem.1 h3 (i - 1) i (by omega) hi (by omega)
theorem SnapD.off {d : List B4} (h : SnapD d) (nm : ByteArray) : SnapD (Ce5 d nm) := by
 obtain ⟨h1, h2, h3⟩ := h
 exact ⟨Nat.le_trans (List.length_filter_le _ _) h1, fun f hf => h2 f (List.mem_filter.1 hf).1, h3.filter _⟩
theorem SnapD.put {d : List B4} (h : SnapD d) {f : B4} (hf : OkName f.1) (hp : Ci0 f) (hl : d.length ≤ 9) : SnapD (As0 d f) := by
 obtain ⟨h1, h2, h3⟩ := h
 have mem : ∀ g, g ∈ As0 d f → g = f ∨ g ∈ d := fun g hg => by
  unfold As0 at hg
  rw [List.mem_append, List.mem_append, List.mem_singleton] at hg
  rcases hg with (hg | hg) | hg
  ·exact .inr (List.mem_filter.1 hg).1
  ·exact .inl hg
  ·exact .inr (List.mem_filter.1 hg).1
 refine ⟨?_, fun g hg => ?_, ?_⟩
 ·unfold As0
  have : (d.filter fun x => A18 x.1 f.1).length + (d.filter (Bb4 f)).length ≤ d.length := by
   clear h1 h3 hl mem
   induction d with
   | nil => simp
   | cons g r ih =>
    have ih := ih fun x hx => h2 x (List.mem_cons_of_mem _ hx)
    rw [List.filter_cons, List.filter_cons]
    cases hg : A18 g.1 f.1 with
    | true =>
     have : Bb4 f g = false := by unfold Bb4; rw [hg]; rfl
     rw [this]; simp; omega
    | false => cases Bb4 f g <;> simp <;> omega
  simp only [List.length_append, List.length_singleton]
  omega
 ·rcases mem g hg with rfl | hg
  ·exact ⟨hf, hp⟩
  ·exact h2 g hg
 ·unfold As0
  rw [List.pairwise_append, List.pairwise_append]
  refine ⟨⟨h3.filter _, List.pairwise_singleton _ _, fun a ha b hb => ?_⟩, h3.filter _, fun a ha b hb => ?_⟩
  ·rw [List.mem_singleton] at hb
   subst hb
   exact (List.mem_filter.1 ha).2
  ·obtain ⟨b1, b2⟩ := List.mem_filter.1 hb
   have hb2 : A18 f.1 b.1 = true := by
    unfold Bb4 at b2
    rcases E49 (h2 b b1).1 hf with e | e | e
    ·rw [decide_eq_true e] at b2; simp at b2
    ·rw [e] at b2; cases b2
    ·exact e
   rw [List.mem_append, List.mem_singleton] at ha
   rcases ha with ha | rfl
   ·obtain ⟨a1, a2⟩ := List.mem_filter.1 ha
    exact Ft6 (h2 a a1).1 hf (h2 b b1).1 a2 hb2
   ·exact hb2
theorem SnapD.uniq {d : List B4} (h : SnapD d) {f g : B4} (hf : f ∈ d) (hg : g ∈ d) (e : f.1 = g.1) : f = g := by
 obtain ⟨h1, h2, h3⟩ := h
 obtain ⟨i, hi, rfl⟩ := List.getElem_of_mem hf
 obtain ⟨j, hj, rfl⟩ := List.getElem_of_mem hg
 have hP := List.pairwise_iff_getElem.1 h3
 rcases Nat.lt_trichotomy i j with q | q | q
 ·exact absurd e (Bq0 (h2 _ (List.getElem_mem hi)).1 (h2 _ (List.getElem_mem hj)).1 (hP i j hi hj q)).2
 ·subst q; rfl
 ·exact absurd e.symm (Bq0 (h2 _ (List.getElem_mem hj)).1 (h2 _ (List.getElem_mem hi)).1 (hP j i hj hi q)).2
theorem Ei2 : ∀ (d : List B4) (nm : ByteArray) (i : Nat), (∀ f ∈ d, f.1 ≠ nm) → atF d nm i = -1
 | [], _, _, _ => rfl
 | f :: r, nm, i, h => by
  unfold atF
  rw [decide_eq_false (h f List.mem_cons_self)]
  exact Ei2 r nm (i + 1) fun g hg => h g (List.mem_cons_of_mem _ hg)
theorem Ge9 : ∀ (d : List B4) (nm : ByteArray) (i : Nat) (f : B4), f ∈ d → f.1 = nm → ∃ j, j < d.length ∧ atF d nm i = ((i + j : Nat) : Int) ∧ (rd B0 d j).1 = nm
 | g :: r, nm, i, f, hf, e => by
  unfold atF
  by_cases q : g.1 = nm
  ·rw [decide_eq_true q]
   exact ⟨0, by simp, rfl, q⟩
  ·rw [decide_eq_false q]
   have hfr : f ∈ r := by
    rcases List.mem_cons.1 hf with rfl | h
    ·exact absurd e q
    ·exact h
   obtain ⟨j, h1, h2, h3⟩ := Ge9 r nm (i + 1) f hfr e
   refine ⟨j + 1, by simp; omega, ?_, h3⟩
   simp only [cond_false]
   rw [h2]
   congr 1; omega
theorem SnapD.at {d : List B4} (h : SnapD d) {f : B4} (hf : f ∈ d) : 0 ≤ atF d f.1 0 ∧ rd B0 d (atF d f.1 0).toNat = f := by
 obtain ⟨j, h1, h2, h3⟩ := Ge9 d f.1 0 f hf rfl
 rw [h2]
 refine ⟨by omega, ?_⟩
 have : (((0 + j : Nat) : Int)).toNat = j := by omega
 rw [this]
 exact h.uniq (Cd7 h1) hf h3
theorem Ft7 {d : List B4} (h : SnapD d) {f : B4} (hf : f ∈ d) : Ev (fun k => Y2 k (d, ()) (4, f.1, ByteArray.empty, ByteArray.empty, ())) ((Ce5 d f.1, ()), true) :=
 Gx5 h.disk ((h.2.1 f hf).1.size) (h.at hf).1 (h.off f.1).disk
theorem Ft8 {d : List B4} (h : SnapD d) (hl : d.length ≤ 9) {nm T : ByteArray} {z : Int} (hf : (nm, T, z, ()) ∈ d) : Ev (fun k => Y2 k (d, ()) (2, nm, ByteArray.empty, ByteArray.empty, ())) ((As0 d (nm, T, (T.size : Int), ()), ()), true) := by
 obtain ⟨a1, a2⟩ := h.at hf
 obtain ⟨n1, n2, n3, n4, n5⟩ := h.2.1 _ hf
 have hp : Ci0 (nm, T, (T.size : Int), ()) := ⟨n2, n3, by show (0 : Int) ≤ T.size; omega, by show (T.size : Int) ≤ T.size; omega⟩
 exact Gx3 h.disk n1.size a1 (by rw [a2]) (h.put (f := (nm, T, (T.size : Int), ())) n1 hp hl).disk
theorem Ft9 {d : List B4} (h : SnapD d) (hl : d.length ≤ 9) {nm to T : ByteArray} (hto : OkName to) (hne : to ≠ nm) (hf : (nm, T, (T.size : Int), ()) ∈ d) :
  Ev (fun k => Y2 k (d, ()) (3, nm, ByteArray.empty, to, ())) ((As0 (Ce5 d nm) (to, T, (T.size : Int), ()), ()), true) := by
 obtain ⟨a1, a2⟩ := h.at hf
 obtain ⟨n1, n2, n3, n4, n5⟩ := h.2.1 _ hf
 have hp : Ci0 (to, T, (T.size : Int), ()) := ⟨hto.size, n3, by show (0 : Int) ≤ T.size; omega, by show (T.size : Int) ≤ T.size; omega⟩
 exact Gx4 h.disk n1.size hto.size hne a1 (by rw [a2]) (by rw [a2]) ((h.off nm).put hto hp (Nat.le_trans (List.length_filter_le _ _) hl)).disk
theorem E52 {d : List B4} (h : SnapD d) (hl : d.length ≤ 9) {nm T : ByteArray} (hn : OkName nm) (hT : T.size ≤ 20000) (hf : ∀ f ∈ d, f.1 ≠ nm) :
  Ev (fun k => Y2 k (d, ()) (1, nm, T, ByteArray.empty, ())) ((As0 d (nm, T, 0, ()), ()), true) :=
 Ge7 h.disk hn.size (.inl ⟨by rw [Ei2 d nm 0 hf]; decide, rfl⟩) hT (h.put hn ⟨hn.size, hT, Int.le_refl 0, by show (0 : Int) ≤ T.size; omega⟩ hl).disk
theorem Fu0 {d : List B4} (h : SnapD d) (hl : d.length ≤ 9) {nm T X : ByteArray} (hT : (T ++ X).size ≤ 20000) (hf : (nm, T, 0, ()) ∈ d) :
  Ev (fun k => Y2 k (d, ()) (1, nm, X, ByteArray.empty, ())) ((As0 d (nm, T ++ X, 0, ()), ()), true) := by
 obtain ⟨a1, a2⟩ := h.at hf
 obtain ⟨n1, n2, n3, n4, n5⟩ := h.2.1 _ hf
 have hp : Ci0 (nm, T ++ X, 0, ()) := ⟨n2, hT, Int.le_refl 0, by show (0 : Int) ≤ (T ++ X).size; omega⟩
 exact Ge7 h.disk n1.size (.inr ⟨a1, by rw [a2]⟩) (by rw [F8] at hT; omega) (h.put (f := (nm, T ++ X, 0, ())) n1 hp hl).disk
theorem put_mem {d : List B4} {f g : B4} : g ∈ As0 d f ↔ g = f ∨ (g ∈ d ∧ (A18 g.1 f.1 = true ∨ Bb4 f g = true)) := by
 unfold As0
 rw [List.mem_append, List.mem_append, List.mem_singleton, List.mem_filter, List.mem_filter]
 constructor
 ·rintro ((⟨a, b⟩ | a) | ⟨a, b⟩)
  ·exact .inr ⟨a, .inl b⟩
  ·exact .inl a
  ·exact .inr ⟨a, .inr b⟩
 ·rintro (a | ⟨a, b | b⟩)
  ·exact .inl (.inr a)
  ·exact .inl (.inl ⟨a, b⟩)
  ·exact .inr ⟨a, b⟩
theorem SnapD.put_mem {d : List B4} (h : SnapD d) {f g : B4} (hf : OkName f.1) : g ∈ As0 d f ↔ g = f ∨ (g ∈ d ∧ g.1 ≠ f.1) := by
 rw [Vm.put_mem]
 constructor
 ·rintro (a | ⟨a, b⟩)
  ·exact .inl a
  ·refine .inr ⟨a, fun e => ?_⟩
   have h0 : A18 f.1 f.1 = false := by
    obtain ⟨i, hi⟩ := hf
    rw [hi, Ax9]; exact decide_eq_false (Nat.lt_irrefl _)
   rcases b with b | b
   ·rw [e, h0] at b; cases b
   ·unfold Bb4 at b
    rw [decide_eq_true e] at b; simp at b
 ·rintro (a | ⟨a, b⟩)
  ·exact .inl a
  ·refine .inr ⟨a, ?_⟩
   rcases E49 (h.2.1 g a).1 hf with e | e | e
   ·exact absurd e b
   ·exact .inl e
   ·right
    unfold Bb4
    rw [decide_eq_false b, (Bq0 hf (h.2.1 g a).1 e).1]; rfl
theorem Ei3 {d : List B4} {nm : ByteArray} {g : B4} : g ∈ Ce5 d nm ↔ g ∈ d ∧ g.1 ≠ nm := by
 unfold Ce5
 rw [List.mem_filter]
 exact ⟨fun ⟨a, b⟩ => ⟨a, by simpa using b⟩, fun ⟨a, b⟩ => ⟨a, by simpa using b⟩⟩
theorem SnapD.ext : ∀ {d e : List B4}, SnapD d → SnapD e → (∀ f, f ∈ d ↔ f ∈ e) → d = e
 | [], [], _, _, _ => rfl
 | [], g :: _, _, _, h => absurd ((h g).2 List.mem_cons_self) (by simp)
 | f :: _, [], _, _, h => absurd ((h f).1 List.mem_cons_self) (by simp)
 | f :: d, g :: e, hd, he, h => by
  obtain ⟨d1, d2, d3⟩ := hd
  obtain ⟨e1, e2, e3⟩ := he
  rw [List.pairwise_cons] at d3 e3
  have hfg : f = g := by
   rcases List.mem_cons.1 ((h f).1 List.mem_cons_self) with q | q
   ·exact q
   ·rcases List.mem_cons.1 ((h g).2 List.mem_cons_self) with q2 | q2
    ·exact q2.symm
    ·have a := e3.1 f q
     have b := d3.1 g q2
     have := (Bq0 (e2 g List.mem_cons_self).1 (d2 f List.mem_cons_self).1 a).1
     rw [b] at this; cases this
  subst hfg
  have irr : ∀ {l : List B4}, (∀ x ∈ l, A18 f.1 x.1 = true) → f ∉ l := fun hl hm => by
   have h1 := hl f hm
   rw [(Bq0 (d2 f List.mem_cons_self).1 (d2 f List.mem_cons_self).1 h1).1] at h1
   cases h1
  have hi : ∀ x, x ∈ d ↔ x ∈ e := fun x => by
   have := h x
   rw [List.mem_cons, List.mem_cons] at this
   constructor
   ·intro hx
    rcases this.1 (.inr hx) with rfl | q
    ·exact absurd hx (irr d3.1)
    ·exact q
   ·intro hx
    rcases this.2 (.inr hx) with rfl | q
    ·exact absurd hx (irr e3.1)
    ·exact q
  rw [SnapD.ext ⟨by simp at d1; omega, fun x hx => d2 x (List.mem_cons_of_mem _ hx), d3.2⟩ ⟨by simp at e1; omega, fun x hx => e2 x (List.mem_cons_of_mem _ hx), e3.2⟩ hi]
abbrev Am9 (f : B4) : I3 := (4, f.1, ByteArray.empty, ByteArray.empty, ())
theorem Do2 : ∀ (L : List B4) {d : List B4}, SnapD d → (∀ f ∈ L, f ∈ d) → L.Pairwise (fun f g => f.1 ≠ g.1) → ∃ d', Done d (L.map Am9) d' ∧ SnapD d' ∧ ∀ g, g ∈ d' ↔ g ∈ d ∧ ∀ f ∈ L, g.1 ≠ f.1
 | [], d, h, _, _ => ⟨d, .nil, h, fun g => by simp⟩
 | f :: L, d, h, hm, hp => by
  rw [List.pairwise_cons] at hp
  obtain ⟨d', a1, a2, a3⟩ := Do2 L (h.off f.1) (fun g hg => Ei3.2 ⟨hm g (List.mem_cons_of_mem _ hg), fun e => hp.1 g hg e.symm⟩) hp.2
  refine ⟨d', .cons (Ft7 h (hm f List.mem_cons_self)) a1, a2, fun g => ?_⟩
  rw [a3, Ei3]
  constructor
  ·rintro ⟨⟨b1, b2⟩, b3⟩
   exact ⟨b1, fun x hx => by
    rcases List.mem_cons.1 hx with rfl | hx
    ·exact b2
    ·exact b3 x hx⟩
  ·rintro ⟨b1, b2⟩
   exact ⟨⟨b1, b2 f List.mem_cons_self⟩, fun x hx => b2 x (List.mem_cons_of_mem _ hx)⟩
theorem SnapD.names {d : List B4} (h : SnapD d) : d.Pairwise fun f g => f.1 ≠ g.1 := by
 obtain ⟨h1, h2, h3⟩ := h
 rw [List.pairwise_iff_getElem] at h3 ⊢
 intro i j hi hj hij
 exact (Bq0 (h2 _ (List.getElem_mem hi)).1 (h2 _ (List.getElem_mem hj)).1 (h3 i j hi hj hij)).2
end Go.Vm
end
section
namespace Go.Vm
open Go
structure GoodF (f : B4) (n : Nat) (t : E5) : Prop where
 file : f = (nmS n, M1 (I7 t), ((M1 (I7 t)).size : Int), ())
 num : t.1 = (n : Int)
 ok : SnapP t
 le : n ≤ 17
def GoodD (d : List B4) : Prop := SnapD d ∧ ∀ f ∈ d, f.1 = P9 ∨ ∃ n t, GoodF f n t
def Bk6 : E5 := (0, 0, [], ByteArray.empty, ())
noncomputable def Eb4 (f : B4) : E5 := @dite E5 (∃ t, SnapP t ∧ f.2.1 = M1 (I7 t)) (Classical.propDecidable _) (fun h => Classical.choose h) (fun _ => Bk6)
theorem Gk4 {t u : E5} (h : SnapP t) (k : SnapP u) (e : M1 (I7 t) = M1 (I7 u)) : t = u := by
 obtain ⟨v, -, hv⟩ := Bk5 (M1 (I7 t)) (by rw [Bb5]; have := h.small; omega)
 have h1 := hv t h rfl
 have h2 := hv u k e
 rw [h1] at h2
 exact (Prod.mk.inj h2).1
theorem GoodF.snap {f : B4} {n : Nat} {t : E5} (h : GoodF f n t) : Eb4 f = t := by
 have hx : ∃ t, SnapP t ∧ f.2.1 = M1 (I7 t) := ⟨t, h.ok, by rw [h.file]⟩
 unfold Eb4
 rw [dif_pos hx]
 obtain ⟨h1, h2⟩ := Classical.choose_spec hx
 refine Gk4 h1 h.ok ?_
 rw [← h2, h.file]
theorem GoodF.numS {f : B4} {n : Nat} {t : E5} (h : GoodF f n t) : Vm.numS f.1 = (n : Int) := by rw [h.file]; exact Bw6 h.le
theorem GoodD.good {d : List B4} (h : GoodD d) {f : B4} (hf : f ∈ d) (hn : 0 ≤ numS f.1) : ∃ n t, GoodF f n t := by
 rcases h.2 f hf with e | e
 ·rw [e, Cu4] at hn; omega
 ·exact e
noncomputable def An0 (b : E5 × Bool) (f : B4) : E5 × Bool := if 0 ≤ numS f.1 ∧ (b.2 = false ∨ b.1.1 < numS f.1) then (Eb4 f, true) else b
noncomputable def T5 (d : List B4) : E5 × Bool := d.foldl An0 (Bk6, false)
theorem Eb5 {d : List B4} {i : Nat} (hi : i < d.length) : (d.take (i + 1)).foldl An0 (Bk6, false) = An0 ((d.take i).foldl An0 (Bk6, false)) (rd B0 d i) := by
 rw [List.take_add_one, List.getElem?_eq_getElem hi, List.foldl_append, E8 hi]
 rfl
theorem Do3 {d : List B4} (h : GoodD d) : ∀ i, i ≤ d.length → ∀ b, b = (d.take i).foldl An0 (Bk6, false) →
  (b.2 = true → ∃ f ∈ d.take i, 0 ≤ numS f.1 ∧ b.1 = Eb4 f ∧ b.1.1 = numS f.1 ∧ ∀ g ∈ d.take i, numS g.1 ≤ numS f.1) ∧ (b.2 = false → b = (Bk6, false) ∧ ∀ g ∈ d.take i, numS g.1 < 0)
 | 0, _, b, hb => by
  subst hb
  exact ⟨(fun h => by cases h), fun _ => ⟨rfl, fun g hg => by simp at hg⟩⟩
 | i + 1, hi, b, hb => by
  have hl : i < d.length := by omega
  have hm : rd B0 d i ∈ d := Cd7 hl
  have et : d.take (i + 1) = d.take i ++ [rd B0 d i] := by rw [List.take_add_one, List.getElem?_eq_getElem hl, E8 hl]; rfl
  rw [Eb5 hl] at hb
  obtain ⟨g1, g2⟩ := Do3 h i (by omega) _ rfl
  generalize (d.take i).foldl An0 (Bk6, false) = b0 at hb g1 g2
  unfold An0 at hb
  by_cases q : 0 ≤ numS (rd B0 d i).1 ∧ (b0.2 = false ∨ b0.1.1 < numS (rd B0 d i).1)
  ·rw [if_pos q] at hb
   subst hb
   obtain ⟨n, t, hg⟩ := h.good hm q.1
   refine ⟨fun _ => ⟨rd B0 d i, by rw [et]; simp, q.1, rfl, by show (Eb4 _).1 = _; rw [hg.snap, hg.numS, hg.num], fun g hgm => ?_⟩, fun h => by cases h⟩
   rw [et, List.mem_append, List.mem_singleton] at hgm
   rcases hgm with hgm | rfl
   ·rcases q.2 with e | e
    ·have := (g2 e).2 g hgm; omega
    ·cases hb0 : b0.2 with
     | false => have := (g2 hb0).2 g hgm; omega
     | true =>
      obtain ⟨f, f1, f2, f3, f4, f5⟩ := g1 hb0
      have := f5 g hgm
      omega
   ·exact Int.le_refl _
  ·rw [if_neg q] at hb
   subst hb
   refine ⟨fun hb => ?_, fun hb => ?_⟩
   ·obtain ⟨f, f1, f2, f3, f4, f5⟩ := g1 hb
    refine ⟨f, by rw [et]; exact List.mem_append.2 (.inl f1), f2, f3, f4, fun g hgm => ?_⟩
    rw [et, List.mem_append, List.mem_singleton] at hgm
    rcases hgm with hgm | rfl
    ·exact f5 g hgm
    ·have : ¬ (0 ≤ numS (rd B0 d i).1 ∧ b.1.1 < numS (rd B0 d i).1) := fun z => q ⟨z.1, .inr z.2⟩
     omega
   ·obtain ⟨e1, e2⟩ := g2 hb
    refine ⟨e1, fun g hgm => ?_⟩
    rw [et, List.mem_append, List.mem_singleton] at hgm
    rcases hgm with hgm | rfl
    ·exact e2 g hgm
    ·have : ¬ 0 ≤ numS (rd B0 d i).1 := fun z => q ⟨z, .inl hb⟩
     omega
theorem E53 {d : List B4} (h : GoodD d) (hb : (T5 d).2 = true) : ∃ f ∈ d, 0 ≤ numS f.1 ∧ (T5 d).1 = Eb4 f ∧ (T5 d).1.1 = numS f.1 ∧ ∀ g ∈ d, numS g.1 ≤ numS f.1 := by
 have := (Do3 h d.length (Nat.le_refl _) _ rfl).1
 rw [List.take_length] at this
 exact this hb
theorem G78 {d : List B4} (h : GoodD d) (hb : (T5 d).2 = false) : T5 d = (Bk6, false) ∧ ∀ g ∈ d, numS g.1 < 0 := by
 have := (Do3 h d.length (Nat.le_refl _) _ rfl).2
 rw [List.take_length] at this
 exact this hb
theorem G79 {d : List B4} (h : GoodD d) {f : B4} {n : Nat} {t : E5} (hf : f ∈ d) (hg : GoodF f n t) (hmax : ∀ g ∈ d, numS g.1 ≤ n) : T5 d = (t, true) := by
 cases hb : (T5 d).2 with
 | false =>
  have := (G78 h hb).2 f hf
  rw [hg.numS] at this; omega
 | true =>
  obtain ⟨f', f1, f2, f3, f4, f5⟩ := E53 h hb
  have e1 : numS f'.1 = numS f.1 := by
   have := f5 f hf
   have := hmax f' f1
   rw [hg.numS] at *; omega
  have e2 : f' = f := h.1.uniq f1 hf (G77 (h.1.2.1 f' f1).1 (h.1.2.1 f hf).1 e1)
  rw [e2, hg.snap] at f3
  exact Prod.ext f3 hb
theorem C83 {d : List B4} (h : GoodD d) : Ev (fun k => Ac7 k (d, ())) (T5 d) := by
 have hl := h.1.1
 refine Re.eq (Re.c1 (C80 d h.1.disk) (Re.br (b := false) (fun h => by cases h) (fun _ => ?_)))
 refine Re.enter (f := fun k n => O0 k n false (d, ()) 0 0 0 ByteArray.empty []) C6 ?_
 have := Re.loop (ι := Nat) (l := fun k n (s : Nat × E5 × Bool) => O0 k n s.2.2 (d, ()) (s.1 : Int) s.2.1.1 s.2.1.2.1 s.2.1.2.2.2.1 s.2.1.2.2.1) (I := fun s => s.1 ≤ d.length ∧ s.2 = (d.take s.1).foldl An0 (Bk6, false)) (fun s => d.length - s.1) (Q := fun _ v => v = T5 d) (fun s hi ih => by
  obtain ⟨i, b, o⟩ := s
  obtain ⟨i1, i2⟩ := hi
  simp only at i1 i2 ih ⊢
  simp only [O0, A14, Int.toNat_natCast]
  refine Re.brd (fun q => ?_) (fun q => Re.ret ?_)
  ·have hl : i < d.length := by omega
   have hm : rd B0 d i ∈ d := Cd7 hl
   have hn := (h.1.2.1 _ hm).1
   have hsz := (h.1.2.1 _ hm).2.2.1
   obtain ⟨v, hv, hgood⟩ := Bk5 (rd B0 d i).2.1 (by omega)
   have step := Eb5 hl
   rw [← i2] at step
   unfold An0 at step
   rw [C5 hl (by omega)]
   refine Re.gdd (by omega) (Re.gdd q (Re.s2 (Do1 hn ·) (Re.c2 hv (Re.brd (fun c => ?_) (fun c => ?_)))))
   ·obtain ⟨n, t, hg⟩ := h.good hm c
    have ev := hgood t hg.ok (by rw [hg.file])
    rw [ev]
    refine Re.br (b := true) (fun _ => ?_) (fun h => by cases h)
    have e2 : t.1 = numS (rd B0 d i).1 := by rw [hg.num, hg.numS]
    refine Re.bre (fun _ => ?_) (fun z => absurd e2 z)
    have take : (o = false ∨ b.1 < numS (rd B0 d i).1) → Re (fun x : Nat × Nat => O0 x.1 x.2 true (d, ()) ((i + 1 : Nat) : Int) t.1 t.2.1 t.2.2.2.1 t.2.2.1) (fun v => v = T5 d) := fun hc => by
     rw [if_pos ⟨c, hc⟩, hg.snap] at step
     exact ih (i + 1, t, true) ⟨by simp only; omega, step.symm⟩ (by simp only; omega)
    cases o with
    | false => exact Re.br (b := true) (fun _ => take (.inl rfl)) (fun h => by cases h)
    | true =>
     refine Re.br (b := false) (fun h => by cases h) (fun _ => Re.brd (fun z => take (.inr z)) (fun z => ?_))
     rw [if_neg (fun y => y.2.elim (fun y => by cases y) z)] at step
     exact ih (i + 1, b, true) ⟨by simp only; omega, step.symm⟩ (by simp only; omega)
   ·rw [if_neg (fun y => c y.1)] at step
    exact ih (i + 1, b, o) ⟨by simp only; omega, step.symm⟩ (by simp only; omega)
  ·have : i = d.length := by omega
   subst this
   rw [List.take_length] at i2
   exact i2) (0, Bk6, false) ⟨Nat.zero_le _, rfl⟩
 exact this
noncomputable def Gf0 (d : List B4) : List B4 := if (T5 d).2 = true then d.filter (fun f => !decide (numS f.1 = (T5 d).1.1)) else []
theorem Gk5 {d : List B4} (h : GoodD d) : Ev (fun k => Ba6 k (d, ())) ((Gf0 d).map Am9) := by
 have hl := h.1.1
 unfold Gf0
 refine Re.eq (Re.c1 (C83 h) ?_)
 cases hb : (T5 d).2 with
 | false => rw [if_neg (by decide)]; exact Re.br (b := true) (fun _ => Re.ret rfl) (fun h => by cases h)
 | true =>
  rw [if_pos rfl]
  obtain ⟨f, f1, f2, f3, f4, f5⟩ := E53 h hb
  refine Re.br (b := false) (fun h => by cases h) (fun _ => ?_)
  refine Re.enter (f := fun k n => P4 k n (d, ()) 0 (T5 d) []) C6 ?_
  have := Re.loop (ι := Nat) (l := fun k n (i : Nat) => P4 k n (d, ()) (i : Int) (T5 d) (((d.take i).filter (fun f => !decide (numS f.1 = (T5 d).1.1))).map Am9)) (I := fun i => i ≤ d.length) (fun i => d.length - i) (Q := fun _ v => v = (d.filter (fun f => !decide (numS f.1 = (T5 d).1.1))).map Am9) (fun i hi ih => by
   simp only [P4, Bk0, Int.toNat_natCast]
   refine Re.brd (fun q => ?_) (fun q => Re.ret (by rw [List.take_of_length_le (by omega)]))
   have hl : i < d.length := by omega
   have hm : rd B0 d i ∈ d := Cd7 hl
   have hn := (h.1.2.1 _ hm).1
   have next := ih (i + 1) (by omega) (by omega)
   have et : d.take (i + 1) = d.take i ++ [rd B0 d i] := by rw [List.take_add_one, List.getElem?_eq_getElem hl, E8 hl]; rfl
   have hlen : (((d.take i).filter (fun f => !decide (numS f.1 = (T5 d).1.1))).map Am9).length ≤ 10 := by
    rw [List.length_map]
    exact Nat.le_trans (List.length_filter_le _ _) (by simp; omega)
   rw [et, List.filter_append, List.map_append] at next
   rw [C5 hl (by omega)]
   have yes : numS (rd B0 d i).1 ≠ (T5 d).1.1 → Re (fun x : Nat × Nat => gd (decide ((((d.take i).filter (fun f => !decide (numS f.1 = (T5 d).1.1))).map Am9).length + ([(4, (rd B0 d i).1, ByteArray.empty, ByteArray.empty, ())] : List I3).length ≤ A3)) (P4 x.1 x.2 (d, ()) ((i + 1 : Nat) : Int) (T5 d) ((((d.take i).filter (fun f => !decide (numS f.1 = (T5 d).1.1))).map Am9) ++ ([(4, (rd B0 d i).1, ByteArray.empty, ByteArray.empty, ())] : List I3)))) (fun v => v = (d.filter (fun f => !decide (numS f.1 = (T5 d).1.1))).map Am9) := fun hne => by
    have e : [rd B0 d i].filter (fun f => !decide (numS f.1 = (T5 d).1.1)) = [rd B0 d i] := by simp [hne]
    rw [e] at next
    exact Re.gdd (by simp only [List.length_singleton]; unfold A3; omega) next
   have no : numS (rd B0 d i).1 = (T5 d).1.1 → Re (fun x : Nat × Nat => P4 x.1 x.2 (d, ()) ((i + 1 : Nat) : Int) (T5 d) (((d.take i).filter (fun f => !decide (numS f.1 = (T5 d).1.1))).map Am9)) (fun v => v = (d.filter (fun f => !decide (numS f.1 = (T5 d).1.1))).map Am9) := fun he => by
    have e : [rd B0 d i].filter (fun f => !decide (numS f.1 = (T5 d).1.1)) = [] := by simp [he]
    rw [e, List.map_nil, List.append_nil] at next
    exact next
   refine Re.gdd (by omega) (Re.gdd q (Re.s2 (Do1 hn ·) ?_))
   rw [Y1]
   by_cases c : (rd B0 d i).1 = P9
   ·refine Re.br (fun _ => yes ?_) (fun g => by rw [show (⟨#[115, 43]⟩ : ByteArray) = P9 from rfl, decide_eq_true c] at g; cases g)
    rw [c, Cu4, f4]; omega
   ·refine Re.br (fun g => absurd (of_decide_eq_true g) c) (fun _ => Re.brd (fun z => Re.brn (fun w => yes w) (fun w => no w)) (fun z => ?_))
    exact absurd (Gy0 hn (by omega)) c) 0 (Nat.zero_le _)
  simpa using this
end Go.Vm
end
section
namespace Go.Vm
open Go
def M9 (T : ByteArray) : Nat → Nat → List I3
 | 0, _ => []
 | m + 1, a => if a < T.size then (1, P9, T.extract a (min (a + 60) T.size), ByteArray.empty, ()) :: M9 T m (a + 60) else []
theorem C12 (T : ByteArray) : ∀ m a, (M9 T m a).length ≤ m
 | 0, _ => Nat.le_refl _
 | m + 1, a => by
  unfold M9
  split
  ·have := C12 T m (a + 60); simp; omega
  ·simp
theorem Gy2 (T : ByteArray) {a e : Nat} (h : a ≤ e) : T.extract 0 a ++ T.extract a e = T.extract 0 e := by
 apply Ei0
 rw [Bk3, T4, T4, T4, List.drop_zero, List.drop_zero]
 have : (D3 T).take a = ((D3 T).take e).take a := by rw [List.take_take, Nat.min_eq_left h]
 rw [this, List.take_append_drop]
theorem Gy3 (T : ByteArray) : T.extract 0 T.size = T := by
 apply Ei0
 rw [T4, List.drop_zero, ← D5 T, List.take_length]
abbrev Cm5 (d : List B4) (X : ByteArray) (z : Nat) : List B4 := As0 d (P9, X, (z : Int), ())
structure Base (d : List B4) : Prop where
 ok : SnapD d
 few : d.length ≤ 5
 no : ∀ f ∈ d, f.1 ≠ P9
theorem Base.beg {d : List B4} (h : Base d) {X : ByteArray} {z : Nat} (hX : X.size ≤ 20000) (hz : z ≤ X.size) : SnapD (Cm5 d X z) ∧ (Cm5 d X z).length ≤ 9 ∧ ∀ g, g ∈ Cm5 d X z ↔ g = (P9, X, (z : Int), ()) ∨ g ∈ d := by
 have hp : Ci0 (P9, X, (z : Int), ()) := ⟨ok_new.size, hX, by show (0 : Int) ≤ z; omega, by show (z : Int) ≤ X.size; omega⟩
 have hs := h.ok.put ok_new hp (by have := h.few; omega)
 refine ⟨hs, ?_, fun g => ?_⟩
 ·have h1 : (d.filter fun x => A18 x.1 P9).length ≤ 5 := Nat.le_trans (List.length_filter_le _ _) h.few
  have h2 : (d.filter (Bb4 (P9, X, (z : Int), ()))).length ≤ 5 := Nat.le_trans (List.length_filter_le _ _) h.few
  have h3 := hs.1
  unfold Cm5 As0
  simp only [List.length_append, List.length_singleton]
  have : (d.filter fun x => A18 x.1 P9).length + (d.filter (Bb4 (P9, X, (z : Int), ()))).length ≤ 8 := by
   have h0 : d.filter (fun x => A18 x.1 P9) = [] := by
    apply List.filter_eq_nil_iff.2
    intro f hf
    obtain ⟨⟨c, hc⟩, _⟩ := h.ok.2.1 f hf
    show ¬ A18 f.1 P9 = true
    rw [hc, show P9 = nmC (⟨0, by decide⟩ : Fin 19).1 from rfl, Ax9]
    simp [rkC]
   rw [h0]; simp; omega
  omega
 ·rw [h.ok.put_mem (f := (P9, X, (z : Int), ())) ok_new]
  constructor
  ·rintro (a | ⟨a, _⟩)
   ·exact .inl a
   ·exact .inr a
  ·rintro (a | a)
   ·exact .inl a
   ·exact .inr ⟨a, h.no g a⟩
theorem Base.re {d : List B4} (h : Base d) {X Y : ByteArray} {z y : Nat} (hX : X.size ≤ 20000) (hz : z ≤ X.size) (hY : Y.size ≤ 20000) (hy : y ≤ Y.size) : As0 (Cm5 d X z) (P9, Y, (y : Int), ()) = Cm5 d Y y := by
 obtain ⟨b1, b2, b3⟩ := h.beg hX hz
 obtain ⟨c1, c2, c3⟩ := h.beg hY hy
 have hp : Ci0 (P9, Y, (y : Int), ()) := ⟨ok_new.size, hY, by show (0 : Int) ≤ y; omega, by show (y : Int) ≤ Y.size; omega⟩
 refine (b1.put ok_new hp b2).ext c1 fun g => ?_
 rw [b1.put_mem (f := (P9, Y, (y : Int), ())) ok_new, c3, b3]
 constructor
 ·rintro (a | ⟨a | a, b⟩)
  ·exact .inl a
  ·exact absurd (by rw [a]) b
  ·exact .inr a
 ·rintro (a | a)
  ·exact .inl a
  ·exact .inr ⟨.inr a, h.no g a⟩
theorem C84 {d : List B4} (h : Base d) {T : ByteArray} (hT : T.size ≤ 20000) : ∀ (m a w : Nat), a ≤ T.size → ∃ b, a ≤ b ∧ b ≤ T.size ∧ Done (Cm5 d (T.extract 0 a) 0) ((M9 T m a).take w) (Cm5 d (T.extract 0 b) 0) ∧ (T.size ≤ a + 60 * m → (M9 T m a).length ≤ w → b = T.size)
 | 0, a, w, ha => ⟨a, Nat.le_refl _, ha, by unfold M9; rw [List.take_nil]; exact .nil, fun h _ => by omega⟩
 | m + 1, a, 0, ha => ⟨a, Nat.le_refl _, ha, .nil, fun _ h => by
  unfold M9 at h
  split at h
  ·simp at h
  ·omega⟩
 | m + 1, a, w + 1, ha => by
  unfold M9
  by_cases q : a < T.size
  ·rw [if_pos q]
   obtain ⟨b, b1, b2, b3, b4⟩ := C84 h hT m (min (a + 60) T.size) w (by omega)
   have hsz : (T.extract 0 a).size = a := by rw [ByteArray.size_extract]; omega
   have hsz2 : (T.extract 0 (min (a + 60) T.size)).size = min (a + 60) T.size := by rw [ByteArray.size_extract]; omega
   have hj : T.extract 0 a ++ T.extract a (min (a + 60) T.size) = T.extract 0 (min (a + 60) T.size) := Gy2 T (by omega)
   obtain ⟨c1, c2, c3⟩ := h.beg (X := T.extract 0 a) (z := 0) (by omega) (Nat.zero_le _)
   have act := Fu0 c1 c2 (nm := P9) (T := T.extract 0 a) (X := T.extract a (min (a + 60) T.size)) (by rw [hj]; omega) ((c3 _).2 (.inl rfl))
   rw [hj] at act
   have e := h.re (X := T.extract 0 a) (Y := T.extract 0 (min (a + 60) T.size)) (z := 0) (y := 0) (by omega) (Nat.zero_le _) (by omega) (Nat.zero_le _)
   have e2 : As0 (Cm5 d (T.extract 0 a) 0) (P9, T.extract 0 (min (a + 60) T.size), 0, ()) = Cm5 d (T.extract 0 (min (a + 60) T.size)) 0 := e
   rw [e2] at act
   by_cases q2 : a + 60 ≤ T.size
   ·rw [Nat.min_eq_left q2] at b1 b3 act b4
    exact ⟨b, by omega, b2, by rw [List.take_succ_cons, Nat.min_eq_left q2]; exact .cons act b3, fun h1 h2 => b4 (by omega) (by simp at h2; omega)⟩
   ·have hlast : M9 T m (a + 60) = [] := by
     cases m with
     | zero => rfl
     | succ m => unfold M9; rw [if_neg (by omega)]
    have em : min (a + 60) T.size = T.size := by omega
    refine ⟨T.size, by omega, Nat.le_refl _, ?_, fun _ _ => rfl⟩
    rw [hlast, List.take_succ_cons, List.take_nil, em]
    rw [em] at act
    exact .cons act .nil
  ·rw [if_neg q, List.take_nil]
   exact ⟨a, Nat.le_refl _, ha, .nil, fun _ _ => by omega⟩
theorem Ei4 {d : List B4} (h : Base d) {T : ByteArray} (hT : T.size ≤ 20000) (h0 : 0 < T.size) (m w : Nat) : (w = 0 ∧ Done d ((M9 T (m + 1) 0).take w) d) ∨ ∃ b, b ≤ T.size ∧ Done d ((M9 T (m + 1) 0).take w) (Cm5 d (T.extract 0 b) 0) ∧ (T.size ≤ 60 * (m + 1) → (M9 T (m + 1) 0).length ≤ w → b = T.size) := by
 cases w with
 | zero => exact .inl ⟨rfl, .nil⟩
 | succ w =>
  right
  unfold M9
  rw [if_pos h0]
  obtain ⟨b, b1, b2, b3, b4⟩ := C84 h hT m (min (0 + 60) T.size) w (by omega)
  have hsz2 : (T.extract 0 (min (0 + 60) T.size)).size = min (0 + 60) T.size := by rw [ByteArray.size_extract]; omega
  have act := E52 h.ok (by have := h.few; omega) (nm := P9) (T := T.extract 0 (min (0 + 60) T.size)) ok_new (by omega) h.no
  have act' : Ev (fun k => Y2 k (d, ()) (1, P9, T.extract 0 (min (0 + 60) T.size), ByteArray.empty, ())) ((Cm5 d (T.extract 0 (min (0 + 60) T.size)) 0, ()), true) := act
  by_cases q2 : 0 + 60 ≤ T.size
  ·rw [Nat.min_eq_left q2] at b1 b3 act' b4
   exact ⟨b, b2, by rw [List.take_succ_cons, Nat.min_eq_left q2]; exact .cons act' b3, fun h1 h2 => b4 (by omega) (by simp at h2; omega)⟩
  ·have hlast : M9 T m (0 + 60) = [] := by
    cases m with
    | zero => rfl
    | succ m => unfold M9; rw [if_neg (by omega)]
   have em : min (0 + 60) T.size = T.size := by omega
   refine ⟨T.size, Nat.le_refl _, ?_, fun _ _ => rfl⟩
   rw [hlast, List.take_succ_cons, List.take_nil, em]
   rw [em] at act'
   exact .cons act' .nil
structure DrawnS (d : List B4) (s : E5) (n : Nat) : Prop where
 base : Base d
 two : d.length ≤ 5
 good : ∀ f ∈ d, ∃ m t, GoodF f m t ∧ m ≤ 8
 ok : SnapP s
 num : s.1 = (n : Int)
 lo : 9 ≤ n
 hi : n ≤ 17
noncomputable abbrev C13 (s : E5) (n : Nat) : B4 := (nmS n, M1 (I7 s), ((M1 (I7 s)).size : Int), ())
theorem DrawnS.newGood {d : List B4} {s : E5} {n : Nat} (h : DrawnS d s n) : GoodF (C13 s n) n s := ⟨rfl, h.num, h.ok, h.hi⟩
theorem DrawnS.size {d : List B4} {s : E5} {n : Nat} (h : DrawnS d s n) : (M1 (I7 s)).size ≤ 13200 ∧ 0 < (M1 (I7 s)).size := by
 have := h.ok.small
 rw [Bb5]; omega
noncomputable def Bb6 (d : List B4) (s : E5) (n : Nat) : List I3 := M9 (M1 (I7 s)) 230 0 ++ ([(2, P9, ByteArray.empty, ByteArray.empty, ()), (3, P9, ByteArray.empty, nmS n, ())] ++ d.map Am9)
theorem Gk6 {d : List B4} {s : E5} {n : Nat} (h : DrawnS d s n) : (Bb6 d s n).length ≤ 240 ∧ 3 ≤ (Bb6 d s n).length := by
 have h1 := C12 (M1 (I7 s)) 230 0
 have h2 := h.two
 have h3 : 1 ≤ (M9 (M1 (I7 s)) 230 0).length := by
  unfold M9
  rw [if_pos h.size.2]; simp
 unfold Bb6
 simp only [List.length_append, List.length_map, List.length_cons, List.length_nil]
 omega
theorem Gk7 {d : List B4} {s : E5} {n : Nat} (h : DrawnS d s n) (w : Nat) : ∃ dw, Done d ((Bb6 d s n).take w) dw ∧ SnapD dw ∧
  ((w < (Bb6 d s n).length ∧ (dw = d ∨ ∃ X z, X.size ≤ 20000 ∧ z ≤ X.size ∧ dw = Cm5 d X z)) ∨ (C13 s n ∈ dw ∧ (∀ g ∈ dw, g = C13 s n ∨ g ∈ d) ∧ ((Bb6 d s n).length ≤ w → dw = [C13 s n]))) := by
 obtain ⟨z1, z2⟩ := h.size
 have hne : nmS n ≠ P9 := Ge8 h.hi
 obtain ⟨T, hTe⟩ : ∃ T, T = M1 (I7 s) := ⟨_, rfl⟩
 have hF : C13 s n = (nmS n, T, (T.size : Int), ()) := by rw [hTe]
 unfold Bb6
 rw [← hTe] at z1 z2 ⊢
 rw [hF]
 rw [List.take_append]
 have hcf := Ei4 h.base (T := T) (by omega) z2 229 w
 rw [show 229 + 1 = 230 from rfl] at hcf
 rcases hcf with ⟨rfl, hD⟩ | ⟨b, b1, hD, b2⟩
 ·refine ⟨d, ?_, h.base.ok, .inl ⟨by simp only [List.length_append, List.length_cons]; omega, .inl rfl⟩⟩
  rw [Nat.zero_sub, List.take_zero, List.take_zero]
  exact .nil
 ·by_cases q : w ≤ (M9 T 230 0).length
  ·rw [Nat.sub_eq_zero_of_le q, List.take_zero, List.append_nil]
   have hsz : (T.extract 0 b).size ≤ 20000 := by rw [ByteArray.size_extract]; omega
   exact ⟨_, hD, (h.base.beg hsz (Nat.zero_le _)).1, .inl ⟨by simp only [List.length_append, List.length_cons]; omega, .inr ⟨_, 0, hsz, Nat.zero_le _, rfl⟩⟩⟩
  ·have hb := b2 (by omega) (by omega)
   subst hb
   rw [Gy3] at hD
   obtain ⟨v, hv⟩ : ∃ v, w - (M9 T 230 0).length = v + 1 := ⟨w - (M9 T 230 0).length - 1, by omega⟩
   rw [hv]
   obtain ⟨c1, c2, c3⟩ := h.base.beg (X := T) (z := 0) (by omega) (Nat.zero_le _)
   obtain ⟨k1, k2, k3⟩ := h.base.beg (X := T) (z := T.size) (by omega) (Nat.le_refl _)
   have keep := Ft8 c1 c2 (nm := P9) (T := T) (z := ((0 : Nat) : Int)) ((c3 _).2 (.inl rfl))
   rw [h.base.re (X := T) (Y := T) (z := 0) (y := T.size) (by omega) (Nat.zero_le _) (by omega) (Nat.le_refl _)] at keep
   cases v with
   | zero =>
    exact ⟨_, hD.append (.cons keep .nil), k1, .inl ⟨by simp only [List.length_append, List.length_cons]; omega, .inr ⟨T, T.size, by omega, Nat.le_refl _, rfl⟩⟩⟩
   | succ v =>
    have move := Ft9 k1 k2 (nm := P9) (to := nmS n) (T := T) (C82 h.hi) hne ((k3 _).2 (.inl rfl))
    have hp : Ci0 (nmS n, T, (T.size : Int), ()) := ⟨(C82 h.hi).size, by show T.size ≤ 20000; omega, by show (0 : Int) ≤ T.size; omega, by show (T.size : Int) ≤ T.size; omega⟩
    have hlen : (Ce5 (Cm5 d T T.size) P9).length ≤ 9 := Nat.le_trans (List.length_filter_le _ _) k2
    have e1 := (k1.off P9).put (f := (nmS n, T, (T.size : Int), ())) (C82 h.hi) hp hlen
    have mem : ∀ g, g ∈ As0 (Ce5 (Cm5 d T T.size) P9) (nmS n, T, (T.size : Int), ()) ↔ g = (nmS n, T, (T.size : Int), ()) ∨ g ∈ d := fun g => by
     rw [(k1.off P9).put_mem (f := (nmS n, T, (T.size : Int), ())) (C82 h.hi), Ei3, k3]
     constructor
     ·rintro (a | ⟨⟨a | a, b⟩, c⟩)
      ·exact .inl a
      ·exact absurd (by rw [a]) b
      ·exact .inr a
     ·rintro (a | a)
      ·exact .inl a
      ·refine .inr ⟨⟨.inr a, h.base.no g a⟩, fun e => ?_⟩
       obtain ⟨m, t, hg, hm⟩ := h.good g a
       have h1 := hg.numS
       rw [show g.1 = nmS n from e, Bw6 h.hi] at h1
       have := h.lo
       omega
    have htk : ([(2, P9, ByteArray.empty, ByteArray.empty, ()), (3, P9, ByteArray.empty, nmS n, ())] ++ d.map Am9).take (v + 1 + 1) = (2, P9, ByteArray.empty, ByteArray.empty, ()) :: (3, P9, ByteArray.empty, nmS n, ()) :: ((d.take v).map Am9) := by
     show (_ :: _ :: d.map Am9).take (v + 2) = _
     rw [List.take_succ_cons, List.take_succ_cons, List.map_take]
    obtain ⟨d', a1, a2, a3⟩ := Do2 (d.take v) e1 (fun f hf => (mem f).2 (.inr (List.mem_of_mem_take hf))) (h.base.ok.names.take)
    refine ⟨d', ?_, a2, .inr ⟨(a3 _).2 ⟨(mem _).2 (.inl rfl), fun f hf e => ?_⟩, fun g hg => (mem g).1 ((a3 g).1 hg).1, fun hw => ?_⟩⟩
    ·rw [htk]
     exact hD.append (.cons keep (.cons move a1))
    ·obtain ⟨m, t, hg, hm⟩ := h.good f (List.mem_of_mem_take hf)
     have h1 := hg.numS
     rw [← show nmS n = f.1 from e, Bw6 h.hi] at h1
     have := h.lo
     omega
    ·have hv2 : d.length ≤ v := by
      simp only [List.length_append, List.length_map, List.length_cons, List.length_nil] at hw
      omega
     rw [List.take_of_length_le hv2] at a3
     have one : SnapD [(nmS n, T, (T.size : Int), ())] := ⟨by simp, fun f hf => by rw [List.mem_singleton] at hf; subst hf; exact ⟨C82 h.hi, hp⟩, List.pairwise_singleton _ _⟩
     refine a2.ext one fun g => ?_
     rw [a3, mem, List.mem_singleton]
     constructor
     ·rintro ⟨a | a, b⟩
      ·exact a
      ·exact absurd rfl (b g a)
     ·rintro a
      refine ⟨.inl a, fun f hf e => ?_⟩
      obtain ⟨m, t, hg, hm⟩ := h.good f hf
      have h1 := hg.numS
      rw [← e, a, show ((nmS n, T, (T.size : Int), ()) : B4).1 = nmS n from rfl, Bw6 h.hi] at h1
      have := h.lo
      omega
end Go.Vm
end
section
namespace Go.Vm
open Go
structure DrawnD (d : List B4) (i : Nat) : Prop where
 ok : SnapD d
 len : 2 * d.length ≤ 5 * i
 good : ∀ f ∈ d, ∃ m t, GoodF f m t ∧ m ≤ 8
def E54 (r : B9 × E5) : Prop := ∃ n, DrawnS r.1.1 r.2 n
theorem Gy4 {f : B4} {m : Nat} {t : E5} (h : GoodF f m t) : f.1 ≠ P9 := by rw [h.file]; exact Ge8 h.le
theorem DrawnD.base {d : List B4} {i : Nat} (h : DrawnD d i) (hi : i ≤ 2) : Base d := ⟨h.ok, by have := h.len; omega, fun f hf => by obtain ⟨m, t, g, _⟩ := h.good f hf; exact Gy4 g⟩
theorem G80 (d : List B4) (f : B4) : (As0 d f).length ≤ 2 * d.length + 1 := by
 unfold As0
 have h1 : (d.filter fun x => A18 x.1 f.1).length ≤ d.length := List.length_filter_le _ _
 have h2 : (d.filter (Bb4 f)).length ≤ d.length := List.length_filter_le _ _
 simp only [List.length_append, List.length_singleton]
 omega
theorem DrawnD.put {d : List B4} {i m : Nat} {s : E5} (h : DrawnD d i) (hi : i ≤ 1) (hs : SnapP s) (hn : s.1 = (m : Int)) (hm : m ≤ 8) : DrawnD (As0 d (nmS m, M1 (I7 s), ((M1 (I7 s)).size : Int), ())) (i + 1) := by
 have hz := hs.small
 have hsz : (M1 (I7 s)).size ≤ 20000 := by rw [Bb5]; omega
 have hp : Ci0 (nmS m, M1 (I7 s), ((M1 (I7 s)).size : Int), ()) := ⟨(C82 (by omega)).size, hsz, by show (0 : Int) ≤ ((M1 (I7 s)).size : Int); omega, by show ((M1 (I7 s)).size : Int) ≤ (M1 (I7 s)).size; omega⟩
 have hl := h.len
 refine ⟨h.ok.put (C82 (by omega)) hp (by omega), ?_, fun f hf => ?_⟩
 ·have := G80 d (nmS m, M1 (I7 s), ((M1 (I7 s)).size : Int), ())
  have hi2 : i = 0 ∨ i = 1 := by omega
  rcases hi2 with rfl | rfl
  ·omega
  ·omega
 ·rcases (h.ok.put_mem (f := (nmS m, M1 (I7 s), ((M1 (I7 s)).size : Int), ())) (C82 (by omega))).1 hf with e | ⟨e, _⟩
  ·exact ⟨m, s, ⟨e, hn, hs, by omega⟩, hm⟩
  ·exact h.good f e
theorem Gy5 (s : Nat × A9 × List B4) (hs : s.1 ≤ 2 ∧ CurOk s.2.1 ∧ DrawnD s.2.2 s.1) :
  Re (fun x : Nat × Nat => K5 x.1 x.2 (s.1 : Int) s.2.1.1 s.2.1.2.1 s.2.1.2.2.1 s.2.2) E54 := by
 refine Re.loop (ι := Nat) (l := fun k q (s : Nat × A9 × List B4) => K5 k q (s.1 : Int) s.2.1.1 s.2.1.2.1 s.2.1.2.2.1 s.2.2) (I := fun s => s.1 ≤ 2 ∧ CurOk s.2.1 ∧ DrawnD s.2.2 s.1) (fun s => 2 - s.1) (Q := fun _ => E54) (fun s hi ih => ?_) s hs
 obtain ⟨i, c, d⟩ := s
 obtain ⟨i1, i2, hD⟩ := hi
 simp only at i1 i2 hD ih ⊢
 simp only [K5, Ad7]
 have ei : B5 ((i : Int) + 1) = ((i + 1 : Nat) : Int) := by rw [D8 (by omega) (by omega)]; rfl
 refine Re.b2 (M7 _ 3 i2.eta) fun r1 h1 => ?_
 obtain ⟨⟨a1, a2⟩, c1⟩ := h1
 refine Re.brd (fun q => ?_) (fun q => ?_)
 ·refine Re.b2 (Dn3 _ c1 6 (by omega)) fun r2 h2 => ?_
  obtain ⟨⟨h21, h22⟩, c2⟩ := h2
  refine Re.b2 (C78 h21 (by omega)) fun r3 h3 => ?_
  refine Re.b2 (M7 _ 9 c2) fun r4 h4 => ?_
  obtain ⟨⟨b1, b2⟩, c4⟩ := h4
  refine Re.b2 (M7 _ 5 c4) fun r5 h5 => ?_
  obtain ⟨⟨d1, d2⟩, c5⟩ := h5
  refine Re.b2 (Ge6 _ c5) fun r6 h6 => ?_
  obtain ⟨f1, c6⟩ := h6
  have hP : SnapP (r4.1, r5.1, r6.1, r3.1, ()) := ⟨f1, ⟨b1, by show r4.1 ≤ 1000000; omega⟩, ⟨d1, by show r5.1 ≤ 100000; omega⟩, h3⟩
  obtain ⟨m, hm⟩ : ∃ m : Nat, r4.1 = m := ⟨r4.1.toNat, (Int.toNat_of_nonneg b1).symm⟩
  refine Re.c2 ((Dx8 (r4.1, r5.1, r6.1, r3.1, ()) (by have := f1.2.1; show r6.1.length ≤ 1048576; omega)).congr_val (fun k => rfl) hP.text) ?_
  have hN : Ev (fun k => At4 k r4.1) (nmS m) := by rw [hm]; exact Dx9 (by omega)
  refine Re.c2 hN ?_
  have hl := hD.len
  refine Re.c2 (Dn7 d (nmS m, M1 (I7 (r4.1, r5.1, r6.1, r3.1, ())), ((M1 (I7 (r4.1, r5.1, r6.1, r3.1, ()))).size : Int), ()) (by omega)) ?_
  rw [ei]
  exact ih (i + 1, r6.2.1, _) ⟨by simp only; omega, c6, hD.put (by omega) hP hm (by omega)⟩ (by simp only; omega)
 ·refine Re.b2 (Dn3 _ c1 12 (by omega)) fun r2 h2 => ?_
  obtain ⟨⟨h21, h22⟩, c2⟩ := h2
  refine Re.b2 (C78 h21 (by omega)) fun r3 h3 => ?_
  refine Re.b2 (M7 _ 9 c2) fun r4 h4 => ?_
  obtain ⟨⟨b1, b2⟩, c4⟩ := h4
  refine Re.b2 (M7 _ 5 c4) fun r5 h5 => ?_
  obtain ⟨⟨d1, d2⟩, c5⟩ := h5
  refine Re.b2 (Ge6 _ c5) fun r6 h6 => ?_
  obtain ⟨f1, c6⟩ := h6
  have e9 : B5 (9 + r4.1) = 9 + r4.1 := D8 (by omega) (by omega)
  rw [e9]
  exact Re.ret ⟨(9 + r4.1).toNat, hD.base i1, by have := hD.len; show d.length ≤ 5; omega, hD.good, ⟨f1, ⟨by show 0 ≤ 9 + r4.1; omega, by show 9 + r4.1 ≤ 1000000; omega⟩, ⟨d1, by show r5.1 ≤ 100000; omega⟩, h3⟩, by show 9 + r4.1 = _; omega, by omega, by omega⟩
theorem Ei5 (a : List Int) (h : a.length ≤ 1048576) : Re (fun k => Z2 k a) E54 := by
 refine Re.enter (f := fun k n => K6 k n a (B5 (13101 + (a.length : Int))) 0) C6 ?_
 have := Re.loop (ι := Nat) (l := fun k n (s : Int × Int) => K6 k n a s.1 s.2) (I := fun s => 0 ≤ s.2 ∧ s.2 ≤ a.length) (fun s => (a.length - s.2).toNat) (Q := fun _ => E54) (fun s hi ih => by
  obtain ⟨v1, v2⟩ := s
  simp only at hi
  simp only [K6, Ad8]
  have hcur : CurOk (a, 0, v1, ()) := ⟨Int.le_refl 0, by show (0 : Int) ≤ _; omega, h⟩
  have tail : Re (fun x : Nat × Nat => K5 x.1 x.2 0 a 0 v1 []) E54 := Gy5 (0, (a, 0, v1, ()), []) ⟨by simp, hcur, ⟨by simp, fun f hf => (by cases hf), List.Pairwise.nil⟩, by simp, fun f hf => by cases hf⟩
  refine Re.brd (fun h1 => ?_) (fun h1 => tail)
  refine Re.brd (fun h2 => ?_) (fun h2 => tail)
  have e : B5 (v2 + 1) = v2 + 1 := D8 (by omega) (by omega)
  refine Re.gdd hi.1 (Re.gdd h1 ?_)
  rw [e]
  exact ih (_, v2 + 1) (by simp only; omega) (by simp only; omega)) (B5 (13101 + (a.length : Int)), 0) ⟨Int.le_refl 0, by simp only; omega⟩
 exact this
end Go.Vm
end
section
namespace Go.Vm
open Go
theorem Gk8 (T : ByteArray) {a : Nat} (h : T.size ≤ a) : ∀ m, M9 T m a = []
 | 0 => rfl
 | m + 1 => by unfold M9; rw [if_neg (by omega)]
theorem Dy0 {d : List B4} {s : E5} {n : Nat} (h : DrawnS d s n) : Ev (fun k => Ba5 k (d, ()) s) (Bb6 d s n, true) := by
 have hT := (h.size).1
 have hl5 := h.two
 have hc := h.ok.1.2.1
 have hnum := h.num
 have hdk := h.base.ok.disk
 have hno : atF d P9 0 = -1 := Ei2 d P9 0 h.base.no
 obtain ⟨T, hTe⟩ : ∃ T, T = M1 (I7 s) := ⟨_, rfl⟩
 have hf : Ev (fun k => Bp4 k (d, ()) P9) false := by
  refine Re.eq (Re.c1 (E47 d P9 (by omega)).2 (Re.ret ?_))
  rw [hno]; rfl
 have goal : Bb6 d s n = (M9 T 230 0 ++ [(2, P9, ByteArray.empty, ByteArray.empty, ()), (3, P9, ByteArray.empty, nmS n, ())]) ++ d.map Am9 := by
  unfold Bb6; rw [hTe, List.append_assoc]
 rw [goal]
 rw [← hTe] at hT
 have hc230 := C12 T 230 0
 refine Re.eq ?_
 refine Re.c1 (v := (T, true)) ((Bk4 s (by omega)).congr_val (fun k => rfl) (by rw [h.ok.text, hTe])) ?_
 refine Re.br (b := false) (fun h => by cases h) (fun _ => Re.c1 (C80 d hdk) (Re.br (b := false) (fun h => by cases h) (fun _ => Re.c1 (v := false) hf (Re.br (b := false) (fun h => by cases h) (fun _ => ?_)))))
 have files : ∀ (C : List I3), C.length ≤ 240 → Re (fun x : Nat × Nat => o6 x.1 x.2 (nmS n) (d, ()) 0 C) (fun v => v = (C ++ d.map Am9, true)) := fun C hC => by
  have := Re.loop (ι := Nat) (l := fun k q (i : Nat) => o6 k q (nmS n) (d, ()) (i : Int) (C ++ (d.take i).map Am9)) (I := fun i => i ≤ d.length) (fun i => d.length - i) (Q := fun _ v => v = (C ++ d.map Am9, true)) (fun i hi ih => by
   simp only [o6, Bj8, Int.toNat_natCast]
   refine Re.brd (fun q => ?_) (fun q => Re.ret (by rw [List.take_of_length_le (by omega)]))
   have hl : i < d.length := by omega
   have hm : rd B0 d i ∈ d := Cd7 hl
   have hn := (h.base.ok.2.1 _ hm).1
   obtain ⟨m, t, hg, hm8⟩ := h.good _ hm
   have next := ih (i + 1) (by omega) (by omega)
   have et : d.take (i + 1) = d.take i ++ [rd B0 d i] := by rw [List.take_add_one, List.getElem?_eq_getElem hl, E8 hl]; rfl
   rw [et, List.map_append, ← List.append_assoc] at next
   rw [C5 hl (by omega)]
   refine Re.gdd (by omega) (Re.gdd q (Re.s2 (Do1 hn ·) ?_))
   have hs := hg.numS
   refine Re.brd (fun _ => ?_) (fun z => absurd (by omega) z)
   rw [Y1, decide_eq_false (fun e => by
    rw [e, Bw6 h.hi] at hs
    have := h.lo
    omega)]
   refine Re.br (b := true) (fun _ => Re.gdd ?_ next) (fun h => by cases h)
   simp only [List.length_append, List.length_map, List.length_take, List.length_singleton]
   unfold A3; omega) 0 (Nat.zero_le _)
  simpa using this
 refine Re.enter (f := fun k q => X5 k q (T, true) 0 (d, ()) s []) C6 ?_
 have := Re.loop (ι := Nat) (l := fun k q (u : Nat × List I3) => X5 k q (T, true) (u.1 : Int) (d, ()) s u.2) (I := fun u => ∃ m, u.2 ++ M9 T m u.1 = M9 T 230 0 ∧ T.size ≤ u.1 + 60 * m ∧ u.1 ≤ T.size + 60) (fun u => T.size + 60 - u.1) (Q := fun _ v => v = ((M9 T 230 0 ++ [(2, P9, ByteArray.empty, ByteArray.empty, ()), (3, P9, ByteArray.empty, nmS n, ())]) ++ d.map Am9, true)) (fun u hi ih => by
  obtain ⟨a, xs⟩ := u
  obtain ⟨m, i1, i2, i3⟩ := hi
  simp only at i1 i2 i3 ih ⊢
  simp only [X5, Bj9, Int.toNat_natCast]
  have hxs : xs.length ≤ 230 := by rw [← i1, List.length_append] at hc230; omega
  refine Re.brd (fun q => ?_) (fun q => ?_)
  ·have hq : a < T.size := by omega
   obtain ⟨m', rfl⟩ : ∃ z, m = z + 1 := ⟨m - 1, by omega⟩
   have e60 : B5 ((a : Int) + 60) = ((a + 60 : Nat) : Int) := by rw [D8 (by omega) (by omega)]; rfl
   have emin : (if ((a + 60 : Nat) : Int) < (T.size : Int) then ((a + 60 : Nat) : Int) else (T.size : Int)) = ((min (a + 60) T.size : Nat) : Int) := by
    split
    ·omega
    ·omega
   rw [e60, emin, Int.toNat_natCast]
   refine Re.gdd (by omega) (Re.gdd (by omega) (Re.gdd (by omega) (Re.gdd (by omega) (Re.gdd (by simp only [List.length_singleton]; unfold A3; omega) ?_))))
   refine ih (a + 60, _) ⟨m', ?_, by simp only; omega, by simp only; omega⟩ (by simp only; omega)
   rw [← i1]
   simp only
   rw [List.append_assoc]
   conv => rhs; unfold M9
   rw [if_pos hq]
   rfl
  ·have hx : xs = M9 T 230 0 := by rw [← i1, Gk8 T (by omega), List.append_nil]
   have hN : Ev (fun k => w8 k s.1) (nmS n) := by rw [hnum]; exact Ci3 h.hi
   refine Re.c2 hN (Re.gdd (by simp only [List.length_cons, List.length_nil]; unfold A3; omega) ?_)
   have := files (xs ++ [(2, P9, ByteArray.empty, ByteArray.empty, ()), (3, P9, ByteArray.empty, nmS n, ())]) (by simp; omega)
   rw [hx] at this
   rw [hx]
   exact this) (0, []) ⟨230, by simp, by simp only; omega, by simp⟩
 exact this
end Go.Vm
end
section
namespace Go.Vm
open Go
theorem Gy6 (a : List Int) (k : Nat) : E14 k a = some (decide ((a.length : Int) > 1048576)) := rfl
theorem E55 {d : List B4} {s : E5} {n : Nat} (h : DrawnS d s n) : Done d (Bb6 d s n) [C13 s n] ∧ SnapD [C13 s n] := by
 obtain ⟨dw, h1, h2, h3⟩ := Gk7 h (Bb6 d s n).length
 rw [List.take_length] at h1
 rcases h3 with ⟨h3, _⟩ | ⟨_, _, e⟩
 ·exact absurd h3 (Nat.lt_irrefl _)
 ·have := e (Nat.le_refl _)
  subst this
  exact ⟨h1, h2⟩
theorem Gy7 {d : List B4} {s : E5} {n : Nat} (h : DrawnS d s n) : GoodD [C13 s n] ∧ T5 [C13 s n] = (s, true) ∧ Gf0 [C13 s n] = [] := by
 have hG : GoodD [C13 s n] := ⟨(E55 h).2, fun f hf => .inr ⟨n, s, by rw [List.mem_singleton] at hf; subst hf; exact h.newGood⟩⟩
 have hb : T5 [C13 s n] = (s, true) := G79 hG (List.mem_singleton.2 rfl) h.newGood fun g hg => by
  rw [List.mem_singleton] at hg; subst hg; rw [h.newGood.numS]; omega
 refine ⟨hG, hb, ?_⟩
 unfold Gf0
 rw [hb, if_pos rfl]
 have := h.newGood.numS
 apply List.filter_eq_nil_iff.2
 intro f hf
 rw [List.mem_singleton] at hf; subst hf
 simp only [this, h.num]
 simp
theorem Hd7 (n : Nat) : nmS n ≠ (⟨#[]⟩ : ByteArray) := fun e => by
 have := congrArg (fun a : ByteArray => a.data.toList.length) e
 simp [nmS] at this
theorem Fu1 (a : List Int) : Ev (fun k => A79 k a) true := by
 refine Re.eq (Re.s1 (Gy6 a) (Re.brd (fun _ => Re.ret rfl) (fun hl => ?_)))
 refine Re.b1 (Ei5 a (by omega)) fun r2 h2 => ?_
 obtain ⟨n, h⟩ := h2
 have hc := h.ok.1.2.1
 have hl5 := h.two
 have hsz := h.size.1
 refine Re.c1 (v := (M1 (I7 r2.2), true)) ((Bk4 r2.2 (by omega)).congr_val (fun k => rfl) h.ok.text) ?_
 obtain ⟨v, v1, v2⟩ := Bk5 (M1 (I7 r2.2)) (by omega)
 rw [v2 _ h.ok rfl] at v1
 refine Re.c1 (v := (r2.2, true)) v1 ?_
 refine Re.br (b := false) (fun h => by cases h) (fun _ => Re.br (b := false) (fun h => by cases h) (fun _ => ?_))
 refine Re.brn (fun h => absurd rfl h) (fun _ => Re.brn (fun h => absurd rfl h) (fun _ => ?_))
 rw [Y1, decide_eq_true (rfl : (r2.2, true).1.2.2.2.1 = r2.2.2.2.2.1)]
 refine Re.br (b := false) (fun h => by cases h) (fun _ => ?_)
 refine Re.c1 (Eh0 _ (by show r2.2.2.2.1.length ≤ 1048576; omega)) (Re.br (b := false) (fun h => by cases h) (fun _ => ?_))
 refine Re.c1 (v := (Bb6 r2.1.1 r2.2 n, true)) (Dy0 h) ?_
 obtain ⟨a1, a2⟩ := E55 h
 obtain ⟨b1, b2, b3⟩ := Gy7 h
 have hal := (Gk6 h).1
 refine Re.c1 (v := (([C13 r2.2 n], ()), ((Bb6 r2.1.1 r2.2 n).length : Int))) (G74 (by show (Bb6 r2.1.1 r2.2 n).length ≤ 1000000; omega) (by show r2.1.1.length ≤ 1000000; omega) a1) ?_
 refine Re.c1 (v := (r2.2, true)) ((C83 b1).congr_val (fun k => rfl) b2) ?_
 refine Re.br (b := true) (fun _ => Re.br (b := true) (fun _ => ?_) (fun h => by cases h)) (fun h => by cases h)
 refine Re.bre (fun _ => Re.bre (fun _ => ?_) (fun h => absurd rfl h)) (fun h => absurd rfl h)
 rw [Y1, decide_eq_true (rfl : (r2.2, true).1.2.2.2.1 = r2.2.2.2.2.1)]
 refine Re.br (b := true) (fun _ => ?_) (fun h => by cases h)
 refine Re.c1 (v := []) ((Gk5 b1).congr_val (fun k => rfl) (by rw [b3]; rfl)) ?_
 refine Re.bre (fun _ => ?_) (fun h => absurd rfl h)
 have hN : Ev (fun k => w8 k r2.2.1) (nmS n) := by rw [h.num]; exact Ci3 h.hi
 refine Re.c1 hN (Re.ret ?_)
 rw [Y1, decide_eq_false (Hd7 n)]
 rfl
end Go.Vm
end
