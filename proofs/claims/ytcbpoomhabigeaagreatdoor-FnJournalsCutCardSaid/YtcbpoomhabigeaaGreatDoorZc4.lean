/- Plain laws. -/
import Derived.Test.YtcbpoomhabigeaaGreatDoorZc3
import Derived.KernelRfl
section
set_option linter.unusedVariables false
set_option linter.unusedSimpArgs false
namespace Go.Vm
open Go
instance (n : Int) : Decidable (R5 n) := inferInstanceAs (Decidable (_ ∧ _))
theorem Cj9 (a : ByteArray) (p : Nat) (b : Bool) (ha : a.size ≤ 1048576) (hp : p ≤ a.size) :
  ∃ x q b', Rd a I2 R5 0 p b x q b' ∧ Ev (fun k => Ac8 k (cur a p b) 1) (bif b' then (⟨#[]⟩ : ByteArray) else I2 x, cur a q b', ()) := by
 cases b with
 | true => exact ⟨0, p, true, .stuck hp, .of fun _ => rfl⟩
 | false =>
  have e1 : B0 ((a.size : Int) - (p : Int)) = (a.size : Int) - p := C6 (by omega) (by omega)
  have e2 : B0 ((p : Int) + 1) = ((p + 1 : Nat) : Int) := by rw [C6 (by omega) (by omega)]; omega
  have e3 : B0 (((p + 1 : Nat) : Int) - 1) = (p : Int) := by rw [C6 (by omega) (by omega)]; omega
  by_cases hlt : p < a.size
  ·have hb := Cj3 a p
   have hs := Cq8 hlt
   have d1 : decide ((1 : Int) > (a.size : Int) - p) = false := by simp; omega
   have d2 : decide (((p + 1 : Nat) : Int) ≤ (a.size : Int)) = true := by simp; omega
   have d3 : decide (0 ≤ ((p + 1 : Nat) : Int)) = true := decide_eq_true (Int.natCast_nonneg _)
   have d4 : decide (0 ≤ (p : Int)) = true := decide_eq_true (Int.natCast_nonneg _)
   have d5 : decide ((p : Int) ≤ ((p + 1 : Nat) : Int)) = true := by simp; omega
   have hx : a.extract p (p + 1) = I2 (bt a p) := by
    have := Ae1 hs
    rwa [D6] at this
   refine ⟨bt a p, p + 1, false, ⟨by omega, by omega, fun h => by (cases h), fun h => by (cases h), fun _ => ⟨hb, by simp [I2, D6], hs⟩, fun _ y hy h => ?_⟩, .of fun k => ?_⟩
   ·exact ⟨(Cj4 hy h).2, by simp [I2, D6], rfl⟩
   ·simp only [Ac8, br_false, e1, d1, e2, e3, d2, d3, d4, d5, gd_true, Int.toNat_natCast, hx, cond_false]
  ·have hpe : p = a.size := by omega
   refine ⟨0, p, true, ⟨Nat.le_refl _, hp, fun h => by (cases h), fun _ => rfl, fun h => by (cases h), fun _ y hy h => ?_⟩, .of fun k => ?_⟩
   ·have := (Cj4 hy h).1; omega
   ·have d1 : decide ((1 : Int) > (a.size : Int) - p) = true := by simp; omega
    simp only [Ac8, br_false, e1, d1, br_true, cond_true]
def L6 (c a b : Int) : ByteArray := I2 c ++ (F1 a ++ F1 b)
theorem K8 (c : Int) : (I2 c).size = 1 := D6 _
theorem B74 {c a b : Int} (ha : a ≤ 1000000000) (hb : b ≤ 1000000000) : (L6 c a b).size ≤ 11 := by
 unfold L6
 rw [C8, C8, K8]
 have := D2 ha
 have := D2 hb
 omega
theorem Dh4 (c a b : Int) : 1 ≤ (L6 c a b).size := by unfold L6; rw [C8, K8]; omega
theorem Ga1 (c a b : Int) (hc : R5 c) (ha : Am7 a) (hb : Am7 b) :
  Ev (fun k => Av4 k (L6 c a b) (I2 c)) (a, b, true) ∧ Ev (fun k => By1 k (L6 c a b) c) (a, b, true) := by
 have hsz := B74 (c := c) ha.2 hb.2
 have hfull : (L6 c a b).size = 1 + (F1 a).size + (F1 b).size := by unfold L6; rw [C8, C8, K8]; omega
 have hs : z8 (L6 c a b) 0 (I2 c ++ (F1 a ++ F1 b)) := B69 _
 obtain ⟨hs0, hs⟩ := O6.1 hs
 obtain ⟨hs1, hs2⟩ := O6.1 hs
 rw [K8] at hs1 hs2
 have n1 := Z6 ha
 have n2 := Z6 hb
 constructor
 ·obtain ⟨x0, q0, b0, R0, E0⟩ := Cj9 (L6 c a b) 0 false (by omega) (by omega)
  obtain ⟨x1, q1, b1, R1, E1, _⟩ := Az3 (L6 c a b) q0 b0 (by omega) R0.hi
  obtain ⟨x2, q2, b2, R2, E2, _⟩ := Az3 (L6 c a b) q1 b1 (by omega) R1.hi
  obtain ⟨rfl, z0, rfl⟩ := R0.full rfl c hc hs0
  rw [K8] at z0
  obtain ⟨rfl, z1, rfl⟩ := R1.full rfl a ha (by rw [z0]; exact hs1)
  obtain ⟨rfl, z2, rfl⟩ := R2.full rfl b hb (by rw [z1, z0]; exact hs2)
  refine Re.eq (Re.c1 E0 (Re.c1 E1 (Re.c1 E2 ?_)))
  refine Re.br (b := false) (fun h => by cases h) (fun _ => ?_)
  refine Re.c1 (H2 _ ha.1 (by have := ha.2; omega)) (Re.gdd (by simp only [K8]; unfold A2; omega) (Re.c1 (H2 _ hb.1 (by have := hb.2; omega)) (Re.gdd (by simp only [C8, K8]; unfold A2; omega) ?_)))
  have he : I2 x0 ++ F1 x1 ++ F1 x2 = L6 x0 x1 x2 := by unfold L6; rw [ByteArray.append_assoc]
  rw [he, beq_self_eq_true]
  exact Re.ret rfl
 ·obtain ⟨x0, q0, b0, R0, E0⟩ := Cj5 (L6 c a b) 0 false (by omega) (by omega)
  obtain ⟨x1, q1, b1, R1, _, E1⟩ := Az3 (L6 c a b) q0 b0 (by omega) R0.hi
  obtain ⟨x2, q2, b2, R2, _, E2⟩ := Az3 (L6 c a b) q1 b1 (by omega) R1.hi
  obtain ⟨rfl, z0, rfl⟩ := R0.full rfl c hc hs0
  rw [K8] at z0
  obtain ⟨rfl, z1, rfl⟩ := R1.full rfl a ha (by rw [z0]; exact hs1)
  obtain ⟨rfl, z2, rfl⟩ := R2.full rfl b hb (by rw [z1, z0]; exact hs2)
  refine Re.eq (Re.c1 E0 (Re.c1 E1 (Re.c1 E2 (Re.s1 (Fu0 _ _ _) ?_))))
  rw [decide_eq_true (show q2 = (L6 x0 x1 x2).size by omega)]
  refine Re.ret ?_
  have : B0 x0 = x0 := C6 (by have := hc.1; omega) (by have := hc.2; omega)
  rw [this, beq_self_eq_true]
theorem B75 (i t c : Int) (d : ByteArray) : (Ae2 i t c d).size = 1 + ((F1 i).size + ((F1 t).size + (1 + d.size))) := by unfold Ae2; simp only [C8, K8]
theorem Ga2 {a b : Int} (ha : R5 a) (hb : R5 b) (hne : a ≠ b) (x y : ByteArray) : I2 a ++ x ≠ I2 b ++ y := by
 intro h
 have := congrArg D5 h
 unfold I2 at this
 rw [N4, N4, Q9 (fun x hx => by simp at hx; subst hx; exact ha), Q9 (fun x hx => by simp at hx; subst hx; exact hb)] at this
 exact hne (List.cons.inj this).1
theorem Go3 (i t c : Int) (d : ByteArray) (hi : i ≤ 1000000000) (ht : t ≤ 1000000000) (hd : d.size ≤ 1000) :
  Ev (fun k => Av4 k (Ae2 i t c d) (⟨#[72]⟩ : ByteArray)) (0, 0, false) ∧ ∃ x y, Ev (fun k => By1 k (Ae2 i t c d) 72) (x, y, false) := by
 have hsz := B75 i t c d
 have n1 := D2 hi
 have n2 := D2 ht
 have h72 : (⟨#[72]⟩ : ByteArray) = I2 72 := by apply Af3; simp [I2, B6]
 have hs : z8 (Ae2 i t c d) 0 (I2 69 ++ (F1 i ++ (F1 t ++ (I2 c ++ d)))) := B69 _
 obtain ⟨hs0, _⟩ := O6.1 hs
 constructor
 ·obtain ⟨x0, q0, b0, R0, E0⟩ := Cj9 (Ae2 i t c d) 0 false (by omega) (by omega)
  obtain ⟨x1, q1, b1, R1, E1, _⟩ := Az3 (Ae2 i t c d) q0 b0 (by omega) R0.hi
  obtain ⟨x2, q2, b2, R2, E2, _⟩ := Az3 (Ae2 i t c d) q1 b1 (by omega) R1.hi
  refine Re.eq (Re.c1 E0 (Re.c1 E1 (Re.c1 E2 ?_)))
  cases hb2 : b2 with
  | true => exact Re.ret rfl
  | false =>
   subst hb2
   obtain ⟨o2, _, _⟩ := R2.sound rfl
   have hb1 : b1 = false := by
    cases b1 with
    | false => rfl
    | true => exact absurd (R2.bad rfl).2.2 (by simp)
   subst hb1
   obtain ⟨o1, _, _⟩ := R1.sound rfl
   have m1 := Z6 o1
   have m2 := Z6 o2
   refine Re.br (b := false) (fun h => by cases h) (fun _ => ?_)
   refine Re.c1 (H2 _ o1.1 (by have := o1.2; omega)) (Re.gdd (by simp only [h72, K8]; unfold A2; omega) (Re.c1 (H2 _ o2.1 (by have := o2.2; omega)) (Re.gdd (by simp only [C8, h72, K8]; unfold A2; omega) ?_)))
   rw [b7, decide_eq_false (fun h => by
    rw [h72, ByteArray.append_assoc] at h
    exact Ga2 (a := 72) (b := 69) (by decide) (by decide) (by decide) _ _ h)]
   exact Re.ret rfl
 ·obtain ⟨x0, q0, b0, R0, E0⟩ := Cj5 (Ae2 i t c d) 0 false (by omega) (by omega)
  obtain ⟨x1, q1, b1, R1, _, E1⟩ := Az3 (Ae2 i t c d) q0 b0 (by omega) R0.hi
  obtain ⟨x2, q2, b2, R2, _, E2⟩ := Az3 (Ae2 i t c d) q1 b1 (by omega) R1.hi
  obtain ⟨rfl, z0, rfl⟩ := R0.full rfl 69 (by decide) hs0
  refine ⟨x1, x2, Re.eq (Re.c1 E0 (Re.c1 E1 (Re.c1 E2 (Re.s1 (Fu0 _ _ _) ?_))))⟩
  cases hd : (!b2 && decide (q2 = (Ae2 i t c d).size)) with
  | false => exact Re.ret rfl
  | true => exact Re.ret rfl
theorem Bz3 (i : Int) (e : B2) (hs : e.2.2.1.size ≤ 1048576) : Ev (fun k => j7 k i e) (Bb8 i e) := by
 refine Re.eq ?_
 refine Re.c1 (Cj6 e hs) ?_
 unfold Bb8
 cases ho : N6 e with
 | false => exact Re.ret rfl
 | true =>
  refine Re.s1 (H9 · _ _ _) ?_
  cases hi : j5 i 1 1000000 with
  | false => exact Re.ret rfl
  | true =>
   obtain ⟨k1, k2, k3⟩ := W8 ho
   have i1 := D4.1 hi
   have n1 : (F1 i).size ≤ 5 := D2 (by omega)
   have n2 : (F1 e.1).size ≤ 5 := D2 (by omega)
   have hk : IntKind.wrap .u8 e.2.1 = e.2.1 := Bx1 (by omega) (by omega)
   have n0 : (⟨#[69]⟩ : ByteArray).size = 1 := rfl
   refine Re.c1 (H2 i (by omega) (by omega)) ?_
   refine Re.gdd (by unfold A2; omega) (Re.c1 (H2 e.1 (by omega) (by omega)) ?_)
   rw [hk]
   refine Re.gdd (by simp only [C8]; unfold A2; omega) (Re.gdd (by simp only [C8, D6, List.length_singleton]; unfold A2; omega) (Re.gdd (by simp only [C8, D6, List.length_singleton]; unfold A2; omega) (Re.ret ?_)))
   unfold Ae2
   rw [Gq9]
   simp only [Am8]
   rfl
theorem Ga3 {c : Int} (h : R5 c) : bt (I2 c) 0 = c := by
 rw [D18]
 unfold I2
 rw [Q9 (fun x hx => by simp at hx; subst hx; exact h)]
 rfl
theorem Dh5 (i : Int) (e : B2) (ho : N6 e = true) (hi : j5 i 1 1000000 = true) : Ev (fun k => Av6 k (Ae2 i e.1 e.2.1 e.2.2.1)) (i, e, true) := by
 obtain ⟨k1, k2, k3⟩ := W8 ho
 have i1 := D4.1 hi
 have n1 : (F1 i).size ≤ 5 := D2 (by omega)
 have n2 : (F1 e.1).size ≤ 5 := D2 (by omega)
 have hsz := B75 i e.1 e.2.1 e.2.2.1
 have hs2 : z8 (Ae2 i e.1 e.2.1 e.2.2.1) 0 (I2 69 ++ (F1 i ++ (F1 e.1 ++ (I2 e.2.1 ++ e.2.2.1)))) := B69 _
 have hT : Bb8 i e = (Ae2 i e.1 e.2.1 e.2.2.1, true) := by unfold Bb8; rw [ho, hi]; rfl
 have hTe := Bz3 i e (by omega)
 rw [hT] at hTe
 generalize ha : Ae2 i e.1 e.2.1 e.2.2.1 = a at hs2 hsz hTe
 obtain ⟨x0, q0, b0, R0, E0⟩ := Cj9 a 0 false (by omega) (by omega)
 obtain ⟨x1, q1, b1, R1, E1, _⟩ := Az3 a q0 b0 (by omega) R0.hi
 obtain ⟨x2, q2, b2, R2, E2, _⟩ := Az3 a q1 b1 (by omega) R1.hi
 obtain ⟨x3, q3, b3, R3, E3⟩ := Cj9 a q2 b2 (by omega) R2.hi
 obtain ⟨c, hs2⟩ := O6.1 hs2
 obtain ⟨rfl, z0, rfl⟩ := R0.full rfl 69 (by decide) c; rw [← z0] at hs2
 obtain ⟨c, hs2⟩ := O6.1 hs2
 obtain ⟨rfl, z1, rfl⟩ := R1.full rfl i (by unfold Am7; omega) c; rw [← z1] at hs2
 obtain ⟨c, hs2⟩ := O6.1 hs2
 obtain ⟨rfl, z2, rfl⟩ := R2.full rfl e.1 (by unfold Am7; omega) c; rw [← z2] at hs2
 obtain ⟨c, hs2⟩ := O6.1 hs2
 have hkb : R5 e.2.1 := by unfold R5; omega
 obtain ⟨rfl, z3, rfl⟩ := R3.full rfl e.2.1 hkb c; rw [← z3] at hs2
 rw [K8] at z0 z3
 have he : a.extract q3 a.size = e.2.2.1 := by
  have := Ae1 hs2
  rwa [show q3 + e.2.2.1.size = a.size by omega] at this
 refine Re.eq (Re.c1 E0 (Re.c1 E1 (Re.c1 E2 (Re.c1 E3 ?_))))
 refine Re.br (b := false) (fun h => by cases h) (fun _ => ?_)
 refine Re.gdd (by show (0 : Int) < ((I2 e.2.1).size : Int); rw [K8]; decide) (Re.gdd (by show (0 : Int) ≤ (q3 : Int); omega) (Re.gdd (by show (q3 : Int) ≤ (a.size : Int); omega) ?_))
 have hw : B0 (bt (I2 e.2.1) 0) = e.2.1 := by rw [Ga3 hkb, C6 (by omega) (by omega)]
 have e4 : ((e.1, B0 (bt (I2 e.2.1) 0), a.extract ((cur a q3 false).2.1).toNat a.size, ()) : B2) = e := by
  show ((e.1, B0 (bt (I2 e.2.1) 0), a.extract ((q3 : Int)).toNat a.size, ()) : B2) = e
  rw [Int.toNat_natCast, he, hw]
 refine Re.c1 (v := (a, true)) (Ev.congr hTe fun k => congrArg (j7 k _) e4) ?_
 rw [beq_self_eq_true]
 exact Re.ret (Prod.ext rfl (Prod.ext e4 rfl))
end Go.Vm
end
section
set_option linter.unusedVariables false
set_option linter.unusedSimpArgs false
namespace Go.Vm
open Go
theorem LogP.any {l : B7} (h : LogP l) : AnyL l := ⟨⟨by have := h.1.1; omega, by have := h.1.2; omega⟩, by have := h.2.2.1; omega, fun i hi => by have := (W8 (h.2.2.2.2 i hi).1).2.2; omega⟩
theorem LogP.small {l : B7} (h : LogP l) : D91 l := h.any.small
noncomputable def jOk (j : A0) : Bool := j5 j.1 0 999 && (j5 j.2.1 0 100000 && (j5 j.2.2.1 0 4 && Ak3 j.2.2.2.1))
theorem Ab7 (j : A0) (h : D91 j.2.2.2.1) : Ev (fun k => Y7 k j) (jOk j) := by
 refine Re.eq (Re.s1 (N2 · _ _ _) ?_)
 unfold jOk
 cases j5 j.1 0 999 with
 | false => exact Re.ret rfl
 | true =>
  refine Re.s1 (N2 · _ _ _) ?_
  cases j5 j.2.1 0 100000 with
  | false => exact Re.ret rfl
  | true =>
   refine Re.s1 (N2 · _ _ _) ?_
   cases j5 j.2.2.1 0 4 with
   | false => exact Re.ret rfl
   | true => exact Re.c1 (Bo5 _ h) (Re.ret rfl)
theorem A74 (j : A0) (h : D91 j.2.2.2.1) : Ev (fun k => Aa9 k j) (jOk j) := by
 refine Re.eq (Re.s1 (H9 · _ _ _) ?_)
 unfold jOk
 cases j5 j.1 0 999 with
 | false => exact Re.ret rfl
 | true =>
  refine Re.s1 (H9 · _ _ _) ?_
  cases j5 j.2.1 0 100000 with
  | false => exact Re.ret rfl
  | true =>
   refine Re.s1 (H9 · _ _ _) ?_
   cases j5 j.2.2.1 0 4 with
   | false => exact Re.ret rfl
   | true => exact Re.c1 (A73 _ h) (Re.ret rfl)
inductive JRec where
 | hard (t v : Int)
 | ent (i : Int) (e : B2)
def JRec.bytes : JRec → ByteArray
 | .hard t v => L6 72 t v
 | .ent i e => Ae2 i e.1 e.2.1 e.2.2.1
def JRec.ok : JRec → Prop
 | .hard t v => (0 ≤ t ∧ t ≤ 100000) ∧ (0 ≤ v ∧ v ≤ 4)
 | .ent i e => N6 e = true ∧ j5 i 1 1000000 = true
noncomputable def JRec.app (j : A0) : JRec → A0
 | .hard t v => (j.1, t, v, j.2.2.2)
 | .ent i e => (j.1, j.2.1, j.2.2.1, (Bo6 j.2.2.2.1 i e).1, ())
def JRec.fits (j : A0) : JRec → Prop
 | .hard _ _ => True
 | .ent i e => (Bo6 j.2.2.2.1 i e).2 = true
theorem Go4 {l : B7} {i : Int} {e : B2} (h : (Bo6 l i e).2 = true) : LogP l ∧ (l.1 + 1 ≤ i ∧ i ≤ l.1 + l.2.2.1.length + 1) ∧ LogP (l.1, l.2.1, l.2.2.1.take (i - l.1 - 1).toNat ++ [e], ()) ∧ Bo6 l i e = ((l.1, l.2.1, l.2.2.1.take (i - l.1 - 1).toNat ++ [e], ()), true) := by
 have hu : Bo6 l i e = bif Ak3 l && (decide (l.1 + 1 ≤ i ∧ i ≤ l.1 + l.2.2.1.length + 1) && Ak3 (l.1, l.2.1, l.2.2.1.take (i - l.1 - 1).toNat ++ [e], ())) then ((l.1, l.2.1, l.2.2.1.take (i - l.1 - 1).toNat ++ [e], ()), true) else ((0, 0, [], ()), false) := rfl
 cases hb : Ak3 l && (decide (l.1 + 1 ≤ i ∧ i ≤ l.1 + l.2.2.1.length + 1) && Ak3 (l.1, l.2.1, l.2.2.1.take (i - l.1 - 1).toNat ++ [e], ())) with
 | false => rw [hu, hb] at h; cases h
 | true =>
  rw [hb] at hu
  simp only [Bool.and_eq_true] at hb
  exact ⟨L4.1 hb.1, of_decide_eq_true hb.2.1, L4.1 hb.2.2, hu⟩
theorem Go5 {l : B7} {i : Int} {e : B2} (h1 : LogP l) (h2 : l.1 + 1 ≤ i ∧ i ≤ l.1 + l.2.2.1.length + 1) (h3 : LogP (l.1, l.2.1, l.2.2.1.take (i - l.1 - 1).toNat ++ [e], ())) : Bo6 l i e = ((l.1, l.2.1, l.2.2.1.take (i - l.1 - 1).toNat ++ [e], ()), true) := by
 unfold Bo6
 rw [L4.2 h1, L4.2 h3, decide_eq_true h2]
 rfl
theorem JRec.app_ok {j : A0} {r : JRec} (hj : LogP j.2.2.2.1) (hf : r.fits j) : LogP (r.app j).2.2.2.1 ∧ (r.app j).1 = j.1 := by
 cases r with
 | hard t v => exact ⟨hj, rfl⟩
 | ent i e =>
  obtain ⟨_, _, h3, h4⟩ := Go4 hf
  refine ⟨?_, rfl⟩
  show LogP (Bo6 j.2.2.2.1 i e).1
  rw [h4]; exact h3
theorem Gl4 : (⟨#[72]⟩ : ByteArray) = I2 72 := by apply Af3; simp [I2, B6]
theorem h66 : (⟨#[66]⟩ : ByteArray) = I2 66 := by apply Af3; simp [I2, B6]
theorem D93 (j : A0) (r : JRec) (hj : LogP j.2.2.2.1) (hn : 0 ≤ j.1 ∧ j.1 ≤ 999) (ho : r.ok) (hf : r.fits j) :
  Ev (fun k => Ad0 k j r.bytes) (true, r.app j, ()) ∧ Ev (fun k => By3 k j r.bytes) (r.app j, true) := by
 cases r with
 | hard t v =>
  obtain ⟨⟨t1, t2⟩, ⟨v1, v2⟩⟩ := ho
  have h2 := Ga1 72 t v (by decide) ⟨t1, by omega⟩ ⟨v1, by omega⟩
  constructor
  ·refine Re.eq ?_
   unfold Ad0
   rw [Gl4]
   refine Re.c1 h2.1 (Re.br (b := true) (fun _ => ?_) (fun h => by cases h))
   refine Re.s1 (H9 · _ _ _) ?_
   rw [show j5 (t, v, true).1 0 100000 = true from D4.2 ⟨t1, t2⟩]
   refine Re.s1 (H9 · _ _ _) ?_
   rw [show j5 (t, v, true).2.1 0 4 = true from D4.2 ⟨v1, v2⟩]
   exact Re.ret rfl
  ·refine Re.eq (Re.c1 h2.2 (Re.br (b := true) (fun _ => ?_) (fun h => by cases h)))
   refine Re.c1 (Ab7 (j.1, t, v, j.2.2.2) hj.small) ?_
   have : jOk (j.1, t, v, j.2.2.2) = true := by
    unfold jOk
    simp only [Bool.and_eq_true]
    exact ⟨D4.2 hn, D4.2 ⟨t1, t2⟩, D4.2 ⟨v1, v2⟩, L4.2 hj⟩
   rw [this]
   exact Re.ret rfl
 | ent i e =>
  obtain ⟨ho, hi⟩ := ho
  obtain ⟨k1, k2, k3⟩ := W8 ho
  have i1 := D4.1 hi
  obtain ⟨n1, x, y, n2⟩ := Go3 i e.1 e.2.1 e.2.2.1 (by omega) (by omega) (by omega)
  have hf : (Bo6 j.2.2.2.1 i e).2 = true := hf
  have hp : Bo6 j.2.2.2.1 i e = ((Bo6 j.2.2.2.1 i e).1, true) := by rw [← hf]
  constructor
  ·refine Re.eq (Re.c1 n1 (Re.br (b := false) (fun h => by cases h) (fun _ => ?_)))
   refine Re.c1 (Dh5 i e ho hi) (Re.br (b := false) (fun h => by cases h) (fun _ => ?_))
   refine Re.c1 (v := ((Bo6 j.2.2.2.1 i e).1, true)) ((Ep2 _ _ _ hj.any (by show e.2.2.1.size ≤ 121; omega)).congr_val (fun _ => rfl) hp) ?_
   exact Re.ret rfl
  ·refine Re.eq (Re.c1 n2 (Re.br (b := false) (fun h => by cases h) (fun _ => ?_)))
   refine Re.c1 (Dh2 i e ho hi) (Re.br (b := false) (fun h => by cases h) (fun _ => ?_))
   refine Re.c1 (v := ((Bo6 j.2.2.2.1 i e).1, true)) ((Ep3 _ _ _ hj.any (by show e.2.2.1.size ≤ 121; omega)).congr_val (fun _ => rfl) hp) ?_
   exact Re.ret rfl
theorem JRec.rec_ok {r : JRec} (h : r.ok) : Bs5 r.bytes := by
 cases r with
 | hard t v =>
  obtain ⟨⟨t1, t2⟩, ⟨v1, v2⟩⟩ := h
  have := B74 (c := 72) (a := t) (b := v) (by omega) (by omega)
  exact ⟨Dh4 _ _ _, by show (L6 72 t v).size ≤ 9000; omega⟩
 | ent i e =>
  obtain ⟨k1, k2, k3⟩ := W8 h.1
  have i1 := D4.1 h.2
  have n1 : (F1 i).size ≤ 5 := D2 (by omega)
  have n2 : (F1 e.1).size ≤ 5 := D2 (by omega)
  have := B75 i e.1 e.2.1 e.2.2.1
  exact ⟨by show 1 ≤ (Ae2 i e.1 e.2.1 e.2.2.1).size; omega, by show (Ae2 i e.1 e.2.1 e.2.2.1).size ≤ 9000; omega⟩
def JChain : A0 → List JRec → Prop
 | _, [] => True
 | j, r :: rs => r.ok ∧ r.fits j ∧ JChain (r.app j) rs
noncomputable def p8 (j : A0) (rs : List JRec) : A0 := rs.foldl JRec.app j
theorem Ep5 : ∀ {rs : List JRec} {j : A0}, LogP j.2.2.2.1 → JChain j rs → LogP (p8 j rs).2.2.2.1 ∧ (p8 j rs).1 = j.1
 | [], j, hj, _ => ⟨hj, rfl⟩
 | r :: rs, j, hj, h => by
  obtain ⟨h1, h2⟩ := JRec.app_ok hj h.2.1
  obtain ⟨h3, h4⟩ := Ep5 h1 h.2.2
  exact ⟨h3, h4.trans h2⟩
theorem JChain.append : ∀ {rs qs : List JRec} {j : A0}, JChain j rs → JChain (p8 j rs) qs → JChain j (rs ++ qs)
 | [], _, _, _, h => h
 | _ :: _, _, _, h, k => ⟨h.1, h.2.1, JChain.append h.2.2 k⟩
theorem Ck0 (j : A0) (rs qs : List JRec) : p8 j (rs ++ qs) = p8 (p8 j rs) qs := List.foldl_append
theorem JChain.recs : ∀ {rs : List JRec} {j : A0}, JChain j rs → ∀ r ∈ rs, r.ok
 | _ :: _, _, h, _, .head _ => h.1
 | _ :: _, _, h, r, .tail _ hr => JChain.recs h.2.2 r hr
theorem JChain.take : ∀ {rs : List JRec} {j : A0} (n : Nat), JChain j rs → JChain j (rs.take n)
 | [], _, n, _ => by rw [List.take_nil]; trivial
 | r :: rs, _, 0, _ => trivial
 | r :: rs, _, n + 1, h => ⟨h.1, h.2.1, JChain.take n h.2.2⟩
end Go.Vm
end
section
set_option linter.unusedVariables false
set_option linter.unusedSimpArgs false
namespace Go.Vm
open Go
theorem Gt4 (done : List ByteArray) (t : ByteArray) (r : List ByteArray) : rd ByteArray.empty (done ++ t :: r) done.length = t := by simp [rd]
theorem A26 (a b : List ByteArray) : (B3 a).size ≤ (B3 (a ++ b)).size := by rw [N5, C8]; omega
theorem Db2 (all : List ByteArray) (X : Int) (hsz : (B3 all).size ≤ 20000) (hrec : ∀ t ∈ all, Bs5 t) : ∀ (rest : List JRec) (done : List ByteArray) (j : A0), all = done ++ rest.map JRec.bytes → 1 ≤ done.length → JChain j rest → LogP j.2.2.2.1 → (0 ≤ j.1 ∧ j.1 ≤ 999) →
  (∃ K, ∀ k, K ≤ k → ∀ n, rest.length < n → W0 k n ((B3 done).size : Int) (done.length : Int) (all, X) j.1 j.2.1 j.2.2.1 j.2.2.2.1.1 j.2.2.2.1.2.1 j.2.2.2.1.2.2.1 = some (p8 j rest, ((B3 all).size : Int), true)) ∧
  (∃ K, ∀ k, K ≤ k → ∀ n, rest.length < n → W2 k n ((B3 done).size : Int) (all, X) ((done.length - 1 : Nat) : Int) j.1 j.2.1 j.2.2.1 j.2.2.2.1.1 j.2.2.2.1.2.1 j.2.2.2.1.2.2.1 = some (p8 j rest, ((B3 all).size : Int), true))
 | [], done, j, hall, h1, _, _, _ => by
  rw [List.map_nil, List.append_nil] at hall
  subst hall
  refine ⟨⟨0, fun k _ n hn => ?_⟩, ⟨0, fun k _ n hn => ?_⟩⟩
  ·obtain ⟨n, rfl⟩ : ∃ m, n = m + 1 := ⟨n - 1, by simp at hn; omega⟩
   show br (decide ((all.length : Int) < (all.length : Int))) _ _ = _
   rw [decide_eq_false (by omega)]
   rfl
  ·obtain ⟨n, rfl⟩ : ∃ m, n = m + 1 := ⟨n - 1, by simp at hn; omega⟩
   show br (decide (((all.length - 1 : Nat) : Int) < ((all.length - 1 : Nat) : Int))) _ _ = _
   rw [decide_eq_false (by omega)]
   rfl
 | r :: rest, done, j, hall, h1, hc, hj, hn => by
  have hl := Bb9 all
  obtain ⟨ho, hf, hc2⟩ := hc
  obtain ⟨a1, a2⟩ := JRec.app_ok hj hf
  have hR := JRec.rec_ok ho
  have hR1 := hR.2
  have hFs := l7 r.bytes
  have hall1 : all = done ++ r.bytes :: rest.map JRec.bytes := by rw [hall, List.map_cons]
  have hall2 : all = (done ++ [r.bytes]) ++ rest.map JRec.bytes := by rw [hall1, List.append_assoc]; rfl
  have hlen : all.length = done.length + 1 + rest.length := by rw [hall1]; simp; omega
  have hpart : (B3 (done ++ [r.bytes])).size ≤ (B3 all).size := by rw [hall2]; exact A26 _ _
  have hsum : (B3 (done ++ [r.bytes])).size = (B3 done).size + (G4 r.bytes).size := by rw [N5, l8, C8]
  have hrd : rd ByteArray.empty all done.length = r.bytes := by rw [hall1]; exact Gt4 _ _ _
  obtain ⟨⟨K1, t1⟩, ⟨K2, t2⟩⟩ := D93 j r hj hn ho hf
  obtain ⟨K3, f1⟩ := Ai7 r.bytes hR
  obtain ⟨K4, f2⟩ := As5 r.bytes hR
  obtain ⟨⟨K5, g1⟩, ⟨K6, g2⟩⟩ := Db2 all X hsz hrec rest (done ++ [r.bytes]) (r.app j) hall2 (by simp) hc2 a1 (by rw [a2]; exact hn)
  have e1 : B0 (((B3 done).size : Int) + ((G4 r.bytes).size : Int)) = ((B3 (done ++ [r.bytes])).size : Int) := by rw [hsum, C6 (by omega) (by omega)]; rfl
  have e2 : B0 ((done.length : Int) + 1) = ((done ++ [r.bytes]).length : Int) := by rw [C6 (by omega) (by omega)]; simp
  have e3 : B0 (((done.length - 1 : Nat) : Int) + 1) = (((done ++ [r.bytes]).length - 1 : Nat) : Int) := by rw [C6 (by omega) (by omega)]; simp; omega
  refine ⟨⟨max K1 (max K3 K5), fun k hk n hk2 => ?_⟩, ⟨max K2 (max K4 K6), fun k hk n hk2 => ?_⟩⟩
  ·obtain ⟨n, rfl⟩ : ∃ m, n = m + 1 := ⟨n - 1, by simp at hk2; omega⟩
   have q1 : Ad0 k (j.1, j.2.1, j.2.2.1, (j.2.2.2.1.1, j.2.2.2.1.2.1, j.2.2.2.1.2.2.1, ()), ()) r.bytes = some (true, r.app j, ()) := t1 k (by omega)
   have q2 : T4 k r.bytes = some (G4 r.bytes, true) := f1 k (by omega)
   have d1 : decide ((done.length : Int) < (all.length : Int)) = true := decide_eq_true (by omega)
   have d2 : decide ((done.length : Int) > 0) = true := decide_eq_true (by omega)
   have d3 : decide (0 ≤ (done.length : Int)) = true := decide_eq_true (Int.natCast_nonneg _)
   simp only [W0, Ar5, d1, d2, d3, br_true, gd_true, Int.toNat_natCast, hrd, q1, q2, bd_some, Bool.not_true, br_false, e1, e2]
   exact g1 k (by omega) n (by simp at hk2; omega)
  ·obtain ⟨n, rfl⟩ : ∃ m, n = m + 1 := ⟨n - 1, by simp at hk2; omega⟩
   have q1 : By3 k (j.1, j.2.1, j.2.2.1, (j.2.2.2.1.1, j.2.2.2.1.2.1, j.2.2.2.1.2.2.1, ()), ()) r.bytes = some (r.app j, true) := t2 k (by omega)
   have q2 : o0 k r.bytes = some (G4 r.bytes, true) := f2 k (by omega)
   have d1 : decide (((done.length - 1 : Nat) : Int) < ((all.length - 1 : Nat) : Int)) = true := decide_eq_true (by omega)
   have d3 : decide (0 ≤ ((done.length - 1 : Nat) : Int)) = true := decide_eq_true (Int.natCast_nonneg _)
   have hrd2 : rd ByteArray.empty all (1 + (done.length - 1)) = r.bytes := by rw [show 1 + (done.length - 1) = done.length by omega]; exact hrd
   simp only [W2, As0, d1, d3, br_true, gd_true, Int.toNat_natCast, hrd2, q1, q2, bd_some, Bool.not_true, br_false, e1, e3]
   exact g2 k (by omega) n (by simp at hk2; omega)
abbrev Ak5 (n start sterm : Int) : A0 := (n, 0, 0, (start, sterm, [], ()), ())
noncomputable def Ab8 (start sterm : Int) (rs : List JRec) : ByteArray := B3 (L6 66 start sterm :: rs.map JRec.bytes)
theorem Fu3 (n start sterm : Int) (rs : List JRec) (x : ByteArray) (hn : 0 ≤ n ∧ n ≤ 999) (h0 : LogP (start, sterm, [], ())) (hc : JChain (Ak5 n start sterm) rs) (hx : Fd5 x) (hsz : (Ab8 start sterm rs ++ x).size ≤ 20000) :
  Ev (fun k => u2 k n (Ab8 start sterm rs ++ x)) (p8 (Ak5 n start sterm) rs, ((Ab8 start sterm rs).size : Int), true) ∧
  Ev (fun k => S5 k n (Ab8 start sterm rs ++ x)) (p8 (Ak5 n start sterm) rs, ((Ab8 start sterm rs).size : Int), true) := by
 obtain ⟨s1, s2⟩ := h0.1
 obtain ⟨s3, s4⟩ := h0.2.1
 simp only at s1 s2 s3 s4
 have hB : Bs5 (L6 66 start sterm) := ⟨Dh4 _ _ _, by have := B74 (c := 66) (a := start) (b := sterm) (by omega) (by omega); omega⟩
 obtain ⟨all, hall⟩ : ∃ all, all = L6 66 start sterm :: rs.map JRec.bytes := ⟨_, rfl⟩
 have hF : Ab8 start sterm rs = B3 all := by rw [hall]; rfl
 have hrec : ∀ t ∈ all, Bs5 t := fun t ht => by
  rw [hall] at ht
  rcases List.mem_cons.1 ht with rfl | ht
  ·exact hB
  ·obtain ⟨r, hr, rfl⟩ := List.mem_map.1 ht
   exact JRec.rec_ok (hc.recs r hr)
 rw [hF] at hsz ⊢
 have hU := Fd6 all x hrec hx hsz
 have hsz2 : (B3 all).size ≤ 20000 := by rw [C8] at hsz; omega
 have hl := Bb9 all
 have h2 := Ga1 66 start sterm (by decide) ⟨s1, by omega⟩ ⟨s3, by omega⟩
 have hlen : all.length = rs.length + 1 := by rw [hall]; simp
 have hne : (((all, ((B3 all).size : Int)) : List ByteArray × Int).1.length : Int) ≠ 0 := by show (all.length : Int) ≠ 0; omega
 have hhd : rd ByteArray.empty all 0 = L6 66 start sterm := by rw [hall]; rfl
 have hd1 : [L6 66 start sterm].length = 1 := rfl
 have hL : D91 (start, sterm, [], ()) := h0.small
 have hfs : (B3 [L6 66 start sterm]).size = (G4 (L6 66 start sterm)).size := by rw [l8]
 have hfle : (B3 [L6 66 start sterm]).size ≤ (B3 all).size := by rw [hall]; exact A26 [L6 66 start sterm] _
 obtain ⟨⟨K1, g1⟩, ⟨K2, g2⟩⟩ := Db2 all ((B3 all).size : Int) hsz2 hrec rs [L6 66 start sterm] (Ak5 n start sterm) (by rw [hall]; rfl) (by simp) hc h0 hn
 constructor
 ·refine Re.eq (Re.c1 hU.1 (Re.s1 (H9 · _ _ _) ?_))
  rw [D4.2 hn]
  refine Re.bre (fun h => absurd h hne) (fun _ => Re.gdd (by show (0 : Int) < (all.length : Int); omega) ?_)
  refine Re.c1 (v := (start, sterm, true)) (h2.1.congr fun k => by show Av4 k (rd ByteArray.empty all 0) (⟨#[66]⟩ : ByteArray) = _; rw [hhd, h66]) ?_
  refine Re.br (b := false) (fun h => by cases h) (fun _ => ?_)
  refine Re.c1 (A73 (start, sterm, [], ()) hL) ?_
  rw [L4.2 h0]
  refine Re.br (b := false) (fun h => by cases h) (fun _ => ?_)
  obtain ⟨K3, f1⟩ := Ai7 _ hB
  have e1 : B0 (0 + ((G4 (L6 66 start sterm)).size : Int)) = ((B3 [L6 66 start sterm]).size : Int) := by rw [hfs, C6 (by omega) (by omega)]; omega
  have e2 : B0 (0 + 1) = ((1 : Nat) : Int) := rfl
  have d0 : decide ((0 : Int) < (all.length : Int)) = true := decide_eq_true (by omega)
  have d1 : decide ((0 : Int) > 0) = false := rfl
  cases rs with
  | nil =>
   have hone : all = [L6 66 start sterm] := by rw [hall]; rfl
   refine ⟨_, rfl, K3 + 2, fun k hk => ?_⟩
   obtain ⟨k, rfl⟩ : ∃ m, k = m + 2 := ⟨k - 2, by have : K3 + 2 ≤ k := hk; omega⟩
   have hk : K3 + 2 ≤ k + 2 := hk
   have q : T4 (k + 2) (L6 66 start sterm) = some (G4 (L6 66 start sterm), true) := f1 _ (by omega)
   have d2 : decide (((1 : Nat) : Int) < (all.length : Int)) = false := decide_eq_false (by rw [hone]; simp)
   show J8 (k + 2) (k + 2) 0 0 (all, _) n (start, sterm, true) = _
   simp only [J8, Ad1, d0, d1, br_true, br_false, show decide ((0 : Int) ≤ 0) = true from rfl, gd_true, show (0 : Int).toNat = 0 from rfl, hhd, q, bd_some, e1, e2, d2]
   rw [hone]
   rfl
  | cons r rs =>
   obtain ⟨ho, hf, hc2⟩ := hc
   obtain ⟨a1, a2⟩ := JRec.app_ok h0 hf
   have hR := JRec.rec_ok ho
   have hall2 : all = [L6 66 start sterm, r.bytes] ++ rs.map JRec.bytes := by rw [hall]; rfl
   obtain ⟨⟨K4, g4⟩, _⟩ := Db2 all ((B3 all).size : Int) hsz2 hrec rs [L6 66 start sterm, r.bytes] (r.app (Ak5 n start sterm)) hall2 (by simp) hc2 a1 (by rw [a2]; exact hn)
   obtain ⟨⟨K5, t5⟩, _⟩ := D93 (Ak5 n start sterm) r h0 hn ho hf
   obtain ⟨K6, f6⟩ := Ai7 r.bytes hR
   have hfle2 : (B3 [L6 66 start sterm, r.bytes]).size ≤ (B3 all).size := by rw [hall2]; exact A26 _ _
   have hsum : (B3 [L6 66 start sterm, r.bytes]).size = (B3 [L6 66 start sterm]).size + (G4 r.bytes).size := by
    rw [show [L6 66 start sterm, r.bytes] = [L6 66 start sterm] ++ [r.bytes] from rfl, N5, l8 r.bytes, C8]
   refine ⟨_, rfl, K3 + K4 + K5 + K6 + rs.length + 3, fun k hk => ?_⟩
   have hk : K3 + K4 + K5 + K6 + rs.length + 3 ≤ k := hk
   obtain ⟨k', hk'⟩ : ∃ m, k = m + 2 := ⟨k - 2, by omega⟩
   have q : T4 k (L6 66 start sterm) = some (G4 (L6 66 start sterm), true) := f1 _ (by omega)
   have q2 : T4 k r.bytes = some (G4 r.bytes, true) := f6 _ (by omega)
   have q3 : Ad0 k (n, 0, 0, (start, sterm, [], ()), ()) r.bytes = some (true, r.app (Ak5 n start sterm), ()) := t5 k (by omega)
   have d2 : decide (((1 : Nat) : Int) < (all.length : Int)) = true := decide_eq_true (by rw [hlen]; simp; omega)
   have hrd : rd ByteArray.empty all 1 = r.bytes := by rw [hall2]; rfl
   have e3 : B0 (((B3 [L6 66 start sterm]).size : Int) + ((G4 r.bytes).size : Int)) = ((B3 [L6 66 start sterm, r.bytes]).size : Int) := by rw [hsum, C6 (by omega) (by omega)]; rfl
   have e4 : B0 (((1 : Nat) : Int) + 1) = ((2 : Nat) : Int) := rfl
   have g4' := g4 k (by omega) k' (by omega)
   show J8 k k 0 0 (all, _) n (start, sterm, true) = _
   generalize hK : W0 k = L1 at g4'
   rw [show J8 k k = J8 k (k' + 2) by rw [← hk']]
   simp only [J8, Ad1, d0, d1, br_true, br_false, show decide ((0 : Int) ≤ 0) = true from rfl, gd_true, show (0 : Int).toNat = 0 from rfl, hhd, q, bd_some, e1, e2, d2, show decide (((1 : Nat) : Int) > 0) = true from rfl, show decide (0 ≤ ((1 : Nat) : Int)) = true from rfl, Int.toNat_natCast, hrd, q2, q3, Bool.not_true, e3, e4, hK]
   exact g4'
 ·refine Re.eq (Re.c1 hU.2 (Re.s1 (N2 · _ _ _) ?_))
  rw [D4.2 hn]
  refine Re.bre (fun h => absurd h hne) (fun _ => Re.gdd (by show (0 : Int) < (all.length : Int); omega) ?_)
  refine Re.c1 (v := (start, sterm, true)) (h2.2.congr fun k => by show By1 k (rd ByteArray.empty all 0) 66 = _; rw [hhd]) ?_
  refine Re.br (b := false) (fun h => by cases h) (fun _ => ?_)
  have hj0 : jOk (n, 0, 0, (start, sterm, [], ()), ()) = true := by
   unfold jOk
   simp only [Bool.and_eq_true]
   exact ⟨D4.2 hn, rfl, rfl, L4.2 h0⟩
  refine Re.c1 (Ab7 (n, 0, 0, (start, sterm, [], ()), ()) hL) ?_
  rw [hj0]
  refine Re.br (b := false) (fun h => by cases h) (fun _ => Re.gdd (by show (0 : Int) < (all.length : Int); omega) ?_)
  refine Re.c1 (v := (G4 (L6 66 start sterm), true)) ((As5 _ hB).congr fun k => by show o0 k (rd ByteArray.empty all 0) = _; rw [hhd]) (Re.gdd (by show (1 : Int) ≤ (all.length : Int); omega) ?_)
  cases rs with
  | nil =>
   have hone : all = [L6 66 start sterm] := by rw [hall]; rfl
   refine ⟨_, rfl, 1, fun k hk => ?_⟩
   obtain ⟨k, rfl⟩ : ∃ m, k = m + 1 := ⟨k - 1, by have : 1 ≤ k := hk; omega⟩
   have d2 : decide ((0 : Int) < ((all.length - 1 : Nat) : Int)) = false := decide_eq_false (by rw [hone]; simp)
   show M3 (k + 1) (k + 1) (G4 (L6 66 start sterm), true) (all, _) n (start, sterm, true) = _
   simp only [M3, Ad8, d2, br_false]
   rw [hone, l8]
   rfl
  | cons r rs =>
   obtain ⟨ho, hf, hc2⟩ := hc
   obtain ⟨a1, a2⟩ := JRec.app_ok h0 hf
   have hR := JRec.rec_ok ho
   have hall2 : all = [L6 66 start sterm, r.bytes] ++ rs.map JRec.bytes := by rw [hall]; rfl
   obtain ⟨_, ⟨K4, g4⟩⟩ := Db2 all ((B3 all).size : Int) hsz2 hrec rs [L6 66 start sterm, r.bytes] (r.app (Ak5 n start sterm)) hall2 (by simp) hc2 a1 (by rw [a2]; exact hn)
   obtain ⟨_, ⟨K5, t5⟩⟩ := D93 (Ak5 n start sterm) r h0 hn ho hf
   obtain ⟨K6, f6⟩ := As5 r.bytes hR
   have hfle2 : (B3 [L6 66 start sterm, r.bytes]).size ≤ (B3 all).size := by rw [hall2]; exact A26 _ _
   have hsum : (B3 [L6 66 start sterm, r.bytes]).size = (G4 (L6 66 start sterm)).size + (G4 r.bytes).size := by
    rw [show [L6 66 start sterm, r.bytes] = [L6 66 start sterm] ++ [r.bytes] from rfl, N5, l8 r.bytes, C8, hfs]
   refine ⟨_, rfl, K4 + K5 + K6 + rs.length + 3, fun k hk => ?_⟩
   have hk : K4 + K5 + K6 + rs.length + 3 ≤ k := hk
   obtain ⟨k', hk'⟩ : ∃ m, k = m + 1 := ⟨k - 1, by omega⟩
   have q2 : o0 k r.bytes = some (G4 r.bytes, true) := f6 _ (by omega)
   have q3 : By3 k (n, 0, 0, (start, sterm, [], ()), ()) r.bytes = some (r.app (Ak5 n start sterm), true) := t5 k (by omega)
   have d2 : decide ((0 : Int) < ((all.length - 1 : Nat) : Int)) = true := decide_eq_true (by rw [hlen]; simp)
   have hrd : rd ByteArray.empty all 1 = r.bytes := by rw [hall2]; rfl
   have e3 : B0 (((G4 (L6 66 start sterm)).size : Int) + ((G4 r.bytes).size : Int)) = ((B3 [L6 66 start sterm, r.bytes]).size : Int) := by rw [hsum, C6 (by omega) (by omega)]; rfl
   have g4' := g4 k (by omega) k' (by omega)
   show M3 k k (G4 (L6 66 start sterm), true) (all, _) n (start, sterm, true) = _
   generalize hK : W2 k = L1 at g4'
   rw [show M3 k k = M3 k (k' + 1) by rw [← hk']]
   simp only [M3, Ad8, d2, br_true, gd_true, hrd, q2, q3, bd_some, Bool.not_true, br_false, e3, hK]
   exact g4'
end Go.Vm
end
section
set_option linter.unusedVariables false
set_option linter.unusedSimpArgs false
namespace Go.Vm
open Go
def Cy0 (i : Int) : List B2 → List JRec
 | [] => []
 | e :: r => .ent i e :: Cy0 (i + 1) r
theorem Dh6 : ∀ (p : Nat) (i : Int) (xs : List B2), (Cy0 i xs).take p = Cy0 i (xs.take p)
 | 0, _, _ => by simp [Cy0]
 | p + 1, i, [] => by simp [Cy0]
 | p + 1, i, e :: r => by simp only [Cy0, List.take_succ_cons, Dh6 p]
def M6 (l : B7) (a : Nat) : List JRec := Cy0 (l.1 + 1 + a) (l.2.2.1.drop a)
theorem Bo7 {l : B7} {a : Nat} (h : a < l.2.2.1.length) : M6 l a = .ent (l.1 + 1 + a) (rd A8 l.2.2.1 a) :: M6 l (a + 1) := by
 unfold M6
 rw [List.drop_eq_getElem_cons h, Cy0, ← Aa6 h (z := A8)]
 congr 2
 omega
theorem Bc0 {l : B7} {a : Nat} (h : l.2.2.1.length ≤ a) : M6 l a = [] := by
 unfold M6
 rw [List.drop_eq_nil_of_le h]
 rfl
theorem D26 {i : Int} {e : B2} (ho : N6 e = true) (hi : i ≤ 1000000) : (G4 (Ae2 i e.1 e.2.1 e.2.2.1)).size ≤ 150 := by
 obtain ⟨k1, k2, k3⟩ := W8 ho
 have n1 : (F1 i).size ≤ 5 := D2 (by omega)
 have n2 : (F1 e.1).size ≤ 5 := D2 (by omega)
 have h := B75 i e.1 e.2.1 e.2.2.1
 have n3 : (F1 ((Ae2 i e.1 e.2.1 e.2.2.1).size : Int)).size ≤ 5 := D2 (by omega)
 rw [l7]; omega
theorem Fd7 {l : B7} (hl : LogP l) {a : Nat} (h : a < l.2.2.1.length) : N6 (rd A8 l.2.2.1 a) = true ∧ j5 (l.1 + 1 + a) 1 1000000 = true := by
 refine ⟨(hl.2.2.2.2 a h).1, D4.2 ⟨?_, ?_⟩⟩
 ·have := hl.1.1; omega
 ·have := hl.2.2.2.1; omega
theorem Cy1 (l : B7) (hl : LogP l) : ∀ (m a : Nat) (xs : List Int), a + m = l.2.2.1.length → xs.length ≤ 150 * a →
  (∃ K, ∀ k, K ≤ k → ∀ n, m < n → W5 k n (a : Int) l xs = some (B6 (xs ++ D5 (B3 ((M6 l a).map JRec.bytes))))) ∧
  (∃ K, ∀ k, K ≤ k → ∀ n, m < n → Q6 k n (a : Int) l xs = some (B6 (xs ++ D5 (B3 ((M6 l a).map JRec.bytes)))))
 | 0, a, xs, hm, _ => by
  have he : M6 l a = [] := Bc0 (by omega)
  have hz : B6 (xs ++ D5 (B3 (([] : List JRec).map JRec.bytes))) = B6 xs := by
   show B6 (xs ++ D5 (⟨#[]⟩ : ByteArray)) = _
   rw [show D5 (⟨#[]⟩ : ByteArray) = [] from rfl, List.append_nil]
  rw [he, hz]
  have d : decide ((a : Int) < (l.2.2.1.length : Int)) = false := decide_eq_false (by omega)
  refine ⟨⟨0, fun k _ n hn => ?_⟩, ⟨0, fun k _ n hn => ?_⟩⟩
  ·obtain ⟨n, rfl⟩ : ∃ q, n = q + 1 := ⟨n - 1, by omega⟩
   simp only [W5, Am0, d, br_false]
  ·obtain ⟨n, rfl⟩ : ∃ q, n = q + 1 := ⟨n - 1, by omega⟩
   simp only [Q6, Ad7, d, br_false]
 | m + 1, a, xs, hm, hx => by
  have ha : a < l.2.2.1.length := by omega
  have h60 := hl.2.2.1
  have hl1 := hl.1
  have hl3 := hl.2.2.2.1
  obtain ⟨ho, hi⟩ := Fd7 hl ha
  have hi2 := D4.1 hi
  obtain ⟨e, he⟩ : ∃ e, e = rd A8 l.2.2.1 a := ⟨_, rfl⟩
  rw [← he] at ho
  have hsm := D26 ho hi2.2
  have hd := (W8 ho).2.2
  have hT : Bb8 (l.1 + 1 + a) e = (Ae2 (l.1 + 1 + a) e.1 e.2.1 e.2.2.1, true) := by unfold Bb8; rw [ho, hi]; rfl
  have hR : Bs5 (Ae2 (l.1 + 1 + a) e.1 e.2.1 e.2.2.1) := JRec.rec_ok (r := .ent (l.1 + 1 + a) e) ⟨ho, hi⟩
  obtain ⟨K1, h1⟩ := Bz3 (l.1 + 1 + a) e (by omega)
  obtain ⟨K2, h2⟩ := Dh1 (l.1 + 1 + a) e (by omega)
  obtain ⟨K3, h3⟩ := Ai7 _ hR
  obtain ⟨K4, h4⟩ := As5 _ hR
  obtain ⟨B, hB⟩ : ∃ B, B = Ae2 (l.1 + 1 + a) e.1 e.2.1 e.2.2.1 := ⟨_, rfl⟩
  rw [hT] at h1 h2
  rw [← hB] at h1 h2 h3 h4 hsm
  have hlen : (xs ++ D5 (G4 B)).length ≤ 150 * (a + 1) := by rw [List.length_append, E4]; omega
  obtain ⟨⟨K5, h5⟩, ⟨K6, h6⟩⟩ := Cy1 l hl m (a + 1) (xs ++ D5 (G4 B)) (by omega) hlen
  have hout : xs ++ D5 (B3 ((M6 l a).map JRec.bytes)) = (xs ++ D5 (G4 B)) ++ D5 (B3 ((M6 l (a + 1)).map JRec.bytes)) := by
   rw [Bo7 ha, List.map_cons, B3, N4, List.append_assoc, ← he]
   show xs ++ (D5 (G4 (Ae2 (l.1 + 1 + a) e.1 e.2.1 e.2.2.1)) ++ _) = _
   rw [← hB]
  rw [hout]
  have d : decide ((a : Int) < (l.2.2.1.length : Int)) = true := decide_eq_true (by omega)
  have d0 : decide (0 ≤ (a : Int)) = true := decide_eq_true (Int.natCast_nonneg _)
  have z1 : B0 (l.1 + 1) = l.1 + 1 := C6 (by omega) (by omega)
  have z2 : B0 (l.1 + 1 + (a : Int)) = l.1 + 1 + a := C6 (by omega) (by omega)
  have z3 : B0 (l.1 + (a : Int)) = l.1 + a := C6 (by omega) (by omega)
  have z4 : B0 (l.1 + (a : Int) + 1) = l.1 + 1 + a := by rw [C6 (by omega) (by omega)]; omega
  have z5 : B0 ((a : Int) + 1) = ((a + 1 : Nat) : Int) := by rw [C6 (by omega) (by omega)]; rfl
  have z6 : decide (xs.length + (D5 (G4 B)).length ≤ A2) = true := decide_eq_true (by rw [E4]; unfold A2; omega)
  refine ⟨⟨K1 + K3 + K5, fun k hk n hn => ?_⟩, ⟨K2 + K4 + K6, fun k hk n hn => ?_⟩⟩
  ·obtain ⟨n, rfl⟩ : ∃ q, n = q + 1 := ⟨n - 1, by omega⟩
   have q1 : j7 k (l.1 + 1 + a) e = some (B, true) := h1 k (by omega)
   have q2 : T4 k B = some (G4 B, true) := h3 k (by omega)
   have q3 := h5 k (by omega) n (by omega)
   simp only [W5, Am0, d, d0, br_true, gd_true, z1, z2, Int.toNat_natCast, ← he, q1, q2, bd_some, z5, z6]
   exact q3
  ·obtain ⟨n, rfl⟩ : ∃ q, n = q + 1 := ⟨n - 1, by omega⟩
   have q1 : Ak2 k (l.1 + 1 + a) e = some (B, true) := h2 k (by omega)
   have q2 : o0 k B = some (G4 B, true) := h4 k (by omega)
   have q3 := h6 k (by omega) n (by omega)
   simp only [Q6, Ad7, d, d0, br_true, gd_true, z3, z4, Int.toNat_natCast, ← he, q1, q2, bd_some, z5, z6]
   exact q3
noncomputable def Ck1 (l : B7) (a : Nat) : ByteArray := B3 ((M6 l a).map JRec.bytes)
theorem As6 (l : B7) (hl : LogP l) : ∀ (m a : Nat), a + m = l.2.2.1.length → (Ck1 l a).size ≤ 150 * m
 | 0, a, h => by unfold Ck1; rw [Bc0 (by omega)]; exact Nat.zero_le _
 | m + 1, a, h => by
  have ha : a < l.2.2.1.length := by omega
  obtain ⟨ho, hi⟩ := Fd7 hl ha
  have h1 := D26 ho (D4.1 hi).2
  have h2 := As6 l hl m (a + 1) (by omega)
  unfold Ck1 at h2 ⊢
  rw [Bo7 ha, List.map_cons, B3, C8]
  have : (G4 (JRec.bytes (.ent (l.1 + 1 + a) (rd A8 l.2.2.1 a)))).size ≤ 150 := h1
  omega
theorem Cr2 (l : B7) (hl : LogP l) (a : Nat) (ha : a ≤ l.2.2.1.length) : Ev (fun k => F8 k l (a : Int)) (Ck1 l a) ∧ Ev (fun k => G3 k l (a : Int)) (Ck1 l a) := by
 obtain ⟨⟨K1, h1⟩, ⟨K2, h2⟩⟩ := Cy1 l hl (l.2.2.1.length - a) a [] (by omega) (by simp)
 have e : B6 ([] ++ D5 (B3 ((M6 l a).map JRec.bytes))) = Ck1 l a := by rw [List.nil_append, Q2]; rfl
 rw [e] at h1 h2
 exact ⟨⟨max K1 (l.2.2.1.length - a + 1), fun k hk => h1 k (by omega) k (by omega)⟩, ⟨max K2 (l.2.2.1.length - a + 1), fun k hk => h2 k (by omega) k (by omega)⟩⟩
noncomputable def Cy2 (t v : Int) : ByteArray := G4 (L6 72 t v)
theorem Ae3 {c a b : Int} (ha : 0 ≤ a ∧ a ≤ 1000000) (hb : 0 ≤ b ∧ b ≤ 1000000) : Bs5 (L6 c a b) ∧ (G4 (L6 c a b)).size ≤ 20 := by
 have h := B74 (c := c) (a := a) (b := b) (by omega) (by omega)
 have n : (F1 ((L6 c a b).size : Int)).size ≤ 5 := D2 (by omega)
 exact ⟨⟨Dh4 _ _ _, by omega⟩, by rw [l7]; omega⟩
theorem D27 {t v : Int} (ht : 0 ≤ t ∧ t ≤ 1000000) (hv : 0 ≤ v ∧ v ≤ 1000000) : Ev (fun k => M2 k t v) (Cy2 t v) := by
 have n1 : (F1 t).size ≤ 5 := D2 (by omega)
 have n2 : (F1 v).size ≤ 5 := D2 (by omega)
 obtain ⟨h1, h2⟩ := Ae3 (c := 72) ht hv
 refine Re.eq (Re.c1 (H2 t ht.1 (by omega)) (Re.gdd (by simp only [Gl4, K8]; unfold A2; omega) (Re.c1 (H2 v hv.1 (by omega)) (Re.gdd (by simp only [Gl4, C8, K8]; unfold A2; omega) ?_))))
 have e : (⟨#[72]⟩ : ByteArray) ++ F1 t ++ F1 v = L6 72 t v := by rw [Gl4]; unfold L6; rw [ByteArray.append_assoc]
 exact Re.c1 (v := (G4 (L6 72 t v), true)) ((Ai7 _ h1).congr fun k => congrArg (T4 k) e) (Re.ret rfl)
theorem Cr3 (c : ByteArray) (n a b : Int) (hc : c = I2 n) (ha : 0 ≤ a ∧ a ≤ 1000000) (hb : 0 ≤ b ∧ b ≤ 1000000) : Ev (fun k => K7 k c a b) (G4 (L6 n a b)) := by
 subst hc
 have n1 : (F1 a).size ≤ 5 := D2 (by omega)
 have n2 : (F1 b).size ≤ 5 := D2 (by omega)
 obtain ⟨h1, h2⟩ := Ae3 (c := n) ha hb
 have hv := D21 [a, b] (by simp) (fun n hn => by simp at hn; rcases hn with rfl | rfl <;> omega)
 have e1 : Bm5 [a, b] = F1 a ++ F1 b := by
  rw [Cq9]
  show F1 a ++ (F1 b ++ (⟨#[]⟩ : ByteArray)) = _
  rw [show F1 b ++ (⟨#[]⟩ : ByteArray) = F1 b from ByteArray.append_empty]
 rw [e1] at hv
 refine Re.eq (Re.c1 hv (Re.gdd (by simp only [C8, K8]; unfold A2; omega) ?_))
 exact Re.c1 (v := (G4 (L6 n a b), true)) (As5 _ h1) (Re.ret rfl)
noncomputable def p9 (j : A0) : ByteArray := Ab8 j.2.2.2.1.1 j.2.2.2.1.2.1 (.hard j.2.1 j.2.2.1 :: M6 j.2.2.2.1 0)
theorem Bz4 (j : A0) : p9 j = G4 (L6 66 j.2.2.2.1.1 j.2.2.2.1.2.1) ++ Cy2 j.2.1 j.2.2.1 ++ Ck1 j.2.2.2.1 0 := by
 rw [ByteArray.append_assoc]
 rfl
theorem L5 {j : A0} (h : jOk j = true) : (0 ≤ j.1 ∧ j.1 ≤ 999) ∧ (0 ≤ j.2.1 ∧ j.2.1 ≤ 100000) ∧ (0 ≤ j.2.2.1 ∧ j.2.2.1 ≤ 4) ∧ LogP j.2.2.2.1 := by
 unfold jOk at h
 simp only [Bool.and_eq_true] at h
 exact ⟨D4.1 h.1, D4.1 h.2.1, D4.1 h.2.2.1, L4.1 h.2.2.2⟩
theorem Dh7 {j : A0} (h : jOk j = true) : (p9 j).size ≤ 40 + 150 * j.2.2.2.1.2.2.1.length := by
 obtain ⟨h1, h2, h3, h4⟩ := L5 h
 have s1 := (Ae3 (c := 66) h4.1 ⟨h4.2.1.1, by have := h4.2.1.2; omega⟩).2
 have s2 := (Ae3 (c := 72) (a := j.2.1) (b := j.2.2.1) ⟨h2.1, by omega⟩ ⟨h3.1, by omega⟩).2
 have s3 := As6 _ h4 _ 0 (Nat.zero_add _)
 rw [Bz4, C8, C8]
 unfold Cy2
 omega
theorem Dh8 {j : A0} (h : jOk j = true) : Ev (fun k => u3 k j) (p9 j, true) ∧ Ev (fun k => Ag1 k j) (p9 j, true) := by
 obtain ⟨h1, h2, h3, h4⟩ := L5 h
 have hsz := Dh7 h
 have h60 := h4.2.2.1
 have hst := h4.1
 have hsm := h4.2.1
 have hT2 : j.2.2.2.1.2.1 ≤ 1000000 := by omega
 obtain ⟨r1, r2⟩ := Ae3 (c := 66) h4.1 (⟨hsm.1, hT2⟩ : 0 ≤ j.2.2.2.1.2.1 ∧ j.2.2.2.1.2.1 ≤ 1000000)
 have s2 := (Ae3 (c := 72) (a := j.2.1) (b := j.2.2.1) ⟨h2.1, by omega⟩ ⟨h3.1, by omega⟩).2
 have s3 := As6 _ h4 _ 0 (Nat.zero_add _)
 have n1 : (F1 j.2.2.2.1.1).size ≤ 5 := D2 (by omega)
 have n2 : (F1 j.2.2.2.1.2.1).size ≤ 5 := D2 (by omega)
 have hF := Cr2 _ h4 0 (Nat.zero_le _)
 have hh : (Cy2 j.2.1 j.2.2.1).size ≤ 20 := s2
 have hlast : ∀ {f : Nat → Option (ByteArray × Bool)}, Re (fun k => br (decide (((p9 j).size : Int) > 20000)) (f k) (some (p9 j, true))) (fun r => r = (p9 j, true)) := fun {f} => by
  rw [decide_eq_false (by omega)]
  exact Re.ret rfl
 constructor
 ·refine Re.eq (Re.c1 (A74 j h4.small) ?_)
  rw [h]
  refine Re.br (b := false) (fun h => by cases h) (fun _ => ?_)
  refine Re.c1 (H2 _ hst.1 (by omega)) (Re.gdd (by simp only [h66, K8]; unfold A2; omega) (Re.c1 (H2 _ hsm.1 (by omega)) (Re.gdd (by simp only [h66, C8, K8]; unfold A2; omega) ?_)))
  have e : (⟨#[66]⟩ : ByteArray) ++ F1 j.2.2.2.1.1 ++ F1 j.2.2.2.1.2.1 = L6 66 j.2.2.2.1.1 j.2.2.2.1.2.1 := by rw [h66]; unfold L6; rw [ByteArray.append_assoc]
  refine Re.c1 (v := (G4 (L6 66 j.2.2.2.1.1 j.2.2.2.1.2.1), true)) ((Ai7 _ r1).congr fun k => congrArg (T4 k) e) ?_
  refine Re.c1 (D27 ⟨h2.1, by omega⟩ ⟨h3.1, by omega⟩) (Re.gdd (by simp only; unfold A2; omega) (Re.c1 hF.1 (Re.gdd (by simp only [C8]; unfold A2; omega) ?_)))
  have := @hlast fun _ => some ((⟨#[]⟩ : ByteArray), false)
  rw [Bz4] at this
  rw [Bz4]
  exact this
 ·refine Re.eq (Re.c1 (Ab7 j h4.small) ?_)
  rw [h]
  refine Re.br (b := false) (fun h => by cases h) (fun _ => ?_)
  refine Re.c1 (Cr3 _ 66 _ _ h66 hst ⟨hsm.1, hT2⟩) (Re.c1 (Cr3 _ 72 _ _ Gl4 ⟨h2.1, by omega⟩ ⟨h3.1, by omega⟩) (Re.gdd (by unfold Cy2 at hh; unfold A2; omega) (Re.c1 hF.2 (Re.gdd (by simp only [C8]; unfold Cy2 at hh; unfold A2; omega) ?_))))
  have := @hlast fun _ => some ((⟨#[]⟩ : ByteArray), false)
  rw [Bz4] at this
  rw [Bz4]
  exact this
theorem Ce4 (s t : Int) (xs : List B2) (m i : Nat) (h : i ≤ m) (hm : i ≤ xs.length) : M8 (s, t, xs.take m, ()) i = M8 (s, t, xs, ()) i := by
 unfold M8
 by_cases h0 : i = 0
 ·rw [if_pos h0, if_pos h0]
 ·rw [if_neg h0, if_neg h0]
  have : rd A8 (xs.take m) (i - 1) = rd A8 xs (i - 1) := by
   have hlt : i - 1 < m := by omega
   simp [rd, List.getElem?_take, hlt]
  show (rd A8 (xs.take m) (i - 1)).1 = _
  rw [this]
theorem LogP.take {l : B7} (h : LogP l) (m : Nat) : LogP (l.1, l.2.1, l.2.2.1.take m, ()) := by
 obtain ⟨h1, h2, h3, h4, h5⟩ := h
 refine ⟨h1, h2, by simp only [List.length_take]; omega, by simp only [List.length_take]; omega, fun i hi => ?_⟩
 simp only [List.length_take] at hi
 have hi2 : i < l.2.2.1.length := by omega
 obtain ⟨k1, k2⟩ := h5 i hi2
 have e : rd A8 (l.2.2.1.take m) i = rd A8 l.2.2.1 i := by
  have hlt : i < m := by omega
  simp [rd, List.getElem?_take, hlt]
 rw [Ce4 _ _ _ _ _ (by omega) (by omega)]
 simp only [e]
 exact ⟨k1, k2⟩
theorem e9 {α : Type} {d : α} {xs ys : List α} {a : Nat} (ha : a < ys.length) (h : xs.take a = ys.take a) : xs.take a ++ [rd d ys a] = ys.take (a + 1) := by
 rw [h, Aa6 ha, List.take_add_one, List.getElem?_eq_getElem ha]
 rfl
theorem Ce5 (l : B7) (hl : LogP l) : ∀ (m a : Nat) (j : A0), a + m = l.2.2.1.length → LogP j.2.2.2.1 → j.2.2.2.1.1 = l.1 → j.2.2.2.1.2.1 = l.2.1 → a ≤ j.2.2.2.1.2.2.1.length → j.2.2.2.1.2.2.1.take a = l.2.2.1.take a → (m = 0 → j.2.2.2.1.2.2.1.length = a) →
  JChain j (M6 l a) ∧ p8 j (M6 l a) = (j.1, j.2.1, j.2.2.1, l, ())
 | 0, a, j, hm, hj, h1, h2, h3, h4, h5 => by
  rw [Bc0 (by omega)]
  refine ⟨trivial, ?_⟩
  have e : j.2.2.2.1.2.2.1 = l.2.2.1 := by
   have h6 := h5 rfl
   rw [List.take_of_length_le (by omega), List.take_of_length_le (by omega)] at h4
   exact h4
  show j = _
  have : j.2.2.2.1 = l := Prod.ext h1 (Prod.ext h2 (Prod.ext e rfl))
  rw [← this]
 | m + 1, a, j, hm, hj, h1, h2, h3, h4, _ => by
  have ha : a < l.2.2.1.length := by omega
  obtain ⟨ho, hi⟩ := Fd7 hl ha
  have e1 : (l.1 + 1 + (a : Int) - j.2.2.2.1.1 - 1).toNat = a := by rw [h1]; omega
  have e2 : j.2.2.2.1.2.2.1.take a ++ [rd A8 l.2.2.1 a] = l.2.2.1.take (a + 1) := e9 ha h4
  have hP : LogP (j.2.2.2.1.1, j.2.2.2.1.2.1, j.2.2.2.1.2.2.1.take (l.1 + 1 + (a : Int) - j.2.2.2.1.1 - 1).toNat ++ [rd A8 l.2.2.1 a], ()) := by
   rw [e1, e2, h1, h2]
   exact hl.take (a + 1)
  have hput := Go5 hj ⟨by rw [h1]; omega, by rw [h1]; omega⟩ hP
  have hf : JRec.fits j (.ent (l.1 + 1 + a) (rd A8 l.2.2.1 a)) := by
   show (Bo6 j.2.2.2.1 (l.1 + 1 + a) (rd A8 l.2.2.1 a)).2 = true
   rw [hput]
  have happ : JRec.app j (.ent (l.1 + 1 + a) (rd A8 l.2.2.1 a)) = (j.1, j.2.1, j.2.2.1, (l.1, l.2.1, l.2.2.1.take (a + 1), ()), ()) := by
   show (j.1, j.2.1, j.2.2.1, (Bo6 j.2.2.2.1 (l.1 + 1 + a) (rd A8 l.2.2.1 a)).1, ()) = _
   rw [hput, e1, e2, h1, h2]
  obtain ⟨g1, g2⟩ := Ce5 l hl m (a + 1) (j.1, j.2.1, j.2.2.1, (l.1, l.2.1, l.2.2.1.take (a + 1), ()), ()) (by omega) (hl.take _) rfl rfl (by simp; omega) (by show (l.2.2.1.take (a + 1)).take (a + 1) = _; rw [List.take_take, Nat.min_self]) (fun _ => by simp; omega)
  rw [Bo7 ha]
  refine ⟨⟨⟨ho, hi⟩, hf, by rw [happ]; exact g1⟩, ?_⟩
  show p8 (JRec.app j _) _ = _
  rw [happ]
  exact g2
theorem Ep6 {j : A0} (h : jOk j = true) (n : Int) : JChain (Ak5 n j.2.2.2.1.1 j.2.2.2.1.2.1) (.hard j.2.1 j.2.2.1 :: M6 j.2.2.2.1 0) ∧ p8 (Ak5 n j.2.2.2.1.1 j.2.2.2.1.2.1) (.hard j.2.1 j.2.2.1 :: M6 j.2.2.2.1 0) = (n, j.2) := by
 obtain ⟨h1, h2, h3, h4⟩ := L5 h
 obtain ⟨g1, g2⟩ := Ce5 j.2.2.2.1 h4 j.2.2.2.1.2.2.1.length 0 (n, j.2.1, j.2.2.1, (j.2.2.2.1.1, j.2.2.2.1.2.1, [], ()), ()) (Nat.zero_add _) (h4.take 0) rfl rfl (Nat.zero_le _) rfl (fun _ => rfl)
 exact ⟨⟨⟨h2, h3⟩, trivial, g1⟩, g2⟩
theorem Ga4 {l : B7} (h : LogP l) : LogP (l.1, l.2.1, [], ()) := h.take 0
end Go.Vm
end
section
set_option linter.unusedVariables false
set_option linter.unusedSimpArgs false
namespace Go.Vm
open Go
def Bi6 (a b : ByteArray) : Bool := Op.bytesLess a.toList b.toList
def Ck2 (f : C2) : Prop := (1 ≤ f.1.size ∧ f.1.size ≤ 8) ∧ f.2.1.size ≤ 20000 ∧ 0 ≤ f.2.2.1 ∧ f.2.2.1 ≤ f.2.1.size
def l9 (d : List C2) : Prop := d.length ≤ 30 ∧ ∀ i, i < d.length → Ck2 (rd A3 d i) ∧ (0 < i → Bi6 (rd A3 d (i - 1)).1 (rd A3 d i).1 = true)
theorem D28 {l : Nat → Nat → Nat → Option Bool} {V : Bool} (d : List C2) (h : l9 d)
  (hs : ∀ i, i < d.length → ∀ k n, l k (n + 1) i = l k n (i + 1)) (he : ∀ k n, l k (n + 1) d.length = some V) : Ev (fun k => l k k 0) V :=
 D81 d.length (fun i hi => ⟨0, fun k _ n => hs i hi k n⟩) ⟨0, fun k _ n => he k n⟩
theorem T1 (d : List C2) (h : l9 d) : Ev (fun k => G0 k (d, ())) true := by
 have hl := h.1
 have := D28 (l := fun k n i => j8 k n (i : Int) (d, ())) (V := true) d h (fun i hi k n => by
  obtain ⟨⟨⟨n1, n2⟩, t1, k1, k2⟩, hlt⟩ := h.2 i hi
  have d1 : decide ((i : Int) < (d.length : Int)) = true := decide_eq_true (by omega)
  have d2 : decide (0 ≤ (i : Int)) = true := decide_eq_true (Int.natCast_nonneg _)
  have d3 : j5 ((rd A3 d i).1.size : Int) 1 8 = true := D4.2 ⟨by omega, by omega⟩
  have d4 : decide (((rd A3 d i).2.1.size : Int) > 20000) = false := decide_eq_false (by omega)
  have d5 : j5 (rd A3 d i).2.2.1 0 ((rd A3 d i).2.1.size : Int) = true := D4.2 ⟨k1, k2⟩
  have ei : B0 ((i : Int) + 1) = ((i + 1 : Nat) : Int) := by rw [C6 (by omega) (by omega)]; rfl
  simp only [j8, Ba8, d1, d2, br_true, gd_true, Int.toNat_natCast, T5, H9, bd_some, d3, Bool.not_true, br_false, d4, d5, ei]
  by_cases h0 : i = 0
  ·subst h0; rfl
  ·have d6 : decide ((i : Int) > 0) = true := decide_eq_true (by omega)
   have ep : B0 ((i : Int) - 1) = ((i - 1 : Nat) : Int) := by rw [C6 (by omega) (by omega)]; omega
   have d7 : decide (((i - 1 : Nat) : Int) < (d.length : Int)) = true := decide_eq_true (by omega)
   have d8 : decide (0 ≤ ((i - 1 : Nat) : Int)) = true := decide_eq_true (Int.natCast_nonneg _)
   have hb : Op.bytesLess (rd A3 d (i - 1)).1.toList (rd A3 d i).1.toList = true := hlt (by omega)
   simp only [d6, br_true, ep, d7, d8, gd_true, Int.toNat_natCast, hb, Bool.not_true, br_false]) (fun k n => by
  simp only [j8, Ba8, decide_eq_false (Int.lt_irrefl _), br_false])
 show Ev (fun k => br (decide ((d.length : Int) > 30)) (some false) (j8 k k 0 (d, ()))) true
 rw [show decide ((d.length : Int) > 30) = false from decide_eq_false (by omega)]
 exact this
theorem Cy3 (d : List C2) (h : l9 d) : Ev (fun k => A66 k (d, ())) true := by
 have hl := h.1
 have := D28 (l := fun k n i => Ab3 k n (d, ()) (i : Int)) (V := true) d h (fun i hi k n => by
  obtain ⟨⟨⟨n1, n2⟩, t1, k1, k2⟩, hlt⟩ := h.2 i hi
  have d1 : decide ((i : Int) < (d.length : Int)) = true := decide_eq_true (by omega)
  have d2 : decide (0 ≤ (i : Int)) = true := decide_eq_true (Int.natCast_nonneg _)
  have d3 : j5 ((rd A3 d i).1.size : Int) 1 8 = true := D4.2 ⟨by omega, by omega⟩
  have d4 : decide (((rd A3 d i).2.1.size : Int) > 20000) = false := decide_eq_false (by omega)
  have d5 : j5 (rd A3 d i).2.2.1 0 ((rd A3 d i).2.1.size : Int) = true := D4.2 ⟨k1, k2⟩
  have ei : B0 ((i : Int) + 1) = ((i + 1 : Nat) : Int) := by rw [C6 (by omega) (by omega)]; rfl
  simp only [Ab3, Bb7, d1, d2, br_true, gd_true, Int.toNat_natCast, N2, bd_some, d3, Bool.not_true, br_false, d4, d5, ei]
  by_cases h0 : i = 0
  ·subst h0; rfl
  ·have d6 : decide ((i : Int) > 0) = true := decide_eq_true (by omega)
   have ep : B0 ((i : Int) - 1) = ((i - 1 : Nat) : Int) := by rw [C6 (by omega) (by omega)]; omega
   have d7 : decide (((i - 1 : Nat) : Int) < (d.length : Int)) = true := decide_eq_true (by omega)
   have d8 : decide (0 ≤ ((i - 1 : Nat) : Int)) = true := decide_eq_true (Int.natCast_nonneg _)
   have hb : Op.bytesLess (rd A3 d (i - 1)).1.toList (rd A3 d i).1.toList = true := hlt (by omega)
   simp only [d6, br_true, ep, d7, d8, gd_true, Int.toNat_natCast, hb, Bool.not_true, br_false]) (fun k n => by
  simp only [Ab3, Bb7, decide_eq_false (Int.lt_irrefl _), br_false, decide_eq_true (show (d.length : Int) ≤ 30 by omega)])
 exact this
def atF : List C2 → ByteArray → Nat → Int
 | [], _, _ => -1
 | f :: r, nm, i => bif decide (f.1 = nm) then (i : Int) else atF r nm (i + 1)
theorem D94 (d : List C2) (nm : ByteArray) (hl : d.length ≤ 1000) : ∀ (m i : Nat), i + m = d.length → ∀ k n, m < n →
  Ai0 k n nm (i : Int) (d, ()) = some (atF (d.drop i) nm i) ∧ Ab2 k n (d, ()) (i : Int) nm = some (atF (d.drop i) nm i)
 | 0, i, hm, k, n, hn => by
  obtain ⟨n, rfl⟩ : ∃ q, n = q + 1 := ⟨n - 1, by omega⟩
  have d1 : decide ((i : Int) < (d.length : Int)) = false := decide_eq_false (by omega)
  rw [List.drop_eq_nil_of_le (by omega)]
  simp only [Ai0, Bm6, Ab2, Bb6, d1, br_false, atF, and_self]
 | m + 1, i, hm, k, n, hn => by
  obtain ⟨n, rfl⟩ : ∃ q, n = q + 1 := ⟨n - 1, by omega⟩
  have hi : i < d.length := by omega
  have d1 : decide ((i : Int) < (d.length : Int)) = true := decide_eq_true (by omega)
  have d2 : decide (0 ≤ (i : Int)) = true := decide_eq_true (Int.natCast_nonneg _)
  have ei : B0 ((i : Int) + 1) = ((i + 1 : Nat) : Int) := by rw [C6 (by omega) (by omega)]; rfl
  obtain ⟨h1, h2⟩ := D94 d nm hl m (i + 1) (by omega) k n (by omega)
  have hd : d.drop i = rd A3 d i :: d.drop (i + 1) := by rw [List.drop_eq_getElem_cons hi, ← Aa6 hi (z := A3)]
  simp only [Ai0, Bm6, Ab2, Bb6, d1, d2, br_true, gd_true, Int.toNat_natCast, ei, h1, h2, b7, hd, atF]
  cases decide ((rd A3 d i).1 = nm) with
  | true => exact ⟨rfl, rfl⟩
  | false => exact ⟨rfl, rfl⟩
theorem D29 (d : List C2) (nm : ByteArray) (hl : d.length ≤ 1000) : Ev (fun k => A17 k (d, ()) nm) (atF d nm 0) ∧ Ev (fun k => Bh9 k (d, ()) nm) (atF d nm 0) :=
 ⟨⟨d.length + 1, fun k hk => (D94 d nm hl d.length 0 (Nat.zero_add _) k k (by omega)).1⟩, ⟨d.length + 1, fun k hk => (D94 d nm hl d.length 0 (Nat.zero_add _) k k (by omega)).2⟩⟩
theorem Cr4 : ∀ (d : List C2) (nm : ByteArray) (i : Nat), atF d nm i < 0 ∨ ((i : Int) ≤ atF d nm i ∧ atF d nm i < i + d.length)
 | [], _, _ => .inl (by show (-1 : Int) < 0; decide)
 | f :: r, nm, i => by
  unfold atF
  cases decide (f.1 = nm) with
  | true => exact .inr ⟨Int.le_refl _, by simp; omega⟩
  | false =>
   rcases Cr4 r nm (i + 1) with h | h
   ·exact .inl h
   ·exact .inr ⟨by simp only [cond_false]; omega, by simp only [cond_false, List.length_cons]; omega⟩
def Bd4 (d : List C2) (nm : ByteArray) : ByteArray × Bool := bif decide (atF d nm 0 < 0) then (⟨#[]⟩, false) else ((rd A3 d (atF d nm 0).toNat).2.1, true)
theorem B76 (d : List C2) (nm : ByteArray) (hl : d.length ≤ 1000) : Ev (fun k => Bh1 k (d, ()) nm) (Bd4 d nm) ∧ Ev (fun k => A65 k (d, ()) nm) (Bd4 d nm) := by
 obtain ⟨h1, h2⟩ := D29 d nm hl
 have h3 := Cr4 d nm 0
 unfold Bd4
 constructor
 ·refine Re.eq (Re.c1 h1 (Re.brd (fun h => ?_) (fun h => ?_)))
  ·rw [decide_eq_true h]; exact Re.ret rfl
  ·rw [decide_eq_false h]
   exact Re.gdd (by omega) (Re.gdd (by show atF d nm 0 < (d.length : Int); omega) (Re.ret rfl))
 ·refine Re.eq (Re.c1 h2 (Re.brd (fun h => ?_) (fun h => ?_)))
  ·rw [decide_eq_true h]; exact Re.ret rfl
  ·rw [decide_eq_false h]
   exact Re.gdd (by omega) (Re.gdd (by show atF d nm 0 < (d.length : Int); omega) (Re.ret rfl))
def Cy4 (f : C2) (x : C2) : Bool := !(Bi6 x.1 f.1 || decide (x.1 = f.1))
def Bu6 (d : List C2) (f : C2) : List C2 := d.filter (fun x => Bi6 x.1 f.1) ++ [f] ++ d.filter (Cy4 f)
theorem Fd8 (d : List C2) (f : C2) (hl : d.length ≤ 1000) : ∀ (m i : Nat) (xs : List C2), i + m = d.length → xs.length ≤ 3000 - m → ∀ k n, m < n →
  Aj6 k n (i : Int) (d, ()) f xs = some (xs ++ (d.drop i).filter (Cy4 f), ())
 | 0, i, xs, hm, _, k, n, hn => by
  obtain ⟨n, rfl⟩ : ∃ q, n = q + 1 := ⟨n - 1, by omega⟩
  have d1 : decide ((i : Int) < (d.length : Int)) = false := decide_eq_false (by omega)
  rw [List.drop_eq_nil_of_le (by omega)]
  simp only [Aj6, Ba9, d1, br_false, List.filter_nil, List.append_nil]
 | m + 1, i, xs, hm, hx, k, n, hn => by
  obtain ⟨n, rfl⟩ : ∃ q, n = q + 1 := ⟨n - 1, by omega⟩
  have hi : i < d.length := by omega
  have d1 : decide ((i : Int) < (d.length : Int)) = true := decide_eq_true (by omega)
  have d2 : decide (0 ≤ (i : Int)) = true := decide_eq_true (Int.natCast_nonneg _)
  have d3 : decide (xs.length + ([rd A3 d i] : List C2).length ≤ A2) = true := decide_eq_true (by simp; unfold A2; omega)
  have ei : B0 ((i : Int) + 1) = ((i + 1 : Nat) : Int) := by rw [C6 (by omega) (by omega)]; rfl
  have hd : d.drop i = rd A3 d i :: d.drop (i + 1) := by rw [List.drop_eq_getElem_cons hi, ← Aa6 hi (z := A3)]
  have h1 := Fd8 d f hl m (i + 1) xs (by omega) (by omega) k n (by omega)
  have h2 := Fd8 d f hl m (i + 1) (xs ++ [rd A3 d i]) (by omega) (by simp; omega) k n (by omega)
  simp only [Aj6, Ba9, d1, d2, d3, br_true, gd_true, Int.toNat_natCast, ei, h1, h2, b7, hd]
  rw [List.filter_cons]
  have e : Cy4 f (rd A3 d i) = !(Op.bytesLess (rd A3 d i).1.toList f.1.toList || decide ((rd A3 d i).1 = f.1)) := rfl
  rw [e]
  cases (!(Op.bytesLess (rd A3 d i).1.toList f.1.toList || decide ((rd A3 d i).1 = f.1))) with
  | true => simp
  | false => simp
theorem Fd9 (d : List C2) (f : C2) (hl : d.length ≤ 1000) : ∀ (m i : Nat) (xs : List C2), i + m = d.length → xs.length ≤ i → ∀ k n, m + d.length + 1 < n →
  Ab0 k n (i : Int) (d, ()) f xs = some (xs ++ (d.drop i).filter (fun x => Bi6 x.1 f.1) ++ [f] ++ d.filter (Cy4 f), ())
 | 0, i, xs, hm, hx, k, n, hn => by
  obtain ⟨n, rfl⟩ : ∃ q, n = q + 1 := ⟨n - 1, by omega⟩
  have d1 : decide ((i : Int) < (d.length : Int)) = false := decide_eq_false (by omega)
  have d3 : decide (xs.length + ([f] : List C2).length ≤ A2) = true := decide_eq_true (by simp; unfold A2; omega)
  rw [List.drop_eq_nil_of_le (by omega)]
  have h1 := Fd8 d f hl d.length 0 (xs ++ [f]) (Nat.zero_add _) (by simp; omega) k n (by omega)
  rw [List.drop_zero] at h1
  simp only [Ab0, Bb0, d1, d3, br_false, gd_true, List.filter_nil, List.append_nil]
  exact h1
 | m + 1, i, xs, hm, hx, k, n, hn => by
  obtain ⟨n, rfl⟩ : ∃ q, n = q + 1 := ⟨n - 1, by omega⟩
  have hi : i < d.length := by omega
  have d1 : decide ((i : Int) < (d.length : Int)) = true := decide_eq_true (by omega)
  have d2 : decide (0 ≤ (i : Int)) = true := decide_eq_true (Int.natCast_nonneg _)
  have d3 : decide (xs.length + ([rd A3 d i] : List C2).length ≤ A2) = true := decide_eq_true (by simp; unfold A2; omega)
  have ei : B0 ((i : Int) + 1) = ((i + 1 : Nat) : Int) := by rw [C6 (by omega) (by omega)]; rfl
  have hd : d.drop i = rd A3 d i :: d.drop (i + 1) := by rw [List.drop_eq_getElem_cons hi, ← Aa6 hi (z := A3)]
  have h1 := Fd9 d f hl m (i + 1) xs (by omega) (by omega) k n (by omega)
  have h2 := Fd9 d f hl m (i + 1) (xs ++ [rd A3 d i]) (by omega) (by simp; omega) k n (by omega)
  simp only [Ab0, Bb0, d1, d2, d3, br_true, gd_true, Int.toNat_natCast, ei, h1, h2, hd]
  rw [List.filter_cons]
  have e : Bi6 (rd A3 d i).1 f.1 = Op.bytesLess (rd A3 d i).1.toList f.1.toList := rfl
  rw [e]
  cases Op.bytesLess (rd A3 d i).1.toList f.1.toList with
  | true => simp
  | false => simp
theorem D95 (d : List C2) (f : C2) (hl : d.length ≤ 1000) : Ev (fun k => I6 k (d, ()) f) (Bu6 d f, ()) :=
 ⟨d.length + d.length + 2, fun k hk => by
  have := Fd9 d f hl d.length 0 [] (Nat.zero_add _) (Nat.le_refl _) k k (by omega)
  rwa [List.drop_zero, List.nil_append] at this⟩
def Cr5 (d : List C2) (nm : ByteArray) : List C2 := d.filter fun x => !decide (x.1 = nm)
theorem Dh9 (d : List C2) (nm : ByteArray) (hl : d.length ≤ 1000) : ∀ (m i : Nat) (xs : List C2), i + m = d.length → xs.length ≤ i → ∀ k n, m < n →
  U0 k n nm (i : Int) (d, ()) xs = some (xs ++ Cr5 (d.drop i) nm, ())
 | 0, i, xs, hm, _, k, n, hn => by
  obtain ⟨n, rfl⟩ : ∃ q, n = q + 1 := ⟨n - 1, by omega⟩
  have d1 : decide ((i : Int) < (d.length : Int)) = false := decide_eq_false (by omega)
  rw [List.drop_eq_nil_of_le (by omega)]
  simp only [U0, Ah6, d1, br_false, Cr5, List.filter_nil, List.append_nil]
 | m + 1, i, xs, hm, hx, k, n, hn => by
  obtain ⟨n, rfl⟩ : ∃ q, n = q + 1 := ⟨n - 1, by omega⟩
  have hi : i < d.length := by omega
  have d1 : decide ((i : Int) < (d.length : Int)) = true := decide_eq_true (by omega)
  have d2 : decide (0 ≤ (i : Int)) = true := decide_eq_true (Int.natCast_nonneg _)
  have d3 : decide (xs.length + ([rd A3 d i] : List C2).length ≤ A2) = true := decide_eq_true (by simp; unfold A2; omega)
  have ei : B0 ((i : Int) + 1) = ((i + 1 : Nat) : Int) := by rw [C6 (by omega) (by omega)]; rfl
  have hd : d.drop i = rd A3 d i :: d.drop (i + 1) := by rw [List.drop_eq_getElem_cons hi, ← Aa6 hi (z := A3)]
  have h1 := Dh9 d nm hl m (i + 1) xs (by omega) (by omega) k n (by omega)
  have h2 := Dh9 d nm hl m (i + 1) (xs ++ [rd A3 d i]) (by omega) (by simp; omega) k n (by omega)
  unfold Cr5 at h1 h2 ⊢
  simp only [U0, Ah6, d1, d2, d3, br_true, gd_true, Int.toNat_natCast, ei, h1, h2, b7, hd]
  rw [List.filter_cons]
  cases decide ((rd A3 d i).1 = nm) with
  | true => simp
  | false => simp
theorem Ga5 (d : List C2) (nm : ByteArray) (hl : d.length ≤ 1000) : Ev (fun k => G8 k (d, ()) nm) (Cr5 d nm, ()) :=
 ⟨d.length + 1, fun k hk => by
  have := Dh9 d nm hl d.length 0 [] (Nat.zero_add _) (Nat.le_refl _) k k (by omega)
  rwa [List.drop_zero, List.nil_append] at this⟩
end Go.Vm
end
section
set_option linter.unusedVariables false
set_option linter.unusedSimpArgs false
namespace Go.Vm
open Go
theorem noE : ¬ ((!(ByteArray.empty.toList == (⟨#[]⟩ : ByteArray).toList)) = true) := by
 rw [show ByteArray.empty = (⟨#[]⟩ : ByteArray) from rfl, beq_self_eq_true]
 decide
theorem Fu4 {d : List C2} {nm tx : ByteArray} {f : C2} (hd : l9 d) (hn : 1 ≤ nm.size ∧ nm.size ≤ 8) (hf : (atF d nm 0 < 0 ∧ f = (nm, tx, 0, ())) ∨ (0 ≤ atF d nm 0 ∧ f = ((rd A3 d (atF d nm 0).toNat).1, (rd A3 d (atF d nm 0).toNat).2.1 ++ tx, (rd A3 d (atF d nm 0).toNat).2.2.1, ())))
  (htx : tx.size ≤ 20000) (h' : l9 (Bu6 d f)) : Ev (fun k => b8 k (d, ()) (1, nm, tx, ByteArray.empty, ())) ((Bu6 d f, ()), true) := by
 have hl : d.length ≤ 1000 := by have := hd.1; omega
 have hlt := Cr4 d nm 0
 refine Re.eq (Re.c1 (T1 d hd) (Re.br (b := false) (fun h => by cases h) (fun _ => ?_)))
 refine Re.s1 (v := true) (fun k => by show bd (E9 k (nm.size : Int) 1 8) _ = _; rw [H9, D4.2 ⟨by omega, by omega⟩]; rfl) (Re.br (b := false) (fun h => by cases h) (fun _ => ?_))
 refine Re.br (b := true) (fun _ => ?_) (fun h => by cases h)
 refine Re.br (fun h => absurd h noE) (fun _ => ?_)
 refine Re.br (b := false) (fun h => by cases h) (fun _ => ?_)
 refine Re.c1 (D29 d nm hl).1 (Re.brd (fun h => ?_) (fun h => ?_))
 ·rcases hf with ⟨h1, _⟩ | ⟨_, rfl⟩
  ·exact absurd h (by omega)
  have hi : (atF d nm 0).toNat < d.length := by omega
  have hfs := (hd.2 _ hi).1.2.1
  refine Re.gdd h (Re.gdd (by show atF d nm 0 < (d.length : Int); omega) (Re.br (b := true) (fun _ => ?_) (fun h => by cases h)))
  refine Re.gdd (by show (rd A3 d (atF d nm 0).toNat).2.1.size + tx.size ≤ A2; unfold A2; omega) (Re.c1 (D95 d _ hl) (Re.c1 (T1 _ h') (Re.br (b := false) (fun h => by cases h) (fun _ => Re.ret rfl))))
 ·rcases hf with ⟨_, rfl⟩ | ⟨h1, _⟩
  ·refine Re.br (b := true) (fun _ => ?_) (fun h => by cases h)
   refine Re.gdd (by show 0 + tx.size ≤ A2; unfold A2; omega) ?_
   have e : ByteArray.empty ++ tx = tx := Bz2 tx
   refine Re.c1 (v := (Bu6 d (nm, tx, 0, ()), ())) ((D95 d _ hl).congr fun k => by show I6 k (d, ()) (nm, ByteArray.empty ++ tx, 0, ()) = _; rw [e]) (Re.c1 (T1 _ h') (Re.br (b := false) (fun h => by cases h) (fun _ => Re.ret rfl)))
  ·exact absurd h1 h
theorem Ep7 {d : List C2} {nm : ByteArray} (hd : l9 d) (hn : 1 ≤ nm.size ∧ nm.size ≤ 8) {f : C2} (ha : 0 ≤ atF d nm 0) (hf : f = ((rd A3 d (atF d nm 0).toNat).1, (rd A3 d (atF d nm 0).toNat).2.1, (((rd A3 d (atF d nm 0).toNat).2.1.size : Nat) : Int), ()))
  (h' : l9 (Bu6 d f)) : Ev (fun k => b8 k (d, ()) (2, nm, ByteArray.empty, ByteArray.empty, ())) ((Bu6 d f, ()), true) := by
 have hl : d.length ≤ 1000 := by have := hd.1; omega
 have hlt := Cr4 d nm 0
 subst hf
 refine Re.eq (Re.c1 (T1 d hd) (Re.br (b := false) (fun h => by cases h) (fun _ => ?_)))
 refine Re.s1 (v := true) (fun k => by show bd (E9 k (nm.size : Int) 1 8) _ = _; rw [H9, D4.2 ⟨by omega, by omega⟩]; rfl) (Re.br (b := false) (fun h => by cases h) (fun _ => ?_))
 refine Re.br (b := true) (fun _ => ?_) (fun h => by cases h)
 refine Re.br (fun h => absurd h noE) (fun _ => ?_)
 refine Re.br (b := true) (fun _ => ?_) (fun h => by cases h)
 refine Re.br (fun h => absurd h noE) (fun _ => ?_)
 refine Re.c1 (D29 d nm hl).1 (Re.brd (fun h => ?_) (fun h => absurd ha h))
 refine Re.gdd h (Re.gdd (by show atF d nm 0 < (d.length : Int); omega) (Re.br (b := false) (fun h => by cases h) (fun _ => ?_)))
 refine Re.brd (fun h => absurd ha (by omega)) (fun _ => Re.br (b := true) (fun _ => ?_) (fun h => by cases h))
 exact Re.c1 (D95 d _ hl) (Re.c1 (T1 _ h') (Re.br (b := false) (fun h => by cases h) (fun _ => Re.ret rfl)))
theorem Ga6 {d : List C2} {nm to : ByteArray} (hd : l9 d) (hn : 1 ≤ nm.size ∧ nm.size ≤ 8) (ht : 1 ≤ to.size ∧ to.size ≤ 8) (hne : to ≠ nm) {f : C2} (ha : 0 ≤ atF d nm 0) (hf : f = (to, (rd A3 d (atF d nm 0).toNat).2))
  (hk : (rd A3 d (atF d nm 0).toNat).2.2.1 = ((rd A3 d (atF d nm 0).toNat).2.1.size : Int)) (h' : l9 (Bu6 (Cr5 d nm) f)) : Ev (fun k => b8 k (d, ()) (3, nm, ByteArray.empty, to, ())) ((Bu6 (Cr5 d nm) f, ()), true) := by
 have hl : d.length ≤ 1000 := by have := hd.1; omega
 have hl2 : (Cr5 d nm).length ≤ 1000 := Nat.le_trans (List.length_filter_le _ _) hl
 have hlt := Cr4 d nm 0
 subst hf
 refine Re.eq (Re.c1 (T1 d hd) (Re.br (b := false) (fun h => by cases h) (fun _ => ?_)))
 refine Re.s1 (v := true) (fun k => by show bd (E9 k (nm.size : Int) 1 8) _ = _; rw [H9, D4.2 ⟨by omega, by omega⟩]; rfl) (Re.br (b := false) (fun h => by cases h) (fun _ => ?_))
 refine Re.br (b := false) (fun h => by cases h) (fun _ => ?_)
 refine Re.br (b := true) (fun _ => ?_) (fun h => by cases h)
 refine Re.br (fun h => absurd h noE) (fun _ => ?_)
 refine Re.c1 (D29 d nm hl).1 (Re.brd (fun h => ?_) (fun h => absurd ha h))
 refine Re.gdd h (Re.gdd (by show atF d nm 0 < (d.length : Int); omega) (Re.br (b := false) (fun h => by cases h) (fun _ => ?_)))
 refine Re.brd (fun h => absurd ha (by omega)) (fun _ => Re.br (b := false) (fun h => by cases h) (fun _ => Re.br (b := true) (fun _ => ?_) (fun h => by cases h)))
 refine Re.brd (fun h => absurd h (by show ¬ (rd A3 d (atF d nm 0).toNat).2.2.1 < ((rd A3 d (atF d nm 0).toNat).2.1.size : Int); rw [hk]; omega)) (fun _ => ?_)
 refine Re.br (fun h => absurd (by rw [b7] at h; exact of_decide_eq_true h) hne) (fun _ => ?_)
 refine Re.s1 (v := true) (fun k => by show bd (E9 k (to.size : Int) 1 8) _ = _; rw [H9, D4.2 ⟨by omega, by omega⟩]; rfl) (Re.br (b := false) (fun h => by cases h) (fun _ => ?_))
 exact Re.c1 (Ga5 d nm hl) (Re.c1 (D95 _ _ hl2) (Re.c1 (T1 _ h') (Re.br (b := false) (fun h => by cases h) (fun _ => Re.ret rfl))))
theorem Ep8 {d : List C2} {nm : ByteArray} (hd : l9 d) (hn : 1 ≤ nm.size ∧ nm.size ≤ 8) (ha : 0 ≤ atF d nm 0) (h' : l9 (Cr5 d nm)) :
  Ev (fun k => b8 k (d, ()) (4, nm, ByteArray.empty, ByteArray.empty, ())) ((Cr5 d nm, ()), true) := by
 have hl : d.length ≤ 1000 := by have := hd.1; omega
 have hlt := Cr4 d nm 0
 refine Re.eq (Re.c1 (T1 d hd) (Re.br (b := false) (fun h => by cases h) (fun _ => ?_)))
 refine Re.s1 (v := true) (fun k => by show bd (E9 k (nm.size : Int) 1 8) _ = _; rw [H9, D4.2 ⟨by omega, by omega⟩]; rfl) (Re.br (b := false) (fun h => by cases h) (fun _ => ?_))
 refine Re.br (b := true) (fun _ => ?_) (fun h => by cases h)
 refine Re.br (fun h => absurd h noE) (fun _ => ?_)
 refine Re.br (b := true) (fun _ => ?_) (fun h => by cases h)
 refine Re.br (fun h => absurd h noE) (fun _ => ?_)
 refine Re.c1 (D29 d nm hl).1 (Re.brd (fun h => ?_) (fun h => absurd ha h))
 refine Re.gdd h (Re.gdd (by show atF d nm 0 < (d.length : Int); omega) (Re.br (b := false) (fun h => by cases h) (fun _ => ?_)))
 refine Re.brd (fun h => absurd ha (by omega)) (fun _ => Re.br (b := false) (fun h => by cases h) (fun _ => Re.br (b := false) (fun h => by cases h) (fun _ => Re.br (b := true) (fun _ => ?_) (fun h => by cases h))))
 exact Re.c1 (Ga5 d nm hl) (Re.c1 (T1 _ h') (Re.br (b := false) (fun h => by cases h) (fun _ => Re.ret rfl)))
inductive Done : List C2 → List F2 → List C2 → Prop where
 | nil {d} : Done d [] d
 | cons {d a r d1 d2} : Ev (fun k => b8 k (d, ()) a) ((d1, ()), true) → Done d1 r d2 → Done d (a :: r) d2
theorem D30 (all : List F2) (hl : all.length ≤ 1000000) : ∀ (rest pre : List F2) (d d' : List C2), all = pre ++ rest → Done d rest d' →
  ∃ K, ∀ k, K ≤ k → ∀ n, rest.length < n → j9 k n all (pre.length : Int) d = some ((d', ()), (all.length : Int))
 | [], pre, d, d', hall, h => by
  cases h
  rw [List.append_nil] at hall
  subst hall
  refine ⟨0, fun k _ n hn => ?_⟩
  obtain ⟨n, rfl⟩ : ∃ q, n = q + 1 := ⟨n - 1, by simp at hn; omega⟩
  simp only [j9, Bb1, decide_eq_false (Int.lt_irrefl _), br_false]
 | a :: rest, pre, d, d', hall, h => by
  cases h with
  | @cons _ _ _ d1 _ h1 h2 =>
   obtain ⟨K1, h1⟩ := h1
   obtain ⟨K2, h2⟩ := D30 all hl rest (pre ++ [a]) d1 d' (by rw [hall]; simp) h2
   refine ⟨max K1 K2, fun k hk n hn => ?_⟩
   obtain ⟨n, rfl⟩ : ∃ q, n = q + 1 := ⟨n - 1, by simp at hn; omega⟩
   have hlen : all.length = pre.length + 1 + rest.length := by rw [hall]; simp; omega
   have hrd : rd Gq7 all pre.length = a := by rw [hall]; simp [rd]
   have e1 : b8 k (d, ()) a = some ((d1, ()), true) := h1 k (by omega)
   have d1' : decide ((pre.length : Int) < (all.length : Int)) = true := decide_eq_true (by omega)
   have d2 : decide (0 ≤ (pre.length : Int)) = true := decide_eq_true (Int.natCast_nonneg _)
   have ei : B0 ((pre.length : Int) + 1) = ((pre ++ [a]).length : Int) := by rw [C6 (by omega) (by omega)]; simp
   have g := h2 k (by omega) n (by simp at hn; omega)
   simp only [j9, Bb1, d1', d2, br_true, gd_true, Int.toNat_natCast, hrd, e1, bd_some, Bool.not_true, br_false, ei]
   exact g
theorem Db3 {d d' : List C2} {list : List F2} (hl : list.length ≤ 1000000) (hd : d.length ≤ 1000000) (h : Done d list d') : Ev (fun k => Av7 k (d, ()) list) ((d', ()), (list.length : Int)) := by
 obtain ⟨K, hK⟩ := D30 list hl list [] d d' rfl h
 refine ⟨max K (list.length + 1), fun k hk => ?_⟩
 show gd (decide (([] : List C2).length + d.length ≤ A2)) (j9 k k list 0 ([] ++ d)) = _
 rw [decide_eq_true (by simp; unfold A2; omega)]
 exact hK k (by omega) k (by omega)
theorem Done.append {d1 d2 d3 : List C2} {a b : List F2} (h : Done d1 a d2) (k : Done d2 b d3) : Done d1 (a ++ b) d3 := by
 induction h with
 | nil => exact k
 | cons h1 _ ih => exact .cons h1 (ih k)
end Go.Vm
end
section
set_option linter.unusedVariables false
set_option linter.unusedSimpArgs false
namespace Go.Vm
open Go
theorem Di0 {s t : Int} {xs : List B2} (h : Ep0 (s, t, xs, ())) : ∀ (m i : Nat), i + m ≤ xs.length → M8 (s, t, xs, ()) i ≤ M8 (s, t, xs, ()) (i + m)
 | 0, i, _ => Int.le_refl _
 | m + 1, i, hm => by
  have h1 := Di0 h m i (by omega)
  have h2 := (h (i + m) (show i + m < xs.length by omega)).2
  rw [show i + (m + 1) = (i + m) + 1 by omega, A72]
  exact Int.le_trans h1 h2
theorem EntsT.mono {s t : Int} {xs : List B2} {T T' : Int} (h : EntsT s t xs T) (hT : T ≤ T') : EntsT s t xs T' := ⟨h.1, Int.le_trans h.2.1 hT, h.2.2⟩
def WellL (m : Nat) (l : B7) : Prop := (0 ≤ l.1 ∧ l.1 + l.2.2.1.length ≤ 28 + 4 * m) ∧ (0 ≤ l.2.1 ∧ l.2.1 ≤ 40 + 4 * m) ∧ l.2.2.1.length ≤ 8 + 4 * m ∧ EntsT l.1 l.2.1 l.2.2.1 (40 + 4 * m)
theorem WellL.ok {m : Nat} {l : B7} (h : WellL m l) (hm : m ≤ 10) : LogP l := ⟨⟨h.1.1, by have := h.1.2; omega⟩, ⟨h.2.1.1, by have := h.2.1.2; omega⟩, by have := h.2.2.1; omega, by have := h.1.2; omega, h.2.2.2.1⟩
theorem WellL.more {m : Nat} {l : B7} (h : WellL m l) : WellL (m + 1) l := ⟨⟨h.1.1, by have := h.1.2; omega⟩, ⟨h.2.1.1, by have := h.2.1.2; omega⟩, by have := h.2.2.1; omega, h.2.2.2.mono (by omega)⟩
theorem Fe0 {s t : Int} {xs : List B2} {T : Int} (h : EntsT s t xs T) (n : Nat) : EntsT s t (xs.take n) (M8 (s, t, xs, ()) xs.length) := by
 refine ⟨fun i hi => ?_, ?_, fun i hi => ?_⟩
 ·simp only [List.length_take] at hi
  have e : rd A8 (xs.take n) i = rd A8 xs i := by
   have : i < n := by omega
   simp [rd, List.getElem?_take, this]
  rw [Ce4 _ _ _ _ _ (by omega) (by omega)]
  simp only [e]
  exact h.1 i (by show i < xs.length; omega)
 ·rw [Ce4 _ _ _ _ _ (by simp only [List.length_take]; omega) (by simp only [List.length_take]; omega)]
  have hle : (xs.take n).length ≤ xs.length := by simp only [List.length_take]; omega
  have := Di0 h.1 (xs.length - (xs.take n).length) (xs.take n).length (by omega)
  rwa [show (xs.take n).length + (xs.length - (xs.take n).length) = xs.length by omega] at this
 ·simp only [List.length_take] at hi
  have e : rd A8 (xs.take n) i = rd A8 xs i := by
   have : i < n := by omega
   simp [rd, List.getElem?_take, this]
  rw [e]; exact h.2.2 i (by omega)
theorem Ep9 {m : Nat} {l : B7} (h : WellL m l) (hm : m ≤ 10) {j : Nat} (hj : j ≤ l.2.2.1.length) : WellL m (l.1 + j, M8 l j, l.2.2.1.drop j, ()) := by
 have hp := h.ok hm
 have hb := Fz0 hp hj
 have hpos := B73 hp j hj
 have hle : M8 l j ≤ M8 l l.2.2.1.length := by
  have := Di0 (s := l.1) (t := l.2.1) (xs := l.2.2.1) h.2.2.2.1 (l.2.2.1.length - j) j (by omega)
  rwa [show j + (l.2.2.1.length - j) = l.2.2.1.length by omega] at this
 have hT := h.2.2.2.2.1
 have hT : M8 l l.2.2.1.length ≤ 40 + 4 * m := hT
 have h1 := h.1
 have h3 := h.2.2.1
 refine ⟨⟨by simp only; omega, by simp only [List.length_drop]; omega⟩, ⟨hpos, by simp only; omega⟩, by simp only [List.length_drop]; omega, hb.2.2.2.2, ?_, fun i hi => ?_⟩
 ·show M8 (l.1 + j, M8 l j, l.2.2.1.drop j, ()) (l.2.2.1.drop j).length ≤ _
  rw [Dh3, List.length_drop, show j + (l.2.2.1.length - j) = l.2.2.1.length by omega]
  exact hT
 ·simp only [List.length_drop] at hi
  rw [D92]
  exact h.2.2.2.2.2 _ (by omega)
theorem Cr6 {m : Nat} {l : B7} (h : WellL m l) (hm : m ≤ 10) {j : Nat} (hj : j ≤ l.2.2.1.length) : Re (fun k => Av9 k l (l.1 + j) (Bz1 l (l.1 + j))) (WellL m) := by
 have hp := h.ok hm
 have p1 := hp.1; have p3 := hp.2.2.1
 refine Re.c1 (A73 l hp.small) ?_
 rw [L4.2 hp]
 refine Re.br (b := true) (fun _ => ?_) (fun h => by cases h)
 refine Re.s1 (v := Bz0 l) (fun k => by unfold Ac9 Bz0; rw [C6 (by omega) (by omega)]) ?_
 refine Re.s1 (H9 · _ _ _) ?_
 rw [D4.2 ⟨by omega, by unfold Bz0; omega⟩]
 refine Re.br (b := true) (fun _ => ?_) (fun h => by cases h)
 refine Re.s1 (Cj7 (hp.near (by omega) (by omega))) ?_
 refine Re.bre (fun _ => ?_) (fun h => absurd rfl h)
 have e : B0 (l.1 + (j : Int) - l.1) = (j : Int) := by rw [C6 (by omega) (by omega)]; omega
 rw [e]
 refine Re.gdd (by omega) (Re.gdd (by omega) (Re.gdd (by simp [A2]; omega) (Re.ret ?_)))
 rw [Int.toNat_natCast, List.nil_append, Fy9 hj]
 exact Ep9 h hm hj
theorem D96 (c : A5) (h : CurOk c) (m : Nat) (hm : m ≤ 9) (l : B7) (hw : WellL m l) : Re (fun k => Bh6 k c l) (fun r => WellL (m + 1) r.1 ∧ CurOk r.2.1) := by
 have hp := hw.ok (by omega)
 have ha := hp.any
 have hb := hw.1
 have hl8 := hw.2.2.1
 have hT0 : M8 l l.2.2.1.length ≤ 40 + 4 * m := hw.2.2.2.2.1
 have hTp := B73 hp _ (Nat.le_refl _)
 refine Re.s1 (Ce3 l ha) ?_
 refine Re.b1 (B70 _ 2 h) fun r2 h2 => ?_
 have go : ∀ (c : A5) (n : Nat), CurOk c → Re (fun k => U9 k k (M8 l l.2.2.1.length) 0 c.1 c.2.1 c.2.2.1 l (l.2.2.1.take n)) (fun r => WellL (m + 1) r.1 ∧ CurOk r.2.1) := by
  intro c n hc
  refine Re.enter (f := fun k q => U9 k q (M8 l l.2.2.1.length) 0 c.1 c.2.1 c.2.2.1 l (l.2.2.1.take n)) J1 ?_
  have := Re.loop (ι := Nat) (l := fun k q (s : Int × Nat × A5 × List B2) => U9 k q s.1 (s.2.1 : Int) s.2.2.1.1 s.2.2.1.2.1 s.2.2.1.2.2.1 l s.2.2.2) (I := fun s => s.2.1 ≤ 3 ∧ s.2.2.2.length ≤ l.2.2.1.length + s.2.1 ∧ CurOk s.2.2.1 ∧ (0 ≤ s.1 ∧ s.1 ≤ 40 + 4 * m + s.2.1) ∧ EntsT l.1 l.2.1 s.2.2.2 s.1) (fun s => 3 - s.2.1) (Q := fun _ r => WellL (m + 1) r.1 ∧ CurOk r.2.1) (fun s hi ih => by
   obtain ⟨T, j, c, xs⟩ := s
   obtain ⟨i1, i2, i3, i4, i5⟩ := hi
   simp only at i1 i2 i3 i4 i5 ih ⊢
   have hx : WellL (m + 1) (l.1, l.2.1, xs, ()) := ⟨⟨hb.1, by simp only; omega⟩, ⟨hw.2.1.1, by have := hw.2.1.2; simp only; omega⟩, by simp only; omega, i5.mono (by omega)⟩
   simp only [U9, Bn3]
   refine Re.b2 (I7 _ 4 i3.eta) fun r4 h4 => ?_
   refine Re.brd (fun q => ?_) (fun q => ?_)
   ·have hj : j < 3 := by obtain ⟨⟨a, b⟩, _⟩ := h4; omega
    refine Re.b2 (I7 _ 2 h4.2) fun r5 h5 => Re.b2 (By9 _ h5.2 _) fun r6 h6 => Re.gdd (by simp [A2]; omega) ?_
    obtain ⟨⟨f1, f2⟩, _⟩ := h5
    have eT : B0 (T + r5.1) = T + r5.1 := C6 (by omega) (by omega)
    have hE := h6.1
    rw [eT] at hE
    have hsn := Ce2 i5 (T' := T + r5.1) (by omega) (by omega) (by omega) hE
    have hx2 : AnyL (l.1, l.2.1, xs ++ [r6.1], ()) := ⟨⟨by simp only; omega, by simp only; omega⟩, by simp; omega, fun i hi => Nat.le_trans (hsn.2.2 i hi) (by omega)⟩
    refine Re.s2 (Ce3 _ hx2) ?_
    have e1 : B0 ((j : Int) + 1) = ((j + 1 : Nat) : Int) := by rw [C6 (by omega) (by omega)]; rfl
    have e2 : M8 (l.1, l.2.1, xs ++ [r6.1], ()) (xs ++ [r6.1]).length = T + r5.1 := by
     rw [List.length_append, List.length_singleton, A72]
     simp only [B72, Nat.lt_irrefl, if_false, if_true]
     exact hE.1
    rw [e1]
    show Re (fun x : Nat × Nat => U9 x.1 x.2 (M8 (l.1, l.2.1, xs ++ [r6.1], ()) (xs ++ [r6.1]).length) _ _ _ _ l _) _
    rw [e2]
    exact ih (T + r5.1, j + 1, r6.2.1, xs ++ [r6.1]) ⟨by simp only; omega, by simp; omega, h6.2, ⟨by simp only; omega, by simp only; omega⟩, hsn⟩ (by simp only; omega)
   ·refine Re.b2 (B70 _ 4 h4.2) fun r8 h8 => ?_
    refine Re.brb (Re.b2 (I7 _ _ h8) fun r9 h9 => ?_) (Re.ret ⟨hx, h8⟩)
    obtain ⟨⟨g1, g2⟩, g3⟩ := h9
    rw [C6 (show -9223372036854775808 ≤ ((xs.length : Nat) : Int) + 1 by omega) (by omega)] at g2
    have e2 : B0 (l.1 + r9.1) = l.1 + r9.1 := C6 (by omega) (by omega)
    rw [e2]
    obtain ⟨q, hq⟩ : ∃ q : Nat, r9.1 = q := ⟨r9.1.toNat, (Int.toNat_of_nonneg g1).symm⟩
    rw [hq]
    refine Re.s2 (Cj7 ⟨⟨by simp only; omega, by simp only; omega⟩, by simp only; omega, by omega, by omega⟩) ?_
    exact Re.b2 (Cr6 hx (by omega) (j := q) (by simp only; omega)) fun r11 h11 => Re.ret ⟨h11, g3⟩) (M8 l l.2.2.1.length, 0, c, l.2.2.1.take n) ⟨by simp only; omega, by simp; omega, hc, ⟨hTp, by simp only; omega⟩, Fe0 hw.2.2.2 n⟩
  simpa using this
 refine Re.brb (Re.b1 (I7 _ _ h2) fun r3 h3 => ?_) ?_
 ·obtain ⟨⟨g1, g2⟩, g3⟩ := h3
  rw [C6 (show -9223372036854775808 ≤ ((l.2.2.1.length : Nat) : Int) + 1 by omega) (by omega)] at g2
  exact Re.gdd g1 (Re.gdd (by omega) (Re.gdd (by simp [A2]; omega) (go _ _ g3)))
 ·exact Re.gdd (by omega) (Re.gdd (by omega) (Re.gdd (by simp [A2]; omega) (go _ _ h2)))
def WellJ (m : Nat) (j : A0) : Prop := (0 ≤ j.1 ∧ j.1 ≤ 4 + m) ∧ (0 ≤ j.2.1 ∧ j.2.1 ≤ 50 + 4 * m) ∧ (0 ≤ j.2.2.1 ∧ j.2.2.1 ≤ 4) ∧ WellL m j.2.2.2.1
theorem WellJ.ok {m : Nat} {j : A0} (h : WellJ m j) (hm : m ≤ 10) : jOk j = true := by
 unfold jOk
 simp only [Bool.and_eq_true]
 exact ⟨D4.2 ⟨h.1.1, by have := h.1.2; omega⟩, D4.2 ⟨h.2.1.1, by have := h.2.1.2; omega⟩, D4.2 h.2.2.1, L4.2 (h.2.2.2.ok hm)⟩
theorem WellJ.more {m : Nat} {j : A0} (h : WellJ m j) : WellJ (m + 1) j := ⟨⟨h.1.1, by have := h.1.2; omega⟩, ⟨h.2.1.1, by have := h.2.1.2; omega⟩, h.2.2.1, h.2.2.2.more⟩
theorem D97 (j : A0) (h : j.2.2.2.1.2.2.1.length ≤ 1000000) (k : Nat) : Aj5 k j = some j := by
 unfold Aj5
 rw [decide_eq_true (by simp; unfold A2; omega)]
 rfl
theorem Bo8 (c : A5) (h : CurOk c) (m : Nat) (hm : m ≤ 9) (j : A0) (hw : WellJ m j) : Re (fun k => Ad5 k c j) (fun r => (WellJ (m + 1) r.1 ∧ r.1.1 = j.1) ∧ CurOk r.2.1) := by
 obtain ⟨w1, w2, w3, w4⟩ := hw
 refine Re.s1 (D97 j (by have := w4.2.2.1; omega)) ?_
 refine Re.b1 (D96 c h m hm _ w4) fun r2 h2 => ?_
 refine Re.b1 (B70 _ 2 h2.2) fun r3 h3 => ?_
 refine Re.brb (Re.b1 (I7 _ 3 h3) fun r4 h4 => Re.b1 (I7 _ 5 h4.2) fun r5 h5 => Re.ret ⟨⟨⟨⟨w1.1, by simp only; omega⟩, ?_, ?_, h2.1⟩, rfl⟩, h5.2⟩) (Re.ret ⟨⟨⟨⟨w1.1, by simp only; omega⟩, ⟨w2.1, by simp only; omega⟩, w3, h2.1⟩, rfl⟩, h3⟩)
 ·obtain ⟨⟨a, b⟩, _⟩ := h4
  show 0 ≤ B0 (j.2.1 + r4.1) ∧ B0 (j.2.1 + r4.1) ≤ _
  rw [C6 (by omega) (by omega)]
  exact ⟨by omega, by omega⟩
 ·obtain ⟨⟨a, b⟩, _⟩ := h5
  show 0 ≤ r5.1 ∧ r5.1 ≤ 4
  exact ⟨a, by omega⟩
theorem Dp7 (c : A5) (h : CurOk c) : Re (fun k => Ai3 k c) (fun r => WellJ 0 r.1 ∧ CurOk r.2.1) := by
 refine Re.b1 (Ep1 c h) fun r1 h1 => ?_
 obtain ⟨⟨hR, h8⟩, hc⟩ := h1
 have hw : WellL 0 r1.1 := ⟨⟨hR.1.1, by have := hR.1.2; omega⟩, ⟨hR.2.1.1, by have := hR.2.1.2; omega⟩, by omega, hR.2.2.2⟩
 have hp := hw.ok (by omega)
 have hT0 : M8 r1.1 r1.1.2.2.1.length ≤ 40 := hR.2.2.2.2.1
 have hTp := B73 hp _ (Nat.le_refl _)
 refine Re.s1 (Ce3 _ hp.any) ?_
 refine Re.b1 (I7 _ 5 hc) fun r3 h3 => Re.b1 (I7 _ 2 h3.2) fun r4 h4 => Re.b1 (I7 _ 5 h4.2) fun r5 h5 => Re.ret ⟨⟨?_, ?_, ?_, hw⟩, h5.2⟩
 ·obtain ⟨⟨a, b⟩, _⟩ := h3
  exact ⟨a, by simp only; omega⟩
 ·obtain ⟨⟨a, b⟩, _⟩ := h4
  show 0 ≤ B0 (M8 r1.1 r1.1.2.2.1.length + r4.1) ∧ _
  rw [C6 (by omega) (by omega)]
  exact ⟨by omega, by simp only; omega⟩
 ·obtain ⟨⟨a, b⟩, _⟩ := h5
  exact ⟨a, by simp only; omega⟩
end Go.Vm
end
section
set_option linter.unusedVariables false
set_option linter.unusedSimpArgs false
namespace Go.Vm
open Go
def newN : ByteArray := ⟨#[106, 43]⟩
def H6 (n : Nat) : ByteArray := ⟨#[106, UInt8.ofNat (48 + n)]⟩
theorem A75 {P : Nat → Prop} (h : ∀ i : Fin 10, P i.1) {n : Nat} (hn : n ≤ 9) : P n := h ⟨n, by omega⟩
theorem Bo9 (n : Nat) : (H6 n).size = 2 := rfl
theorem Az4 {n : Nat} (hn : n ≤ 9) : Bi6 newN (H6 n) = true ∧ Bi6 (H6 n) newN = false ∧ H6 n ≠ newN :=
 A75 (P := fun n => Bi6 newN (H6 n) = true ∧ Bi6 (H6 n) newN = false ∧ H6 n ≠ newN) (by decide +kernel) hn
theorem Ce6 {m n : Nat} (hm : m ≤ 9) (hn : n ≤ 9) : (m < n → Bi6 (H6 m) (H6 n) = true ∧ Bi6 (H6 n) (H6 m) = false) ∧ (m ≠ n → H6 m ≠ H6 n) ∧ Bi6 (H6 n) (H6 n) = false :=
 A75 (P := fun m => ∀ n, n ≤ 9 → (m < n → Bi6 (H6 m) (H6 n) = true ∧ Bi6 (H6 n) (H6 m) = false) ∧ (m ≠ n → H6 m ≠ H6 n) ∧ Bi6 (H6 n) (H6 n) = false)
  (fun i n hn => A75 (P := fun n => (i.1 < n → Bi6 (H6 i.1) (H6 n) = true ∧ Bi6 (H6 n) (H6 i.1) = false) ∧ (i.1 ≠ n → H6 i.1 ≠ H6 n) ∧ Bi6 (H6 n) (H6 n) = false) (by revert i; decide +kernel) hn) hm n hn
theorem D98 {n : Nat} (hn : n ≤ 9) : Ev (fun k => A42 k (n : Int)) ⟨#[UInt8.ofNat (48 + n)]⟩ := by
 refine ⟨2, fun k hk => ?_⟩
 obtain ⟨k, rfl⟩ : ∃ m, k = m + 2 := ⟨k - 2, by omega⟩
 revert hn
 refine fun hn => A75 (P := fun n => A42 (k + 2) (n : Int) = some ⟨#[UInt8.ofNat (48 + n)]⟩) (fun i => ?_) hn
 match i with
 | ⟨0, _⟩ => (show _ = some _; kernel_rfl)
 | ⟨1, _⟩ => (show _ = some _; kernel_rfl)
 | ⟨2, _⟩ => (show _ = some _; kernel_rfl)
 | ⟨3, _⟩ => (show _ = some _; kernel_rfl)
 | ⟨4, _⟩ => (show _ = some _; kernel_rfl)
 | ⟨5, _⟩ => (show _ = some _; kernel_rfl)
 | ⟨6, _⟩ => (show _ = some _; kernel_rfl)
 | ⟨7, _⟩ => (show _ = some _; kernel_rfl)
 | ⟨8, _⟩ => (show _ = some _; kernel_rfl)
 | ⟨9, _⟩ => (show _ = some _; kernel_rfl)
theorem D99 {n : Nat} (hn : n ≤ 9) (k : Nat) : A47 k (n : Int) = some ⟨#[UInt8.ofNat (48 + n)]⟩ := by
 refine A75 (P := fun n => A47 k (n : Int) = some ⟨#[UInt8.ofNat (48 + n)]⟩) (fun i => ?_) hn
 match i with
 | ⟨0, _⟩ => (show _ = some _; kernel_rfl)
 | ⟨1, _⟩ => (show _ = some _; kernel_rfl)
 | ⟨2, _⟩ => (show _ = some _; kernel_rfl)
 | ⟨3, _⟩ => (show _ = some _; kernel_rfl)
 | ⟨4, _⟩ => (show _ = some _; kernel_rfl)
 | ⟨5, _⟩ => (show _ = some _; kernel_rfl)
 | ⟨6, _⟩ => (show _ = some _; kernel_rfl)
 | ⟨7, _⟩ => (show _ = some _; kernel_rfl)
 | ⟨8, _⟩ => (show _ = some _; kernel_rfl)
 | ⟨9, _⟩ => (show _ = some _; kernel_rfl)
theorem Fu5 (n : Nat) : (⟨#[106]⟩ : ByteArray) ++ ⟨#[UInt8.ofNat (48 + n)]⟩ = H6 n := by apply Af3; simp [H6]
theorem B77 {n : Nat} (hn : n ≤ 9) : Ev (fun k => V3 k (n : Int)) (H6 n) := by
 refine Re.eq (Re.s1 (H9 · _ _ _) ?_)
 rw [D4.2 ⟨by omega, by omega⟩]
 refine Re.br (b := false) (fun h => by cases h) (fun _ => Re.c1 (D98 hn) (Re.gdd (by show 1 + 1 ≤ A2; decide) (Re.ret (Fu5 n))))
theorem B78 {n : Nat} (hn : n ≤ 9) : Ev (fun k => S6 k (n : Int)) (H6 n) := by
 refine Re.eq (Re.s1 (N2 · _ _ _) ?_)
 rw [D4.2 ⟨by omega, by omega⟩]
 refine Re.br (b := false) (fun h => by cases h) (fun _ => Re.s1 (D99 hn) (Re.gdd (by show 1 + 1 ≤ A2; decide) (Re.ret (Fu5 n))))
theorem Fz2 {n : Nat} (hn : n ≤ 9) (k : Nat) : o7 k (H6 n) (⟨#[106]⟩ : ByteArray) 999 = some (n : Int) := by
 refine A75 (P := fun n => o7 k (H6 n) (⟨#[106]⟩ : ByteArray) 999 = some (n : Int)) (fun i => ?_) hn
 match i with
 | ⟨0, _⟩ => (show _ = some _; kernel_rfl)
 | ⟨1, _⟩ => (show _ = some _; kernel_rfl)
 | ⟨2, _⟩ => (show _ = some _; kernel_rfl)
 | ⟨3, _⟩ => (show _ = some _; kernel_rfl)
 | ⟨4, _⟩ => (show _ = some _; kernel_rfl)
 | ⟨5, _⟩ => (show _ = some _; kernel_rfl)
 | ⟨6, _⟩ => (show _ = some _; kernel_rfl)
 | ⟨7, _⟩ => (show _ = some _; kernel_rfl)
 | ⟨8, _⟩ => (show _ = some _; kernel_rfl)
 | ⟨9, _⟩ => (show _ = some _; kernel_rfl)
theorem Fe1 (k : Nat) : o7 k newN (⟨#[106]⟩ : ByteArray) 999 = some (-1) := by kernel_rfl
end Go.Vm
end
section
set_option linter.unusedVariables false
set_option linter.unusedSimpArgs false
namespace Go.Vm
open Go
theorem D31 (a b : B7) (hl : a.2.2.1.length ≤ 1000000) (hb : a.2.2.1.length = b.2.2.1.length) : ∀ (m i : Nat), i + m = a.2.2.1.length → a.2.2.1.take i = b.2.2.1.take i → ∀ k n, m < n → n5 k n (i : Int) a b = some (eqd a.2.2.1 b.2.2.1)
 | 0, i, hm, ht, k, n, hn => by
  obtain ⟨n, rfl⟩ : ∃ q, n = q + 1 := ⟨n - 1, by omega⟩
  have e : a.2.2.1 = b.2.2.1 := by
   rwa [List.take_of_length_le (by omega), List.take_of_length_le (by omega)] at ht
  have d1 : decide ((i : Int) < (a.2.2.1.length : Int)) = false := decide_eq_false (by omega)
  simp only [n5, A20, d1, br_false]
  rw [e, An0 rfl]
 | m + 1, i, hm, ht, k, n, hn => by
  obtain ⟨n, rfl⟩ : ∃ q, n = q + 1 := ⟨n - 1, by omega⟩
  have hi : i < a.2.2.1.length := by omega
  have hi2 : i < b.2.2.1.length := by omega
  have d1 : decide ((i : Int) < (a.2.2.1.length : Int)) = true := decide_eq_true (by omega)
  have d3 : decide ((i : Int) < (b.2.2.1.length : Int)) = true := decide_eq_true (by omega)
  have d2 : decide (0 ≤ (i : Int)) = true := decide_eq_true (Int.natCast_nonneg _)
  have ei : B0 ((i : Int) + 1) = ((i + 1 : Nat) : Int) := by rw [C6 (by omega) (by omega)]; rfl
  simp only [n5, A20, d1, d2, d3, br_true, gd_true, Int.toNat_natCast, ei, Ak4]
  cases he : eqd (rd A8 a.2.2.1 i) (rd A8 b.2.2.1 i) with
  | true =>
   have he := S9.1 he
   have ht2 : a.2.2.1.take (i + 1) = b.2.2.1.take (i + 1) := by
    rw [← e9 hi2 ht, ← e9 hi rfl, he]
   exact D31 a b hl hb m (i + 1) (by omega) ht2 k n (by omega)
  | false =>
   have hne : a.2.2.1 ≠ b.2.2.1 := fun e => by
    rw [e, An0 rfl] at he; cases he
   rw [Z7 hne]
   rfl
theorem Di1 (a b : B7) (hl : a.2.2.1.length ≤ 1000000) (hb : a.2.2.1.length = b.2.2.1.length) : ∀ (m i : Nat), i + m = a.2.2.1.length → a.2.2.1.take i = b.2.2.1.take i → ∀ k n, m < n → o6 k n (i : Int) a b = some (eqd a.2.2.1 b.2.2.1)
 | 0, i, hm, ht, k, n, hn => by
  obtain ⟨n, rfl⟩ : ∃ q, n = q + 1 := ⟨n - 1, by omega⟩
  have e : a.2.2.1 = b.2.2.1 := by
   rwa [List.take_of_length_le (by omega), List.take_of_length_le (by omega)] at ht
  have d1 : decide ((i : Int) < (a.2.2.1.length : Int)) = false := decide_eq_false (by omega)
  simp only [o6, A24, d1, br_false]
  rw [e, An0 rfl]
 | m + 1, i, hm, ht, k, n, hn => by
  obtain ⟨n, rfl⟩ : ∃ q, n = q + 1 := ⟨n - 1, by omega⟩
  have hi : i < a.2.2.1.length := by omega
  have hi2 : i < b.2.2.1.length := by omega
  have d1 : decide ((i : Int) < (a.2.2.1.length : Int)) = true := decide_eq_true (by omega)
  have d3 : decide ((i : Int) < (b.2.2.1.length : Int)) = true := decide_eq_true (by omega)
  have d2 : decide (0 ≤ (i : Int)) = true := decide_eq_true (Int.natCast_nonneg _)
  have ei : B0 ((i : Int) + 1) = ((i + 1 : Nat) : Int) := by rw [C6 (by omega) (by omega)]; rfl
  simp only [o6, A24, d1, d2, d3, br_true, gd_true, Int.toNat_natCast, ei, Ak4]
  cases he : eqd (rd A8 a.2.2.1 i) (rd A8 b.2.2.1 i) with
  | true =>
   have he := S9.1 he
   have ht2 : a.2.2.1.take (i + 1) = b.2.2.1.take (i + 1) := by
    rw [← e9 hi2 ht, ← e9 hi rfl, he]
   exact Di1 a b hl hb m (i + 1) (by omega) ht2 k n (by omega)
  | false =>
   have hne : a.2.2.1 ≠ b.2.2.1 := fun e => by
    rw [e, An0 rfl] at he; cases he
   rw [Z7 hne]
   rfl
theorem Di2 (a b : B7) (hl : a.2.2.1.length ≤ 1000000) (hb : a.2.2.1.length = b.2.2.1.length) : ∀ (m i : Nat), i + m = a.2.2.1.length → a.2.2.1.take i = b.2.2.1.take i → ∀ k n, m < n → E7 k n a.2.2.1 b.2.2.1 (i : Int) = some (eqd a.2.2.1 b.2.2.1)
 | 0, i, hm, ht, k, n, hn => by
  obtain ⟨n, rfl⟩ : ∃ q, n = q + 1 := ⟨n - 1, by omega⟩
  have e : a.2.2.1 = b.2.2.1 := by
   rwa [List.take_of_length_le (by omega), List.take_of_length_le (by omega)] at ht
  have d1 : decide ((i : Int) < (a.2.2.1.length : Int)) = false := decide_eq_false (by omega)
  simp only [E7, I9, d1, br_false]
  rw [e, An0 rfl]
 | m + 1, i, hm, ht, k, n, hn => by
  obtain ⟨n, rfl⟩ : ∃ q, n = q + 1 := ⟨n - 1, by omega⟩
  have hi : i < a.2.2.1.length := by omega
  have hi2 : i < b.2.2.1.length := by omega
  have d1 : decide ((i : Int) < (a.2.2.1.length : Int)) = true := decide_eq_true (by omega)
  have d3 : decide ((i : Int) < (b.2.2.1.length : Int)) = true := decide_eq_true (by omega)
  have d2 : decide (0 ≤ (i : Int)) = true := decide_eq_true (Int.natCast_nonneg _)
  have ei : B0 ((i : Int) + 1) = ((i + 1 : Nat) : Int) := by rw [C6 (by omega) (by omega)]; rfl
  simp only [E7, I9, d1, d2, d3, br_true, gd_true, Int.toNat_natCast, ei, Ak4]
  cases he : eqd (rd A8 a.2.2.1 i) (rd A8 b.2.2.1 i) with
  | true =>
   have he := S9.1 he
   have ht2 : a.2.2.1.take (i + 1) = b.2.2.1.take (i + 1) := by
    rw [← e9 hi2 ht, ← e9 hi rfl, he]
   exact Di2 a b hl hb m (i + 1) (by omega) ht2 k n (by omega)
  | false =>
   have hne : a.2.2.1 ≠ b.2.2.1 := fun e => by
    rw [e, An0 rfl] at he; cases he
   rw [Z7 hne]
   rfl
theorem Ea0 {a b : B7} (h1 : a.1 = b.1) (h2 : a.2.1 = b.2.1) (h3 : a.2.2.1 = b.2.2.1) : a = b := Prod.ext h1 (Prod.ext h2 (Prod.ext h3 rfl))
theorem Fe2 (a b : B7) (hl : a.2.2.1.length ≤ 1000000) : Ev (fun k => Bh3 k a b) (eqd a b) := by
 refine Re.eq (Re.brn (fun h => Re.ret (Z7 fun e => h (by rw [e])).symm) (fun h1 => Re.brn (fun h => Re.ret (Z7 fun e => h (by rw [e])).symm) (fun h2 => Re.brn (fun h => Re.ret (Z7 fun e => h (by rw [e])).symm) (fun h3 => ?_))))
 have h3 : a.2.2.1.length = b.2.2.1.length := Int.ofNat_inj.1 h3
 refine ⟨_, ?_, a.2.2.1.length + 1, fun k hk => D31 a b hl h3 a.2.2.1.length 0 (Nat.zero_add _) rfl k k (by have : a.2.2.1.length + 1 ≤ k := hk; omega)⟩
 show eqd a.2.2.1 b.2.2.1 = eqd a b
 rw [Bool.eq_iff_iff, S9, S9]
 exact ⟨fun h => Ea0 h1 h2 h, fun h => by rw [h]⟩
theorem Eq0 (a b : B7) (hl : a.2.2.1.length ≤ 1000000) : Ev (fun k => Bh8 k a b) (eqd a b) := by
 refine Re.eq (Re.brn (fun h => Re.ret (Z7 fun e => h (by rw [e])).symm) (fun h1 => Re.brn (fun h => Re.ret (Z7 fun e => h (by rw [e])).symm) (fun h2 => Re.brn (fun h => Re.ret (Z7 fun e => h (by rw [e])).symm) (fun h3 => ?_))))
 have h3 : a.2.2.1.length = b.2.2.1.length := Int.ofNat_inj.1 h3
 refine ⟨_, ?_, a.2.2.1.length + 1, fun k hk => Di1 a b hl h3 a.2.2.1.length 0 (Nat.zero_add _) rfl k k (by have : a.2.2.1.length + 1 ≤ k := hk; omega)⟩
 show eqd a.2.2.1 b.2.2.1 = eqd a b
 rw [Bool.eq_iff_iff, S9, S9]
 exact ⟨fun h => Ea0 h1 h2 h, fun h => by rw [h]⟩
theorem Fe3 (a b : B7) (hl : a.2.2.1.length ≤ 1000000) : Ev (fun k => H8 k a.2.2.1 b.2.2.1) (eqd a.2.2.1 b.2.2.1) := by
 refine Re.eq (Re.brn (fun h => Re.ret (Z7 fun e => h (by rw [e])).symm) (fun h3 => ?_))
 have h3 : a.2.2.1.length = b.2.2.1.length := Int.ofNat_inj.1 h3
 exact ⟨_, rfl, a.2.2.1.length + 1, fun k hk => Di2 a b hl h3 a.2.2.1.length 0 (Nat.zero_add _) rfl k k (by have : a.2.2.1.length + 1 ≤ k := hk; omega)⟩
theorem Ea1 (a b : B7) (hl : a.2.2.1.length ≤ 1000000) : Ev (fun k => Bi0 k a b) (eqd a b) := by
 refine Re.eq (Re.bre (fun h1 => Re.bre (fun h2 => Re.c1 (Fe3 a b hl) (Re.ret ?_)) (fun h => Re.ret (Z7 fun e => h (by rw [e])).symm)) (fun h => Re.ret (Z7 fun e => h (by rw [e])).symm))
 rw [Bool.eq_iff_iff, S9, S9]
 exact ⟨fun h => Ea0 h1 h2 h, fun h => by rw [h]⟩
theorem Gr0 {a b : A0} (h1 : a.1 = b.1) (h2 : a.2.1 = b.2.1) (h3 : a.2.2.1 = b.2.2.1) (h4 : a.2.2.2.1 = b.2.2.2.1) : a = b := Prod.ext h1 (Prod.ext h2 (Prod.ext h3 (Prod.ext h4 rfl)))
theorem Di3 (a b : A0) (hl : a.2.2.2.1.2.2.1.length ≤ 1000000) : Ev (fun k => A44 k a b) (eqd a b) := by
 refine Re.eq (Re.bre (fun h1 => Re.bre (fun h2 => Re.bre (fun h3 => Re.c1 (Fe2 _ _ hl) (Re.ret ?_)) (fun h => Re.ret (Z7 fun e => h (by rw [e])).symm)) (fun h => Re.ret (Z7 fun e => h (by rw [e])).symm)) (fun h => Re.ret (Z7 fun e => h (by rw [e])).symm))
 rw [Bool.eq_iff_iff, S9, S9]
 exact ⟨fun h => Gr0 h1 h2 h3 h, fun h => by rw [h]⟩
theorem Fe4 (a b : A0) (hl : a.2.2.2.1.2.2.1.length ≤ 1000000) : Ev (fun k => Ag2 k a b) (eqd a b) := by
 refine Re.eq (Re.bre (fun h1 => Re.bre (fun h2 => Re.bre (fun h3 => Re.c1 (Ea1 _ _ hl) (Re.ret ?_)) (fun h => Re.ret (Z7 fun e => h (by rw [e])).symm)) (fun h => Re.ret (Z7 fun e => h (by rw [e])).symm)) (fun h => Re.ret (Z7 fun e => h (by rw [e])).symm))
 rw [Bool.eq_iff_iff, S9, S9]
 exact ⟨fun h => Gr0 h1 h2 h3 h, fun h => by rw [h]⟩
structure OneJ (d : List C2) (j : A0) (n : Nat) (T : ByteArray) : Prop where
 num : j.1 = (n : Int)
 disk : d = [(H6 n, T, (T.size : Int), ())]
 file : ∃ s t rs, T = Ab8 s t rs ∧ JChain (Ak5 (n : Int) s t) rs ∧ p8 (Ak5 (n : Int) s t) rs = j ∧ LogP (s, t, [], ())
 ok : jOk j = true
 size : T.size ≤ 10000
theorem Bi7 {n : Nat} {T : ByteArray} {j : A0} (hf : ∃ s t rs, T = Ab8 s t rs ∧ JChain (Ak5 (n : Int) s t) rs ∧ p8 (Ak5 (n : Int) s t) rs = j ∧ LogP (s, t, [], ())) (hn : n ≤ 9) (hs : T.size ≤ 10000) :
  Ev (fun k => u2 k (n : Int) T) (j, (T.size : Int), true) ∧ Ev (fun k => S5 k (n : Int) T) (j, (T.size : Int), true) := by
 obtain ⟨s, t, rs, hT, hc, hj, h0⟩ := hf
 have := Fu3 (n : Int) s t rs ⟨#[]⟩ ⟨by omega, by omega⟩ h0 hc Ep4 (by rw [Dg3, ← hT]; omega)
 rw [Dg3, ← hT, hj] at this
 exact this
theorem Bi8 {j : A0} {n : Nat} (h : jOk j = true) (hn : j.1 = (n : Int)) : (∃ s t rs, p9 j = Ab8 s t rs ∧ JChain (Ak5 (n : Int) s t) rs ∧ p8 (Ak5 (n : Int) s t) rs = j ∧ LogP (s, t, [], ())) ∧ (p9 j).size ≤ 10000 := by
 obtain ⟨h1, h2, h3, h4⟩ := L5 h
 obtain ⟨g1, g2⟩ := Ep6 h (n : Int)
 refine ⟨⟨_, _, _, rfl, g1, g2.trans (Prod.ext hn.symm rfl), Ga4 h4⟩, ?_⟩
 have := Dh7 h
 have := h4.2.2.1
 omega
theorem B79 {j : A0} {n : Nat} (h : jOk j = true) (hn : j.1 = (n : Int)) : OneJ [(H6 n, p9 j, ((p9 j).size : Int), ())] j n (p9 j) :=
 ⟨hn, rfl, (Bi8 h hn).1, h, (Bi8 h hn).2⟩
end Go.Vm
end
section
set_option linter.unusedVariables false
set_option linter.unusedSimpArgs false
namespace Go.Vm
open Go
def Ck3 (n : Nat) (t : ByteArray) : List F2 := [(1, newN, t, ByteArray.empty, ()), (2, newN, ByteArray.empty, ByteArray.empty, ()), (3, newN, ByteArray.empty, H6 (n + 1), ()), (4, H6 n, ByteArray.empty, ByteArray.empty, ())]
def Ga7 (n : Nat) (more : ByteArray) : List F2 := [(1, H6 n, more, ByteArray.empty, ()), (2, H6 n, ByteArray.empty, ByteArray.empty, ())]
theorem Fz3 {a0 a1 : A0} {n : Nat} (h0 : a0.1 = (n : Int)) (hn : n + 1 ≤ 9) (ok : jOk (((n + 1 : Nat) : Int), a1.2) = true) :
  Ev (fun k => H4 k a0 a1) (Ck3 n (p9 (((n + 1 : Nat) : Int), a1.2)), (((n + 1 : Nat) : Int), a1.2), true) := by
 have e : B0 (a0.1 + 1) = ((n + 1 : Nat) : Int) := by rw [h0, C6 (by omega) (by omega)]; rfl
 have hl := (L5 ok).2.2.2.2.2.1
 unfold H4
 rw [e, h0]
 refine Re.eq (Re.c1 (Dh8 ok).1 (Re.br (b := false) (fun h => by cases h) (fun _ => ?_)))
 exact Re.c1 (B77 hn) (Re.c1 (B77 (by omega)) (Re.s1 (D97 _ (by simp only at hl ⊢; omega)) (Re.ret rfl)))
theorem Gx6 (n : Nat) : ((H6 n).toList == (⟨#[]⟩ : ByteArray).toList) = false := by
 rw [b7]
 exact decide_eq_false fun h => by
  have := congrArg ByteArray.size h
  rw [Bo9] at this
  cases this
theorem D32 {a1 : A0} {n : Nat} (hn : n + 1 ≤ 9) (ok : jOk (((n + 1 : Nat) : Int), a1.2) = true) :
  Ev (fun k => X3 k (n : Int) a1) (Ck3 n (p9 (((n + 1 : Nat) : Int), a1.2)), (((n + 1 : Nat) : Int), a1.2), true) := by
 have e : B0 ((n : Int) + 1) = ((n + 1 : Nat) : Int) := by rw [C6 (by omega) (by omega)]; rfl
 have hl := (L5 ok).2.2.2.2.2.1
 unfold X3
 rw [e]
 refine Re.eq (Re.s1 (v := a1.2.2.2.1) (fun k => by unfold I4; rw [decide_eq_true (by simp only at hl; unfold A2; omega)]; rfl) ?_)
 refine Re.c1 (Dh8 ok).2 (Re.c1 (B78 hn) (Re.br (b := false) (fun h => by cases h) (fun _ => ?_)))
 rw [Gx6]
 exact Re.br (b := false) (fun h => by cases h) (fun _ => Re.c1 (B78 (by omega)) (Re.ret rfl))
noncomputable def Cy5 (old now : A0) : List JRec := bif eqd old.2.1 now.2.1 && eqd old.2.2.1 now.2.2.1 then [] else [.hard now.2.1 now.2.2.1]
noncomputable def q7 (old now : A0) (c : Nat) : List JRec := Cy5 old now ++ M6 now.2.2.2.1 c
def Ga8 (old now j : A0) : Prop := j.1 = old.1 ∧ ((j.2.1 = old.2.1 ∧ j.2.2.1 = old.2.2.1) ∨ (j.2.1 = now.2.1 ∧ j.2.2.1 = now.2.2.1)) ∧ (j.2.2.2.1 = old.2.2.2.1 ∨ ∃ m, j.2.2.2.1 = (now.2.2.2.1.1, now.2.2.2.1.2.1, now.2.2.2.1.2.2.1.take m, ()))
structure Upto (a b : B7) (c : Nat) : Prop where
 st : a.1 = b.1
 tm : a.2.1 = b.2.1
 la : c ≤ a.2.2.1.length
 lb : c ≤ b.2.2.1.length
 eq : a.2.2.1.take c = b.2.2.1.take c
 no : c = b.2.2.1.length → a.2.2.1.length = c
theorem Eq1 {l : B7} {c q : Nat} : (M6 l c).take q = M6 (l.1, l.2.1, l.2.2.1.take (c + q), ()) c := by
 unfold M6
 rw [Dh6]
 congr 1
 rw [List.drop_take, show c + q - c = q by omega]
theorem Cr7 {j : A0} {b : B7} {c : Nat} (h : Upto j.2.2.2.1 b c) (hj : LogP j.2.2.2.1) (hb : LogP b) : JChain j (M6 b c) ∧ p8 j (M6 b c) = (j.1, j.2.1, j.2.2.1, b, ()) :=
 Ce5 b hb (b.2.2.1.length - c) c j (by have := h.lb; omega) hj h.st h.tm h.la h.eq (fun e => h.no (by have := h.lb; omega))
theorem Eq2 {j : A0} {b : B7} {c : Nat} (h : Upto j.2.2.2.1 b c) (hj : LogP j.2.2.2.1) (hb : LogP b) (q : Nat) : ∃ l, p8 j ((M6 b c).take q) = (j.1, j.2.1, j.2.2.1, l, ()) ∧ (l = j.2.2.2.1 ∨ ∃ m, l = (b.1, b.2.1, b.2.2.1.take m, ())) := by
 by_cases hq : q = 0 ∨ c = b.2.2.1.length
 ·refine ⟨j.2.2.2.1, ?_, .inl rfl⟩
  have : (M6 b c).take q = [] := by
   rcases hq with rfl | rfl
   ·rfl
   ·rw [Bc0 (Nat.le_refl _), List.take_nil]
  rw [this]
  rfl
 ·have hlb := h.lb
  have hU : Upto j.2.2.2.1 (b.1, b.2.1, b.2.2.1.take (c + q), ()) c := ⟨h.st, h.tm, h.la, by simp only [List.length_take]; omega, by
   simp only [List.take_take]
   rw [Nat.min_eq_left (by omega)]; exact h.eq, fun e => by simp only [List.length_take] at e; omega⟩
  have := (Cr7 hU hj (hb.take _)).2
  rw [Eq1]
  exact ⟨_, this, .inr ⟨c + q, rfl⟩⟩
theorem Cr8 {old now : A0} {c : Nat} (ho : jOk old = true) (hw : jOk now = true) (h : Upto old.2.2.2.1 now.2.2.2.1 c) :
  JChain old (q7 old now c) ∧ p8 old (q7 old now c) = (old.1, now.2) ∧ ∀ p, Ga8 old now (p8 old ((q7 old now c).take p)) := by
 obtain ⟨o1, o2, o3, o4⟩ := L5 ho
 obtain ⟨w1, w2, w3, w4⟩ := L5 hw
 unfold q7 Cy5
 cases hb : eqd old.2.1 now.2.1 && eqd old.2.2.1 now.2.2.1 with
 | true =>
  rw [Bool.and_eq_true] at hb
  have e1 := S9.1 hb.1
  have e2 := S9.1 hb.2
  obtain ⟨g1, g2⟩ := Cr7 (j := old) h o4 w4
  refine ⟨g1, g2.trans (by rw [e1, e2]), fun p => ?_⟩
  obtain ⟨l, k1, k2⟩ := Eq2 (j := old) h o4 w4 p
  show Ga8 old now (p8 old ((M6 now.2.2.2.1 c).take p))
  rw [k1]
  exact ⟨rfl, .inl ⟨rfl, rfl⟩, k2⟩
 | false =>
  obtain ⟨g1, g2⟩ := Cr7 (j := (old.1, now.2.1, now.2.2.1, old.2.2.2)) h o4 w4
  refine ⟨⟨⟨w2, w3⟩, trivial, g1⟩, g2, fun p => ?_⟩
  cases p with
  | zero => exact ⟨rfl, .inl ⟨rfl, rfl⟩, .inl rfl⟩
  | succ p =>
   obtain ⟨l, k1, k2⟩ := Eq2 (j := (old.1, now.2.1, now.2.2.1, old.2.2.2)) h o4 w4 p
   show Ga8 old now (p8 (old.1, now.2.1, now.2.2.1, old.2.2.2) ((M6 now.2.2.2.1 c).take p))
   rw [k1]
   exact ⟨rfl, .inr ⟨rfl, rfl⟩, k2⟩
inductive ActsR (old now : A0) (n : Nat) (T : ByteArray) : List F2 → A0 → Prop where
 | stay : (old.1, now.2) = old → ActsR old now n T [] (old.1, now.2)
 | grow (c : Nat) : Upto old.2.2.2.1 now.2.2.2.1 c → T.size ≤ 400 → ActsR old now n T (Ga7 n (B3 ((q7 old now c).map JRec.bytes))) (old.1, now.2)
 | anew : ActsR old now n T (Ck3 n (p9 (((n + 1 : Nat) : Int), now.2))) (((n + 1 : Nat) : Int), now.2)
def Bz5 (old now : A0) (n : Nat) (T : ByteArray) (r : List F2 × A0 × Bool) : Prop := r.2.2 = true ∧ ActsR old now n T r.1 r.2.1
theorem Ai8 (old now : A0) (c : Nat) : B3 ((q7 old now c).map JRec.bytes) = B3 ((Cy5 old now).map JRec.bytes) ++ Ck1 now.2.2.2.1 c := by
 unfold q7 Ck1
 rw [List.map_append, N5]
theorem Bz6 {old now : A0} (h : old.2.1 ≠ now.2.1 ∨ old.2.2.1 ≠ now.2.2.1) : B3 ((Cy5 old now).map JRec.bytes) = Cy2 now.2.1 now.2.2.1 := by
 unfold Cy5
 have : (eqd old.2.1 now.2.1 && eqd old.2.2.1 now.2.2.1) = false := by
  rcases h with h | h
  ·rw [Z7 h]; rfl
  ·rw [Z7 h, Bool.and_false]
 rw [this]
 exact l8 _
theorem Ea2 {old now : A0} (h1 : old.2.1 = now.2.1) (h2 : old.2.2.1 = now.2.2.1) : B3 ((Cy5 old now).map JRec.bytes) = ⟨#[]⟩ := by
 unfold Cy5
 rw [An0 h1, An0 h2]
 rfl
end Go.Vm
end
section
set_option linter.unusedVariables false
set_option linter.unusedSimpArgs false
namespace Go.Vm
open Go
theorem Ck4 (nm T : ByteArray) (z : Int) : Bd4 [(nm, T, z, ())] nm = (T, true) := by
 unfold Bd4 atF
 rw [decide_eq_true rfl]
 rfl
theorem Fz4 {nm x T : ByteArray} {z : Int} (h : nm ≠ x) : Bd4 [(nm, T, z, ())] x = (⟨#[]⟩, false) := by
 unfold Bd4 atF atF
 rw [decide_eq_false h]
 rfl
theorem W9 {n : Nat} {T : ByteArray} {z : Int} (hT : T.size ≤ 20000) (hz : 0 ≤ z ∧ z ≤ T.size) : l9 [(H6 n, T, z, ())] := by
 refine ⟨by simp, fun i hi => ?_⟩
 have h0 : i = 0 := by simp at hi; exact hi
 subst h0
 exact ⟨⟨⟨by show 1 ≤ 2; omega, by show 2 ≤ 8; omega⟩, hT, hz.1, hz.2⟩, fun h => absurd h (by omega)⟩
theorem Eq3 : ∀ {rs : List ByteArray}, B3 rs = ⟨#[]⟩ → rs = []
 | [], _ => rfl
 | t :: r, h => by
  have := congrArg ByteArray.size h
  rw [B3, C8, l7] at this
  have h0 : (⟨#[]⟩ : ByteArray).size = 0 := rfl
  omega
theorem Fe5 (l : B7) (h : l.2.2.1.length ≤ 1000000) (k : Nat) : I4 k l = some l := by
 unfold I4
 rw [decide_eq_true (by unfold A2; omega)]
 rfl
section
variable {d : List C2} {old now : A0} {n : Nat} {T : ByteArray}
theorem Ea3 {c : Nat} (hU : Upto old.2.2.2.1 now.2.2.2.1 c) (hT : T.size ≤ 400) {more : ByteArray} (hm : more = B3 ((q7 old now c).map JRec.bytes)) :
  Bz5 old now n T ([(1, H6 n, more, ByteArray.empty, ()), (2, H6 n, ByteArray.empty, ByteArray.empty, ())], (old.1, now.2), true) := by
 subst hm
 exact ⟨rfl, .grow c hU hT⟩
theorem Gt5 {c : Nat} (ho : jOk old = true) (hw : jOk now = true) (hU : Upto old.2.2.2.1 now.2.2.2.1 c) {more : ByteArray} (hm : more = B3 ((q7 old now c).map JRec.bytes)) (h0 : more = ⟨#[]⟩) :
  Bz5 old now n T ([], (old.1, now.2), true) := by
 rw [h0] at hm
 have h1 := List.map_eq_nil_iff.1 (Eq3 hm.symm)
 have h2 := (Cr8 ho hw hU).2.1
 rw [h1] at h2
 exact ⟨rfl, .stay h2.symm⟩
theorem Cr9 (hG : OneJ d old n T) (hn : n + 1 ≤ 9) (hw : jOk now = true) (hnum : now.1 = old.1) : Re (fun k => V4 k (d, ()) old now) (Bz5 old now n T) := by
 obtain ⟨g1, g2, g3, g4, g5⟩ := hG
 subst g2
 obtain ⟨o1, o2, o3, o4⟩ := L5 g4
 obtain ⟨w1, w2, w3, w4⟩ := L5 hw
 have hne := Az4 (n := n) (by omega)
 have hok1 : jOk (((n + 1 : Nat) : Int), now.2) = true := by
  unfold jOk
  simp only [Bool.and_eq_true]
  exact ⟨D4.2 ⟨by omega, by omega⟩, D4.2 w2, D4.2 w3, L4.2 w4⟩
 have hok0 : jOk (0, now.2) = true := by
  unfold jOk
  simp only [Bool.and_eq_true]
  exact ⟨rfl, D4.2 w2, D4.2 w3, L4.2 w4⟩
 have h60 := o4.2.2.1
 have h61 := w4.2.2.1
 have hR := (Bi7 g3 (by omega) g5).1
 have hF1 := (B76 [(H6 n, T, (T.size : Int), ())] (H6 n) (by simp)).1
 have hF2 := (B76 [(H6 n, T, (T.size : Int), ())] newN (by simp)).1
 rw [Ck4] at hF1
 rw [Fz4 hne.2.2] at hF2
 have hN := B77 (n := n) (by omega)
 unfold V4 Ay7
 rw [g1]
 refine Re.c1 hN (Re.c1 hF1 (Re.c1 hR (Re.c1 hF2 (Re.c1 (T1 _ (W9 (by omega) ⟨by omega, by omega⟩)) ?_))))
 refine Re.br (b := false) (fun h => by cases h) (fun _ => Re.c1 (A74 old o4.small) ?_)
 rw [g4]
 refine Re.br (b := false) (fun h => by cases h) (fun _ => Re.c1 (A74 (0, now.2) w4.small) ?_)
 rw [hok0]
 refine Re.br (b := false) (fun h => by cases h) (fun _ => Re.s1 (H9 · _ _ _) ?_)
 rw [D4.2 w1]
 refine Re.br (b := false) (fun h => by cases h) (fun _ => ?_)
 refine Re.br (b := false) (fun h => by cases h) (fun _ => ?_)
 refine Re.br (b := false) (fun h => by cases h) (fun _ => ?_)
 refine Re.brn (fun h => absurd rfl h) (fun _ => Re.c1 (Di3 old old (by omega)) ?_)
 rw [An0 rfl]
 refine Re.br (b := false) (fun h => by cases h) (fun _ => ?_)
 refine Re.br (b := false) (fun h => by cases h) (fun _ => Re.s1 (D97 ((n : Int), now.2) (by simp only; omega)) (Re.c1 (Di3 old ((n : Int), now.2) (by omega)) ?_))
 refine Re.br (fun h => Re.ret ⟨rfl, ?_⟩) (fun _ => ?_)
 ·have := S9.1 h
  have e : ((n : Int), now.2) = (old.1, now.2) := by rw [g1]
  rw [e] at this ⊢
  exact .stay this.symm
 refine Re.enter (f := fun k q => Q3 k q (H6 n) (T, true) 0 old now ((n : Int), now.2)) J1 ?_
 have e0 : ((n : Int), now.2) = (old.1, now.2) := by rw [g1]
 rw [e0]
 have anewC : Re (fun x : Nat × Nat => bd (H4 x.1 old now) fun r => some (r.1, r.2.1, r.2.2)) (Bz5 old now n T) := Re.c2 (Fz3 g1 hn hok1) (Re.ret ⟨rfl, .anew⟩)
 have growC : ∀ i, Upto old.2.2.2.1 now.2.2.2.1 i → T.size ≤ 400 → Re (fun x : Nat × Nat => br (old.2.1 != now.2.1) (bd (M2 x.1 now.2.1 now.2.2.1) fun r24 => (bd (F8 x.1 now.2.2.2.1 (i : Int)) fun r25 => (gd (decide (r24.size + r25.size ≤ A2)) (some (([(1, H6 n, (r24 ++ r25), ByteArray.empty, ()), (2, H6 n, ByteArray.empty, ByteArray.empty, ())] : List F2), (old.1, now.2), true)))))
   (br (old.2.2.1 != now.2.2.1) (bd (M2 x.1 now.2.1 now.2.2.1) fun r24 => (bd (F8 x.1 now.2.2.2.1 (i : Int)) fun r25 => (gd (decide (r24.size + r25.size ≤ A2)) (some (([(1, H6 n, (r24 ++ r25), ByteArray.empty, ()), (2, H6 n, ByteArray.empty, ByteArray.empty, ())] : List F2), (old.1, now.2), true)))))
    (bd (F8 x.1 now.2.2.2.1 (i : Int)) fun r25 => (gd (decide ((⟨#[]⟩ : ByteArray).size + r25.size ≤ A2)) (some (([(1, H6 n, ((⟨#[]⟩ : ByteArray) ++ r25), ByteArray.empty, ()), (2, H6 n, ByteArray.empty, ByteArray.empty, ())] : List F2), (old.1, now.2), true)))))) (Bz5 old now n T) := by
  intro i hU hT
  have hH := D27 (t := now.2.1) (v := now.2.2.1) ⟨w2.1, by omega⟩ ⟨w3.1, by omega⟩
  have hFr := (Cr2 _ w4 i hU.lb).1
  have z1 := (Ae3 (c := 72) (a := now.2.1) (b := now.2.2.1) ⟨w2.1, by omega⟩ ⟨w3.1, by omega⟩).2
  have z2 := As6 _ w4 (now.2.2.2.1.2.2.1.length - i) i (by have := hU.lb; omega)
  have z3 : (Cy2 now.2.1 now.2.2.1).size ≤ 20 := z1
  have z0 : (⟨#[]⟩ : ByteArray).size = 0 := rfl
  refine Re.brn (fun h => Re.c2 hH (Re.c2 hFr (Re.gdd (by unfold A2; omega) (Re.ret (Ea3 hU hT ?_))))) (fun h5 => Re.brn (fun h => Re.c2 hH (Re.c2 hFr (Re.gdd (by unfold A2; omega) (Re.ret (Ea3 hU hT ?_))))) (fun h6 => Re.c2 hFr (Re.gdd (by unfold A2; omega) (Re.ret (Ea3 hU hT ?_)))))
  ·rw [Ai8, Bz6 (.inl h)]
  ·rw [Ai8, Bz6 (.inr h)]
  ·rw [Ai8, Ea2 h5 h6]
 have := Re.loop (ι := Nat) (l := fun k q (i : Nat) => Q3 k q (H6 n) (T, true) (i : Int) old now (old.1, now.2)) (I := fun i => i ≤ old.2.2.2.1.2.2.1.length ∧ i ≤ now.2.2.2.1.2.2.1.length ∧ old.2.2.2.1.2.2.1.take i = now.2.2.2.1.2.2.1.take i) (fun i => old.2.2.2.1.2.2.1.length - i) (Q := fun _ => Bz5 old now n T) (fun i hi ih => by
  obtain ⟨i1, i2, i3⟩ := hi
  have ei : B0 ((i : Int) + 1) = ((i + 1 : Nat) : Int) := by rw [C6 (by omega) (by omega)]; rfl
  simp only [Q3, Ar6, Int.toNat_natCast, Ak4, ei]
  refine Re.brd (fun q1 => ?_) (fun q1 => ?_)
  ·refine Re.brd (fun q2 => ?_) (fun q2 => ?_)
   ·refine Re.gdd (by omega) (Re.gdd q1 (Re.gdd (by omega) (Re.gdd q2 ?_)))
    have ha : i < old.2.2.2.1.2.2.1.length := by omega
    have hb : i < now.2.2.2.1.2.2.1.length := by omega
    refine Re.br (fun q3 => ?_) (fun q3 => ?_)
    ·refine ih (i + 1) ⟨by omega, by omega, ?_⟩ (by omega)
     rw [← e9 hb i3, ← e9 ha rfl, S9.1 q3]
    ·refine Re.bre (fun q4 => absurd q4 (by omega)) (fun q4 => ?_)
     refine Re.brn (fun _ => anewC) (fun h1 => Re.brn (fun _ => anewC) (fun h2 => Re.brd (fun _ => anewC) (fun h4 => ?_)))
     exact growC i ⟨h1, h2, i1, i2, i3, fun e => absurd e (by omega)⟩ (by have h4 : ¬ ((T.size : Nat) : Int) > 400 := h4; omega)
   ·refine Re.bre (fun q4 => ?_) (fun q4 => absurd (show (i : Int) = now.2.2.2.1.2.2.1.length by omega) q4)
    refine Re.brn (fun _ => anewC) (fun h1 => Re.brn (fun _ => anewC) (fun h2 => ?_))
    exact Re.brd (fun _ => anewC) (fun h3 => absurd q1 h3)
  ·refine Re.bre (fun q4 => ?_) (fun q4 => ?_)
   ·refine Re.brn (fun _ => anewC) (fun h1 => Re.brn (fun _ => anewC) (fun h2 => ?_))
    refine Re.brd (fun _ => anewC) (fun h3 => Re.brd (fun _ => anewC) (fun h4 => ?_))
    exact growC i ⟨h1, h2, i1, i2, i3, fun e => by omega⟩ (by have h4 : ¬ ((T.size : Nat) : Int) > 400 := h4; omega)
   ·refine Re.brn (fun _ => anewC) (fun h1 => Re.brn (fun _ => anewC) (fun h2 => Re.brd (fun _ => anewC) (fun h4 => ?_)))
    exact growC i ⟨h1, h2, i1, i2, i3, fun e => absurd (by rw [e]) q4⟩ (by have h4 : ¬ ((T.size : Nat) : Int) > 400 := h4; omega)) 0 ⟨Nat.zero_le _, Nat.zero_le _, rfl⟩
 exact this
theorem Fz5 (hG : OneJ d old n T) (hn : n + 1 ≤ 9) (hw : jOk now = true) (hnum : now.1 = old.1) : Re (fun k => u7 k (d, ()) old now) (Bz5 old now n T) := by
 obtain ⟨g1, g2, g3, g4, g5⟩ := hG
 subst g2
 obtain ⟨o1, o2, o3, o4⟩ := L5 g4
 obtain ⟨w1, w2, w3, w4⟩ := L5 hw
 have hne := Az4 (n := n) (by omega)
 have hok1 : jOk (((n + 1 : Nat) : Int), now.2) = true := by
  unfold jOk
  simp only [Bool.and_eq_true]
  exact ⟨D4.2 ⟨by omega, by omega⟩, D4.2 w2, D4.2 w3, L4.2 w4⟩
 have h60 := o4.2.2.1
 have h61 := w4.2.2.1
 have hR := (Bi7 g3 (by omega) g5).2
 have hF1 := (B76 [(H6 n, T, (T.size : Int), ())] (H6 n) (by simp)).2
 have hF2 := (D29 [(H6 n, T, (T.size : Int), ())] newN (by simp)).2
 have hat : atF [(H6 n, T, (T.size : Int), ())] newN 0 = -1 := by
  unfold atF atF
  rw [decide_eq_false (show ¬ H6 n = newN from hne.2.2)]
  rfl
 rw [Ck4] at hF1
 rw [hat] at hF2
 have hN := B78 (n := n) (by omega)
 unfold u7 Az0
 rw [g1]
 refine Re.c1 hN (Re.c1 hF1 (Re.c1 hR (Re.c1 (Cy3 _ (W9 (by omega) ⟨by omega, by omega⟩)) ?_)))
 refine Re.br (b := false) (fun h => by cases h) (fun _ => Re.c1 (Ab7 old o4.small) ?_)
 rw [g4]
 refine Re.br (b := false) (fun h => by cases h) (fun _ => Re.c1 (Ab7 now w4.small) ?_)
 rw [hw]
 refine Re.br (b := false) (fun h => by cases h) (fun _ => ?_)
 refine Re.br (b := false) (fun h => by cases h) (fun _ => ?_)
 refine Re.br (b := false) (fun h => by cases h) (fun _ => Re.c1 (Fe4 old old (by omega)) ?_)
 rw [An0 rfl]
 refine Re.br (b := false) (fun h => by cases h) (fun _ => ?_)
 refine Re.brn (fun h => absurd rfl h) (fun _ => ?_)
 refine Re.c1 (v := false) (Ev.bd hF2 (.of fun _ => rfl)) ?_
 refine Re.br (b := false) (fun h => by cases h) (fun _ => ?_)
 refine Re.enter (f := fun k q => Q7 k q (H6 n) (T, true) 0 old now) J1 ?_
 have anewC : Re (fun x : Nat × Nat => bd (X3 x.1 old.1 now) fun r => some (r.1, r.2.1, r.2.2)) (Bz5 old now n T) := by
  rw [g1]
  exact Re.c2 (D32 hn hok1) (Re.ret ⟨rfl, .anew⟩)
 have tailC : ∀ {i : Nat} {more : ByteArray}, Upto old.2.2.2.1 now.2.2.2.1 i → T.size ≤ 400 → more = B3 ((q7 old now i).map JRec.bytes) → Re (fun x : Nat × Nat => bd (I4 x.1 now.2.2.2.1) fun r26 => (br (more.toList == (⟨#[]⟩ : ByteArray).toList) (some ([], (old.1, now.2.1, now.2.2.1, r26, ()), true)) (some (([(1, H6 n, more, ByteArray.empty, ()), (2, H6 n, ByteArray.empty, ByteArray.empty, ())] : List F2), (old.1, now.2.1, now.2.2.1, r26, ()), true)))) (Bz5 old now n T) := by
  intro i more hU hT hm
  refine Re.s2 (Fe5 now.2.2.2.1 (by omega)) ?_
  rw [b7]
  exact Re.brd (fun h => Re.ret (Gt5 g4 hw hU hm h)) (fun _ => Re.ret (Ea3 hU hT hm))
 have growC : ∀ i, Upto old.2.2.2.1 now.2.2.2.1 i → T.size ≤ 400 → Re (fun x : Nat × Nat => br (old.2.1 != now.2.1) (bd (K7 x.1 (⟨#[72]⟩ : ByteArray) now.2.1 now.2.2.1) fun r24 => (bd (G3 x.1 now.2.2.2.1 (i : Int)) fun r25 => (gd (decide (r24.size + r25.size ≤ A2)) (bd (I4 x.1 now.2.2.2.1) fun r26 => (br ((r24 ++ r25).toList == (⟨#[]⟩ : ByteArray).toList) (some ([], (old.1, now.2.1, now.2.2.1, r26, ()), true)) (some (([(1, H6 n, (r24 ++ r25), ByteArray.empty, ()), (2, H6 n, ByteArray.empty, ByteArray.empty, ())] : List F2), (old.1, now.2.1, now.2.2.1, r26, ()), true)))))))
   (br (old.2.2.1 != now.2.2.1) (bd (K7 x.1 (⟨#[72]⟩ : ByteArray) now.2.1 now.2.2.1) fun r24 => (bd (G3 x.1 now.2.2.2.1 (i : Int)) fun r25 => (gd (decide (r24.size + r25.size ≤ A2)) (bd (I4 x.1 now.2.2.2.1) fun r26 => (br ((r24 ++ r25).toList == (⟨#[]⟩ : ByteArray).toList) (some ([], (old.1, now.2.1, now.2.2.1, r26, ()), true)) (some (([(1, H6 n, (r24 ++ r25), ByteArray.empty, ()), (2, H6 n, ByteArray.empty, ByteArray.empty, ())] : List F2), (old.1, now.2.1, now.2.2.1, r26, ()), true)))))))
    (bd (G3 x.1 now.2.2.2.1 (i : Int)) fun r25 => (gd (decide ((⟨#[]⟩ : ByteArray).size + r25.size ≤ A2)) (bd (I4 x.1 now.2.2.2.1) fun r26 => (br (((⟨#[]⟩ : ByteArray) ++ r25).toList == (⟨#[]⟩ : ByteArray).toList) (some ([], (old.1, now.2.1, now.2.2.1, r26, ()), true)) (some (([(1, H6 n, ((⟨#[]⟩ : ByteArray) ++ r25), ByteArray.empty, ()), (2, H6 n, ByteArray.empty, ByteArray.empty, ())] : List F2), (old.1, now.2.1, now.2.2.1, r26, ()), true)))))))) (Bz5 old now n T) := by
  intro i hU hT
  have hH := Cr3 (⟨#[72]⟩ : ByteArray) 72 now.2.1 now.2.2.1 Gl4 ⟨w2.1, by omega⟩ ⟨w3.1, by omega⟩
  have hFr := (Cr2 _ w4 i hU.lb).2
  have z1 := (Ae3 (c := 72) (a := now.2.1) (b := now.2.2.1) ⟨w2.1, by omega⟩ ⟨w3.1, by omega⟩).2
  have z2 := As6 _ w4 (now.2.2.2.1.2.2.1.length - i) i (by have := hU.lb; omega)
  have z0 : (⟨#[]⟩ : ByteArray).size = 0 := rfl
  refine Re.brn (fun h => Re.c2 hH (Re.c2 hFr (Re.gdd (by unfold A2; omega) (tailC hU hT ?_)))) (fun h5 => Re.brn (fun h => Re.c2 hH (Re.c2 hFr (Re.gdd (by unfold A2; omega) (tailC hU hT ?_)))) (fun h6 => Re.c2 hFr (Re.gdd (by unfold A2; omega) (tailC hU hT ?_))))
  ·rw [Ai8, Bz6 (.inl h)]; rfl
  ·rw [Ai8, Bz6 (.inr h)]; rfl
  ·rw [Ai8, Ea2 h5 h6]
 have := Re.loop (ι := Nat) (l := fun k q (i : Nat) => Q7 k q (H6 n) (T, true) (i : Int) old now) (I := fun i => i ≤ old.2.2.2.1.2.2.1.length ∧ i ≤ now.2.2.2.1.2.2.1.length ∧ old.2.2.2.1.2.2.1.take i = now.2.2.2.1.2.2.1.take i) (fun i => old.2.2.2.1.2.2.1.length - i) (Q := fun _ => Bz5 old now n T) (fun i hi ih => by
  obtain ⟨i1, i2, i3⟩ := hi
  have ei : B0 ((i : Int) + 1) = ((i + 1 : Nat) : Int) := by rw [C6 (by omega) (by omega)]; rfl
  simp only [Q7, As1, Int.toNat_natCast, Ak4, ei]
  refine Re.brd (fun q1 => ?_) (fun q1 => ?_)
  ·have ha : i < old.2.2.2.1.2.2.1.length := by split at q1 <;> omega
   have hb : i < now.2.2.2.1.2.2.1.length := by split at q1 <;> omega
   refine Re.gdd (by omega) (Re.gdd (by omega) (Re.gdd (by omega) (Re.gdd (by omega) ?_)))
   refine Re.br (fun q3 => ?_) (fun q3 => ?_)
   ·refine ih (i + 1) ⟨by omega, by omega, ?_⟩ (by omega)
    rw [← e9 hb i3, ← e9 ha rfl, S9.1 q3]
   ·refine Re.bre (fun q4 => absurd q4 (by omega)) (fun q4 => ?_)
    refine Re.brn (fun _ => anewC) (fun h1 => Re.brn (fun _ => anewC) (fun h2 => Re.brd (fun _ => anewC) (fun h4 => ?_)))
    exact growC i ⟨h1, h2, i1, i2, i3, fun e => absurd e (by omega)⟩ (by have h4 : ¬ ((T.size : Nat) : Int) > 400 := h4; omega)
  ·refine Re.bre (fun q4 => ?_) (fun q4 => ?_)
   ·refine Re.brn (fun _ => anewC) (fun h1 => Re.brn (fun _ => anewC) (fun h2 => ?_))
    refine Re.brd (fun _ => anewC) (fun h3 => Re.brd (fun _ => anewC) (fun h4 => ?_))
    exact growC i ⟨h1, h2, i1, i2, i3, fun e => by omega⟩ (by have h4 : ¬ ((T.size : Nat) : Int) > 400 := h4; omega)
   ·refine Re.brn (fun _ => anewC) (fun h1 => Re.brn (fun _ => anewC) (fun h2 => Re.brd (fun _ => anewC) (fun h4 => ?_)))
    exact growC i ⟨h1, h2, i1, i2, i3, fun e => absurd (by rw [e]) q4⟩ (by have h4 : ¬ ((T.size : Nat) : Int) > 400 := h4; omega)) 0 ⟨Nat.zero_le _, Nat.zero_le _, rfl⟩
 exact this
end
end Go.Vm
end
section
set_option linter.unusedVariables false
set_option linter.unusedSimpArgs false
namespace Go.Vm
open Go
theorem Ga9 : Bi6 newN newN = false := by decide +kernel
abbrev D3 (nm T : ByteArray) (z : Nat) : C2 := (nm, T, (z : Int), ())
theorem B80 (nm T : ByteArray) (z : Int) (r : List C2) : atF ((nm, T, z, ()) :: r) nm 0 = 0 := by
 unfold atF
 rw [decide_eq_true rfl]
 rfl
theorem Aw2 {f g : C2} (hf : Ck2 f) (hg : Ck2 g) (h : Bi6 f.1 g.1 = true) : l9 [f, g] := by
 refine ⟨by simp, fun i hi => ?_⟩
 match i, hi with
 | 0, _ => exact ⟨hf, fun h => absurd h (by omega)⟩
 | 1, _ => exact ⟨hg, fun _ => h⟩
theorem Az5 {nm T : ByteArray} {z : Nat} (hn : nm.size = 2) (hT : T.size ≤ 20000) (hz : z ≤ T.size) : Ck2 (D3 nm T z) := ⟨⟨by show 1 ≤ nm.size; omega, by show nm.size ≤ 8; omega⟩, hT, by show (0 : Int) ≤ (z : Int); omega, by show (z : Int) ≤ (T.size : Int); omega⟩
theorem Eq4 {n : Nat} (hn : n ≤ 9) {T T' : ByteArray} {z z' : Nat} : Bu6 [D3 (H6 n) T z] (D3 (H6 n) T' z') = [D3 (H6 n) T' z'] := by
 have h := (Ce6 hn hn).2.2
 simp [Bu6, Cy4, h]
theorem Go6 {n : Nat} (hn : n ≤ 9) {T X : ByteArray} {z y : Nat} : Bu6 [D3 (H6 n) T z] (D3 newN X y) = [D3 newN X y, D3 (H6 n) T z] := by
 have h := Az4 hn
 simp [Bu6, Cy4, h]
theorem Gb0 {n : Nat} (hn : n ≤ 9) {T X Y : ByteArray} {z y x : Nat} : Bu6 [D3 newN Y x, D3 (H6 n) T z] (D3 newN X y) = [D3 newN X y, D3 (H6 n) T z] := by
 have h := Az4 hn
 simp [Bu6, Cy4, h, Ga9]
theorem Fu6 {n : Nat} (hn : n ≤ 9) {T Y : ByteArray} {z x : Nat} : Cr5 [D3 newN Y x, D3 (H6 n) T z] newN = [D3 (H6 n) T z] := by
 have h := Az4 hn
 simp [Cr5, h]
theorem Gb1 {n : Nat} (hn : n + 1 ≤ 9) {T X : ByteArray} {z y : Nat} : Bu6 [D3 (H6 n) T z] (D3 (H6 (n + 1)) X y) = [D3 (H6 n) T z, D3 (H6 (n + 1)) X y] := by
 have h := (Ce6 (m := n) (n := n + 1) (by omega) hn).1 (by omega)
 simp [Bu6, Cy4, h]
theorem Go7 {n : Nat} (hn : n + 1 ≤ 9) {T X : ByteArray} {z y : Nat} : Cr5 [D3 (H6 n) T z, D3 (H6 (n + 1)) X y] (H6 n) = [D3 (H6 (n + 1)) X y] := by
 have h := (Ce6 (m := n + 1) (n := n) hn (by omega)).2.1 (by omega)
 simp [Cr5, h]
theorem D33 {n : Nat} (hn : n ≤ 9) {T more : ByteArray} (hs : T.size + more.size ≤ 20000) : ∃ d1, Ev (fun k => b8 k ([D3 (H6 n) T T.size], ()) (1, H6 n, more, ByteArray.empty, ())) ((d1, ()), true) ∧ d1 = [D3 (H6 n) (T ++ more) T.size] ∧
  Ev (fun k => b8 k (d1, ()) (2, H6 n, ByteArray.empty, ByteArray.empty, ())) (([D3 (H6 n) (T ++ more) (T ++ more).size], ()), true) := by
 have hsz : (T ++ more).size = T.size + more.size := C8 _ _
 have hat := B80 (H6 n) T (T.size : Int) []
 have hat2 := B80 (H6 n) (T ++ more) (T.size : Int) []
 have p1 : Bu6 [D3 (H6 n) T T.size] (D3 (H6 n) (T ++ more) T.size) = [D3 (H6 n) (T ++ more) T.size] := Eq4 hn
 have p2 : Bu6 [D3 (H6 n) (T ++ more) T.size] (D3 (H6 n) (T ++ more) (T ++ more).size) = [D3 (H6 n) (T ++ more) (T ++ more).size] := Eq4 hn
 refine ⟨_, ?_, rfl, ?_⟩
 ·have := Fu4 (d := [D3 (H6 n) T T.size]) (nm := H6 n) (tx := more) (f := D3 (H6 n) (T ++ more) T.size) (W9 (by omega) ⟨by omega, by omega⟩) ⟨by show 1 ≤ 2; omega, by show 2 ≤ 8; omega⟩ (.inr ⟨by rw [hat]; decide, by rw [hat]; rfl⟩) (by omega) (by rw [p1]; exact W9 (by omega) ⟨by omega, by omega⟩)
  rwa [p1] at this
 ·have := Ep7 (d := [D3 (H6 n) (T ++ more) T.size]) (nm := H6 n) (f := D3 (H6 n) (T ++ more) (T ++ more).size) (W9 (by omega) ⟨by omega, by omega⟩) ⟨by show 1 ≤ 2; omega, by show 2 ≤ 8; omega⟩ (by rw [hat2]; decide) (by rw [hat2]; rfl) (by rw [p2]; exact W9 (by omega) ⟨by omega, by omega⟩)
  rwa [p2] at this
theorem B81 {n : Nat} (hn : n + 1 ≤ 9) {T X : ByteArray} {z : Nat} (hT : T.size ≤ 20000) (hz : z ≤ T.size) (hX : X.size ≤ 20000) :
  Ev (fun k => b8 k ([D3 (H6 n) T z], ()) (1, newN, X, ByteArray.empty, ())) (([D3 newN X 0, D3 (H6 n) T z], ()), true) ∧
  Ev (fun k => b8 k ([D3 newN X 0, D3 (H6 n) T z], ()) (2, newN, ByteArray.empty, ByteArray.empty, ())) (([D3 newN X X.size, D3 (H6 n) T z], ()), true) ∧
  Ev (fun k => b8 k ([D3 newN X X.size, D3 (H6 n) T z], ()) (3, newN, ByteArray.empty, H6 (n + 1), ())) (([D3 (H6 n) T z, D3 (H6 (n + 1)) X X.size], ()), true) ∧
  Ev (fun k => b8 k ([D3 (H6 n) T z, D3 (H6 (n + 1)) X X.size], ()) (4, H6 n, ByteArray.empty, ByteArray.empty, ())) (([D3 (H6 (n + 1)) X X.size], ()), true) := by
 have h := Az4 (n := n) (by omega)
 have h1 := Az4 (n := n + 1) hn
 have h2 := (Ce6 (m := n) (n := n + 1) (by omega) hn).1 (by omega)
 have sz : ∀ m, (H6 m).size = 2 := Bo9
 have fo : Ck2 (D3 (H6 n) T z) := Az5 (sz n) hT hz
 have f0 : Ck2 (D3 newN X 0) := Az5 rfl hX (by omega)
 have f1 : Ck2 (D3 newN X X.size) := Az5 rfl hX (Nat.le_refl _)
 have f2 : Ck2 (D3 (H6 (n + 1)) X X.size) := Az5 (sz _) hX (Nat.le_refl _)
 have d0 : l9 [D3 (H6 n) T z] := W9 hT ⟨by omega, by omega⟩
 have d1 : l9 [D3 newN X 0, D3 (H6 n) T z] := Aw2 f0 fo h.1
 have d2 : l9 [D3 newN X X.size, D3 (H6 n) T z] := Aw2 f1 fo h.1
 have d3 : l9 [D3 (H6 n) T z, D3 (H6 (n + 1)) X X.size] := Aw2 fo f2 h2.1
 have d4 : l9 [D3 (H6 (n + 1)) X X.size] := W9 hX ⟨by omega, by omega⟩
 have n2 : 1 ≤ newN.size ∧ newN.size ≤ 8 := ⟨by show 1 ≤ 2; omega, by show 2 ≤ 8; omega⟩
 have n3 : ∀ m, 1 ≤ (H6 m).size ∧ (H6 m).size ≤ 8 := fun m => ⟨by show 1 ≤ 2; omega, by show 2 ≤ 8; omega⟩
 have a0 : atF [D3 (H6 n) T z] newN 0 = -1 := by
  unfold atF atF
  rw [decide_eq_false (show ¬ H6 n = newN from h.2.2)]
  rfl
 refine ⟨?_, ?_, ?_, ?_⟩
 ·have p := Go6 (n := n) (by omega) (T := T) (X := X) (z := z) (y := 0)
  have := Fu4 (d := [D3 (H6 n) T z]) (nm := newN) (tx := X) (f := D3 newN X 0) d0 n2 (.inl ⟨by rw [a0]; decide, rfl⟩) hX (by rw [p]; exact d1)
  rwa [p] at this
 ·have hat := B80 newN X ((0 : Nat) : Int) [D3 (H6 n) T z]
  have p := Gb0 (n := n) (by omega) (T := T) (X := X) (Y := X) (z := z) (y := X.size) (x := 0)
  have := Ep7 (d := [D3 newN X 0, D3 (H6 n) T z]) (nm := newN) (f := D3 newN X X.size) d1 n2 (by rw [hat]; decide) (by rw [hat]; rfl) (by rw [p]; exact d2)
  rwa [p] at this
 ·have hat := B80 newN X (X.size : Int) [D3 (H6 n) T z]
  have p1 := Fu6 (n := n) (by omega) (T := T) (Y := X) (z := z) (x := X.size)
  have p2 := Gb1 hn (T := T) (X := X) (z := z) (y := X.size)
  have := Ga6 (d := [D3 newN X X.size, D3 (H6 n) T z]) (nm := newN) (to := H6 (n + 1)) (f := D3 (H6 (n + 1)) X X.size) d2 n2 (n3 _) h1.2.2 (by rw [hat]; decide) (by rw [hat]; rfl) (by rw [hat]; rfl) (by rw [p1, p2]; exact d3)
  rwa [p1, p2] at this
 ·have hat := B80 (H6 n) T (z : Int) [D3 (H6 (n + 1)) X X.size]
  have p := Go7 hn (T := T) (X := X) (z := z) (y := X.size)
  have := Ep8 (d := [D3 (H6 n) T z, D3 (H6 (n + 1)) X X.size]) (nm := H6 n) d3 (n3 _) (by rw [hat]; decide) (by rw [p]; exact d4)
  rwa [p] at this
theorem D34 {old now : A0} {c : Nat} (hw : jOk now = true) (hc : c ≤ now.2.2.2.1.2.2.1.length) : (B3 ((q7 old now c).map JRec.bytes)).size ≤ 9020 := by
 obtain ⟨w1, w2, w3, w4⟩ := L5 hw
 have h61 := w4.2.2.1
 have z1 := (Ae3 (c := 72) (a := now.2.1) (b := now.2.2.1) ⟨w2.1, by omega⟩ ⟨w3.1, by omega⟩).2
 have z2 := As6 _ w4 (now.2.2.2.1.2.2.1.length - c) c (by omega)
 rw [Ai8, C8]
 have : (B3 ((Cy5 old now).map JRec.bytes)).size ≤ 20 := by
  by_cases h : old.2.1 = now.2.1 ∧ old.2.2.1 = now.2.2.1
  ·rw [Ea2 h.1 h.2]; exact Nat.zero_le _
  ·have h' : old.2.1 ≠ now.2.1 ∨ old.2.2.1 ≠ now.2.2.1 := by
    by_cases q : old.2.1 = now.2.1
    ·exact .inr fun e => h ⟨q, e⟩
    ·exact .inl q
   rw [Bz6 h']; exact z1
 omega
theorem Ea4 {now : A0} {n : Nat} (hw : jOk now = true) (hn : n ≤ 9) : jOk ((n : Int), now.2) = true := by
 obtain ⟨w1, w2, w3, w4⟩ := L5 hw
 unfold jOk
 simp only [Bool.and_eq_true]
 exact ⟨D4.2 ⟨by omega, by omega⟩, D4.2 w2, D4.2 w3, L4.2 w4⟩
theorem D35 {d : List C2} {old now next : A0} {n : Nat} {T : ByteArray} {list : List F2} (hG : OneJ d old n T) (hn : n + 1 ≤ 9) (hw : jOk now = true) (hR : ActsR old now n T list next) :
  ∃ d' n' T', Done d list d' ∧ OneJ d' next n' T' ∧ n' ≤ n + 1 ∧ next.2 = now.2 := by
 obtain ⟨g1, g2, g3, g4, g5⟩ := hG
 subst g2
 cases hR with
 | stay h =>
  refine ⟨_, n, T, .nil, ?_, by omega, rfl⟩
  rw [h]
  exact ⟨g1, rfl, g3, g4, g5⟩
 | grow c hU hT =>
  have hsz := D34 (old := old) (c := c) hw hU.lb
  obtain ⟨k1, k2, k3⟩ := Cr8 g4 hw hU
  obtain ⟨d1, a1, rfl, a2⟩ := D33 (n := n) (by omega) (T := T) (more := B3 ((q7 old now c).map JRec.bytes)) (by omega)
  refine ⟨_, n, _, .cons a1 (.cons a2 .nil), ⟨g1, rfl, ?_, ?_, by rw [C8]; omega⟩, by omega, rfl⟩
  ·obtain ⟨s, t, rs, f1, f2, f3, f4⟩ := g3
   refine ⟨s, t, rs ++ q7 old now c, ?_, f2.append (by rw [f3]; exact k1), by rw [Ck0, f3, k2], f4⟩
   unfold Ab8 at f1 ⊢
   rw [f1, List.map_append, ← List.cons_append, N5]
  ·rw [g1]; exact Ea4 hw (by omega)
 | anew =>
  have ok1 := Ea4 (n := n + 1) hw hn
  obtain ⟨t1, t2⟩ := Bi8 (n := n + 1) ok1 rfl
  obtain ⟨a1, a2, a3, a4⟩ := B81 hn (T := T) (X := p9 (((n + 1 : Nat) : Int), now.2)) (z := T.size) (by omega) (Nat.le_refl _) (by omega)
  exact ⟨_, n + 1, _, .cons a1 (.cons a2 (.cons a3 (.cons a4 .nil))), B79 ok1 rfl, Nat.le_refl _, rfl⟩
theorem Di4 {old now next : A0} {n : Nat} {T : ByteArray} {list : List F2} (h : ActsR old now n T list next) : list.length ≤ 4 := by
 cases h with
 | stay => exact Nat.zero_le _
 | grow => show 2 ≤ 4; omega
 | anew => exact Nat.le_refl 4
end Go.Vm
end
section
set_option linter.unusedVariables false
set_option linter.unusedSimpArgs false
namespace Go.Vm
open Go
def Fu7 (m : Nat) (r : (B4 × A0) × A5 × Unit) : Prop := (∃ n T, OneJ r.1.1.1 r.1.2 n T ∧ n ≤ 4 + m ∧ WellJ m r.1.2) ∧ CurOk r.2.1
theorem WellJ.to {m p : Nat} {j : A0} (h : WellJ m j) (hp : m ≤ p) : WellJ p j := by
  induction p with
  | zero => have : m = 0 := by omega
            subst this; exact h
  | succ p ih =>
    by_cases q : m = p + 1
    · subst q; exact h
    · exact (ih (by omega)).more
theorem D36 {m : Nat} {now next : A0} {n' : Nat} (hw : WellJ m now) (h2 : next.2 = now.2) (hn : next.1 = (n' : Int)) (hn' : n' ≤ 4 + m) : WellJ m next := by
 obtain ⟨w1, w2, w3, w4⟩ := hw
 refine ⟨⟨by omega, by omega⟩, ?_, ?_, ?_⟩
 ·rw [h2]; exact w2
 ·rw [h2]; exact w3
 ·rw [h2]; exact w4
theorem Go8 : ∀ (s : Nat × A5 × A0 × List C2), (s.1 ≤ 3 ∧ CurOk s.2.1 ∧ ∃ n T, OneJ s.2.2.2 s.2.2.1 n T ∧ n ≤ 4 + s.1 ∧ WellJ s.1 s.2.2.1) →
  Re (fun x : Nat × Nat => Ad6 x.1 x.2 (s.1 : Int) s.2.1.1 s.2.1.2.1 s.2.1.2.2.1 s.2.2.1.1 s.2.2.1.2.1 s.2.2.1.2.2.1 s.2.2.1.2.2.2.1.1 s.2.2.1.2.2.2.1.2.1 s.2.2.1.2.2.2.1.2.2.1 s.2.2.2) (Fu7 3) := by
 refine Re.loop (ι := Nat) (l := fun k q (s : Nat × A5 × A0 × List C2) => Ad6 k q (s.1 : Int) s.2.1.1 s.2.1.2.1 s.2.1.2.2.1 s.2.2.1.1 s.2.2.1.2.1 s.2.2.1.2.2.1 s.2.2.1.2.2.2.1.1 s.2.2.1.2.2.2.1.2.1 s.2.2.1.2.2.2.1.2.2.1 s.2.2.2) (fun s => 3 - s.1) (Q := fun _ => Fu7 3) (fun s hi ih => ?_)
 obtain ⟨i, c, j, d⟩ := s
 obtain ⟨i1, i2, n, T, hG, hn, hw⟩ := hi
 simp only at i1 i2 hG hn hw ih ⊢
 simp only [Ad6, Bn4]
 have ei : B0 ((i : Int) + 1) = ((i + 1 : Nat) : Int) := by rw [C6 (by omega) (by omega)]; rfl
 refine Re.b2 (I7 _ 4 i2.eta) fun r4 h4 => ?_
 refine Re.brd (fun q => ?_) (fun q => Re.ret ⟨⟨n, T, hG, by omega, hw.to (by omega)⟩, h4.2⟩)
 have hi3 : i < 3 := by obtain ⟨⟨a, b⟩, _⟩ := h4; omega
 refine Re.b2 (Bo8 _ h4.2 i (by omega) j hw) fun r8 h8 => ?_
 obtain ⟨⟨hw8, hn8⟩, hc8⟩ := h8
 have hok := hw8.ok (by omega)
 refine Re.b2 (Cr9 hG (by omega) hok hn8) fun r9 h9 => ?_
 obtain ⟨ho, hA⟩ := h9
 obtain ⟨d', n', T', hD, hG', hn', h2⟩ := D35 hG (by omega) hok hA
 have hl := Di4 hA
 have hdl : d.length ≤ 1000000 := by rw [hG.disk]; simp
 rw [ho]
 refine Re.br (b := true) (fun _ => ?_) (fun h => by cases h)
 refine Re.c2 (Db3 (by omega) hdl hD) ?_
 rw [ei]
 exact ih (i + 1, r8.2.1, r9.2.1, d') ⟨by simp only; omega, hc8, n', T', hG', by simp only; omega, D36 hw8 h2 hG'.num (by omega)⟩ (by simp only; omega)
theorem Fe6 (c : A5) (hc : CurOk c) (j : A0) (hw : WellJ 0 j) : Re (fun k => Ak0 k c j) (Fu7 3) := by
 have hok := hw.ok (by omega)
 obtain ⟨n, hn⟩ : ∃ n : Nat, j.1 = n := ⟨j.1.toNat, (Int.toNat_of_nonneg hw.1.1).symm⟩
 have hn4 : n ≤ 4 := by have := hw.1.2; omega
 have hG : OneJ [(H6 n, p9 j, ((p9 j).size : Int), ())] j n (p9 j) := B79 hok hn
 unfold Ak0 Bx8
 refine Re.c1 (Dh8 hok).1 ?_
 refine Re.c1 (v := H6 n) ((B77 (n := n) (by omega)).congr fun k => by rw [hn]) ?_
 refine Re.enter (f := fun k q => n8 k q 0 c.1 c.2.1 c.2.2.1 j (H6 n) (p9 j, true)) J1 ?_
 have := Re.loop (ι := Nat) (l := fun k q (s : Unit) => n8 k q 0 c.1 c.2.1 c.2.2.1 j (H6 n) (p9 j, true)) (I := fun _ => True) (fun _ => 0) (Q := fun _ => Fu7 3) (fun s _ _ => by
  simp only [n8, Bn5]
  refine Re.b2 (I7 _ 4 hc.eta) fun r4 h4 => ?_
  refine Re.brd (fun q => ?_) (fun q => Re.ret ⟨⟨n, p9 j, hG, by omega, hw.to (by omega)⟩, h4.2⟩)
  refine Re.b2 (Bo8 _ h4.2 0 (by omega) j hw) fun r8 h8 => ?_
  obtain ⟨⟨hw8, hn8⟩, hc8⟩ := h8
  have hok8 := hw8.ok (by omega)
  refine Re.b2 (Cr9 hG (by omega) hok8 hn8) fun r9 h9 => ?_
  obtain ⟨ho, hA⟩ := h9
  obtain ⟨d', n', T', hD, hG', hn', h2⟩ := D35 hG (by omega) hok8 hA
  have hl := Di4 hA
  rw [ho]
  refine Re.br (b := true) (fun _ => ?_) (fun h => by cases h)
  refine Re.c2 (Db3 (by omega) (by simp) hD) ?_
  exact Go8 (1, r8.2.1, r9.2.1, d') ⟨by simp only; omega, hc8, n', T', hG', by simp only; omega, D36 hw8 h2 hG'.num (by omega)⟩) () trivial
 exact this
def Gt6 (r : B4 × A0 × A0) : Prop := ∃ n T, OneJ r.1.1 r.2.1 n T ∧ n ≤ 7 ∧ jOk r.2.2 = true ∧ r.2.2.1 = r.2.1.1
theorem Gb2 (a : List Int) (h : a.length ≤ 1048576) : Re (fun k => U4 k a) Gt6 :=
 Gt1 (l := fun k n v i => O9 k n a v i) (C := fun k c => (bd (Ai3 k (a, 0, c, ())) fun r1 => (bd (Ak0 k r1.2.1 r1.1) fun r2 => (bd (Ad5 k r2.2.1 r2.1.2) fun r3 => (some (r2.1.1, r2.1.2, r3.1)))))) a h (fun k n v1 v2 => rfl) (fun c hc => Re.b1 (Dp7 _ hc) fun r1 h1 => Re.b1 (Fe6 _ h1.2 _ h1.1) fun r2 h2 => by
  obtain ⟨⟨n, T, hG, hn, hw⟩, hc2⟩ := h2
  exact Re.b1 (Bo8 _ hc2 3 (by omega) _ hw) fun r3 h3 => Re.ret ⟨n, T, hG, by omega, h3.1.1.ok (by omega), h3.1.2⟩) _
def Ea5 (nm : ByteArray) : Int := bif decide (nm = newN) then -1 else bt nm 1 - 48
theorem Eq5 : Ea5 newN = -1 := by unfold Ea5; rw [decide_eq_true rfl]; rfl
theorem Bp0 {n : Nat} (hn : n ≤ 9) : Ea5 (H6 n) = (n : Int) := by
 unfold Ea5
 rw [decide_eq_false (Az4 hn).2.2]
 refine A75 (P := fun n => (bif false then -1 else bt (H6 n) 1 - 48) = (n : Int)) (fun i => ?_) hn
 match i with
 | ⟨0, _⟩ => rfl
 | ⟨1, _⟩ => rfl
 | ⟨2, _⟩ => rfl
 | ⟨3, _⟩ => rfl
 | ⟨4, _⟩ => rfl
 | ⟨5, _⟩ => rfl
 | ⟨6, _⟩ => rfl
 | ⟨7, _⟩ => rfl
 | ⟨8, _⟩ => rfl
 | ⟨9, _⟩ => rfl
def Di5 (d : List C2) : Prop := ∀ i, i < d.length → (rd A3 d i).1 = newN ∨ ∃ n, n ≤ 9 ∧ (rd A3 d i).1 = H6 n
theorem D37 {d : List C2} (h : Di5 d) {i : Nat} (hi : i < d.length) (k : Nat) : o7 k (rd A3 d i).1 (⟨#[106]⟩ : ByteArray) 999 = some (Ea5 (rd A3 d i).1) := by
 rcases h i hi with e | ⟨n, hn, e⟩
 ·rw [e, Eq5]; exact Fe1 k
 ·rw [e, Bp0 hn]; exact Fz2 hn k
def Ea6 (d : List C2) (v : Int) : Int := d.foldl (fun v f => if Ea5 f.1 > v then Ea5 f.1 else v) v
def Ai9 (d : List C2) (best : Nat) : List F2 := (d.filter fun f => !decide (f.1 = H6 best)).map fun f => (4, f.1, ByteArray.empty, ByteArray.empty, ())
def Fe7 (best : Nat) (r4 : ByteArray × Bool) (r5 : A0 × Int × Bool) (k : Nat) (xs : List F2) : Option (A0 × List F2 × Bool) :=
 br (r5.2.1 == (r4.1.size : Int)) (some (r5.1, xs, true)) (bd (X3 k (best : Int) r5.1) fun r7 => (br (!r7.2.2) (some ((0, 0, 0, (0, 0, [], ()), ()), [], false)) (gd (decide (xs.length + r7.1.length ≤ A2)) (some (r7.2.1, (xs ++ r7.1), true)))))
theorem Ea7 (d : List C2) (hN : Di5 d) (hl : d.length ≤ 1000) {best : Nat} (hb : best ≤ 9) (r4 : ByteArray × Bool) (r5 : A0 × Int × Bool) : ∀ (m i : Nat) (xs : List F2), i + m = d.length → xs.length ≤ i → ∀ k n, m < n →
  W3 k n (best : Int) r4 r5 (d, ()) (i : Int) xs = Fe7 best r4 r5 k (xs ++ Ai9 (d.drop i) best)
 | 0, i, xs, hm, _, k, n, hn => by
  obtain ⟨n, rfl⟩ : ∃ q, n = q + 1 := ⟨n - 1, by omega⟩
  have d1 : decide ((i : Int) < (d.length : Int)) = false := decide_eq_false (by omega)
  rw [List.drop_eq_nil_of_le (by omega)]
  simp only [W3, Ad9, d1, br_false, Ai9, List.filter_nil, List.map_nil, List.append_nil]
  rfl
 | m + 1, i, xs, hm, hx, k, n, hn => by
  obtain ⟨n, rfl⟩ : ∃ q, n = q + 1 := ⟨n - 1, by omega⟩
  have hi : i < d.length := by omega
  have d1 : decide ((i : Int) < (d.length : Int)) = true := decide_eq_true (by omega)
  have d2 : decide (0 ≤ (i : Int)) = true := decide_eq_true (Int.natCast_nonneg _)
  have ei : B0 ((i : Int) + 1) = ((i + 1 : Nat) : Int) := by rw [C6 (by omega) (by omega)]; rfl
  have hd : d.drop i = rd A3 d i :: d.drop (i + 1) := by rw [List.drop_eq_getElem_cons hi, ← Aa6 hi (z := A3)]
  have d3 : decide (xs.length + ([(4, (rd A3 d i).1, ByteArray.empty, ByteArray.empty, ())] : List F2).length ≤ A2) = true := decide_eq_true (by simp; unfold A2; omega)
  have h1 := Ea7 d hN hl hb r4 r5 m (i + 1) xs (by omega) (by omega) k n (by omega)
  have h2 := Ea7 d hN hl hb r4 r5 m (i + 1) (xs ++ [(4, (rd A3 d i).1, ByteArray.empty, ByteArray.empty, ())]) (by omega) (by simp; omega) k n (by omega)
  have hq := D37 hN hi k
  have hdrop : Ai9 (d.drop i) best = (if (rd A3 d i).1 = H6 best then [] else [(4, (rd A3 d i).1, ByteArray.empty, ByteArray.empty, ())]) ++ Ai9 (d.drop (i + 1)) best := by
   unfold Ai9
   rw [hd, List.filter_cons]
   by_cases e : (rd A3 d i).1 = H6 best
   ·simp [e]
   ·simp [e]
  rw [hdrop]
  simp only [W3, Ad9, d1, d2, d3, br_true, gd_true, Int.toNat_natCast, hq, bd_some, ei, h1, h2]
  rw [show (⟨#[106, 43]⟩ : ByteArray) = newN from rfl, b7]
  rcases hN i hi with e | ⟨q, hq9, e⟩
  ·rw [e, decide_eq_true rfl, if_neg (fun h => (Az4 hb).2.2 h.symm)]
   simp
  ·rw [e, decide_eq_false (Az4 hq9).2.2, Bp0 hq9]
   rw [decide_eq_true (show (q : Int) ≥ 0 by omega)]
   simp only [br_false, br_true]
   by_cases eq : q = best
   ·subst eq
    rw [if_pos rfl]
    simp
   ·have hne : H6 q ≠ H6 best := (Ce6 hq9 hb).2.1 eq
    rw [if_neg hne]
    have : ((q : Int) != (best : Int)) = true := by simp; omega
    rw [this, br_true]
    simp
end Go.Vm
end
section
set_option linter.unusedVariables false
set_option linter.unusedSimpArgs false
namespace Go.Vm
open Go
theorem Fz6 {d : List C2} {i : Nat} (hi : i < d.length) (v : Int) : Ea6 (d.drop i) v = Ea6 (d.drop (i + 1)) (if Ea5 (rd A3 d i).1 > v then Ea5 (rd A3 d i).1 else v) := by
 rw [List.drop_eq_getElem_cons hi, ← Aa6 hi (z := A3)]
 rfl
theorem Db4 {d : List C2} {best : Nat} {T : ByteArray} {j : A0} {e : Int} {V : A0 × List F2 × Bool} (hN : Di5 d) (hD : l9 d) (hmax : Ea6 d (-1) = (best : Int)) (hb : best ≤ 9) (hf : Bd4 d (H6 best) = (T, true))
  (hr : Ev (fun k => S5 k (best : Int) T) (j, e, true)) (hV : Ev (fun k => Fe7 best (T, true) (j, e, true) k (Ai9 d best)) V) : Ev (fun k => V5 k (d, ())) V := by
 have hl : d.length ≤ 1000 := by have := hD.1; omega
 obtain ⟨K1, h1⟩ := Cy3 d hD
 obtain ⟨K2, h2⟩ := B78 (n := best) hb
 obtain ⟨K3, h3⟩ := (B76 d (H6 best) hl).2
 obtain ⟨K4, h4⟩ := hr
 obtain ⟨K5, h5⟩ := hV
 rw [hf] at h3
 have main : ∀ (m i : Nat) (v : Int), i + m = d.length → Ea6 (d.drop i) v = (best : Int) → ∀ k, K1 + K2 + K3 + K4 + K5 ≤ k → ∀ n, m + d.length + 2 < n → Q8 k n v (d, ()) (i : Int) = some V := by
  intro m
  induction m with
  | zero =>
   intro i v hm hv k hk n hn
   obtain ⟨n, rfl⟩ : ∃ q, n = q + 1 := ⟨n - 1, by omega⟩
   have d1 : decide ((i : Int) < (d.length : Int)) = false := decide_eq_false (by omega)
   rw [List.drop_eq_nil_of_le (by omega)] at hv
   have hv : v = (best : Int) := hv
   subst hv
   have q1 : A66 k (d, ()) = some true := h1 k (by omega)
   have q2 : S6 k (best : Int) = some (H6 best) := h2 k (by omega)
   have q3 : A65 k (d, ()) (H6 best) = some (T, true) := h3 k (by omega)
   have q4 : S5 k (best : Int) T = some (j, e, true) := h4 k (by omega)
   have q5 : Fe7 best (T, true) (j, e, true) k (Ai9 d best) = some V := h5 k (by omega)
   have q6 := Ea7 d hN hl hb (T, true) (j, e, true) d.length 0 [] (Nat.zero_add _) (Nat.le_refl _) k n (by omega)
   rw [List.drop_zero, List.nil_append, q5] at q6
   have d2 : decide ((best : Int) < 0) = false := decide_eq_false (by omega)
   simp only [Q8, Ae0, d1, br_false, q1, bd_some, Bool.not_true, d2, q2, q3, q4]
   exact q6
  | succ m ih =>
   intro i v hm hv k hk n hn
   obtain ⟨n, rfl⟩ : ∃ q, n = q + 1 := ⟨n - 1, by omega⟩
   have hi : i < d.length := by omega
   have d1 : decide ((i : Int) < (d.length : Int)) = true := decide_eq_true (by omega)
   have d2 : decide (0 ≤ (i : Int)) = true := decide_eq_true (Int.natCast_nonneg _)
   have ei : B0 ((i : Int) + 1) = ((i + 1 : Nat) : Int) := by rw [C6 (by omega) (by omega)]; rfl
   have hq := D37 hN hi k
   rw [Fz6 hi] at hv
   have g := ih (i + 1) _ (by omega) hv k hk n (by omega)
   simp only [Q8, Ae0, d1, d2, br_true, gd_true, Int.toNat_natCast, hq, bd_some, ei]
   exact g
 refine ⟨K1 + K2 + K3 + K4 + K5 + d.length + d.length + 3, fun k hk => ?_⟩
 exact main d.length 0 (-1) (Nat.zero_add _) hmax k (by omega) k (by omega)
theorem D38 {n : Nat} (hn : n ≤ 9) {T : ByteArray} {z : Int} : Di5 [(H6 n, T, z, ())] := fun i hi => by
 have h0 : i = 0 := by simp at hi; exact hi
 subst h0
 exact .inr ⟨n, hn, rfl⟩
theorem Eq6 {d : List C2} {j : A0} {n : Nat} {T : ByteArray} (hG : OneJ d j n T) (hn : n ≤ 9) : Ev (fun k => V5 k (d, ())) (j, [], true) := by
 obtain ⟨g1, g2, g3, g4, g5⟩ := hG
 subst g2
 refine Db4 (best := n) (T := T) (j := j) (e := (T.size : Int)) (D38 hn) (W9 (by omega) ⟨by omega, by omega⟩) ?_ hn (Ck4 _ _ _) (Bi7 g3 hn g5).2 ?_
 ·unfold Ea6
  simp only [List.foldl_cons, List.foldl_nil, Bp0 hn]
  rw [if_pos (by omega)]
 ·refine .of fun k => ?_
  have hdr : Ai9 [(H6 n, T, (T.size : Int), ())] n = [] := by simp [Ai9]
  rw [hdr]
  unfold Fe7
  rw [beq_self_eq_true]
  rfl
theorem Go9 (a : List Int) (k : Nat) : Eo0 k a = some (decide ((a.length : Int) > 1048576)) := rfl
end Go.Vm
end
section
set_option linter.unusedVariables false
set_option linter.unusedSimpArgs false
namespace Go.Vm
open Go
theorem Bz7 {a b : ByteArray} (h : D5 a = D5 b) : a = b := by rw [← Q2 a, h, Q2]
theorem Eq7 {a b : ByteArray} {q : Nat} (h : a.size ≤ q) : (a ++ b).extract 0 q = a ++ b.extract 0 (q - a.size) := by
 apply Bz7
 rw [o8, N4, N4, o8, List.take_append, E4, List.take_of_length_le (by rw [E4]; exact h)]
theorem Fz7 {a b : ByteArray} {q : Nat} (h : q ≤ a.size) : (a ++ b).extract 0 q = a.extract 0 q := by
 apply Bz7
 rw [o8, N4, o8, List.take_append, E4, Nat.sub_eq_zero_of_le h, List.take_zero, List.append_nil]
theorem Db5 (a : ByteArray) : a.extract 0 a.size = a := by
 apply Bz7
 rw [o8, List.take_of_length_le (by rw [E4]; exact Nat.le_refl _)]
theorem Cy6 : ∀ (rs : List ByteArray) (q : Nat), (∀ t ∈ rs, Bs5 t) → q ≤ (B3 rs).size → ∃ p x, Fd5 x ∧ (B3 rs).extract 0 q = B3 (rs.take p) ++ x
 | [], q, _, _ => ⟨0, ⟨#[]⟩, Ep4, by apply Bz7; simp [o8, B3, D5]⟩
 | t :: r, q, hr, hq => by
  by_cases h : q < (G4 t).size
  ·refine ⟨0, (G4 t).extract 0 q, ⟨t, hr t List.mem_cons_self, q, h, rfl⟩, ?_⟩
   rw [List.take_zero, B3, B3, Bz2, Fz7 (by omega)]
  ·rw [B3, C8] at hq
   obtain ⟨p, x, h1, h2⟩ := Cy6 r (q - (G4 t).size) (fun u hu => hr u (List.mem_cons_of_mem _ hu)) (by omega)
   refine ⟨p + 1, x, h1, ?_⟩
   rw [List.take_succ_cons, B3, B3, Eq7 (by omega), h2, ByteArray.append_assoc]
def Ca6 (d e : List C2) : Prop := e.length = d.length ∧ ∀ i, i < d.length → ∃ n : Nat, (rd A3 d i).2.2.1 ≤ n ∧ n ≤ (rd A3 d i).2.1.size ∧ rd A3 e i = ((rd A3 d i).1, (rd A3 d i).2.1.extract 0 n, (n : Int), ())
theorem Di6 {nm T : ByteArray} {z : Nat} {e : List C2} (h : Ca6 [D3 nm T z] e) : ∃ n, z ≤ n ∧ n ≤ T.size ∧ e = [D3 nm (T.extract 0 n) n] := by
 obtain ⟨h1, h2⟩ := h
 obtain ⟨n, a, b, c⟩ := h2 0 (by simp)
 match e, h1 with
 | [f], _ =>
  have c : f = D3 nm (T.extract 0 n) n := c
  exact ⟨n, by have : (z : Int) ≤ n := a; omega, b, by rw [c]⟩
theorem Eq8 {nm T nm' T' : ByteArray} {z z' : Nat} {e : List C2} (h : Ca6 [D3 nm T z, D3 nm' T' z'] e) : ∃ n n', (z ≤ n ∧ n ≤ T.size) ∧ (z' ≤ n' ∧ n' ≤ T'.size) ∧ e = [D3 nm (T.extract 0 n) n, D3 nm' (T'.extract 0 n') n'] := by
 obtain ⟨h1, h2⟩ := h
 obtain ⟨n, a, b, c⟩ := h2 0 (by simp)
 obtain ⟨n', a', b', c'⟩ := h2 1 (by simp)
 match e, h1 with
 | [f, g], _ =>
  have c : f = D3 nm (T.extract 0 n) n := c
  have c' : g = D3 nm' (T'.extract 0 n') n' := c'
  exact ⟨n, n', ⟨by have : (z : Int) ≤ n := a; omega, b⟩, ⟨by have : (z' : Int) ≤ n' := a'; omega, b'⟩, by rw [c, c']⟩
def Ca7 (old now j : A0) : Prop := ((j.2.1 = old.2.1 ∧ j.2.2.1 = old.2.2.1) ∨ (j.2.1 = now.2.1 ∧ j.2.2.1 = now.2.2.1)) ∧ (j.2.2.2.1 = old.2.2.2.1 ∨ ∃ m, j.2.2.2.1 = (now.2.2.2.1.1, now.2.2.2.1.2.1, now.2.2.2.1.2.2.1.take m, ()))
theorem D39 {old now : A0} : Ca7 old now old := ⟨.inl ⟨rfl, rfl⟩, .inl rfl⟩
theorem D40 {old now j : A0} (h : j.2 = now.2) : Ca7 old now j := ⟨.inr ⟨by rw [h], by rw [h]⟩, .inr ⟨now.2.2.2.1.2.2.1.length, by rw [h, List.take_length]⟩⟩
def Ck5 (P : A0 → Prop) (d : List C2) : Prop := d.length ≤ 2 ∧ ∃ j more e n T, Ev (fun k => V5 k (d, ())) (j, more, true) ∧ more.length ≤ 4 ∧ Done d more e ∧ OneJ e j n T ∧ n ≤ 9 ∧ P j
theorem OneJ.open {d : List C2} {j : A0} {n : Nat} {T : ByteArray} (hG : OneJ d j n T) (hn : n ≤ 9) {P : A0 → Prop} (hP : P j) : Ck5 P d :=
 ⟨by rw [hG.disk]; simp, j, [], d, n, T, Eq6 hG hn, Nat.zero_le _, .nil, hG, hn, hP⟩
theorem Gp0 {n : Nat} (hn : n ≤ 9) {T : ByteArray} {z : Int} : Ea6 [(H6 n, T, z, ())] (-1) = (n : Int) := by
 unfold Ea6
 simp only [List.foldl_cons, List.foldl_nil, Bp0 hn]
 rw [if_pos (by omega)]
theorem Fz8 {n : Nat} (hn : n + 1 ≤ 9) {s t : Int} {rs : List JRec} {x : ByteArray} {j : A0} (hc : JChain (Ak5 (n : Int) s t) rs) (hj : p8 (Ak5 (n : Int) s t) rs = j) (h0 : LogP (s, t, [], ())) (hx : Fd5 x) (hok : jOk j = true) (hnum : j.1 = (n : Int))
  (hs : (Ab8 s t rs ++ x).size ≤ 20000) (hs2 : (Ab8 s t rs).size ≤ 10000) {P : A0 → Prop} (hP : ∀ j', j'.2 = j.2 → P j') : Ck5 P [D3 (H6 n) (Ab8 s t rs ++ x) (Ab8 s t rs ++ x).size] := by
 have hrd := (Fu3 (n : Int) s t rs x ⟨by omega, by omega⟩ h0 hc hx hs).2
 rw [hj] at hrd
 by_cases hx0 : x.size = 0
 ·have hx1 : x = ⟨#[]⟩ := by
   apply Bz7
   exact List.eq_nil_of_length_eq_zero (by rw [E4]; exact hx0)
  subst hx1
  rw [Dg3]
  exact OneJ.open (n := n) (T := Ab8 s t rs) ⟨hnum, rfl, ⟨s, t, rs, rfl, hc, hj, h0⟩, hok, hs2⟩ (by omega) (hP j rfl)
 ·obtain ⟨F, hF⟩ : ∃ F, F = Ab8 s t rs ++ x := ⟨_, rfl⟩
  have hsz : F.size = (Ab8 s t rs).size + x.size := by rw [hF, C8]
  rw [← hF] at hrd hs ⊢
  have ok1 : jOk (((n + 1 : Nat) : Int), j.2) = true := Ea4 hok hn
  obtain ⟨a1, a2, a3, a4⟩ := B81 hn (T := F) (X := p9 (((n + 1 : Nat) : Int), j.2)) (z := F.size) hs (Nat.le_refl _) (by have := (Bi8 (n := n + 1) ok1 rfl).2; omega)
  refine ⟨by simp, (((n + 1 : Nat) : Int), j.2), Ck3 n (p9 (((n + 1 : Nat) : Int), j.2)), _, n + 1, _, ?_, Nat.le_refl 4, .cons a1 (.cons a2 (.cons a3 (.cons a4 .nil))), B79 ok1 rfl, hn, hP _ rfl⟩
  refine Db4 (best := n) (T := F) (j := j) (e := ((Ab8 s t rs).size : Int)) (D38 (by omega)) (W9 hs ⟨by omega, by omega⟩) (Gp0 (by omega)) (by omega) (Ck4 _ _ _) hrd ?_
  have hdr : Ai9 [D3 (H6 n) F F.size] n = [] := by simp [Ai9]
  rw [hdr]
  unfold Fe7
  refine Re.eq (Re.br (fun h => ?_) (fun _ => ?_))
  ·have : ((Ab8 s t rs).size : Int) = (F.size : Int) := by simpa using h
   omega
  ·exact Re.c1 (D32 (a1 := j) hn ok1) (Re.br (b := false) (fun h => by cases h) (fun _ => Re.gdd (by show 0 + 4 ≤ A2; decide) (Re.ret rfl)))
theorem Eq9 {nm x T X : ByteArray} {z y : Int} (h : x ≠ nm) : Bd4 [(x, X, y, ()), (nm, T, z, ())] nm = (T, true) := by
 unfold Bd4 atF atF
 rw [decide_eq_false (show ¬ ((x, X, y, ()) : C2).1 = nm from h), decide_eq_true (show ((nm, T, z, ()) : C2).1 = nm from rfl)]
 rfl
theorem D41 {f g : C2} (hf : f.1 = newN ∨ ∃ n, n ≤ 9 ∧ f.1 = H6 n) (hg : g.1 = newN ∨ ∃ n, n ≤ 9 ∧ g.1 = H6 n) : Di5 [f, g] := fun i hi => by
 match i, hi with
 | 0, _ => exact hf
 | 1, _ => exact hg
theorem Fe8 {n : Nat} {old : A0} {T X : ByteArray} {y : Nat} (hG : OneJ [D3 (H6 n) T T.size] old n T) (hn : n ≤ 9) (hX : X.size ≤ 20000) (hy : y ≤ X.size) {P : A0 → Prop} (hP : P old) : Ck5 P [D3 newN X y, D3 (H6 n) T T.size] := by
 obtain ⟨g1, g2, g3, g4, g5⟩ := hG
 have h := Az4 (n := n) hn
 have d2 : l9 [D3 newN X y, D3 (H6 n) T T.size] := Aw2 (Az5 rfl hX hy) (Az5 (Bo9 n) (by omega) (Nat.le_refl _)) h.1
 have p := Fu6 (n := n) hn (T := T) (Y := X) (z := T.size) (x := y)
 have hat := B80 newN X (y : Int) [D3 (H6 n) T T.size]
 have act := Ep8 (d := [D3 newN X y, D3 (H6 n) T T.size]) (nm := newN) d2 ⟨by show 1 ≤ 2; omega, by show 2 ≤ 8; omega⟩ (by rw [hat]; decide) (by rw [p]; exact W9 (by omega) ⟨by omega, by omega⟩)
 rw [p] at act
 refine ⟨by simp, old, [(4, newN, ByteArray.empty, ByteArray.empty, ())], _, n, T, ?_, by simp, .cons act .nil, ⟨g1, rfl, g3, g4, g5⟩, hn, hP⟩
 refine Db4 (best := n) (T := T) (j := old) (e := (T.size : Int)) (D41 (.inl rfl) (.inr ⟨n, hn, rfl⟩)) d2 ?_ hn (Eq9 (fun e => h.2.2 e.symm)) (Bi7 g3 hn g5).2 ?_
 ·unfold Ea6
  simp only [List.foldl_cons, List.foldl_nil, Bp0 hn, Eq5]
  rw [if_pos (by split <;> omega)]
 ·refine .of fun k => ?_
  have hdr : Ai9 [D3 newN X y, D3 (H6 n) T T.size] n = [(4, newN, ByteArray.empty, ByteArray.empty, ())] := by
   have : newN ≠ H6 n := fun e => h.2.2 e.symm
   simp [Ai9, this]
  rw [hdr]
  unfold Fe7
  rw [beq_self_eq_true]
  rfl
theorem Fz9 {n : Nat} (hn : n + 1 ≤ 9) {j : A0} {T X : ByteArray} {z : Nat} (hT : T.size ≤ 20000) (hz : z ≤ T.size) (hG : OneJ [D3 (H6 (n + 1)) X X.size] j (n + 1) X) {P : A0 → Prop} (hP : P j) : Ck5 P [D3 (H6 n) T z, D3 (H6 (n + 1)) X X.size] := by
 obtain ⟨g1, g2, g3, g4, g5⟩ := hG
 have h2 := (Ce6 (m := n) (n := n + 1) (by omega) hn)
 have hne : H6 n ≠ H6 (n + 1) := h2.2.1 (by omega)
 have d3 : l9 [D3 (H6 n) T z, D3 (H6 (n + 1)) X X.size] := Aw2 (Az5 (Bo9 n) hT hz) (Az5 (Bo9 _) (by omega) (Nat.le_refl _)) (h2.1 (by omega)).1
 obtain ⟨-, -, -, a4⟩ := B81 hn (T := T) (X := X) (z := z) hT hz (by omega)
 refine ⟨by simp, j, [(4, H6 n, ByteArray.empty, ByteArray.empty, ())], _, n + 1, X, ?_, by simp, .cons a4 .nil, ⟨g1, rfl, g3, g4, g5⟩, hn, hP⟩
 refine Db4 (best := n + 1) (T := X) (j := j) (e := (X.size : Int)) (D41 (.inr ⟨n, by omega, rfl⟩) (.inr ⟨n + 1, hn, rfl⟩)) d3 ?_ hn (Eq9 hne) (Bi7 g3 hn g5).2 ?_
 ·unfold Ea6
  simp only [List.foldl_cons, List.foldl_nil, Bp0 hn, Bp0 (show n ≤ 9 by omega)]
  rw [if_pos (show ((n : Nat) : Int) > -1 by omega), if_pos (by omega)]
 ·refine .of fun k => ?_
  have hdr : Ai9 [D3 (H6 n) T z, D3 (H6 (n + 1)) X X.size] (n + 1) = [(4, H6 n, ByteArray.empty, ByteArray.empty, ())] := by
   simp [Ai9, hne]
  rw [hdr]
  unfold Fe7
  rw [beq_self_eq_true]
  rfl
theorem Done.take {d d' : List C2} {list : List F2} (h : Done d list d') : ∀ w, ∃ dw, Done d (list.take w) dw := by
 induction h with
 | nil => exact fun w => ⟨_, by rw [List.take_nil]; exact .nil⟩
 | cons a _ ih =>
  intro w
  cases w with
  | zero => exact ⟨_, .nil⟩
  | succ w => obtain ⟨dw, h⟩ := ih w; exact ⟨dw, .cons a h⟩
theorem Gb3 {d : List C2} {old now next : A0} {n : Nat} {T : ByteArray} {list : List F2} (hG : OneJ d old n T) (hn : n + 2 ≤ 9) (hw : jOk now = true) (hR : ActsR old now n T list next) (w : Nat) :
  ∃ dw, Done d (list.take w) dw ∧ dw.length ≤ 2 ∧ l9 dw ∧ ∀ e, Ca6 dw e → Ck5 (Ca7 old now) e := by
 have hG0 := hG
 obtain ⟨g1, g2, g3, g4, g5⟩ := hG
 subst g2
 have whole : ∀ {j : A0} {m : Nat} {X : ByteArray}, OneJ [D3 (H6 m) X X.size] j m X → m ≤ 9 → Ca7 old now j → ∀ e, Ca6 [D3 (H6 m) X X.size] e → Ck5 (Ca7 old now) e := fun {j m X} hJ hm hP e he => by
  obtain ⟨q, q1, q2, rfl⟩ := Di6 he
  have : q = X.size := by omega
  subst this
  rw [Db5]
  exact hJ.open hm hP
 have dn : l9 [D3 (H6 n) T T.size] := W9 (by omega) ⟨by omega, by omega⟩
 have zero : ∃ dw, Done [D3 (H6 n) T T.size] [] dw ∧ dw.length ≤ 2 ∧ l9 dw ∧ ∀ e, Ca6 dw e → Ck5 (Ca7 old now) e := ⟨_, .nil, by simp, dn, whole hG0 (by omega) D39⟩
 cases hR with
 | stay h => rw [List.take_nil]; exact zero
 | grow c hU hT =>
  have hsz := D34 (old := old) (c := c) hw hU.lb
  obtain ⟨k1, k2, k3⟩ := Cr8 g4 hw hU
  obtain ⟨d1, a1, rfl, a2⟩ := D33 (n := n) (by omega) (T := T) (more := B3 ((q7 old now c).map JRec.bytes)) (by omega)
  obtain ⟨s, t, rs, f1, f2, f3, f4⟩ := g3
  have f3' := f3
  have one : ∀ q, T.size ≤ q → q ≤ (T ++ B3 ((q7 old now c).map JRec.bytes)).size → Ck5 (Ca7 old now) [D3 (H6 n) ((T ++ B3 ((q7 old now c).map JRec.bytes)).extract 0 q) q] := fun q q1 q2 => by
   rw [C8] at q2
   obtain ⟨p, x, x1, x2⟩ := Cy6 ((q7 old now c).map JRec.bytes) (q - T.size) (fun u hu => by
    obtain ⟨r, hr, rfl⟩ := List.mem_map.1 hu
    exact JRec.rec_ok (k1.recs r hr)) (by omega)
   have hbytes : (T ++ B3 ((q7 old now c).map JRec.bytes)).extract 0 q = Ab8 s t (rs ++ (q7 old now c).take p) ++ x := by
    rw [Eq7 q1, x2, ← ByteArray.append_assoc, f1]
    unfold Ab8
    rw [List.map_append, List.map_take, ← List.cons_append, N5]
   have hq : ((T ++ B3 ((q7 old now c).map JRec.bytes)).extract 0 q).size = q := by rw [ByteArray.size_extract, C8]; omega
   have hj0 : LogP old.2.2.2.1 := (L5 g4).2.2.2
   have hch : JChain old ((q7 old now c).take p) := k1.take p
   have hp := k3 p
   obtain ⟨j1, j2⟩ := Ep5 hj0 hch
   have hjok : jOk (p8 old ((q7 old now c).take p)) = true := by
    obtain ⟨o1, o2, o3, o4⟩ := L5 g4
    obtain ⟨w1, w2, w3, w4⟩ := L5 hw
    unfold jOk
    simp only [Bool.and_eq_true]
    refine ⟨D4.2 (by rw [j2]; exact o1), D4.2 ?_, D4.2 ?_, L4.2 j1⟩
    ·rcases hp.2.1 with ⟨e, _⟩ | ⟨e, _⟩
     ·rw [e]; exact o2
     ·rw [e]; exact w2
    ·rcases hp.2.1 with ⟨_, e⟩ | ⟨_, e⟩
     ·rw [e]; exact o3
     ·rw [e]; exact w3
   have hlen : (Ab8 s t (rs ++ (q7 old now c).take p)).size ≤ q := by
    have := congrArg ByteArray.size hbytes
    rw [hq, C8] at this
    omega
   have := Fz8 (n := n) (by omega) (s := s) (t := t) (rs := rs ++ (q7 old now c).take p) (x := x) (j := p8 old ((q7 old now c).take p)) (f2.append (by rw [f3]; exact hch)) (by rw [Ck0, f3]) f4 x1 hjok (by rw [j2, g1])
    (by rw [← hbytes, hq]; omega) (by omega) (P := Ca7 old now) (fun j' e => by obtain ⟨_, p2, p3⟩ := hp; unfold Ca7; rw [e]; exact ⟨p2, p3⟩)
   rw [← hbytes, hq] at this
   exact this
  match w with
  | 0 => exact zero
  | 1 =>
   refine ⟨_, .cons a1 .nil, by simp, W9 (by rw [C8]; omega) ⟨by omega, by rw [C8]; omega⟩, fun e he => ?_⟩
   obtain ⟨q, q1, q2, rfl⟩ := Di6 he
   exact one q q1 q2
  | w + 2 =>
   refine ⟨_, .cons a1 (.cons a2 (by rw [List.take_nil]; exact .nil)), by simp, W9 (by rw [C8]; omega) ⟨by omega, by omega⟩, fun e he => ?_⟩
   obtain ⟨q, q1, q2, rfl⟩ := Di6 he
   exact one q (by rw [C8] at q1; omega) q2
 | anew =>
  have ok1 := Ea4 (n := n + 1) hw (by omega)
  obtain ⟨t1, t2⟩ := Bi8 (n := n + 1) ok1 rfl
  have hX := B79 (n := n + 1) ok1 rfl
  generalize p9 (((n + 1 : Nat) : Int), now.2) = X at t1 t2 hX
  obtain ⟨a1, a2, a3, a4⟩ := B81 (n := n) (by omega) (T := T) (X := X) (z := T.size) (by omega) (Nat.le_refl _) (by omega)
  have h := Az4 (n := n) (by omega)
  have h2 := (Ce6 (m := n) (n := n + 1) (by omega) (by omega)).1 (by omega)
  have fo : Ck2 (D3 (H6 n) T T.size) := Az5 (Bo9 n) (by omega) (Nat.le_refl _)
  have begun : ∀ z, z ≤ X.size → ∀ e, Ca6 [D3 newN X z, D3 (H6 n) T T.size] e → Ck5 (Ca7 old now) e := fun z hz e he => by
   obtain ⟨q, q', ⟨q1, q2⟩, ⟨q3, q4⟩, rfl⟩ := Eq8 he
   have : q' = T.size := by omega
   subst this
   rw [Db5]
   exact Fe8 hG0 (by omega) (by rw [ByteArray.size_extract]; omega) (by rw [ByteArray.size_extract]; omega) D39
  match w with
  | 0 => exact zero
  | 1 => exact ⟨_, .cons a1 .nil, by simp, Aw2 (Az5 rfl (by omega) (by omega)) fo h.1, begun 0 (by omega)⟩
  | 2 => exact ⟨_, .cons a1 (.cons a2 .nil), by simp, Aw2 (Az5 rfl (by omega) (Nat.le_refl _)) fo h.1, begun _ (Nat.le_refl _)⟩
  | 3 =>
   refine ⟨_, .cons a1 (.cons a2 (.cons a3 .nil)), by simp, Aw2 fo (Az5 (Bo9 _) (by omega) (Nat.le_refl _)) h2.1, fun e he => ?_⟩
   obtain ⟨q, q', ⟨q1, q2⟩, ⟨q3, q4⟩, rfl⟩ := Eq8 he
   have e1 : q' = X.size := by omega
   have e2 : q = T.size := by omega
   subst e1; subst e2
   rw [Db5, Db5]
   exact Fz9 (by omega) (by omega) (Nat.le_refl _) hX (D40 rfl)
  | w + 4 =>
   refine ⟨_, .cons a1 (.cons a2 (.cons a3 (.cons a4 (by rw [List.take_nil]; exact .nil)))), by simp, W9 (by omega) ⟨by omega, by omega⟩, ?_⟩
   exact whole hX (by omega) (D40 rfl)
end Go.Vm
end
section
set_option linter.unusedVariables false
set_option linter.unusedSimpArgs false
namespace Go.Vm
open Go
def Gb4 (d : List C2) (i : Nat) (xs : List C2) : Prop := xs.length = i ∧ ∀ j, j < i → ∃ n : Nat, (rd A3 d j).2.2.1 ≤ n ∧ n ≤ (rd A3 d j).2.1.size ∧ rd A3 xs j = ((rd A3 d j).1, (rd A3 d j).2.1.extract 0 n, (n : Int), ())
theorem Fe9 {d : List C2} {i : Nat} {xs : List C2} (h : Gb4 d i xs) {z : Int} (h0 : 0 ≤ (rd A3 d i).2.2.1) (h1 : (rd A3 d i).2.2.1 ≤ z) (h2 : z ≤ ((rd A3 d i).2.1.size : Int)) :
  Gb4 d (i + 1) (xs ++ [((rd A3 d i).1, (rd A3 d i).2.1.extract 0 z.toNat, z, ())]) := by
 obtain ⟨g1, g2⟩ := h
 refine ⟨by simp [g1], fun j hj => ?_⟩
 by_cases e : j < i
 ·obtain ⟨n, a, b, c⟩ := g2 j e
  refine ⟨n, a, b, ?_⟩
  rw [← c]
  simp [rd, List.getElem?_append, g1, e]
 ·have : j = i := by omega
  subst this
  refine ⟨z.toNat, by omega, by omega, ?_⟩
  have hz : ((z.toNat : Nat) : Int) = z := Int.toNat_of_nonneg (by omega)
  rw [hz]
  simp [rd, ← g1]
theorem Gp1 (d : List C2) (hd : l9 d) (left : List Int) : Re (fun k => A67 k (d, ()) left) (fun r => r.2 = true ∧ Ca6 d r.1.1) := by
 have hl := hd.1
 refine Re.c1 (T1 d hd) (Re.br (b := false) (fun h => by cases h) (fun _ => ?_))
 refine Re.enter (f := fun k n => V6 k n left 0 (d, ()) []) J1 ?_
 have := Re.loop (ι := Nat) (l := fun k n (s : Nat × List C2) => V6 k n left (s.1 : Int) (d, ()) s.2) (I := fun s => s.1 ≤ d.length ∧ Gb4 d s.1 s.2) (fun s => d.length - s.1) (Q := fun _ r => r.2 = true ∧ Ca6 d r.1.1) (fun s hi ih => by
  obtain ⟨i, xs⟩ := s
  obtain ⟨i1, i2⟩ := hi
  simp only at i1 i2 ih ⊢
  simp only [V6, Bd1, Int.toNat_natCast]
  have ei : B0 ((i : Int) + 1) = ((i + 1 : Nat) : Int) := by rw [C6 (by omega) (by omega)]; rfl
  refine Re.brd (fun q => ?_) (fun q => ?_)
  ·have hi : i < d.length := by omega
   obtain ⟨⟨-, t1, k1, k2⟩, -⟩ := hd.2 i hi
   rw [ei]
   have fin : ∀ (z : Int) (t : ByteArray), t = (rd A3 d i).2.1.extract 0 z.toNat → (rd A3 d i).2.2.1 ≤ z → z ≤ ((rd A3 d i).2.1.size : Int) → ∀ (f : C2), f = ((rd A3 d i).1, t, z, ()) →
     Re (fun x : Nat × Nat => gd (decide (xs.length + ([f] : List C2).length ≤ A2)) (V6 x.1 x.2 left ((i + 1 : Nat) : Int) (d, ()) (xs ++ [f]))) (fun r => r.2 = true ∧ Ca6 d r.1.1) := fun z t ht h1 h2 f hf => by
    subst hf; subst ht
    refine Re.gdd (by have := i2.1; simp; unfold A2; omega) (ih (i + 1, _) ⟨by simp only; omega, Fe9 i2 k1 h1 h2⟩ (by simp only; omega))
   have g0 : (0 : Int) ≤ (i : Int) := Int.natCast_nonneg _
   refine Re.gdd g0 (Re.gdd q ?_)
   refine Re.brd (fun q2 => Re.gdd g0 (Re.gdd q2 ?_)) (fun q2 => ?_)
   ·refine Re.brd (fun q3 => ?_) (fun q3 => ?_)
    ·refine Re.brd (fun q4 => absurd q4 (by omega)) (fun q4 => Re.gdd (Int.natCast_nonneg _) (Re.gdd (Int.le_refl _) (fin _ _ (by rw [Int.toNat_natCast]) k2 (Int.le_refl _) _ rfl)))
    ·refine Re.brd (fun q4 => Re.gdd k1 (Re.gdd k2 (fin _ _ rfl (Int.le_refl _) k2 _ rfl))) (fun q4 => Re.gdd (by omega) (Re.gdd (by omega) (fin _ _ rfl (by omega) (by omega) _ rfl)))
   ·refine Re.brd (fun q3 => absurd q3 (by omega)) (fun q3 => ?_)
    refine Re.brd (fun q4 => Re.gdd k1 (Re.gdd k2 (fin _ _ rfl (Int.le_refl _) k2 _ rfl))) (fun q4 => Re.gdd (by omega) (fin 0 _ rfl (by omega) (by omega) _ rfl))
  ·have : i = d.length := by omega
   subst this
   exact Re.ret ⟨rfl, i2⟩) (0, []) ⟨Nat.zero_le _, rfl, fun j hj => by omega⟩
 exact this
theorem Ff0 {d dw : List C2} {list : List F2} {w : Nat} (hw : w ≤ list.length) (hl : list.length ≤ 1000) (hdl : d.length ≤ 1000000) (h : Done d (list.take w) dw) (hd : l9 dw) (left : List Int) :
  Re (fun k => Bi1 k (d, ()) list (w : Int) left) (fun r => r.2 = true ∧ Ca6 dw r.1.1) := by
 have hlen : (list.take w).length = w := by rw [List.length_take]; omega
 refine Re.s1 (H9 · _ _ _) ?_
 rw [D4.2 ⟨by omega, by omega⟩]
 refine Re.br (b := false) (fun h => by cases h) (fun _ => Re.gdd (Int.natCast_nonneg _) (Re.gdd (by omega) ?_))
 have ev := Db3 (by rw [hlen]; omega) hdl h
 refine Re.c1 (v := ((dw, ()), (w : Int))) (ev.congr_val (fun k => by rw [Int.toNat_natCast]) (by rw [hlen])) ?_
 refine Re.brd (fun q => absurd q (Int.lt_irrefl _)) (fun _ => ?_)
 refine Re.b1 (Gp1 dw hd left) fun r hr => Re.ret hr
theorem Gb5 (p : List Int) (hp : 6 ≤ p.length) : Re (fun k => Ci8 k p) (fun _ => True) := by
 refine Re.enter (f := fun k n => Ai4 k n p 0 []) J1 ?_
 have := Re.loop (ι := Nat) (l := fun k n (s : Nat × List Int) => Ai4 k n p (s.1 : Int) s.2) (I := fun s => s.1 ≤ 6 ∧ s.2.length = s.1) (fun s => 6 - s.1) (Q := fun _ _ => True) (fun s hi ih => by
  obtain ⟨i, xs⟩ := s
  obtain ⟨i1, i2⟩ := hi
  simp only at i1 i2 ih ⊢
  simp only [Ai4, Cd5]
  have ei : B0 ((i : Int) + 1) = ((i + 1 : Nat) : Int) := by rw [C6 (by omega) (by omega)]; rfl
  rw [ei]
  refine Re.brd (fun q => Re.gdd (Int.natCast_nonneg _) (Re.gdd (by omega) (Re.ng (by simp) (Re.gdd (by simp [i2]; unfold A2; omega) (ih (i + 1, _) ⟨by simp only; omega, by simp [i2]⟩ (by simp only; omega)))))) (fun _ => Re.ret trivial)) (0, []) ⟨Nat.zero_le _, rfl⟩
 exact this
theorem Db6 (l : B7) (h : LogP l) (k : Nat) : Bd2 k l = some (l.1 + l.2.2.1.length) := by
 unfold Bd2
 rw [C6 (by have := h.1.1; have := h.2.2.1; omega) (by have := h.1.2; have := h.2.2.1; omega)]
theorem F00 (x a b : B7) (hx : LogP x) (ha : LogP a) (hb : LogP b) (h : x = a ∨ ∃ m, x = (b.1, b.2.1, b.2.2.1.take m, ())) : Ev (fun k => A68 k x a b) true := by
 have ex : ∀ i, i < x.2.2.1.length → B0 (B0 (x.1 + 1) + (i : Int)) = x.1 + 1 + i := fun i hi => by
  have := hx.1.1; have := hx.1.2; have := hx.2.2.1
  rw [C6 (n := x.1 + 1) (by omega) (by omega), C6 (by omega) (by omega)]
 have es : ∀ (l : B7) (_ : LogP l) (i : Nat), i < x.2.2.1.length → B0 (B0 (x.1 + 1 + (i : Int) - l.1) - 1) = x.1 + i - l.1 := fun l hl i hi => by
  have := hx.1.1; have := hx.1.2; have := hx.2.2.1; have := hl.1.1; have := hl.1.2
  rw [C6 (n := x.1 + 1 + (i : Int) - l.1) (by omega) (by omega), C6 (by omega) (by omega)]
  omega
 have key : ∀ i, i < x.2.2.1.length → (x.1 = a.1 ∧ i < a.2.2.1.length ∧ rd A8 a.2.2.1 i = rd A8 x.2.2.1 i) ∨ (x.1 = b.1 ∧ i < b.2.2.1.length ∧ rd A8 b.2.2.1 i = rd A8 x.2.2.1 i) := fun i hi => by
  rcases h with rfl | ⟨m, rfl⟩
  ·exact .inl ⟨rfl, hi, rfl⟩
  ·simp only [List.length_take] at hi
   refine .inr ⟨rfl, by omega, ?_⟩
   have hlt : i < m := by omega
   simp [rd, List.getElem?_take, hlt]
 have hlen := hx.2.2.1
 refine Re.eq (Re.enter (f := fun k n => V7 k n 0 x a b) J1 ?_)
 have := Re.loop (ι := Nat) (l := fun k n (i : Nat) => V7 k n (i : Int) x a b) (I := fun i => i ≤ x.2.2.1.length) (fun i => x.2.2.1.length - i) (Q := fun _ r => r = true) (fun i hi ih => by
  simp only [V7, By5, Ak4]
  have ei : B0 ((i : Int) + 1) = ((i + 1 : Nat) : Int) := by rw [C6 (by omega) (by omega)]; rfl
  refine Re.brd (fun q => ?_) (fun _ => Re.ret rfl)
  have hi2 : i < x.2.2.1.length := by omega
  have next := ih (i + 1) (by omega) (by omega)
  have key := key i hi2
  have ta : x.1 = a.1 → (x.1 + (i : Int) - a.1).toNat = i := fun e => by omega
  have tb : x.1 = b.1 → (x.1 + (i : Int) - b.1).toNat = i := fun e => by omega
  rw [ei, ex i hi2]
  simp only [es a ha i hi2, es b hb i hi2]
  have g0 : (0 : Int) ≤ (i : Int) := Int.natCast_nonneg _
  have snd : ∀ {F : Nat × Nat → Option Bool}, ¬ (x.1 = a.1 ∧ i < a.2.2.1.length ∧ rd A8 a.2.2.1 i = rd A8 x.2.2.1 i) → Re (fun y : Nat × Nat => br (!eqd (rd A8 b.2.2.1 (x.1 + (i : Int) - b.1).toNat) (rd A8 x.2.2.1 i)) (F y) (V7 y.1 y.2 ((i + 1 : Nat) : Int) x a b)) (fun r => r = true) := fun {F} hna => by
   rcases key with h | ⟨e, h1, h2⟩
   ·exact absurd h hna
   ·rw [tb e, An0 h2]
    exact Re.br (b := false) (fun h => by cases h) (fun _ => next)
  have whole : ∀ {G : Nat × Nat → Option Bool}, ¬ (x.1 = a.1 ∧ i < a.2.2.1.length ∧ rd A8 a.2.2.1 i = rd A8 x.2.2.1 i) → Re (fun y : Nat × Nat => br (decide (x.1 + 1 + (i : Int) > b.1)) (bd (Bd2 y.1 b) fun r2 => (br (decide (x.1 + 1 + (i : Int) ≤ r2)) (gd (decide (0 ≤ x.1 + (i : Int) - b.1)) (gd (decide (x.1 + (i : Int) - b.1 < (b.2.2.1.length : Int))) (gd (decide (0 ≤ (i : Int))) (gd (decide ((i : Int) < (x.2.2.1.length : Int))) (br (!eqd (rd A8 b.2.2.1 (x.1 + (i : Int) - b.1).toNat) (rd A8 x.2.2.1 (i : Int).toNat)) (some false) (V7 y.1 y.2 ((i + 1 : Nat) : Int) x a b)))))) (some false))) (G y)) (fun r => r = true) := fun {G} hna => by
   rcases key with h | ⟨e, h1, h2⟩
   ·exact absurd h hna
   ·refine Re.brd (fun _ => Re.s2 (Db6 b hb ·) (Re.brd (fun _ => Re.gdd (by omega) (Re.gdd (by omega) (Re.gdd g0 (Re.gdd q ?_)))) (fun h => absurd h (by omega)))) (fun h => absurd h (by omega))
    rw [Int.toNat_natCast]
    exact snd hna
  have eqA : ∀ {F : Nat × Nat → Option Bool}, (rd A8 a.2.2.1 (x.1 + (i : Int) - a.1).toNat = rd A8 x.2.2.1 i) → Re (fun y : Nat × Nat => br (!eqd (rd A8 a.2.2.1 (x.1 + (i : Int) - a.1).toNat) (rd A8 x.2.2.1 i)) (F y) (V7 y.1 y.2 ((i + 1 : Nat) : Int) x a b)) (fun r => r = true) := fun {F} h => by
   rw [An0 h]
   exact Re.br (b := false) (fun h => by cases h) (fun _ => next)
  refine Re.brd (fun q1 => Re.s2 (Db6 a ha ·) (Re.brd (fun q2 => ?_) (fun q2 => ?_))) (fun q1 => ?_)
  ·refine Re.gdd (by omega) (Re.gdd (by omega) (Re.gdd g0 (Re.gdd q ?_)))
   rw [Int.toNat_natCast]
   by_cases hE : rd A8 a.2.2.1 (x.1 + (i : Int) - a.1).toNat = rd A8 x.2.2.1 i
   ·refine Re.brd (fun q3 => Re.s2 (Db6 b hb ·) (Re.brd (fun q4 => ?_) (fun _ => eqA hE))) (fun _ => eqA hE)
    rw [An0 hE]
    exact Re.br (b := true) (fun _ => next) (fun h => by cases h)
   ·have hna : ¬ (x.1 = a.1 ∧ i < a.2.2.1.length ∧ rd A8 a.2.2.1 i = rd A8 x.2.2.1 i) := fun ⟨e, _, e2⟩ => hE (by rw [ta e]; exact e2)
    rw [Z7 hE]
    rcases key with h | ⟨e, h1, h2⟩
    ·exact absurd h hna
    ·refine Re.brd (fun q3 => Re.s2 (Db6 b hb ·) (Re.brd (fun q4 => ?_) (fun h => absurd h (by omega)))) (fun h => absurd h (by omega))
     refine Re.br (b := false) (fun h => by cases h) (fun _ => Re.gdd (by omega) (Re.gdd (by omega) (Re.gdd g0 (Re.gdd q ?_))))
     exact snd hna
  ·exact whole fun ⟨e, h1, _⟩ => q2 (by omega)
  ·exact whole fun ⟨e, h1, _⟩ => q1 (by omega)) 0 (Nat.zero_le _)
 exact this
theorem Cs0 (a : List Int) : Ev (fun k => Y0 k a) true := by
 refine Re.eq (Re.s1 (Go9 a) (Re.brd (fun _ => Re.ret rfl) (fun hl => ?_)))
 refine Re.b1 (Gb2 a (by omega)) fun r2 h2 => ?_
 obtain ⟨n, T, hG, hn, hw, hnum⟩ := h2
 have g4 := hG.ok
 obtain ⟨o1, o2, o3, o4⟩ := L5 g4
 obtain ⟨w1, w2, w3, w4⟩ := L5 hw
 refine Re.b1 (Fz5 hG (by omega) hw hnum) fun r3 h3 => Re.b1 (Cr9 hG (by omega) hw hnum) fun r4 h4 => ?_
 obtain ⟨i1, i2⟩ := h3
 obtain ⟨s1, s2⟩ := h4
 rw [i1, s1]
 refine Re.br (b := false) (fun h => by cases h) (fun _ => Re.br (b := false) (fun h => by cases h) (fun _ => ?_))
 have hl4 := Di4 i2
 have hdl : r2.1.1.length ≤ 1000000 := by rw [hG.disk]; simp
 refine Re.b1 (Dp6 a (by omega)) fun r5 h5 => ?_
 obtain ⟨p1, p2⟩ := h5
 have hp11 : 0 ≤ rd 0 r5 11 ∧ rd 0 r5 11 < 10000 := p2 _ (by rw [Aa6 (show 11 < r5.length by omega)]; exact List.getElem_mem _)
 have em : B0 ((r3.1.length : Int) + 1) = ((r3.1.length + 1 : Nat) : Int) := by rw [C6 (by omega) (by omega)]; rfl
 rw [em]
 obtain ⟨w, hwm⟩ : ∃ w : Nat, Int.tmod (rd 0 r5 11) ((r3.1.length + 1 : Nat) : Int) = (w : Int) := ⟨(Int.tmod (rd 0 r5 11) ((r3.1.length + 1 : Nat) : Int)).toNat, (Int.toNat_of_nonneg (Int.tmod_nonneg _ hp11.1)).symm⟩
 have hwl : w ≤ r3.1.length := by
  have := Int.tmod_lt_of_pos (rd 0 r5 11) (show (0 : Int) < ((r3.1.length + 1 : Nat) : Int) by omega)
  omega
 rw [hwm]
 refine Re.gdd (by omega) (Re.ng (by rw [show ((((r3.1.length + 1 : Nat) : Int)) == 0) = false by simp; omega]; simp) ?_)
 refine Re.b1 (Gb5 r5 (by omega)) fun r6 _ => ?_
 obtain ⟨dw, c1, c2, c3, c4⟩ := Gb3 hG (by omega) hw i2 w
 refine Re.b1 (Ff0 hwl (by omega) hdl c1 c3 r6) fun r7 h7 => ?_
 obtain ⟨m1, m2⟩ := h7
 obtain ⟨cl, j, more, e, n', T', k1, k2, k3, k4, k5, k6⟩ := c4 r7.1.1 m2
 have hjP := (L5 k4.ok).2.2.2
 have hj60 := hjP.2.2.1
 refine Re.c1 (v := (j, more, true)) k1 (Re.c1 (v := ((e, ()), (more.length : Int))) (Db3 (by show more.length ≤ 1000000; omega) (by show r7.1.1.length ≤ 1000000; omega) k3) (Re.c1 (v := (j, [], true)) (Eq6 k4 k5) ?_))
 rw [m1]
 refine Re.br (b := false) (fun h => by cases h) (fun _ => Re.br (b := false) (fun h => by cases h) (fun _ => Re.br (b := false) (fun h => by cases h) (fun _ => ?_)))
 refine Re.brn (fun h => absurd rfl h) (fun _ => Re.brn (fun h => absurd rfl h) (fun _ => ?_))
 refine Re.c1 (Eq0 _ _ (by show j.2.2.2.1.2.2.1.length ≤ 1000000; omega)) ?_
 rw [An0 rfl]
 refine Re.br (b := false) (fun h => by cases h) (fun _ => Re.brn (fun h => absurd rfl h) (fun _ => Re.brn (fun h => absurd rfl h) (fun _ => ?_)))
 obtain ⟨q1, q2⟩ := k6
 have hstart : j.2.2.2.1.1 = r2.2.1.2.2.2.1.1 ∨ j.2.2.2.1.1 = r2.2.2.2.2.2.1.1 := by
  rcases q2 with e | ⟨m, e⟩
  ·exact .inl (by rw [e])
  ·exact .inr (by rw [e])
 have tail : Re (fun k => bd (A68 k j.2.2.2.1 r2.2.1.2.2.2.1 r2.2.2.2.2.2.1) fun r12 => (br (!r12) (some false) (br (j.2.1 == r2.2.1.2.1) (br (j.2.2.1 == r2.2.1.2.2.1) (some true) (br (j.2.1 == r2.2.2.2.1) (some (j.2.2.1 == r2.2.2.2.2.1)) (some false))) (br (j.2.1 == r2.2.2.2.1) (some (j.2.2.1 == r2.2.2.2.2.1)) (some false))))) (fun r => r = true) := by
  refine Re.c1 (F00 _ _ _ hjP o4 w4 q2) (Re.br (b := false) (fun h => by cases h) (fun _ => ?_))
  have nowC : (j.2.1 = r2.2.2.2.1 ∧ j.2.2.1 = r2.2.2.2.2.1) → Re (fun _ : Nat => br (j.2.1 == r2.2.2.2.1) (some (j.2.2.1 == r2.2.2.2.2.1)) (some false)) (fun r => r = true) := fun ⟨e1, e2⟩ =>
   Re.bre (fun _ => Re.ret (by rw [e2]; exact beq_self_eq_true _)) (fun h => absurd e1 h)
  refine Re.bre (fun f1 => Re.bre (fun f2 => Re.ret rfl) (fun f2 => ?_)) (fun f1 => ?_)
  ·exact nowC (q1.resolve_left fun h => f2 h.2)
  ·exact nowC (q1.resolve_left fun h => f1 h.1)
 refine Re.brn (fun h1 => Re.brn (fun h2 => ?_) (fun _ => tail)) (fun _ => tail)
 exact absurd (hstart.resolve_left h1) h2
end Go.Vm
end
