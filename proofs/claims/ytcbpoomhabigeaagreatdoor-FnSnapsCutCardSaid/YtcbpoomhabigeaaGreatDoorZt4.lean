/- Plain laws. -/
import Derived.Test.YtcbpoomhabigeaaGreatDoorZt3
import Derived.KernelRfl
set_option linter.all false
section
namespace Go.Vm
open Go
theorem Cd0 (es : List A0) (s : List A1) (L : List Int) : ∀ (f : Nat) (out : List Int), (Ak0 es s L f out).length ≤ out.length + f
 | 0, out => Nat.le_refl _
 | f + 1, out => by
  unfold Ak0
  split
  ·omega
  ·rename_i b hb
   have := Cd0 es s L f (out ++ [b.1])
   simp at this; omega
def Cp0 (s : List A1) (ks : List Int) : List Int := (ks.map (atS s)).filter fun x => x != 0
def Cd1 (ss : List (List A1)) (ks : List Int) : List Int := ss.flatMap fun s => Cp0 s ks
theorem C16 (s : List A1) (ks : List Int) : (Cp0 s ks).length ≤ ks.length := by
 unfold Cp0
 exact Nat.le_trans (List.length_filter_le _ _) (by simp)
theorem Cd2 (ks : List Int) : ∀ ss : List (List A1), (Cd1 ss ks).length ≤ ss.length * ks.length
 | [] => by simp [Cd1]
 | s :: ss => by
  have h1 := C16 s ks
  have h2 := Cd2 ks ss
  have e : Cd1 (s :: ss) ks = Cp0 s ks ++ Cd1 ss ks := by simp [Cd1]
  rw [e, List.length_append, List.length_cons, Nat.succ_mul]
  omega
noncomputable def Ap8 (es : List A0) (now : List A1) (x : Int) : List A1 := bif Az6 es now (H9 es x).1 && Co5 (H9 es x).1 != 0 then Fi6 now (Co5 (H9 es x).1) (H9 es x).1.1 else now
noncomputable def Cd3 (es : List A0) (ss : List (List A1)) : List A1 :=
 if ss.length = 0 then [] else if ss.length = 1 then rd [] ss 0 else (Cc8 es (S7 ss) (Cd1 ss (C95 ss))).foldl (Ap8 es) (S7 ss)
def EvS (es : List A0) : Prop := es.length ≤ 100000 ∧ (∀ y, (O0 es y).length ≤ 1048576) ∧ ∀ y, I8 (H9 es y).1 ≤ 1048576
def StsB (ss : List (List A1)) : Prop := ss.length ≤ 1048576 ∧ ∀ i, i < ss.length → (rd [] ss i).length ≤ 16
theorem StsB.s {ss : List (List A1)} (h : StsB ss) : G06 ss := ⟨by have := h.1; omega, fun i hi => by have := h.2 i hi; omega⟩
theorem Cd4 (ss : List (List A1)) : (S7 ss).length ≤ 16 := by
 unfold S7
 have := w5 ss 16
 rw [List.length_map]
 exact Nat.le_trans (List.length_filter_le _ _) this
theorem Dx4 {es : List A0} {now : List A1} (h : now.length ≤ 16) (x : Int) : (Ap8 es now x).length ≤ 16 := by
 unfold Ap8
 cases Az6 es now (H9 es x).1 && Co5 (H9 es x).1 != 0 with
 | true => exact Dg3 h (by omega)
 | false => exact h
theorem Bf5 {es : List A0} : ∀ (xs : List Int) {now : List A1}, now.length ≤ 16 → (xs.foldl (Ap8 es) now).length ≤ 16
 | [], _, h => h
 | x :: xs, _, h => by rw [List.foldl_cons]; exact Bf5 xs (Dx4 h x)
theorem C97 {es : List A0} {ss : List (List A1)} (h : StsB ss) : (Cd3 es ss).length ≤ 16 := by
 unfold Cd3
 split
 ·exact Nat.zero_le _
 ·split
  ·rename_i h1; exact h.2 0 (by omega)
  ·exact Bf5 _ (Cd4 ss)
theorem G07 {ss : List (List A1)} {i : Nat} (h : i < ss.length) (ks : List Int) : Cd1 (ss.take (i + 1)) ks = Cd1 (ss.take i) ks ++ Cp0 (rd [] ss i) ks := by
 unfold Cd1
 rw [List.take_add_one, List.getElem?_eq_getElem h, E8 h, List.flatMap_append]
 simp
theorem F81 {s : List A1} {ks : List Int} {j : Nat} (h : j < ks.length) : Cp0 s (ks.take (j + 1)) = Cp0 s (ks.take j) ++ (if atS s (rd 0 ks j) = 0 then [] else [atS s (rd 0 ks j)]) := by
 unfold Cp0
 rw [Cc7 h, List.map_append, List.filter_append]
 congr 1
 by_cases q : atS s (rd 0 ks j) = 0
 ·simp [q]
 ·simp [q]
theorem D99 (es : List A0) (hE : EvS es) (ss : List (List A1)) (hS : StsB ss) : Ev (fun k => Bt5 k es ss) (Cd3 es ss) := by
 obtain ⟨e1, e2, e3⟩ := hE
 obtain ⟨s1, s2⟩ := hS
 refine Re.eq ?_
 unfold Cd3
 refine Re.bre (fun q => Re.ret (by rw [if_pos (by omega)])) (fun q => ?_)
 rw [if_neg (by omega)]
 refine Re.bre (fun q1 => ?_) (fun q1 => ?_)
 ·rw [if_pos (by omega)]
  have := s2 0 (by omega)
  exact Re.gdd (by omega) (Re.gdd (by simp [A3]; omega) (Re.ret rfl))
 rw [if_neg (by omega)]
 have hSS : G06 ss := StsB.s ⟨s1, s2⟩
 refine Re.c1 (Dg4 ss hSS (by omega)) (Re.c1 (F78 ss hSS) ?_)
 have hkl : (C95 ss).length ≤ 16 := by
  unfold C95
  have := w5 ss 16
  exact Nat.le_trans (List.length_filter_le _ _) this
 have hal := Cd4 ss
 generalize hks : C95 ss = ks at hkl ⊢
 have hil := Cd2 ks ss
 have hmul : ss.length * ks.length ≤ 16777216 := Nat.le_trans (Nat.mul_le_mul s1 hkl) (by omega)
 have last : ∀ order : List Int, order.length ≤ 1000000 → Re (fun x : Nat × Nat => m6 x.1 x.2 es 0 (S7 ss) order) (fun v => v = order.foldl (Ap8 es) (S7 ss)) := by
  intro order ho
  have := Re.loop (ι := Nat) (l := fun k n (i : Nat) => m6 k n es (i : Int) ((order.take i).foldl (Ap8 es) (S7 ss)) order) (I := fun i => i ≤ order.length) (fun i => order.length - i) (Q := fun _ v => v = order.foldl (Ap8 es) (S7 ss)) (fun i hi ih => by
   simp only [m6, Bz5]
   refine Re.brd (fun g => ?_) (fun g => Re.ret (by rw [List.take_of_length_le (by omega)]))
   have hl : i < order.length := by omega
   have next := ih (i + 1) (by omega) (by omega)
   rw [Ax6 (Ap8 es) 0 order (S7 ss) hl] at next
   have hnow := Bf5 (es := es) (order.take i) hal
   generalize (order.take i).foldl (Ap8 es) (S7 ss) = now at next hnow ⊢
   refine Re.gdd (by omega) (Re.gdd g ?_)
   simp only [Int.toNat_natCast]
   rw [C9 hl (by omega)]
   refine Re.c2 (g8 es (by omega) _) (Re.c2 (B17 es now ⟨by omega, by omega⟩ _ (e3 _)) ?_)
   unfold Ap8 at next
   refine Re.br (fun q => ?_) (fun q => ?_)
   ·rw [q, Bool.true_and] at next
    refine Re.s2 (B18 _ ·) ?_
    refine Re.br (fun q2 => ?_) (fun q2 => ?_)
    ·rw [q2] at next
     exact Re.s2 (B18 _ ·) (Re.c2 (Fi7 now (by omega) _ _) next)
    ·rw [q2] at next; exact next
   ·rw [q, Bool.false_and] at next; exact next) 0 (Nat.zero_le _)
  exact this
 refine Re.enter (f := fun k n => m7 k n es ss 0 (S7 ss) ks []) C6 ?_
 have := Re.wf (l := fun k n (st : Nat ⊕ (Nat × Nat)) => match st with
   | .inl i => m7 k n es ss (i : Int) (S7 ss) ks (Cd1 (ss.take i) ks)
   | .inr (i, j) => Ao7 k n es ss (i : Int) (j : Int) (S7 ss) ks (Cd1 (ss.take i) ks ++ Cp0 (rd [] ss i) (ks.take j)))
  (I := fun st => match st with | .inl i => i ≤ ss.length | .inr (i, j) => i < ss.length ∧ j ≤ ks.length)
  (fun st => match st with | .inl i => (ss.length - i, 0) | .inr (i, j) => (ss.length - (i + 1), ks.length - j + 1)) (Q := fun _ v => v = (Cc8 es (S7 ss) (Cd1 ss ks)).foldl (Ap8 es) (S7 ss)) (fun st hi ih => by
  rcases st with i | ⟨i, j⟩
  ·simp only at hi ih ⊢
   simp only [Et5, A83]
   refine Re.brd (fun g => ?_) (fun g => ?_)
   ·have := ih (.inr (i, 0)) ⟨by omega, Nat.zero_le _⟩ (.inl (by simp only; omega))
    simpa [Cp0] using this
   ·rw [List.take_of_length_le (by omega)]
    refine Re.c2 (Dg4 ss hSS (by omega)) (Re.c2 (F80 es (S7 ss) ⟨by omega, by omega⟩ e1 e2 _ (by omega)) ?_)
    have ab : (Cc8 es (S7 ss) (Cd1 ss ks)).length ≤ 1000000 := by
     unfold Cc8
     have h1 := Cd0 es (S7 ss) (Bf4 es (Cd1 ss ks)) (Bf4 es (Cd1 ss ks)).length []
     have h3 := Dx3 es (Cd1 ss ks)
     simp at h1; omega
    exact last _ ab
  ·obtain ⟨g1, g2⟩ := hi
   simp only at ih ⊢
   simp only [Et6, A84]
   have hl1 := Cd2 ks (ss.take i)
   have hl2 : (ss.take i).length * ks.length ≤ 16777216 := Nat.le_trans (Nat.mul_le_mul (show (ss.take i).length ≤ 1048576 by simp; omega) hkl) (by omega)
   have hl3 := C16 (rd [] ss i) (ks.take j)
   have hl4 : (ks.take j).length ≤ 16 := by simp; omega
   refine Re.brd (fun g => ?_) (fun g => ?_)
   ·have hj : j < ks.length := by omega
    have next := ih (.inr (i, j + 1)) ⟨g1, by omega⟩ (.inr ⟨rfl, by simp only; omega⟩)
    simp only [F81 hj] at next
    refine Re.gdd (by omega) (Re.gdd (by omega) (Re.gdd (by omega) (Re.gdd g ?_)))
    simp only [Int.toNat_natCast]
    rw [C9 hj (by omega)]
    refine Re.c2 (A94 _ (by have := s2 i g1; omega) _) ?_
    refine Re.brn (fun q => ?_) (fun q => ?_)
    ·rw [if_neg q] at next
     refine Re.gdd (by simp only [List.length_append, List.length_singleton]; unfold A3; omega) ?_
     simpa using next
    ·rw [if_pos q] at next
     simpa using next
   ·have ej : ks.take j = ks := List.take_of_length_le (by omega)
    have next := ih (.inl (i + 1)) (by simp only; omega) (.inr ⟨rfl, by simp only; omega⟩)
    simp only [G07 g1] at next
    rw [ej, C9 g1 (by omega)]
    exact next) (.inl 0) (Nat.zero_le _)
 simpa [Cd1] using this
end Go.Vm
end
section
namespace Go.Vm
open Go
def Bf6 (r : A8) (p : Int) : Bool := decide (0 ≤ Bj3 r.1 p ∧ Bj3 r.1 p < r.2.1.length)
noncomputable def N5 (r : A8) (prev : List Int) : List A1 × Bool := bif prev.all (Bf6 r) then (Cd3 r.1 (prev.map fun p => rd [] r.2.1 (Bj3 r.1 p).toNat), true) else ([], false)
noncomputable def j3 (r : A8) (e : A0) : A8 × Bool :=
 bif (N5 r e.2.2.2.2.2.2.2.1).2 && (O5 e && (decide (Bj3 r.1 e.1 < 0) && (decide (e.2.2.2.2.2.2.2.2.1 = c7 r.1 e.2.2.2.2.2.2.2.1) && decide (r.1.length < 40)))) then
  ((r.1 ++ [e], r.2.1 ++ [bif Az6 r.1 (N5 r e.2.2.2.2.2.2.2.1).1 e && Co5 e != 0 then Fi6 (N5 r e.2.2.2.2.2.2.2.1).1 (Co5 e) e.1 else (N5 r e.2.2.2.2.2.2.2.1).1], r.2.2.1 ++ [Az6 r.1 (N5 r e.2.2.2.2.2.2.2.1).1 e], ()), true)
 else (([], [], [], ()), false)
inductive Built : A8 → Prop where
 | nil : Built ([], [], [], ())
 | add {r : A8} {e : A0} : Built r → e.2.2.2.2.2.2.2.1.length ≤ 1000 → (j3 r e).2 = true → Built (j3 r e).1
structure RoomI (r : A8) : Prop where
 bt : Built r
 len : r.1.length ≤ 40
 sl : r.2.1.length = r.1.length
 gl : r.2.2.1.length = r.1.length
 st : ∀ i, i < r.2.1.length → (rd [] r.2.1 i).length ≤ 16
 ev : ∀ e ∈ r.1, O5 e = true
 ids : ∀ i j, i < j → j < r.1.length → (rd D3 r.1 i).1 ≠ (rd D3 r.1 j).1
theorem Dg5 (es : List A0) (y : Int) : H9 es y = (D96, false) ∨ ∃ e ∈ es, H9 es y = (e, true) ∧ e.1 = y := by
 unfold H9
 cases hf : es.find? fun e => e.1 == y with
 | none => exact .inl rfl
 | some e => exact .inr ⟨e, List.mem_of_find?_eq_some hf, rfl, by simpa using List.find?_some hf⟩
theorem U8 {e : A0} (h : O5 e = true) : e.2.2.2.2.2.2.2.1.length ≤ 3 ∧ I8 e ≤ 1000 := by
 have hf := A15 h
 have hb := B14 hf.1
 have h4 : (I3 e).length ≤ 3 := hf.2.2.2.1
 refine ⟨h4, ?_⟩
 show (G2 e).length + ((Ac1 e).size + ((I3 e).length + 0)) ≤ 1000
 omega
theorem RoomI.evs {r : A8} (h : RoomI r) : EvS r.1 := by
 refine ⟨by have := h.len; omega, fun y => ?_, fun y => ?_⟩
 ·unfold O0
  rcases Dg5 r.1 y with e | ⟨e, he, e2, _⟩
  ·rw [e]; show 0 ≤ 1048576; omega
  ·rw [e2]; have := (U8 (h.ev e he)).1; simp only; omega
 ·rcases Dg5 r.1 y with e | ⟨e, he, e2, _⟩
  ·rw [e]; show 0 + (0 + (0 + 0)) ≤ 1048576; omega
  ·rw [e2]; have := (U8 (h.ev e he)).2; simp only; omega
theorem RoomI.prevS {r : A8} (h : RoomI r) : Hs3 r.1 := ⟨by have := h.len; omega, fun i hi => by
 have := (U8 (h.ev (rd D3 r.1 i) (by rw [E8 hi]; exact List.getElem_mem _))).1
 exact Nat.le_trans this (by omega)⟩
theorem B73 {r : A8} (h : RoomI r) {prev : List Int} (hp : prev.length ≤ 1048576) : (N5 r prev).1.length ≤ 16 := by
 unfold N5
 cases hq : prev.all (Bf6 r) with
 | false => exact Nat.zero_le _
 | true =>
  refine C97 ⟨by simp; omega, fun i hi => ?_⟩
  have hi2 : i < prev.length := by simpa using hi
  rw [E8 hi, List.getElem_map]
  have := List.all_eq_true.1 hq _ (List.getElem_mem hi2)
  unfold Bf6 at this
  have := of_decide_eq_true this
  exact h.st _ (by omega)
theorem Ap9 {r : A8} (h : RoomI r) {prev : List Int} (hp : prev.length ≤ 1000) : (N5 r prev).1.length ≤ 16 := B73 h (by omega)
theorem B74 (r : A8) (h : RoomI r) (prev : List Int) (hp : prev.length ≤ 1048576) : Ev (fun k => N8 k r prev) (N5 r prev) := by
 refine Re.eq (Re.enter (f := fun k n => V5 k n prev 0 r []) C6 ?_)
 have ab := h.len
 have := Re.loop (ι := Nat) (l := fun k n (i : Nat) => V5 k n prev (i : Int) r ((prev.take i).map fun p => rd [] r.2.1 (Bj3 r.1 p).toNat)) (I := fun i => i ≤ prev.length ∧ ∀ j, j < i → Bf6 r (rd 0 prev j) = true) (fun i => prev.length - i) (Q := fun _ v => v = N5 r prev) (fun i hi ih => by
  obtain ⟨g1, g2⟩ := hi
  simp only [V5, Be0]
  refine Re.brd (fun g => ?_) (fun g => ?_)
  ·have hl : i < prev.length := by omega
   refine Re.gdd (by omega) (Re.gdd g ?_)
   simp only [Int.toNat_natCast]
   refine Re.c2 (Cc4 r (by omega) _) ?_
   have no : ¬ (0 ≤ Bj3 r.1 (rd 0 prev i) ∧ Bj3 r.1 (rd 0 prev i) < r.2.1.length) → (([] : List A1), false) = N5 r prev := fun q => by
    unfold N5
    have : prev.all (Bf6 r) = false := by
     rw [List.all_eq_false]
     exact ⟨rd 0 prev i, by rw [E8 hl]; exact List.getElem_mem _, by unfold Bf6; simp [q]⟩
    rw [this]; rfl
   refine Re.brd (fun q => Re.ret (no fun x => by omega)) (fun q => ?_)
   refine Re.brd (fun q2 => Re.ret (no fun x => by omega)) (fun q2 => ?_)
   refine Re.gdd (by omega) (Re.gdd (by omega) (Re.gdd (by simp [A3]; omega) ?_))
   rw [C9 hl (by omega)]
   have next := ih (i + 1) ⟨by omega, fun j hj => by
    by_cases q3 : j < i
    ·exact g2 j q3
    ·have : j = i := by omega
     subst this
     exact decide_eq_true ⟨by omega, by omega⟩⟩ (by omega)
   rw [Cc7 hl, List.map_append] at next
   exact next
  ·rw [List.take_of_length_le (by omega)]
   have au : prev.all (Bf6 r) = true := by
    rw [List.all_eq_true]
    intro p hp
    obtain ⟨j, hj, rfl⟩ := List.getElem_of_mem hp
    have := g2 j (by omega)
    rwa [E8 hj] at this
   have hN : StsB (prev.map fun p => rd [] r.2.1 (Bj3 r.1 p).toNat) := ⟨by simp; omega, fun j hj => by
    have hj2 : j < prev.length := by simpa using hj
    rw [E8 hj, List.getElem_map]
    have := of_decide_eq_true (List.all_eq_true.1 au _ (List.getElem_mem hj2))
    exact h.st _ (by omega)⟩
   refine Re.c2 (D99 r.1 h.evs _ hN) (Re.ret ?_)
   unfold N5
   rw [au]; rfl) 0 ⟨Nat.zero_le _, fun j hj => by omega⟩
 simpa using this
theorem Bf7 (r : A8) (h : RoomI r) (prev : List Int) (hp : prev.length ≤ 1000) : Ev (fun k => N8 k r prev) (N5 r prev) := B74 r h prev (by omega)
theorem G08 {es : List A0} {x : Int} (h : x ∈ Ac2 es) : ∃ e ∈ es, e.1 = x := by
 have : ∀ (xs : List A0) (a : List Int), x ∈ xs.foldl (Af6 es) a → x ∈ a ∨ ∃ e ∈ xs, e.1 = x := by
  intro xs
  induction xs with
  | nil => intro a h; exact .inl h
  | cons e xs ih =>
   intro a h
   rw [List.foldl_cons] at h
   rcases ih _ h with h1 | ⟨e', h1, h2⟩
   ·unfold Af6 at h1
    cases hn : named es e.1 with
    | true => rw [hn] at h1; exact .inl h1
    | false =>
     rw [hn] at h1
     rcases Fi2.1 h1 with h2 | h2
     ·exact .inl h2
     ·exact .inr ⟨e, List.mem_cons_self .., h2.symm⟩
   ·exact .inr ⟨e', List.mem_cons_of_mem _ h1, h2⟩
 rcases this es [] h with h1 | h1
 ·simp at h1
 ·exact h1
structure NextP (r : A8) (id : Int) (e : A0) : Prop where
 eid : e.1 = id
 pl : e.2.2.2.2.2.2.2.1.length ≤ 3
 ll : e.2.2.2.2.2.1.length ≤ 6
 tl : e.2.2.2.2.2.2.1.size ≤ 5
 dp : e.2.2.2.2.2.2.2.2.1 = c7 r.1 e.2.2.2.2.2.2.2.1
 pm : ∀ p ∈ e.2.2.2.2.2.2.2.1, ∃ x ∈ r.1, x.1 = p
 first : r.1 = [] → e = (id, 1, 1, 0, 0, [], ByteArray.empty, [], 0, ())
theorem NextP.small {r : A8} {id : Int} {e : A0} (h : NextP r id e) : I8 e ≤ 1000 := by
 have h1 := h.pl; have h2 := h.ll; have h3 := h.tl
 show e.2.2.2.2.2.1.length + (e.2.2.2.2.2.2.1.size + (e.2.2.2.2.2.2.2.1.length + 0)) ≤ 1000
 omega
theorem En7 (r : A8) (h : RoomI r) (hne : r.1 ≠ []) (id : Int) (s : List A1) (hs : s.length ≤ 16) (prev : List Int) (hpl : prev.length ≤ 3) (hpm : ∀ p ∈ prev, ∃ x ∈ r.1, x.1 = p) (c : B0) (hc : CurOk c) (b : A0) (hb : b.2.2.2.2.2.1.length ≤ 6 ∧ b.2.2.2.2.2.2.1.size ≤ 5) :
  Re (fun x : Nat × Nat => X6 x.1 x.2 id 0 c.1 c.2.1 c.2.2.1 r b.2.1 b.2.2.1 b.2.2.2.1 b.2.2.2.2.1 b.2.2.2.2.2.2.1 (c7 r.1 prev) s b.2.2.2.2.2.1 prev) (fun q => NextP r id q.1 ∧ CurOk q.2.1) := by
 have ab := h.len
 have hpos : 0 < r.1.length := List.length_pos_iff.2 hne
 have := Re.loop (ι := Nat) (l := fun k n (st : Nat × B0 × A0) => X6 k n id (st.1 : Int) st.2.1.1 st.2.1.2.1 st.2.1.2.2.1 r st.2.2.2.1 st.2.2.2.2.1 st.2.2.2.2.2.1 st.2.2.2.2.2.2.1 st.2.2.2.2.2.2.2.2.1 (c7 r.1 prev) s st.2.2.2.2.2.2.2.1 prev) (I := fun st => st.1 ≤ 6 ∧ CurOk st.2.1 ∧ st.2.2.2.2.2.2.2.1.length ≤ 6 ∧ st.2.2.2.2.2.2.2.2.1.size ≤ 5) (fun st => 6 - st.1) (Q := fun _ q => NextP r id q.1 ∧ CurOk q.2.1) (fun st hi ih => by
  obtain ⟨i, c, b⟩ := st
  obtain ⟨g1, g2, g3, g4⟩ := hi
  simp only at g1 g2 g3 g4 ih ⊢
  simp only [X6, B02]
  have fin : Re (fun x : Nat × Nat => (br ((r.1.length : Int) == 1) (gd (decide (0 < (r.1.length : Int))) (gd (decide (0 < (r.1.length : Int))) (some ((id, 2, (rd D3 r.1 0).2.2.1, (rd D3 r.1 0).2.2.1, 2, [], ByteArray.empty, prev, c7 r.1 prev, ()), (c.1, c.2.1, c.2.2.1, ()), ())))) (some ((id, b.2.1, b.2.2.1, b.2.2.2.1, b.2.2.2.2.1, b.2.2.2.2.2.1, b.2.2.2.2.2.2.1, prev, c7 r.1 prev, ()), (c.1, c.2.1, c.2.2.1, ()), ())))) (fun q => NextP r id q.1 ∧ CurOk q.2.1) := by
   refine Re.brb (Re.gdd (by omega) (Re.gdd (by omega) (Re.ret ⟨⟨rfl, hpl, by simp, by show (0 : Nat) ≤ 5; omega, rfl, hpm, fun e => absurd e hne⟩, g2.eta⟩))) (Re.ret ⟨⟨rfl, hpl, g3, g4, rfl, hpm, fun e => absurd e hne⟩, g2.eta⟩)
  refine Re.brd (fun q => ?_) (fun q => fin)
  refine Re.c2 (B17 r.1 s ⟨by omega, by omega⟩ (id, b.2.1, b.2.2.1, b.2.2.2.1, b.2.2.2.2.1, b.2.2.2.2.2.1, b.2.2.2.2.2.2.1, prev, c7 r.1 prev, ()) (by show b.2.2.2.2.2.1.length + (b.2.2.2.2.2.2.1.size + (prev.length + 0)) ≤ 1048576; omega)) ?_
  refine Re.brb (Re.b2 (En4 _ g2.eta) fun r9 h9 => ?_) fin
  obtain ⟨⟨_, _, _, _, _, b5, b6, b7, _, _⟩, c9⟩ := h9
  have hl : r9.1.2.2.2.2.2.1.length ≤ 6 := by
   by_cases h3 : r9.1.2.1 = 3
   ·have := b5 h3; omega
   ·rw [b6 h3]; simp
  have e1 : B4 ((i : Int) + 1) = ((i + 1 : Nat) : Int) := by rw [D7 (by omega) (by omega)]; rfl
  rw [e1]
  exact ih (i + 1, r9.2.1, r9.1) ⟨by simp only; omega, c9, hl, b7⟩ (by simp only; omega)) (0, c, b) ⟨Nat.zero_le _, hc, hb.1, hb.2⟩
 exact this
theorem Dx5 (c : B0) (hc : CurOk c) (r : A8) (h : RoomI r) (id : Int) : Re (fun k => O9 k c r id) (fun q => NextP r id q.1 ∧ CurOk q.2.1) := by
 have ab := h.len
 refine Re.bre (fun q => Re.ret ⟨?_, hc⟩) (fun q => ?_)
 ·have he : r.1 = [] := List.length_eq_zero_iff.1 (by omega)
  exact ⟨rfl, by simp, by simp, by show (0 : Nat) ≤ 5; omega, by simp [c7, Gv2], fun p hp => by simp at hp, fun _ => rfl⟩
 have hne : r.1 ≠ [] := fun e => q (by rw [e]; rfl)
 have hpos : 0 < r.1.length := List.length_pos_iff.2 hne
 refine Re.b1 (En4 c hc) fun r1 h1 => ?_
 obtain ⟨⟨_, _, _, _, _, b5, b6, b7, _, _⟩, c1⟩ := h1
 have hl : r1.1.2.2.2.2.2.1.length ≤ 6 := by
  by_cases h3 : r1.1.2.1 = 3
  ·have := b5 h3; omega
  ·rw [b6 h3]; simp
 refine Re.c1 (Cc5 r h.prevS) ?_
 have hel : (Ac2 r.1).length ≤ 40 := by
  have := Ac3 r.1 r.1 []
  unfold Ac2; simp at this; omega
 have hem : ∀ j, j < (Ac2 r.1).length → ∃ x ∈ r.1, x.1 = rd 0 (Ac2 r.1) j := fun j hj => G08 (by rw [E8 hj]; exact List.getElem_mem _)
 generalize Ac2 r.1 = ends at hel hem ⊢
 refine Re.enter (f := fun k n => X7 k n id 0 r1.2.1.1 r1.2.1.2.1 r1.2.1.2.2.1 r r1 ends []) C6 ?_
 have := Re.loop (ι := Nat) (l := fun k n (st : Nat × B0 × List Int) => X7 k n id (st.1 : Int) st.2.1.1 st.2.1.2.1 st.2.1.2.2.1 r r1 ends st.2.2) (I := fun st => st.1 ≤ ends.length ∧ CurOk st.2.1 ∧ st.2.2.length ≤ 3 ∧ ∀ p ∈ st.2.2, ∃ x ∈ r.1, x.1 = p) (fun st => ends.length - st.1) (Q := fun _ q => NextP r id q.1 ∧ CurOk q.2.1) (fun st hi ih => by
  obtain ⟨i, c, xs⟩ := st
  obtain ⟨g1, g2, g3, g4⟩ := hi
  simp only at g1 g2 g3 g4 ih ⊢
  simp only [X7, B03]
  have tail : ∀ (c : B0), CurOk c → Re (fun x : Nat × Nat => (bd (O8 x.1 (c.1, c.2.1, c.2.2.1, ()) 4) fun r4 => (br r4.1 (bd (D0 x.1 r4.2.1 (r.1.length : Int)) fun r5 => (gd (decide (0 ≤ r5.1)) (gd (decide (r5.1 < (r.1.length : Int))) (bd (J9 x.1 r [(rd D3 r.1 r5.1.toNat).1]) fun r6 => (bd (N8 x.1 r [(rd D3 r.1 r5.1.toNat).1]) fun r7 => (X6 x.1 x.2 id 0 r5.2.1.1 r5.2.1.2.1 r5.2.1.2.2.1 r r1.1.2.1 r1.1.2.2.1 r1.1.2.2.2.1 r1.1.2.2.2.2.1 r1.1.2.2.2.2.2.2.1 r6 r7.1 r1.1.2.2.2.2.2.1 [(rd D3 r.1 r5.1.toNat).1])))))) (bd (J9 x.1 r xs) fun r10 => (bd (N8 x.1 r xs) fun r11 => (X6 x.1 x.2 id 0 r4.2.1.1 r4.2.1.2.1 r4.2.1.2.2.1 r r1.1.2.1 r1.1.2.2.1 r1.1.2.2.2.1 r1.1.2.2.2.2.1 r1.1.2.2.2.2.2.2.1 r10 r11.1 r1.1.2.2.2.2.2.1 xs)))))) (fun q => NextP r id q.1 ∧ CurOk q.2.1) := by
   intro c hc
   refine Re.b2 (Bl9 _ 4 hc.eta) fun r4 h4 => ?_
   refine Re.brb (Re.b2 (N2 _ _ h4) fun r5 h5 => ?_) ?_
   ·obtain ⟨⟨q1, q2⟩, q3⟩ := h5
    have q4 : r5.1 < r.1.length := by omega
    refine Re.gdd q1 (Re.gdd q4 (Re.c2 (Af5 r (by omega) _ (by simp)) (Re.c2 (Bf7 r h _ (by simp)) ?_)))
    refine En7 r h hne id _ (Ap9 h (by simp)) _ (by simp) (fun p hp => ?_) r5.2.1 q3 r1.1 ⟨hl, b7⟩
    simp at hp
    subst hp
    exact ⟨rd D3 r.1 r5.1.toNat, by rw [E8 (show r5.1.toNat < r.1.length by omega)]; exact List.getElem_mem _, rfl⟩
   ·refine Re.c2 (Af5 r (by omega) _ (by omega)) (Re.c2 (Bf7 r h _ (by omega)) ?_)
    exact En7 r h hne id _ (Ap9 h (by omega)) _ g3 g4 r4.2.1 h4 r1.1 ⟨hl, b7⟩
  refine Re.brd (fun q1 => ?_) (fun q1 => tail c g2)
  refine Re.brd (fun q2 => ?_) (fun q2 => tail c g2)
  have hli : i < ends.length := by omega
  refine Re.b2 (Bl9 _ 2 g2.eta) fun r3 h3 => ?_
  rw [C9 hli (by omega)]
  simp only [Int.toNat_natCast]
  have add := ih (i + 1, r3.2.1, xs ++ [rd 0 ends i]) ⟨by simp only; omega, h3, by simp; omega, fun p hp => by
   rcases List.mem_append.1 hp with hp | hp
   ·exact g4 p hp
   ·simp at hp; subst hp; exact hem i hli⟩ (by simp only; omega)
  have skip := ih (i + 1, r3.2.1, xs) ⟨by simp only; omega, h3, g3, g4⟩ (by simp only; omega)
  have ga : Re (fun x : Nat × Nat => gd (decide (0 ≤ (i : Int))) (gd (decide ((i : Int) < (ends.length : Int))) (gd (decide (xs.length + [(rd 0 ends i)].length ≤ A3)) (X7 x.1 x.2 id ((i + 1 : Nat) : Int) r3.2.1.1 r3.2.1.2.1 r3.2.1.2.2.1 r r1 ends (xs ++ [(rd 0 ends i)]))))) (fun q => NextP r id q.1 ∧ CurOk q.2.1) := Re.gdd (by omega) (Re.gdd q1 (Re.gdd (by simp [A3]; omega) add))
  exact Re.brb ga (Re.brb (Re.brb ga skip) skip)) (0, r1.2.1, []) ⟨Nat.zero_le _, c1, by simp, fun p hp => by simp at hp⟩
 exact this
theorem C17 (r : A8) (h : RoomI r) (e : A0) (hm : I8 e ≤ 1048576) (hp : e.2.2.2.2.2.2.2.1.length ≤ 1048576) : Ev (fun k => Be1 k r e) (j3 r e) := by
 have ab := h.len
 have hsl := h.sl
 have hgl := h.gl
 have hbl := B73 h hp
 refine Re.eq (Re.c1 (B74 r h _ hp) ?_)
 unfold j3
 generalize N5 r e.2.2.2.2.2.2.2.1 = b at hbl ⊢
 obtain ⟨s, ok⟩ := b
 cases ok with
 | false => exact Re.ret rfl
 | true =>
  refine Re.br (b := false) (fun h => by cases h) (fun _ => Re.c1 (Af4 e hm) ?_)
  cases ho : O5 e with
  | false => exact Re.ret rfl
  | true =>
   refine Re.br (b := false) (fun h => by cases h) (fun _ => Re.c1 (Cc4 r (by omega) _) ?_)
   refine Re.brd (fun q => Re.ret (by rw [decide_eq_false (show ¬ Bj3 r.1 e.1 < 0 by omega)]; rfl)) (fun q => ?_)
   rw [decide_eq_true (show Bj3 r.1 e.1 < 0 by omega)]
   refine Re.c1 (Af5 r (by omega) _ (by omega)) ?_
   refine Re.brn (fun q2 => Re.ret (by rw [decide_eq_false q2]; rfl)) (fun q2 => ?_)
   rw [decide_eq_true q2]
   refine Re.brd (fun q3 => Re.ret (by rw [decide_eq_false (show ¬ r.1.length < 40 by omega)]; rfl)) (fun q3 => ?_)
   rw [decide_eq_true (show r.1.length < 40 by omega)]
   refine Re.c1 (B17 r.1 s ⟨by omega, by simp only at hbl; omega⟩ e hm) ?_
   simp only at hbl
   cases ha : Az6 r.1 s e with
   | false =>
    refine Re.br (b := false) (fun h => by cases h) (fun _ => ?_)
    exact Re.gdd (by simp [A3]; omega) (Re.gdd (by simp [A3]; omega) (Re.gdd (by simp [A3]; omega) (Re.gdd (by simp [A3]; omega) (Re.gdd (by simp [A3]; omega) (Re.gdd (by simp [A3]; omega) (Re.ret rfl))))))
   | true =>
    refine Re.br (b := true) (fun _ => Re.s1 (B18 e ·) ?_) (fun h => by cases h)
    refine Re.br (fun q4 => ?_) (fun q4 => ?_)
    ·refine Re.s1 (B18 e ·) (Re.c1 (Fi7 s (by omega) _ _) ?_)
     refine Re.gdd (by simp [A3]; omega) (Re.gdd (by simp [A3]; omega) (Re.gdd (by simp [A3]; omega) (Re.gdd (by simp [A3]; omega) (Re.gdd (by simp [A3]; omega) (Re.gdd (by simp [A3]; omega) (Re.ret ?_))))))
     rw [q4]; rfl
    ·refine Re.gdd (by simp [A3]; omega) (Re.gdd (by simp [A3]; omega) (Re.gdd (by simp [A3]; omega) (Re.gdd (by simp [A3]; omega) (Re.gdd (by simp [A3]; omega) (Re.gdd (by simp [A3]; omega) (Re.ret ?_))))))
     rw [q4]; rfl
theorem Fi9 (r : A8) (h : RoomI r) (e : A0) (hm : I8 e ≤ 1048576) (hp : e.2.2.2.2.2.2.2.1.length ≤ 1000) : Ev (fun k => Be1 k r e) (j3 r e) := C17 r h e hm (by omega)
theorem Dx6 {α : Type} (d : α) (xs : List α) (y : α) (i : Nat) : rd d (xs ++ [y]) i = if i < xs.length then rd d xs i else if i = xs.length then y else d := by
 unfold rd
 by_cases h : i < xs.length
 ·rw [if_pos h]; simp [List.getElem?_append_left h]
 ·rw [if_neg h]
  by_cases h2 : i = xs.length
  ·subst h2; simp
  ·rw [if_neg h2]; simp [List.getElem?_eq_none (show (xs ++ [y]).length ≤ i by simp; omega)]
theorem Ck8 {r : A8} (h : RoomI r) {e : A0} (hp : e.2.2.2.2.2.2.2.1.length ≤ 1000) (ho : (j3 r e).2 = true) : RoomI (j3 r e).1 ∧ (j3 r e).1.1 = r.1 ++ [e] := by
 have hbl := Ap9 h hp
 have hbt := Built.add h.bt hp ho
 unfold j3 at ho hbt ⊢
 cases hq : (N5 r e.2.2.2.2.2.2.2.1).2 && (O5 e && (decide (Bj3 r.1 e.1 < 0) && (decide (e.2.2.2.2.2.2.2.2.1 = c7 r.1 e.2.2.2.2.2.2.2.1) && decide (r.1.length < 40)))) with
 | false => rw [hq] at ho; cases ho
 | true =>
  rw [hq] at hbt
  simp only [cond_true]
  simp only [Bool.and_eq_true, decide_eq_true_eq] at hq
  obtain ⟨_, q1, q2, _, q3⟩ := hq
  refine ⟨⟨hbt, by simp; omega, by simp [h.sl], by simp [h.gl], fun i hi => ?_, fun x hx => ?_, fun i j hij hj => ?_⟩, trivial⟩
  ·simp only at hi ⊢
   rw [Dx6]
   by_cases q : i < r.2.1.length
   ·rw [if_pos q]; exact h.st i q
   ·rw [if_neg q, if_pos (by simp at hi; omega)]
    cases Az6 r.1 (N5 r e.2.2.2.2.2.2.2.1).1 e && Co5 e != 0 with
    | true => exact Dg3 hbl (by omega)
    | false => exact hbl
  ·rcases List.mem_append.1 hx with hx | hx
   ·exact h.ev x hx
   ·simp at hx; subst hx; exact q1
  ·simp only at hj ⊢
   rw [Dx6, Dx6]
   have hj2 : j < r.1.length + 1 := by simpa using hj
   rw [if_pos (show i < r.1.length by omega)]
   by_cases q : j < r.1.length
   ·rw [if_pos q]; exact h.ids i j hij q
   ·rw [if_neg q, if_pos (by omega)]
    rcases En5 r.1 e.1 with ⟨_, hn⟩ | ⟨k, hk, e2, _⟩
    ·exact hn _ (by rw [E8 (show i < r.1.length by omega)]; exact List.getElem_mem _)
    ·omega
theorem C18 (k : Nat) (e : A0) (h1 : e.2.2.2.2.2.1.length ≤ 1048576) (h2 : e.2.2.2.2.2.2.2.1.length ≤ 1048576) : Aw3 k e = some e := by
 unfold Aw3
 rw [decide_eq_true (by simp [A3]; omega), decide_eq_true (by simp [A3]; omega)]
 rfl
theorem C19 (r : A8) (h : RoomI r) : Ev (fun k => Bc0 k r) r := by
 have ab := h.len
 have hsl := h.sl
 have hgl := h.gl
 have h0 : Ev (fun k => Ah3 k r.1) r.1 := by
  refine Re.eq (Re.enter (f := fun k n => P9 k n r.1 0 []) C6 ?_)
  have := Re.loop (ι := Nat) (l := fun k n (i : Nat) => P9 k n r.1 (i : Int) (r.1.take i)) (I := fun i => i ≤ r.1.length) (fun i => r.1.length - i) (Q := fun _ v => v = r.1) (fun i hi ih => by
   simp only [P9, Aw4]
   refine Re.brd (fun g => ?_) (fun g => Re.ret (List.take_of_length_le (by omega)))
   have hl : i < r.1.length := by omega
   have hs := U8 (h.ev (rd D3 r.1 i) (by rw [E8 hl]; exact List.getElem_mem _))
   have hm := B12 (e := rd D3 r.1 i) (by omega)
   refine Re.gdd (by omega) (Re.gdd g ?_)
   simp only [Int.toNat_natCast]
   refine Re.s2 (C18 · _ hm.1 hm.2.2) (Re.gdd (by simp [A3]; omega) ?_)
   rw [C9 hl (by omega)]
   have next := ih (i + 1) (by omega) (by omega)
   rw [List.take_add_one, List.getElem?_eq_getElem hl] at next
   rw [E8 hl]
   exact next) 0 (Nat.zero_le _)
  simpa using this
 refine Re.eq (Re.c1 h0 (Re.gdd (by simp [A3]; omega) ?_))
 refine Re.enter (f := fun k n => m9 k n 0 r r.1 []) C6 ?_
 have := Re.loop (ι := Nat) (l := fun k n (i : Nat) => m9 k n (i : Int) r r.1 (r.2.1.take i)) (I := fun i => i ≤ r.2.1.length) (fun i => r.2.1.length - i) (Q := fun _ v => v = r) (fun i hi ih => by
  simp only [m9, Bz7]
  refine Re.brd (fun g => ?_) (fun g => Re.ret (by rw [List.take_of_length_le (by omega)]; rfl))
  have hl : i < r.2.1.length := by omega
  have hs := h.st i hl
  refine Re.gdd (by omega) (Re.gdd g ?_)
  simp only [Int.toNat_natCast]
  refine Re.gdd (by simp [A3]; omega) (Re.gdd (by simp [A3]; omega) ?_)
  rw [C9 hl (by omega)]
  have next := ih (i + 1) (by omega) (by omega)
  rw [List.take_add_one, List.getElem?_eq_getElem hl] at next
  rw [E8 hl, List.nil_append]
  exact next) 0 (Nat.zero_le _)
 simpa using this
theorem Dq7 : RoomI ([], [], [], ()) := ⟨.nil, by simp, rfl, rfl, fun i hi => by simp at hi, fun e he => by simp at he, fun i j _ hj => by simp at hj⟩
end Go.Vm
end
section
namespace Go.Vm
open Go
noncomputable def Cd5 (r : A8) : List A1 := (N5 r (Ac2 r.1)).1
theorem C20 (r : A8) (h : RoomI r) : (Ac2 r.1).length ≤ 40 := by
 have := Ac3 r.1 r.1 []
 have := h.len
 unfold Ac2; simp at *; omega
theorem Ea0 {r : A8} (h : RoomI r) : (Cd5 r).length ≤ 16 := Ap9 h (by have := C20 r h; omega)
theorem Eu9 (r : A8) (h : RoomI r) : Ev (fun k => Bt9 k r) (Cd5 r) := by
 refine Re.eq (Re.c1 (Cc5 r h.prevS) (Re.c1 (Bf7 r h _ (by have := C20 r h; omega)) (Re.ret rfl)))
end Go.Vm
end
section
namespace Go.Vm
open Go
theorem G09 {r : A8} {e : A0} (h : (j3 r e).2 = true) : (N5 r e.2.2.2.2.2.2.2.1).2 = true ∧ O5 e = true ∧ Bj3 r.1 e.1 < 0 ∧ e.2.2.2.2.2.2.2.2.1 = c7 r.1 e.2.2.2.2.2.2.2.1 ∧ r.1.length < 40 ∧
  (j3 r e).1 = (r.1 ++ [e], r.2.1 ++ [bif Az6 r.1 (N5 r e.2.2.2.2.2.2.2.1).1 e && Co5 e != 0 then Fi6 (N5 r e.2.2.2.2.2.2.2.1).1 (Co5 e) e.1 else (N5 r e.2.2.2.2.2.2.2.1).1], r.2.2.1 ++ [Az6 r.1 (N5 r e.2.2.2.2.2.2.2.1).1 e], ()) := by
 unfold j3 at h ⊢
 cases hq : (N5 r e.2.2.2.2.2.2.2.1).2 && (O5 e && (decide (Bj3 r.1 e.1 < 0) && (decide (e.2.2.2.2.2.2.2.2.1 = c7 r.1 e.2.2.2.2.2.2.2.1) && decide (r.1.length < 40)))) with
 | false => rw [hq] at h; cases h
 | true =>
  simp only [Bool.and_eq_true, decide_eq_true_eq] at hq
  exact ⟨hq.1, hq.2.1, hq.2.2.1, hq.2.2.2.1, hq.2.2.2.2, rfl⟩
end Go.Vm
end
section
namespace Go.Vm
open Go
theorem RoomI.mE {r : A8} (h : RoomI r) {i : Nat} (hi : i < r.1.length) : I8 (rd D3 r.1 i) ≤ 1000 ∧ (rd D3 r.1 i).2.2.2.2.2.2.2.1.length ≤ 3 := by
 have := U8 (h.ev (rd D3 r.1 i) (by rw [E8 hi]; exact List.getElem_mem _))
 exact ⟨this.2, this.1⟩
end Go.Vm
end
section
namespace Go.Vm
open Go
theorem Re.call {ι α R : Type} [Fuel ι] {κ : ι → Nat} {g : Nat → Option α} {F : ι → α → Option R} {v : α} {Q : R → Prop} (hκ : Du1 κ) (h : Ev g v) (h2 : Re (fun x => F x v) Q) : Re (fun x => Vm.bd (g (κ x)) (F x)) Q :=
 Re.bd (P := fun a => a = v) hκ (Ev.re h rfl) fun a ha => by subst ha; exact h2
theorem Re.some {ι R : Type} [Fuel ι] {v w : R} (h : v = w) : Re (fun _ : ι => some v) (fun a => a = w) := Re.ret h
theorem C21 {α : Type} {l : Nat → Nat → Nat → Option Bool} {V : Bool} (a b : List α) (hl : a.length = b.length)
  (hs : ∀ i (h : i < a.length) (h' : i < b.length), (a[i] = b[i] → Re (fun x : Nat × Nat => l x.1 x.2 (i + 1)) (fun v => v = V)) → (a[i] ≠ b[i] → V = false) → Re (fun x : Nat × Nat => l x.1 (x.2 + 1) i) (fun v => v = V))
  (hne : a ≠ b → V = false) (he : a = b → Re (fun x : Nat × Nat => l x.1 (x.2 + 1) a.length) (fun v => v = V)) : Re (fun x : Nat × Nat => l x.1 x.2 0) (fun v => v = V) := by
 have := Re.loop (ι := Nat) (l := fun k n i => l k n i) (I := fun i => i ≤ a.length ∧ ∀ j, j < i → a[j]? = b[j]?) (fun i => a.length - i) (Q := fun _ v => v = V) (fun i hi ih => by
  by_cases h : i < a.length
  ·have h' : i < b.length := by omega
   refine hs i h h' (fun e => ih (i + 1) ⟨by omega, fun j hj => ?_⟩ (by omega)) (fun e => hne (fun e2 => e (by simp only [e2])))
   by_cases hj2 : j < i
   ·exact hi.2 j hj2
   ·have : j = i := by omega
    subst this
    rw [List.getElem?_eq_getElem h, List.getElem?_eq_getElem h', e]
  ·have hi2 : i = a.length := by omega
   subst hi2
   refine he (List.ext_getElem? fun j => ?_)
   by_cases hj : j < a.length
   ·exact hi.2 j hj
   ·rw [List.getElem?_eq_none (by omega), List.getElem?_eq_none (by omega)]) 0 ⟨Nat.zero_le _, fun j hj => by omega⟩
 exact this
theorem Bu9 {a b : Int} (h : (a != b) = false) : a = b := by simpa using h
theorem Hc7 (x y : A1) : (x.1 == y.1 && (x.2.1 == y.2.1 && true)) = decide (x = y) := by
 obtain ⟨x1, x2, ⟨⟩⟩ := x
 obtain ⟨y1, y2, ⟨⟩⟩ := y
 rw [Bool.eq_iff_iff]
 simp
theorem Fj0 (a b : List Int) (h : a.length ≤ 1048576) : Ev (fun k => N1 k a b) (decide (a = b)) := by
 refine Re.eq ?_
 refine Re.br (fun h => ?_) (fun h => ?_)
 ·exact .some (decide_eq_false (fun e => by subst e; simp at h)).symm
 ·have hl : a.length = b.length := by have := Bu9 h; omega
  refine Re.enter (f := fun k n => I2 k n a b 0) C6 ?_
  refine C21 (l := fun k n i => I2 k n a b (i : Int)) a b hl (fun i h h' ih hf => ?_) (fun h => decide_eq_false h) (fun h => ?_)
  ·simp only [I2, U9, Int.ofNat_lt, h, h', Int.natCast_nonneg, decide_true, br_true, gd_true, Int.toNat_natCast, E8, C9 h (by omega)]
   refine Re.br (fun hc => ?_) (fun hc => ?_)
   ·exact .some (hf (by simpa using hc)).symm
   ·exact ih (by simpa using hc)
  ·simp only [I2, U9, Int.lt_irrefl, decide_false, br_false]
   exact .some (decide_eq_true h).symm
theorem Ea1 (a b : List A1) (h : a.length ≤ 1048576) : Ev (fun k => f9 k a b) (decide (a = b)) := by
 refine Re.eq ?_
 refine Re.br (fun h => ?_) (fun h => ?_)
 ·exact .some (decide_eq_false (fun e => by subst e; simp at h)).symm
 ·have hl : a.length = b.length := by have := Bu9 h; omega
  refine Re.enter (f := fun k n => M4 k n a b 0) C6 ?_
  refine C21 (l := fun k n i => M4 k n a b (i : Int)) a b hl (fun i h h' ih hf => ?_) (fun h => decide_eq_false h) (fun h => ?_)
  ·simp only [M4, z8, Int.ofNat_lt, h, h', Int.natCast_nonneg, decide_true, br_true, gd_true, Int.toNat_natCast, E8, C9 h (by omega), Hc7]
   refine Re.br (fun hc => ?_) (fun hc => ?_)
   ·exact .some (hf (by simpa using hc)).symm
   ·exact ih (by simpa using hc)
  ·simp only [M4, z8, Int.lt_irrefl, decide_false, br_false]
   exact .some (decide_eq_true h).symm
theorem F82 (a b : List Int) : Cu3 a b = decide (a = b) := by
 rw [Bool.eq_iff_iff]
 unfold Cu3
 simp only [Bool.and_eq_true, beq_iff_eq, Ah2, decide_eq_true_eq]
 constructor
 ·rintro ⟨h1, h2⟩
  have hl : a.length = b.length := by omega
  refine List.ext_getElem hl fun i h h' => ?_
  have := h2 i h
  rwa [E8 h, E8 h'] at this
 ·rintro rfl
  exact ⟨rfl, fun _ _ => rfl⟩
theorem F83 (a b : A0) : B15 a b = eqd a b := by
 obtain ⟨x0, x1, x2, x3, x4, l, t, p, d, ⟨⟩⟩ := a
 obtain ⟨y0, y1, y2, y3, y4, l2, t2, p2, d2, ⟨⟩⟩ := b
 rw [Bool.eq_iff_iff]
 rw [C11]
 simp only [B15, F74, l6, F82, Am8, B11, Dg0, Bl7, Ac1, A62, G2, I3, Bool.and_eq_true, beq_iff_eq, decide_eq_true_eq, Prod.mk.injEq, and_true]
 constructor
 ·rintro ⟨⟨⟨⟨⟨⟨⟨⟨h0, h1⟩, h2⟩, h3⟩, h4⟩, h5⟩, h6⟩, h7⟩, h8⟩
  exact ⟨h0, h1, h2, h3, h4, h7, h5, h8, h6⟩
 ·rintro ⟨h0, h1, h2, h3, h4, h7, h5, h8, h6⟩
  exact ⟨⟨⟨⟨⟨⟨⟨⟨h0, h1⟩, h2⟩, h3⟩, h4⟩, h5⟩, h6⟩, h7⟩, h8⟩
theorem G10 (a b : A8) (ha : Bp3 a ≤ 1048576) : Ev (fun k => Bt7 k a b) (eqd a b) := by
 have h1 : Ap6 a.1 + (Cc2 a.2.1 + (C08 a.2.2.1 + 0)) ≤ 1048576 := ha
 have he : a.1.length + (a.1.map I8).sum ≤ 1048576 := by have : Ap6 a.1 = a.1.length + (a.1.map I8).sum := rfl; omega
 have hi : a.2.1.length + (a.2.1.map A93).sum ≤ 1048576 := by have : Cc2 a.2.1 = a.2.1.length + (a.2.1.map A93).sum := rfl; omega
 have hb : a.2.2.1.length ≤ 1048576 := by have : C08 a.2.2.1 = a.2.2.1.length := rfl; omega
 refine Re.eq ?_
 refine Re.br (fun h => .some (C93 (fun e => by subst e; simp at h)).symm) (fun h => ?_)
 have l1 : a.1.length = b.1.length := by have := Bu9 h; omega
 refine Re.br (fun h => .some (C93 (fun e => by subst e; simp at h)).symm) (fun h => ?_)
 have l2 : a.2.1.length = b.2.1.length := by have := Bu9 h; omega
 refine Re.br (fun h => .some (C93 (fun e => by subst e; simp at h)).symm) (fun h => ?_)
 have l3 : a.2.2.1.length = b.2.2.1.length := by have := Bu9 h; omega
 refine Re.enter (f := fun k n => X5 k n 0 a b) C6 ?_
 refine C21 (l := fun k n i => X5 k n (i : Int) a b) a.1 b.1 l1 (fun i h h' ih hf => ?_) (fun h => C93 (fun e => h (by rw [e]))) (fun e1 => ?_)
 ·simp only [X5, A87, Int.ofNat_lt, h, h', Int.natCast_nonneg, decide_true, br_true, gd_true, Int.toNat_natCast, E8, C9 h (by omega)]
  refine Re.call (g := fun k => Am1 k a.1[i] b.1[i]) (Bb7 C6) (C10 a.1[i] b.1[i] (by have := Dq4 I8 (List.getElem_mem h); omega)) ?_
  rw [F83]
  refine Re.br (fun hc => .some (hf (fun e => by rw [F77 e] at hc; cases hc)).symm) (fun hc => ih (C11.1 (by simpa using hc)))
 ·simp only [X5, A87, Int.lt_irrefl, decide_false, br_false]
  refine C21 (l := fun k n i => Ae4 k n (i : Int) a b) a.2.1 b.2.1 l2 (fun i h h' ih hf => ?_) (fun h => C93 (fun e => h (by rw [e]))) (fun e2 => ?_)
  ·simp only [Ae4, A86, Int.ofNat_lt, h, h', Int.natCast_nonneg, decide_true, br_true, gd_true, Int.toNat_natCast, E8, C9 h (by omega)]
   refine Re.call (g := fun k => f9 k a.2.1[i] b.2.1[i]) (Bb7 C6) (Ea1 a.2.1[i] b.2.1[i] (by have := Dq4 A93 (List.getElem_mem h); have : A93 a.2.1[i] = a.2.1[i].length := rfl; omega)) ?_
   refine Re.br (fun hc => .some (hf (by simpa using hc)).symm) (fun hc => ih (by simpa using hc))
  ·simp only [Ae4, A86, Int.lt_irrefl, decide_false, br_false]
   refine C21 (l := fun k n i => Ae3 k n (i : Int) a b) a.2.2.1 b.2.2.1 l3 (fun i h h' ih hf => ?_) (fun h => C93 (fun e => h (by rw [e]))) (fun e3 => ?_)
   ·simp only [Ae3, A85, Int.ofNat_lt, h, h', Int.natCast_nonneg, decide_true, br_true, gd_true, Int.toNat_natCast, E8, C9 h (by omega)]
    refine Re.br (fun hc => .some (hf (by simpa using hc)).symm) (fun hc => ih (by simpa using hc))
   ·simp only [Ae3, A85, Int.lt_irrefl, decide_false, br_false]
    exact .some (F77 (Prod.ext e1 (Prod.ext e2 (Prod.ext e3 rfl)))).symm
end Go.Vm
end
section
namespace Go.Vm
open Go
theorem Dx7 {r : A8} (h : RoomI r) {e : A0} (ho : (j3 r e).2 = true) : RoomI (j3 r e).1 := by
 obtain ⟨_, h2, _⟩ := G09 ho
 have := (U8 h2).1
 exact (Ck8 h (by omega) ho).1
theorem Cu4 {α : Type} (f : α → Nat) (c : Nat) : ∀ (xs : List α), (∀ x ∈ xs, f x ≤ c) → (xs.map f).sum ≤ xs.length * c
 | [], _ => by simp
 | x :: xs, h => by
  have h1 := h x (List.mem_cons_self ..)
  have h2 := Cu4 f c xs fun y hy => h y (List.mem_cons_of_mem _ hy)
  rw [List.map_cons, List.sum_cons, List.length_cons, Nat.succ_mul]
  omega
noncomputable def C98 : A8 → List A0 → A8 × Bool
 | n, [] => (n, true)
 | n, e :: es => bif (j3 n e).2 then C98 (j3 n e).1 es else (([], [], [], ()), false)
theorem Dg6 : ∀ (es : List A0) {n : A8}, RoomI n → RoomI (C98 n es).1
 | [], _, h => h
 | e :: es, n, h => by
  unfold C98
  cases ho : (j3 n e).2 with
  | false => exact Dq7
  | true => exact Dg6 es (Dx7 h ho)
theorem Gv3 {α : Type} {d : α} {xs : List α} {i : Nat} (h : i < xs.length) : xs.drop i = rd d xs i :: xs.drop (i + 1) := by
 rw [List.drop_eq_getElem_cons h, E8 h]
noncomputable def En8 (es : List A0) : A8 × Bool := C98 ([], [], [], ()) es
noncomputable def B21 (r : A8) : Bool := !decide ((r.1.length : Int) > 40) && ((En8 r.1).2 && eqd (En8 r.1).1 r)
theorem RoomI.m {r : A8} (h : RoomI r) : Bp3 r ≤ 1048576 := by
 have hl := h.len
 have hsl := h.sl
 have hgl := h.gl
 have s1 : (r.1.map I8).sum ≤ r.1.length * 1000 := Cu4 I8 1000 r.1 fun e he => (U8 (h.ev e he)).2
 have s2 : (r.2.1.map A93).sum ≤ r.2.1.length * 16 := Cu4 A93 16 r.2.1 fun s hs => by
  obtain ⟨i, hi, rfl⟩ := List.getElem_of_mem hs
  have := h.st i hi
  rw [E8 hi] at this
  exact this
 unfold Bp3 Ap6 Cc2 C08
 omega
theorem Ev0 (r : A8) (hm : Bp3 r ≤ 1048576) : Ev (fun k => Cb2 k r) (B21 r) := by
 have hme0 : Ap6 r.1 ≤ 1048576 := by unfold Bp3 at hm; omega
 have hl : r.1.length ≤ 1048576 := by unfold Ap6 at hme0; omega
 have hme : ∀ i, i < r.1.length → I8 (rd D3 r.1 i) ≤ 1048576 := fun i hi => by
  have : rd D3 r.1 i ∈ r.1 := by rw [E8 hi]; exact List.getElem_mem _
  have := Dq4 I8 this
  unfold Ap6 at hme0; omega
 unfold B21
 refine Re.eq (Re.brd (fun q => Re.ret (by rw [decide_eq_true q]; rfl)) (fun q => ?_))
 rw [decide_eq_false q]
 refine Re.enter (f := fun k n => Ab1 k n 0 r [] [] []) C6 ?_
 have := Re.loop (ι := Nat) (l := fun k n (st : Nat × A8) => Ab1 k n (st.1 : Int) r st.2.1 st.2.2.1 st.2.2.2.1) (I := fun st => st.1 ≤ r.1.length ∧ RoomI st.2 ∧ C98 st.2 (r.1.drop st.1) = En8 r.1) (fun st => r.1.length - st.1) (Q := fun _ v => v = ((En8 r.1).2 && eqd (En8 r.1).1 r)) (fun st hi ih => by
  obtain ⟨i, n⟩ := st
  obtain ⟨g1, g2, g3⟩ := hi
  simp only at g1 g2 g3 ih ⊢
  simp only [Ab1, Cb1, Int.toNat_natCast]
  refine Re.brd (fun g => ?_) (fun g => ?_)
  ·have hil : i < r.1.length := by omega
   rw [Gv3 (d := D3) hil] at g3
   unfold C98 at g3
   have hmi := hme i hil
   refine Re.gdd (by omega) (Re.gdd g (Re.c2 (C17 n g2 _ hmi (B12 hmi).2.2) ?_))
   rw [C9 hil (by omega)]
   cases ho : (j3 n (rd D3 r.1 i)).2 with
   | false =>
    refine Re.br (b := true) (fun _ => Re.ret ?_) (fun h => by cases h)
    rw [ho] at g3; rw [← g3]; rfl
   | true =>
    rw [ho] at g3
    exact Re.br (b := false) (fun h => by cases h) (fun _ => ih (i + 1, (j3 n (rd D3 r.1 i)).1) ⟨by omega, Dx7 g2 ho, g3⟩ (by simp only; omega))
  ·have e : r.1.drop i = [] := List.drop_eq_nil_of_le (by omega)
   rw [e] at g3
   refine Re.c2 (G10 n r g2.m) (Re.ret ?_)
   rw [← g3]; rfl) (0, ([], [], [], ())) ⟨Nat.zero_le _, Dq7, rfl⟩
 exact this
end Go.Vm
end
section
namespace Go.Vm
open Go
theorem Fj1 {l : Nat → Nat → Nat → Option Bool} {N : Nat} (c : Nat → Bool) {V : Bool}
  (step : ∀ i, i < N → ∀ v, (c i = true → Re (fun x : Nat × Nat => l x.1 x.2 (i + 1)) (fun r => r = v)) → (c i = false → false = v) → Re (fun x : Nat × Nat => l x.1 (x.2 + 1) i) (fun r => r = v))
  (fin : Re (fun x : Nat × Nat => l x.1 (x.2 + 1) N) (fun r => r = V)) : Re (fun x : Nat × Nat => l x.1 x.2 0) (fun r => r = (Ak5 N c && V)) := by
 have := Re.loop (ι := Nat) (l := l) (I := fun i => i ≤ N ∧ ∀ j, j < i → c j = true) (fun i => N - i) (Q := fun _ r => r = (Ak5 N c && V)) (fun i hi ih => by
  obtain ⟨g1, g2⟩ := hi
  by_cases q : i < N
  ·refine step i q _ (fun h => ih (i + 1) ⟨by omega, fun j hj => ?_⟩ (by omega)) fun h => ?_
   ·by_cases q2 : j < i
    ·exact g2 j q2
    ·have : j = i := by omega
     rw [this]; exact h
   ·have : Ak5 N c = false := by
     cases ha : Ak5 N c with
     | false => rfl
     | true => rw [Ah2.1 ha i q] at h; cases h
    rw [this]; rfl
  ·have e : i = N := by omega
   subst e
   have : Ak5 i c = true := Ah2.2 g2
   rw [this, Bool.true_and]
   exact fin) 0 ⟨Nat.zero_le _, fun j hj => by omega⟩
 exact this
def Hc8 (ss : List D9) (i : Nat) : Bool :=
 Z7 (rd A9 ss i).1 1 1000000 && (Z7 (rd A9 ss i).2.1 0 1000000 && (!decide ((((rd A9 ss i).2.2.1.size : Nat) : Int) > 40) && (!((rd A9 ss i).2.1 == 0 && !((rd A9 ss i).2.2.1.toList == (⟨#[]⟩ : ByteArray).toList)) && !(decide ((i : Int) > 0) && decide ((rd A9 ss (i - 1)).1 ≥ (rd A9 ss i).1)))))
def Fj2 (os : List K8) (own : List Int) (i : Nat) : Bool :=
 !((rd H8 os i).1 != ((i + 1 : Nat) : Int)) && (decide ((rd H8 os i).2.2.1 = own) && Z7 (rd H8 os i).2.1 0 (own.length : Int))
def B75 (r : A8) : Nat → List Int
 | 0 => []
 | i + 1 => if Int.tmod (rd D3 r.1 i).1 2 = 0 ∧ rd false r.2.2.1 i = true then B75 r i ++ [(rd D3 r.1 i).1] else B75 r i
theorem Bv0 (r : A8) : ∀ i, (B75 r i).length ≤ i
 | 0 => Nat.le_refl _
 | i + 1 => by
  have := Bv0 r i
  unfold B75
  split <;> simp <;> omega
theorem ng2 {a : Int} : (a == a && (2 : Int) == 0) = false := by simp
theorem Fj3 (r : A8) (h1 : r.1.length ≤ 1048576) (hg : r.2.2.1.length = r.1.length) : Ev (fun k => Cb4 k r) (B75 r r.1.length) := by
 refine Re.eq (Re.enter (f := fun k n => Ab2 k n 0 r []) C6 ?_)
 have := Re.loop (ι := Nat) (l := fun k n (i : Nat) => Ab2 k n (i : Int) r (B75 r i)) (I := fun i => i ≤ r.1.length) (fun i => r.1.length - i) (Q := fun _ v => v = B75 r r.1.length) (fun i hi ih => by
  simp only [Ab2, Cb3]
  refine Re.brd (fun g => ?_) (fun g => Re.ret (by rw [show i = r.1.length by omega]))
  have hl : i < r.1.length := by omega
  have ab := Bv0 r i
  rw [C9 hl (by omega)]
  simp only [Int.toNat_natCast, ng2]
  have next := ih (i + 1) (by omega) (by omega)
  simp only [B75] at next
  refine Re.gdd (by omega) (Re.gdd (by omega) (Re.br (fun q2 => ?_) (fun q2 => ?_)))
  ·refine Re.gdd (by omega) (Re.gdd g (Re.ng rfl ?_))
   refine Re.bre (fun q => ?_) (fun q => by rw [if_neg fun h => q h.1] at next; exact next)
   rw [if_pos ⟨q, q2⟩] at next
   exact Re.gdd (by omega) (Re.gdd (by omega) (Re.gdd (by simp [A3]; omega) next))
  ·rw [if_neg fun h => by rw [q2] at h; cases h.2] at next
   exact next) 0 (Nat.zero_le _)
 exact this
noncomputable def S3 (h : C2) : Bool := !decide ((h.1.length : Int) > 3) && (!((h.2.2.1.length : Int) != 2) && (B21 h.2.1 && (Ak5 h.1.length (Hc8 h.1) && (Ak5 h.2.2.1.length (Fj2 h.2.2.1 (B75 h.2.1 h.2.1.1.length)) && true))))
theorem Cu5 {h : C2} (hm : B10 h ≤ 1048576) : Bp3 h.2.1 ≤ 1048576 ∧ h.1.length ≤ 1048576 ∧ h.2.2.1.length ≤ 1048576 ∧ h.2.1.1.length ≤ 1048576 ∧ ∀ i, i < h.2.2.1.length → (rd H8 h.2.2.1 i).2.2.1.length ≤ 1048576 := by
 unfold B10 Dw0 F70 at hm
 refine ⟨by omega, by omega, by omega, ?_, fun i hi => ?_⟩
 ·unfold Bp3 Ap6 at hm; omega
 ·have : rd H8 h.2.2.1 i ∈ h.2.2.1 := by rw [E8 hi]; exact List.getElem_mem _
  have := Dq4 En0 this
  have e : En0 (rd H8 h.2.2.1 i) = (rd H8 h.2.2.1 i).2.2.1.length + 0 := rfl
  omega
theorem Dg7 {r : A8} (h : B21 r = true) : RoomI r := by
 unfold B21 at h
 rw [Bool.and_eq_true, Bool.and_eq_true] at h
 have := C11.1 h.2.2
 rw [← this]
 exact Dg6 r.1 Dq7
theorem G11 (h : C2) (hm : B10 h ≤ 1048576) (own : List Int) : Re (fun x : Nat × Nat => Ab3 x.1 x.2 0 h own) (fun r => r = (Ak5 h.2.2.1.length (Fj2 h.2.2.1 own) && true)) := by
 obtain ⟨m1, m2, m3, m4, m5⟩ := Cu5 hm
 refine Fj1 (l := fun k n i => Ab3 k n (i : Int) h own) (Fj2 h.2.2.1 own) (fun i hi v next no => ?_) ?_
 ·simp only [Ab3, Bk7, Int.toNat_natCast]
  refine Re.brd (fun g => ?_) (fun g => by omega)
  rw [C9 hi (by omega)]
  unfold Fj2 at next no
  refine Re.gdd (by omega) (Re.gdd g (Re.br (fun q => Re.ret (no (by rw [q]; rfl))) (fun q => ?_)))
  rw [q] at next no
  refine Re.c2 (Fj0 _ own (m5 i hi)) ?_
  cases q2 : decide ((rd H8 h.2.2.1 i).2.2.1 = own) with
  | false => rw [q2] at no; exact Re.br (b := true) (fun _ => Re.ret (no rfl)) (fun h => by cases h)
  | true =>
   rw [q2] at next no
   refine Re.br (b := false) (fun h => by cases h) (fun _ => Re.s2 (H1 · _ _ _) ?_)
   exact Re.br (fun q3 => Re.ret (no (by simpa using q3))) (fun q3 => next (by simpa using q3))
 ·simp only [Ab3, Bk7, Int.lt_irrefl, decide_false, br_false]
  exact Re.ret rfl
theorem Hc9 (h : C2) (hm : B10 h ≤ 1048576) (hg : B21 h.2.1 = true) : Re (fun x : Nat × Nat => P0 x.1 x.2 0 h) (fun r => r = (Ak5 h.1.length (Hc8 h.1) && (Ak5 h.2.2.1.length (Fj2 h.2.2.1 (B75 h.2.1 h.2.1.1.length)) && true))) := by
 obtain ⟨m1, m2, m3, m4, m5⟩ := Cu5 hm
 refine Fj1 (l := fun k n i => P0 k n (i : Int) h) (Hc8 h.1) (fun i hi v next no => ?_) ?_
 ·simp only [P0, Bk8, Int.toNat_natCast]
  refine Re.brd (fun g => ?_) (fun g => by omega)
  rw [C9 hi (by omega)]
  have tail : ((!(decide ((i : Int) > 0) && decide ((rd A9 h.1 (i - 1)).1 ≥ (rd A9 h.1 i).1))) = true → Re (fun x : Nat × Nat => P0 x.1 x.2 ((i + 1 : Nat) : Int) h) (fun r => r = v)) → ((!(decide ((i : Int) > 0) && decide ((rd A9 h.1 (i - 1)).1 ≥ (rd A9 h.1 i).1))) = false → false = v) →
    Re (fun x : Nat × Nat => (br (decide ((i : Int) > 0)) (gd (decide (0 ≤ (B4 ((i : Int) - 1)))) (gd (decide ((B4 ((i : Int) - 1)) < (h.1.length : Int))) (br (decide ((rd A9 h.1 (B4 ((i : Int) - 1)).toNat).1 ≥ (rd A9 h.1 i).1)) (some false) (P0 x.1 x.2 ((i + 1 : Nat) : Int) h)))) (P0 x.1 x.2 ((i + 1 : Nat) : Int) h))) (fun r => r = v) := fun next no => by
   refine Re.brd (fun q => ?_) (fun q => next (by rw [decide_eq_false q]; rfl))
   have e : B4 ((i : Int) - 1) = ((i - 1 : Nat) : Int) := by rw [D7 (by omega) (by omega)]; omega
   rw [e]
   simp only [Int.toNat_natCast]
   rw [decide_eq_true q, Bool.true_and] at next no
   refine Re.gdd (by omega) (Re.gdd (by omega) (Re.brd (fun q2 => Re.ret (no (by rw [decide_eq_true q2]; rfl))) (fun q2 => next (by rw [decide_eq_false q2]; rfl))))
  unfold Hc8 at next no
  refine Re.gdd (by omega) (Re.gdd g (Re.s2 (H1 · _ _ _) ?_))
  cases ha : Z7 (rd A9 h.1 i).1 1 1000000 with
  | false => rw [ha] at no; exact Re.br (b := true) (fun _ => Re.ret (no rfl)) (fun h => by cases h)
  | true =>
   rw [ha] at next no
   refine Re.br (b := false) (fun h => by cases h) (fun _ => Re.s2 (H1 · _ _ _) ?_)
   cases hb : Z7 (rd A9 h.1 i).2.1 0 1000000 with
   | false => rw [hb] at no; exact Re.br (b := true) (fun _ => Re.ret (no rfl)) (fun h => by cases h)
   | true =>
    rw [hb] at next no
    refine Re.br (b := false) (fun h => by cases h) (fun _ => ?_)
    refine Re.brd (fun q => Re.ret (no (by rw [decide_eq_true q]; rfl))) (fun q => ?_)
    rw [decide_eq_false q] at next no
    refine Re.br (fun q1 => ?_) (fun q1 => ?_)
    ·rw [q1] at next no
     refine Re.br (fun q2 => Re.ret (no (by rw [q2]; rfl))) (fun q2 => ?_)
     rw [q2] at next no
     exact tail (fun z => next (by rw [z]; rfl)) (fun z => no (by rw [z]; rfl))
    ·rw [q1] at next no
     exact tail (fun z => next (by rw [z]; rfl)) (fun z => no (by rw [z]; rfl))
 ·simp only [P0, Bk8, Int.lt_irrefl, decide_false, br_false]
  exact Re.c2 (Fj3 h.2.1 m4 (Dg7 hg).gl) (G11 h hm _)
theorem B22 (h : C2) (hm : B10 h ≤ 1048576) : Ev (fun k => Ao8 k h) (S3 h) := by
 obtain ⟨m1, m2, m3, m4, m5⟩ := Cu5 hm
 unfold S3
 refine Re.eq (Re.brd (fun q => Re.ret (by rw [decide_eq_true q]; rfl)) (fun q => ?_))
 rw [decide_eq_false q]
 refine Re.br (fun q2 => Re.ret (by rw [q2]; rfl)) (fun q2 => Re.c1 (Ev0 h.2.1 m1) ?_)
 rw [q2]
 cases hr : B21 h.2.1 with
 | false => exact Re.br (b := true) (fun _ => Re.ret rfl) (fun h => by cases h)
 | true =>
  refine Re.br (b := false) (fun h => by cases h) (fun _ => ?_)
  exact Re.enter (f := fun k n => P0 k n 0 h) C6 (Hc9 h hm hr)
end Go.Vm
end
section
namespace Go.Vm
open Go
theorem G12 (l : List Int) (hl : l.length ≤ 1000) (h : ∀ n ∈ l, 0 ≤ n ∧ n ≤ 1000000000) : Ev (fun k => C89 k l) (Cl5 l, true) := by
 have each : ∀ i (hi : i < l.length), Ev (fun k => X0 k l[i]) (H5 l[i], true) := fun i hi => by
  obtain ⟨h1, h2⟩ := h _ (List.getElem_mem hi)
  rw [← Eu2 h1 h2]
  exact B13 _
 have sz : ∀ i, i ≤ l.length → ((l.take i).flatMap fun n => D4 (H5 n)).length ≤ 5 * i := fun i hi => by
  have := C88 (l := l.take i) (fun n hn => (h n (List.mem_of_mem_take hn)).2)
  unfold Cl5 at this
  rw [H4] at this
  simp at this ⊢
  omega
 have loop := Hb9 (l := fun k m i => Aw7 k m l (i : Int) ((l.take i).flatMap fun n => D4 (H5 n))) (N := l.length) (r := (Cl5 l, true)) (fun i hi => by
  obtain ⟨K, hK⟩ := each i hi
  refine ⟨K, fun k hk m => ?_⟩
  have e := C9 hi (by omega)
  have h1 := hK k hk
  have h2 := sz i (by omega)
  have h3 := G6 (h _ (List.getElem_mem hi)).2
  simp only [Aw7, Ck5, hi, Int.ofNat_lt, Int.natCast_nonneg, decide_true, br_true, gd_true, Int.toNat_natCast, E8 hi, e, h1, bd_some, Bool.not_true, br_false]
  rw [Bd5 (by unfold A3; rw [D5]; omega), List.take_succ_eq_append_getElem hi, List.flatMap_append]
  simp) ⟨0, fun k _ m => by simp [Aw7, Ck5, Cl5]⟩ 0 (Nat.zero_le _)
 obtain ⟨K, hK⟩ := loop
 exact ⟨K, fun k hk => by simpa [C89, Dv7] using hK k hk k hk⟩
theorem Cd6 (t : ByteArray) (h : t.size ≤ 20000) : Ev (fun k => Ab6 k t) (I9 t, true) := by
 unfold Ab6
 have h1 : ¬ ((t.size : Int) > 20000) := by omega
 simp only [decide_eq_false h1, br_false]
 have h2 := B13 (t.size : Int)
 rw [Eu2 (by omega) (by omega)] at h2
 refine h2.bd (.of fun k => ?_)
 have := G6 (n := (t.size : Int)) (by omega)
 simp only
 rw [Bd5 (by unfold A3; omega)]
 rfl
theorem Hd0 (a b : Int) : Cl5 [a, b] = H5 a ++ H5 b := by
 unfold Cl5
 simp only [List.flatMap_cons, List.flatMap_nil, List.append_nil, Ae2, P7]
end Go.Vm
end
section
namespace Go.Vm
open Go
def Cl8 (a : ByteArray) (f : Nat → ByteArray) : Nat → ByteArray
 | 0 => a
 | i + 1 => Cl8 a f i ++ f i
theorem Ax7 (a : ByteArray) (f : Nat → ByteArray) (c : Nat) : ∀ n, (∀ i, i < n → (f i).size ≤ c) → (Cl8 a f n).size ≤ a.size + n * c
 | 0, _ => by simp [Cl8]
 | n + 1, h => by
  have h1 := Ax7 a f c n fun i hi => h i (by omega)
  have h2 := h n (by omega)
  show (Cl8 a f n ++ f n).size ≤ _
  rw [G0, Nat.succ_mul]
  omega
theorem C22 (a b : ByteArray) : D4 (a ++ b) = D4 a ++ D4 b := by simp [D4]
def Ev1 (h : C2) (i : Nat) : ByteArray := (H5 (rd A9 h.1 i).1 ++ H5 (rd A9 h.1 i).2.1) ++ I9 (rd A9 h.1 i).2.2.1
def evT (h : C2) (i : Nat) : ByteArray := I9 (Dw3 (rd D3 h.2.1.1 i))
def F84 (h : C2) (i : Nat) : ByteArray := H5 (rd H8 h.2.2.1 i).2.1
def C23 (h : C2) : ByteArray := Cl8 (H5 (h.1.length : Int)) (Ev1 h) h.1.length
def Dg8 (h : C2) : ByteArray := Cl8 (C23 h ++ H5 (h.2.1.1.length : Int)) (evT h) h.2.1.1.length
def A16 (h : C2) : ByteArray := Cl8 (Dg8 h) (F84 h) h.2.2.1.length
noncomputable def Hd1 (h : C2) : ByteArray × Bool := bif S3 h then (bif decide (((A16 h).size : Int) > 20000) then (⟨#[]⟩, false) else (A16 h, true)) else (⟨#[]⟩, false)
structure HallF (h : C2) : Prop where
 nS : h.1.length ≤ 3
 ses : ∀ i, i < h.1.length → (1 ≤ (rd A9 h.1 i).1 ∧ (rd A9 h.1 i).1 ≤ 1000000) ∧ (0 ≤ (rd A9 h.1 i).2.1 ∧ (rd A9 h.1 i).2.1 ≤ 1000000) ∧ (rd A9 h.1 i).2.2.1.size ≤ 40
 rI : RoomI h.2.1
 nO : h.2.2.1.length ≤ 2
 ack : ∀ i, i < h.2.2.1.length → 0 ≤ (rd H8 h.2.2.1 i).2.1 ∧ (rd H8 h.2.2.1 i).2.1 ≤ 40
theorem Aq0 {h : C2} (hk : S3 h = true) : HallF h := by
 unfold S3 at hk
 simp only [Bool.and_eq_true, Bool.not_eq_true', decide_eq_false_iff_not, Bool.and_true] at hk
 obtain ⟨h1, h2, h3, h4, h5⟩ := hk
 have hI := Dg7 h3
 have ab := hI.len
 have hfl := Bv0 h.2.1 h.2.1.1.length
 refine ⟨by omega, fun i hi => ?_, hI, ?_, fun i hi => ?_⟩
 ·have := Ah2.1 h4 i hi
  unfold Hc8 at this
  simp only [Bool.and_eq_true] at this
  obtain ⟨g1, g2, g3, _⟩ := this
  refine ⟨G4.1 g1, G4.1 g2, ?_⟩
  have : ¬ (((rd A9 h.1 i).2.2.1.size : Nat) : Int) > 40 := by simpa using g3
  omega
 ·have : (h.2.2.1.length : Int) = 2 := by simpa using h2
  omega
 ·have := Ah2.1 h5 i hi
  unfold Fj2 at this
  simp only [Bool.and_eq_true] at this
  have := G4.1 this.2.2
  omega
theorem RoomI.evOk {r : A8} (h : RoomI r) {i : Nat} (hi : i < r.1.length) : O5 (rd D3 r.1 i) = true := h.ev _ (by rw [E8 hi]; exact List.getElem_mem _)
theorem HallF.sizes {h : C2} (hf : HallF h) : (∀ i, i < h.1.length → (Ev1 h i).size ≤ 60) ∧ (∀ i, i < h.2.1.1.length → (evT h i).size ≤ 1010) ∧ (∀ i, i < h.2.2.1.length → (F84 h i).size ≤ 5) ∧
  (∀ i, i ≤ h.1.length → (Cl8 (H5 (h.1.length : Int)) (Ev1 h) i).size ≤ 200) ∧ (∀ i, i ≤ h.2.1.1.length → (Cl8 (C23 h ++ H5 (h.2.1.1.length : Int)) (evT h) i).size ≤ 50000) ∧ (∀ i, i ≤ h.2.2.1.length → (Cl8 (Dg8 h) (F84 h) i).size ≤ 60000) := by
 have hl := hf.rI.len
 have hnS := hf.nS
 have hnO := hf.nO
 have s1 : ∀ i, i < h.1.length → (Ev1 h i).size ≤ 60 := fun i hi => by
  obtain ⟨a, b, c⟩ := hf.ses i hi
  have h1 := G6 (n := (rd A9 h.1 i).1) (by omega)
  have h2 := G6 (n := (rd A9 h.1 i).2.1) (by omega)
  have h3 := G6 (n := ((rd A9 h.1 i).2.2.1.size : Int)) (by omega)
  unfold Ev1 I9
  simp only [G0]
  omega
 have s2 : ∀ i, i < h.2.1.1.length → (evT h i).size ≤ 1010 := fun i hi => by
  have h1 := En2 (hf.rI.evOk hi)
  have h3 := G6 (n := ((Dw3 (rd D3 h.2.1.1 i)).size : Int)) (by omega)
  unfold evT I9
  simp only [G0]
  omega
 have s3 : ∀ i, i < h.2.2.1.length → (F84 h i).size ≤ 5 := fun i hi => by
  have := hf.ack i hi
  exact G6 (by omega)
 have z1 := G6 (n := (h.1.length : Int)) (by omega)
 have z2 := G6 (n := (h.2.1.1.length : Int)) (by omega)
 have s4 : ∀ i, i ≤ h.1.length → (Cl8 (H5 (h.1.length : Int)) (Ev1 h) i).size ≤ 200 := fun i hi => by
  have := Ax7 (H5 (h.1.length : Int)) (Ev1 h) 60 i fun j hj => s1 j (by omega)
  omega
 have s5 : ∀ i, i ≤ h.2.1.1.length → (Cl8 (C23 h ++ H5 (h.2.1.1.length : Int)) (evT h) i).size ≤ 50000 := fun i hi => by
  have h1 := Ax7 (C23 h ++ H5 (h.2.1.1.length : Int)) (evT h) 1010 i fun j hj => s2 j (by omega)
  have h2 := s4 h.1.length (Nat.le_refl _)
  have h3 : (C23 h).size ≤ 200 := h2
  rw [G0] at h1
  omega
 refine ⟨s1, s2, s3, s4, s5, fun i hi => ?_⟩
 have h1 := Ax7 (Dg8 h) (F84 h) 5 i fun j hj => s3 j (by omega)
 have h2 : (Dg8 h).size ≤ 50000 := s5 h.2.1.1.length (Nat.le_refl _)
 omega
theorem Ea2 (h : C2) (hm : B10 h ≤ 1048576) : Ev (fun k => Al0 k h) (Hd1 h) := by
 refine Re.eq (Re.c1 (B22 h hm) ?_)
 unfold Hd1
 cases hk : S3 h with
 | false => exact Re.br (b := true) (fun _ => Re.ret rfl) (fun h => by cases h)
 | true =>
  have hf := Aq0 hk
  obtain ⟨s1, s2, s3, s4, s5, s6⟩ := hf.sizes
  have hl := hf.rI.len
  have hnS := hf.nS
  have hnO := hf.nO
  have z1 := G6 (n := (h.2.1.1.length : Int)) (by omega)
  refine Re.br (b := false) (fun h => by cases h) (fun _ => Re.c1 (M5 _ (by omega) (by omega)) ?_)
  have three : Re (fun x : Nat × Nat => u6 x.1 x.2 0 h (D4 (Dg8 h))) (fun r => r = (bif decide (((A16 h).size : Int) > 20000) then (⟨#[]⟩, false) else (A16 h, true))) := by
   have := Re.loop (ι := Nat) (l := fun k n (i : Nat) => u6 k n (i : Int) h (D4 (Cl8 (Dg8 h) (F84 h) i))) (I := fun i => i ≤ h.2.2.1.length) (fun i => h.2.2.1.length - i) (Q := fun _ r => r = (bif decide (((A16 h).size : Int) > 20000) then (⟨#[]⟩, false) else (A16 h, true))) (fun i hi ih => by
    simp only [u6, Bo2, Int.toNat_natCast]
    refine Re.brd (fun g => ?_) (fun g => ?_)
    ·have hil : i < h.2.2.1.length := by omega
     have ha := hf.ack i hil
     have g1 := s6 i hi
     have g2 : (H5 (rd H8 h.2.2.1 i).2.1).size ≤ 5 := s3 i hil
     rw [C9 hil (by omega)]
     refine Re.gdd (by omega) (Re.gdd g (Re.c2 (M5 _ (by omega) (by omega)) (Re.gdd (by rw [D5, D5]; unfold A3; omega) ?_)))
     rw [← C22]
     exact ih (i + 1) (by omega) (by omega)
    ·have e : i = h.2.2.1.length := by omega
     rw [e]
     show Re (fun _ : Nat × Nat => br (decide (((D4 (A16 h)).length : Int) > 20000)) _ (some (C0 (D4 (A16 h)), true))) _
     rw [D5, P7]
     refine Re.br (fun q => Re.ret (by rw [q]; rfl)) (fun q => Re.ret (by rw [q]; rfl))) 0 (Nat.zero_le _)
   exact this
  have two : Re (fun x : Nat × Nat => u7 x.1 x.2 0 h (D4 (C23 h ++ H5 (h.2.1.1.length : Int)))) (fun r => r = (bif decide (((A16 h).size : Int) > 20000) then (⟨#[]⟩, false) else (A16 h, true))) := by
   have := Re.loop (ι := Nat) (l := fun k n (i : Nat) => u7 k n (i : Int) h (D4 (Cl8 (C23 h ++ H5 (h.2.1.1.length : Int)) (evT h) i))) (I := fun i => i ≤ h.2.1.1.length) (fun i => h.2.1.1.length - i) (Q := fun _ r => r = (bif decide (((A16 h).size : Int) > 20000) then (⟨#[]⟩, false) else (A16 h, true))) (fun i hi ih => by
    simp only [u7, Bo3, Int.toNat_natCast]
    refine Re.brd (fun g => ?_) (fun g => ?_)
    ·have hil : i < h.2.1.1.length := by omega
     have ho := hf.rI.evOk hil
     have hme := hf.rI.mE hil
     have g1 := s5 i hi
     have g2 := s2 i hil
     have g3 := En2 ho
     have hT := Dw4 (rd D3 h.2.1.1 i) (by omega)
     rw [ho] at hT
     rw [C9 hil (by omega)]
     refine Re.gdd (by omega) (Re.gdd g (Re.c2 hT (Re.c2 (Ah4 _ (by show (Dw3 _).size ≤ _; omega)) (Re.gdd (by show (D4 (Cl8 _ _ i)).length + (D4 (evT h i)).length ≤ _; rw [D5, D5]; unfold A3; omega) ?_))))
     rw [← C22]
     exact ih (i + 1) (by omega) (by omega)
    ·have e : i = h.2.1.1.length := by omega
     rw [e]; exact three) 0 (Nat.zero_le _)
   exact this
  refine Re.enter (f := fun k n => Y9 k n 0 h (D4 (H5 (h.1.length : Int)))) C6 ?_
  have := Re.loop (ι := Nat) (l := fun k n (i : Nat) => Y9 k n (i : Int) h (D4 (Cl8 (H5 (h.1.length : Int)) (Ev1 h) i))) (I := fun i => i ≤ h.1.length) (fun i => h.1.length - i) (Q := fun _ r => r = (bif decide (((A16 h).size : Int) > 20000) then (⟨#[]⟩, false) else (A16 h, true))) (fun i hi ih => by
   simp only [Y9, Bo4, Int.toNat_natCast]
   refine Re.brd (fun g => ?_) (fun g => ?_)
   ·have hil : i < h.1.length := by omega
    obtain ⟨a, b, c⟩ := hf.ses i hil
    have g1 := s4 i hi
    have g2 : ((H5 (rd A9 h.1 i).1 ++ H5 (rd A9 h.1 i).2.1) ++ I9 (rd A9 h.1 i).2.2.1).size ≤ 60 := s1 i hil
    have g3 := g2
    rw [G0] at g3
    have g4 := g3
    rw [G0] at g4
    rw [C9 hil (by omega)]
    refine Re.gdd (by omega) (Re.gdd g (Re.c2 (M5 _ (by omega) (by omega)) (Re.c2 (M5 _ (by omega) (by omega)) (Re.gdd (by unfold A3; omega) (Re.c2 (Ah4 _ (by omega)) (Re.gdd (by unfold A3; omega) (Re.gdd (by rw [D5, D5]; unfold A3; omega) ?_)))))))
    rw [← C22]
    exact ih (i + 1) (by omega) (by omega)
   ·have e : i = h.1.length := by omega
    have g1 := s4 i hi
    rw [e] at g1 ⊢
    refine Re.c2 (M5 _ (by omega) (by omega)) (Re.gdd (by rw [D5, D5]; unfold A3; omega) ?_)
    rw [← C22]; exact two) 0 (Nat.zero_le _)
  exact this
end Go.Vm
end
section
namespace Go.Vm
open Go
def Fj4 (r : A8) (a : List ByteArray) (i : Nat) : List ByteArray := if (rd D3 r.1 i).2.1 = 5 ∧ rd false r.2.2.1 i = true then a ++ [(rd D3 r.1 i).2.2.2.2.2.2.1] else a
def F85 (r : A8) : Nat → List ByteArray
 | 0 => []
 | i + 1 => Fj4 r (F85 r i) i
theorem F86 (r : A8) : ∀ i, (F85 r i).length ≤ i
 | 0 => Nat.le_refl _
 | i + 1 => by
  have := F86 r i
  unfold F85 Fj4
  split <;> simp <;> omega
def V0 (es : List A0) (s : List A1) : Nat → List Int
 | 0 => []
 | u + 1 => if L6 es s ((u + 1 : Nat) : Int) = 2 then V0 es s u ++ [((u + 1 : Nat) : Int)] else V0 es s u
theorem Bf8 (es : List A0) (s : List A1) : ∀ n : Nat, (V0 es s n).length ≤ n ∧ ∀ x, x ∈ V0 es s n ↔ (1 ≤ x ∧ x ≤ n) ∧ L6 es s x = 2
 | 0 => ⟨Nat.le_refl _, fun x => by simp [V0]; omega⟩
 | n + 1 => by
  obtain ⟨h1, h2⟩ := Bf8 es s n
  unfold V0
  by_cases q : L6 es s ((n + 1 : Nat) : Int) = 2
  ·rw [if_pos q]
   refine ⟨by simp; omega, fun x => ?_⟩
   rw [List.mem_append, List.mem_singleton, h2]
   constructor
   ·rintro (⟨a, b⟩ | a)
    ·exact ⟨by omega, b⟩
    ·exact ⟨by omega, by rw [a]; exact q⟩
   ·rintro ⟨a, b⟩
    by_cases e : x = ((n + 1 : Nat) : Int)
    ·exact .inr e
    ·exact .inl ⟨by omega, b⟩
  ·rw [if_neg q]
   refine ⟨by omega, fun x => ?_⟩
   rw [h2]
   constructor
   ·rintro ⟨a, b⟩; exact ⟨by omega, b⟩
   ·rintro ⟨a, b⟩
    by_cases e : x = ((n + 1 : Nat) : Int)
    ·rw [e] at b; exact absurd b q
    ·exact ⟨by omega, b⟩
end Go.Vm
end
section
namespace Go.Vm
open Go
theorem Cp1 (r : A8) (h : RoomI r) (e : A0) (hm : I8 e ≤ 1048576) (hp : e.2.2.2.2.2.2.2.1.length ≤ 1000) : Ev (fun k => Aw5 k r e) (j3 r e) := by
 have hsl := h.sl
 have hgl := h.gl
 refine Re.eq (Re.brn (fun q => absurd (by rw [hsl]) q) (fun _ => Re.brn (fun q => absurd (by rw [hgl]) q) (fun _ => Re.c1 (Fi9 r h e hm hp) ?_)))
 have hR : RoomI (j3 r e).1 := by
  cases ho : (j3 r e).2 with
  | true => exact (Ck8 h hp ho).1
  | false =>
   have : (j3 r e).1 = ([], [], [], ()) := by
    unfold j3 at ho ⊢
    cases hq : (N5 r e.2.2.2.2.2.2.2.1).2 && (O5 e && (decide (Bj3 r.1 e.1 < 0) && (decide (e.2.2.2.2.2.2.2.2.1 = c7 r.1 e.2.2.2.2.2.2.2.1) && decide (r.1.length < 40)))) with
    | true => rw [hq] at ho; cases ho
    | false => rfl
   rw [this]; exact Dq7
 exact Re.c1 (C19 _ hR) (Re.ret rfl)
end Go.Vm
end
section
namespace Go.Vm
open Go
def Ah6 (es : List A0) : List Int := (Ac2 es).drop ((Ac2 es).length - 3)
theorem B23 (es : List A0) : (Ah6 es).length ≤ 3 := by
 unfold Ah6
 rw [List.length_drop]
 omega
theorem Hd2 (es : List A0) : (Ac2 es).length ≤ es.length := by
 have := Ac3 es es []
 simpa [Ac2] using this
def Hd3 (r : A8) (id : Int) (e : A0) (prev : List Int) : A0 := (id, e.2.1, e.2.2.1, e.2.2.2.1, e.2.2.2.2.1, e.2.2.2.2.2.1, e.2.2.2.2.2.2.1, prev, c7 r.1 prev, ())
def A63 (r : A8) (idx : Int) (e : A0) : A0 := Hd3 r (bif Z7 idx 0 1000000 then B4 (2 * idx) else 0) e (if e.2.1 = 1 then [] else Ah6 r.1)
theorem En9 (r : A8) (h : RoomI r) (id : Int) (e : A0) : Re (fun k : Nat => br (e.2.1 != 1) (bd (Ap0 k r) fun r3 => (br (decide ((B4 ((r3.length : Int) - 3)) < 0)) (gd (decide (0 ≤ (r3.length : Int))) (gd (decide (([] : List Int).length + (r3.drop 0).length ≤ A3)) (bd (J9 k r (([] : List Int) ++ (r3.drop 0))) fun r4 => (some (id, e.2.1, e.2.2.1, e.2.2.2.1, e.2.2.2.2.1, e.2.2.2.2.2.1, e.2.2.2.2.2.2.1, (([] : List Int) ++ (r3.drop 0)), r4, ()))))) (gd (decide (0 ≤ (B4 ((r3.length : Int) - 3)))) (gd (decide ((B4 ((r3.length : Int) - 3)) ≤ (r3.length : Int))) (gd (decide (([] : List Int).length + (r3.drop (B4 ((r3.length : Int) - 3)).toNat).length ≤ A3)) (bd (J9 k r (([] : List Int) ++ (r3.drop (B4 ((r3.length : Int) - 3)).toNat))) fun r5 => (some (id, e.2.1, e.2.2.1, e.2.2.2.1, e.2.2.2.2.1, e.2.2.2.2.2.1, e.2.2.2.2.2.2.1, (([] : List Int) ++ (r3.drop (B4 ((r3.length : Int) - 3)).toNat)), r5, ())))))))) (bd (J9 k r []) fun r6 => (some (id, e.2.1, e.2.2.1, e.2.2.2.1, e.2.2.2.2.1, e.2.2.2.2.2.1, e.2.2.2.2.2.2.1, [], r6, ()))))
  (fun v => v = Hd3 r id e (if e.2.1 = 1 then [] else Ah6 r.1)) := by
 have hl := h.len
 have he := Hd2 r.1
 have hp := Cc5 r h.prevS
 have hl' : r.1.length ≤ 1048576 := by omega
 refine Re.br (fun q => ?_) (fun q => ?_)
 ·have hn : e.2.1 ≠ 1 := by simpa using q
  rw [if_neg hn]
  refine Re.c1 hp ?_
  have hw : B4 (((Ac2 r.1).length : Int) - 3) = ((Ac2 r.1).length : Int) - 3 := D7 (by omega) (by omega)
  rw [hw]
  have e1 : ([] : List Int) ++ (Ac2 r.1).drop (((Ac2 r.1).length : Int) - 3).toNat = Ah6 r.1 := by
   unfold Ah6
   rw [List.nil_append, show (((Ac2 r.1).length : Int) - 3).toNat = (Ac2 r.1).length - 3 by omega]
  refine Re.brd (fun g => ?_) (fun g => ?_)
  ·have e0 : ([] : List Int) ++ (Ac2 r.1).drop 0 = Ah6 r.1 := by
    unfold Ah6
    rw [List.nil_append, show (Ac2 r.1).length - 3 = 0 by omega]
   rw [e0]
   refine Re.gdd (by omega) (Re.gdd (by simp; unfold A3; omega) (Re.c1 (Af5 r hl' _ (by have := B23 r.1; omega)) (Re.ret rfl)))
  ·rw [e1]
   refine Re.gdd (by omega) (Re.gdd (by omega) (Re.gdd (by simp; unfold A3; omega) (Re.c1 (Af5 r hl' _ (by have := B23 r.1; omega)) (Re.ret rfl))))
 ·have hn : e.2.1 = 1 := by simpa using q
  rw [if_pos hn]
  exact Re.c1 (Af5 r hl' [] (by simp)) (Re.ret rfl)
theorem F87 (r : A8) (h : RoomI r) (idx : Int) (e : A0) (g1 : e.2.2.2.2.2.1.length ≤ 1048576) (g2 : e.2.2.2.2.2.2.2.1.length ≤ 1048576) : Ev (fun k => Cz9 k r idx e) (A63 r idx e) := by
 refine Re.eq (Re.s1 (C18 · e g1 g2) (Re.s1 (H1 · _ _ _) ?_))
 unfold A63
 cases Z7 idx 0 1000000 with
 | true => exact Re.br (b := true) (fun _ => En9 r h _ e) (fun h => by cases h)
 | false => exact Re.br (b := false) (fun h => by cases h) (fun _ => En9 r h _ e)
end Go.Vm
end
section
namespace Go.Vm
open Go
theorem Hy9 (s : ByteArray) : (⟨#[]⟩ : ByteArray) ++ s = s := by apply A55; simp
theorem Gv4 : ∀ (k m : Nat), m < 10 ^ (k + 1) → (Lib.decDigits m).length ≤ k + 1
 | 0, m, h => by rw [Lib.decDigits, dif_pos (by simpa using h)]; exact Nat.le_refl 1
 | k + 1, m, h => by
  rw [Lib.decDigits]
  split
  ·simp
  ·have : m / 10 < 10 ^ (k + 1) := by rw [Nat.div_lt_iff_lt_mul (by decide)]; rwa [Nat.pow_succ] at h
   have := Gv4 k (m / 10) this
   simp; omega
theorem Bv1 {m : Nat} (h : m < 10000000000) : (W5 m).size ≤ 10 := by
 have := Gv4 9 m (by simpa using h)
 simpa [W5, ByteArray.size] using this
def Fj5 (m : Nat) : ByteArray := if m = 0 then ⟨#[]⟩ else W5 m
theorem G13 {m : Nat} (h : m ≠ 0) : Fj5 m = Fj5 (m / 10) ++ ⟨#[UInt8.ofNat (48 + m % 10)]⟩ := by
 unfold Fj5 W5
 rw [if_neg h]
 by_cases q : m < 10
 ·rw [if_pos (by omega), Lib.decDigits, dif_pos q, Nat.mod_eq_of_lt q]
  apply A55; simp
 ·rw [if_neg (by omega), Lib.decDigits, dif_neg q]
  apply A55; simp
theorem Hv3 {d : Nat} (h : d < 10) (k : Nat) : Ab4 k (d : Int) = some ((48 + d : Nat) : Int) := by
 unfold Ab4
 have h1 : ((d : Nat) : Int) < 10 := by omega
 rw [decide_eq_true h1]
 have e : B4 (48 + (d : Int)) = 48 + d := D7 (by omega) (by omega)
 have e2 : IntKind.wrap .u8 (48 + (d : Int)) = 48 + d := Fh0 (by omega) (by omega)
 show some (IntKind.wrap .u8 (B4 (48 + (d : Int)))) = _
 rw [e, e2]
 rfl
theorem Fj6 (m : Nat) (h : m < 10000000000) : Ev (fun k => W9 k (m : Int)) (W5 m) := by
 refine Re.eq (Re.bre (fun q => Re.ret ?_) (fun q => ?_))
 ·have : m = 0 := by omega
  subst this
  unfold W5
  rw [Lib.decDigits, dif_pos (by decide)]
  rfl
 ·rw [show decide ((m : Int) < 0) = false from decide_eq_false (by omega)]
  refine Re.enter (f := fun k n => m8 k n (m : Int) false (⟨#[]⟩ : ByteArray)) C6 ?_
  have hd : Fj5 m = W5 m := by unfold Fj5; rw [if_neg (by omega)]
  have hs : (Fj5 m).size ≤ 10 := by rw [hd]; exact Bv1 h
  have := Re.loop (ι := Nat) (l := fun k n (s : Nat × ByteArray) => m8 k n (s.1 : Int) false s.2) (I := fun s => s.1 < 10000000000 ∧ Fj5 s.1 ++ s.2 = Fj5 m) (fun s => s.1) (Q := fun _ v => v = W5 m) (fun s hi ih => by
   obtain ⟨p, v⟩ := s
   obtain ⟨h1, h2⟩ := hi
   simp only at h1 h2 ih ⊢
   simp only [m8, Bz6]
   have hv : v.size ≤ 10 := by have := congrArg ByteArray.size h2; rw [G0] at this; omega
   refine Re.brn (fun q => ?_) (fun q => ?_)
   ·have hp : p ≠ 0 := by omega
    have em : Int.tmod (p : Int) 10 = ((p % 10 : Nat) : Int) := by rw [Int.tmod_eq_emod_of_nonneg (by omega)]; omega
    have ed : B4 (Int.tdiv (p : Int) 10) = ((p / 10 : Nat) : Int) := by rw [Int.tdiv_eq_ediv_of_nonneg (by omega), D7 (by omega) (by omega)]; omega
    have e10 : ((10 : Int) == 0) = false := rfl
    simp only [em, ed, e10, Bool.and_false]
    refine Re.ng rfl (Re.brd (fun g => by omega) (fun _ => Re.s2 (Hv3 (show p % 10 < 10 by omega) ·) (Re.gdd (by rw [H4]; simp [A3]; omega) (Re.ng rfl ?_))))
    refine ih (p / 10, _) ⟨by simp only; omega, ?_⟩ (by simp only; omega)
    rw [← h2, G13 hp, ByteArray.append_assoc]
    rfl
   ·have hp : p = 0 := by omega
    subst hp
    refine Re.br (b := false) (fun h => by cases h) (fun _ => Re.ret ?_)
    rw [← hd, ← h2]
    show v = (⟨#[]⟩ : ByteArray) ++ v
    rw [Hy9]) (m, ⟨#[]⟩) ⟨h, Hv1 _⟩
  exact this
theorem Gv5 (n : Int) (h : 0 ≤ n ∧ n ≤ 9000000000) : Ev (fun k => W9 k n) (W5 n.toNat) := by
 obtain ⟨m, rfl⟩ : ∃ m : Nat, n = m := ⟨n.toNat, (Int.toNat_of_nonneg h.1).symm⟩
 exact Fj6 m (by omega)
theorem C24 {n : Int} (h : 0 ≤ n ∧ n ≤ 9000000000) : (W5 n.toNat).size ≤ 10 := Bv1 (by omega)
abbrev Eo0 : ByteArray := ⟨#[111, 112, 101, 110, 32]⟩
abbrev C25 : ByteArray := ⟨#[110, 111, 110, 101]⟩
abbrev Hz0 : ByteArray := ⟨#[103, 97, 112]⟩
abbrev Hp0 : ByteArray := ⟨#[111, 108, 100]⟩
abbrev Gv6 : ByteArray := ⟨#[114, 111, 111, 109]⟩
abbrev Gv7 : ByteArray := ⟨#[100, 101, 110, 105, 101, 100]⟩
abbrev Eo1 : ByteArray := ⟨#[115, 101, 110, 116, 32]⟩
abbrev Hz1 : ByteArray := ⟨#[103, 111, 116, 32]⟩
abbrev Hs4 : ByteArray := ⟨#[107, 101, 112, 116, 32]⟩
abbrev A64 : ByteArray := ⟨#[97, 99, 107, 101, 100]⟩
def Hd4 : C2 := ([], ([], [], [], ()), [], ())
def Bv2 (r : A8) : Bool := rd false r.2.2.1 (r.2.2.1.length - 1)
def C26 (id : Int) (o : K8) : K8 := (o.1, o.2.1, o.2.2.1 ++ [id], ())
def Ea3 (o : K8) (upto : Int) : K8 := (o.1, (if (if upto > o.2.2.1.length then (o.2.2.1.length : Int) else upto) > o.2.1 then (if upto > o.2.2.1.length then (o.2.2.1.length : Int) else upto) else o.2.1), o.2.2)
def inT (us : List Int) (n : Nat) : ByteArray := (us.take n).foldl (fun s u => (s ++ (⟨#[32]⟩ : ByteArray)) ++ W5 u.toNat) (⟨#[105, 110]⟩ : ByteArray)
noncomputable def doL (r : A8) (os : List K8) (idx : Int) (x : D2) : (A8 × List K8) × ByteArray :=
 if x.1 = 2 then (if (j3 r (A63 r idx x.2.2.2.1)).2 = false then ((r, os), Gv6) else if Bv2 (j3 r (A63 r idx x.2.2.2.1)).1 = false then ((r, os), Gv7)
  else (((j3 r (A63 r idx x.2.2.2.1)).1, os.map (C26 (A63 r idx x.2.2.2.1).1)), Eo1 ++ W5 (A63 r idx x.2.2.2.1).1.toNat))
 else if x.1 = 3 then (if (j3 r x.2.2.2.1).2 = false then ((r, os), Gv6) else (((j3 r x.2.2.2.1).1, os), (if Bv2 (j3 r x.2.2.2.1).1 = true then Hz1 else Hs4) ++ W5 x.2.2.2.1.1.toNat))
 else if x.1 = 4 then ((r, os.set (x.2.2.2.2.1 - 1).toNat (Ea3 (rd H8 os (x.2.2.2.2.1 - 1).toNat) x.2.2.2.2.2.1)), A64)
 else ((r, os), inT (V0 r.1 (Cd5 r) 5) (V0 r.1 (Cd5 r) 5).length)
def C99 (ss : List D9) (i : Nat) (seq : Int) (t : ByteArray) : List D9 := ss.set i ((rd A9 ss i).1, seq, t, ())
noncomputable def Hd5 (h : C2) (i : Nat) (idx : Int) (x : D2) : C2 × ByteArray :=
 if x.2.2.1 > (rd A9 h.1 i).2.1 + 1 then (h, Hz0)
 else if x.2.2.1 < (rd A9 h.1 i).2.1 ∨ x.2.2.1 = 0 then (h, Hp0)
 else if x.2.2.1 = (rd A9 h.1 i).2.1 then (h, (rd A9 h.1 i).2.2.1)
 else ((C99 h.1 i x.2.2.1 (doL h.2.1 h.2.2.1 idx x).2, (doL h.2.1 h.2.2.1 idx x).1.1, (doL h.2.1 h.2.2.1 idx x).1.2, ()), (doL h.2.1 h.2.2.1 idx x).2)
def Dm0 (ss : List D9) (tok : Int) : Nat := ss.findIdx fun s => s.1 == tok
def Cp2 (ss : List D9) (idx : Int) : List D9 := (if ss.length < 3 then ss else ss.drop 1) ++ [(idx, 0, ByteArray.empty, ())]
noncomputable def Dg9 (h : C2) (idx : Int) (x : D2) : C2 × ByteArray :=
 if x.1 = 1 then ((Cp2 h.1 idx, h.2.1, h.2.2.1, ()), Eo0 ++ W5 idx.toNat)
 else if Dm0 h.1 x.2.1 < h.1.length then Hd5 h (Dm0 h.1 x.2.1) idx x else (h, C25)
noncomputable def B24 (q : C2 × ByteArray) : C2 × ByteArray × Bool := bif S3 q.1 then (q.1, q.2, true) else (Hd4, (⟨#[]⟩ : ByteArray), false)
noncomputable def A17 (h : C2) (idx : Int) (x : D2) : C2 × ByteArray × Bool :=
 bif S3 h && (S6 x && Z7 idx 1 400000) then B24 (Dg9 h idx x) else (Hd4, (⟨#[]⟩ : ByteArray), false)
theorem RoomI.m2 {r : A8} (h : RoomI r) : Bp3 r ≤ 50000 := by
 have hl := h.len
 have hsl := h.sl
 have hgl := h.gl
 have s1 : (r.1.map I8).sum ≤ r.1.length * 1000 := Cu4 I8 1000 r.1 fun e he => (U8 (h.ev e he)).2
 have s2 : (r.2.1.map A93).sum ≤ r.2.1.length * 16 := Cu4 A93 16 r.2.1 fun s hs => by
  obtain ⟨i, hi, rfl⟩ := List.getElem_of_mem hs
  have := h.st i hi
  rw [E8 hi] at this
  exact this
 unfold Bp3 Ap6 Cc2 C08
 omega
structure FewH (ss : List D9) (os : List K8) : Prop where
 nS : ss.length ≤ 10
 ses : ∀ s ∈ ss, s.2.2.1.size ≤ 1000
 nO : os.length ≤ 2
 out : ∀ o ∈ os, o.2.2.1.length ≤ 1000
theorem FewH.m {ss : List D9} {r : A8} {os : List K8} (h : FewH ss os) (hr : RoomI r) : B10 (ss, r, os, ()) ≤ 1048576 := by
 obtain ⟨h1, h2, h3, h4⟩ := h
 have s1 : (ss.map Dq6).sum ≤ ss.length * 1000 := Cu4 Dq6 1000 ss fun s hs => by have := h2 s hs; unfold Dq6; omega
 have s2 : (os.map En0).sum ≤ os.length * 1000 := Cu4 En0 1000 os fun o ho => by have := h4 o ho; unfold En0 C90; omega
 have := hr.m2
 unfold B10 Dw0 F70
 simp only
 omega
theorem Ax8 {h : C2} (hk : S3 h = true) : FewH h.1 h.2.2.1 ∧ RoomI h.2.1 := by
  have hf := Aq0 hk
  obtain ⟨h1, h2, h3, h4, h5⟩ := hf
  refine ⟨⟨by omega, fun s hs => ?_, h4, fun o ho => ?_⟩, h3⟩
  · obtain ⟨i, hi, rfl⟩ := List.getElem_of_mem hs
    have := (h2 i hi).2.2
    rw [E8 hi] at this
    omega
  · unfold S3 at hk
    simp only [Bool.and_eq_true, Bool.not_eq_true', decide_eq_false_iff_not, Bool.and_true] at hk
    obtain ⟨i, hi, rfl⟩ := List.getElem_of_mem ho
    have := Ah2.1 hk.2.2.2.2 i hi
    unfold Fj2 at this
    simp only [Bool.and_eq_true] at this
    have h6 := of_decide_eq_true this.2.1
    have h7 := Bv0 h.2.1 h.2.1.1.length
    have := h3.len
    rw [E8 hi] at h6
    rw [h6]; omega
theorem Hp1 {h : C2} (hk : S3 h = true) : h.2.2.1.length = 2 ∧ ∀ i, i < h.2.2.1.length → (rd H8 h.2.2.1 i).1 = ((i + 1 : Nat) : Int) ∧ (rd H8 h.2.2.1 i).2.2.1 = B75 h.2.1 h.2.1.1.length ∧ 0 ≤ (rd H8 h.2.2.1 i).2.1 ∧ (rd H8 h.2.2.1 i).2.1 ≤ (B75 h.2.1 h.2.1.1.length).length := by
  unfold S3 at hk
  simp only [Bool.and_eq_true, Bool.not_eq_true', decide_eq_false_iff_not, Bool.and_true] at hk
  obtain ⟨h1, h2, h3, h4, h5⟩ := hk
  refine ⟨by have : (h.2.2.1.length : Int) = 2 := by simpa using h2
             omega, fun i hi => ?_⟩
  have := Ah2.1 h5 i hi
  unfold Fj2 at this
  simp only [Bool.and_eq_true] at this
  obtain ⟨g1, g2, g3⟩ := this
  exact ⟨by simpa using g1, of_decide_eq_true g2, G4.1 g3⟩
theorem C27 (h : C2) (hs : FewH h.1 h.2.2.1) (hr : RoomI h.2.1) : Ev (fun k => Am3 k h) h := by
 obtain ⟨h1, h2, h3, h4⟩ := hs
 refine Re.eq (Re.gdd (by simp only [List.length_nil]; unfold A3; omega) (Re.c1 (C19 _ hr) ?_))
 refine Re.enter (f := fun k n => n6 k n 0 h h.2.1 []) C6 ?_
 have := Re.loop (ι := Nat) (l := fun k n (i : Nat) => n6 k n (i : Int) h h.2.1 (h.2.2.1.take i)) (I := fun i => i ≤ h.2.2.1.length) (fun i => h.2.2.1.length - i) (Q := fun _ v => v = h) (fun i hi ih => by
  simp only [n6, Bz8, List.nil_append]
  refine Re.brd (fun g => ?_) (fun g => Re.ret (by rw [List.take_of_length_le (by omega)]))
  have hl : i < h.2.2.1.length := by omega
  have ho := h4 (rd H8 h.2.2.1 i) (by rw [E8 hl]; exact List.getElem_mem _)
  simp only [Int.toNat_natCast]
  refine Re.gdd (by omega) (Re.gdd g (Re.gdd (by simp [A3] <;> omega) (Re.gdd (by simp [A3] <;> omega) ?_)))
  rw [C9 hl (by omega)]
  have next := ih (i + 1) (by omega) (by omega)
  rw [List.take_add_one, List.getElem?_eq_getElem hl] at next
  rw [E8 hl]
  exact next) 0 (Nat.zero_le _)
 exact this
theorem F88 (q : C2 × ByteArray) (hs : FewH q.1.1 q.1.2.2.1) (hr : RoomI q.1.2.1) {ι : Type} [Fuel ι] {κ : ι → Nat} (hκ : Du1 κ) : Re (fun x : ι => bd (Ao8 (κ x) q.1) fun r16 => (br (!r16) (some (([], ([], [], [], ()), [], ()), (⟨#[]⟩ : ByteArray), false)) (bd (Am3 (κ x) q.1) fun r17 => (some (r17, q.2, true))))) (fun v => v = B24 q) := by
 refine Re.call hκ (B22 q.1 (hs.m hr)) ?_
 unfold B24
 cases hk : S3 q.1 with
 | false => exact Re.br (b := true) (fun _ => Re.ret rfl) (fun h => by cases h)
 | true => exact Re.br (b := false) (fun h => by cases h) (fun _ => Re.call hκ (C27 q.1 hs hr) (Re.ret rfl))
theorem Ev2 (idx : Int) (x : D2) (ss : List D9) (r : A8) (os : List K8) (t : ByteArray) (hs : FewH ss os) (hr : RoomI r) (v : Int) (hv : (ss.length : Int) ≤ v) :
  Re (fun y : Nat × Nat => I0 y.1 y.2 idx t v x ss r.1 r.2.1 r.2.2.1 os) (fun w => w = B24 ((ss, r, os, ()), t)) := by
 have := Re.loop (ι := Nat) (l := fun k n (_ : Unit) => I0 k n idx t v x ss r.1 r.2.1 r.2.2.1 os) (I := fun _ => True) (fun _ => 0) (Q := fun _ w => w = B24 ((ss, r, os, ()), t)) (fun _ _ _ => by
  simp only [B01, Ae6]
  refine Re.brd (fun h => absurd h (by omega)) (fun _ => ?_)
  exact F88 ((ss, r, os, ()), t) hs hr (κ := fun y : Nat × Nat => y.1) (Bb7 C6)) () trivial
 exact this
theorem Hd6 {α : Type} {d : α} {xs : List α} {i : Nat} (h : i < xs.length) : xs.set i (rd d xs i) = xs := by
 rw [E8 h]
 exact List.set_getElem_self h
theorem F89 {ss : List D9} {os : List K8} (h : FewH ss os) {os' : List K8} (h3 : os'.length ≤ 2) (h4 : ∀ o ∈ os', o.2.2.1.length ≤ 1000) {i : Nat} {q : Int} {t : ByteArray} (ht : t.size ≤ 1000) : FewH (C99 ss i q t) os' := by
 refine ⟨by unfold C99; rw [List.length_set]; exact h.nS, fun s hs => ?_, h3, h4⟩
 unfold C99 at hs
 rcases List.mem_or_eq_of_mem_set hs with hs | rfl
 ·exact h.ses s hs
 ·exact ht
section
variable {idx : Int} {x : D2} {ss : List D9} {r : A8} {os : List K8} {i : Nat}
theorem Cd7 (hs : FewH ss os) {os' : List K8} (h3 : os'.length ≤ 2) (h4 : ∀ o ∈ os', o.2.2.1.length ≤ 1000) {r' : A8} (hr : RoomI r') (hi : i < ss.length) {t : ByteArray} (ht : t.size ≤ 1000) :
  Re (fun y : Nat × Nat => gd (decide (0 ≤ (i : Int))) (gd (decide ((i : Int) < (ss.length : Int))) (I0 y.1 y.2 idx t (B4 ((((ss.set i ((rd A9 ss i).1, x.2.2.1, t, ())).length : Nat) : Int) + 1)) x (ss.set i ((rd A9 ss i).1, x.2.2.1, t, ())) r'.1 r'.2.1 r'.2.2.1 os'))) (fun w => w = B24 ((C99 ss i x.2.2.1 t, r', os', ()), t)) := by
 have hn := hs.nS
 refine Re.gdd (by omega) (Re.gdd (by omega) ?_)
 refine Ev2 idx x (C99 ss i x.2.2.1 t) r' os' t (F89 hs h3 h4 ht) hr _ ?_
 rw [D7 (by simp; omega) (by simp; omega)]
 unfold C99
 omega
theorem Hz2 (hs : FewH ss os) {q : A8 × Bool} (hr : RoomI q.1) (hi : i < ss.length) {d : A0} (hd : 0 ≤ d.1 ∧ d.1 ≤ 9000000000) (h4 : ∀ o ∈ os, o.2.2.1.length ≤ 900) (v3 : ByteArray) :
  Re (fun y : Nat × Nat => Ae7 y.1 y.2 0 d x ss (i : Int) q os idx v3) (fun w => w = B24 ((C99 ss i x.2.2.1 (Eo1 ++ W5 d.1.toNat), q.1, os.map (C26 d.1), ()), Eo1 ++ W5 d.1.toNat)) := by
 have hn := hs.nS
 have hno := hs.nO
 have := Re.loop (ι := Nat) (l := fun k n (j : Nat) => Ae7 k n (j : Int) d x ss (i : Int) q ((os.take j).map (C26 d.1) ++ os.drop j) idx v3) (I := fun j => j ≤ os.length) (fun j => os.length - j)
  (Q := fun _ w => w = B24 ((C99 ss i x.2.2.1 (Eo1 ++ W5 d.1.toNat), q.1, os.map (C26 d.1), ()), Eo1 ++ W5 d.1.toNat)) (fun j hj ih => by
  simp only [Et7, A89, List.nil_append, Int.toNat_natCast]
  have ab : ((os.take j).map (C26 d.1) ++ os.drop j).length = os.length := by simp; omega
  rw [ab]
  refine Re.brd (fun g => ?_) (fun g => ?_)
  ·have hl : j < os.length := by omega
   have hrd : rd H8 ((os.take j).map (C26 d.1) ++ os.drop j) j = rd H8 os j := by
    have e0 : ((os.take j).map (C26 d.1)).length = j := by simp; omega
    unfold rd
    rw [List.getD_eq_getElem?_getD, List.getElem?_append_right (by omega), e0, Nat.sub_self, List.getElem?_drop, Nat.add_zero, List.getD_eq_getElem?_getD]
   have ho := h4 (rd H8 os j) (by rw [E8 hl]; exact List.getElem_mem _)
   simp only [hrd]
   refine Re.gdd (by omega) (Re.gdd g (Re.gdd (by simp [A3] <;> omega) (Re.gdd (by simp [A3] <;> omega) (Re.gdd (by omega) (Re.gdd g ?_)))))
   rw [C9 hl (by omega)]
   have next := ih (j + 1) (by omega) (by omega)
   have hset : ((os.take j).map (C26 d.1) ++ os.drop j).set j ((rd H8 os j).1, (rd H8 os j).2.1, (rd H8 os j).2.2.1 ++ [d.1], ()) = (os.take (j + 1)).map (C26 d.1) ++ os.drop (j + 1) := by
    have e0 : ((os.take j).map (C26 d.1)).length = j := by simp; omega
    rw [List.set_append_right _ _ (by omega), e0, Nat.sub_self, Gv3 (d := H8) hl, List.set_cons_zero, List.take_add_one, List.getElem?_eq_getElem hl, List.map_append, List.append_assoc, E8 hl]
    rfl
   rw [hset]
   exact next
  ·have hl : j = os.length := by omega
   subst hl
   have e0 : (os.take os.length).map (C26 d.1) ++ os.drop os.length = os.map (C26 d.1) := by simp
   rw [e0]
   have hz := C24 hd
   refine Re.c2 (Gv5 d.1 hd) (Re.gdd (by show 5 + (W5 d.1.toNat).size ≤ A3; unfold A3; omega) ?_)
   refine Cd7 (os' := os.map (C26 d.1)) hs (by simpa using hno) (fun o ho => ?_) hr hi (t := Eo1 ++ W5 d.1.toNat) (by rw [G0]; show 5 + _ ≤ 1000; omega)
   obtain ⟨o', ho', rfl⟩ := List.mem_map.1 ho
   have := h4 o' ho'
   simp [C26]; omega) 0 (Nat.zero_le _)
 exact this
theorem Hd7 {us : List Int} (hu : ∀ u ∈ us, 0 ≤ u ∧ u ≤ 9000000000) : ∀ n, (inT us n).size ≤ 2 + 11 * n := by
 intro n
 induction n with
 | zero => exact Nat.le_refl 2
 | succ n ih =>
  by_cases q : n < us.length
  ·unfold inT at ih ⊢
   rw [List.take_add_one, List.getElem?_eq_getElem q, List.foldl_append]
   have hz := Bv1 (m := us[n].toNat) (by have := hu _ (List.getElem_mem q); omega)
   show (_ ++ (⟨#[32]⟩ : ByteArray) ++ W5 us[n].toNat).size ≤ _
   rw [G0, G0]
   show _ + 1 + _ ≤ _
   omega
  ·unfold inT at ih ⊢
   rw [List.take_of_length_le (by omega)] at ih ⊢
   omega
theorem Hz3 (hs : FewH ss os) (hr : RoomI r) (hi : i < ss.length) {us : List Int} (hu : ∀ u ∈ us, 0 ≤ u ∧ u ≤ 9000000000) (hl : us.length ≤ 5) (v3 : ByteArray) :
  Re (fun y : Nat × Nat => Ae8 y.1 y.2 (⟨#[105, 110]⟩ : ByteArray) 0 us x ss (i : Int) r.1 r.2.1 r.2.2.1 os idx v3) (fun w => w = B24 ((C99 ss i x.2.2.1 (inT us us.length), r, os, ()), inT us us.length)) := by
 have hn := hs.nS
 have := Re.loop (ι := Nat) (l := fun k n (j : Nat) => Ae8 k n (inT us j) (j : Int) us x ss (i : Int) r.1 r.2.1 r.2.2.1 os idx v3) (I := fun j => j ≤ us.length) (fun j => us.length - j)
  (Q := fun _ w => w = B24 ((C99 ss i x.2.2.1 (inT us us.length), r, os, ()), inT us us.length)) (fun j hj ih => by
  simp only [Et8, A90, Int.toNat_natCast]
  have hz := Hd7 hu j
  refine Re.brd (fun g => ?_) (fun g => ?_)
  ·have hlj : j < us.length := by omega
   have hb := hu (rd 0 us j) (by rw [E8 hlj]; exact List.getElem_mem _)
   have hzm := C24 hb
   refine Re.gdd (by show _ + 1 ≤ A3; unfold A3; omega) (Re.gdd (by omega) (Re.gdd g (Re.c2 (Gv5 _ hb) (Re.gdd (by rw [G0]; show _ + 1 + _ ≤ A3; unfold A3; omega) ?_))))
   rw [C9 hlj (by omega)]
   have next := ih (j + 1) (by omega) (by omega)
   have e : inT us (j + 1) = (inT us j ++ (⟨#[32]⟩ : ByteArray)) ++ W5 (rd 0 us j).toNat := by
    unfold inT
    rw [List.take_add_one, List.getElem?_eq_getElem hlj, List.foldl_append, E8 hlj]
    rfl
   rw [e] at next
   exact next
  ·have : j = us.length := by omega
   subst this
   exact Cd7 (os' := os) hs hs.nO hs.out hr hi (t := inT us us.length) (by omega)) 0 (Nat.zero_le _)
 exact this
end
end Go.Vm
end
section
namespace Go.Vm
open Go
theorem Ev3 (r : A8) (h : RoomI r) : Ev (fun k => Bu0 k r) (V0 r.1 (Cd5 r) 5) := by
 have hsl := Ea0 h
 have ab := h.len
 refine Re.eq (Re.c1 (Eu9 r h) ?_)
 generalize Cd5 r = s at hsl ⊢
 refine Re.enter (f := fun k n => n7 k n 1 r [] s) C6 ?_
 have := Re.loop (ι := Nat) (l := fun k n (i : Nat) => n7 k n ((i + 1 : Nat) : Int) r (V0 r.1 s i) s) (I := fun i => i ≤ 5) (fun i => 5 - i) (Q := fun _ v => v = V0 r.1 s 5) (fun i hi ih => by
  simp only [n7, Bz9]
  refine Re.brd (fun g => ?_) (fun g => Re.ret (by rw [show i = 5 by omega]))
  have hm := (Bf8 r.1 s i).1
  have next := ih (i + 1) (by omega) (by omega)
  have e2 : B4 (((i + 1 : Nat) : Int) + 1) = ((i + 1 + 1 : Nat) : Int) := by rw [D7 (by omega) (by omega)]; omega
  rw [e2]
  refine Re.c2 (U7 r.1 s ⟨by omega, by omega⟩ _) ?_
  unfold V0 at next
  refine Re.bre (fun q => ?_) (fun q => ?_)
  ·rw [if_pos q] at next
   exact Re.gdd (by simp [A3]; omega) next
  ·rw [if_neg q] at next; exact next) 0 (Nat.zero_le _)
 exact this
theorem Hd8 {x : D2} (h : S6 x = true) : (0 ≤ x.2.1 ∧ x.2.1 ≤ 1000000) ∧ (0 ≤ x.2.2.1 ∧ x.2.2.1 ≤ 1000000) := by
 unfold S6 at h
 simp only [Bool.and_eq_true] at h
 exact ⟨G4.1 h.1.1, G4.1 h.1.2⟩
theorem Hd9 {x : D2} (h : S6 x = true) (h2 : x.1 = 2) : C92 x.2.2.2.1 = true := by
 unfold S6 at h
 rw [h2] at h
 simp only [Bool.and_eq_true] at h
 have := h.2
 simp only [show ((2 : Int) == 1) = false from rfl, show ((2 : Int) == 2) = true from rfl, cond_false, cond_true, Bool.and_eq_true] at this
 exact this.2
theorem He0 {x : D2} (h : S6 x = true) (h2 : x.1 = 3) : O5 x.2.2.2.1 = true ∧ odd x.2.2.2.1.1 = true := by
 unfold S6 at h
 rw [h2] at h
 simp only [Bool.and_eq_true] at h
 have := h.2
 simp only [show ((3 : Int) == 1) = false from rfl, show ((3 : Int) == 2) = false from rfl, show ((3 : Int) == 3) = true from rfl, cond_false, cond_true, Bool.and_eq_true] at this
 exact ⟨this.1.2, this.2⟩
theorem Hv5 {x : D2} (h : S6 x = true) (h2 : x.1 = 4) : (1 ≤ x.2.2.2.2.1 ∧ x.2.2.2.2.1 ≤ 2) ∧ 0 ≤ x.2.2.2.2.2.1 ∧ x.2.2.2.2.2.1 ≤ 1000000 := by
 unfold S6 at h
 rw [h2] at h
 simp only [Bool.and_eq_true] at h
 have := h.2
 simp only [show ((4 : Int) == 1) = false from rfl, show ((4 : Int) == 2) = false from rfl, show ((4 : Int) == 3) = false from rfl, show ((4 : Int) == 4) = true from rfl, cond_false, cond_true, Bool.and_eq_true] at this
 exact ⟨G4.1 this.1.2, G4.1 this.2⟩
theorem Dx8 {e : A0} (h : C92 e = true) : e.2.2.2.2.2.1.length ≤ 5 ∧ e.2.2.2.2.2.2.1.size ≤ 24 ∧ e.2.2.2.2.2.2.2.1.length ≤ 3 := by
 unfold C92 at h
 simp only [Bool.and_eq_true] at h
 have hb := B14 h.2
 have h0 : Cl7 (I3 e) = true := h.1.2
 have h1 : (I3 e).length = 0 := by unfold Cl7 at h0; simpa using h0
 exact ⟨hb.2.2.1, hb.2.2.2.1, by show (I3 e).length ≤ 3; omega⟩
theorem Dh0 {r : A8} {idx : Int} {e : A0} (h : C92 e = true) : I8 (A63 r idx e) ≤ 1000 ∧ (A63 r idx e).2.2.2.2.2.2.2.1.length ≤ 3 := by
 obtain ⟨h1, h2, _⟩ := Dx8 h
 have hp : (if e.2.1 = 1 then [] else Ah6 r.1).length ≤ 3 := by
  split
  ·simp
  ·exact B23 _
 refine ⟨?_, hp⟩
 show e.2.2.2.2.2.1.length + (e.2.2.2.2.2.2.1.size + ((if e.2.1 = 1 then [] else Ah6 r.1).length + 0)) ≤ 1000
 omega
theorem He1 {r : A8} {idx : Int} {e : A0} (h : 1 ≤ idx ∧ idx ≤ 400000) : (A63 r idx e).1 = 2 * idx := by
 show (bif Z7 idx 0 1000000 then B4 (2 * idx) else 0) = _
 rw [G4.2 ⟨by omega, by omega⟩]
 exact D7 (by omega) (by omega)
theorem Gv8 {r : A8} (h : RoomI r) {e : A0} (hp : e.2.2.2.2.2.2.2.1.length ≤ 1000) (ho : (j3 r e).2 = true) : RoomI (j3 r e).1 ∧ (j3 r e).1.2.2.1.length = r.1.length + 1 := by
 obtain ⟨h1, h2⟩ := Ck8 h hp ho
 refine ⟨h1, ?_⟩
 rw [h1.gl, h2]
 simp
theorem Eo2 {r : A8} {n : Nat} (h : r.2.2.1.length = n + 1) (hn : n ≤ 1000) : rd false r.2.2.1 (B4 ((r.2.2.1.length : Int) - 1)).toNat = Bv2 r ∧ B4 ((r.2.2.1.length : Int) - 1) = (n : Int) := by
 unfold Bv2
 have e : B4 ((r.2.2.1.length : Int) - 1) = (n : Int) := by rw [D7 (by omega) (by omega)]; omega
 rw [e]
 exact ⟨by congr 1; omega, rfl⟩
theorem G15 {ss : List D9} {tok : Int} {i : Nat} (hi : i < ss.length) (h : i ≤ Dm0 ss tok) : ((rd A9 ss i).1 = tok → Dm0 ss tok = i) ∧ ((rd A9 ss i).1 ≠ tok → i + 1 ≤ Dm0 ss tok) := by
 unfold Dm0 at h ⊢
 rw [E8 hi]
 refine ⟨fun e => ?_, fun e => ?_⟩
 ·rcases Nat.lt_or_ge i (ss.findIdx fun s => s.1 == tok) with q | q
  ·have := List.not_of_lt_findIdx q
   simp [e] at this
  ·exact Nat.le_antisymm q h
 ·rcases Nat.lt_or_ge i (ss.findIdx fun s => s.1 == tok) with q | q
  ·exact q
  ·have e2 : i = ss.findIdx fun s => s.1 == tok := Nat.le_antisymm h q
   have := List.findIdx_getElem (xs := ss) (p := fun s : D9 => s.1 == tok) (w := by rw [← e2]; exact hi)
   simp only [← e2] at this
   exact absurd (by simpa using this) e
theorem Hp2 {ss : List D9} {tok : Int} : Dm0 ss tok ≤ ss.length := List.findIdx_le_length
section
variable {h : C2} {idx : Int} {x : D2}
theorem Hz4 (hk : S3 h = true) (hx : S6 x = true) (h1 : x.1 ≠ 1) (hi : 1 ≤ idx ∧ idx ≤ 400000) :
  Re (fun y : Nat × Nat => I0 y.1 y.2 idx C25 0 x h.1 h.2.1.1 h.2.1.2.1 h.2.1.2.2.1 h.2.2.1) (fun w => w = B24 (Dg9 h idx x)) := by
 obtain ⟨hs, hr⟩ := Ax8 hk
 have hf := Aq0 hk
 have hO := Hp1 hk
 have hn := hs.nS
 have hseq := Hd8 hx
 have hrl := hr.len
 have hids : ∀ o ∈ h.2.2.1, o.2.2.1.length ≤ 900 := fun o ho => by
  obtain ⟨j, hj, rfl⟩ := List.getElem_of_mem ho
  have := (hO.2 j hj).2.1
  have hl := Bv0 h.2.1 h.2.1.1.length
  rw [E8 hj] at this
  rw [this]; omega
 have hd : Dg9 h idx x = if Dm0 h.1 x.2.1 < h.1.length then Hd5 h (Dm0 h.1 x.2.1) idx x else (h, C25) := by unfold Dg9; rw [if_neg h1]
 rw [hd]
 have := Re.loop (ι := Nat) (l := fun k n (i : Nat) => I0 k n idx C25 (i : Int) x h.1 h.2.1.1 h.2.1.2.1 h.2.1.2.2.1 h.2.2.1) (I := fun i => i ≤ h.1.length ∧ i ≤ Dm0 h.1 x.2.1) (fun i => h.1.length - i)
  (Q := fun _ w => w = B24 (if Dm0 h.1 x.2.1 < h.1.length then Hd5 h (Dm0 h.1 x.2.1) idx x else (h, C25))) (fun i hi2 ih => by
  obtain ⟨i1, i2⟩ := hi2
  by_cases q : i < h.1.length
  ·obtain ⟨t1, t2⟩ := G15 q i2
   simp only [B01, Ae6, Int.toNat_natCast]
   have g0 : (0 : Int) ≤ (i : Int) := Int.natCast_nonneg _
   have g1 : (i : Int) < (h.1.length : Int) := Int.ofNat_lt.2 q
   refine Re.brd (fun _ => ?_) (fun g => absurd g1 g)
   refine Re.gdd g0 (Re.gdd g1 (Re.bre (fun e => ?_) (fun e => ?_)))
   ·have et := t1 e
    rw [et, if_pos q]
    have hses := hf.ses i q
    have ew : B4 ((rd A9 h.1 i).2.1 + 1) = (rd A9 h.1 i).2.1 + 1 := D7 (by omega) (by omega)
    have efin : (h.1.length : Int) ≤ B4 ((h.1.length : Int) + 1) := by rw [D7 (by omega) (by omega)]; omega
    simp only [ew]
    unfold Hd5
    refine Re.gdd g0 (Re.gdd g1 (Re.brd (fun a1 => ?_) (fun a1 => ?_)))
    ·rw [if_pos a1]; exact Ev2 idx x h.1 h.2.1 h.2.2.1 Hz0 hs hr _ efin
    rw [if_neg a1]
    have old : Re (fun y : Nat × Nat => I0 y.1 y.2 idx Hp0 (B4 ((h.1.length : Int) + 1)) x h.1 h.2.1.1 h.2.1.2.1 h.2.1.2.2.1 h.2.2.1) (fun w => w = B24 (h, Hp0)) := Ev2 idx x h.1 h.2.1 h.2.2.1 Hp0 hs hr _ efin
    refine Re.brd (fun a2 => ?_) (fun a2 => Re.bre (fun a3 => ?_) (fun a3 => ?_))
    ·rw [if_pos (.inl a2)]; exact old
    ·rw [if_pos (.inr a3)]; exact old
    rw [if_neg (fun o => o.elim a2 a3)]
    refine Re.bre (fun a4 => ?_) (fun a4 => ?_)
    ·rw [if_pos a4]; exact Ev2 idx x h.1 h.2.1 h.2.2.1 _ hs hr _ efin
    rw [if_neg a4]
    unfold doL
    refine Re.bre (fun c2 => ?_) (fun c2 => ?_)
    ·rw [if_pos c2]
     have hsent := Hd9 hx c2
     obtain ⟨b1, b2, b3⟩ := Dx8 hsent
     obtain ⟨d1, d2⟩ := Dh0 (r := h.2.1) (idx := idx) hsent
     have did := He1 (r := h.2.1) (e := x.2.2.2.1) hi
     refine Re.c2 (F87 h.2.1 hr idx x.2.2.2.1 (by omega) (by omega)) (Re.c2 (Cp1 h.2.1 hr (A63 h.2.1 idx x.2.2.2.1) (by omega) (by omega)) ?_)
     generalize A63 h.2.1 idx x.2.2.2.1 = d at d1 d2 did ⊢
     cases ho : (j3 h.2.1 d).2 with
     | false =>
      rw [if_pos rfl]
      exact Re.br (b := true) (fun _ => Cd7 (os' := h.2.2.1) hs hs.nO hs.out hr q (t := Gv6) (by decide)) (fun h => by cases h)
     | true =>
      obtain ⟨hR, ab⟩ := Gv8 hr (by omega) ho
      obtain ⟨l1, l2⟩ := Eo2 ab (by omega)
      rw [if_neg (by decide)]
      refine Re.br (b := false) (fun h => by cases h) (fun _ => Re.gdd (by rw [l2]; omega) (Re.gdd (by rw [l2]; omega) ?_))
      rw [l1]
      cases hg : Bv2 (j3 h.2.1 d).1 with
      | false =>
       rw [if_pos rfl]
       exact Re.br (b := true) (fun _ => Cd7 (os' := h.2.2.1) hs hs.nO hs.out hr q (t := Gv7) (by decide)) (fun h => by cases h)
      | true =>
       rw [if_neg (by decide)]
       exact Re.br (b := false) (fun h => by cases h) (fun _ => Hz2 hs (q := j3 h.2.1 d) hR q ⟨by omega, by omega⟩ hids C25)
    rw [if_neg c2]
    refine Re.bre (fun c3 => ?_) (fun c3 => ?_)
    ·rw [if_pos c3]
     obtain ⟨hev, -⟩ := He0 hx c3
     have hes := U8 hev
     have hef := (A15 hev).2.1
     refine Re.c2 (Cp1 h.2.1 hr x.2.2.2.1 (by omega) (by omega)) ?_
     cases ho : (j3 h.2.1 x.2.2.2.1).2 with
     | false =>
      rw [if_pos rfl]
      exact Re.br (b := true) (fun _ => Cd7 (os' := h.2.2.1) hs hs.nO hs.out hr q (t := Gv6) (by decide)) (fun h => by cases h)
     | true =>
      obtain ⟨hR, ab⟩ := Gv8 hr (by omega) ho
      obtain ⟨l1, l2⟩ := Eo2 ab (by omega)
      rw [if_neg (by decide)]
      refine Re.br (b := false) (fun h => by cases h) (fun _ => Re.gdd (by rw [l2]; omega) (Re.gdd (by rw [l2]; omega) ?_))
      rw [l1]
      have hz := C24 (n := x.2.2.2.1.1) ⟨by omega, by omega⟩
      have hdec := Gv5 x.2.2.2.1.1 ⟨by omega, by omega⟩
      cases hg : Bv2 (j3 h.2.1 x.2.2.2.1).1 with
      | false =>
       rw [if_neg (by decide)]
       exact Re.br (b := false) (fun h => by cases h) (fun _ => Re.c2 hdec (Re.gdd (by show 5 + _ ≤ A3; unfold A3; omega) (Cd7 (os' := h.2.2.1) hs hs.nO hs.out hR q (t := Hs4 ++ W5 x.2.2.2.1.1.toNat) (by rw [G0]; show 5 + _ ≤ 1000; omega))))
      | true =>
       rw [if_pos rfl]
       exact Re.br (b := true) (fun _ => Re.c2 hdec (Re.gdd (by show 4 + _ ≤ A3; unfold A3; omega) (Cd7 (os' := h.2.2.1) hs hs.nO hs.out hR q (t := Hz1 ++ W5 x.2.2.2.1.1.toNat) (by rw [G0]; show 4 + _ ≤ 1000; omega)))) (fun h => by cases h)
    rw [if_neg c3]
    refine Re.bre (fun c4 => ?_) (fun c4 => ?_)
    ·rw [if_pos c4]
     obtain ⟨⟨u1, u2⟩, u3, u4⟩ := Hv5 hx c4
     have ed : B4 (x.2.2.2.2.1 - 1) = x.2.2.2.2.1 - 1 := D7 (by omega) (by omega)
     simp only [ed]
     obtain ⟨j, hj⟩ : ∃ j : Nat, x.2.2.2.2.1 - 1 = j := ⟨(x.2.2.2.2.1 - 1).toNat, (Int.toNat_of_nonneg (by omega)).symm⟩
     simp only [hj, Int.toNat_natCast]
     have hjl : j < h.2.2.1.length := by rw [hO.1]; omega
     have hout : ∀ o : K8, o.2.2 = (rd H8 h.2.2.1 j).2.2 → ∀ o' ∈ h.2.2.1.set j o, o'.2.2.1.length ≤ 1000 := fun o ho o' ho' => by
      rcases List.mem_or_eq_of_mem_set ho' with ho' | rfl
      ·exact hs.out o' ho'
      ·rw [ho]; exact hs.out _ (by rw [E8 hjl]; exact List.getElem_mem _)
     have done : ∀ o : K8, o = Ea3 (rd H8 h.2.2.1 j) x.2.2.2.2.2.1 → Re (fun y : Nat × Nat => gd (decide (0 ≤ (i : Int))) (gd (decide ((i : Int) < (h.1.length : Int))) (I0 y.1 y.2 idx A64 (B4 ((((h.1.set i ((rd A9 h.1 i).1, x.2.2.1, A64, ())).length : Nat) : Int) + 1)) x (h.1.set i ((rd A9 h.1 i).1, x.2.2.1, A64, ())) h.2.1.1 h.2.1.2.1 h.2.1.2.2.1 (h.2.2.1.set j o)))) (fun w => w = B24 ((C99 h.1 i x.2.2.1 A64, h.2.1, h.2.2.1.set j (Ea3 (rd H8 h.2.2.1 j) x.2.2.2.2.2.1), ()), A64)) := fun o ho => by
      subst ho
      exact Cd7 (os' := h.2.2.1.set j (Ea3 (rd H8 h.2.2.1 j) x.2.2.2.2.2.1)) hs (by rw [List.length_set]; exact hs.nO) (hout _ rfl) hr q (t := A64) (by decide)
     have same : Ea3 (rd H8 h.2.2.1 j) x.2.2.2.2.2.1 = rd H8 h.2.2.1 j → Re (fun y : Nat × Nat => gd (decide (0 ≤ (i : Int))) (gd (decide ((i : Int) < (h.1.length : Int))) (I0 y.1 y.2 idx A64 (B4 ((((h.1.set i ((rd A9 h.1 i).1, x.2.2.1, A64, ())).length : Nat) : Int) + 1)) x (h.1.set i ((rd A9 h.1 i).1, x.2.2.1, A64, ())) h.2.1.1 h.2.1.2.1 h.2.1.2.2.1 h.2.2.1))) (fun w => w = B24 ((C99 h.1 i x.2.2.1 A64, h.2.1, h.2.2.1.set j (Ea3 (rd H8 h.2.2.1 j) x.2.2.2.2.2.1), ()), A64)) := fun e => by
      have := done _ rfl
      rw [e, Hd6 hjl] at this
      rw [e, Hd6 hjl]
      exact this
     refine Re.gdd (by omega) (Re.gdd (by omega) (Re.brd (fun v1 => Re.brd (fun v2 => done _ ?_) (fun v2 => same ?_)) (fun v1 => Re.brd (fun v2 => done _ ?_) (fun v2 => same ?_))))
     ·unfold Ea3; rw [if_pos v1, if_pos v2]
     ·unfold Ea3; rw [if_pos v1, if_neg v2]
     ·unfold Ea3; rw [if_neg v1, if_pos v2]
     ·unfold Ea3; rw [if_neg v1, if_neg v2]
    rw [if_neg c4]
    have hsp := Bf8 h.2.1.1 (Cd5 h.2.1) 5
    refine Re.c2 (Ev3 h.2.1 hr) ?_
    exact Hz3 hs hr q (us := V0 h.2.1.1 (Cd5 h.2.1) 5) (fun u hu => by have := ((hsp.2 u).1 hu).1; omega) hsp.1 C25
   ·rw [C9 q (by omega)]
    exact ih (i + 1) ⟨by omega, t2 e⟩ (by omega)
  ·have el : i = h.1.length := by omega
   have := Hp2 (ss := h.1) (tok := x.2.1)
   rw [if_neg (by omega)]
   simp only [B01, Ae6]
   refine Re.brd (fun g => by omega) (fun _ => ?_)
   exact F88 (h, C25) hs hr (κ := fun y : Nat × Nat => y.1) (Bb7 C6)) 0 ⟨Nat.zero_le _, Nat.zero_le _⟩
 exact this
theorem Fj7 {ss : List D9} {os : List K8} (h : FewH ss os) (idx : Int) (hl : ss.length ≤ 3) : FewH (Cp2 ss idx) os := by
 unfold Cp2
 refine ⟨?_, fun s hs => ?_, h.nO, h.out⟩
 ·split <;> simp <;> omega
 ·rw [List.mem_append, List.mem_singleton] at hs
  rcases hs with hs | rfl
  ·split at hs
   ·exact h.ses s hs
   ·exact h.ses s (List.mem_of_mem_drop hs)
  ·show ByteArray.empty.size ≤ 1000
   decide
theorem Hz5 (hk : S3 h = true) (hi : 1 ≤ idx ∧ idx ≤ 400000) :
  Re (fun y : Nat × Nat => T8 y.1 y.2 idx 0 ([] : List D9) h) (fun w => w = B24 ((Cp2 h.1 idx, h.2.1, h.2.2.1, ()), Eo0 ++ W5 idx.toNat)) := by
 obtain ⟨hs, hr⟩ := Ax8 hk
 have hl3 := (Aq0 hk).nS
 have := Re.loop (ι := Nat) (l := fun k n (i : Nat) => T8 k n idx (i : Int) (if h.1.length < 3 then h.1.take i else (h.1.take i).drop 1) h) (I := fun i => i ≤ h.1.length) (fun i => h.1.length - i) (Q := fun _ w => w = B24 ((Cp2 h.1 idx, h.2.1, h.2.2.1, ()), Eo0 ++ W5 idx.toNat)) (fun i hi2 ih => by
  simp only [T8, B00, Int.toNat_natCast]
  have ab : (if h.1.length < 3 then h.1.take i else (h.1.take i).drop 1).length ≤ 3 := by split <;> simp <;> omega
  refine Re.brd (fun g => ?_) (fun g => ?_)
  ·have q : i < h.1.length := by omega
   have next := ih (i + 1) (by omega) (by omega)
   have et : h.1.take (i + 1) = h.1.take i ++ [rd A9 h.1 i] := by rw [List.take_add_one, List.getElem?_eq_getElem q, E8 q]; rfl
   rw [C9 q (by omega)]
   have keepIt : (i > 0 ∨ h.1.length < 3) → Re (fun y : Nat × Nat => gd (decide (0 ≤ (i : Int))) (gd (decide ((i : Int) < (h.1.length : Int))) (gd (decide ((if h.1.length < 3 then h.1.take i else (h.1.take i).drop 1).length + ([rd A9 h.1 i] : List D9).length ≤ A3)) (T8 y.1 y.2 idx ((i + 1 : Nat) : Int) ((if h.1.length < 3 then h.1.take i else (h.1.take i).drop 1) ++ ([rd A9 h.1 i] : List D9)) h)))) (fun w => w = B24 ((Cp2 h.1 idx, h.2.1, h.2.2.1, ()), Eo0 ++ W5 idx.toNat)) := fun hc => by
    refine Re.gdd (by omega) (Re.gdd g (Re.gdd (by simp only [List.length_singleton]; unfold A3; omega) ?_))
    have e : (if h.1.length < 3 then h.1.take (i + 1) else (h.1.take (i + 1)).drop 1) = (if h.1.length < 3 then h.1.take i else (h.1.take i).drop 1) ++ [rd A9 h.1 i] := by
     rw [et]
     split
     ·rfl
     ·have hi0 : i > 0 := by omega
      rw [List.drop_append_of_le_length (by simp; omega)]
    rw [e] at next
    exact next
   refine Re.brd (fun a => keepIt (.inl (by omega))) (fun a => Re.brd (fun b => keepIt (.inr (by omega))) (fun b => ?_))
   have i0 : i = 0 := by omega
   have e : (if h.1.length < 3 then h.1.take (i + 1) else (h.1.take (i + 1)).drop 1) = (if h.1.length < 3 then h.1.take i else (h.1.take i).drop 1) := by
    rw [if_neg (by omega), if_neg (by omega), et, i0]
    simp
   rw [e] at next
   exact next
  ·have el : i = h.1.length := by omega
   have eo : (if h.1.length < 3 then h.1.take i else (h.1.take i).drop 1) ++ [((idx, 0, ByteArray.empty, ()) : D9)] = Cp2 h.1 idx := by
    unfold Cp2
    rw [List.take_of_length_le (by omega)]
   have hz := C24 (n := idx) ⟨by omega, by omega⟩
   refine Re.gdd (by simp only [List.length_singleton]; unfold A3; omega) (Re.c2 (Gv5 idx ⟨by omega, by omega⟩) (Re.gdd (by show 5 + _ ≤ A3; unfold A3; omega) ?_))
   rw [eo]
   exact F88 ((Cp2 h.1 idx, h.2), Eo0 ++ W5 idx.toNat) (Fj7 hs idx hl3) hr (κ := fun y : Nat × Nat => y.1) (Bb7 C6)) 0 (Nat.zero_le _)
 have e : (if h.1.length < 3 then h.1.take 0 else (h.1.take 0).drop 1) = [] := by split <;> simp
 rw [e] at this
 exact this
theorem Ev4 (h : C2) (hm : B10 h ≤ 1048576) (idx : Int) (x : D2) (hx : Am7 x ≤ 1048576) : Ev (fun k => Bu1 k h idx x) (A17 h idx x) := by
 refine Re.eq (Re.c1 (B22 h hm) ?_)
 unfold A17
 cases hk : S3 h with
 | false => exact Re.br (b := true) (fun _ => Re.ret rfl) (fun h => by cases h)
 | true =>
  refine Re.br (b := false) (fun h => by cases h) (fun _ => Re.c1 (Dw5 x hx) ?_)
  cases hc : S6 x with
  | false => exact Re.br (b := true) (fun _ => Re.ret rfl) (fun h => by cases h)
  | true =>
   refine Re.br (b := false) (fun h => by cases h) (fun _ => Re.s1 (H1 · _ _ _) ?_)
   cases hI : Z7 idx 1 400000 with
   | false => exact Re.br (b := true) (fun _ => Re.ret rfl) (fun h => by cases h)
   | true =>
    have hi := G4.1 hI
    obtain ⟨hs, hr⟩ := Ax8 hk
    refine Re.br (b := false) (fun h => by cases h) (fun _ => Re.c1 (C27 h hs hr) ?_)
    refine Re.bre (fun h1 => ?_) (fun h1 => ?_)
    ·refine Re.enter (f := fun k n => T8 k n idx 0 ([] : List D9) h) C6 ?_
     have := Hz5 hk hi
     have e : Dg9 h idx x = ((Cp2 h.1 idx, h.2.1, h.2.2.1, ()), Eo0 ++ W5 idx.toNat) := by unfold Dg9; rw [if_pos h1]
     rw [e]
     exact this
    ·exact Re.enter (f := fun k n => I0 k n idx C25 0 x h.1 h.2.1.1 h.2.1.2.1 h.2.1.2.2.1 h.2.2.1) C6 (Hz4 hk hc h1 hi)
end
end Go.Vm
end
section
namespace Go.Vm
open Go
def Dx9 : C2 := ([], ([], [], [], ()), [(1, 0, [], ()), (2, 0, [], ())], ())
theorem F90 : Ev (fun k => Bt8 k) Dx9 := by
 refine ⟨3, fun k hk => ?_⟩
 obtain ⟨m, rfl⟩ : ∃ m, k = m + 3 := ⟨k - 3, by omega⟩
 rfl
theorem Hp3 : S3 Dx9 = true := by
 unfold S3
 have h1 : B21 Dx9.2.1 = true := by
  unfold B21
  have : En8 Dx9.2.1.1 = (([], [], [], ()), true) := rfl
  rw [this]
  have e : eqd ((([], [], [], ()) : A8), true).1 Dx9.2.1 = true := F77 rfl
  rw [e]
  rfl
 rw [h1]
 rfl
theorem Cd8 (v4 tok seq : Int) (c : B0) (hc : CurOk c) (r : A8) (hr : RoomI r) :
  Re (fun y : Nat × Nat => (br (v4 == 2) (bd (O9 y.1 c r 2) fun r7 => (some ((v4, tok, seq, (0, r7.1.2.1, r7.1.2.2.1, r7.1.2.2.2.1, r7.1.2.2.2.2.1, r7.1.2.2.2.2.2.1, r7.1.2.2.2.2.2.2.1, ([] : List Int), 0, ()), 0, 0, ()), r7.2.1, ()))) (br (v4 == 3) (bd (D0 y.1 c 40) fun r8 => (bd (O9 y.1 r8.2.1 r (B4 ((B4 (2 * r8.1)) + 1))) fun r9 => (bd (J8 y.1 r9.1) fun r10 => (br (!r10) (bd (D0 y.1 r9.2.1 40) fun r11 => (some ((v4, tok, seq, ((B4 (101 + (B4 (2 * r11.1)))), r9.1.2), 0, 0, ()), r11.2.1, ()))) (some ((v4, tok, seq, r9.1, 0, 0, ()), r9.2.1, ())))))) (br (v4 == 4) (bd (D0 y.1 c 2) fun r12 => (bd (D0 y.1 r12.2.1 6) fun r13 => (some ((v4, tok, seq, (0, 0, 0, 0, 0, ([] : List Int), ByteArray.empty, ([] : List Int), 0, ()), (B4 (1 + r12.1)), r13.1, ()), r13.2.1, ())))) (some ((v4, tok, seq, (0, 0, 0, 0, 0, ([] : List Int), ByteArray.empty, ([] : List Int), 0, ()), 0, 0, ()), c, ()))))))
   (fun q : D2 × B0 × Unit => Am7 q.1 ≤ 1000 ∧ CurOk q.2.1) := by
 refine Re.bre (fun _ => Re.b2 (Dx5 c hc r hr 2) fun r7 h7 => Re.ret ?_) (fun _ => Re.bre (fun _ => ?_) (fun _ => Re.bre (fun _ => ?_) (fun _ => Re.ret ?_)))
 ·obtain ⟨hn, h7c⟩ := h7
  have h1 := hn.ll; have h2 := hn.tl
  refine ⟨?_, h7c⟩
  show r7.1.2.2.2.2.2.1.length + (r7.1.2.2.2.2.2.2.1.size + (0 + 0)) + 0 ≤ 1000
  omega
 ·refine Re.b2 (N2 c 40 hc) fun r8 h8 => Re.b2 (Dx5 _ h8.2 r hr _) fun r9 h9 => ?_
  obtain ⟨hn, h9c⟩ := h9
  have hs := hn.small
  refine Re.c2 (Af4 r9.1 (by omega)) (Re.brb (Re.b2 (N2 _ 40 h9c) fun r11 h11 => Re.ret ⟨?_, h11.2⟩) (Re.ret ⟨?_, h9c⟩))
  ·have : I8 r9.1 ≤ 1000 := hs
   show I8 r9.1 + 0 ≤ 1000
   omega
  ·show I8 r9.1 + 0 ≤ 1000
   omega
 ·exact Re.b2 (N2 c 2 hc) fun r12 h12 => Re.b2 (N2 _ 6 h12.2) fun r13 h13 => Re.ret ⟨by show 0 + (0 + (0 + 0)) + 0 ≤ 1000; omega, h13.2⟩
 ·exact ⟨by show 0 + (0 + (0 + 0)) + 0 ≤ 1000; omega, hc⟩
theorem Ea4 (c : B0) (hc : CurOk c) (h : C2) (hr : RoomI h.2.1) : Re (fun k => Ae9 k c h) (fun q => Am7 q.1 ≤ 1000 ∧ CurOk q.2.1) := by
 have tail : ∀ (c : B0) (_ : CurOk c) (v4 : Int), Re (fun k : Nat => J3 k k c.1 c.2.1 c.2.2.1 h v4) (fun q => Am7 q.1 ≤ 1000 ∧ CurOk q.2.1) := fun c hc v4 => by
  refine Re.enter (f := fun k n => J3 k n c.1 c.2.1 c.2.2.1 h v4) C6 ?_
  have := Re.loop (ι := Nat) (l := fun k n (_ : Unit) => J3 k n c.1 c.2.1 c.2.2.1 h v4) (I := fun _ => True) (fun _ => 0) (Q := fun _ q => Am7 q.1 ≤ 1000 ∧ CurOk q.2.1) (fun _ _ _ => by
   simp only [J3, A57]
   refine Re.brn (fun _ => Re.brd (fun g => ?_) (fun _ => Cd8 v4 0 0 (c.1, c.2.1, c.2.2.1, ()) hc.eta h.2.1 hr)) (fun _ => Cd8 v4 0 0 (c.1, c.2.1, c.2.2.1, ()) hc.eta h.2.1 hr)
   refine Re.b2 (N2 _ _ hc.eta) fun r4 h4 => ?_
   obtain ⟨⟨g1, g2⟩, g3⟩ := h4
   refine Re.gdd g1 (Re.gdd (by omega) (Re.b2 (N2 _ 10 g3) fun r5 h5 => ?_))
   refine Re.bre (fun _ => Re.b2 (N2 _ _ h5.2) fun r6 h6 => Cd8 v4 _ _ _ h6.2 h.2.1 hr) (fun _ => Re.bre (fun _ => Re.b2 (N2 _ 12 h5.2) fun r14 h14 => Cd8 v4 _ _ _ h14.2 h.2.1 hr) (fun _ => Cd8 v4 _ _ _ h5.2 h.2.1 hr))) () trivial
  exact this
 unfold Ae9 Be3
 refine Re.b1 (Bf2 c _ hc (by simp)) fun r1 h1 => ?_
 have one : ∀ (c : B0) (_ : CurOk c) (v : Int), Re (fun k : Nat => br (v == 1) (br (decide ((h.1.length : Int) > 0)) (bd (O8 k c 3) fun r3 => (br (!r3.1) (J3 k k r3.2.1.1 r3.2.1.2.1 r3.2.1.2.2.1 h 2) (J3 k k r3.2.1.1 r3.2.1.2.1 r3.2.1.2.2.1 h v))) (J3 k k c.1 c.2.1 c.2.2.1 h v)) (J3 k k c.1 c.2.1 c.2.2.1 h v)) (fun q => Am7 q.1 ≤ 1000 ∧ CurOk q.2.1) := fun c hc v =>
  Re.brb (Re.brb (Re.b1 (Bl9 c 3 hc) fun r3 h3 => Re.brb (tail _ h3 2) (tail _ h3 v)) (tail c hc v)) (tail c hc v)
 refine Re.brb (Re.b1 (Bl9 _ 8 h1.2) fun r2 h2 => Re.brb ?_ (one _ h2 r1.1)) (one _ h1.2 r1.1)
 exact Re.brb (Re.b1 (Bl9 _ 3 h2) fun r3 h3 => Re.brb (tail _ h3 2) (tail _ h3 1)) (tail _ h2 1)
theorem F91 {h : C2} {idx : Int} {x : D2} (hk : S3 h = true) (ho : (A17 h idx x).2.2 = true) : S3 (A17 h idx x).1 = true ∧ (A17 h idx x).1.2.1.1.length ≤ h.2.1.1.length + 1 := by
 unfold A17 at ho ⊢
 cases hb : S3 h && (S6 x && Z7 idx 1 400000) with
 | false => rw [hb] at ho; cases ho
 | true =>
  rw [hb] at ho
  simp only [cond_true] at ho ⊢
  simp only [Bool.and_eq_true] at hb
  obtain ⟨-, hx, hi⟩ := hb
  have hi := G4.1 hi
  obtain ⟨hs, hr⟩ := Ax8 hk
  unfold B24 at ho ⊢
  cases hq : S3 (Dg9 h idx x).1 with
  | false => rw [hq] at ho; cases ho
  | true =>
   refine ⟨hq, ?_⟩
   simp only [cond_true]
   have add : ∀ (e : A0), e.2.2.2.2.2.2.2.1.length ≤ 1000 → (j3 h.2.1 e).2 = true → (j3 h.2.1 e).1.1.length ≤ h.2.1.1.length + 1 := fun e hp ho => by
    rw [(Ck8 hr hp ho).2]; simp
   have hdo : (doL h.2.1 h.2.2.1 idx x).1.1.1.length ≤ h.2.1.1.length + 1 := by
    unfold doL
    split
    ·rename_i h2
     split
     ·exact Nat.le_succ _
     ·rename_i ha
      split
      ·exact Nat.le_succ _
      ·exact add _ (by have := (Dh0 (r := h.2.1) (idx := idx) (Hd9 hx h2)).2; omega) (by simpa using ha)
    ·split
     ·rename_i h3
      split
      ·exact Nat.le_succ _
      ·rename_i ha
       exact add _ (by have := (U8 (He0 hx h3).1).1; omega) (by simpa using ha)
     ·split
      ·exact Nat.le_succ _
      ·exact Nat.le_succ _
   unfold Dg9 Hd5
   split
   ·exact Nat.le_succ _
   ·split
    ·split
     ·exact Nat.le_succ _
     ·split
      ·exact Nat.le_succ _
      ·split
       ·exact Nat.le_succ _
       ·exact hdo
    ·exact Nat.le_succ _
set_option maxRecDepth 8000 in
theorem Dy0 (c : B0) (hc : CurOk c) (n : Nat) (hn : n ≤ 24) : Re (fun k => Bc2 k c (n : Int)) (fun q => (S3 q.1 = true ∧ q.1.2.1.1.length ≤ n) ∧ CurOk q.2.1) := by
 refine Re.c1 F90 (Re.enter (f := fun k m => n8 k m (n : Int) 0 c.1 c.2.1 c.2.2.1 Dx9.1 Dx9.2.1.1 Dx9.2.1.2.1 Dx9.2.1.2.2.1 Dx9.2.2.1) C6 ?_)
 have := Re.loop (ι := Nat) (l := fun k m (s : Nat × B0 × C2) => n8 k m (n : Int) (s.1 : Int) s.2.1.1 s.2.1.2.1 s.2.1.2.2.1 s.2.2.1 s.2.2.2.1.1 s.2.2.2.1.2.1 s.2.2.2.1.2.2.1 s.2.2.2.2.1) (I := fun s => s.1 ≤ n ∧ CurOk s.2.1 ∧ S3 s.2.2 = true ∧ s.2.2.2.1.1.length ≤ s.1) (fun s => n - s.1)
  (Q := fun _ q => (S3 q.1 = true ∧ q.1.2.1.1.length ≤ n) ∧ CurOk q.2.1) (fun s hi ih => by
  obtain ⟨i, c, h⟩ := s
  obtain ⟨i1, i2, i3, i4⟩ := hi
  simp only at i1 i2 i3 i4 ih ⊢
  simp only [n8, B04]
  have ei : B4 ((i : Int) + 1) = ((i + 1 : Nat) : Int) := by rw [D7 (by omega) (by omega)]; rfl
  have en : B4 ((n : Int) + 1) = ((n + 1 : Nat) : Int) := by rw [D7 (by omega) (by omega)]; rfl
  simp only [ei, en]
  obtain ⟨hs, hr⟩ := Ax8 i3
  refine Re.b2 (N2 (c.1, c.2.1, c.2.2.1, ()) ((n + 1 : Nat) : Int) i2.eta) fun r2 h2 => ?_
  refine Re.brd (fun q => ?_) (fun q => Re.ret ⟨⟨i3, by show h.2.1.1.length ≤ n; omega⟩, h2.2⟩)
  have hin : i < n := by obtain ⟨⟨a, b⟩, _⟩ := h2; omega
  refine Re.b2 (Ea4 _ h2.2 h hr) fun r3 h3 => ?_
  refine Re.c2 (Ev4 h (hs.m hr) ((i + 1 : Nat) : Int) r3.1 (by have := h3.1; omega)) ?_
  cases ho : (A17 h ((i + 1 : Nat) : Int) r3.1).2.2 with
  | true =>
   obtain ⟨p1, p2⟩ := F91 i3 ho
   exact Re.br (b := true) (fun _ => ih (i + 1, r3.2.1, (A17 h ((i + 1 : Nat) : Int) r3.1).1) ⟨by simp only; omega, h3.2, p1, by simp only; omega⟩ (by simp only; omega)) (fun h => by cases h)
  | false => exact Re.br (b := false) (fun h => by cases h) (fun _ => ih (i + 1, r3.2.1, h) ⟨by simp only; omega, h3.2, i3, by simp only; omega⟩ (by simp only; omega))) (0, c, Dx9) ⟨Nat.zero_le _, hc, Hp3, Nat.le_refl _⟩
 exact this
theorem Dh1 {h : C2} (hk : S3 h = true) (hn : h.2.1.1.length ≤ 12) : Re (fun k => Al0 k h) (fun q => q.1.size ≤ 13000) := by
 obtain ⟨hs, hr⟩ := Ax8 hk
 have hf := Aq0 hk
 obtain ⟨z1, z2, z3, z4, z5⟩ := hf.sizes
 refine Ev.re (Ea2 h (hs.m hr)) ?_
 unfold Hd1
 rw [hk]
 simp only [cond_true]
 cases hd : decide (((A16 h).size : Int) > 20000) with
 | true => exact Nat.zero_le _
 | false =>
  simp only [cond_false]
  have nS := hf.nS
  have nO := hf.nO
  have a1 : (C23 h).size ≤ _ := Ax7 (H5 (h.1.length : Int)) (Ev1 h) 60 h.1.length z1
  have a2 : (Dg8 h).size ≤ _ := Ax7 (C23 h ++ H5 (h.2.1.1.length : Int)) (evT h) 1010 h.2.1.1.length z2
  have a3 : (A16 h).size ≤ _ := Ax7 (Dg8 h) (F84 h) 5 h.2.2.1.length z3
  rw [G0] at a2
  have v1 : (H5 (h.1.length : Int)).size ≤ 5 := G6 (by omega)
  have v2 : (H5 (h.2.1.1.length : Int)).size ≤ 5 := G6 (by omega)
  have m1 : h.2.1.1.length * 1010 ≤ 12 * 1010 := Nat.mul_le_mul_right _ hn
  have m2 : h.1.length * 60 ≤ 3 * 60 := Nat.mul_le_mul_right _ nS
  have m3 : h.2.2.1.length * 5 ≤ 2 * 5 := Nat.mul_le_mul_right _ nO
  show (A16 h).size ≤ 13000
  omega
end Go.Vm
end
section
namespace Go.Vm
open Go
theorem w6 (s t : ByteArray) : D4 (s ++ t) = D4 s ++ D4 t := by simp [D4]
theorem Ax9 {xs : List Int} (h : ∀ x ∈ xs, 0 ≤ x ∧ x < 256) : D4 (C0 xs) = xs := by
 simp only [D4, C0, List.map_map]
 rw [List.map_congr_left (g := id) (fun b hb => ?_)]
 ·simp
 ·obtain ⟨h0, h1⟩ := h b hb
  have e : (UInt8.ofNat b.toNat).toNat = b.toNat := by
   rw [UInt8.toNat_ofNat']
   exact Nat.mod_eq_of_lt (by omega)
  simp only [Function.comp, e, id]
  omega
theorem F92 {s t : ByteArray} (h : D4 s = D4 t) : s = t := by
 rw [← P7 s, h, P7]
theorem C28 {s : ByteArray} : ∀ x ∈ D4 s, 0 ≤ x ∧ x < 256 := by
 intro x hx
 simp only [D4, List.mem_map] at hx
 obtain ⟨b, _, rfl⟩ := hx
 have := b.toNat_lt
 omega
theorem Gv9 (s : ByteArray) (i : Nat) : bt s i = rd 0 (D4 s) i := by
 unfold bt
 by_cases h : i < s.size
 ·rw [dif_pos h, E8 (by rw [D5]; exact h)]
  simp only [D4, List.getElem_map, Array.getElem_toList]
  rfl
 ·rw [dif_neg h]
  simp [rd, D5, h]
theorem N3 (s : ByteArray) (p q : Nat) : D4 (s.extract p q) = ((D4 s).take q).drop p := by
 simp only [D4, ByteArray.data_extract, Array.toList_extract, List.map_drop, List.map_take]
 rw [List.drop_take]
def Av1 (a : ByteArray) (p : Nat) (s : ByteArray) : Prop := D4 s <+: (D4 a).drop p
theorem N9 {a s t : ByteArray} {p : Nat} : Av1 a p (s ++ t) ↔ Av1 a p s ∧ Av1 a (p + s.size) t := by
 unfold Av1
 rw [w6, ← List.drop_drop, ← D5 s]
 generalize (D4 a).drop p = d
 constructor
 ·rintro ⟨r, rfl⟩
  refine ⟨⟨D4 t ++ r, by simp⟩, ?_⟩
  rw [List.append_assoc, List.drop_left]
  exact ⟨r, rfl⟩
 ·rintro ⟨⟨r, rfl⟩, h⟩
  rw [List.drop_left] at h
  obtain ⟨q, rfl⟩ := h
  exact ⟨q, by simp⟩
theorem Ev5 {a s : ByteArray} {p : Nat} (h : Av1 a p s) (hp : p ≤ a.size) : p + s.size ≤ a.size := by
 have := h.length_le
 rw [List.length_drop, D5, D5] at this
 omega
theorem C29 {a : ByteArray} {p q : Nat} (h : p ≤ q) (h2 : q ≤ a.size) : Av1 a p (a.extract p q) := by
 unfold Av1
 rw [N3, List.drop_take]
 exact List.take_prefix _ _
theorem B25 {a s : ByteArray} {p : Nat} (h : Av1 a p s) : a.extract p (p + s.size) = s := by
 apply F92
 rw [N3, List.drop_take]
 obtain ⟨r, hr⟩ := h
 rw [← hr, ← D5 s]
 simp
theorem G16 (a : ByteArray) : Av1 a 0 a := ⟨[], by simp⟩
theorem G17 {a : ByteArray} {p : Nat} (hp : p < a.size) : Av1 a p (C0 [bt a p]) := by
 unfold Av1
 have hb : 0 ≤ bt a p ∧ bt a p < 256 := by
  rw [Gv9, E8 (by rw [D5]; exact hp)]
  exact C28 _ (List.getElem_mem _)
 rw [Ax9 (by simpa using hb), ← List.getElem_cons_drop (show p < (D4 a).length by rw [D5]; exact hp), Gv9, E8 (by rw [D5]; exact hp)]
 exact ⟨_, rfl⟩
theorem Fj8 (a : ByteArray) (p : Nat) : 0 ≤ bt a p ∧ bt a p < 256 := by
 by_cases hp : p < a.size
 ·rw [Gv9, E8 (by rw [D5]; exact hp)]
  exact C28 _ (List.getElem_mem _)
 ·unfold bt; rw [dif_neg hp]; omega
def dec : List Int → Int
 | [] => 0
 | d :: ds => d % 128 + 128 * dec ds
theorem Fj9 : ∀ (D : List Int) (b : Int), dec (D ++ [b]) = dec D + (b % 128) * 128 ^ D.length
 | [], b => by simp [dec]
 | d :: D, b => by
  rw [List.cons_append, dec, Fj9 D b, dec, List.length_cons, Int.pow_succ]
  generalize dec D = x
  generalize (128 : Int) ^ D.length = y
  generalize b % 128 = z
  rw [Int.mul_add]
  have : 128 * (z * y) = z * (y * 128) := by rw [← Int.mul_assoc, Int.mul_comm 128 z, Int.mul_assoc, Int.mul_comm 128 y]
  omega
theorem Dy1 : ∀ (D : List Int), 0 ≤ dec D ∧ dec D < 128 ^ D.length
 | [] => by simp [dec]
 | d :: D => by
  obtain ⟨h0, h1⟩ := Dy1 D
  rw [dec, List.length_cons, Int.pow_succ]
  generalize (128 : Int) ^ D.length = y at *
  omega
theorem He2 (n : Nat) : dec (varL n) = n := by
 induction n using Nat.strongRecOn with
 | _ n ih =>
  unfold varL
  by_cases h : n < 128
  ·rw [if_pos h]; simp only [dec]; omega
  ·rw [if_neg h, dec, ih (n / 128) (by omega)]; omega
def Hi (D : List Int) : Prop := ∀ d ∈ D, 128 ≤ d ∧ d < 256
def Code (xs : List Int) : Prop := ∃ D b, xs = D ++ [b] ∧ Hi D ∧ 0 ≤ b ∧ b < 128
theorem Ck9 (n : Nat) : Code (varL n) := by
 induction n using Nat.strongRecOn with
 | _ n ih =>
  unfold varL
  by_cases h : n < 128
  ·rw [if_pos h]; exact ⟨[], n, rfl, fun _ h => by simp at h, by omega, by omega⟩
  ·rw [if_neg h]
   obtain ⟨D, b, e, hD, h0, h1⟩ := ih (n / 128) (by omega)
   rw [e]
   refine ⟨((n % 128 + 128 : Nat) : Int) :: D, b, rfl, fun d hd => ?_, h0, h1⟩
   rcases List.mem_cons.1 hd with rfl | hd
   ·omega
   ·exact hD d hd
theorem F93 {xs : List Int} (h : Code xs) : ∀ x ∈ xs, 0 ≤ x ∧ x < 256 := by
 obtain ⟨D, b, rfl, hD, h0, h1⟩ := h
 intro x hx
 rcases List.mem_append.1 hx with h | h
 ·have := hD x h; omega
 ·simp at h; omega
theorem He3 : ∀ (D : List Int) (b : Int), Hi D → 0 ≤ b → b < 128 → (varL (dec (D ++ [b])).toNat).length = D.length + 1 → varL (dec (D ++ [b])).toNat = D ++ [b]
 | [], b, _, h0, h1, _ => by
  have e : dec ([] ++ [b]) = b := by simp [dec]; omega
  rw [e]
  unfold varL
  rw [if_pos (by omega)]
  simp; omega
 | d :: D, b, hD, h0, h1, hl => by
  have hd := hD d (List.mem_cons_self ..)
  have ih := He3 D b (fun x hx => hD x (List.mem_cons_of_mem _ hx)) h0 h1
  have hb := Dy1 (D ++ [b])
  rw [List.cons_append, dec] at hl ⊢
  generalize dec (D ++ [b]) = x at *
  rw [varL.eq_def] at hl ⊢
  by_cases h : (d % 128 + 128 * x).toNat < 128
  ·rw [if_pos h] at hl; simp at hl
  ·rw [if_neg h] at hl ⊢
   have e : (d % 128 + 128 * x).toNat / 128 = x.toNat := by omega
   rw [e] at hl ⊢
   rw [ih (by simpa using hl)]
   congr 1
   omega
theorem Hs5 {D ys zs : List Int} (hD : Hi D) (hy : Code ys) (h1 : D <+: zs) (h2 : ys <+: zs) : D.length < ys.length := by
 apply Nat.lt_of_not_le
 intro hle
 obtain ⟨D', b, rfl, _, h3, h4⟩ := hy
 have := List.prefix_of_prefix_length_le h2 h1 hle
 have := hD b (this.mem (by simp))
 omega
theorem G18 {xs ys zs : List Int} (hx : Code xs) (hy : Code ys) (h1 : xs <+: zs) (h2 : ys <+: zs) : xs = ys := by
 have aux : ∀ {xs ys : List Int}, Code xs → Code ys → xs <+: ys → xs = ys := by
  intro xs ys hx hy h
  obtain ⟨D, b, rfl, hD, h0, h1⟩ := hx
  obtain ⟨t, ht⟩ := h
  by_cases e : t = []
  ·subst e; simpa using ht
  ·exfalso
   obtain ⟨D', b', rfl, hD', h0', h1'⟩ := hy
   have hl := congrArg List.length ht
   have : 1 ≤ t.length := by cases t with | nil => exact absurd rfl e | cons _ _ => simp
   simp at hl
   have h5 : (D ++ [b]) <+: D' := List.prefix_of_prefix_length_le (l₃ := D' ++ [b']) ⟨t, ht⟩ ⟨[b'], rfl⟩ (by simp; omega)
   have := hD' b (h5.mem (by simp))
   omega
 rcases List.prefix_or_prefix_of_prefix h1 h2 with h | h
 ·exact aux hx hy h
 ·exact (aux hy hx h).symm
theorem A18 (n : Int) : D4 (H5 n) = varL n.toNat := Ax9 (F93 (Ck9 _))
end Go.Vm
end
section
namespace Go.Vm
open Go
structure RV (a : ByteArray) (p : Nat) (r : Int × Int × Bool) : Prop where
 sound : r.2.2 = true → 0 ≤ r.1 ∧ r.1 ≤ 1000000000 ∧ r.2.1 = ((p + (H5 r.1).size : Nat) : Int) ∧ p + (H5 r.1).size ≤ a.size ∧ Av1 a p (H5 r.1)
 full : ∀ n : Int, 0 ≤ n → n ≤ 1000000000 → Av1 a p (H5 n) → r = (n, ((p + (H5 n).size : Nat) : Int), true)
theorem RV.no {a : ByteArray} {p : Nat} (h : ∀ n : Int, 0 ≤ n → n ≤ 1000000000 → ¬ Av1 a p (H5 n)) : RV a p (0, 0, false) :=
 ⟨fun h => (by cases h), fun n h0 h1 h2 => absurd h2 (h n h0 h1)⟩
theorem A19 (n : Int) : (H5 n).size = (varL n.toNat).length := by unfold H5; rw [H4]
theorem RV.code {a : ByteArray} {p : Nat} {xs : List Int} (hx : Code xs) (hs : xs <+: (D4 a).drop p) (hp : p + xs.length ≤ a.size) (hc : ∃ D b, xs = D ++ [b] ∧ Hi D ∧ 0 ≤ b ∧ b < 128) :
  RV a p (if dec xs ≤ 1000000000 ∧ (varL (dec xs).toNat).length = xs.length then (dec xs, ((p + xs.length : Nat) : Int), true) else (0, 0, false)) := by
 have h0 : 0 ≤ dec xs := (Dy1 xs).1
 have key : ∀ n : Int, 0 ≤ n → Av1 a p (H5 n) → dec xs = n ∧ (varL (dec xs).toNat).length = xs.length := by
  intro n hn h
  unfold Av1 at h
  rw [A18] at h
  have e := G18 (Ck9 _) hx h hs
  have e2 : dec xs = n := by rw [← e, He2]; omega
  exact ⟨e2, by rw [e2, e]⟩
 by_cases h : dec xs ≤ 1000000000 ∧ (varL (dec xs).toNat).length = xs.length
 ·rw [if_pos h]
  refine ⟨fun _ => ?_, fun n hn h1 h2 => ?_⟩
  ·obtain ⟨D, b, rfl, hD, hb0, hb1⟩ := hc
   have e := He3 D b hD hb0 hb1 (by rw [h.2]; simp)
   refine ⟨h0, h.1, by simp only [A19, h.2], by rw [A19, h.2]; exact hp, ?_⟩
   unfold Av1
   rw [A18, e]; exact hs
  ·obtain ⟨e1, e2⟩ := key n hn h2
   rw [A19, ← e1, h.2]
 ·rw [if_neg h]
  refine RV.no fun n hn h1 h2 => ?_
  obtain ⟨e1, e2⟩ := key n hn h2
  exact h ⟨by omega, e2⟩
theorem Gw0 {i : Nat} (h : i ≤ 5) : (128 : Int) ^ i ≤ 34359738368 ∧ 0 < (128 : Int) ^ i := by
 rcases i with _ | _ | _ | _ | _ | _ | i <;> first | omega | decide
theorem Hz6 {i : Nat} (h : i ≤ 4) : (2 : Int) ^ (min (B4 (7 * (i : Int))).toNat 64) = 128 ^ i ∧ decide (B4 (7 * (i : Int)) < 0) = false := by
 rw [D7 (by omega) (by omega)]
 rcases i with _ | _ | _ | _ | _ | i <;> first | omega | decide
theorem Hp4 (a : ByteArray) (p : Nat) (ha : a.size ≤ 1048576) : ∀ (j i : Nat) (D : List Int), i + j = 5 → D.length = i → Hi D → D <+: (D4 a).drop p → p + i ≤ a.size →
  ∃ r : Int × Int × Bool, RV a p r ∧ (∃ K, ∀ k, K ≤ k → ∀ n, j < n → R7 k n a (p : Int) (dec D) ((128 : Int) ^ i) ((p + i : Nat) : Int) = some r) ∧
   (∃ K, ∀ k, K ≤ k → ∀ n, j < n → R5 k n a (p : Int) (dec D) (i : Int) = some r) := by
 intro j
 induction j with
 | zero =>
  intro i D hi hD hh hs hp
  refine ⟨(0, 0, false), RV.no fun n h0 h1 h2 => ?_, ⟨0, fun k _ n hn => ?_⟩, ⟨0, fun k _ n hn => ?_⟩⟩
  ·unfold Av1 at h2
   rw [A18] at h2
   have := Hs5 hh (Ck9 _) hs h2
   have h5 := G6 h1
   rw [A19] at h5
   omega
  ·obtain ⟨m, rfl⟩ : ∃ m, n = m + 1 := ⟨n - 1, by omega⟩
   have e1 : B4 ((p : Int) + 5) = p + 5 := D7 (by omega) (by omega)
   simp only [R7, Ap5, e1]
   rw [show decide (((p + i : Nat) : Int) < (p : Int) + 5) = false by simp; omega]
   simp only [br_false]
   cases decide (((p + i : Nat) : Int) < (a.size : Int)) <;> rfl
  ·obtain ⟨m, rfl⟩ : ∃ m, n = m + 1 := ⟨n - 1, by omega⟩
   simp only [R5, Ap4]
   rw [show decide ((i : Int) < 5) = false by simp; omega]
   rfl
 | succ j ih =>
  intro i D hi hD hh hs hp
  have e5 : B4 ((p : Int) + 5) = p + 5 := D7 (by omega) (by omega)
  have epi : B4 ((p : Int) + (i : Int)) = ((p + i : Nat) : Int) := by rw [D7 (by omega) (by omega)]; omega
  have d5 : decide (((p + i : Nat) : Int) < (p : Int) + 5) = true := by simp; omega
  have di : decide ((i : Int) < 5) = true := by simp; omega
  by_cases hz : p + i < a.size
  ·have dz : decide (((p + i : Nat) : Int) < (a.size : Int)) = true := by simp; omega
   have d0 : decide (0 ≤ ((p + i : Nat) : Int)) = true := decide_eq_true (Int.natCast_nonneg _)
   have hb := Fj8 a (p + i)
   have hsb := G17 hz
   unfold Av1 at hsb
   rw [Ax9 (by simpa using hb)] at hsb
   generalize hbe : bt a (p + i) = b at hb hsb
   have hs2 : (D ++ [b]) <+: (D4 a).drop p := by
    obtain ⟨t, ht⟩ := hs
    rw [← List.drop_drop, ← ht, ← hD, List.drop_left] at hsb
    obtain ⟨u, rfl⟩ := hsb
    exact ⟨u, by rw [← ht]; simp⟩
   have hw : B4 b = b := D7 (by omega) (by omega)
   have ht : Int.tmod b 128 = b % 128 := Int.tmod_eq_emod_of_nonneg (by omega)
   obtain ⟨q1, q2⟩ := Gw0 (i := i) (by omega)
   obtain ⟨q3, q4⟩ := Gw0 (i := i + 1) (by omega)
   have hsn := Fj9 D b
   rw [hD] at hsn
   have hd1 := Dy1 D
   have hd2 := Dy1 (D ++ [b])
   have hl2 : (D ++ [b]).length = i + 1 := by simp [hD]
   rw [hl2] at hd2
   have hx0 : 0 ≤ (b % 128) * 128 ^ i := Int.mul_nonneg (by omega) (by omega)
   have hw2 : B4 ((b % 128) * 128 ^ i) = (b % 128) * 128 ^ i := D7 (by omega) (by omega)
   have hw3 : B4 (dec D + (b % 128) * 128 ^ i) = dec (D ++ [b]) := by rw [← hsn]; exact D7 (by omega) (by omega)
   have hw4 : B4 ((128 : Int) ^ i * 128) = 128 ^ (i + 1) := by rw [← Int.pow_succ]; exact D7 (by omega) (by omega)
   have hw5 : B4 (((p + i : Nat) : Int) + 1) = ((p + (i + 1) : Nat) : Int) := by rw [D7 (by omega) (by omega)]; omega
   have hw6 : B4 ((i : Int) + 1) = ((i + 1 : Nat) : Int) := by rw [D7 (by omega) (by omega)]; omega
   have hb2 : (b == b && (128 : Int) == 0) = false := Hu8 b
   obtain ⟨s1, s2⟩ := Hz6 (i := i) (by omega)
   have step_s : ∀ k m, R7 k (m + 1) a (p : Int) (dec D) ((128 : Int) ^ i) ((p + i : Nat) : Int) =
     br (decide (b < 128)) (br (decide (dec (D ++ [b]) > 1000000000)) (some (0, 0, false)) (bd (N0 k (dec (D ++ [b]))) fun r2 => br (!(r2.toList == (a.extract p (p + (i + 1))).toList)) (some (0, 0, false)) (some (dec (D ++ [b]), ((p + (i + 1) : Nat) : Int), true)))) (R7 k m a (p : Int) (dec (D ++ [b])) ((128 : Int) ^ (i + 1)) ((p + (i + 1) : Nat) : Int)) := by
    intro k m
    have g1 : decide (((p + (i + 1) : Nat) : Int) ≤ (a.size : Int)) = true := by simp; omega
    have g2 : decide ((p : Int) ≤ ((p + (i + 1) : Nat) : Int)) = true := by simp; omega
    have g3 : decide (0 ≤ ((p + (i + 1) : Nat) : Int)) = true := by simp; omega
    have g4 : decide (0 ≤ (p : Int)) = true := by simp
    simp only [R7, Ap5, e5, d5, dz, d0, br_true, gd_true, Int.toNat_natCast, hbe, hw, ht, hw2, hw3, hw4, hw5, hb2, ng_false, g1, g2, g3, g4]
   have step_i : ∀ k m, R5 k (m + 1) a (p : Int) (dec D) (i : Int) =
     br (decide (b < 128)) (bd (X0 k (dec (D ++ [b]))) fun r2 => br (!r2.2) (some (0, 0, false)) (br ((r2.1.size : Int) != ((i + 1 : Nat) : Int)) (some (0, 0, false)) (some (dec (D ++ [b]), ((p + (i + 1) : Nat) : Int), true)))) (R5 k m a (p : Int) (dec (D ++ [b])) ((i + 1 : Nat) : Int)) := by
    intro k m
    simp only [R5, Ap4, di, epi, dz, d0, br_true, gd_true, Int.toNat_natCast, hbe, hw, ht, hb2, ng_false, s1, s2, hw2, hw3, hw5, hw6]
   by_cases hlt : b < 128
   ·have hcode : Code (D ++ [b]) := ⟨D, b, rfl, hh, hb.1, hlt⟩
    refine ⟨_, RV.code hcode hs2 (by rw [hl2]; omega) hcode, ?_, ?_⟩
    ·by_cases hn : dec (D ++ [b]) ≤ 1000000000
     ·obtain ⟨K, hK⟩ := M5 (dec (D ++ [b])) hd2.1 (by omega)
      refine ⟨K, fun k hk n hn' => ?_⟩
      obtain ⟨m, rfl⟩ : ∃ m, n = m + 1 := ⟨n - 1, by omega⟩
      have hK2 : N0 k (dec (D ++ [b])) = some (H5 (dec (D ++ [b]))) := hK k hk
      rw [step_s, decide_eq_true hlt, br_true, show decide (dec (D ++ [b]) > 1000000000) = false by simp; omega, br_false, hK2, bd_some, l6, hl2]
      by_cases hl : (varL (dec (D ++ [b])).toNat).length = i + 1
      ·rw [if_pos ⟨hn, hl⟩]
       have e := He3 D b hh hb.1 hlt (by rw [hl, hD])
       have : H5 (dec (D ++ [b])) = a.extract p (p + (i + 1)) := by
        have ah : Av1 a p (H5 (dec (D ++ [b]))) := by unfold Av1; rw [A18, e]; exact hs2
        have := B25 ah
        rw [A19, hl] at this
        exact this.symm
       rw [decide_eq_true this]; rfl
      ·rw [if_neg (fun h => hl h.2)]
       have : H5 (dec (D ++ [b])) ≠ a.extract p (p + (i + 1)) := by
        intro h
        apply hl
        rw [← A19, h, ByteArray.size_extract]
        omega
       rw [decide_eq_false this]; rfl
     ·refine ⟨0, fun k _ n hn' => ?_⟩
      obtain ⟨m, rfl⟩ : ∃ m, n = m + 1 := ⟨n - 1, by omega⟩
      rw [step_s, decide_eq_true hlt, br_true, show decide (dec (D ++ [b]) > 1000000000) = true by simp; omega, br_true, if_neg (fun h => hn h.1)]
    ·obtain ⟨K, hK⟩ := B13 (dec (D ++ [b]))
     refine ⟨K, fun k hk n hn' => ?_⟩
     obtain ⟨m, rfl⟩ : ∃ m, n = m + 1 := ⟨n - 1, by omega⟩
     have hK2 : X0 k (dec (D ++ [b])) = some (Fh8 (dec (D ++ [b]))) := hK k hk
     rw [step_i, decide_eq_true hlt, br_true, hK2, bd_some, hl2]
     by_cases hn : dec (D ++ [b]) ≤ 1000000000
     ·rw [Eu2 hd2.1 hn]
      simp only [Bool.not_true, br_false, A19]
      by_cases hl : (varL (dec (D ++ [b])).toNat).length = i + 1
      ·rw [if_pos ⟨hn, hl⟩, hl]; simp
      ·rw [if_neg (fun h => hl h.2), show (((varL (dec (D ++ [b])).toNat).length : Int) != ((i + 1 : Nat) : Int)) = true by simp; omega]; rfl
     ·rw [if_neg (fun h => hn h.1)]
      have : Fh8 (dec (D ++ [b])) = (⟨#[]⟩, false) := by
       unfold Fh8 Z7
       rw [show decide (dec (D ++ [b]) ≤ 1000000000) = false by simp; omega]
       simp
      rw [this]; rfl
   ·obtain ⟨r, hr, ⟨K1, h1⟩, ⟨K2, h2⟩⟩ := ih (i + 1) (D ++ [b]) (by omega) hl2 (fun d hd => by
     rcases List.mem_append.1 hd with h | h
     ·exact hh d h
     ·simp at h; omega) hs2 (by omega)
    refine ⟨r, hr, ⟨K1, fun k hk n hn' => ?_⟩, ⟨K2, fun k hk n hn' => ?_⟩⟩
    ·obtain ⟨m, rfl⟩ : ∃ m, n = m + 1 := ⟨n - 1, by omega⟩
     rw [step_s, decide_eq_false hlt, br_false]; exact h1 k hk m (by omega)
    ·obtain ⟨m, rfl⟩ : ∃ m, n = m + 1 := ⟨n - 1, by omega⟩
     rw [step_i, decide_eq_false hlt, br_false]; exact h2 k hk m (by omega)
  ·have dz : decide (((p + i : Nat) : Int) < (a.size : Int)) = false := by simp; omega
   refine ⟨(0, 0, false), RV.no fun n h0 h1 h2 => ?_, ⟨0, fun k _ n hn => ?_⟩, ⟨0, fun k _ n hn => ?_⟩⟩
   ·have h3 := Ev5 h2 (by omega)
    unfold Av1 at h2
    rw [A18] at h2
    have := Hs5 hh (Ck9 _) hs h2
    rw [A19] at h3
    omega
   ·obtain ⟨m, rfl⟩ : ∃ m, n = m + 1 := ⟨n - 1, by omega⟩
    simp only [R7, Ap5, dz, br_false]
   ·obtain ⟨m, rfl⟩ : ∃ m, n = m + 1 := ⟨n - 1, by omega⟩
    simp only [R5, Ap4, di, br_true, epi, dz, br_false]
theorem Dy2 (a : ByteArray) (p : Nat) (ha : a.size ≤ 1048576) (hp : p ≤ a.size) : ∃ r : Int × Int × Bool, RV a p r ∧ Ev (fun k => Bc5 k a (p : Int)) r ∧ Ev (fun k => Aw9 k a (p : Int)) r := by
 obtain ⟨r, h0, ⟨K1, h1⟩, ⟨K2, h2⟩⟩ := Hp4 a p ha 5 0 [] rfl rfl (fun _ h => by cases h) ⟨_, rfl⟩ (by omega)
 have hin : Z7 (p : Int) 0 (a.size : Int) = true := by simp [Z7]; omega
 refine ⟨r, h0, ⟨K1 + 6, fun k hk => ?_⟩, ⟨K2 + 6, fun k hk => ?_⟩⟩
 ·have := h1 k (by omega) k (by omega)
  simpa [Bc5, Cc0, H1, hin, dec] using this
 ·have := h2 k (by omega) k (by omega)
  simpa [Aw9, Cb6, Af3, hin, dec] using this
abbrev Ev6 (a : ByteArray) (p : Nat) (b : Bool) : K7 := (a, (p : Int), b, ())
structure Rd {α : Type} (a : ByteArray) (enc : α → ByteArray) (ok : α → Prop) (d : α) (p : Nat) (b : Bool) (x : α) (q : Nat) (b' : Bool) : Prop where
 le : p ≤ q
 hi : q ≤ a.size
 bad : b = true → x = d ∧ q = p ∧ b' = true
 badv : b' = true → x = d
 sound : b' = false → ok x ∧ q = p + (enc x).size ∧ Av1 a p (enc x)
 full : b = false → ∀ y, ok y → Av1 a p (enc y) → x = y ∧ q = p + (enc y).size ∧ b' = false
def Dy3 (n : Int) : Prop := 0 ≤ n ∧ n ≤ 1000000000
def Hz7 (n : Int) : Prop := 0 ≤ n ∧ n < 256
def Hz8 (n : Int) : ByteArray := C0 [n]
theorem Rd.stuck {α : Type} {a : ByteArray} {enc : α → ByteArray} {ok : α → Prop} {d : α} {p : Nat} (hp : p ≤ a.size) : Rd a enc ok d p true d p true :=
 ⟨Nat.le_refl _, hp, fun _ => ⟨rfl, rfl, rfl⟩, fun _ => rfl, fun h => by (cases h), fun h => by (cases h)⟩
theorem Dy4 (a : ByteArray) (p : Nat) (b : Bool) (ha : a.size ≤ 1048576) (hp : p ≤ a.size) :
  ∃ x q b', Rd a H5 Dy3 0 p b x q b' ∧ Ev (fun k => Bf0 k (Ev6 a p b)) (x, Ev6 a q b', ()) ∧ Ev (fun k => Af0 k (Ev6 a p b)) (x, Ev6 a q b', ()) := by
 obtain ⟨r, hr, h1, h2⟩ := Dy2 a p ha hp
 obtain ⟨n, q, o⟩ := r
 cases b with
 | true => exact ⟨0, p, true, .stuck hp, h1.bd (.of fun _ => rfl), h2.bd (.of fun _ => rfl)⟩
 | false =>
  cases o with
  | false =>
   refine ⟨0, p, true, ⟨Nat.le_refl _, hp, fun h => by (cases h), fun _ => rfl, fun h => by (cases h), fun _ y hy hs => ?_⟩, h1.bd (.of fun _ => rfl), h2.bd (.of fun _ => rfl)⟩
   have := hr.full y hy.1 hy.2 hs
   simp at this
  | true =>
   obtain ⟨e1, e2, e3, e4, e5⟩ := hr.sound rfl
   simp only at e1 e2 e3 e4 e5
   subst e3
   refine ⟨n, p + (H5 n).size, false, ⟨by omega, e4, fun h => by (cases h), fun h => by (cases h), fun _ => ⟨⟨e1, e2⟩, rfl, e5⟩, fun _ y hy hs => ?_⟩, h1.bd (.of fun _ => rfl), h2.bd (.of fun _ => rfl)⟩
   have := hr.full y hy.1 hy.2 hs
   simp only [Prod.mk.injEq] at this
   refine ⟨this.1, ?_, rfl⟩
   omega
def C30 (m : Nat) (t : ByteArray) : Prop := t.size ≤ m
theorem j8 (t : ByteArray) : (I9 t).size = (H5 (t.size : Int)).size + t.size := by unfold I9; rw [G0]
theorem Fk0 (a : ByteArray) (p : Nat) (b : Bool) (ha : a.size ≤ 1048576) (hp : p ≤ a.size) :
  ∃ x q b', Rd a I9 (C30 1000000000) (⟨#[]⟩ : ByteArray) p b x q b' ∧ Ev (fun k => V8 k (Ev6 a p b)) (x, Ev6 a q b', ()) := by
 obtain ⟨n, q, b1, hr, h1, _⟩ := Dy4 a p b ha hp
 have hq := hr.hi
 have hpq := hr.le
 have step : ∀ {r : ByteArray × K7 × Unit}, Ev (fun k => Ax3 k (Ev6 a q b1) n) r → Ev (fun k => V8 k (Ev6 a p b)) (r.1, r.2.1, ()) := fun h => h1.bd (h.bd (.of fun _ => rfl))
 cases b1 with
 | true =>
  have hn := hr.badv rfl
  subst hn
  refine ⟨⟨#[]⟩, q, true, ⟨hpq, hq, fun h => ⟨rfl, (hr.bad h).2.1, rfl⟩, fun _ => rfl, fun h => by (cases h), fun hb y hy hs => ?_⟩, step (r := (⟨#[]⟩, Ev6 a q true, ())) (.of fun _ => rfl)⟩
  unfold I9 at hs
  have := hr.full hb _ ⟨by omega, by have : y.size ≤ 1000000000 := hy; omega⟩ (N9.1 hs).1
  cases this.2.2
 | false =>
  have hb : b = false := by cases b with | false => rfl | true => cases (hr.bad rfl).2.2
  subst hb
  obtain ⟨⟨n0, n1⟩, hqe, ah⟩ := hr.sound rfl
  obtain ⟨m, rfl⟩ : ∃ m : Nat, n = (m : Int) := ⟨n.toNat, by omega⟩
  have e1 : B4 ((a.size : Int) - (q : Int)) = (a.size : Int) - q := D7 (by omega) (by omega)
  have e2 : B4 ((q : Int) + (m : Int)) = ((q + m : Nat) : Int) := by rw [D7 (by omega) (by omega)]; omega
  have e3 : B4 (((q + m : Nat) : Int) - (m : Int)) = (q : Int) := by rw [D7 (by omega) (by omega)]; omega
  by_cases hlt : q + m ≤ a.size
  ·have d1 : decide ((m : Int) > (a.size : Int) - q) = false := by simp; omega
   have d2 : decide (((q + m : Nat) : Int) ≤ (a.size : Int)) = true := by simp; omega
   have d3 : decide (0 ≤ ((q + m : Nat) : Int)) = true := decide_eq_true (Int.natCast_nonneg _)
   have d4 : decide (0 ≤ (q : Int)) = true := decide_eq_true (Int.natCast_nonneg _)
   have d5 : decide ((q : Int) ≤ ((q + m : Nat) : Int)) = true := by simp; omega
   have hsz : (a.extract q (q + m)).size = m := by rw [ByteArray.size_extract]; omega
   refine ⟨a.extract q (q + m), q + m, false, ⟨by omega, by omega, fun h => by (cases h), fun h => by (cases h), fun _ => ⟨by unfold C30; omega, by rw [j8, hsz]; omega, ?_⟩, fun _ y hy hs => ?_⟩,
    step (r := (a.extract q (q + m), Ev6 a (q + m) false, ())) (.of fun k => ?_)⟩
   ·unfold I9
    rw [hsz]
    refine N9.2 ⟨ah, ?_⟩
    rw [← hqe]
    exact C29 (by omega) hlt
   ·unfold I9 at hs
    obtain ⟨h3, h4⟩ := N9.1 hs
    have := hr.full rfl _ ⟨by omega, by have : y.size ≤ 1000000000 := hy; omega⟩ h3
    obtain ⟨e4, e5, _⟩ := this
    have e6 : m = y.size := by omega
    subst e6
    rw [← e5] at h4
    exact ⟨B25 h4, by rw [j8]; omega, rfl⟩
   ·simp only [Ax3, br_false, e1, d1, e2, e3, d2, d3, d4, d5, gd_true, Int.toNat_natCast]
  ·refine ⟨⟨#[]⟩, q, true, ⟨hpq, hq, fun h => by (cases h), fun _ => rfl, fun h => by (cases h), fun _ y hy hs => ?_⟩, step (r := (⟨#[]⟩, Ev6 a q true, ())) (.of fun k => ?_)⟩
   ·unfold I9 at hs
    obtain ⟨h3, h4⟩ := N9.1 hs
    have := hr.full rfl _ ⟨by omega, by have : y.size ≤ 1000000000 := hy; omega⟩ h3
    obtain ⟨e4, e5, _⟩ := this
    rw [← e5] at h4
    have := Ev5 h4 hq
    omega
   ·have d1 : decide ((m : Int) > (a.size : Int) - q) = true := by simp; omega
    simp only [Ax3, br_false, e1, d1, br_true]
theorem Fk1 (a : ByteArray) (p : Nat) (b : Bool) (ha : a.size ≤ 1048576) (hp : p ≤ a.size) :
  ∃ x q b', Rd a I9 (C30 20000) (⟨#[]⟩ : ByteArray) p b x q b' ∧ Ev (fun k => Z3 k (Ev6 a p b)) (x, Ev6 a q b', ()) := by
 obtain ⟨r, hr, _, h2⟩ := Dy2 a p ha hp
 obtain ⟨n, q, o⟩ := r
 have nope : ∀ {x : ByteArray × Int}, Ev (fun k => Am5 k a (p : Int)) (x.1, x.2, false) → (∀ y : ByteArray, y.size ≤ 20000 → ¬ Av1 a p (I9 y)) →
   ∃ x q b', Rd a I9 (C30 20000) (⟨#[]⟩ : ByteArray) p b x q b' ∧ Ev (fun k => Z3 k (Ev6 a p b)) (x, Ev6 a q b', ()) := by
  intro x h hno
  refine ⟨⟨#[]⟩, p, true, ⟨Nat.le_refl _, hp, fun _ => ⟨rfl, rfl, rfl⟩, fun _ => rfl, fun h => by (cases h), fun _ y hy hs => absurd hs (hno y hy)⟩, h.bd (.of fun k => ?_)⟩
  cases b <;> rfl
 cases o with
 | false =>
  refine nope (x := (⟨#[]⟩, 0)) (h2.bd (.of fun _ => rfl)) fun y hy hs => ?_
  unfold I9 at hs
  have := hr.full _ (by omega) (by omega) (N9.1 hs).1
  simp at this
 | true =>
  obtain ⟨n0, n1, hq, hqs, ah⟩ := hr.sound rfl
  simp only at n0 n1 hq hqs ah
  obtain ⟨m, rfl⟩ : ∃ m : Nat, n = (m : Int) := ⟨n.toNat, by omega⟩
  generalize hqe : p + (H5 (m : Int)).size = q' at *
  subst hq
  have same : ∀ y : ByteArray, y.size ≤ 20000 → Av1 a p (I9 y) → m = y.size ∧ Av1 a q' y := by
   intro y hy hs
   unfold I9 at hs
   obtain ⟨h3, h4⟩ := N9.1 hs
   have := hr.full _ (by omega) (by omega) h3
   simp only [Prod.mk.injEq] at this
   have e6 : m = y.size := by omega
   subst e6
   rw [hqe] at h4
   exact ⟨rfl, h4⟩
  have e1 : B4 ((a.size : Int) - (q' : Int)) = (a.size : Int) - q' := D7 (by omega) (by omega)
  have e2 : B4 ((q' : Int) + (m : Int)) = ((q' + m : Nat) : Int) := by rw [D7 (by omega) (by omega)]; omega
  by_cases hbig : m ≤ 20000
  ·have d0 : decide ((m : Int) > 20000) = false := by simp; omega
   by_cases hlt : q' + m ≤ a.size
   ·have d1 : decide ((m : Int) > (a.size : Int) - q') = false := by simp; omega
    have d2 : decide (((q' + m : Nat) : Int) ≤ (a.size : Int)) = true := by simp; omega
    have d3 : decide (0 ≤ ((q' + m : Nat) : Int)) = true := decide_eq_true (Int.natCast_nonneg _)
    have d4 : decide (0 ≤ (q' : Int)) = true := decide_eq_true (Int.natCast_nonneg _)
    have d5 : decide ((q' : Int) ≤ ((q' + m : Nat) : Int)) = true := by simp; omega
    have hsz : (a.extract q' (q' + m)).size = m := by rw [ByteArray.size_extract]; omega
    have hev : Ev (fun k => Am5 k a (p : Int)) (a.extract q' (q' + m), ((q' + m : Nat) : Int), true) := h2.bd (.of fun k => by
     simp only [Bool.not_true, br_false, d0, e1, d1, e2, d2, d3, d4, d5, gd_true, Int.toNat_natCast])
    cases b with
    | true => exact ⟨⟨#[]⟩, p, true, .stuck hp, hev.bd (.of fun _ => rfl)⟩
    | false =>
     refine ⟨a.extract q' (q' + m), q' + m, false, ⟨by omega, by omega, fun h => by (cases h), fun h => by (cases h), fun _ => ⟨by unfold C30; omega, by rw [j8, hsz]; omega, ?_⟩, fun _ y hy hs => ?_⟩, hev.bd (.of fun _ => rfl)⟩
     ·unfold I9
      rw [hsz]
      refine N9.2 ⟨ah, ?_⟩
      rw [hqe]
      exact C29 (by omega) hlt
     ·obtain ⟨e6, h4⟩ := same y hy hs
      subst e6
      exact ⟨B25 h4, by rw [j8]; omega, rfl⟩
   ·refine nope (x := (⟨#[]⟩, 0)) (h2.bd (.of fun k => ?_)) fun y hy hs => ?_
    ·have d1 : decide ((m : Int) > (a.size : Int) - q') = true := by simp; omega
     simp only [Bool.not_true, br_false, d0, e1, d1, br_true]
    ·obtain ⟨e6, h4⟩ := same y hy hs
     have := Ev5 h4 hqs
     omega
  ·refine nope (x := (⟨#[]⟩, 0)) (h2.bd (.of fun k => ?_)) fun y hy hs => ?_
   ·have d0 : decide ((m : Int) > 20000) = true := by simp; omega
    simp only [Bool.not_true, br_false, d0, br_true]
   ·obtain ⟨e6, h4⟩ := same y hy hs
    omega
end Go.Vm
end
section
namespace Go.Vm
open Go
def Gw1 (xs : List Int) : Prop := ∀ i, i < xs.length → (1 ≤ rd 0 xs i ∧ rd 0 xs i ≤ 4) ∧ (0 < i → rd 0 xs (i - 1) < rd 0 xs i)
def C31 (xs : List Int) : Prop := 1 ≤ xs.length ∧ xs.length ≤ 4 ∧ Gw1 xs
noncomputable def V9 (xs : List Int) : Bool := @decide (C31 xs) (Classical.propDecidable _)
theorem Z8 {xs : List Int} : V9 xs = true ↔ C31 xs := by unfold V9; exact @decide_eq_true_iff _ (Classical.propDecidable _)
theorem Cl0 {xs : List Int} (h : ¬ C31 xs) : V9 xs = false := by
 cases e : V9 xs with
 | false => rfl
 | true => exact absurd (Z8.1 e) h
theorem Dq8 (a b c : Int) : Z7 a b c = decide (b ≤ a ∧ a ≤ c) := by unfold Z7; rw [Bool.decide_and]
theorem Eo3 {l : Nat → Nat → Nat → Option Bool} {V : Bool} (xs : List Int)
  (hs : ∀ i, i < xs.length → (((1 ≤ rd 0 xs i ∧ rd 0 xs i ≤ 4) ∧ (0 < i → rd 0 xs (i - 1) < rd 0 xs i)) → Re (fun x : Nat × Nat => l x.1 x.2 (i + 1)) (fun v => v = V)) → (¬ ((1 ≤ rd 0 xs i ∧ rd 0 xs i ≤ 4) ∧ (0 < i → rd 0 xs (i - 1) < rd 0 xs i)) → V = false) → Re (fun x : Nat × Nat => l x.1 (x.2 + 1) i) (fun v => v = V))
  (hn : ¬ Gw1 xs → V = false) (he : Gw1 xs → Re (fun x : Nat × Nat => l x.1 (x.2 + 1) xs.length) (fun v => v = V)) : Re (fun x : Nat × Nat => l x.1 x.2 0) (fun v => v = V) := by
 have := Re.loop (ι := Nat) (l := fun k n i => l k n i) (I := fun i => i ≤ xs.length ∧ ∀ j, j < i → (1 ≤ rd 0 xs j ∧ rd 0 xs j ≤ 4) ∧ (0 < j → rd 0 xs (j - 1) < rd 0 xs j)) (fun i => xs.length - i) (Q := fun _ v => v = V) (fun i hi ih => by
  by_cases h : i < xs.length
  ·refine hs i h (fun g => ih (i + 1) ⟨by omega, fun j hj => ?_⟩ (by omega)) (fun g => hn fun hr => g (hr i h))
   by_cases hj2 : j < i
   ·exact hi.2 j hj2
   ·have : j = i := by omega
    subst this; exact g
  ·have hi2 : i = xs.length := by omega
   subst hi2
   exact he hi.2) 0 ⟨Nat.zero_le _, fun j hj => by omega⟩
 exact this
theorem Dh2 (xs : List Int) (hx : xs.length ≤ 1048576) : Ev (fun k => A14 k xs) (V9 xs) := by
 refine Re.eq ?_
 refine Re.s1 (H1 · _ _ _) ?_
 rw [Dq8]
 refine Re.brd (fun h => ?_) (fun h => Re.ret (Cl0 fun hc => h ⟨by have := hc.1; omega, by have := hc.2.1; omega⟩).symm)
 refine Re.b1 (P := fun v => v = V9 xs) ?_ (fun v hv => Re.ret hv)
 refine Re.enter (f := fun k n => X8 k n xs 1 4 0) C6 ?_
 refine Eo3 (l := fun k n i => X8 k n xs 1 4 (i : Int)) xs (fun i hi ih hf => ?_) (fun g => Cl0 fun hc => g hc.2.2) (fun g => ?_)
 ·simp only [X8, A91]
  refine Re.brd (fun _ => ?_) (fun h => absurd (by omega : (i : Int) < xs.length) h)
  refine Re.gdd (by omega) (Re.gdd (by omega) ?_)
  refine Re.b2 (P := fun v => v = Z7 (rd 0 xs i) 1 4) (Ev.re (Ev.of fun k => H1 k _ _ _) rfl) fun v hv => ?_
  subst hv
  rw [Dq8]
  refine Re.br (fun h1 => ?_) (fun h1 => ?_)
  ·exact Re.ret (hf fun g => by simp [g.1] at h1).symm
  ·have h1 : 1 ≤ rd 0 xs i ∧ rd 0 xs i ≤ 4 := by simpa using h1
   have e : B4 ((i : Int) + 1) = ((i + 1 : Nat) : Int) := C9 hi (by omega)
   rw [e]
   refine Re.brd (fun h2 => ?_) (fun h2 => ih ⟨h1, fun h => absurd (by omega) h2⟩)
   have e2 : B4 ((i : Int) - 1) = ((i - 1 : Nat) : Int) := Cz0 (by omega) (by omega)
   rw [e2]
   refine Re.gdd (by omega) (Re.gdd (by omega) (Re.gdd (by omega) (Re.gdd (by omega) ?_)))
   simp only [Int.toNat_natCast]
   refine Re.brd (fun h3 => Re.ret (hf fun g => by have := g.2 (by omega); omega).symm) (fun h3 => ih ⟨h1, fun _ => by omega⟩)
 ·simp only [X8, A91, Int.lt_irrefl, decide_false, br_false]
  exact Re.ret (Z8.2 ⟨by omega, by omega, g⟩).symm
theorem Dh3 (xs : List Int) (hx : xs.length ≤ 1048576) : Ev (fun k => Bu3 k xs) (V9 xs) := by
 refine Re.eq ?_
 refine Re.enter (f := fun k n => j6 k n xs 0) C6 ?_
 refine Eo3 (l := fun k n i => j6 k n xs (i : Int)) xs (fun i hi ih hf => ?_) (fun g => Cl0 fun hc => g hc.2.2) (fun g => ?_)
 ·simp only [j6, Bl2]
  refine Re.brd (fun _ => ?_) (fun h => absurd (by omega : (i : Int) < xs.length) h)
  refine Re.gdd (by omega) (Re.gdd (by omega) ?_)
  refine Re.b2 (P := fun v => v = Z7 (rd 0 xs i) 1 4) (Ev.re (Ev.of fun k => Af3 k _ _ _) rfl) fun v hv => ?_
  subst hv
  rw [Dq8]
  refine Re.br (fun h1 => ?_) (fun h1 => ?_)
  ·exact Re.ret (hf fun g => by simp [g.1] at h1).symm
  ·have h1 : 1 ≤ rd 0 xs i ∧ rd 0 xs i ≤ 4 := by simpa using h1
   have e : B4 ((i : Int) + 1) = ((i + 1 : Nat) : Int) := C9 hi (by omega)
   rw [e]
   refine Re.brd (fun h2 => ?_) (fun h2 => ih ⟨h1, fun h => absurd (by omega) h2⟩)
   have e2 : B4 ((i : Int) - 1) = ((i - 1 : Nat) : Int) := Cz0 (by omega) (by omega)
   rw [e2]
   refine Re.gdd (by omega) (Re.gdd (by omega) ?_)
   simp only [Int.toNat_natCast]
   refine Re.brd (fun h3 => Re.ret (hf fun g => by have := g.2 (by omega); omega).symm) (fun h3 => ih ⟨h1, fun _ => by omega⟩)
 ·simp only [j6, Bl2, Int.lt_irrefl, decide_false, br_false]
  refine Re.b2 (P := fun v => v = Z7 (xs.length : Int) 1 4) (Ev.re (Ev.of fun k => Af3 k _ _ _) rfl) fun v hv => ?_
  subst hv
  refine Re.ret ?_
  rw [Dq8, Bool.eq_iff_iff, decide_eq_true_iff, Z8]
  exact ⟨fun h => ⟨by omega, by omega, g⟩, fun h => ⟨by have := h.1; omega, by have := h.2.1; omega⟩⟩
def W0 (a : ByteArray) : List Int := D4 a
theorem R8 (a : ByteArray) : (W0 a).length = a.size := D5 a
theorem Dh4 {a : ByteArray} {i : Nat} (h : i < a.size) : (W0 a).take (i + 1) = (W0 a).take i ++ [B4 (bt a i)] := by
 have hb := Fj8 a i
 have hl : i < (D4 a).length := by rw [D5]; exact h
 rw [D7 (by omega) (by omega), Gv9, E8 hl]
 unfold W0
 rw [List.take_add_one, List.getElem?_eq_getElem hl]
 rfl
noncomputable def I7 (a : ByteArray) : List Int × Bool := bif V9 (W0 a) then (W0 a, true) else ([], false)
theorem Ea5 (a : ByteArray) (ha : a.size ≤ 1048576) : Ev (fun k => Be8 k a) (I7 a) := by
 refine Re.eq ?_
 refine Re.enter (f := fun k n => Z2 k n a 0 []) C6 ?_
 have := Re.loop (ι := Nat) (l := fun k n (i : Nat) => Z2 k n a (i : Int) ((W0 a).take i)) (I := fun i => i ≤ a.size) (fun i => a.size - i) (Q := fun _ v => v = I7 a) (fun i hi ih => by
  simp only [Z2, Bo7]
  refine Re.brd (fun h => ?_) (fun h => ?_)
  ·refine Re.gdd (by omega) (Re.gdd h (Re.gdd ?_ ?_))
   ·have := R8 a
    simp [A3]; omega
   ·rw [C9 (show i < a.size by omega) (by omega), Int.toNat_natCast, ← Dh4 (by omega)]
    exact ih (i + 1) (by omega) (by omega)
  ·have e : (W0 a).take i = W0 a := List.take_of_length_le (by rw [R8]; omega)
   rw [e]
   refine Re.b2 (P := fun v => v = V9 (W0 a)) (Ev.re (Dh3 _ (by rw [R8]; exact ha)) rfl) fun v hv => ?_
   subst hv
   unfold I7
   cases V9 (W0 a) <;> exact Re.ret rfl) 0 (Nat.zero_le _)
 simpa using this
theorem Ea6 (a : ByteArray) (ha : a.size ≤ 1048576) : Ev (fun k => Bf1 k a) (I7 a) := by
 refine Re.eq ?_
 refine Re.enter (f := fun k n => Z6 k n a 0 []) C6 ?_
 have fin : ∀ i : Nat, i ≤ a.size → (i = a.size ∨ 5 ≤ i) → Re (fun x : Nat × Nat => br (((((W0 a).take i).length : Nat) : Int) != (a.size : Int)) (some (([] : List Int), false)) (bd (A14 x.1 ((W0 a).take i)) fun r1 => (br (!r1) (some ([], false)) (some (((W0 a).take i), true))))) (fun v => v = I7 a) := by
  intro i hi h5
  have hl : ((W0 a).take i).length = i := by rw [List.length_take, R8]; omega
  rw [hl]
  refine Re.brn (fun h => Re.ret ?_) (fun h => ?_)
  ·unfold I7
   rw [Cl0 (fun hc => by have := hc.2.1; rw [R8] at this; omega)]
   rfl
  ·have e : (W0 a).take i = W0 a := List.take_of_length_le (by rw [R8]; omega)
   rw [e]
   refine Re.b2 (P := fun v => v = V9 (W0 a)) (Ev.re (Dh2 _ (by rw [R8]; exact ha)) rfl) fun v hv => ?_
   subst hv
   unfold I7
   cases V9 (W0 a) <;> exact Re.ret rfl
 have := Re.loop (ι := Nat) (l := fun k n (i : Nat) => Z6 k n a (i : Int) ((W0 a).take i)) (I := fun i => i ≤ a.size) (fun i => a.size - i) (Q := fun _ v => v = I7 a) (fun i hi ih => by
  simp only [Z6, Bp2]
  refine Re.brd (fun h => ?_) (fun h => fin i hi (.inl (by omega)))
  refine Re.brd (fun h4 => ?_) (fun h4 => fin i hi (.inr (by omega)))
  refine Re.gdd (by omega) (Re.gdd h (Re.gdd ?_ ?_))
  ·have := R8 a
   simp [A3]; omega
  ·rw [C9 (show i < a.size by omega) (by omega), Int.toNat_natCast, ← Dh4 (by omega)]
   exact ih (i + 1) (by omega) (by omega)) 0 (Nat.zero_le _)
 simpa using this
noncomputable def Hp5 (e : D9) : Bool := Z7 e.1 0 100000 && (bif e.2.1 == 1 then decide (e.2.2.1 = ⟨#[]⟩) else bif e.2.1 == 2 then V9 (W0 e.2.2.1) else bif e.2.1 == 3 then decide (e.2.2.1.size ≤ 120) else false)
noncomputable def p8 (xs : List Int) : ByteArray × Bool := bif V9 xs then (C0 xs, true) else (⟨#[]⟩, false)
theorem Eo4 {xs : List Int} (h : C31 xs) : ∀ i, i < xs.length → IntKind.wrap .u8 (rd 0 xs i) = rd 0 xs i := fun i hi => by
 have := (h.2.2 i hi).1
 exact Fh0 (by omega) (by omega)
theorem Eo5 {xs : List Int} {i : Nat} (h : i < xs.length) : xs.take (i + 1) = xs.take i ++ [rd 0 xs i] := by
 rw [List.take_add_one, List.getElem?_eq_getElem h, E8 h]; rfl
theorem Cp3 (xs : List Int) (hx : xs.length ≤ 1048576) : Ev (fun k => Be4 k xs) (p8 xs) := by
 refine Re.eq ?_
 refine Re.c1 (Dh2 xs hx) ?_
 unfold p8
 refine Re.br (fun h => ?_) (fun h => ?_)
 ·rw [show V9 xs = false by simpa using h]; exact Re.ret rfl
 have hc : V9 xs = true := by simpa using h
 have hp := Z8.1 hc
 rw [hc]
 refine Re.enter (f := fun k n => Z0 k n xs 0 []) C6 ?_
 have := Re.loop (ι := Nat) (l := fun k n (i : Nat) => Z0 k n xs (i : Int) (xs.take i)) (I := fun i => i ≤ xs.length) (fun i => xs.length - i) (Q := fun _ v => v = (C0 xs, true)) (fun i hi ih => by
  simp only [Z0, Bo5]
  refine Re.brd (fun h => ?_) (fun h => Re.ret (by rw [List.take_of_length_le (by omega)]))
  refine Re.gdd (by omega) (Re.gdd h (Re.gdd (by simp [A3]; omega) ?_))
  rw [C9 (show i < xs.length by omega) (by omega), Int.toNat_natCast, Eo4 hp i (by omega), ← Eo5 (by omega)]
  exact ih (i + 1) (by omega) (by omega)) 0 (Nat.zero_le _)
 simpa using this
theorem Cp4 (xs : List Int) (hx : xs.length ≤ 1048576) : Ev (fun k => Be6 k xs) (p8 xs) := by
 refine Re.eq ?_
 refine Re.c1 (Dh3 xs hx) ?_
 unfold p8
 refine Re.br (fun h => ?_) (fun h => ?_)
 ·rw [show V9 xs = false by simpa using h]; exact Re.ret rfl
 have hc : V9 xs = true := by simpa using h
 have hp := Z8.1 hc
 rw [hc]
 refine Re.enter (f := fun k n => Z1 k n xs 0 []) C6 ?_
 have := Re.loop (ι := Nat) (l := fun k n (i : Nat) => Z1 k n xs (i : Int) (xs.take i)) (I := fun i => i ≤ xs.length) (fun i => xs.length - i) (Q := fun _ v => v = (C0 xs, true)) (fun i hi ih => by
  simp only [Z1, Bo6]
  refine Re.brd (fun h => ?_) (fun h => Re.ret (by rw [List.take_of_length_le (by omega)]))
  refine Re.gdd (by omega) (Re.gdd h (Re.gdd (by simp [A3]; omega) ?_))
  rw [C9 (show i < xs.length by omega) (by omega), Int.toNat_natCast, Eo4 hp i (by omega), ← Eo5 (by omega)]
  exact ih (i + 1) (by omega) (by omega)) 0 (Nat.zero_le _)
 simpa using this
theorem Ev7 {xs : List Int} (h : ∀ x ∈ xs, 0 ≤ x ∧ x < 256) : D4 (C0 xs) = xs := by
 unfold D4 C0
 simp only [List.map_map]
 induction xs with
 | nil => rfl
 | cons x xs ih =>
  have hx := h x (List.mem_cons_self ..)
  simp only [List.map_cons]
  rw [ih fun y hy => h y (List.mem_cons_of_mem _ hy)]
  congr 1
  show ((UInt8.ofNat x.toNat).toNat : Int) = x
  rw [UInt8.toNat_ofNat']
  omega
theorem He4 {xs : List Int} (h : C31 xs) : ∀ x ∈ xs, 1 ≤ x ∧ x ≤ 4 := fun x hx => by
 obtain ⟨i, hi, rfl⟩ := List.getElem_of_mem hx
 have := (h.2.2 i hi).1
 rwa [E8 hi] at this
theorem Dy5 {xs : List Int} (h : C31 xs) : W0 (C0 xs) = xs := Ev7 fun x hx => by have := He4 h x hx; omega
theorem Gw2 (c : B0) (h : CurOk c) : Re (fun k => Bc3 k c) (fun r => C31 r.1 ∧ CurOk r.2.1) := by
 refine Re.enter (f := fun k n => n9 k n 1 c.1 c.2.1 c.2.2.1 []) C6 ?_
 have := Re.loop (ι := Nat) (l := fun k n (s : Int × B0 × List Int) => n9 k n s.1 s.2.1.1 s.2.1.2.1 s.2.1.2.2.1 s.2.2)
  (I := fun s => (1 ≤ s.1 ∧ s.1 ≤ 5) ∧ CurOk s.2.1 ∧ (s.2.2.length : Int) < s.1 ∧ Gw1 s.2.2 ∧ ∀ i, i < s.2.2.length → rd 0 s.2.2 i < s.1) (fun s => (5 - s.1).toNat) (Q := fun _ r => C31 r.1 ∧ CurOk r.2.1) (fun s hi ih => by
  obtain ⟨v, c, xs⟩ := s
  obtain ⟨⟨h1, h2⟩, h3, h4, h5, h6⟩ := hi
  simp only at h1 h2 h3 h4 h5 h6 ih ⊢
  simp only [n9, B05]
  refine Re.brd (fun h7 => ?_) (fun h7 => ?_)
  ·refine Re.b2 (Bl9 _ 2 h3.eta) fun r hr => ?_
   have e : B4 (v + 1) = v + 1 := D7 (by omega) (by omega)
   rw [e]
   have app : ∀ i, i < (xs ++ [v]).length → i < xs.length ∧ rd 0 (xs ++ [v]) i = rd 0 xs i ∨ i = xs.length ∧ rd 0 (xs ++ [v]) i = v := fun i hi => by
    by_cases q : i < xs.length
    ·refine .inl ⟨q, ?_⟩
     simp [rd, List.getElem?_append_left q]
    ·refine .inr ⟨by simp at hi; omega, ?_⟩
     have : i = xs.length := by simp at hi; omega
     subst this
     simp [rd]
   refine Re.brb (Re.gdd (by simp [A3]; omega) (ih (v + 1, r.2.1, xs ++ [v]) ⟨⟨by simp only; omega, by simp only; omega⟩, hr, by simp; omega, fun i hi => ?_, fun i hi => ?_⟩ (by simp only; omega))) (ih (v + 1, r.2.1, xs) ⟨⟨by simp only; omega, by simp only; omega⟩, hr, by simp only; omega, h5, fun i hi => by have := h6 i hi; simp only; omega⟩ (by simp only; omega))
   ·simp only at hi ⊢
    rcases app i hi with ⟨q, e1⟩ | ⟨q, e1⟩
    ·rw [e1]
     refine ⟨(h5 i q).1, fun h => ?_⟩
     have e2 : rd 0 (xs ++ [v]) (i - 1) = rd 0 xs (i - 1) := by
      rcases app (i - 1) (by simp; omega) with ⟨_, e2⟩ | ⟨q2, _⟩
      ·exact e2
      ·omega
     rw [e2]
     exact (h5 i q).2 h
    ·rw [e1]
     refine ⟨⟨h1, h7⟩, fun h => ?_⟩
     have e2 : rd 0 (xs ++ [v]) (i - 1) = rd 0 xs (i - 1) := by
      rcases app (i - 1) (by simp; omega) with ⟨_, e2⟩ | ⟨q2, _⟩
      ·exact e2
      ·omega
     rw [e2]
     exact h6 (i - 1) (by omega)
   ·simp only at hi ⊢
    rcases app i hi with ⟨q, e1⟩ | ⟨q, e1⟩
    ·rw [e1]; have := h6 i q; omega
    ·rw [e1]; omega
  ·refine Re.bre (fun h8 => Re.gdd (by simp [A3]; omega) (Re.ret ?_)) (fun h8 => Re.ret ⟨⟨by simp only; omega, by simp only; omega, h5⟩, h3⟩)
   have : xs = [] := List.length_eq_zero_iff.1 (by omega)
   subst this
   refine ⟨⟨by simp, by simp, fun i hi => ?_⟩, h3⟩
   have : i = 0 := by simp at hi; omega
   subst this
   exact ⟨by simp [rd], fun h => absurd h (by omega)⟩) (1, c, []) ⟨⟨Int.le_refl 1, by simp only; omega⟩, h, by simp, fun i hi => absurd hi (by simp), fun i hi => absurd hi (by simp)⟩
 exact this
end Go.Vm
end
section
namespace Go.Vm
open Go
def Hz9 (l : Et1) (i : Nat) : Int := if i = 0 then l.2.1 else (rd A9 l.2.2.1 (i - 1)).1
def H00 (l : Et1) : Prop := ∀ i, i < l.2.2.1.length → Hp5 (rd A9 l.2.2.1 i) = true ∧ Hz9 l i ≤ (rd A9 l.2.2.1 i).1
def H13 (l : Et1) : Prop := (0 ≤ l.1 ∧ l.1 ≤ 1000000) ∧ (0 ≤ l.2.1 ∧ l.2.1 ≤ 100000) ∧ l.2.2.1.length ≤ 60 ∧ l.1 + l.2.2.1.length ≤ 1000000 ∧ H00 l
noncomputable def Hs6 (l : Et1) : Bool := @decide (H13 l) (Classical.propDecidable _)
def F94 (l : Et1) : Int := l.1 + l.2.2.1.length
def F95 (l : Et1) (i : Int) : Int := if i = l.1 then l.2.1 else if i < l.1 ∨ i > F94 l then -1 else (rd A9 l.2.2.1 (i - l.1 - 1).toNat).1
noncomputable def Hv6 (a b : Et1) (v : Int) : Bool := decide (v < F94 a) && (decide (v < F94 b) && eqd (rd A9 a.2.2.1 (v - a.1).toNat) (rd A9 b.2.2.1 (v - b.1).toNat))
noncomputable def shN (a b : Et1) : Nat → Int → Int
 | 0, v => v
 | f + 1, v => bif Hv6 a b v then shN a b f (v + 1) else v
noncomputable def shared (a b : Et1) : Int := bif Hs6 a && Hs6 b then (let s := if b.1 > a.1 then b.1 else a.1; if F95 a s < 0 then -1 else if F95 a s = F95 b s then shN a b 200 s else -1) else -1
theorem Ea7 (a : List Int) (h : a.length ≤ 1048576) : Re (fun k => X9 k a) (fun r => r.length = 12 ∧ ∀ x ∈ r, 0 ≤ x ∧ x < 10000) := by
 have hc : ∀ v : Int, Re (fun k => bd (W6 k (a, 0, v, ())) fun r1 => T0 k k 0 r1.2.1.1 r1.2.1.2.1 r1.2.1.2.2.1 []) (fun r => r.length = 12 ∧ ∀ x ∈ r, 0 ≤ x ∧ x < 10000) → True := fun _ _ => trivial
 have tail : ∀ c : B0, CurOk c → Re (fun x : Nat × Nat => T0 x.1 x.2 0 c.1 c.2.1 c.2.2.1 []) (fun r => r.length = 12 ∧ ∀ x ∈ r, 0 ≤ x ∧ x < 10000) := by
  intro c hc
  have := Re.loop (ι := Nat) (l := fun k n (s : B0 × List Int) => T0 k n (s.2.length : Int) s.1.1 s.1.2.1 s.1.2.2.1 s.2) (I := fun s => s.2.length ≤ 12 ∧ CurOk s.1 ∧ ∀ x ∈ s.2, 0 ≤ x ∧ x < 10000) (fun s => 12 - s.2.length) (Q := fun _ r => r.length = 12 ∧ ∀ x ∈ r, 0 ≤ x ∧ x < 10000) (fun s hi ih => by
   obtain ⟨c, xs⟩ := s
   obtain ⟨i1, i2, i3⟩ := hi
   simp only at i1 i2 i3 ih ⊢
   simp only [T0, A59]
   refine Re.brd (fun q => ?_) (fun q => Re.ret ⟨by omega, i3⟩)
   refine Re.b2 (N2 _ 10000 i2.eta) fun r hr => Re.gdd (by simp [A3]; omega) ?_
   obtain ⟨⟨g1, g2⟩, g3⟩ := hr
   have e1 : B4 ((xs.length : Int) + 1) = ((xs.length + 1 : Nat) : Int) := by rw [D7 (by omega) (by omega)]; rfl
   rw [e1]
   have := ih (r.2.1, xs ++ [r.1]) ⟨by simp; omega, g3, fun x hx => by
    rcases List.mem_append.1 hx with hx | hx
    ·exact i3 x hx
    ·simp at hx; subst hx; omega⟩ (by simp; omega)
   simpa using this) (c, []) ⟨by simp, hc, fun x hx => by simp at hx⟩
  simpa using this
 refine Re.enter (f := fun k n => T1 k n a (B4 (13101 + (a.length : Int))) 0) C6 ?_
 have := Re.loop (ι := Nat) (l := fun k n (s : Int × Int) => T1 k n a s.1 s.2) (I := fun s => 0 ≤ s.2 ∧ s.2 ≤ a.length) (fun s => (a.length - s.2).toNat) (Q := fun _ r => r.length = 12 ∧ ∀ x ∈ r, 0 ≤ x ∧ x < 10000) (fun s hi ih => by
  obtain ⟨v1, v2⟩ := s
  simp only at hi
  simp only [T1, A60]
  have hcur : CurOk (a, 0, v1, ()) := ⟨Int.le_refl 0, by show (0 : Int) ≤ _; omega, h⟩
  refine Re.brd (fun h1 => ?_) (fun h1 => Re.b2 (B16 _ hcur) fun r hr => tail _ hr.2)
  refine Re.brd (fun h2 => ?_) (fun h2 => Re.b2 (B16 _ hcur) fun r hr => tail _ hr.2)
  have e : B4 (v2 + 1) = v2 + 1 := D7 (by omega) (by omega)
  refine Re.gdd hi.1 (Re.gdd h1 ?_)
  rw [e]
  exact ih (_, v2 + 1) (by simp only; omega) (by simp only; omega)) (B4 (13101 + (a.length : Int)), 0) ⟨Int.le_refl 0, by simp only; omega⟩
 exact this
end Go.Vm
end
section
namespace Go.Vm
open Go
theorem Eo6 (k : Nat) : ∀ n, Q8 k n = Q9 k n
 | 0 => rfl
 | n + 1 => by
  show (Ap1 k (Q8 k n).2, Ap2 k (Q8 k n).2 (Q8 k n).1) = (B06 k (Q9 k n).2, B07 k (Q9 k n).2 (Q9 k n).1)
  rw [Eo6 k n]; rfl
theorem F96 (k : Nat) (t : ByteArray) : C02 k t = Bl1 k t := by
 show bd ((Q9 k k).1 4294967295 t 0) _ = bd ((Q8 k k).1 4294967295 t 0) _
 rw [Eo6]
theorem He5 (t : ByteArray) (ht : t.size ≤ 1048576) : Re (fun k => Bl1 k t) (fun _ => True) := by
 refine Re.b1 (P := fun _ => True) ?_ fun v _ => Re.ret trivial
 refine Re.enter (f := fun k n => o0 k n 4294967295 t 0) C6 ?_
 have := Re.wf (l := fun k n (st : (Int × Nat) ⊕ (Int × Nat × Nat)) => match st with
  | .inl (a, i) => o0 k n a t (i : Int)
  | .inr (a, i, j) => Ap3 k n a t (i : Int) (j : Int))
  (I := fun st => match st with
  | .inl (_, i) => i ≤ t.size
  | .inr (_, i, j) => i < t.size ∧ j ≤ 8)
  (fun st => match st with
  | .inl (_, i) => (t.size - i, 10)
  | .inr (_, i, j) => (t.size - i, 9 - j)) (Q := fun _ _ => True) (fun st hi ih => by
   rcases st with ⟨a, i⟩ | ⟨a, i, j⟩
   ·simp only at hi ih ⊢
    simp only [Et9, Ap1]
    refine Re.brd (fun h => Re.gdd (Int.natCast_nonneg _) (Re.gdd h ?_)) (fun h => Re.ret trivial)
    exact ih (.inr (_, i, 0)) ⟨by omega, by omega⟩ (.inr ⟨rfl, by simp only; omega⟩)
   ·obtain ⟨h1, h2⟩ := hi
    simp only at ih ⊢
    simp only [Eu0, Ap2]
    have ej : B4 ((j : Int) + 1) = ((j + 1 : Nat) : Int) := by rw [D7 (by omega) (by omega)]; rfl
    have ei : B4 ((i : Int) + 1) = ((i + 1 : Nat) : Int) := by rw [D7 (by omega) (by omega)]; rfl
    refine Re.brd (fun h => Re.ng (Hc0 _) (Re.ng (Hc0 _) ?_)) (fun h => ?_)
    ·rw [ej]
     exact Re.brb (ih (.inr (_, i, j + 1)) ⟨h1, by omega⟩ (.inr ⟨rfl, by simp only; omega⟩)) (ih (.inr (_, i, j + 1)) ⟨h1, by omega⟩ (.inr ⟨rfl, by simp only; omega⟩))
    ·rw [ei]
     exact ih (.inl (a, i + 1)) (by simp only; omega) (.inl (by simp only; omega))) (.inl (4294967295, 0)) (Nat.zero_le _)
 exact this
noncomputable def Fk2 (t : ByteArray) : Int := @dite Int (t.size ≤ 1048576) (Classical.propDecidable _) (fun h => Classical.choose (He5 t h)) (fun _ => 0)
theorem F97 (t : ByteArray) (ht : t.size ≤ 1048576) : Ev (fun k => Bl1 k t) (Fk2 t) := by
 unfold Fk2
 rw [dif_pos ht]
 exact (Classical.choose_spec (He5 t ht)).2
def Dh5 (x : Int) : ByteArray := C0 [IntKind.wrap .u8 (Int.fdiv x (2 ^ 24)), IntKind.wrap .u8 (Int.fdiv x (2 ^ 16)), IntKind.wrap .u8 (Int.fdiv x (2 ^ 8)), IntKind.wrap .u8 x]
theorem Cu6 (x : Int) : (Dh5 x).size = 4 := by unfold Dh5; rw [H4]; rfl
theorem He6 (s : ByteArray) : (⟨#[]⟩ : ByteArray) ++ s = s := by apply A55; simp
end Go.Vm
end
section
namespace Go.Vm
open Go
def A20 (a b : ByteArray) : Bool := Op.bytesLess a.toList b.toList
def Cp5 (f : B1) : Prop := (1 ≤ f.1.size ∧ f.1.size ≤ 8) ∧ f.2.1.size ≤ 20000 ∧ 0 ≤ f.2.2.1 ∧ f.2.2.1 ≤ f.2.1.size
def Bm0 (d : List B1) : Prop := d.length ≤ 30 ∧ ∀ i, i < d.length → Cp5 (rd A4 d i) ∧ (0 < i → A20 (rd A4 d (i - 1)).1 (rd A4 d i).1 = true)
theorem Eo7 {l : Nat → Nat → Nat → Option Bool} {V : Bool} (d : List B1) (h : Bm0 d)
  (hs : ∀ i, i < d.length → ∀ k n, l k (n + 1) i = l k n (i + 1)) (he : ∀ k n, l k (n + 1) d.length = some V) : Ev (fun k => l k k 0) V :=
 Dq3 d.length (fun i hi => ⟨0, fun k _ n => hs i hi k n⟩) ⟨0, fun k _ n => he k n⟩
theorem S4 (d : List B1) (h : Bm0 d) : Ev (fun k => F7 k (d, ())) true := by
 have hl := h.1
 have := Eo7 (l := fun k n i => j4 k n (i : Int) (d, ())) (V := true) d h (fun i hi k n => by
  obtain ⟨⟨⟨n1, n2⟩, t1, k1, k2⟩, hlt⟩ := h.2 i hi
  have d1 : decide ((i : Int) < (d.length : Int)) = true := decide_eq_true (by omega)
  have d2 : decide (0 ≤ (i : Int)) = true := decide_eq_true (Int.natCast_nonneg _)
  have d3 : Z7 ((rd A4 d i).1.size : Int) 1 8 = true := G4.2 ⟨by omega, by omega⟩
  have d4 : decide (((rd A4 d i).2.1.size : Int) > 20000) = false := decide_eq_false (by omega)
  have d5 : Z7 (rd A4 d i).2.2.1 0 ((rd A4 d i).2.1.size : Int) = true := G4.2 ⟨k1, k2⟩
  have ei : B4 ((i : Int) + 1) = ((i + 1 : Nat) : Int) := by rw [D7 (by omega) (by omega)]; rfl
  simp only [j4, Bk0, d1, d2, br_true, gd_true, Int.toNat_natCast, S5, H1, bd_some, d3, Bool.not_true, br_false, d4, d5, ei]
  by_cases h0 : i = 0
  ·subst h0; rfl
  ·have d6 : decide ((i : Int) > 0) = true := decide_eq_true (by omega)
   have ep : B4 ((i : Int) - 1) = ((i - 1 : Nat) : Int) := by rw [D7 (by omega) (by omega)]; omega
   have d7 : decide (((i - 1 : Nat) : Int) < (d.length : Int)) = true := decide_eq_true (by omega)
   have d8 : decide (0 ≤ ((i - 1 : Nat) : Int)) = true := decide_eq_true (Int.natCast_nonneg _)
   have hb : Op.bytesLess (rd A4 d (i - 1)).1.toList (rd A4 d i).1.toList = true := hlt (by omega)
   simp only [d6, br_true, ep, d7, d8, gd_true, Int.toNat_natCast, hb, Bool.not_true, br_false]) (fun k n => by
  simp only [j4, Bk0, decide_eq_false (Int.lt_irrefl _), br_false])
 show Ev (fun k => br (decide ((d.length : Int) > 30)) (some false) (j4 k k 0 (d, ()))) true
 rw [show decide ((d.length : Int) > 30) = false from decide_eq_false (by omega)]
 exact this
theorem Dh6 (d : List B1) (h : Bm0 d) : Ev (fun k => Bu5 k (d, ())) true := by
 have hl := h.1
 have := Eo7 (l := fun k n i => Ab7 k n (d, ()) (i : Int)) (V := true) d h (fun i hi k n => by
  obtain ⟨⟨⟨n1, n2⟩, t1, k1, k2⟩, hlt⟩ := h.2 i hi
  have d1 : decide ((i : Int) < (d.length : Int)) = true := decide_eq_true (by omega)
  have d2 : decide (0 ≤ (i : Int)) = true := decide_eq_true (Int.natCast_nonneg _)
  have d3 : Z7 ((rd A4 d i).1.size : Int) 1 8 = true := G4.2 ⟨by omega, by omega⟩
  have d4 : decide (((rd A4 d i).2.1.size : Int) > 20000) = false := decide_eq_false (by omega)
  have d5 : Z7 (rd A4 d i).2.2.1 0 ((rd A4 d i).2.1.size : Int) = true := G4.2 ⟨k1, k2⟩
  have ei : B4 ((i : Int) + 1) = ((i + 1 : Nat) : Int) := by rw [D7 (by omega) (by omega)]; rfl
  simp only [Ab7, Bl4, d1, d2, br_true, gd_true, Int.toNat_natCast, Af3, bd_some, d3, Bool.not_true, br_false, d4, d5, ei]
  by_cases h0 : i = 0
  ·subst h0; rfl
  ·have d6 : decide ((i : Int) > 0) = true := decide_eq_true (by omega)
   have ep : B4 ((i : Int) - 1) = ((i - 1 : Nat) : Int) := by rw [D7 (by omega) (by omega)]; omega
   have d7 : decide (((i - 1 : Nat) : Int) < (d.length : Int)) = true := decide_eq_true (by omega)
   have d8 : decide (0 ≤ ((i - 1 : Nat) : Int)) = true := decide_eq_true (Int.natCast_nonneg _)
   have hb : Op.bytesLess (rd A4 d (i - 1)).1.toList (rd A4 d i).1.toList = true := hlt (by omega)
   simp only [d6, br_true, ep, d7, d8, gd_true, Int.toNat_natCast, hb, Bool.not_true, br_false]) (fun k n => by
  simp only [Ab7, Bl4, decide_eq_false (Int.lt_irrefl _), br_false, decide_eq_true (show (d.length : Int) ≤ 30 by omega)])
 exact this
def atF : List B1 → ByteArray → Nat → Int
 | [], _, _ => -1
 | f :: r, nm, i => bif decide (f.1 = nm) then (i : Int) else atF r nm (i + 1)
theorem Ev8 (d : List B1) (nm : ByteArray) (hl : d.length ≤ 1000) : ∀ (m i : Nat), i + m = d.length → ∀ k n, m < n →
  Ak6 k n nm (i : Int) (d, ()) = some (atF (d.drop i) nm i) ∧ Ab8 k n (d, ()) (i : Int) nm = some (atF (d.drop i) nm i)
 | 0, i, hm, k, n, hn => by
  obtain ⟨n, rfl⟩ : ∃ q, n = q + 1 := ⟨n - 1, by omega⟩
  have d1 : decide ((i : Int) < (d.length : Int)) = false := decide_eq_false (by omega)
  rw [List.drop_eq_nil_of_le (by omega)]
  simp only [Ak6, By8, Ab8, Bl5, d1, br_false, atF, and_self]
 | m + 1, i, hm, k, n, hn => by
  obtain ⟨n, rfl⟩ : ∃ q, n = q + 1 := ⟨n - 1, by omega⟩
  have hi : i < d.length := by omega
  have d1 : decide ((i : Int) < (d.length : Int)) = true := decide_eq_true (by omega)
  have d2 : decide (0 ≤ (i : Int)) = true := decide_eq_true (Int.natCast_nonneg _)
  have ei : B4 ((i : Int) + 1) = ((i + 1 : Nat) : Int) := by rw [D7 (by omega) (by omega)]; rfl
  obtain ⟨h1, h2⟩ := Ev8 d nm hl m (i + 1) (by omega) k n (by omega)
  have hd : d.drop i = rd A4 d i :: d.drop (i + 1) := by rw [List.drop_eq_getElem_cons hi, ← E8 hi (z := A4)]
  simp only [Ak6, By8, Ab8, Bl5, d1, d2, br_true, gd_true, Int.toNat_natCast, ei, h1, h2, l6, hd, atF]
  cases decide ((rd A4 d i).1 = nm) with
  | true => exact ⟨rfl, rfl⟩
  | false => exact ⟨rfl, rfl⟩
theorem Fk3 (d : List B1) (nm : ByteArray) (hl : d.length ≤ 1000) : Ev (fun k => Bk3 k (d, ()) nm) (atF d nm 0) ∧ Ev (fun k => Cb7 k (d, ()) nm) (atF d nm 0) :=
 ⟨⟨d.length + 1, fun k hk => (Ev8 d nm hl d.length 0 (Nat.zero_add _) k k (by omega)).1⟩, ⟨d.length + 1, fun k hk => (Ev8 d nm hl d.length 0 (Nat.zero_add _) k k (by omega)).2⟩⟩
theorem Dy6 : ∀ (d : List B1) (nm : ByteArray) (i : Nat), atF d nm i < 0 ∨ ((i : Int) ≤ atF d nm i ∧ atF d nm i < i + d.length)
 | [], _, _ => .inl (by show (-1 : Int) < 0; decide)
 | f :: r, nm, i => by
  unfold atF
  cases decide (f.1 = nm) with
  | true => exact .inr ⟨Int.le_refl _, by simp; omega⟩
  | false =>
   rcases Dy6 r nm (i + 1) with h | h
   ·exact .inl h
   ·exact .inr ⟨by simp only [cond_false]; omega, by simp only [cond_false, List.length_cons]; omega⟩
def Bf9 (f : B1) (x : B1) : Bool := !(A20 x.1 f.1 || decide (x.1 = f.1))
def Av2 (d : List B1) (f : B1) : List B1 := d.filter (fun x => A20 x.1 f.1) ++ [f] ++ d.filter (Bf9 f)
theorem F98 (d : List B1) (f : B1) (hl : d.length ≤ 1000) : ∀ (m i : Nat) (xs : List B1), i + m = d.length → xs.length ≤ 3000 - m → ∀ k n, m < n →
  Al9 k n (i : Int) (d, ()) f xs = some (xs ++ (d.drop i).filter (Bf9 f), ())
 | 0, i, xs, hm, _, k, n, hn => by
  obtain ⟨n, rfl⟩ : ∃ q, n = q + 1 := ⟨n - 1, by omega⟩
  have d1 : decide ((i : Int) < (d.length : Int)) = false := decide_eq_false (by omega)
  rw [List.drop_eq_nil_of_le (by omega)]
  simp only [Al9, Bk1, d1, br_false, List.filter_nil, List.append_nil]
 | m + 1, i, xs, hm, hx, k, n, hn => by
  obtain ⟨n, rfl⟩ : ∃ q, n = q + 1 := ⟨n - 1, by omega⟩
  have hi : i < d.length := by omega
  have d1 : decide ((i : Int) < (d.length : Int)) = true := decide_eq_true (by omega)
  have d2 : decide (0 ≤ (i : Int)) = true := decide_eq_true (Int.natCast_nonneg _)
  have d3 : decide (xs.length + ([rd A4 d i] : List B1).length ≤ A3) = true := decide_eq_true (by simp; unfold A3; omega)
  have ei : B4 ((i : Int) + 1) = ((i + 1 : Nat) : Int) := by rw [D7 (by omega) (by omega)]; rfl
  have hd : d.drop i = rd A4 d i :: d.drop (i + 1) := by rw [List.drop_eq_getElem_cons hi, ← E8 hi (z := A4)]
  have h1 := F98 d f hl m (i + 1) xs (by omega) (by omega) k n (by omega)
  have h2 := F98 d f hl m (i + 1) (xs ++ [rd A4 d i]) (by omega) (by simp; omega) k n (by omega)
  simp only [Al9, Bk1, d1, d2, d3, br_true, gd_true, Int.toNat_natCast, ei, h1, h2, l6, hd]
  rw [List.filter_cons]
  have e : Bf9 f (rd A4 d i) = !(Op.bytesLess (rd A4 d i).1.toList f.1.toList || decide ((rd A4 d i).1 = f.1)) := rfl
  rw [e]
  cases (!(Op.bytesLess (rd A4 d i).1.toList f.1.toList || decide ((rd A4 d i).1 = f.1))) with
  | true => simp
  | false => simp
theorem F99 (d : List B1) (f : B1) (hl : d.length ≤ 1000) : ∀ (m i : Nat) (xs : List B1), i + m = d.length → xs.length ≤ i → ∀ k n, m + d.length + 1 < n →
  Aa4 k n (i : Int) (d, ()) f xs = some (xs ++ (d.drop i).filter (fun x => A20 x.1 f.1) ++ [f] ++ d.filter (Bf9 f), ())
 | 0, i, xs, hm, hx, k, n, hn => by
  obtain ⟨n, rfl⟩ : ∃ q, n = q + 1 := ⟨n - 1, by omega⟩
  have d1 : decide ((i : Int) < (d.length : Int)) = false := decide_eq_false (by omega)
  have d3 : decide (xs.length + ([f] : List B1).length ≤ A3) = true := decide_eq_true (by simp; unfold A3; omega)
  rw [List.drop_eq_nil_of_le (by omega)]
  have h1 := F98 d f hl d.length 0 (xs ++ [f]) (Nat.zero_add _) (by simp; omega) k n (by omega)
  rw [List.drop_zero] at h1
  simp only [Aa4, Bk2, d1, d3, br_false, gd_true, List.filter_nil, List.append_nil]
  exact h1
 | m + 1, i, xs, hm, hx, k, n, hn => by
  obtain ⟨n, rfl⟩ : ∃ q, n = q + 1 := ⟨n - 1, by omega⟩
  have hi : i < d.length := by omega
  have d1 : decide ((i : Int) < (d.length : Int)) = true := decide_eq_true (by omega)
  have d2 : decide (0 ≤ (i : Int)) = true := decide_eq_true (Int.natCast_nonneg _)
  have d3 : decide (xs.length + ([rd A4 d i] : List B1).length ≤ A3) = true := decide_eq_true (by simp; unfold A3; omega)
  have ei : B4 ((i : Int) + 1) = ((i + 1 : Nat) : Int) := by rw [D7 (by omega) (by omega)]; rfl
  have hd : d.drop i = rd A4 d i :: d.drop (i + 1) := by rw [List.drop_eq_getElem_cons hi, ← E8 hi (z := A4)]
  have h1 := F99 d f hl m (i + 1) xs (by omega) (by omega) k n (by omega)
  have h2 := F99 d f hl m (i + 1) (xs ++ [rd A4 d i]) (by omega) (by simp; omega) k n (by omega)
  simp only [Aa4, Bk2, d1, d2, d3, br_true, gd_true, Int.toNat_natCast, ei, h1, h2, hd]
  rw [List.filter_cons]
  have e : A20 (rd A4 d i).1 f.1 = Op.bytesLess (rd A4 d i).1.toList f.1.toList := rfl
  rw [e]
  cases Op.bytesLess (rd A4 d i).1.toList f.1.toList with
  | true => simp
  | false => simp
theorem Dy7 (d : List B1) (f : B1) (hl : d.length ≤ 1000) : Ev (fun k => G9 k (d, ()) f) (Av2 d f, ()) :=
 ⟨d.length + d.length + 2, fun k hk => by
  have := F99 d f hl d.length 0 [] (Nat.zero_add _) (Nat.le_refl _) k k (by omega)
  rwa [List.drop_zero, List.nil_append] at this⟩
def Cl9 (d : List B1) (nm : ByteArray) : List B1 := d.filter fun x => !decide (x.1 = nm)
theorem Dy8 (d : List B1) (nm : ByteArray) (hl : d.length ≤ 1000) : ∀ (m i : Nat) (xs : List B1), i + m = d.length → xs.length ≤ i → ∀ k n, m < n →
  S8 k n nm (i : Int) (d, ()) xs = some (xs ++ Cl9 (d.drop i) nm, ())
 | 0, i, xs, hm, _, k, n, hn => by
  obtain ⟨n, rfl⟩ : ∃ q, n = q + 1 := ⟨n - 1, by omega⟩
  have d1 : decide ((i : Int) < (d.length : Int)) = false := decide_eq_false (by omega)
  rw [List.drop_eq_nil_of_le (by omega)]
  simp only [S8, Aj8, d1, br_false, Cl9, List.filter_nil, List.append_nil]
 | m + 1, i, xs, hm, hx, k, n, hn => by
  obtain ⟨n, rfl⟩ : ∃ q, n = q + 1 := ⟨n - 1, by omega⟩
  have hi : i < d.length := by omega
  have d1 : decide ((i : Int) < (d.length : Int)) = true := decide_eq_true (by omega)
  have d2 : decide (0 ≤ (i : Int)) = true := decide_eq_true (Int.natCast_nonneg _)
  have d3 : decide (xs.length + ([rd A4 d i] : List B1).length ≤ A3) = true := decide_eq_true (by simp; unfold A3; omega)
  have ei : B4 ((i : Int) + 1) = ((i + 1 : Nat) : Int) := by rw [D7 (by omega) (by omega)]; rfl
  have hd : d.drop i = rd A4 d i :: d.drop (i + 1) := by rw [List.drop_eq_getElem_cons hi, ← E8 hi (z := A4)]
  have h1 := Dy8 d nm hl m (i + 1) xs (by omega) (by omega) k n (by omega)
  have h2 := Dy8 d nm hl m (i + 1) (xs ++ [rd A4 d i]) (by omega) (by simp; omega) k n (by omega)
  unfold Cl9 at h1 h2 ⊢
  simp only [S8, Aj8, d1, d2, d3, br_true, gd_true, Int.toNat_natCast, ei, h1, h2, l6, hd]
  rw [List.filter_cons]
  cases decide ((rd A4 d i).1 = nm) with
  | true => simp
  | false => simp
theorem He7 (d : List B1) (nm : ByteArray) (hl : d.length ≤ 1000) : Ev (fun k => G1 k (d, ()) nm) (Cl9 d nm, ()) :=
 ⟨d.length + 1, fun k hk => by
  have := Dy8 d nm hl d.length 0 [] (Nat.zero_add _) (Nat.le_refl _) k k (by omega)
  rwa [List.drop_zero, List.nil_append] at this⟩
end Go.Vm
end
section
namespace Go.Vm
open Go
theorem noE : ¬ ((!(ByteArray.empty.toList == (⟨#[]⟩ : ByteArray).toList)) = true) := by
 rw [show ByteArray.empty = (⟨#[]⟩ : ByteArray) from rfl, beq_self_eq_true]
 decide
theorem Gw3 {d : List B1} {nm tx : ByteArray} {f : B1} (hd : Bm0 d) (hn : 1 ≤ nm.size ∧ nm.size ≤ 8) (hf : (atF d nm 0 < 0 ∧ f = (nm, tx, 0, ())) ∨ (0 ≤ atF d nm 0 ∧ f = ((rd A4 d (atF d nm 0).toNat).1, (rd A4 d (atF d nm 0).toNat).2.1 ++ tx, (rd A4 d (atF d nm 0).toNat).2.2.1, ())))
  (htx : tx.size ≤ 20000) (h' : Bm0 (Av2 d f)) : Ev (fun k => b9 k (d, ()) (1, nm, tx, ByteArray.empty, ())) ((Av2 d f, ()), true) := by
 have hl : d.length ≤ 1000 := by have := hd.1; omega
 have hlt := Dy6 d nm 0
 refine Re.eq (Re.c1 (S4 d hd) (Re.br (b := false) (fun h => by cases h) (fun _ => ?_)))
 refine Re.s1 (v := true) (fun k => by show bd (E9 k (nm.size : Int) 1 8) _ = _; rw [H1, G4.2 ⟨by omega, by omega⟩]; rfl) (Re.br (b := false) (fun h => by cases h) (fun _ => ?_))
 refine Re.br (b := true) (fun _ => ?_) (fun h => by cases h)
 refine Re.br (fun h => absurd h noE) (fun _ => ?_)
 refine Re.br (b := false) (fun h => by cases h) (fun _ => ?_)
 refine Re.c1 (Fk3 d nm hl).1 (Re.brd (fun h => ?_) (fun h => ?_))
 ·rcases hf with ⟨h1, _⟩ | ⟨_, rfl⟩
  ·exact absurd h (by omega)
  have hi : (atF d nm 0).toNat < d.length := by omega
  have hfs := (hd.2 _ hi).1.2.1
  refine Re.gdd h (Re.gdd (by show atF d nm 0 < (d.length : Int); omega) (Re.br (b := true) (fun _ => ?_) (fun h => by cases h)))
  refine Re.gdd (by show (rd A4 d (atF d nm 0).toNat).2.1.size + tx.size ≤ A3; unfold A3; omega) (Re.c1 (Dy7 d _ hl) (Re.c1 (S4 _ h') (Re.br (b := false) (fun h => by cases h) (fun _ => Re.ret rfl))))
 ·rcases hf with ⟨_, rfl⟩ | ⟨h1, _⟩
  ·refine Re.br (b := true) (fun _ => ?_) (fun h => by cases h)
   refine Re.gdd (by show 0 + tx.size ≤ A3; unfold A3; omega) ?_
   have e : ByteArray.empty ++ tx = tx := He6 tx
   refine Re.c1 (v := (Av2 d (nm, tx, 0, ()), ())) ((Dy7 d _ hl).congr fun k => by show G9 k (d, ()) (nm, ByteArray.empty ++ tx, 0, ()) = _; rw [e]) (Re.c1 (S4 _ h') (Re.br (b := false) (fun h => by cases h) (fun _ => Re.ret rfl)))
  ·exact absurd h1 h
theorem He8 {d : List B1} {nm : ByteArray} (hd : Bm0 d) (hn : 1 ≤ nm.size ∧ nm.size ≤ 8) {f : B1} (ha : 0 ≤ atF d nm 0) (hf : f = ((rd A4 d (atF d nm 0).toNat).1, (rd A4 d (atF d nm 0).toNat).2.1, (((rd A4 d (atF d nm 0).toNat).2.1.size : Nat) : Int), ()))
  (h' : Bm0 (Av2 d f)) : Ev (fun k => b9 k (d, ()) (2, nm, ByteArray.empty, ByteArray.empty, ())) ((Av2 d f, ()), true) := by
 have hl : d.length ≤ 1000 := by have := hd.1; omega
 have hlt := Dy6 d nm 0
 subst hf
 refine Re.eq (Re.c1 (S4 d hd) (Re.br (b := false) (fun h => by cases h) (fun _ => ?_)))
 refine Re.s1 (v := true) (fun k => by show bd (E9 k (nm.size : Int) 1 8) _ = _; rw [H1, G4.2 ⟨by omega, by omega⟩]; rfl) (Re.br (b := false) (fun h => by cases h) (fun _ => ?_))
 refine Re.br (b := true) (fun _ => ?_) (fun h => by cases h)
 refine Re.br (fun h => absurd h noE) (fun _ => ?_)
 refine Re.br (b := true) (fun _ => ?_) (fun h => by cases h)
 refine Re.br (fun h => absurd h noE) (fun _ => ?_)
 refine Re.c1 (Fk3 d nm hl).1 (Re.brd (fun h => ?_) (fun h => absurd ha h))
 refine Re.gdd h (Re.gdd (by show atF d nm 0 < (d.length : Int); omega) (Re.br (b := false) (fun h => by cases h) (fun _ => ?_)))
 refine Re.brd (fun h => absurd ha (by omega)) (fun _ => Re.br (b := true) (fun _ => ?_) (fun h => by cases h))
 exact Re.c1 (Dy7 d _ hl) (Re.c1 (S4 _ h') (Re.br (b := false) (fun h => by cases h) (fun _ => Re.ret rfl)))
theorem He9 {d : List B1} {nm to : ByteArray} (hd : Bm0 d) (hn : 1 ≤ nm.size ∧ nm.size ≤ 8) (ht : 1 ≤ to.size ∧ to.size ≤ 8) (hne : to ≠ nm) {f : B1} (ha : 0 ≤ atF d nm 0) (hf : f = (to, (rd A4 d (atF d nm 0).toNat).2))
  (hk : (rd A4 d (atF d nm 0).toNat).2.2.1 = ((rd A4 d (atF d nm 0).toNat).2.1.size : Int)) (h' : Bm0 (Av2 (Cl9 d nm) f)) : Ev (fun k => b9 k (d, ()) (3, nm, ByteArray.empty, to, ())) ((Av2 (Cl9 d nm) f, ()), true) := by
 have hl : d.length ≤ 1000 := by have := hd.1; omega
 have hl2 : (Cl9 d nm).length ≤ 1000 := Nat.le_trans (List.length_filter_le _ _) hl
 have hlt := Dy6 d nm 0
 subst hf
 refine Re.eq (Re.c1 (S4 d hd) (Re.br (b := false) (fun h => by cases h) (fun _ => ?_)))
 refine Re.s1 (v := true) (fun k => by show bd (E9 k (nm.size : Int) 1 8) _ = _; rw [H1, G4.2 ⟨by omega, by omega⟩]; rfl) (Re.br (b := false) (fun h => by cases h) (fun _ => ?_))
 refine Re.br (b := false) (fun h => by cases h) (fun _ => ?_)
 refine Re.br (b := true) (fun _ => ?_) (fun h => by cases h)
 refine Re.br (fun h => absurd h noE) (fun _ => ?_)
 refine Re.c1 (Fk3 d nm hl).1 (Re.brd (fun h => ?_) (fun h => absurd ha h))
 refine Re.gdd h (Re.gdd (by show atF d nm 0 < (d.length : Int); omega) (Re.br (b := false) (fun h => by cases h) (fun _ => ?_)))
 refine Re.brd (fun h => absurd ha (by omega)) (fun _ => Re.br (b := false) (fun h => by cases h) (fun _ => Re.br (b := true) (fun _ => ?_) (fun h => by cases h)))
 refine Re.brd (fun h => absurd h (by show ¬ (rd A4 d (atF d nm 0).toNat).2.2.1 < ((rd A4 d (atF d nm 0).toNat).2.1.size : Int); rw [hk]; omega)) (fun _ => ?_)
 refine Re.br (fun h => absurd (by rw [l6] at h; exact of_decide_eq_true h) hne) (fun _ => ?_)
 refine Re.s1 (v := true) (fun k => by show bd (E9 k (to.size : Int) 1 8) _ = _; rw [H1, G4.2 ⟨by omega, by omega⟩]; rfl) (Re.br (b := false) (fun h => by cases h) (fun _ => ?_))
 exact Re.c1 (He7 d nm hl) (Re.c1 (Dy7 _ _ hl2) (Re.c1 (S4 _ h') (Re.br (b := false) (fun h => by cases h) (fun _ => Re.ret rfl))))
theorem Hf0 {d : List B1} {nm : ByteArray} (hd : Bm0 d) (hn : 1 ≤ nm.size ∧ nm.size ≤ 8) (ha : 0 ≤ atF d nm 0) (h' : Bm0 (Cl9 d nm)) :
  Ev (fun k => b9 k (d, ()) (4, nm, ByteArray.empty, ByteArray.empty, ())) ((Cl9 d nm, ()), true) := by
 have hl : d.length ≤ 1000 := by have := hd.1; omega
 have hlt := Dy6 d nm 0
 refine Re.eq (Re.c1 (S4 d hd) (Re.br (b := false) (fun h => by cases h) (fun _ => ?_)))
 refine Re.s1 (v := true) (fun k => by show bd (E9 k (nm.size : Int) 1 8) _ = _; rw [H1, G4.2 ⟨by omega, by omega⟩]; rfl) (Re.br (b := false) (fun h => by cases h) (fun _ => ?_))
 refine Re.br (b := true) (fun _ => ?_) (fun h => by cases h)
 refine Re.br (fun h => absurd h noE) (fun _ => ?_)
 refine Re.br (b := true) (fun _ => ?_) (fun h => by cases h)
 refine Re.br (fun h => absurd h noE) (fun _ => ?_)
 refine Re.c1 (Fk3 d nm hl).1 (Re.brd (fun h => ?_) (fun h => absurd ha h))
 refine Re.gdd h (Re.gdd (by show atF d nm 0 < (d.length : Int); omega) (Re.br (b := false) (fun h => by cases h) (fun _ => ?_)))
 refine Re.brd (fun h => absurd ha (by omega)) (fun _ => Re.br (b := false) (fun h => by cases h) (fun _ => Re.br (b := false) (fun h => by cases h) (fun _ => Re.br (b := true) (fun _ => ?_) (fun h => by cases h))))
 exact Re.c1 (He7 d nm hl) (Re.c1 (S4 _ h') (Re.br (b := false) (fun h => by cases h) (fun _ => Re.ret rfl)))
inductive Done : List B1 → List I4 → List B1 → Prop where
 | nil {d} : Done d [] d
 | cons {d a r d1 d2} : Ev (fun k => b9 k (d, ()) a) ((d1, ()), true) → Done d1 r d2 → Done d (a :: r) d2
theorem Eo8 (all : List I4) (hl : all.length ≤ 1000000) : ∀ (rest pre : List I4) (d d' : List B1), all = pre ++ rest → Done d rest d' →
  ∃ K, ∀ k, K ≤ k → ∀ n, rest.length < n → j5 k n all (pre.length : Int) d = some ((d', ()), (all.length : Int))
 | [], pre, d, d', au, h => by
  cases h
  rw [List.append_nil] at au
  subst au
  refine ⟨0, fun k _ n hn => ?_⟩
  obtain ⟨n, rfl⟩ : ∃ q, n = q + 1 := ⟨n - 1, by simp at hn; omega⟩
  simp only [j5, Bk4, decide_eq_false (Int.lt_irrefl _), br_false]
 | a :: rest, pre, d, d', au, h => by
  cases h with
  | @cons _ _ _ d1 _ h1 h2 =>
   obtain ⟨K1, h1⟩ := h1
   obtain ⟨K2, h2⟩ := Eo8 all hl rest (pre ++ [a]) d1 d' (by rw [au]; simp) h2
   refine ⟨max K1 K2, fun k hk n hn => ?_⟩
   obtain ⟨n, rfl⟩ : ∃ q, n = q + 1 := ⟨n - 1, by simp at hn; omega⟩
   have ab : all.length = pre.length + 1 + rest.length := by rw [au]; simp; omega
   have hrd : rd Hs2 all pre.length = a := by rw [au]; simp [rd]
   have e1 : b9 k (d, ()) a = some ((d1, ()), true) := h1 k (by omega)
   have d1' : decide ((pre.length : Int) < (all.length : Int)) = true := decide_eq_true (by omega)
   have d2 : decide (0 ≤ (pre.length : Int)) = true := decide_eq_true (Int.natCast_nonneg _)
   have ei : B4 ((pre.length : Int) + 1) = ((pre ++ [a]).length : Int) := by rw [D7 (by omega) (by omega)]; simp
   have g := h2 k (by omega) n (by simp at hn; omega)
   simp only [j5, Bk4, d1', d2, br_true, gd_true, Int.toNat_natCast, hrd, e1, bd_some, Bool.not_true, br_false, ei]
   exact g
theorem Gw4 {d d' : List B1} {list : List I4} (hl : list.length ≤ 1000000) (hd : d.length ≤ 1000000) (h : Done d list d') : Ev (fun k => H0 k (d, ()) list) ((d', ()), (list.length : Int)) := by
 obtain ⟨K, hK⟩ := Eo8 list hl list [] d d' rfl h
 refine ⟨max K (list.length + 1), fun k hk => ?_⟩
 show gd (decide (([] : List B1).length + d.length ≤ A3)) (j5 k k list 0 ([] ++ d)) = _
 rw [decide_eq_true (by simp; unfold A3; omega)]
 exact hK k (by omega) k (by omega)
theorem Done.append {d1 d2 d3 : List B1} {a b : List I4} (h : Done d1 a d2) (k : Done d2 b d3) : Done d1 (a ++ b) d3 := by
 induction h with
 | nil => exact k
 | cons h1 _ ih => exact .cons h1 (ih k)
end Go.Vm
end
section
namespace Go.Vm
open Go
noncomputable def L8 (t : ByteArray) : ByteArray := t ++ Dh5 (Fk2 t)
theorem Bg0 (t : ByteArray) : (L8 t).size = t.size + 4 := by unfold L8; rw [G0, Cu6]
noncomputable def Dy9 (t : ByteArray) : ByteArray × Bool := if t.size ≤ 20000 then (L8 t, true) else (⟨#[]⟩, false)
theorem Fk4 (t : ByteArray) (h : t.size ≤ 1048576) : Ev (fun k => Cb5 k t) (Dy9 t) := by
 unfold Dy9
 refine Re.eq (Re.brd (fun q => ?_) (fun q => ?_))
 ·rw [if_neg (by omega)]; exact Re.ret rfl
 ·rw [if_pos (by omega)]
  exact Re.c1 (F97 t h) (Re.s1 (v := Dh5 (Fk2 t)) (fun _ => rfl) (Re.gdd (by rw [Cu6]; unfold A3; omega) (Re.ret rfl)))
theorem Dh7 (t : ByteArray) (h : t.size ≤ 1048576) : Ev (fun k => Bu4 k t) (Dy9 t) := by
 unfold Dy9
 refine Re.eq (Re.brd (fun q => ?_) (fun q => ?_))
 ·rw [if_neg (by omega)]; exact Re.ret rfl
 ·rw [if_pos (by omega)]
  exact Re.c1 ((F97 t h).congr fun k => F96 k t) (Re.gdd (by show t.size + (Dh5 (Fk2 t)).size ≤ A3; rw [Cu6]; unfold A3; omega) (Re.ret rfl))
theorem C32 {a b : ByteArray} (h : D4 a = D4 b) : a = b := by rw [← P7 a, h, P7]
theorem Hf1 (a b : ByteArray) : (a ++ b).extract 0 a.size = a := by
 apply C32
 rw [N3, List.drop_zero, w6, ← D5 a, List.take_left]
theorem Hf2 (a b : ByteArray) : (a ++ b).extract a.size (a ++ b).size = b := by
 apply C32
 rw [N3, w6, ← D5 (a ++ b), w6, List.take_length, ← D5 a, List.drop_left]
theorem Hp6 (x : ByteArray) (n : Nat) (h : n ≤ x.size) : x = x.extract 0 n ++ x.extract n x.size := by
 apply C32
 rw [w6, N3, N3, List.drop_zero, ← D5 x, List.take_length, List.take_append_drop]
noncomputable def A95 (x : ByteArray) : ByteArray × Bool := if 4 ≤ x.size ∧ x.size ≤ 20004 ∧ L8 (x.extract 0 (x.size - 4)) = x then (x.extract 0 (x.size - 4), true) else (⟨#[]⟩, false)
theorem Eo9 (x : ByteArray) : (A95 x).1.size ≤ x.size := by
 unfold A95
 split
 ·rw [ByteArray.size_extract]; omega
 ·exact Nat.zero_le _
theorem Da0 {t : ByteArray} (h : t.size ≤ 20000) : A95 (L8 t) = (t, true) := by
 have hs := Bg0 t
 have he : (L8 t).extract 0 ((L8 t).size - 4) = t := by
  rw [hs, Nat.add_sub_cancel]
  exact Hf1 _ _
 unfold A95
 rw [he, if_pos ⟨by omega, by omega, rfl⟩]
theorem Cp6 (x : ByteArray) (h : x.size ≤ 1048576) : Ev (fun k => Be7 k x) (A95 x) := by
 unfold A95
 refine Re.eq (Re.brd (fun q => ?_) (fun q => ?_))
 ·rw [if_neg (fun z => by omega)]; exact Re.ret rfl
 ·have e : B4 ((x.size : Int) - 4) = ((x.size - 4 : Nat) : Int) := by rw [D7 (by omega) (by omega)]; omega
  simp only [e, Int.toNat_natCast]
  refine Re.gdd (by omega) (Re.gdd (by omega) (Re.c1 (Dh7 _ (by rw [ByteArray.size_extract]; omega)) ?_))
  have hsz : (x.extract 0 (x.size - 4)).size = x.size - 4 := by rw [ByteArray.size_extract]; omega
  unfold Dy9
  by_cases q2 : x.size ≤ 20004
  ·rw [if_pos (by omega)]
   refine Re.br (b := false) (fun h => by cases h) (fun _ => ?_)
   rw [l6]
   by_cases q3 : L8 (x.extract 0 (x.size - 4)) = x
   ·rw [if_pos ⟨by omega, q2, q3⟩]
    exact Re.br (fun g => by rw [decide_eq_true q3] at g; cases g) (fun _ => Re.ret rfl)
   ·rw [if_neg (fun z => q3 z.2.2)]
    exact Re.br (fun _ => Re.ret rfl) (fun g => by rw [decide_eq_false q3] at g; cases g)
  ·rw [if_neg (by omega), if_neg (fun z => q2 z.2.1)]
   exact Re.br (b := true) (fun _ => Re.ret rfl) (fun h => by cases h)
theorem Ea8 (x : ByteArray) (h : x.size ≤ 1048576) : Ev (fun k => Ax2 k x) (A95 x) := by
 unfold A95
 have ew : B4 ((x.size : Int) - 4) = (x.size : Int) - 4 := D7 (by omega) (by omega)
 unfold Ax2
 simp only [ew]
 refine Re.eq (Re.brd (fun q => ?_) (fun q => Re.brd (fun q2 => ?_) (fun q2 => ?_)))
 ·rw [if_neg (fun z => by omega)]; exact Re.ret rfl
 ·rw [if_neg (fun z => by omega)]; exact Re.ret rfl
 ·have e : ((x.size : Int) - 4).toNat = x.size - 4 := by omega
  simp only [e]
  have hsz : (x.extract 0 (x.size - 4)).size = x.size - 4 := by rw [ByteArray.size_extract]; omega
  refine Re.gdd (by omega) (Re.gdd (by omega) (Re.gdd (by omega) (Re.gdd (by omega) (Re.c1 (F97 _ (by omega)) (Re.s1 (v := Dh5 (Fk2 (x.extract 0 (x.size - 4)))) (fun _ => rfl) ?_)))))
  rw [l6]
  by_cases q3 : x.extract (x.size - 4) x.size = Dh5 (Fk2 (x.extract 0 (x.size - 4)))
  ·have : L8 (x.extract 0 (x.size - 4)) = x := by unfold L8; rw [← q3]; exact (Hp6 x _ (by omega)).symm
   rw [if_pos ⟨by omega, by omega, this⟩]
   exact Re.br (fun g => by rw [decide_eq_true q3] at g; cases g) (fun _ => Re.gdd (by omega) (Re.gdd (by omega) (Re.ret rfl)))
  ·rw [if_neg (fun z => q3 ?_)]
   ·exact Re.br (fun _ => Re.ret rfl) (fun g => by rw [decide_eq_false q3] at g; cases g)
   ·have h3 := z.2.2
    have h4 := Hf2 (x.extract 0 (x.size - 4)) (Dh5 (Fk2 (x.extract 0 (x.size - 4))))
    unfold L8 at h3
    rw [h3, hsz] at h4
    exact h4
noncomputable def J4 (s : D8) : ByteArray := ((H5 s.1 ++ H5 s.2.1) ++ I9 (C0 s.2.2.1)) ++ I9 s.2.2.2.1
noncomputable def Bm1 (s : D8) : ByteArray × Bool :=
 if V9 s.2.2.1 = true ∧ Z7 s.1 0 1000000 = true ∧ Z7 s.2.1 0 100000 = true ∧ s.2.2.2.1.size ≤ 20000 ∧ (J4 s).size ≤ 19996 then (L8 (J4 s), true) else (⟨#[]⟩, false)
theorem Cd9 {s : D8} (hc : V9 s.2.2.1 = true) (h1 : Z7 s.1 0 1000000 = true) (h2 : Z7 s.2.1 0 100000 = true) : (H5 s.1).size ≤ 5 ∧ (H5 s.2.1).size ≤ 5 ∧ (I9 (C0 s.2.2.1)).size ≤ 9 ∧ (C0 s.2.2.1).size ≤ 4 := by
 have hC := Z8.1 hc
 have i1 := G4.1 h1
 have i2 := G4.1 h2
 have hl : (C0 s.2.2.1).size ≤ 4 := by rw [H4]; exact hC.2.1
 have n : (H5 ((C0 s.2.2.1).size : Int)).size ≤ 5 := G6 (by omega)
 exact ⟨G6 (by omega), G6 (by omega), by rw [j8]; omega, hl⟩
theorem Dz0 (t : ByteArray) (h : t.size ≤ 20000) : (I9 t).size ≤ t.size + 5 := by
 have n : (H5 (t.size : Int)).size ≤ 5 := G6 (by omega)
 rw [j8]; omega
theorem Cu7 (s : D8) : (J4 s).size = (H5 s.1).size + (H5 s.2.1).size + (I9 (C0 s.2.2.1)).size + (I9 s.2.2.2.1).size := by unfold J4; rw [G0, G0, G0]
theorem Cp7 (s : D8) (hc : s.2.2.1.length ≤ 1048576) : Ev (fun k => Aw6 k s) (Bm1 s) := by
 unfold Bm1
 cases h1 : V9 s.2.2.1 with
 | false =>
  have hct : p8 s.2.2.1 = (⟨#[]⟩, false) := by unfold p8; rw [h1]; rfl
  rw [if_neg (fun z => by cases z.1)]
  exact Re.eq (Re.c1 ((Cp3 s.2.2.1 hc).congr_val (fun _ => rfl) hct) (Re.br (b := true) (fun _ => Re.ret rfl) (fun h => by cases h)))
 | true =>
  have hct : p8 s.2.2.1 = (C0 s.2.2.1, true) := by unfold p8; rw [h1]; rfl
  refine Re.eq (Re.c1 ((Cp3 s.2.2.1 hc).congr_val (fun _ => rfl) hct) ?_)
  refine Re.br (b := false) (fun h => by cases h) (fun _ => Re.s1 (H1 · _ _ _) ?_)
  cases h2 : Z7 s.1 0 1000000 with
  | false =>
   rw [if_neg (fun z => by cases z.2.1)]
   exact Re.br (b := true) (fun _ => Re.ret rfl) (fun h => by cases h)
  | true =>
   refine Re.br (b := false) (fun h => by cases h) (fun _ => Re.s1 (H1 · _ _ _) ?_)
   cases h3 : Z7 s.2.1 0 100000 with
   | false =>
    rw [if_neg (fun z => by cases z.2.2.1)]
    exact Re.br (b := true) (fun _ => Re.ret rfl) (fun h => by cases h)
   | true =>
    obtain ⟨p1, p2, p3, p4⟩ := Cd9 h1 h2 h3
    have i1 := G4.1 h2
    have i2 := G4.1 h3
    refine Re.br (b := false) (fun h => by cases h) (fun _ => Re.brd (fun q => ?_) (fun q => ?_))
    ·rw [if_neg (fun z => by have := z.2.2.2.1; omega)]
     exact Re.ret rfl
    have hb : s.2.2.2.1.size ≤ 20000 := by omega
    have p5 := Dz0 _ hb
    have hz := Cu7 s
    refine Re.c1 (M5 s.1 (by omega) (by omega)) (Re.c1 (M5 s.2.1 (by omega) (by omega)) (Re.gdd (by unfold A3; omega) (Re.c1 (Ah4 _ (by show (C0 s.2.2.1).size ≤ _; omega)) (Re.gdd (by simp only [G0]; unfold A3; omega) (Re.c1 (Ah4 _ (by omega)) (Re.gdd (by simp only [G0]; unfold A3; omega) ?_))))))
    rw [show ((H5 s.1 ++ H5 s.2.1) ++ I9 (C0 s.2.2.1)) ++ I9 s.2.2.2.1 = J4 s from rfl]
    rw [show B4 (((J4 s).size : Int) + 4) = ((J4 s).size : Int) + 4 from D7 (by omega) (by omega)]
    refine Re.brd (fun q2 => ?_) (fun q2 => ?_)
    ·rw [if_neg (fun z => by have := z.2.2.2.2; omega)]
     exact Re.ret rfl
    ·rw [if_pos ⟨rfl, rfl, rfl, hb, by omega⟩]
     refine Re.c1 (Fk4 (J4 s) (by omega)) ?_
     unfold Dy9
     rw [if_pos (by omega)]
     exact Re.ret rfl
theorem Cp8 (s : D8) (hc : s.2.2.1.length ≤ 1048576) : Ev (fun k => Aw8 k s) (Bm1 s) := by
 unfold Bm1
 cases h1 : V9 s.2.2.1 with
 | false =>
  have hct : p8 s.2.2.1 = (⟨#[]⟩, false) := by unfold p8; rw [h1]; rfl
  rw [if_neg (fun z => by cases z.1)]
  exact Re.eq (Re.c1 ((Cp4 s.2.2.1 hc).congr_val (fun _ => rfl) hct) (Re.br (b := true) (fun _ => Re.ret rfl) (fun h => by cases h)))
 | true =>
  have hct : p8 s.2.2.1 = (C0 s.2.2.1, true) := by unfold p8; rw [h1]; rfl
  refine Re.eq (Re.c1 ((Cp4 s.2.2.1 hc).congr_val (fun _ => rfl) hct) ?_)
  refine Re.br (b := false) (fun h => by cases h) (fun _ => Re.s1 (Af3 · _ _ _) ?_)
  cases h2 : Z7 s.1 0 1000000 with
  | false =>
   rw [if_neg (fun z => by cases z.2.1)]
   exact Re.br (b := true) (fun _ => Re.ret rfl) (fun h => by cases h)
  | true =>
   refine Re.br (b := false) (fun h => by cases h) (fun _ => Re.s1 (Af3 · _ _ _) ?_)
   cases h3 : Z7 s.2.1 0 100000 with
   | false =>
    rw [if_neg (fun z => by cases z.2.2.1)]
    exact Re.br (b := true) (fun _ => Re.ret rfl) (fun h => by cases h)
   | true =>
    obtain ⟨p1, p2, p3, p4⟩ := Cd9 h1 h2 h3
    have i1 := G4.1 h2
    have i2 := G4.1 h3
    refine Re.br (b := false) (fun h => by cases h) (fun _ => Re.brd (fun q => ?_) (fun q => ?_))
    ·rw [if_neg (fun z => by have := z.2.2.2.1; omega)]
     exact Re.ret rfl
    have hb : s.2.2.2.1.size ≤ 20000 := by omega
    have p5 := Dz0 _ hb
    have hz := Cu7 s
    have hv := G12 [s.1, s.2.1] (by simp) (fun n hn => by simp at hn; rcases hn with rfl | rfl <;> omega)
    rw [Hd0] at hv
    refine Re.c1 hv (Re.c1 (Cd6 _ (by show (C0 s.2.2.1).size ≤ _; omega)) (Re.c1 (Cd6 _ hb) (Re.gdd (by simp only [G0]; unfold A3; omega) (Re.gdd (by simp only [G0]; unfold A3; omega) ?_))))
    rw [show ((H5 s.1 ++ H5 s.2.1) ++ I9 (C0 s.2.2.1)) ++ I9 s.2.2.2.1 = J4 s from rfl]
    refine Re.c1 (Dh7 (J4 s) (by omega)) ?_
    unfold Dy9
    by_cases q2 : (J4 s).size ≤ 20000
    ·rw [if_pos q2]
     refine Re.br (b := false) (fun h => by cases h) (fun _ => ?_)
     rw [Bg0]
     refine Re.brd (fun q3 => ?_) (fun q3 => ?_)
     ·rw [if_neg (fun z => by have := z.2.2.2.2; omega)]
      exact Re.ret rfl
     ·rw [if_pos ⟨rfl, rfl, rfl, hb, by omega⟩]
      exact Re.ret rfl
    ·rw [if_neg q2, if_neg (fun z => by have := z.2.2.2.2; omega)]
     exact Re.br (b := true) (fun _ => Re.ret rfl) (fun h => by cases h)
def SnapP (s : D8) : Prop := C31 s.2.2.1 ∧ (0 ≤ s.1 ∧ s.1 ≤ 1000000) ∧ (0 ≤ s.2.1 ∧ s.2.1 ≤ 100000) ∧ s.2.2.2.1.size ≤ 13000
theorem SnapP.small {s : D8} (h : SnapP s) : (J4 s).size ≤ 13100 := by
 obtain ⟨h1, h2, h3, h4⟩ := h
 obtain ⟨p1, p2, p3, p4⟩ := Cd9 (Z8.2 h1) (G4.2 h2) (G4.2 h3)
 have := Dz0 s.2.2.2.1 (by omega)
 rw [Cu7]; omega
theorem SnapP.text {s : D8} (h : SnapP s) : Bm1 s = (L8 (J4 s), true) := by
 have := h.small
 obtain ⟨h1, h2, h3, h4⟩ := h
 unfold Bm1
 rw [if_pos ⟨Z8.2 h1, G4.2 h2, G4.2 h3, by omega, by omega⟩]
theorem Fk5 {α : Type} {a : ByteArray} {enc : α → ByteArray} {ok : α → Prop} {d : α} {p q : Nat} {b b' : Bool} {x : α} (h : Rd a enc ok d p b x q b') (f : α → Nat) (hd : f d ≤ a.size) (he : ∀ y, f y ≤ (enc y).size) : f x ≤ a.size := by
 cases hb : b' with
 | true => rw [h.badv hb]; exact hd
 | false =>
  have h1 := (h.sound hb).2.1
  have h2 := h.hi
  have := he x
  omega
theorem Fk6 (t : ByteArray) : (I7 t).1.length ≤ t.size := by
 unfold I7
 cases V9 (W0 t) with
 | true => simp only [cond_true]; rw [R8]; exact Nat.le_refl _
 | false => exact Nat.zero_le _
theorem Ep0 {s : D8} : Av1 (J4 s) 0 (H5 s.1 ++ (H5 s.2.1 ++ (I9 (C0 s.2.2.1) ++ I9 s.2.2.2.1))) := by
 have : J4 s = H5 s.1 ++ (H5 s.2.1 ++ (I9 (C0 s.2.2.1) ++ I9 s.2.2.2.1)) := by unfold J4; rw [ByteArray.append_assoc, ByteArray.append_assoc]
 rw [← this]
 exact G16 _
theorem Cp9 (x : ByteArray) (hx : x.size ≤ 1048576) : ∃ v : D8 × Bool, Ev (fun k => Ax0 k x) v ∧ ∀ s, SnapP s → x = L8 (J4 s) → v = (s, true) := by
 cases ho : (A95 x).2 with
 | false =>
  refine ⟨((0, 0, [], ByteArray.empty, ()), false), Re.eq (Re.c1 (Cp6 x hx) ?_), fun s hs e => ?_⟩
  ·rw [ho]
   exact Re.br (b := true) (fun _ => Re.ret rfl) (fun h => by cases h)
  ·rw [e, Da0 (by have := hs.small; omega)] at ho
   cases ho
 | true =>
  have hu := Eo9 x
  obtain ⟨x1, q1, b1, R1, -, E1⟩ := Dy4 (A95 x).1 0 false (by omega) (Nat.zero_le _)
  obtain ⟨x2, q2, b2, R2, -, E2⟩ := Dy4 (A95 x).1 q1 b1 (by omega) R1.hi
  obtain ⟨x3, q3, b3, R3, E3⟩ := Fk1 (A95 x).1 q2 b2 (by omega) R2.hi
  have z3 : x3.size ≤ (A95 x).1.size := Fk5 R3 ByteArray.size (Nat.zero_le _) fun y => by rw [j8]; omega
  obtain ⟨x4, q4, b4, R4, E4⟩ := Fk1 (A95 x).1 q3 b3 (by omega) R3.hi
  have hc := Fk6 x3
  have key : ∃ v, Re (fun k => Ax0 k x) (fun w => w = v) ∧ v = (if b4 = true ∨ (Bm1 (x1, x2, (I7 x3).1, x4, ())).2 = false ∨ (Bm1 (x1, x2, (I7 x3).1, x4, ())).1 ≠ x then ((0, 0, [], ByteArray.empty, ()), false) else ((x1, x2, (I7 x3).1, x4, ()), true)) := by
   refine ⟨_, Re.c1 (Cp6 x hx) ?_, rfl⟩
   rw [ho]
   refine Re.br (b := false) (fun h => by cases h) (fun _ => Re.c1 E1 (Re.c1 E2 (Re.c1 E3 (Re.c1 (Ea5 x3 (by omega)) (Re.c1 E4 (Re.c1 (Cp8 (x1, x2, (I7 x3).1, x4, ()) (by simp only; omega)) ?_))))))
   cases hb : b4 with
   | true => rw [if_pos (.inl rfl)]; exact Re.br (b := true) (fun _ => Re.ret rfl) (fun h => by cases h)
   | false =>
    refine Re.br (b := false) (fun h => by cases h) (fun _ => ?_)
    cases hv : (Bm1 (x1, x2, (I7 x3).1, x4, ())).2 with
    | false => rw [if_pos (.inr (.inl rfl))]; exact Re.br (b := true) (fun _ => Re.ret rfl) (fun h => by cases h)
    | true =>
     refine Re.br (b := false) (fun h => by cases h) (fun _ => ?_)
     rw [l6]
     by_cases q : (Bm1 (x1, x2, (I7 x3).1, x4, ())).1 = x
     ·rw [if_neg (fun z => by rcases z with z | z | z; cases z; cases z; exact z q)]
      exact Re.br (fun g => by rw [decide_eq_true q] at g; cases g) (fun _ => Re.ret rfl)
     ·rw [if_pos (.inr (.inr q))]
      exact Re.br (fun _ => Re.ret rfl) (fun g => by rw [decide_eq_false q] at g; cases g)
  obtain ⟨v, hv, he⟩ := key
  refine ⟨v, Re.eq hv, fun s hs e => ?_⟩
  have hsm := hs.small
  have hun : (A95 x).1 = J4 s := by rw [e, Da0 (by omega)]
  obtain ⟨h1, h2, h3, h4⟩ := hs
  have ah := Ep0 (s := s)
  rw [← hun] at ah
  obtain ⟨c, ah⟩ := N9.1 ah
  obtain ⟨rfl, w1, rfl⟩ := R1.full rfl s.1 (by unfold Dy3; omega) c; rw [← w1] at ah
  obtain ⟨c, ah⟩ := N9.1 ah
  obtain ⟨rfl, w2, rfl⟩ := R2.full rfl s.2.1 (by unfold Dy3; omega) c; rw [← w2] at ah
  obtain ⟨c, ah⟩ := N9.1 ah
  obtain ⟨rfl, w3, rfl⟩ := R3.full rfl (C0 s.2.2.1) (by unfold C30; rw [H4]; have := h1.2.1; omega) c; rw [← w3] at ah
  obtain ⟨rfl, w4, rfl⟩ := R4.full rfl s.2.2.2.1 (by unfold C30; omega) ah
  have hrc : (I7 (C0 s.2.2.1)).1 = s.2.2.1 := by unfold I7; rw [Dy5 h1, Z8.2 h1]; rfl
  have hP : SnapP s := ⟨h1, h2, h3, h4⟩
  rw [hrc] at he
  rw [he]
  refine if_neg ?_
  rintro (z | z | z)
  ·cases z
  ·have := hP.text
   rw [show ((s.1, s.2.1, s.2.2.1, s.2.2.2.1, ()) : D8) = s from rfl, this] at z
   cases z
  ·have := hP.text
   rw [show ((s.1, s.2.1, s.2.2.1, s.2.2.2.1, ()) : D8) = s from rfl, this] at z
   exact z e.symm
theorem Ea9 (x : ByteArray) (hx : x.size ≤ 1048576) : ∃ v : D8 × Bool, Ev (fun k => Ax4 k x) v ∧ ∀ s, SnapP s → x = L8 (J4 s) → v = (s, true) := by
 have hu := Eo9 x
 obtain ⟨x1, q1, b1, R1, E1, -⟩ := Dy4 (A95 x).1 0 (!(A95 x).2) (by omega) (Nat.zero_le _)
 obtain ⟨x2, q2, b2, R2, E2, -⟩ := Dy4 (A95 x).1 q1 b1 (by omega) R1.hi
 obtain ⟨x3, q3, b3, R3, E3⟩ := Fk0 (A95 x).1 q2 b2 (by omega) R2.hi
 have z3 : x3.size ≤ (A95 x).1.size := Fk5 R3 ByteArray.size (Nat.zero_le _) fun y => by rw [j8]; omega
 obtain ⟨x4, q4, b4, R4, E4⟩ := Fk0 (A95 x).1 q3 b3 (by omega) R3.hi
 have hc := Fk6 x3
 have key : ∃ v, Re (fun k => Ax4 k x) (fun w => w = v) ∧ v = (if b4 = true ∨ (Bm1 (x1, x2, (I7 x3).1, x4, ())).2 = false ∨ (Bm1 (x1, x2, (I7 x3).1, x4, ())).1 ≠ x then ((0, 0, [], ByteArray.empty, ()), false) else ((x1, x2, (I7 x3).1, x4, ()), true)) := by
  refine ⟨_, Re.c1 (Ea8 x hx) ?_, rfl⟩
  refine Re.c1 E1 (Re.c1 E2 (Re.c1 E3 (Re.c1 (Ea6 x3 (by omega)) (Re.c1 E4 (Re.c1 (Cp7 (x1, x2, (I7 x3).1, x4, ()) (by simp only; omega)) ?_)))))
  cases hb : b4 with
  | true => rw [if_pos (.inl rfl)]; exact Re.br (b := true) (fun _ => Re.ret rfl) (fun h => by cases h)
  | false =>
   refine Re.br (b := false) (fun h => by cases h) (fun _ => ?_)
   cases hv : (Bm1 (x1, x2, (I7 x3).1, x4, ())).2 with
   | false => rw [if_pos (.inr (.inl rfl))]; exact Re.br (b := true) (fun _ => Re.ret rfl) (fun h => by cases h)
   | true =>
    refine Re.br (b := false) (fun h => by cases h) (fun _ => ?_)
    rw [l6]
    by_cases q : (Bm1 (x1, x2, (I7 x3).1, x4, ())).1 = x
    ·rw [if_neg (fun z => by rcases z with z | z | z; cases z; cases z; exact z q)]
     exact Re.br (fun g => by rw [decide_eq_true q] at g; cases g) (fun _ => Re.ret rfl)
    ·rw [if_pos (.inr (.inr q))]
     exact Re.br (fun _ => Re.ret rfl) (fun g => by rw [decide_eq_false q] at g; cases g)
 obtain ⟨v, hv, he⟩ := key
 refine ⟨v, Re.eq hv, fun s hs e => ?_⟩
 have hsm := hs.small
 have hun2 : A95 x = (J4 s, true) := by rw [e, Da0 (by omega)]
 have hun : (A95 x).1 = J4 s := by rw [hun2]
 have hb0 : (!(A95 x).2) = false := by rw [hun2]; rfl
 obtain ⟨h1, h2, h3, h4⟩ := hs
 have ah := Ep0 (s := s)
 rw [← hun] at ah
 obtain ⟨c, ah⟩ := N9.1 ah
 obtain ⟨rfl, w1, rfl⟩ := R1.full hb0 s.1 (by unfold Dy3; omega) c; rw [← w1] at ah
 obtain ⟨c, ah⟩ := N9.1 ah
 obtain ⟨rfl, w2, rfl⟩ := R2.full rfl s.2.1 (by unfold Dy3; omega) c; rw [← w2] at ah
 obtain ⟨c, ah⟩ := N9.1 ah
 obtain ⟨rfl, w3, rfl⟩ := R3.full rfl (C0 s.2.2.1) (by unfold C30; rw [H4]; have := h1.2.1; omega) c; rw [← w3] at ah
 obtain ⟨rfl, w4, rfl⟩ := R4.full rfl s.2.2.2.1 (by unfold C30; omega) ah
 have hrc : (I7 (C0 s.2.2.1)).1 = s.2.2.1 := by unfold I7; rw [Dy5 h1, Z8.2 h1]; rfl
 have hP : SnapP s := ⟨h1, h2, h3, h4⟩
 rw [hrc] at he
 rw [he]
 refine if_neg ?_
 rintro (z | z | z)
 ·cases z
 ·have := hP.text
  rw [show ((s.1, s.2.1, s.2.2.1, s.2.2.2.1, ()) : D8) = s from rfl, this] at z
  cases z
 ·have := hP.text
  rw [show ((s.1, s.2.1, s.2.2.1, s.2.2.2.1, ()) : D8) = s from rfl, this] at z
  exact z e.symm
end Go.Vm
end
section
namespace Go.Vm
open Go
def Cq0 (d e : List B1) : Prop := e.length = d.length ∧ ∀ i, i < d.length → ∃ n : Nat, (rd A4 d i).2.2.1 ≤ n ∧ n ≤ (rd A4 d i).2.1.size ∧ rd A4 e i = ((rd A4 d i).1, (rd A4 d i).2.1.extract 0 n, (n : Int), ())
def Hf3 (d : List B1) (i : Nat) (xs : List B1) : Prop := xs.length = i ∧ ∀ j, j < i → ∃ n : Nat, (rd A4 d j).2.2.1 ≤ n ∧ n ≤ (rd A4 d j).2.1.size ∧ rd A4 xs j = ((rd A4 d j).1, (rd A4 d j).2.1.extract 0 n, (n : Int), ())
theorem Ga0 {d : List B1} {i : Nat} {xs : List B1} (h : Hf3 d i xs) {z : Int} (h0 : 0 ≤ (rd A4 d i).2.2.1) (h1 : (rd A4 d i).2.2.1 ≤ z) (h2 : z ≤ ((rd A4 d i).2.1.size : Int)) :
  Hf3 d (i + 1) (xs ++ [((rd A4 d i).1, (rd A4 d i).2.1.extract 0 z.toNat, z, ())]) := by
 obtain ⟨g1, g2⟩ := h
 refine ⟨by simp [g1], fun j hj => ?_⟩
 by_cases e : j < i
 ·obtain ⟨n, a, b, c⟩ := g2 j e
  refine ⟨n, a, b, ?_⟩
  rw [← c]
  simp [rd, List.getElem?_append, g1, e]
 ·have : j = i := by omega
  subst this
  refine ⟨z.toNat, by omega, by omega, ?_⟩
  have hz : ((z.toNat : Nat) : Int) = z := Int.toNat_of_nonneg (by omega)
  rw [hz]
  simp [rd, ← g1]
theorem Hp7 (d : List B1) (hd : Bm0 d) (left : List Int) : Re (fun k => Be9 k (d, ()) left) (fun r => r.2 = true ∧ Cq0 d r.1.1) := by
 have hl := hd.1
 refine Re.c1 (S4 d hd) (Re.br (b := false) (fun h => by cases h) (fun _ => ?_))
 refine Re.enter (f := fun k n => U6 k n left 0 (d, ()) []) C6 ?_
 have := Re.loop (ι := Nat) (l := fun k n (s : Nat × List B1) => U6 k n left (s.1 : Int) (d, ()) s.2) (I := fun s => s.1 ≤ d.length ∧ Hf3 d s.1 s.2) (fun s => d.length - s.1) (Q := fun _ r => r.2 = true ∧ Cq0 d r.1.1) (fun s hi ih => by
  obtain ⟨i, xs⟩ := s
  obtain ⟨i1, i2⟩ := hi
  simp only at i1 i2 ih ⊢
  simp only [U6, Bp1, Int.toNat_natCast]
  have ei : B4 ((i : Int) + 1) = ((i + 1 : Nat) : Int) := by rw [D7 (by omega) (by omega)]; rfl
  refine Re.brd (fun q => ?_) (fun q => ?_)
  ·have hi : i < d.length := by omega
   obtain ⟨⟨-, t1, k1, k2⟩, -⟩ := hd.2 i hi
   rw [ei]
   have fin : ∀ (z : Int) (t : ByteArray), t = (rd A4 d i).2.1.extract 0 z.toNat → (rd A4 d i).2.2.1 ≤ z → z ≤ ((rd A4 d i).2.1.size : Int) → ∀ (f : B1), f = ((rd A4 d i).1, t, z, ()) →
     Re (fun x : Nat × Nat => gd (decide (xs.length + ([f] : List B1).length ≤ A3)) (U6 x.1 x.2 left ((i + 1 : Nat) : Int) (d, ()) (xs ++ [f]))) (fun r => r.2 = true ∧ Cq0 d r.1.1) := fun z t ht h1 h2 f hf => by
    subst hf; subst ht
    refine Re.gdd (by have := i2.1; simp; unfold A3; omega) (ih (i + 1, _) ⟨by simp only; omega, Ga0 i2 k1 h1 h2⟩ (by simp only; omega))
   have g0 : (0 : Int) ≤ (i : Int) := Int.natCast_nonneg _
   refine Re.gdd g0 (Re.gdd q ?_)
   refine Re.brd (fun q2 => Re.gdd g0 (Re.gdd q2 ?_)) (fun q2 => ?_)
   ·refine Re.brd (fun q3 => ?_) (fun q3 => ?_)
    ·refine Re.brd (fun q4 => absurd q4 (by omega)) (fun q4 => Re.gdd (Int.natCast_nonneg _) (Re.gdd (Int.le_refl _) (fin _ _ (by rw [Int.toNat_natCast]) k2 (Int.le_refl _) _ rfl)))
    ·refine Re.brd (fun q4 => Re.gdd k1 (Re.gdd k2 (fin _ _ rfl (Int.le_refl _) k2 _ rfl))) (fun q4 => Re.gdd (by omega) (Re.gdd (by omega) (fin _ _ rfl (by omega) (by omega) _ rfl)))
   ·refine Re.brd (fun q3 => absurd q3 (by omega)) (fun q3 => ?_)
    refine Re.brd (fun q4 => Re.gdd k1 (Re.gdd k2 (fin _ _ rfl (Int.le_refl _) k2 _ rfl))) (fun q4 => Re.gdd (by omega) (fin 0 _ rfl (by omega) (by omega) _ rfl))
  ·have : i = d.length := by omega
   subst this
   exact Re.ret ⟨rfl, i2⟩) (0, []) ⟨Nat.zero_le _, rfl, fun j hj => by omega⟩
 exact this
theorem Ga1 {d dw : List B1} {list : List I4} {w : Nat} (hw : w ≤ list.length) (hl : list.length ≤ 1000) (hdl : d.length ≤ 1000000) (h : Done d (list.take w) dw) (hd : Bm0 dw) (left : List Int) :
  Re (fun k => Am6 k (d, ()) list (w : Int) left) (fun r => r.2 = true ∧ Cq0 dw r.1.1) := by
 have ab : (list.take w).length = w := by rw [List.length_take]; omega
 refine Re.s1 (H1 · _ _ _) ?_
 rw [G4.2 ⟨by omega, by omega⟩]
 refine Re.br (b := false) (fun h => by cases h) (fun _ => Re.gdd (Int.natCast_nonneg _) (Re.gdd (by omega) ?_))
 have ev := Gw4 (by rw [ab]; omega) hdl h
 refine Re.c1 (v := ((dw, ()), (w : Int))) (ev.congr_val (fun k => by rw [Int.toNat_natCast]) (by rw [ab])) ?_
 refine Re.brd (fun q => absurd q (Int.lt_irrefl _)) (fun _ => ?_)
 refine Re.b1 (Hp7 dw hd left) fun r hr => Re.ret hr
theorem Hf4 (p : List Int) (hp : 6 ≤ p.length) : Re (fun k => Bl6 k p) (fun _ => True) := by
 refine Re.enter (f := fun k n => Al2 k n p 0 []) C6 ?_
 have := Re.loop (ι := Nat) (l := fun k n (s : Nat × List Int) => Al2 k n p (s.1 : Int) s.2) (I := fun s => s.1 ≤ 6 ∧ s.2.length = s.1) (fun s => 6 - s.1) (Q := fun _ _ => True) (fun s hi ih => by
  obtain ⟨i, xs⟩ := s
  obtain ⟨i1, i2⟩ := hi
  simp only at i1 i2 ih ⊢
  simp only [Al2, Cu1]
  have ei : B4 ((i : Int) + 1) = ((i + 1 : Nat) : Int) := by rw [D7 (by omega) (by omega)]; rfl
  rw [ei]
  refine Re.brd (fun q => Re.gdd (Int.natCast_nonneg _) (Re.gdd (by omega) (Re.ng (by simp) (Re.gdd (by simp [i2]; unfold A3; omega) (ih (i + 1, _) ⟨by simp only; omega, by simp [i2]⟩ (by simp only; omega)))))) (fun _ => Re.ret trivial)) (0, []) ⟨Nat.zero_le _, rfl⟩
 exact this
end Go.Vm
end
section
namespace Go.Vm
open Go
def P4 : ByteArray := ⟨#[115, 43]⟩
def nmS (n : Nat) : ByteArray := ⟨(115 :: Lib.decDigits n).toArray⟩
def nmC (c : Nat) : ByteArray := if c = 0 then P4 else nmS (c - 1)
def rkC (c : Nat) : Nat := if c ≤ 2 then c else if c ≤ 10 then c + 8 else c - 8
theorem A21 : ∀ i j : Fin 19, A20 (nmC i.1) (nmC j.1) = decide (rkC i.1 < rkC j.1) := by decide +kernel
theorem Hp9 : ∀ i j : Fin 19, rkC i.1 = rkC j.1 → i = j := by decide
theorem Hf5 : ∀ i : Fin 19, 1 ≤ (nmC i.1).size ∧ (nmC i.1).size ≤ 8 := by decide +kernel
def OkName (nm : ByteArray) : Prop := ∃ c : Fin 19, nm = nmC c.1
theorem ok_new : OkName P4 := ⟨⟨0, by decide⟩, rfl⟩
theorem Dh8 {n : Nat} (h : n ≤ 17) : OkName (nmS n) := ⟨⟨n + 1, by omega⟩, rfl⟩
theorem OkName.size {a : ByteArray} (h : OkName a) : 1 ≤ a.size ∧ a.size ≤ 8 := by obtain ⟨c, rfl⟩ := h; exact Hf5 c
theorem Ga2 {a b c : ByteArray} (ha : OkName a) (hb : OkName b) (hc : OkName c) (h1 : A20 a b = true) (h2 : A20 b c = true) : A20 a c = true := by
 obtain ⟨i, rfl⟩ := ha; obtain ⟨j, rfl⟩ := hb; obtain ⟨m, rfl⟩ := hc
 rw [A21] at h1 h2 ⊢
 have h1 := of_decide_eq_true h1
 have h2 := of_decide_eq_true h2
 exact decide_eq_true (by omega)
theorem Fk7 {a b : ByteArray} (ha : OkName a) (hb : OkName b) : a = b ∨ A20 a b = true ∨ A20 b a = true := by
 obtain ⟨i, rfl⟩ := ha; obtain ⟨j, rfl⟩ := hb
 rw [A21, A21]
 rcases Nat.lt_trichotomy (rkC i.1) (rkC j.1) with h | h | h
 ·exact .inr (.inl (decide_eq_true h))
 ·exact .inl (by rw [Hp9 i j h])
 ·exact .inr (.inr (decide_eq_true h))
theorem Bv3 {a b : ByteArray} (ha : OkName a) (hb : OkName b) (h : A20 a b = true) : A20 b a = false ∧ a ≠ b := by
 obtain ⟨i, rfl⟩ := ha; obtain ⟨j, rfl⟩ := hb
 rw [A21] at h ⊢
 have h := of_decide_eq_true h
 refine ⟨decide_eq_false (by omega), fun e => ?_⟩
 have h1 := A21 i j
 have h2 := A21 j j
 rw [e, h2] at h1
 have : decide (rkC i.1 < rkC j.1) = true := decide_eq_true h
 rw [this] at h1
 have := of_decide_eq_true h1
 omega
def numS (nm : ByteArray) : Int := match (List.range 18).find? fun n => decide (nmS n = nm) with
 | some n => (n : Int)
 | none => -1
theorem Ce0 : ∀ c : Fin 19, numS (nmC c.1) = (c.1 : Int) - 1 := by decide +kernel
theorem numS_new : numS P4 = -1 := Ce0 ⟨0, by decide⟩
theorem Bm2 {n : Nat} (h : n ≤ 17) : numS (nmS n) = (n : Int) := by
 have := Ce0 ⟨n + 1, by omega⟩
 show numS (nmC (n + 1)) = _
 rw [this]
 show ((n + 1 : Nat) : Int) - 1 = _
 omega
theorem Hq0 {a b : ByteArray} (ha : OkName a) (hb : OkName b) (h : numS a = numS b) : a = b := by
 obtain ⟨i, rfl⟩ := ha; obtain ⟨j, rfl⟩ := hb
 rw [Ce0, Ce0] at h
 have : i.1 = j.1 := by omega
 rw [this]
theorem Hf6 {a : ByteArray} (ha : OkName a) (h : numS a < 0) : a = P4 := by
 obtain ⟨i, rfl⟩ := ha
 rw [Ce0] at h
 have : i.1 = 0 := by omega
 rw [this]; rfl
theorem Gw5 {n : Nat} (h : n ≤ 17) : nmS n ≠ P4 := fun e => by
 have h1 := Bm2 h
 rw [e, numS_new] at h1
 omega
theorem Fk8 (n : Nat) : (⟨#[115]⟩ : ByteArray) ++ W5 n = nmS n := by apply A55; simp [nmS, W5]
theorem Eb0 {n : Nat} (h : n ≤ 17) : Ev (fun k => Al1 k (n : Int)) (nmS n) := by
 refine Re.eq (Re.s1 (H1 · _ _ _) ?_)
 rw [G4.2 ⟨by omega, by omega⟩]
 have hz := Bv1 (m := n) (by omega)
 exact Re.br (b := false) (fun h => by cases h) (fun _ => Re.c1 (Fj6 n (by omega)) (Re.gdd (by show 1 + _ ≤ A3; unfold A3; omega) (Re.ret (Fk8 n))))
theorem Hf7 {n : Nat} (h : n < 100) (k : Nat) : Bc4 k (n : Int) = some (W5 n) := by
 have : Ej5 (n : Int) = some (W5 n) := by unfold Ej5; rw [if_pos ⟨by omega, by omega⟩, Int.toNat_natCast]
 unfold Bc4 B09
 rw [this]
 rfl
theorem Eb1 {n : Nat} (h : n ≤ 17) : Ev (fun k => Ax1 k (n : Int)) (nmS n) := by
 refine Re.eq (Re.s1 (Af3 · _ _ _) ?_)
 rw [G4.2 ⟨by omega, by omega⟩]
 have hz := Bv1 (m := n) (by omega)
 exact Re.br (b := false) (fun h => by cases h) (fun _ => Re.s1 (Hf7 (by omega) ·) (Re.gdd (by show 1 + _ ≤ A3; unfold A3; omega) (Re.ret (Fk8 n))))
theorem Ev9 (k : Nat) : Z4 k P4 (⟨#[115]⟩ : ByteArray) 1000000 = some (-1) := by kernel_rfl
theorem Fk9 {n : Nat} (hn : n ≤ 17) (k : Nat) : Z4 k (nmS n) (⟨#[115]⟩ : ByteArray) 1000000 = some (n : Int) := by
 have all : ∀ i : Fin 18, Z4 k (nmS i.1) (⟨#[115]⟩ : ByteArray) 1000000 = some (i.1 : Int) := fun i => by
  match i with
  | ⟨0, _⟩ => (show _ = some _; kernel_rfl)
  | ⟨1, _⟩ => (show _ = some _; kernel_rfl)
  | ⟨2, _⟩ => (show _ = some _; kernel_rfl)
  | ⟨3, _⟩ => (show _ = some _; kernel_rfl)
  | ⟨4, _⟩ => (show _ = some _; kernel_rfl)
  | ⟨5, _⟩ => (show _ = some _; kernel_rfl)
  | ⟨6, _⟩ => (show _ = some _; kernel_rfl)
  | ⟨7, _⟩ => (show _ = some _; kernel_rfl)
  | ⟨8, _⟩ => (show _ = some _; kernel_rfl)
  | ⟨9, _⟩ => (show _ = some _; kernel_rfl)
  | ⟨10, _⟩ => (show _ = some _; kernel_rfl)
  | ⟨11, _⟩ => (show _ = some _; kernel_rfl)
  | ⟨12, _⟩ => (show _ = some _; kernel_rfl)
  | ⟨13, _⟩ => (show _ = some _; kernel_rfl)
  | ⟨14, _⟩ => (show _ = some _; kernel_rfl)
  | ⟨15, _⟩ => (show _ = some _; kernel_rfl)
  | ⟨16, _⟩ => (show _ = some _; kernel_rfl)
  | ⟨17, _⟩ => (show _ = some _; kernel_rfl)
  | ⟨n + 18, h⟩ => exact absurd h (by omega)
 exact all ⟨n, by omega⟩
theorem Dz1 {nm : ByteArray} (h : OkName nm) (k : Nat) : Z4 k nm (⟨#[115]⟩ : ByteArray) 1000000 = some (numS nm) := by
 obtain ⟨⟨c, hc⟩, rfl⟩ := h
 cases c with
 | zero => exact (Ev9 k).trans (by rw [show numS (nmC 0) = -1 from numS_new])
 | succ n => exact (Fk9 (n := n) (by omega) k).trans (congrArg some (show (n : Int) = numS (nmC (n + 1)) from (Bm2 (by omega)).symm))
theorem s_index_new : Ev (fun k => Ac0 k P4) (-1) := by
 refine ⟨3, fun k hk => ?_⟩
 obtain ⟨k, rfl⟩ : ∃ m, k = m + 3 := ⟨k - 3, by omega⟩
 kernel_rfl
theorem Ga3 {n : Nat} (hn : n ≤ 17) : Ev (fun k => Ac0 k (nmS n)) (n : Int) := by
 have all : ∀ (k : Nat) (i : Fin 18), Ac0 (k + 9) (nmS i.1) = some (i.1 : Int) := fun k i => by
  match i with
  | ⟨0, _⟩ => (show _ = some _; kernel_rfl)
  | ⟨1, _⟩ => (show _ = some _; kernel_rfl)
  | ⟨2, _⟩ => (show _ = some _; kernel_rfl)
  | ⟨3, _⟩ => (show _ = some _; kernel_rfl)
  | ⟨4, _⟩ => (show _ = some _; kernel_rfl)
  | ⟨5, _⟩ => (show _ = some _; kernel_rfl)
  | ⟨6, _⟩ => (show _ = some _; kernel_rfl)
  | ⟨7, _⟩ => (show _ = some _; kernel_rfl)
  | ⟨8, _⟩ => (show _ = some _; kernel_rfl)
  | ⟨9, _⟩ => (show _ = some _; kernel_rfl)
  | ⟨10, _⟩ => (show _ = some _; kernel_rfl)
  | ⟨11, _⟩ => (show _ = some _; kernel_rfl)
  | ⟨12, _⟩ => (show _ = some _; kernel_rfl)
  | ⟨13, _⟩ => (show _ = some _; kernel_rfl)
  | ⟨14, _⟩ => (show _ = some _; kernel_rfl)
  | ⟨15, _⟩ => (show _ = some _; kernel_rfl)
  | ⟨16, _⟩ => (show _ = some _; kernel_rfl)
  | ⟨17, _⟩ => (show _ = some _; kernel_rfl)
  | ⟨n + 18, h⟩ => exact absurd h (by omega)
 refine ⟨9, fun k hk => ?_⟩
 obtain ⟨k, rfl⟩ : ∃ m, k = m + 9 := ⟨k - 9, by omega⟩
 exact all k ⟨n, by omega⟩
theorem Hf8 {nm : ByteArray} (h : OkName nm) : Ev (fun k => Ac0 k nm) (numS nm) := by
 obtain ⟨⟨c, hc⟩, rfl⟩ := h
 cases c with
 | zero => exact s_index_new.congr_val (fun _ => rfl) numS_new.symm
 | succ n => exact (Ga3 (n := n) (by omega)).congr_val (fun _ => rfl) (Bm2 (by omega)).symm
end Go.Vm
end
section
namespace Go.Vm
open Go
def SnapD (d : List B1) : Prop := d.length ≤ 10 ∧ (∀ f ∈ d, OkName f.1 ∧ Cp5 f) ∧ d.Pairwise fun f g => A20 f.1 g.1 = true
theorem Az7 {α : Type} {z : α} {xs : List α} {i : Nat} (h : i < xs.length) : rd z xs i ∈ xs := by rw [E8 h]; exact List.getElem_mem _
theorem SnapD.disk {d : List B1} (h : SnapD d) : Bm0 d := by
 obtain ⟨h1, h2, h3⟩ := h
 refine ⟨by omega, fun i hi => ⟨(h2 _ (Az7 hi)).2, fun h0 => ?_⟩⟩
 rw [E8 hi, E8 (show i - 1 < d.length by omega)]
 exact List.pairwise_iff_getElem.1 h3 (i - 1) i (by omega) hi (by omega)
theorem SnapD.off {d : List B1} (h : SnapD d) (nm : ByteArray) : SnapD (Cl9 d nm) := by
 obtain ⟨h1, h2, h3⟩ := h
 exact ⟨Nat.le_trans (List.length_filter_le _ _) h1, fun f hf => h2 f (List.mem_filter.1 hf).1, h3.filter _⟩
theorem SnapD.put {d : List B1} (h : SnapD d) {f : B1} (hf : OkName f.1) (hp : Cp5 f) (hl : d.length ≤ 9) : SnapD (Av2 d f) := by
 obtain ⟨h1, h2, h3⟩ := h
 have mem : ∀ g, g ∈ Av2 d f → g = f ∨ g ∈ d := fun g hg => by
  unfold Av2 at hg
  rw [List.mem_append, List.mem_append, List.mem_singleton] at hg
  rcases hg with (hg | hg) | hg
  ·exact .inr (List.mem_filter.1 hg).1
  ·exact .inl hg
  ·exact .inr (List.mem_filter.1 hg).1
 refine ⟨?_, fun g hg => ?_, ?_⟩
 ·unfold Av2
  have : (d.filter fun x => A20 x.1 f.1).length + (d.filter (Bf9 f)).length ≤ d.length := by
   clear h1 h3 hl mem
   induction d with
   | nil => simp
   | cons g r ih =>
    have ih := ih fun x hx => h2 x (List.mem_cons_of_mem _ hx)
    rw [List.filter_cons, List.filter_cons]
    cases hg : A20 g.1 f.1 with
    | true =>
     have : Bf9 f g = false := by unfold Bf9; rw [hg]; rfl
     rw [this]; simp; omega
    | false => cases Bf9 f g <;> simp <;> omega
  simp only [List.length_append, List.length_singleton]
  omega
 ·rcases mem g hg with rfl | hg
  ·exact ⟨hf, hp⟩
  ·exact h2 g hg
 ·unfold Av2
  rw [List.pairwise_append, List.pairwise_append]
  refine ⟨⟨h3.filter _, List.pairwise_singleton _ _, fun a ha b hb => ?_⟩, h3.filter _, fun a ha b hb => ?_⟩
  ·rw [List.mem_singleton] at hb
   subst hb
   exact (List.mem_filter.1 ha).2
  ·obtain ⟨b1, b2⟩ := List.mem_filter.1 hb
   have hb2 : A20 f.1 b.1 = true := by
    unfold Bf9 at b2
    rcases Fk7 (h2 b b1).1 hf with e | e | e
    ·rw [decide_eq_true e] at b2; simp at b2
    ·rw [e] at b2; cases b2
    ·exact e
   rw [List.mem_append, List.mem_singleton] at ha
   rcases ha with ha | rfl
   ·obtain ⟨a1, a2⟩ := List.mem_filter.1 ha
    exact Ga2 (h2 a a1).1 hf (h2 b b1).1 a2 hb2
   ·exact hb2
theorem SnapD.uniq {d : List B1} (h : SnapD d) {f g : B1} (hf : f ∈ d) (hg : g ∈ d) (e : f.1 = g.1) : f = g := by
 obtain ⟨h1, h2, h3⟩ := h
 obtain ⟨i, hi, rfl⟩ := List.getElem_of_mem hf
 obtain ⟨j, hj, rfl⟩ := List.getElem_of_mem hg
 have hP := List.pairwise_iff_getElem.1 h3
 rcases Nat.lt_trichotomy i j with q | q | q
 ·exact absurd e (Bv3 (h2 _ (List.getElem_mem hi)).1 (h2 _ (List.getElem_mem hj)).1 (hP i j hi hj q)).2
 ·subst q; rfl
 ·exact absurd e.symm (Bv3 (h2 _ (List.getElem_mem hj)).1 (h2 _ (List.getElem_mem hi)).1 (hP j i hj hi q)).2
theorem Ew0 : ∀ (d : List B1) (nm : ByteArray) (i : Nat), (∀ f ∈ d, f.1 ≠ nm) → atF d nm i = -1
 | [], _, _, _ => rfl
 | f :: r, nm, i, h => by
  unfold atF
  rw [decide_eq_false (h f List.mem_cons_self)]
  exact Ew0 r nm (i + 1) fun g hg => h g (List.mem_cons_of_mem _ hg)
theorem Gw6 : ∀ (d : List B1) (nm : ByteArray) (i : Nat) (f : B1), f ∈ d → f.1 = nm → ∃ j, j < d.length ∧ atF d nm i = ((i + j : Nat) : Int) ∧ (rd A4 d j).1 = nm
 | g :: r, nm, i, f, hf, e => by
  unfold atF
  by_cases q : g.1 = nm
  ·rw [decide_eq_true q]
   exact ⟨0, by simp, rfl, q⟩
  ·rw [decide_eq_false q]
   have hfr : f ∈ r := by
    rcases List.mem_cons.1 hf with rfl | h
    ·exact absurd e q
    ·exact h
   obtain ⟨j, h1, h2, h3⟩ := Gw6 r nm (i + 1) f hfr e
   refine ⟨j + 1, by simp; omega, ?_, h3⟩
   simp only [cond_false]
   rw [h2]
   congr 1; omega
theorem SnapD.at {d : List B1} (h : SnapD d) {f : B1} (hf : f ∈ d) : 0 ≤ atF d f.1 0 ∧ rd A4 d (atF d f.1 0).toNat = f := by
 obtain ⟨j, h1, h2, h3⟩ := Gw6 d f.1 0 f hf rfl
 rw [h2]
 refine ⟨by omega, ?_⟩
 have : (((0 + j : Nat) : Int)).toNat = j := by omega
 rw [this]
 exact h.uniq (Az7 h1) hf h3
theorem Ga4 {d : List B1} (h : SnapD d) {f : B1} (hf : f ∈ d) : Ev (fun k => b9 k (d, ()) (4, f.1, ByteArray.empty, ByteArray.empty, ())) ((Cl9 d f.1, ()), true) :=
 Hf0 h.disk ((h.2.1 f hf).1.size) (h.at hf).1 (h.off f.1).disk
theorem Ga5 {d : List B1} (h : SnapD d) (hl : d.length ≤ 9) {nm T : ByteArray} {z : Int} (hf : (nm, T, z, ()) ∈ d) : Ev (fun k => b9 k (d, ()) (2, nm, ByteArray.empty, ByteArray.empty, ())) ((Av2 d (nm, T, (T.size : Int), ()), ()), true) := by
 obtain ⟨a1, a2⟩ := h.at hf
 obtain ⟨n1, n2, n3, n4, n5⟩ := h.2.1 _ hf
 have hp : Cp5 (nm, T, (T.size : Int), ()) := ⟨n2, n3, by show (0 : Int) ≤ T.size; omega, by show (T.size : Int) ≤ T.size; omega⟩
 exact He8 h.disk n1.size a1 (by rw [a2]) (h.put (f := (nm, T, (T.size : Int), ())) n1 hp hl).disk
theorem Ga6 {d : List B1} (h : SnapD d) (hl : d.length ≤ 9) {nm to T : ByteArray} (hto : OkName to) (hne : to ≠ nm) (hf : (nm, T, (T.size : Int), ()) ∈ d) :
  Ev (fun k => b9 k (d, ()) (3, nm, ByteArray.empty, to, ())) ((Av2 (Cl9 d nm) (to, T, (T.size : Int), ()), ()), true) := by
 obtain ⟨a1, a2⟩ := h.at hf
 obtain ⟨n1, n2, n3, n4, n5⟩ := h.2.1 _ hf
 have hp : Cp5 (to, T, (T.size : Int), ()) := ⟨hto.size, n3, by show (0 : Int) ≤ T.size; omega, by show (T.size : Int) ≤ T.size; omega⟩
 exact He9 h.disk n1.size hto.size hne a1 (by rw [a2]) (by rw [a2]) ((h.off nm).put hto hp (Nat.le_trans (List.length_filter_le _ _) hl)).disk
theorem Fl0 {d : List B1} (h : SnapD d) (hl : d.length ≤ 9) {nm T : ByteArray} (hn : OkName nm) (hT : T.size ≤ 20000) (hf : ∀ f ∈ d, f.1 ≠ nm) :
  Ev (fun k => b9 k (d, ()) (1, nm, T, ByteArray.empty, ())) ((Av2 d (nm, T, 0, ()), ()), true) :=
 Gw3 h.disk hn.size (.inl ⟨by rw [Ew0 d nm 0 hf]; decide, rfl⟩) hT (h.put hn ⟨hn.size, hT, Int.le_refl 0, by show (0 : Int) ≤ T.size; omega⟩ hl).disk
theorem Ga7 {d : List B1} (h : SnapD d) (hl : d.length ≤ 9) {nm T X : ByteArray} (hT : (T ++ X).size ≤ 20000) (hf : (nm, T, 0, ()) ∈ d) :
  Ev (fun k => b9 k (d, ()) (1, nm, X, ByteArray.empty, ())) ((Av2 d (nm, T ++ X, 0, ()), ()), true) := by
 obtain ⟨a1, a2⟩ := h.at hf
 obtain ⟨n1, n2, n3, n4, n5⟩ := h.2.1 _ hf
 have hp : Cp5 (nm, T ++ X, 0, ()) := ⟨n2, hT, Int.le_refl 0, by show (0 : Int) ≤ (T ++ X).size; omega⟩
 exact Gw3 h.disk n1.size (.inr ⟨a1, by rw [a2]⟩) (by rw [G0] at hT; omega) (h.put (f := (nm, T ++ X, 0, ())) n1 hp hl).disk
theorem put_mem {d : List B1} {f g : B1} : g ∈ Av2 d f ↔ g = f ∨ (g ∈ d ∧ (A20 g.1 f.1 = true ∨ Bf9 f g = true)) := by
 unfold Av2
 rw [List.mem_append, List.mem_append, List.mem_singleton, List.mem_filter, List.mem_filter]
 constructor
 ·rintro ((⟨a, b⟩ | a) | ⟨a, b⟩)
  ·exact .inr ⟨a, .inl b⟩
  ·exact .inl a
  ·exact .inr ⟨a, .inr b⟩
 ·rintro (a | ⟨a, b | b⟩)
  ·exact .inl (.inr a)
  ·exact .inl (.inl ⟨a, b⟩)
  ·exact .inr ⟨a, b⟩
theorem SnapD.put_mem {d : List B1} (h : SnapD d) {f g : B1} (hf : OkName f.1) : g ∈ Av2 d f ↔ g = f ∨ (g ∈ d ∧ g.1 ≠ f.1) := by
 rw [Vm.put_mem]
 constructor
 ·rintro (a | ⟨a, b⟩)
  ·exact .inl a
  ·refine .inr ⟨a, fun e => ?_⟩
   have h0 : A20 f.1 f.1 = false := by
    obtain ⟨i, hi⟩ := hf
    rw [hi, A21]; exact decide_eq_false (Nat.lt_irrefl _)
   rcases b with b | b
   ·rw [e, h0] at b; cases b
   ·unfold Bf9 at b
    rw [decide_eq_true e] at b; simp at b
 ·rintro (a | ⟨a, b⟩)
  ·exact .inl a
  ·refine .inr ⟨a, ?_⟩
   rcases Fk7 (h.2.1 g a).1 hf with e | e | e
   ·exact absurd e b
   ·exact .inl e
   ·right
    unfold Bf9
    rw [decide_eq_false b, (Bv3 hf (h.2.1 g a).1 e).1]; rfl
theorem Ew1 {d : List B1} {nm : ByteArray} {g : B1} : g ∈ Cl9 d nm ↔ g ∈ d ∧ g.1 ≠ nm := by
 unfold Cl9
 rw [List.mem_filter]
 exact ⟨fun ⟨a, b⟩ => ⟨a, by simpa using b⟩, fun ⟨a, b⟩ => ⟨a, by simpa using b⟩⟩
theorem SnapD.ext : ∀ {d e : List B1}, SnapD d → SnapD e → (∀ f, f ∈ d ↔ f ∈ e) → d = e
 | [], [], _, _, _ => rfl
 | [], g :: _, _, _, h => absurd ((h g).2 List.mem_cons_self) (by simp)
 | f :: _, [], _, _, h => absurd ((h f).1 List.mem_cons_self) (by simp)
 | f :: d, g :: e, hd, he, h => by
  obtain ⟨d1, d2, d3⟩ := hd
  obtain ⟨e1, e2, e3⟩ := he
  rw [List.pairwise_cons] at d3 e3
  have hfg : f = g := by
   rcases List.mem_cons.1 ((h f).1 List.mem_cons_self) with q | q
   ·exact q
   ·rcases List.mem_cons.1 ((h g).2 List.mem_cons_self) with q2 | q2
    ·exact q2.symm
    ·have a := e3.1 f q
     have b := d3.1 g q2
     have := (Bv3 (e2 g List.mem_cons_self).1 (d2 f List.mem_cons_self).1 a).1
     rw [b] at this; cases this
  subst hfg
  have irr : ∀ {l : List B1}, (∀ x ∈ l, A20 f.1 x.1 = true) → f ∉ l := fun hl hm => by
   have h1 := hl f hm
   rw [(Bv3 (d2 f List.mem_cons_self).1 (d2 f List.mem_cons_self).1 h1).1] at h1
   cases h1
  have hi : ∀ x, x ∈ d ↔ x ∈ e := fun x => by
   have := h x
   rw [List.mem_cons, List.mem_cons] at this
   constructor
   ·intro hx
    rcases this.1 (.inr hx) with rfl | q
    ·exact absurd hx (irr d3.1)
    ·exact q
   ·intro hx
    rcases this.2 (.inr hx) with rfl | q
    ·exact absurd hx (irr e3.1)
    ·exact q
  rw [SnapD.ext ⟨by simp at d1; omega, fun x hx => d2 x (List.mem_cons_of_mem _ hx), d3.2⟩ ⟨by simp at e1; omega, fun x hx => e2 x (List.mem_cons_of_mem _ hx), e3.2⟩ hi]
abbrev Ah7 (f : B1) : I4 := (4, f.1, ByteArray.empty, ByteArray.empty, ())
theorem Cu8 : ∀ (L : List B1) {d : List B1}, SnapD d → (∀ f ∈ L, f ∈ d) → L.Pairwise (fun f g => f.1 ≠ g.1) → ∃ d', Done d (L.map Ah7) d' ∧ SnapD d' ∧ ∀ g, g ∈ d' ↔ g ∈ d ∧ ∀ f ∈ L, g.1 ≠ f.1
 | [], d, h, _, _ => ⟨d, .nil, h, fun g => by simp⟩
 | f :: L, d, h, hm, hp => by
  rw [List.pairwise_cons] at hp
  obtain ⟨d', a1, a2, a3⟩ := Cu8 L (h.off f.1) (fun g hg => Ew1.2 ⟨hm g (List.mem_cons_of_mem _ hg), fun e => hp.1 g hg e.symm⟩) hp.2
  refine ⟨d', .cons (Ga4 h (hm f List.mem_cons_self)) a1, a2, fun g => ?_⟩
  rw [a3, Ew1]
  constructor
  ·rintro ⟨⟨b1, b2⟩, b3⟩
   exact ⟨b1, fun x hx => by
    rcases List.mem_cons.1 hx with rfl | hx
    ·exact b2
    ·exact b3 x hx⟩
  ·rintro ⟨b1, b2⟩
   exact ⟨⟨b1, b2 f List.mem_cons_self⟩, fun x hx => b2 x (List.mem_cons_of_mem _ hx)⟩
theorem SnapD.names {d : List B1} (h : SnapD d) : d.Pairwise fun f g => f.1 ≠ g.1 := by
 obtain ⟨h1, h2, h3⟩ := h
 rw [List.pairwise_iff_getElem] at h3 ⊢
 intro i j hi hj hij
 exact (Bv3 (h2 _ (List.getElem_mem hi)).1 (h2 _ (List.getElem_mem hj)).1 (h3 i j hi hj hij)).2
end Go.Vm
end
section
namespace Go.Vm
open Go
structure GoodF (f : B1) (n : Nat) (t : D8) : Prop where
 file : f = (nmS n, L8 (J4 t), ((L8 (J4 t)).size : Int), ())
 num : t.1 = (n : Int)
 ok : SnapP t
 le : n ≤ 17
def GoodD (d : List B1) : Prop := SnapD d ∧ ∀ f ∈ d, f.1 = P4 ∨ ∃ n t, GoodF f n t
def Ag6 : D8 := (0, 0, [], ByteArray.empty, ())
noncomputable def Dz2 (f : B1) : D8 := @dite D8 (∃ t, SnapP t ∧ f.2.1 = L8 (J4 t)) (Classical.propDecidable _) (fun h => Classical.choose h) (fun _ => Ag6)
theorem G19 {t u : D8} (h : SnapP t) (k : SnapP u) (e : L8 (J4 t) = L8 (J4 u)) : t = u := by
 obtain ⟨v, -, hv⟩ := Cp9 (L8 (J4 t)) (by rw [Bg0]; have := h.small; omega)
 have h1 := hv t h rfl
 have h2 := hv u k e
 rw [h1] at h2
 exact (Prod.mk.inj h2).1
theorem GoodF.snap {f : B1} {n : Nat} {t : D8} (h : GoodF f n t) : Dz2 f = t := by
 have hx : ∃ t, SnapP t ∧ f.2.1 = L8 (J4 t) := ⟨t, h.ok, by rw [h.file]⟩
 unfold Dz2
 rw [dif_pos hx]
 obtain ⟨h1, h2⟩ := Classical.choose_spec hx
 refine G19 h1 h.ok ?_
 rw [← h2, h.file]
theorem GoodF.numS {f : B1} {n : Nat} {t : D8} (h : GoodF f n t) : Vm.numS f.1 = (n : Int) := by rw [h.file]; exact Bm2 h.le
theorem GoodD.good {d : List B1} (h : GoodD d) {f : B1} (hf : f ∈ d) (hn : 0 ≤ numS f.1) : ∃ n t, GoodF f n t := by
 rcases h.2 f hf with e | e
 ·rw [e, numS_new] at hn; omega
 ·exact e
noncomputable def T2 (b : D8 × Bool) (f : B1) : D8 × Bool := if 0 ≤ numS f.1 ∧ (b.2 = false ∨ b.1.1 < numS f.1) then (Dz2 f, true) else b
noncomputable def J1 (d : List B1) : D8 × Bool := d.foldl T2 (Ag6, false)
theorem Da1 {d : List B1} {i : Nat} (hi : i < d.length) : (d.take (i + 1)).foldl T2 (Ag6, false) = T2 ((d.take i).foldl T2 (Ag6, false)) (rd A4 d i) := by
 rw [List.take_add_one, List.getElem?_eq_getElem hi, List.foldl_append, E8 hi]
 rfl
theorem C33 {d : List B1} (h : GoodD d) : ∀ i, i ≤ d.length → ∀ b, b = (d.take i).foldl T2 (Ag6, false) →
  (b.2 = true → ∃ f ∈ d.take i, 0 ≤ numS f.1 ∧ b.1 = Dz2 f ∧ b.1.1 = numS f.1 ∧ ∀ g ∈ d.take i, numS g.1 ≤ numS f.1) ∧ (b.2 = false → b = (Ag6, false) ∧ ∀ g ∈ d.take i, numS g.1 < 0)
 | 0, _, b, hb => by
  subst hb
  exact ⟨(fun h => by cases h), fun _ => ⟨rfl, fun g hg => by simp at hg⟩⟩
 | i + 1, hi, b, hb => by
  have hl : i < d.length := by omega
  have hm : rd A4 d i ∈ d := Az7 hl
  have et : d.take (i + 1) = d.take i ++ [rd A4 d i] := by rw [List.take_add_one, List.getElem?_eq_getElem hl, E8 hl]; rfl
  rw [Da1 hl] at hb
  obtain ⟨g1, g2⟩ := C33 h i (by omega) _ rfl
  generalize (d.take i).foldl T2 (Ag6, false) = b0 at hb g1 g2
  unfold T2 at hb
  by_cases q : 0 ≤ numS (rd A4 d i).1 ∧ (b0.2 = false ∨ b0.1.1 < numS (rd A4 d i).1)
  ·rw [if_pos q] at hb
   subst hb
   obtain ⟨n, t, hg⟩ := h.good hm q.1
   refine ⟨fun _ => ⟨rd A4 d i, by rw [et]; simp, q.1, rfl, by show (Dz2 _).1 = _; rw [hg.snap, hg.numS, hg.num], fun g hgm => ?_⟩, fun h => by cases h⟩
   rw [et, List.mem_append, List.mem_singleton] at hgm
   rcases hgm with hgm | rfl
   ·rcases q.2 with e | e
    ·have := (g2 e).2 g hgm; omega
    ·cases hb0 : b0.2 with
     | false => have := (g2 hb0).2 g hgm; omega
     | true =>
      obtain ⟨f, f1, f2, f3, f4, f5⟩ := g1 hb0
      have := f5 g hgm
      omega
   ·exact Int.le_refl _
  ·rw [if_neg q] at hb
   subst hb
   refine ⟨fun hb => ?_, fun hb => ?_⟩
   ·obtain ⟨f, f1, f2, f3, f4, f5⟩ := g1 hb
    refine ⟨f, by rw [et]; exact List.mem_append.2 (.inl f1), f2, f3, f4, fun g hgm => ?_⟩
    rw [et, List.mem_append, List.mem_singleton] at hgm
    rcases hgm with hgm | rfl
    ·exact f5 g hgm
    ·have : ¬ (0 ≤ numS (rd A4 d i).1 ∧ b.1.1 < numS (rd A4 d i).1) := fun z => q ⟨z.1, .inr z.2⟩
     omega
   ·obtain ⟨e1, e2⟩ := g2 hb
    refine ⟨e1, fun g hgm => ?_⟩
    rw [et, List.mem_append, List.mem_singleton] at hgm
    rcases hgm with hgm | rfl
    ·exact e2 g hgm
    ·have : ¬ 0 ≤ numS (rd A4 d i).1 := fun z => q ⟨z, .inl hb⟩
     omega
theorem Bv4 {d : List B1} (h : GoodD d) (hb : (J1 d).2 = true) : ∃ f ∈ d, 0 ≤ numS f.1 ∧ (J1 d).1 = Dz2 f ∧ (J1 d).1.1 = numS f.1 ∧ ∀ g ∈ d, numS g.1 ≤ numS f.1 := by
 have := (C33 h d.length (Nat.le_refl _) _ rfl).1
 rw [List.take_length] at this
 exact this hb
theorem Ew2 {d : List B1} (h : GoodD d) (hb : (J1 d).2 = false) : J1 d = (Ag6, false) ∧ ∀ g ∈ d, numS g.1 < 0 := by
 have := (C33 h d.length (Nat.le_refl _) _ rfl).2
 rw [List.take_length] at this
 exact this hb
theorem Dq9 {d : List B1} (h : GoodD d) {f : B1} {n : Nat} {t : D8} (hf : f ∈ d) (hg : GoodF f n t) (bi : ∀ g ∈ d, numS g.1 ≤ n) : J1 d = (t, true) := by
 cases hb : (J1 d).2 with
 | false =>
  have := (Ew2 h hb).2 f hf
  rw [hg.numS] at this; omega
 | true =>
  obtain ⟨f', f1, f2, f3, f4, f5⟩ := Bv4 h hb
  have e1 : numS f'.1 = numS f.1 := by
   have := f5 f hf
   have := bi f' f1
   rw [hg.numS] at *; omega
  have e2 : f' = f := h.1.uniq f1 hf (Hq0 (h.1.2.1 f' f1).1 (h.1.2.1 f hf).1 e1)
  rw [e2, hg.snap] at f3
  exact Prod.ext f3 hb
theorem Dh9 {d : List B1} (h : GoodD d) : Ev (fun k => U0 k (d, ())) (J1 d) := by
 have hl := h.1.1
 refine Re.eq (Re.c1 (Dh6 d h.1.disk) (Re.br (b := false) (fun h => by cases h) (fun _ => ?_)))
 refine Re.enter (f := fun k n => P1 k n false (d, ()) 0 0 0 ByteArray.empty []) C6 ?_
 have := Re.loop (ι := Nat) (l := fun k n (s : Nat × D8 × Bool) => P1 k n s.2.2 (d, ()) (s.1 : Int) s.2.1.1 s.2.1.2.1 s.2.1.2.2.2.1 s.2.1.2.2.1) (I := fun s => s.1 ≤ d.length ∧ s.2 = (d.take s.1).foldl T2 (Ag6, false)) (fun s => d.length - s.1) (Q := fun _ v => v = J1 d) (fun s hi ih => by
  obtain ⟨i, b, o⟩ := s
  obtain ⟨i1, i2⟩ := hi
  simp only at i1 i2 ih ⊢
  simp only [P1, A58, Int.toNat_natCast]
  refine Re.brd (fun q => ?_) (fun q => Re.ret ?_)
  ·have hl : i < d.length := by omega
   have hm : rd A4 d i ∈ d := Az7 hl
   have hn := (h.1.2.1 _ hm).1
   have hsz := (h.1.2.1 _ hm).2.2.1
   obtain ⟨v, hv, bc⟩ := Cp9 (rd A4 d i).2.1 (by omega)
   have step := Da1 hl
   rw [← i2] at step
   unfold T2 at step
   rw [C9 hl (by omega)]
   refine Re.gdd (by omega) (Re.gdd q (Re.s2 (Dz1 hn ·) (Re.c2 hv (Re.brd (fun c => ?_) (fun c => ?_)))))
   ·obtain ⟨n, t, hg⟩ := h.good hm c
    have ev := bc t hg.ok (by rw [hg.file])
    rw [ev]
    refine Re.br (b := true) (fun _ => ?_) (fun h => by cases h)
    have e2 : t.1 = numS (rd A4 d i).1 := by rw [hg.num, hg.numS]
    refine Re.bre (fun _ => ?_) (fun z => absurd e2 z)
    have take : (o = false ∨ b.1 < numS (rd A4 d i).1) → Re (fun x : Nat × Nat => P1 x.1 x.2 true (d, ()) ((i + 1 : Nat) : Int) t.1 t.2.1 t.2.2.2.1 t.2.2.1) (fun v => v = J1 d) := fun hc => by
     rw [if_pos ⟨c, hc⟩, hg.snap] at step
     exact ih (i + 1, t, true) ⟨by simp only; omega, step.symm⟩ (by simp only; omega)
    cases o with
    | false => exact Re.br (b := true) (fun _ => take (.inl rfl)) (fun h => by cases h)
    | true =>
     refine Re.br (b := false) (fun h => by cases h) (fun _ => Re.brd (fun z => take (.inr z)) (fun z => ?_))
     rw [if_neg (fun y => y.2.elim (fun y => by cases y) z)] at step
     exact ih (i + 1, b, true) ⟨by simp only; omega, step.symm⟩ (by simp only; omega)
   ·rw [if_neg (fun y => c y.1)] at step
    exact ih (i + 1, b, o) ⟨by simp only; omega, step.symm⟩ (by simp only; omega)
  ·have : i = d.length := by omega
   subst this
   rw [List.take_length] at i2
   exact i2) (0, Ag6, false) ⟨Nat.zero_le _, rfl⟩
 exact this
theorem Di0 {d : List B1} (h : GoodD d) : Ev (fun k => D6 k (d, ())) (J1 d) := by
 have hl := h.1.1
 have hinv := C33 h
 refine Re.eq (Re.enter (f := fun k n => P2 k n 0 (d, ()) (-1) 0 ByteArray.empty []) C6 ?_)
 have := Re.loop (ι := Nat) (l := fun k n (s : Nat × D8) => P2 k n (s.1 : Int) (d, ()) s.2.1 s.2.2.1 s.2.2.2.2.1 s.2.2.2.1) (I := fun s => s.1 ≤ d.length ∧ s.2 = (if ((d.take s.1).foldl T2 (Ag6, false)).2 = true then ((d.take s.1).foldl T2 (Ag6, false)).1 else (-1, 0, [], ByteArray.empty, ()))) (fun s => d.length - s.1) (Q := fun _ v => v = J1 d) (fun s hi ih => by
  obtain ⟨i, c⟩ := s
  obtain ⟨i1, i2⟩ := hi
  simp only at i1 i2 ih ⊢
  simp only [P2, A61, Int.toNat_natCast]
  obtain ⟨g1, g2⟩ := hinv i i1 _ rfl
  refine Re.brd (fun q => ?_) (fun q => ?_)
  ·have hl : i < d.length := by omega
   have hm : rd A4 d i ∈ d := Az7 hl
   have hn := (h.1.2.1 _ hm).1
   have hsz := (h.1.2.1 _ hm).2.2.1
   obtain ⟨v, hv, bc⟩ := Ea9 (rd A4 d i).2.1 (by omega)
   have step := Da1 hl
   have hnext := ih
   generalize hb : (d.take i).foldl T2 (Ag6, false) = b at i2 g1 g2 step
   rw [show T2 b (rd A4 d i) = (if 0 ≤ numS (rd A4 d i).1 ∧ (b.2 = false ∨ b.1.1 < numS (rd A4 d i).1) then (Dz2 (rd A4 d i), true) else b) from rfl] at step
   rw [C9 hl (by omega)]
   have g0 : (0 : Int) ≤ (i : Int) := by omega
   have go : ∀ u : D8, u = (if ((d.take (i + 1)).foldl T2 (Ag6, false)).2 = true then ((d.take (i + 1)).foldl T2 (Ag6, false)).1 else (-1, 0, [], ByteArray.empty, ())) →
     Re (fun x : Nat × Nat => P2 x.1 x.2 ((i + 1 : Nat) : Int) (d, ()) u.1 u.2.1 u.2.2.2.1 u.2.2.1) (fun v => v = J1 d) := fun u hu => ih (i + 1, u) ⟨by simp only; omega, hu⟩ (by simp only; omega)
   refine Re.c2 (S4 d h.1.disk) (Re.br (b := true) (fun _ => Re.gdd g0 (Re.gdd q (Re.c2 (Hf8 hn) (Re.gdd g0 (Re.gdd q (Re.c2 hv (Re.brd (fun z => ?_) (fun z => ?_)))))))) (fun h => by cases h))
   ·obtain ⟨n, t, hg⟩ := h.good hm z
    have ev := bc t hg.ok (by rw [hg.file])
    rw [ev]
    refine Re.br (b := true) (fun _ => ?_) (fun h => by cases h)
    have e2 : t.1 = numS (rd A4 d i).1 := by rw [hg.num, hg.numS]
    refine Re.bre (fun _ => ?_) (fun z => absurd e2 z)
    by_cases y : b.2 = false ∨ b.1.1 < numS (rd A4 d i).1
    ·rw [if_pos ⟨z, y⟩, hg.snap] at step
     have hlt : numS (rd A4 d i).1 > c.1 := by
      rw [i2]
      cases hb2 : b.2 with
      | false => rw [if_neg (by decide)]; show (-1 : Int) < _; omega
      | true => rw [if_pos rfl]; exact y.resolve_left (by rw [hb2]; decide)
     refine Re.brd (fun _ => go t ?_) (fun x => absurd hlt x)
     rw [step]; rfl
    ·rw [if_neg (fun x => y x.2)] at step
     have hb2 : b.2 = true := by
      cases hb2 : b.2 with
      | true => rfl
      | false => exact absurd (.inl hb2) y
     have hnlt : ¬ numS (rd A4 d i).1 > c.1 := fun x => y (.inr (by rw [i2, if_pos hb2] at x; exact x))
     refine Re.brd (fun x => absurd x hnlt) (fun _ => go c ?_)
     rw [step, ← i2]
   ·rw [if_neg (fun x => z x.1)] at step
    refine go c ?_
    rw [step, ← i2]
  ·have : i = d.length := by omega
   subst this
   have ht : (d.take d.length).foldl T2 (Ag6, false) = J1 d := by rw [List.take_length]; rfl
   rw [ht] at i2 g1 g2
   cases hb : (J1 d).2 with
   | true =>
    rw [if_pos hb] at i2
    obtain ⟨f, f1, f2, f3, f4, f5⟩ := g1 hb
    refine Re.brd (fun z => by rw [i2, f4] at z; omega) (fun _ => Re.ret ?_)
    rw [i2]
    exact (Prod.ext rfl hb.symm)
   | false =>
    rw [if_neg (by rw [hb]; decide)] at i2
    refine Re.brd (fun _ => Re.ret (g2 hb).1.symm) (fun z => absurd (by rw [i2]; decide) z)) (0, (-1, 0, [], ByteArray.empty, ())) ⟨Nat.zero_le _, rfl⟩
 exact this
noncomputable def Bv5 (d : List B1) : List B1 := if (J1 d).2 = true then d.filter (fun f => !decide (numS f.1 = (J1 d).1.1)) else []
theorem Ep1 {d : List B1} (h : GoodD d) : Ev (fun k => C4 k (d, ())) ((Bv5 d).map Ah7) := by
 have hl := h.1.1
 unfold Bv5
 refine Re.eq (Re.c1 (Dh9 h) ?_)
 cases hb : (J1 d).2 with
 | false => rw [if_neg (by decide)]; exact Re.br (b := true) (fun _ => Re.ret rfl) (fun h => by cases h)
 | true =>
  rw [if_pos rfl]
  obtain ⟨f, f1, f2, f3, f4, f5⟩ := Bv4 h hb
  refine Re.br (b := false) (fun h => by cases h) (fun _ => ?_)
  refine Re.enter (f := fun k n => R6 k n (d, ()) 0 (J1 d) []) C6 ?_
  have := Re.loop (ι := Nat) (l := fun k n (i : Nat) => R6 k n (d, ()) (i : Int) (J1 d) (((d.take i).filter (fun f => !decide (numS f.1 = (J1 d).1.1))).map Ah7)) (I := fun i => i ≤ d.length) (fun i => d.length - i) (Q := fun _ v => v = (d.filter (fun f => !decide (numS f.1 = (J1 d).1.1))).map Ah7) (fun i hi ih => by
   simp only [R6, Bp0, Int.toNat_natCast]
   refine Re.brd (fun q => ?_) (fun q => Re.ret (by rw [List.take_of_length_le (by omega)]))
   have hl : i < d.length := by omega
   have hm : rd A4 d i ∈ d := Az7 hl
   have hn := (h.1.2.1 _ hm).1
   have next := ih (i + 1) (by omega) (by omega)
   have et : d.take (i + 1) = d.take i ++ [rd A4 d i] := by rw [List.take_add_one, List.getElem?_eq_getElem hl, E8 hl]; rfl
   have ab : (((d.take i).filter (fun f => !decide (numS f.1 = (J1 d).1.1))).map Ah7).length ≤ 10 := by
    rw [List.length_map]
    exact Nat.le_trans (List.length_filter_le _ _) (by simp; omega)
   rw [et, List.filter_append, List.map_append] at next
   rw [C9 hl (by omega)]
   have yes : numS (rd A4 d i).1 ≠ (J1 d).1.1 → Re (fun x : Nat × Nat => gd (decide ((((d.take i).filter (fun f => !decide (numS f.1 = (J1 d).1.1))).map Ah7).length + ([(4, (rd A4 d i).1, ByteArray.empty, ByteArray.empty, ())] : List I4).length ≤ A3)) (R6 x.1 x.2 (d, ()) ((i + 1 : Nat) : Int) (J1 d) ((((d.take i).filter (fun f => !decide (numS f.1 = (J1 d).1.1))).map Ah7) ++ ([(4, (rd A4 d i).1, ByteArray.empty, ByteArray.empty, ())] : List I4)))) (fun v => v = (d.filter (fun f => !decide (numS f.1 = (J1 d).1.1))).map Ah7) := fun hne => by
    have e : [rd A4 d i].filter (fun f => !decide (numS f.1 = (J1 d).1.1)) = [rd A4 d i] := by simp [hne]
    rw [e] at next
    exact Re.gdd (by simp only [List.length_singleton]; unfold A3; omega) next
   have no : numS (rd A4 d i).1 = (J1 d).1.1 → Re (fun x : Nat × Nat => R6 x.1 x.2 (d, ()) ((i + 1 : Nat) : Int) (J1 d) (((d.take i).filter (fun f => !decide (numS f.1 = (J1 d).1.1))).map Ah7)) (fun v => v = (d.filter (fun f => !decide (numS f.1 = (J1 d).1.1))).map Ah7) := fun he => by
    have e : [rd A4 d i].filter (fun f => !decide (numS f.1 = (J1 d).1.1)) = [] := by simp [he]
    rw [e, List.map_nil, List.append_nil] at next
    exact next
   refine Re.gdd (by omega) (Re.gdd q (Re.s2 (Dz1 hn ·) ?_))
   rw [l6]
   by_cases c : (rd A4 d i).1 = P4
   ·refine Re.br (fun _ => yes ?_) (fun g => by rw [show (⟨#[115, 43]⟩ : ByteArray) = P4 from rfl, decide_eq_true c] at g; cases g)
    rw [c, numS_new, f4]; omega
   ·refine Re.br (fun g => absurd (of_decide_eq_true g) c) (fun _ => Re.brd (fun z => Re.brn (fun w => yes w) (fun w => no w)) (fun z => ?_))
    exact absurd (Hf6 hn (by omega)) c) 0 (Nat.zero_le _)
  simpa using this
theorem G20 {d : List B1} (h : GoodD d) : ∃ d', Done d ((Bv5 d).map Ah7) d' ∧ GoodD d' ∧ J1 d' = J1 d := by
 have hsub : ∀ f ∈ Bv5 d, f ∈ d := fun f hf => by
  unfold Bv5 at hf
  split at hf
  ·exact (List.mem_filter.1 hf).1
  ·cases hf
 have hpw : (Bv5 d).Pairwise fun f g => f.1 ≠ g.1 := by
  unfold Bv5
  split
  ·exact h.1.names.filter _
  ·exact List.Pairwise.nil
 obtain ⟨d', a1, a2, a3⟩ := Cu8 (Bv5 d) h.1 hsub hpw
 have hG : GoodD d' := ⟨a2, fun f hf => h.2 f ((a3 f).1 hf).1⟩
 refine ⟨d', a1, hG, ?_⟩
 cases hb : (J1 d).2 with
 | false =>
  have e : Bv5 d = [] := by unfold Bv5; rw [if_neg (by rw [hb]; decide)]
  have : d' = d := a2.ext h.1 fun f => by rw [a3, e]; simp
  rw [this]
 | true =>
  obtain ⟨f, f1, f2, f3, f4, f5⟩ := Bv4 h hb
  obtain ⟨n, t, hg⟩ := h.good f1 f2
  have hfd : f ∈ d' := (a3 f).2 ⟨f1, fun g hg2 e => by
   unfold Bv5 at hg2
   rw [if_pos hb] at hg2
   have := (List.mem_filter.1 hg2).2
   rw [← e, ← f4] at this
   simp at this⟩
  rw [Dq9 hG hfd hg fun g hg2 => by have := f5 g ((a3 g).1 hg2).1; rw [hg.numS] at this; exact this]
  exact Prod.ext (by rw [f3, hg.snap]) hb.symm
end Go.Vm
end
section
namespace Go.Vm
open Go
def O1 (T : ByteArray) : Nat → Nat → List I4
 | 0, _ => []
 | m + 1, a => if a < T.size then (1, P4, T.extract a (min (a + 60) T.size), ByteArray.empty, ()) :: O1 T m (a + 60) else []
theorem Da2 (T : ByteArray) : ∀ m a, (O1 T m a).length ≤ m
 | 0, _ => Nat.le_refl _
 | m + 1, a => by
  unfold O1
  split
  ·have := Da2 T m (a + 60); simp; omega
  ·simp
theorem Hf9 (T : ByteArray) {a e : Nat} (h : a ≤ e) : T.extract 0 a ++ T.extract a e = T.extract 0 e := by
 apply C32
 rw [w6, N3, N3, N3, List.drop_zero, List.drop_zero]
 have : (D4 T).take a = ((D4 T).take e).take a := by rw [List.take_take, Nat.min_eq_left h]
 rw [this, List.take_append_drop]
theorem Fl1 (T : ByteArray) : T.extract 0 T.size = T := by
 apply C32
 rw [N3, List.drop_zero, ← D5 T, List.take_length]
abbrev Cm0 (d : List B1) (X : ByteArray) (z : Nat) : List B1 := Av2 d (P4, X, (z : Int), ())
structure Base (d : List B1) : Prop where
 ok : SnapD d
 few : d.length ≤ 5
 no : ∀ f ∈ d, f.1 ≠ P4
theorem Base.beg {d : List B1} (h : Base d) {X : ByteArray} {z : Nat} (hX : X.size ≤ 20000) (hz : z ≤ X.size) : SnapD (Cm0 d X z) ∧ (Cm0 d X z).length ≤ 9 ∧ ∀ g, g ∈ Cm0 d X z ↔ g = (P4, X, (z : Int), ()) ∨ g ∈ d := by
 have hp : Cp5 (P4, X, (z : Int), ()) := ⟨ok_new.size, hX, by show (0 : Int) ≤ z; omega, by show (z : Int) ≤ X.size; omega⟩
 have hs := h.ok.put ok_new hp (by have := h.few; omega)
 refine ⟨hs, ?_, fun g => ?_⟩
 ·have h1 : (d.filter fun x => A20 x.1 P4).length ≤ 5 := Nat.le_trans (List.length_filter_le _ _) h.few
  have h2 : (d.filter (Bf9 (P4, X, (z : Int), ()))).length ≤ 5 := Nat.le_trans (List.length_filter_le _ _) h.few
  have h3 := hs.1
  unfold Cm0 Av2
  simp only [List.length_append, List.length_singleton]
  have : (d.filter fun x => A20 x.1 P4).length + (d.filter (Bf9 (P4, X, (z : Int), ()))).length ≤ 8 := by
   have h0 : d.filter (fun x => A20 x.1 P4) = [] := by
    apply List.filter_eq_nil_iff.2
    intro f hf
    obtain ⟨⟨c, hc⟩, _⟩ := h.ok.2.1 f hf
    show ¬ A20 f.1 P4 = true
    rw [hc, show P4 = nmC (⟨0, by decide⟩ : Fin 19).1 from rfl, A21]
    simp [rkC]
   rw [h0]; simp; omega
  omega
 ·rw [h.ok.put_mem (f := (P4, X, (z : Int), ())) ok_new]
  constructor
  ·rintro (a | ⟨a, _⟩)
   ·exact .inl a
   ·exact .inr a
  ·rintro (a | a)
   ·exact .inl a
   ·exact .inr ⟨a, h.no g a⟩
theorem Base.re {d : List B1} (h : Base d) {X Y : ByteArray} {z y : Nat} (hX : X.size ≤ 20000) (hz : z ≤ X.size) (hY : Y.size ≤ 20000) (hy : y ≤ Y.size) : Av2 (Cm0 d X z) (P4, Y, (y : Int), ()) = Cm0 d Y y := by
 obtain ⟨b1, b2, b3⟩ := h.beg hX hz
 obtain ⟨c1, c2, c3⟩ := h.beg hY hy
 have hp : Cp5 (P4, Y, (y : Int), ()) := ⟨ok_new.size, hY, by show (0 : Int) ≤ y; omega, by show (y : Int) ≤ Y.size; omega⟩
 refine (b1.put ok_new hp b2).ext c1 fun g => ?_
 rw [b1.put_mem (f := (P4, Y, (y : Int), ())) ok_new, c3, b3]
 constructor
 ·rintro (a | ⟨a | a, b⟩)
  ·exact .inl a
  ·exact absurd (by rw [a]) b
  ·exact .inr a
 ·rintro (a | a)
  ·exact .inl a
  ·exact .inr ⟨.inr a, h.no g a⟩
theorem Di1 {d : List B1} (h : Base d) {T : ByteArray} (hT : T.size ≤ 20000) : ∀ (m a w : Nat), a ≤ T.size → ∃ b, a ≤ b ∧ b ≤ T.size ∧ Done (Cm0 d (T.extract 0 a) 0) ((O1 T m a).take w) (Cm0 d (T.extract 0 b) 0) ∧ (T.size ≤ a + 60 * m → (O1 T m a).length ≤ w → b = T.size)
 | 0, a, w, ha => ⟨a, Nat.le_refl _, ha, by unfold O1; rw [List.take_nil]; exact .nil, fun h _ => by omega⟩
 | m + 1, a, 0, ha => ⟨a, Nat.le_refl _, ha, .nil, fun _ h => by
  unfold O1 at h
  split at h
  ·simp at h
  ·omega⟩
 | m + 1, a, w + 1, ha => by
  unfold O1
  by_cases q : a < T.size
  ·rw [if_pos q]
   obtain ⟨b, b1, b2, b3, b4⟩ := Di1 h hT m (min (a + 60) T.size) w (by omega)
   have hsz : (T.extract 0 a).size = a := by rw [ByteArray.size_extract]; omega
   have hsz2 : (T.extract 0 (min (a + 60) T.size)).size = min (a + 60) T.size := by rw [ByteArray.size_extract]; omega
   have hj : T.extract 0 a ++ T.extract a (min (a + 60) T.size) = T.extract 0 (min (a + 60) T.size) := Hf9 T (by omega)
   obtain ⟨c1, c2, c3⟩ := h.beg (X := T.extract 0 a) (z := 0) (by omega) (Nat.zero_le _)
   have act := Ga7 c1 c2 (nm := P4) (T := T.extract 0 a) (X := T.extract a (min (a + 60) T.size)) (by rw [hj]; omega) ((c3 _).2 (.inl rfl))
   rw [hj] at act
   have e := h.re (X := T.extract 0 a) (Y := T.extract 0 (min (a + 60) T.size)) (z := 0) (y := 0) (by omega) (Nat.zero_le _) (by omega) (Nat.zero_le _)
   have e2 : Av2 (Cm0 d (T.extract 0 a) 0) (P4, T.extract 0 (min (a + 60) T.size), 0, ()) = Cm0 d (T.extract 0 (min (a + 60) T.size)) 0 := e
   rw [e2] at act
   by_cases q2 : a + 60 ≤ T.size
   ·rw [Nat.min_eq_left q2] at b1 b3 act b4
    exact ⟨b, by omega, b2, by rw [List.take_succ_cons, Nat.min_eq_left q2]; exact .cons act b3, fun h1 h2 => b4 (by omega) (by simp at h2; omega)⟩
   ·have hlast : O1 T m (a + 60) = [] := by
     cases m with
     | zero => rfl
     | succ m => unfold O1; rw [if_neg (by omega)]
    have em : min (a + 60) T.size = T.size := by omega
    refine ⟨T.size, by omega, Nat.le_refl _, ?_, fun _ _ => rfl⟩
    rw [hlast, List.take_succ_cons, List.take_nil, em]
    rw [em] at act
    exact .cons act .nil
  ·rw [if_neg q, List.take_nil]
   exact ⟨a, Nat.le_refl _, ha, .nil, fun _ _ => by omega⟩
theorem Ew3 {d : List B1} (h : Base d) {T : ByteArray} (hT : T.size ≤ 20000) (h0 : 0 < T.size) (m w : Nat) : (w = 0 ∧ Done d ((O1 T (m + 1) 0).take w) d) ∨ ∃ b, b ≤ T.size ∧ Done d ((O1 T (m + 1) 0).take w) (Cm0 d (T.extract 0 b) 0) ∧ (T.size ≤ 60 * (m + 1) → (O1 T (m + 1) 0).length ≤ w → b = T.size) := by
 cases w with
 | zero => exact .inl ⟨rfl, .nil⟩
 | succ w =>
  right
  unfold O1
  rw [if_pos h0]
  obtain ⟨b, b1, b2, b3, b4⟩ := Di1 h hT m (min (0 + 60) T.size) w (by omega)
  have hsz2 : (T.extract 0 (min (0 + 60) T.size)).size = min (0 + 60) T.size := by rw [ByteArray.size_extract]; omega
  have act := Fl0 h.ok (by have := h.few; omega) (nm := P4) (T := T.extract 0 (min (0 + 60) T.size)) ok_new (by omega) h.no
  have act' : Ev (fun k => b9 k (d, ()) (1, P4, T.extract 0 (min (0 + 60) T.size), ByteArray.empty, ())) ((Cm0 d (T.extract 0 (min (0 + 60) T.size)) 0, ()), true) := act
  by_cases q2 : 0 + 60 ≤ T.size
  ·rw [Nat.min_eq_left q2] at b1 b3 act' b4
   exact ⟨b, b2, by rw [List.take_succ_cons, Nat.min_eq_left q2]; exact .cons act' b3, fun h1 h2 => b4 (by omega) (by simp at h2; omega)⟩
  ·have hlast : O1 T m (0 + 60) = [] := by
    cases m with
    | zero => rfl
    | succ m => unfold O1; rw [if_neg (by omega)]
   have em : min (0 + 60) T.size = T.size := by omega
   refine ⟨T.size, Nat.le_refl _, ?_, fun _ _ => rfl⟩
   rw [hlast, List.take_succ_cons, List.take_nil, em]
   rw [em] at act'
   exact .cons act' .nil
structure DrawnS (d : List B1) (s : D8) (n : Nat) : Prop where
 base : Base d
 two : d.length ≤ 5
 good : ∀ f ∈ d, ∃ m t, GoodF f m t ∧ m ≤ 8
 ok : SnapP s
 num : s.1 = (n : Int)
 lo : 9 ≤ n
 hi : n ≤ 17
noncomputable abbrev Ew4 (s : D8) (n : Nat) : B1 := (nmS n, L8 (J4 s), ((L8 (J4 s)).size : Int), ())
theorem DrawnS.newGood {d : List B1} {s : D8} {n : Nat} (h : DrawnS d s n) : GoodF (Ew4 s n) n s := ⟨rfl, h.num, h.ok, h.hi⟩
theorem DrawnS.goodD {d : List B1} {s : D8} {n : Nat} (h : DrawnS d s n) : GoodD d := ⟨h.base.ok, fun f hf => by obtain ⟨m, t, g, _⟩ := h.good f hf; exact .inr ⟨m, t, g⟩⟩
theorem DrawnS.size {d : List B1} {s : D8} {n : Nat} (h : DrawnS d s n) : (L8 (J4 s)).size ≤ 13200 ∧ 0 < (L8 (J4 s)).size := by
 have := h.ok.small
 rw [Bg0]; omega
noncomputable def Ag3 (d : List B1) (s : D8) (n : Nat) : List I4 := O1 (L8 (J4 s)) 230 0 ++ ([(2, P4, ByteArray.empty, ByteArray.empty, ()), (3, P4, ByteArray.empty, nmS n, ())] ++ d.map Ah7)
theorem G21 {d : List B1} {s : D8} {n : Nat} (h : DrawnS d s n) : (Ag3 d s n).length ≤ 240 ∧ 3 ≤ (Ag3 d s n).length := by
 have h1 := Da2 (L8 (J4 s)) 230 0
 have h2 := h.two
 have h3 : 1 ≤ (O1 (L8 (J4 s)) 230 0).length := by
  unfold O1
  rw [if_pos h.size.2]; simp
 unfold Ag3
 simp only [List.length_append, List.length_map, List.length_cons, List.length_nil]
 omega
theorem G22 {d : List B1} {s : D8} {n : Nat} (h : DrawnS d s n) (w : Nat) : ∃ dw, Done d ((Ag3 d s n).take w) dw ∧ SnapD dw ∧
  ((w < (Ag3 d s n).length ∧ (dw = d ∨ ∃ X z, X.size ≤ 20000 ∧ z ≤ X.size ∧ dw = Cm0 d X z)) ∨ (Ew4 s n ∈ dw ∧ (∀ g ∈ dw, g = Ew4 s n ∨ g ∈ d) ∧ ((Ag3 d s n).length ≤ w → dw = [Ew4 s n]))) := by
 obtain ⟨z1, z2⟩ := h.size
 have hne : nmS n ≠ P4 := Gw5 h.hi
 obtain ⟨T, hTe⟩ : ∃ T, T = L8 (J4 s) := ⟨_, rfl⟩
 have hF : Ew4 s n = (nmS n, T, (T.size : Int), ()) := by rw [hTe]
 unfold Ag3
 rw [← hTe] at z1 z2 ⊢
 rw [hF]
 rw [List.take_append]
 have hcf := Ew3 h.base (T := T) (by omega) z2 229 w
 rw [show 229 + 1 = 230 from rfl] at hcf
 rcases hcf with ⟨rfl, hD⟩ | ⟨b, b1, hD, b2⟩
 ·refine ⟨d, ?_, h.base.ok, .inl ⟨by simp only [List.length_append, List.length_cons]; omega, .inl rfl⟩⟩
  rw [Nat.zero_sub, List.take_zero, List.take_zero]
  exact .nil
 ·by_cases q : w ≤ (O1 T 230 0).length
  ·rw [Nat.sub_eq_zero_of_le q, List.take_zero, List.append_nil]
   have hsz : (T.extract 0 b).size ≤ 20000 := by rw [ByteArray.size_extract]; omega
   exact ⟨_, hD, (h.base.beg hsz (Nat.zero_le _)).1, .inl ⟨by simp only [List.length_append, List.length_cons]; omega, .inr ⟨_, 0, hsz, Nat.zero_le _, rfl⟩⟩⟩
  ·have hb := b2 (by omega) (by omega)
   subst hb
   rw [Fl1] at hD
   obtain ⟨v, hv⟩ : ∃ v, w - (O1 T 230 0).length = v + 1 := ⟨w - (O1 T 230 0).length - 1, by omega⟩
   rw [hv]
   obtain ⟨c1, c2, c3⟩ := h.base.beg (X := T) (z := 0) (by omega) (Nat.zero_le _)
   obtain ⟨k1, k2, k3⟩ := h.base.beg (X := T) (z := T.size) (by omega) (Nat.le_refl _)
   have keep := Ga5 c1 c2 (nm := P4) (T := T) (z := ((0 : Nat) : Int)) ((c3 _).2 (.inl rfl))
   rw [h.base.re (X := T) (Y := T) (z := 0) (y := T.size) (by omega) (Nat.zero_le _) (by omega) (Nat.le_refl _)] at keep
   cases v with
   | zero =>
    exact ⟨_, hD.append (.cons keep .nil), k1, .inl ⟨by simp only [List.length_append, List.length_cons]; omega, .inr ⟨T, T.size, by omega, Nat.le_refl _, rfl⟩⟩⟩
   | succ v =>
    have move := Ga6 k1 k2 (nm := P4) (to := nmS n) (T := T) (Dh8 h.hi) hne ((k3 _).2 (.inl rfl))
    have hp : Cp5 (nmS n, T, (T.size : Int), ()) := ⟨(Dh8 h.hi).size, by show T.size ≤ 20000; omega, by show (0 : Int) ≤ T.size; omega, by show (T.size : Int) ≤ T.size; omega⟩
    have ab : (Cl9 (Cm0 d T T.size) P4).length ≤ 9 := Nat.le_trans (List.length_filter_le _ _) k2
    have e1 := (k1.off P4).put (f := (nmS n, T, (T.size : Int), ())) (Dh8 h.hi) hp ab
    have mem : ∀ g, g ∈ Av2 (Cl9 (Cm0 d T T.size) P4) (nmS n, T, (T.size : Int), ()) ↔ g = (nmS n, T, (T.size : Int), ()) ∨ g ∈ d := fun g => by
     rw [(k1.off P4).put_mem (f := (nmS n, T, (T.size : Int), ())) (Dh8 h.hi), Ew1, k3]
     constructor
     ·rintro (a | ⟨⟨a | a, b⟩, c⟩)
      ·exact .inl a
      ·exact absurd (by rw [a]) b
      ·exact .inr a
     ·rintro (a | a)
      ·exact .inl a
      ·refine .inr ⟨⟨.inr a, h.base.no g a⟩, fun e => ?_⟩
       obtain ⟨m, t, hg, hm⟩ := h.good g a
       have h1 := hg.numS
       rw [show g.1 = nmS n from e, Bm2 h.hi] at h1
       have := h.lo
       omega
    have htk : ([(2, P4, ByteArray.empty, ByteArray.empty, ()), (3, P4, ByteArray.empty, nmS n, ())] ++ d.map Ah7).take (v + 1 + 1) = (2, P4, ByteArray.empty, ByteArray.empty, ()) :: (3, P4, ByteArray.empty, nmS n, ()) :: ((d.take v).map Ah7) := by
     show (_ :: _ :: d.map Ah7).take (v + 2) = _
     rw [List.take_succ_cons, List.take_succ_cons, List.map_take]
    obtain ⟨d', a1, a2, a3⟩ := Cu8 (d.take v) e1 (fun f hf => (mem f).2 (.inr (List.mem_of_mem_take hf))) (h.base.ok.names.take)
    refine ⟨d', ?_, a2, .inr ⟨(a3 _).2 ⟨(mem _).2 (.inl rfl), fun f hf e => ?_⟩, fun g hg => (mem g).1 ((a3 g).1 hg).1, fun hw => ?_⟩⟩
    ·rw [htk]
     exact hD.append (.cons keep (.cons move a1))
    ·obtain ⟨m, t, hg, hm⟩ := h.good f (List.mem_of_mem_take hf)
     have h1 := hg.numS
     rw [← show nmS n = f.1 from e, Bm2 h.hi] at h1
     have := h.lo
     omega
    ·have hv2 : d.length ≤ v := by
      simp only [List.length_append, List.length_map, List.length_cons, List.length_nil] at hw
      omega
     rw [List.take_of_length_le hv2] at a3
     have one : SnapD [(nmS n, T, (T.size : Int), ())] := ⟨by simp, fun f hf => by rw [List.mem_singleton] at hf; subst hf; exact ⟨Dh8 h.hi, hp⟩, List.pairwise_singleton _ _⟩
     refine a2.ext one fun g => ?_
     rw [a3, mem, List.mem_singleton]
     constructor
     ·rintro ⟨a | a, b⟩
      ·exact a
      ·exact absurd rfl (b g a)
     ·rintro a
      refine ⟨.inl a, fun f hf e => ?_⟩
      obtain ⟨m, t, hg, hm⟩ := h.good f hf
      have h1 := hg.numS
      rw [← e, a, show ((nmS n, T, (T.size : Int), ()) : B1).1 = nmS n from rfl, Bm2 h.hi] at h1
      have := h.lo
      omega
end Go.Vm
end
section
namespace Go.Vm
open Go
structure DrawnD (d : List B1) (i : Nat) : Prop where
 ok : SnapD d
 len : 2 * d.length ≤ 5 * i
 good : ∀ f ∈ d, ∃ m t, GoodF f m t ∧ m ≤ 8
def Fl2 (r : B3 × D8) : Prop := ∃ n, DrawnS r.1.1 r.2 n
theorem Hg0 {f : B1} {m : Nat} {t : D8} (h : GoodF f m t) : f.1 ≠ P4 := by rw [h.file]; exact Gw5 h.le
theorem DrawnD.base {d : List B1} {i : Nat} (h : DrawnD d i) (hi : i ≤ 2) : Base d := ⟨h.ok, by have := h.len; omega, fun f hf => by obtain ⟨m, t, g, _⟩ := h.good f hf; exact Hg0 g⟩
theorem Hq1 (d : List B1) (f : B1) : (Av2 d f).length ≤ 2 * d.length + 1 := by
 unfold Av2
 have h1 : (d.filter fun x => A20 x.1 f.1).length ≤ d.length := List.length_filter_le _ _
 have h2 : (d.filter (Bf9 f)).length ≤ d.length := List.length_filter_le _ _
 simp only [List.length_append, List.length_singleton]
 omega
theorem DrawnD.put {d : List B1} {i m : Nat} {s : D8} (h : DrawnD d i) (hi : i ≤ 1) (hs : SnapP s) (hn : s.1 = (m : Int)) (hm : m ≤ 8) : DrawnD (Av2 d (nmS m, L8 (J4 s), ((L8 (J4 s)).size : Int), ())) (i + 1) := by
 have hz := hs.small
 have hsz : (L8 (J4 s)).size ≤ 20000 := by rw [Bg0]; omega
 have hp : Cp5 (nmS m, L8 (J4 s), ((L8 (J4 s)).size : Int), ()) := ⟨(Dh8 (by omega)).size, hsz, by show (0 : Int) ≤ ((L8 (J4 s)).size : Int); omega, by show ((L8 (J4 s)).size : Int) ≤ (L8 (J4 s)).size; omega⟩
 have hl := h.len
 refine ⟨h.ok.put (Dh8 (by omega)) hp (by omega), ?_, fun f hf => ?_⟩
 ·have := Hq1 d (nmS m, L8 (J4 s), ((L8 (J4 s)).size : Int), ())
  have hi2 : i = 0 ∨ i = 1 := by omega
  rcases hi2 with rfl | rfl
  ·omega
  ·omega
 ·rcases (h.ok.put_mem (f := (nmS m, L8 (J4 s), ((L8 (J4 s)).size : Int), ())) (Dh8 (by omega))).1 hf with e | ⟨e, _⟩
  ·exact ⟨m, s, ⟨e, hn, hs, by omega⟩, hm⟩
  ·exact h.good f e
theorem Hg1 (s : Nat × B0 × List B1) (hs : s.1 ≤ 2 ∧ CurOk s.2.1 ∧ DrawnD s.2.2 s.1) :
  Re (fun x : Nat × Nat => M0 x.1 x.2 (s.1 : Int) s.2.1.1 s.2.1.2.1 s.2.1.2.2.1 s.2.2) Fl2 := by
 refine Re.loop (ι := Nat) (l := fun k q (s : Nat × B0 × List B1) => M0 k q (s.1 : Int) s.2.1.1 s.2.1.2.1 s.2.1.2.2.1 s.2.2) (I := fun s => s.1 ≤ 2 ∧ CurOk s.2.1 ∧ DrawnD s.2.2 s.1) (fun s => 2 - s.1) (Q := fun _ => Fl2) (fun s hi ih => ?_) s hs
 obtain ⟨i, c, d⟩ := s
 obtain ⟨i1, i2, hD⟩ := hi
 simp only at i1 i2 hD ih ⊢
 simp only [M0, Ag4]
 have ei : B4 ((i : Int) + 1) = ((i + 1 : Nat) : Int) := by rw [D7 (by omega) (by omega)]; rfl
 refine Re.b2 (N2 _ 3 i2.eta) fun r1 h1 => ?_
 obtain ⟨⟨a1, a2⟩, c1⟩ := h1
 refine Re.brd (fun q => ?_) (fun q => ?_)
 ·refine Re.b2 (Dy0 _ c1 6 (by omega)) fun r2 h2 => ?_
  obtain ⟨⟨h21, h22⟩, c2⟩ := h2
  refine Re.b2 (Dh1 h21 (by omega)) fun r3 h3 => ?_
  refine Re.b2 (N2 _ 9 c2) fun r4 h4 => ?_
  obtain ⟨⟨b1, b2⟩, c4⟩ := h4
  refine Re.b2 (N2 _ 5 c4) fun r5 h5 => ?_
  obtain ⟨⟨d1, d2⟩, c5⟩ := h5
  refine Re.b2 (Gw2 _ c5) fun r6 h6 => ?_
  obtain ⟨f1, c6⟩ := h6
  have hP : SnapP (r4.1, r5.1, r6.1, r3.1, ()) := ⟨f1, ⟨b1, by show r4.1 ≤ 1000000; omega⟩, ⟨d1, by show r5.1 ≤ 100000; omega⟩, h3⟩
  obtain ⟨m, hm⟩ : ∃ m : Nat, r4.1 = m := ⟨r4.1.toNat, (Int.toNat_of_nonneg b1).symm⟩
  refine Re.c2 ((Cp7 (r4.1, r5.1, r6.1, r3.1, ()) (by have := f1.2.1; show r6.1.length ≤ 1048576; omega)).congr_val (fun k => rfl) hP.text) ?_
  have hN : Ev (fun k => Al1 k r4.1) (nmS m) := by rw [hm]; exact Eb0 (by omega)
  refine Re.c2 hN ?_
  have hl := hD.len
  refine Re.c2 (Dy7 d (nmS m, L8 (J4 (r4.1, r5.1, r6.1, r3.1, ())), ((L8 (J4 (r4.1, r5.1, r6.1, r3.1, ()))).size : Int), ()) (by omega)) ?_
  rw [ei]
  exact ih (i + 1, r6.2.1, _) ⟨by simp only; omega, c6, hD.put (by omega) hP hm (by omega)⟩ (by simp only; omega)
 ·refine Re.b2 (Dy0 _ c1 12 (by omega)) fun r2 h2 => ?_
  obtain ⟨⟨h21, h22⟩, c2⟩ := h2
  refine Re.b2 (Dh1 h21 (by omega)) fun r3 h3 => ?_
  refine Re.b2 (N2 _ 9 c2) fun r4 h4 => ?_
  obtain ⟨⟨b1, b2⟩, c4⟩ := h4
  refine Re.b2 (N2 _ 5 c4) fun r5 h5 => ?_
  obtain ⟨⟨d1, d2⟩, c5⟩ := h5
  refine Re.b2 (Gw2 _ c5) fun r6 h6 => ?_
  obtain ⟨f1, c6⟩ := h6
  have e9 : B4 (9 + r4.1) = 9 + r4.1 := D7 (by omega) (by omega)
  rw [e9]
  exact Re.ret ⟨(9 + r4.1).toNat, hD.base i1, by have := hD.len; show d.length ≤ 5; omega, hD.good, ⟨f1, ⟨by show 0 ≤ 9 + r4.1; omega, by show 9 + r4.1 ≤ 1000000; omega⟩, ⟨d1, by show r5.1 ≤ 100000; omega⟩, h3⟩, by show 9 + r4.1 = _; omega, by omega, by omega⟩
theorem Ew5 (a : List Int) (h : a.length ≤ 1048576) : Re (fun k => g6 k a) Fl2 := by
 refine Re.enter (f := fun k n => M1 k n a (B4 (13101 + (a.length : Int))) 0) C6 ?_
 have := Re.loop (ι := Nat) (l := fun k n (s : Int × Int) => M1 k n a s.1 s.2) (I := fun s => 0 ≤ s.2 ∧ s.2 ≤ a.length) (fun s => (a.length - s.2).toNat) (Q := fun _ => Fl2) (fun s hi ih => by
  obtain ⟨v1, v2⟩ := s
  simp only at hi
  simp only [M1, Ag5]
  have hcur : CurOk (a, 0, v1, ()) := ⟨Int.le_refl 0, by show (0 : Int) ≤ _; omega, h⟩
  have tail : Re (fun x : Nat × Nat => M0 x.1 x.2 0 a 0 v1 []) Fl2 := Hg1 (0, (a, 0, v1, ()), []) ⟨by simp, hcur, ⟨by simp, fun f hf => (by cases hf), List.Pairwise.nil⟩, by simp, fun f hf => by cases hf⟩
  refine Re.brd (fun h1 => ?_) (fun h1 => tail)
  refine Re.brd (fun h2 => ?_) (fun h2 => tail)
  have e : B4 (v2 + 1) = v2 + 1 := D7 (by omega) (by omega)
  refine Re.gdd hi.1 (Re.gdd h1 ?_)
  rw [e]
  exact ih (_, v2 + 1) (by simp only; omega) (by simp only; omega)) (B4 (13101 + (a.length : Int)), 0) ⟨Int.le_refl 0, by simp only; omega⟩
 exact this
end Go.Vm
end
section
namespace Go.Vm
open Go
theorem G23 (T : ByteArray) {a : Nat} (h : T.size ≤ a) : ∀ m, O1 T m a = []
 | 0 => rfl
 | m + 1 => by unfold O1; rw [if_neg (by omega)]
theorem Eb2 {d : List B1} {s : D8} {n : Nat} (h : DrawnS d s n) : Ev (fun k => Ab9 k (d, ()) s) (Ag3 d s n, true) := by
 have hT := (h.size).1
 have hl5 := h.two
 have hc := h.ok.1.2.1
 have hnum := h.num
 have hdk := h.base.ok.disk
 have hno : atF d P4 0 = -1 := Ew0 d P4 0 h.base.no
 obtain ⟨T, hTe⟩ : ∃ T, T = L8 (J4 s) := ⟨_, rfl⟩
 have hf : Ev (fun k => Bu6 k (d, ()) P4) false := by
  refine Re.eq (Re.c1 (Fk3 d P4 (by omega)).2 (Re.ret ?_))
  rw [hno]; rfl
 have goal : Ag3 d s n = (O1 T 230 0 ++ [(2, P4, ByteArray.empty, ByteArray.empty, ()), (3, P4, ByteArray.empty, nmS n, ())]) ++ d.map Ah7 := by
  unfold Ag3; rw [hTe, List.append_assoc]
 rw [goal]
 rw [← hTe] at hT
 have hc230 := Da2 T 230 0
 refine Re.eq ?_
 refine Re.c1 (v := (T, true)) ((Cp8 s (by omega)).congr_val (fun k => rfl) (by rw [h.ok.text, hTe])) ?_
 refine Re.br (b := false) (fun h => by cases h) (fun _ => Re.c1 (Dh6 d hdk) (Re.br (b := false) (fun h => by cases h) (fun _ => Re.c1 (v := false) hf (Re.br (b := false) (fun h => by cases h) (fun _ => ?_)))))
 have files : ∀ (C : List I4), C.length ≤ 240 → Re (fun x : Nat × Nat => u9 x.1 x.2 (nmS n) (d, ()) 0 C) (fun v => v = (C ++ d.map Ah7, true)) := fun C hC => by
  have := Re.loop (ι := Nat) (l := fun k q (i : Nat) => u9 k q (nmS n) (d, ()) (i : Int) (C ++ (d.take i).map Ah7)) (I := fun i => i ≤ d.length) (fun i => d.length - i) (Q := fun _ v => v = (C ++ d.map Ah7, true)) (fun i hi ih => by
   simp only [u9, Bo8, Int.toNat_natCast]
   refine Re.brd (fun q => ?_) (fun q => Re.ret (by rw [List.take_of_length_le (by omega)]))
   have hl : i < d.length := by omega
   have hm : rd A4 d i ∈ d := Az7 hl
   have hn := (h.base.ok.2.1 _ hm).1
   obtain ⟨m, t, hg, hm8⟩ := h.good _ hm
   have next := ih (i + 1) (by omega) (by omega)
   have et : d.take (i + 1) = d.take i ++ [rd A4 d i] := by rw [List.take_add_one, List.getElem?_eq_getElem hl, E8 hl]; rfl
   rw [et, List.map_append, ← List.append_assoc] at next
   rw [C9 hl (by omega)]
   refine Re.gdd (by omega) (Re.gdd q (Re.s2 (Dz1 hn ·) ?_))
   have hs := hg.numS
   refine Re.brd (fun _ => ?_) (fun z => absurd (by omega) z)
   rw [l6, decide_eq_false (fun e => by
    rw [e, Bm2 h.hi] at hs
    have := h.lo
    omega)]
   refine Re.br (b := true) (fun _ => Re.gdd ?_ next) (fun h => by cases h)
   simp only [List.length_append, List.length_map, List.length_take, List.length_singleton]
   unfold A3; omega) 0 (Nat.zero_le _)
  simpa using this
 refine Re.enter (f := fun k q => Z5 k q (T, true) 0 (d, ()) s []) C6 ?_
 have := Re.loop (ι := Nat) (l := fun k q (u : Nat × List I4) => Z5 k q (T, true) (u.1 : Int) (d, ()) s u.2) (I := fun u => ∃ m, u.2 ++ O1 T m u.1 = O1 T 230 0 ∧ T.size ≤ u.1 + 60 * m ∧ u.1 ≤ T.size + 60) (fun u => T.size + 60 - u.1) (Q := fun _ v => v = ((O1 T 230 0 ++ [(2, P4, ByteArray.empty, ByteArray.empty, ()), (3, P4, ByteArray.empty, nmS n, ())]) ++ d.map Ah7, true)) (fun u hi ih => by
  obtain ⟨a, xs⟩ := u
  obtain ⟨m, i1, i2, i3⟩ := hi
  simp only at i1 i2 i3 ih ⊢
  simp only [Z5, Bo9, Int.toNat_natCast]
  have hxs : xs.length ≤ 230 := by rw [← i1, List.length_append] at hc230; omega
  refine Re.brd (fun q => ?_) (fun q => ?_)
  ·have hq : a < T.size := by omega
   obtain ⟨m', rfl⟩ : ∃ z, m = z + 1 := ⟨m - 1, by omega⟩
   have e60 : B4 ((a : Int) + 60) = ((a + 60 : Nat) : Int) := by rw [D7 (by omega) (by omega)]; rfl
   have emin : (if ((a + 60 : Nat) : Int) < (T.size : Int) then ((a + 60 : Nat) : Int) else (T.size : Int)) = ((min (a + 60) T.size : Nat) : Int) := by
    split
    ·omega
    ·omega
   rw [e60, emin, Int.toNat_natCast]
   refine Re.gdd (by omega) (Re.gdd (by omega) (Re.gdd (by omega) (Re.gdd (by omega) (Re.gdd (by simp only [List.length_singleton]; unfold A3; omega) ?_))))
   refine ih (a + 60, _) ⟨m', ?_, by simp only; omega, by simp only; omega⟩ (by simp only; omega)
   rw [← i1]
   simp only
   rw [List.append_assoc]
   conv => rhs; unfold O1
   rw [if_pos hq]
   rfl
  ·have hx : xs = O1 T 230 0 := by rw [← i1, G23 T (by omega), List.append_nil]
   have hN : Ev (fun k => Ax1 k s.1) (nmS n) := by rw [hnum]; exact Eb1 h.hi
   refine Re.c2 hN (Re.gdd (by simp only [List.length_cons, List.length_nil]; unfold A3; omega) ?_)
   have := files (xs ++ [(2, P4, ByteArray.empty, ByteArray.empty, ()), (3, P4, ByteArray.empty, nmS n, ())]) (by simp; omega)
   rw [hx] at this
   rw [hx]
   exact this) (0, []) ⟨230, by simp, by simp only; omega, by simp⟩
 exact this
end Go.Vm
end
section
namespace Go.Vm
open Go
theorem Hg2 (a : List Int) (k : Nat) : Fh3 k a = some (decide ((a.length : Int) > 1048576)) := rfl
end Go.Vm
end
section
namespace Go.Vm
open Go
theorem Ga8 {d e : List B1} (h : Cq0 d e) : e.map (fun f : B1 => f.1) = d.map fun f : B1 => f.1 := by
 apply List.ext_getElem (by simp [h.1])
 intro i h1 h2
 have hd : i < d.length := by simpa using h2
 have he : i < e.length := by simpa using h1
 obtain ⟨n, _, _, hr⟩ := h.2 i hd
 have : (rd A4 e i).1 = (rd A4 d i).1 := by rw [hr]
 rw [E8 he, E8 hd] at this
 simpa using this
theorem G24 {d e : List B1} (hd : SnapD d) (h : Cq0 d e) : SnapD e := by
 refine ⟨by rw [h.1]; exact hd.1, fun f hf => ?_, ?_⟩
 ·obtain ⟨i, hi, rfl⟩ := List.getElem_of_mem hf
  have hdl : i < d.length := by rw [← h.1]; exact hi
  obtain ⟨n, n1, n2, hr⟩ := h.2 i hdl
  rw [E8 hi] at hr
  obtain ⟨o1, o2⟩ := hd.2.1 _ (Az7 (z := A4) hdl)
  have hsz : ((rd A4 d i).2.1.extract 0 n).size = n := by rw [ByteArray.size_extract]; omega
  rw [hr]
  refine ⟨o1, o1.size, ?_, ?_, ?_⟩
  ·show ((rd A4 d i).2.1.extract 0 n).size ≤ 20000
   have := o2.2.1
   omega
  ·show (0 : Int) ≤ (n : Int); omega
  ·show (n : Int) ≤ (((rd A4 d i).2.1.extract 0 n).size : Int); omega
 ·have h1 : (d.map fun f : B1 => f.1).Pairwise fun a b => A20 a b = true := List.pairwise_map.2 hd.2.2
  rw [← Ga8 h] at h1
  exact List.pairwise_map.1 h1
theorem Gw7 {d e : List B1} (h : Cq0 d e) {i : Nat} (hi : i < d.length) (hw : (rd A4 d i).2.2.1 = ((rd A4 d i).2.1.size : Int)) : rd A4 e i = rd A4 d i := by
 obtain ⟨n, n1, n2, hr⟩ := h.2 i hi
 have hn : n = (rd A4 d i).2.1.size := by omega
 rw [hr, hn, Fl1, ← hw]
theorem Fl3 {d e : List B1} (h : Cq0 d e) {f : B1} (hf : f ∈ d) (hw : f.2.2.1 = (f.2.1.size : Int)) : f ∈ e := by
 obtain ⟨i, hi, rfl⟩ := List.getElem_of_mem hf
 have := Gw7 h hi (by rw [E8 hi]; exact hw)
 rw [E8 hi] at this
 rw [← this]
 exact Az7 (by rw [h.1]; exact hi)
theorem Ep2 {d e : List B1} (h : Cq0 d e) {g : B1} (hg : g ∈ e) : ∃ f ∈ d, g.1 = f.1 ∧ (f.2.2.1 = (f.2.1.size : Int) → g = f) := by
 obtain ⟨i, hi, rfl⟩ := List.getElem_of_mem hg
 have hdl : i < d.length := by rw [← h.1]; exact hi
 refine ⟨_, Az7 (z := A4) hdl, ?_, fun hw => ?_⟩
 ·obtain ⟨n, _, _, hr⟩ := h.2 i hdl
  rw [← E8 hi (z := A4), hr]
 ·rw [← E8 hi (z := A4)]
  exact Gw7 h hdl hw
theorem GoodF.whole {f : B1} {n : Nat} {t : D8} (h : GoodF f n t) : f.2.2.1 = (f.2.1.size : Int) := by rw [h.file]
theorem Hg3 {d dw e : List B1} {s : D8} {n w : Nat} (h : DrawnS d s n) (hw : SnapD dw) (hl : Cq0 dw e)
  (hc : (w < (Ag3 d s n).length ∧ (dw = d ∨ ∃ X z, X.size ≤ 20000 ∧ z ≤ X.size ∧ dw = Cm0 d X z)) ∨ (Ew4 s n ∈ dw ∧ (∀ g ∈ dw, g = Ew4 s n ∨ g ∈ d) ∧ ((Ag3 d s n).length ≤ w → dw = [Ew4 s n]))) :
  GoodD e ∧ (J1 e = (s, true) ∨ J1 e = J1 d) := by
 have hse := G24 hw hl
 rcases hc with ⟨_, hc⟩ | ⟨c1, c2, _⟩
 ·have hin : (∀ f ∈ d, f ∈ dw) ∧ ∀ f ∈ dw, f.1 = P4 ∨ f ∈ d := by
   rcases hc with rfl | ⟨X, z, x1, x2, rfl⟩
   ·exact ⟨fun f hf => hf, fun f hf => .inr hf⟩
   ·obtain ⟨b1, b2, b3⟩ := h.base.beg x1 x2
    refine ⟨fun f hf => (b3 f).2 (.inr hf), fun f hf => ?_⟩
    rcases (b3 f).1 hf with e | e
    ·exact .inl (by rw [e])
    ·exact .inr e
  have hfe : ∀ g ∈ e, g.1 = P4 ∨ g ∈ d := fun g hg => by
   obtain ⟨f, f1, f2, f3⟩ := Ep2 hl hg
   rcases hin.2 f f1 with a | a
   ·exact .inl (by rw [f2, a])
   ·obtain ⟨m, t, hm, _⟩ := h.good f a
    exact .inr (by rw [f3 hm.whole]; exact a)
  have hG : GoodD e := ⟨hse, fun g hg => by
   rcases hfe g hg with a | a
   ·exact .inl a
   ·exact h.goodD.2 g a⟩
  refine ⟨hG, .inr ?_⟩
  cases hb : (J1 d).2 with
  | true =>
   obtain ⟨f, f1, f2, f3, f4, f5⟩ := Bv4 h.goodD hb
   obtain ⟨m, t, hm, _⟩ := h.good f f1
   have bi : ∀ g ∈ d, numS g.1 ≤ (m : Int) := fun g hg => by have := f5 g hg; rw [hm.numS] at this; exact this
   rw [Dq9 h.goodD f1 hm bi]
   refine Dq9 hG (Fl3 hl (hin.1 f f1) hm.whole) hm fun g hg => ?_
   rcases hfe g hg with a | a
   ·rw [a, numS_new]; omega
   ·exact bi g a
  | false =>
   obtain ⟨n1, n2⟩ := Ew2 h.goodD hb
   cases hb2 : (J1 e).2 with
   | false => rw [n1, (Ew2 hG hb2).1]
   | true =>
    exfalso
    obtain ⟨f, f1, f2, _⟩ := Bv4 hG hb2
    rcases hfe f f1 with a | a
    ·rw [a, numS_new] at f2; omega
    ·have := n2 f a; omega
 ·have hfe : ∀ g ∈ e, g = Ew4 s n ∨ g ∈ d := fun g hg => by
   obtain ⟨f, f1, f2, f3⟩ := Ep2 hl hg
   rcases c2 f f1 with a | a
   ·subst a; exact .inl (f3 h.newGood.whole)
   ·obtain ⟨m, t, hm, _⟩ := h.good f a
    exact .inr (by rw [f3 hm.whole]; exact a)
  have hG : GoodD e := ⟨hse, fun g hg => by
   rcases hfe g hg with a | a
   ·exact .inr ⟨n, s, by rw [a]; exact h.newGood⟩
   ·exact h.goodD.2 g a⟩
  refine ⟨hG, .inl (Dq9 hG (Fl3 hl c1 h.newGood.whole) h.newGood fun g hg => ?_)⟩
  rcases hfe g hg with a | a
  ·rw [a, h.newGood.numS]; omega
  ·obtain ⟨m, t, hm, h8⟩ := h.good g a
   rw [hm.numS]
   have := h.lo
   omega
theorem Hg4 {d : List B1} (h : GoodD d) : ((Bv5 d).map Ah7).length ≤ 10 := by
 rw [List.length_map]
 unfold Bv5
 split
 ·exact Nat.le_trans (List.length_filter_le _ _) h.1.1
 ·simp
theorem Cl1 {e : List B1} (h : GoodD e) : Re (fun k => bd (C4 k (e, ())) fun r9 => (bd (H0 k (e, ()) r9) fun r10 => (bd (D6 k r10.1) fun r11 => (bd (C4 k (e, ())) fun r12 => (br (r10.2 == (r12.length : Int)) (br (r11.2 == (J1 e).2) (some (r11.1.1 == (J1 e).1.1)) (some false)) (some false)))))) (fun r => r = true) := by
 obtain ⟨d', a1, a2, a3⟩ := G20 h
 have hl := Hg4 h
 have hd := h.1.1
 refine Re.c1 (Ep1 h) (Re.c1 (Gw4 (by omega) (by omega) a1) (Re.c1 (Di0 a2) (Re.c1 (Ep1 h) ?_)))
 rw [a3]
 refine Re.bre (fun _ => Re.br (fun _ => Re.ret ?_) (fun q => ?_)) (fun q => absurd rfl q)
 ·exact beq_self_eq_true _
 ·rw [beq_self_eq_true] at q; cases q
theorem Eb3 (a : List Int) : Ev (fun k => Af2 k a) true := by
 refine Re.eq (Re.s1 (Hg2 a) (Re.brd (fun _ => Re.ret rfl) (fun hl => ?_)))
 refine Re.b1 (Ew5 a (by omega)) fun r2 h2 => ?_
 obtain ⟨n, h⟩ := h2
 have hc := h.ok.1.2.1
 have hl5 := h.two
 have hlo := h.lo
 have hnum := h.num
 obtain ⟨q240, q3⟩ := G21 h
 have hdl : r2.1.1.length ≤ 1000000 := by omega
 have old : (J1 r2.1.1).2 = true → (J1 r2.1.1).1.1 ≤ 8 := fun hb => by
  obtain ⟨f, f1, f2, f3, f4, f5⟩ := Bv4 h.goodD hb
  obtain ⟨m, t, hm, h8⟩ := h.good f f1
  rw [f4, hm.numS]; omega
 refine Re.c1 (v := J1 r2.1.1) (Di0 h.goodD) ?_
 have walk : ∀ (F : Nat → D8 × Bool → B3 × Bool → Option Bool), (∀ e, GoodD e → (J1 e = (r2.2, true) ∨ J1 e = J1 r2.1.1) → Re (fun k => F k (J1 e) ((e, ()), true)) (fun r => r = true)) →
   Re (fun k => bd (Ab9 k r2.1 r2.2) fun r41 => (bd (X9 k a) fun r42 => (gd (decide (11 < (r42.length : Int))) (ng ((rd 0 r42 11) == (rd 0 r42 11) && ((B4 ((r41.1.length : Int) + 1)) : Int) == 0) (bd (Bl6 k r42) fun r43 => (bd (Am6 k r2.1 r41.1 (Int.tmod (rd 0 r42 11) (B4 ((r41.1.length : Int) + 1))) r43) fun r44 => (bd (U0 k r44.1) fun r45 => (br (!r41.2) (some false) (br (!r44.2) (some false) (br (decide ((r41.1.length : Int) < 3)) (some false) (F k r45 r44)))))))))))
    (fun r => r = true) := fun F hF => by
  refine Re.c1 (v := (Ag3 r2.1.1 r2.2 n, true)) (Eb2 h) ?_
  refine Re.b1 (Ea7 a (by omega)) fun r5 h5 => ?_
  obtain ⟨p1, p2⟩ := h5
  have hp11 : 0 ≤ rd 0 r5 11 ∧ rd 0 r5 11 < 10000 := p2 _ (by rw [E8 (show 11 < r5.length by omega)]; exact List.getElem_mem _)
  have em : B4 (((Ag3 r2.1.1 r2.2 n, true).1.length : Int) + 1) = (((Ag3 r2.1.1 r2.2 n).length + 1 : Nat) : Int) := by show B4 (((Ag3 r2.1.1 r2.2 n).length : Int) + 1) = _; rw [D7 (by omega) (by omega)]; rfl
  rw [em]
  obtain ⟨w, hwm⟩ : ∃ w : Nat, Int.tmod (rd 0 r5 11) (((Ag3 r2.1.1 r2.2 n).length + 1 : Nat) : Int) = (w : Int) := ⟨(Int.tmod (rd 0 r5 11) (((Ag3 r2.1.1 r2.2 n).length + 1 : Nat) : Int)).toNat, (Int.toNat_of_nonneg (Int.tmod_nonneg _ hp11.1)).symm⟩
  have hwl : w ≤ (Ag3 r2.1.1 r2.2 n).length := by
   have := Int.tmod_lt_of_pos (rd 0 r5 11) (show (0 : Int) < (((Ag3 r2.1.1 r2.2 n).length + 1 : Nat) : Int) by omega)
   omega
  rw [hwm]
  refine Re.gdd (by omega) (Re.ng (by rw [show (((((Ag3 r2.1.1 r2.2 n).length + 1 : Nat) : Int)) == 0) = false by simp; omega]; simp) ?_)
  refine Re.b1 (Hf4 r5 (by omega)) fun r6 _ => ?_
  obtain ⟨dw, c1, c2, c3⟩ := G22 h w
  refine Re.b1 (Ga1 hwl (by omega) hdl c1 c2.disk r6) fun r7 h7 => ?_
  obtain ⟨m1, m2⟩ := h7
  obtain ⟨g1, g2⟩ := Hg3 h c2 m2 c3
  obtain ⟨⟨e, u⟩, b⟩ := r7
  simp only at m1 g1 g2
  subst m1
  refine Re.c1 (v := J1 e) (Dh9 g1) ?_
  refine Re.br (b := false) (fun h => by cases h) (fun _ => Re.br (b := false) (fun h => by cases h) (fun _ => Re.brd (fun z => absurd z (by show ¬ ((Ag3 r2.1.1 r2.2 n).length : Int) < 3; omega)) (fun _ => ?_)))
  exact hF e g1 g2
 refine Re.br (fun h0 => Re.brd (fun z => absurd (old h0) (by rw [hnum] at z; omega)) (fun _ => walk _ fun e he hb => ?_)) (fun _ => walk _ fun e he hb => ?_)
 all_goals
  rcases hb with hbe | hbe
  ·refine Re.br (fun _ => Re.br (fun z => by rw [hbe] at z; cases z) (fun _ => ?_)) (fun _ => ?_)
   ·exact Re.br (fun _ => Re.bre (fun _ => Re.br (fun z => by rw [hbe] at z; simp at z) (fun _ => Cl1 he)) (fun z => absurd (by rw [hbe]) z)) (fun z => by rw [hbe] at z; cases z)
   ·exact Re.br (fun _ => Re.bre (fun _ => Re.br (fun z => by rw [hbe] at z; simp at z) (fun _ => Cl1 he)) (fun z => absurd (by rw [hbe]) z)) (fun z => by rw [hbe] at z; cases z)
  ·refine Re.br (fun h3 => Re.br (fun z => by rw [hbe, h3] at z; cases z) (fun _ => ?_)) (fun h3 => ?_)
   ·refine Re.br (fun _ => Re.bre (fun z => ?_) (fun _ => ?_)) (fun z => by rw [hbe, h3] at z; cases z)
    ·have := old h3
     rw [hbe, hnum] at z
     omega
    ·exact Re.br (fun _ => Re.bre (fun _ => Re.br (fun z => by rw [hbe] at z; simp at z) (fun _ => Cl1 he)) (fun z => absurd (by rw [hbe]) z)) (fun z => by rw [h3] at z; cases z)
   ·exact Re.br (fun z => by rw [hbe, h3] at z; cases z) (fun _ => Cl1 he)
end Go.Vm
end
