/- Plain laws. -/
import Derived.Test.YtcbpoomhabigeaaGreatDoorZj3
import Derived.KernelRfl
section
set_option linter.unusedVariables false
set_option linter.unusedSimpArgs false
namespace Go.Vm
open Go
theorem Gj6 (done : List ByteArray) (t : ByteArray) (r : List ByteArray) : rd ByteArray.empty (done ++ t :: r) done.length = t := by simp [rd]
theorem A05 (a b : List ByteArray) : (B5 a).size ≤ (B5 (a ++ b)).size := by rw [O8, C8]; omega
theorem C56 (all : List ByteArray) (X : Int) (hsz : (B5 all).size ≤ 20000) (hrec : ∀ t ∈ all, Bv7 t) : ∀ (rest : List JRec) (done : List ByteArray) (j : A0), all = done ++ rest.map JRec.bytes → 1 ≤ done.length → JChain j rest → LogP j.2.2.2.1 → (0 ≤ j.1 ∧ j.1 ≤ 999) →
  (∃ K, ∀ k, K ≤ k → ∀ n, rest.length < n → V5 k n ((B5 done).size : Int) (done.length : Int) (all, X) j.1 j.2.1 j.2.2.1 j.2.2.2.1.1 j.2.2.2.1.2.1 j.2.2.2.1.2.2.1 = some (Aj0 j rest, ((B5 all).size : Int), true)) ∧
  (∃ K, ∀ k, K ≤ k → ∀ n, rest.length < n → V6 k n ((B5 done).size : Int) (all, X) ((done.length - 1 : Nat) : Int) j.1 j.2.1 j.2.2.1 j.2.2.2.1.1 j.2.2.2.1.2.1 j.2.2.2.1.2.2.1 = some (Aj0 j rest, ((B5 all).size : Int), true))
 | [], done, j, hall, h1, _, _, _ => by
  rw [List.map_nil, List.append_nil] at hall
  subst hall
  refine ⟨⟨0, fun k _ n hn => ?_⟩, ⟨0, fun k _ n hn => ?_⟩⟩
  ·obtain ⟨n, rfl⟩ : ∃ m, n = m + 1 := ⟨n - 1, by simp at hn; omega⟩
   show br (decide ((all.length : Int) < (all.length : Int))) _ _ = _
   rw [decide_eq_false (by omega)]
   rfl
  ·obtain ⟨n, rfl⟩ : ∃ m, n = m + 1 := ⟨n - 1, by simp at hn; omega⟩
   show br (decide (((all.length - 1 : Nat) : Int) < ((all.length - 1 : Nat) : Int))) _ _ = _
   rw [decide_eq_false (by omega)]
   rfl
 | r :: rest, done, j, hall, h1, hc, hj, hn => by
  have hl := A96 all
  obtain ⟨ho, hf, hc2⟩ := hc
  obtain ⟨a1, a2⟩ := JRec.app_ok hj hf
  have hR := JRec.rec_ok ho
  have hR1 := hR.2
  have hFs := j3 r.bytes
  have hall1 : all = done ++ r.bytes :: rest.map JRec.bytes := by rw [hall, List.map_cons]
  have hall2 : all = (done ++ [r.bytes]) ++ rest.map JRec.bytes := by rw [hall1, List.append_assoc]; rfl
  have hlen : all.length = done.length + 1 + rest.length := by rw [hall1]; simp; omega
  have hpart : (B5 (done ++ [r.bytes])).size ≤ (B5 all).size := by rw [hall2]; exact A05 _ _
  have hsum : (B5 (done ++ [r.bytes])).size = (B5 done).size + (G4 r.bytes).size := by rw [O8, j4, C8]
  have hrd : rd ByteArray.empty all done.length = r.bytes := by rw [hall1]; exact Gj6 _ _ _
  obtain ⟨⟨K1, t1⟩, ⟨K2, t2⟩⟩ := D22 j r hj hn ho hf
  obtain ⟨K3, f1⟩ := Ah4 r.bytes hR
  obtain ⟨K4, f2⟩ := Ar1 r.bytes hR
  obtain ⟨⟨K5, g1⟩, ⟨K6, g2⟩⟩ := C56 all X hsz hrec rest (done ++ [r.bytes]) (r.app j) hall2 (by simp) hc2 a1 (by rw [a2]; exact hn)
  have e1 : B8 (((B5 done).size : Int) + ((G4 r.bytes).size : Int)) = ((B5 (done ++ [r.bytes])).size : Int) := by rw [hsum, C6 (by omega) (by omega)]; rfl
  have e2 : B8 ((done.length : Int) + 1) = ((done ++ [r.bytes]).length : Int) := by rw [C6 (by omega) (by omega)]; simp
  have e3 : B8 (((done.length - 1 : Nat) : Int) + 1) = (((done ++ [r.bytes]).length - 1 : Nat) : Int) := by rw [C6 (by omega) (by omega)]; simp; omega
  refine ⟨⟨max K1 (max K3 K5), fun k hk n hk2 => ?_⟩, ⟨max K2 (max K4 K6), fun k hk n hk2 => ?_⟩⟩
  ·obtain ⟨n, rfl⟩ : ∃ m, n = m + 1 := ⟨n - 1, by simp at hk2; omega⟩
   have q1 : Ab2 k (j.1, j.2.1, j.2.2.1, (j.2.2.2.1.1, j.2.2.2.1.2.1, j.2.2.2.1.2.2.1, ()), ()) r.bytes = some (true, r.app j, ()) := t1 k (by omega)
   have q2 : T2 k r.bytes = some (G4 r.bytes, true) := f1 k (by omega)
   have d1 : decide ((done.length : Int) < (all.length : Int)) = true := decide_eq_true (by omega)
   have d2 : decide ((done.length : Int) > 0) = true := decide_eq_true (by omega)
   have d3 : decide (0 ≤ (done.length : Int)) = true := decide_eq_true (Int.natCast_nonneg _)
   simp only [V5, Ap9, d1, d2, d3, br_true, gd_true, Int.toNat_natCast, hrd, q1, q2, bd_some, Bool.not_true, br_false, e1, e2]
   exact g1 k (by omega) n (by simp at hk2; omega)
  ·obtain ⟨n, rfl⟩ : ∃ m, n = m + 1 := ⟨n - 1, by simp at hk2; omega⟩
   have q1 : Bv0 k (j.1, j.2.1, j.2.2.1, (j.2.2.2.1.1, j.2.2.2.1.2.1, j.2.2.2.1.2.2.1, ()), ()) r.bytes = some (r.app j, true) := t2 k (by omega)
   have q2 : l9 k r.bytes = some (G4 r.bytes, true) := f2 k (by omega)
   have d1 : decide (((done.length - 1 : Nat) : Int) < ((all.length - 1 : Nat) : Int)) = true := decide_eq_true (by omega)
   have d3 : decide (0 ≤ ((done.length - 1 : Nat) : Int)) = true := decide_eq_true (Int.natCast_nonneg _)
   have hrd2 : rd ByteArray.empty all (1 + (done.length - 1)) = r.bytes := by rw [show 1 + (done.length - 1) = done.length by omega]; exact hrd
   simp only [V6, Aq4, d1, d3, br_true, gd_true, Int.toNat_natCast, hrd2, q1, q2, bd_some, Bool.not_true, br_false, e1, e3]
   exact g2 k (by omega) n (by simp at hk2; omega)
abbrev Ap5 (n start sterm : Int) : A0 := (n, 0, 0, (start, sterm, [], ()), ())
noncomputable def Bv9 (start sterm : Int) (rs : List JRec) : ByteArray := B5 (L3 66 start sterm :: rs.map JRec.bytes)
theorem Ge4 (n start sterm : Int) (rs : List JRec) (x : ByteArray) (hn : 0 ≤ n ∧ n ≤ 999) (h0 : LogP (start, sterm, [], ())) (hc : JChain (Ap5 n start sterm) rs) (hx : F01 x) (hsz : (Bv9 start sterm rs ++ x).size ≤ 20000) :
  Ev (fun k => p7 k n (Bv9 start sterm rs ++ x)) (Aj0 (Ap5 n start sterm) rs, ((Bv9 start sterm rs).size : Int), true) ∧
  Ev (fun k => N2 k n (Bv9 start sterm rs ++ x)) (Aj0 (Ap5 n start sterm) rs, ((Bv9 start sterm rs).size : Int), true) := by
 obtain ⟨s1, s2⟩ := h0.1
 obtain ⟨s3, s4⟩ := h0.2.1
 simp only at s1 s2 s3 s4
 have hB : Bv7 (L3 66 start sterm) := ⟨Db2 _ _ _, by have := B39 (c := 66) (a := start) (b := sterm) (by omega) (by omega); omega⟩
 obtain ⟨all, hall⟩ : ∃ all, all = L3 66 start sterm :: rs.map JRec.bytes := ⟨_, rfl⟩
 have hF : Bv9 start sterm rs = B5 all := by rw [hall]; rfl
 have hrec : ∀ t ∈ all, Bv7 t := fun t ht => by
  rw [hall] at ht
  rcases List.mem_cons.1 ht with rfl | ht
  ·exact hB
  ·obtain ⟨r, hr, rfl⟩ := List.mem_map.1 ht
   exact JRec.rec_ok (hc.recs r hr)
 rw [hF] at hsz ⊢
 have hU := E55 all x hrec hx hsz
 have hsz2 : (B5 all).size ≤ 20000 := by rw [C8] at hsz; omega
 have hl := A96 all
 have h2 := F04 66 start sterm (by decide) ⟨s1, by omega⟩ ⟨s3, by omega⟩
 have hlen : all.length = rs.length + 1 := by rw [hall]; simp
 have hne : (((all, ((B5 all).size : Int)) : List ByteArray × Int).1.length : Int) ≠ 0 := by show (all.length : Int) ≠ 0; omega
 have hhd : rd ByteArray.empty all 0 = L3 66 start sterm := by rw [hall]; rfl
 have hd1 : [L3 66 start sterm].length = 1 := rfl
 have hL : D19 (start, sterm, [], ()) := h0.small
 have hfs : (B5 [L3 66 start sterm]).size = (G4 (L3 66 start sterm)).size := by rw [j4]
 have hfle : (B5 [L3 66 start sterm]).size ≤ (B5 all).size := by rw [hall]; exact A05 [L3 66 start sterm] _
 obtain ⟨⟨K1, g1⟩, ⟨K2, g2⟩⟩ := C56 all ((B5 all).size : Int) hsz2 hrec rs [L3 66 start sterm] (Ap5 n start sterm) (by rw [hall]; rfl) (by simp) hc h0 hn
 constructor
 ·refine Re.eq (Re.c1 hU.1 (Re.s1 (I0 · _ _ _) ?_))
  rw [D6.2 hn]
  refine Re.bre (fun h => absurd h hne) (fun _ => Re.gdd (by show (0 : Int) < (all.length : Int); omega) ?_)
  refine Re.c1 (v := (start, sterm, true)) (h2.1.congr fun k => by show At9 k (rd ByteArray.empty all 0) (⟨#[66]⟩ : ByteArray) = _; rw [hhd, h66]) ?_
  refine Re.br (b := false) (fun h => by cases h) (fun _ => ?_)
  refine Re.c1 (A52 (start, sterm, [], ()) hL) ?_
  rw [M3.2 h0]
  refine Re.br (b := false) (fun h => by cases h) (fun _ => ?_)
  obtain ⟨K3, f1⟩ := Ah4 _ hB
  have e1 : B8 (0 + ((G4 (L3 66 start sterm)).size : Int)) = ((B5 [L3 66 start sterm]).size : Int) := by rw [hfs, C6 (by omega) (by omega)]; omega
  have e2 : B8 (0 + 1) = ((1 : Nat) : Int) := rfl
  have d0 : decide ((0 : Int) < (all.length : Int)) = true := decide_eq_true (by omega)
  have d1 : decide ((0 : Int) > 0) = false := rfl
  cases rs with
  | nil =>
   have hone : all = [L3 66 start sterm] := by rw [hall]; rfl
   refine ⟨_, rfl, K3 + 2, fun k hk => ?_⟩
   obtain ⟨k, rfl⟩ : ∃ m, k = m + 2 := ⟨k - 2, by have : K3 + 2 ≤ k := hk; omega⟩
   have hk : K3 + 2 ≤ k + 2 := hk
   have q : T2 (k + 2) (L3 66 start sterm) = some (G4 (L3 66 start sterm), true) := f1 _ (by omega)
   have d2 : decide (((1 : Nat) : Int) < (all.length : Int)) = false := decide_eq_false (by rw [hone]; simp)
   show J6 (k + 2) (k + 2) 0 0 (all, _) n (start, sterm, true) = _
   simp only [J6, Ab3, d0, d1, br_true, br_false, show decide ((0 : Int) ≤ 0) = true from rfl, gd_true, show (0 : Int).toNat = 0 from rfl, hhd, q, bd_some, e1, e2, d2]
   rw [hone]
   rfl
  | cons r rs =>
   obtain ⟨ho, hf, hc2⟩ := hc
   obtain ⟨a1, a2⟩ := JRec.app_ok h0 hf
   have hR := JRec.rec_ok ho
   have hall2 : all = [L3 66 start sterm, r.bytes] ++ rs.map JRec.bytes := by rw [hall]; rfl
   obtain ⟨⟨K4, g4⟩, _⟩ := C56 all ((B5 all).size : Int) hsz2 hrec rs [L3 66 start sterm, r.bytes] (r.app (Ap5 n start sterm)) hall2 (by simp) hc2 a1 (by rw [a2]; exact hn)
   obtain ⟨⟨K5, t5⟩, _⟩ := D22 (Ap5 n start sterm) r h0 hn ho hf
   obtain ⟨K6, f6⟩ := Ah4 r.bytes hR
   have hfle2 : (B5 [L3 66 start sterm, r.bytes]).size ≤ (B5 all).size := by rw [hall2]; exact A05 _ _
   have hsum : (B5 [L3 66 start sterm, r.bytes]).size = (B5 [L3 66 start sterm]).size + (G4 r.bytes).size := by
    rw [show [L3 66 start sterm, r.bytes] = [L3 66 start sterm] ++ [r.bytes] from rfl, O8, j4 r.bytes, C8]
   refine ⟨_, rfl, K3 + K4 + K5 + K6 + rs.length + 3, fun k hk => ?_⟩
   have hk : K3 + K4 + K5 + K6 + rs.length + 3 ≤ k := hk
   obtain ⟨k', hk'⟩ : ∃ m, k = m + 2 := ⟨k - 2, by omega⟩
   have q : T2 k (L3 66 start sterm) = some (G4 (L3 66 start sterm), true) := f1 _ (by omega)
   have q2 : T2 k r.bytes = some (G4 r.bytes, true) := f6 _ (by omega)
   have q3 : Ab2 k (n, 0, 0, (start, sterm, [], ()), ()) r.bytes = some (true, r.app (Ap5 n start sterm), ()) := t5 k (by omega)
   have d2 : decide (((1 : Nat) : Int) < (all.length : Int)) = true := decide_eq_true (by rw [hlen]; simp; omega)
   have hrd : rd ByteArray.empty all 1 = r.bytes := by rw [hall2]; rfl
   have e3 : B8 (((B5 [L3 66 start sterm]).size : Int) + ((G4 r.bytes).size : Int)) = ((B5 [L3 66 start sterm, r.bytes]).size : Int) := by rw [hsum, C6 (by omega) (by omega)]; rfl
   have e4 : B8 (((1 : Nat) : Int) + 1) = ((2 : Nat) : Int) := rfl
   have g4' := g4 k (by omega) k' (by omega)
   show J6 k k 0 0 (all, _) n (start, sterm, true) = _
   generalize hK : V5 k = L1 at g4'
   rw [show J6 k k = J6 k (k' + 2) by rw [← hk']]
   simp only [J6, Ab3, d0, d1, br_true, br_false, show decide ((0 : Int) ≤ 0) = true from rfl, gd_true, show (0 : Int).toNat = 0 from rfl, hhd, q, bd_some, e1, e2, d2, show decide (((1 : Nat) : Int) > 0) = true from rfl, show decide (0 ≤ ((1 : Nat) : Int)) = true from rfl, Int.toNat_natCast, hrd, q2, q3, Bool.not_true, e3, e4, hK]
   exact g4'
 ·refine Re.eq (Re.c1 hU.2 (Re.s1 (N0 · _ _ _) ?_))
  rw [D6.2 hn]
  refine Re.bre (fun h => absurd h hne) (fun _ => Re.gdd (by show (0 : Int) < (all.length : Int); omega) ?_)
  refine Re.c1 (v := (start, sterm, true)) (h2.2.congr fun k => by show Bu8 k (rd ByteArray.empty all 0) 66 = _; rw [hhd]) ?_
  refine Re.br (b := false) (fun h => by cases h) (fun _ => ?_)
  have hj0 : jOk (n, 0, 0, (start, sterm, [], ()), ()) = true := by
   unfold jOk
   simp only [Bool.and_eq_true]
   exact ⟨D6.2 hn, rfl, rfl, M3.2 h0⟩
  refine Re.c1 (Z8 (n, 0, 0, (start, sterm, [], ()), ()) hL) ?_
  rw [hj0]
  refine Re.br (b := false) (fun h => by cases h) (fun _ => Re.gdd (by show (0 : Int) < (all.length : Int); omega) ?_)
  refine Re.c1 (v := (G4 (L3 66 start sterm), true)) ((Ar1 _ hB).congr fun k => by show l9 k (rd ByteArray.empty all 0) = _; rw [hhd]) (Re.gdd (by show (1 : Int) ≤ (all.length : Int); omega) ?_)
  cases rs with
  | nil =>
   have hone : all = [L3 66 start sterm] := by rw [hall]; rfl
   refine ⟨_, rfl, 1, fun k hk => ?_⟩
   obtain ⟨k, rfl⟩ : ∃ m, k = m + 1 := ⟨k - 1, by have : 1 ≤ k := hk; omega⟩
   have d2 : decide ((0 : Int) < ((all.length - 1 : Nat) : Int)) = false := decide_eq_false (by rw [hone]; simp)
   show M0 (k + 1) (k + 1) (G4 (L3 66 start sterm), true) (all, _) n (start, sterm, true) = _
   simp only [M0, Ac1, d2, br_false]
   rw [hone, j4]
   rfl
  | cons r rs =>
   obtain ⟨ho, hf, hc2⟩ := hc
   obtain ⟨a1, a2⟩ := JRec.app_ok h0 hf
   have hR := JRec.rec_ok ho
   have hall2 : all = [L3 66 start sterm, r.bytes] ++ rs.map JRec.bytes := by rw [hall]; rfl
   obtain ⟨_, ⟨K4, g4⟩⟩ := C56 all ((B5 all).size : Int) hsz2 hrec rs [L3 66 start sterm, r.bytes] (r.app (Ap5 n start sterm)) hall2 (by simp) hc2 a1 (by rw [a2]; exact hn)
   obtain ⟨_, ⟨K5, t5⟩⟩ := D22 (Ap5 n start sterm) r h0 hn ho hf
   obtain ⟨K6, f6⟩ := Ar1 r.bytes hR
   have hfle2 : (B5 [L3 66 start sterm, r.bytes]).size ≤ (B5 all).size := by rw [hall2]; exact A05 _ _
   have hsum : (B5 [L3 66 start sterm, r.bytes]).size = (G4 (L3 66 start sterm)).size + (G4 r.bytes).size := by
    rw [show [L3 66 start sterm, r.bytes] = [L3 66 start sterm] ++ [r.bytes] from rfl, O8, j4 r.bytes, C8, hfs]
   refine ⟨_, rfl, K4 + K5 + K6 + rs.length + 3, fun k hk => ?_⟩
   have hk : K4 + K5 + K6 + rs.length + 3 ≤ k := hk
   obtain ⟨k', hk'⟩ : ∃ m, k = m + 1 := ⟨k - 1, by omega⟩
   have q2 : l9 k r.bytes = some (G4 r.bytes, true) := f6 _ (by omega)
   have q3 : Bv0 k (n, 0, 0, (start, sterm, [], ()), ()) r.bytes = some (r.app (Ap5 n start sterm), true) := t5 k (by omega)
   have d2 : decide ((0 : Int) < ((all.length - 1 : Nat) : Int)) = true := decide_eq_true (by rw [hlen]; simp)
   have hrd : rd ByteArray.empty all 1 = r.bytes := by rw [hall2]; rfl
   have e3 : B8 (((G4 (L3 66 start sterm)).size : Int) + ((G4 r.bytes).size : Int)) = ((B5 [L3 66 start sterm, r.bytes]).size : Int) := by rw [hsum, C6 (by omega) (by omega)]; rfl
   have g4' := g4 k (by omega) k' (by omega)
   show M0 k k (G4 (L3 66 start sterm), true) (all, _) n (start, sterm, true) = _
   generalize hK : V6 k = L1 at g4'
   rw [show M0 k k = M0 k (k' + 1) by rw [← hk']]
   simp only [M0, Ac1, d2, br_true, gd_true, hrd, q2, q3, bd_some, Bool.not_true, br_false, e3, hK]
   exact g4'
end Go.Vm
end
section
set_option linter.unusedVariables false
set_option linter.unusedSimpArgs false
namespace Go.Vm
open Go
def Cs8 (i : Int) : List A9 → List JRec
 | [] => []
 | e :: r => .ent i e :: Cs8 (i + 1) r
theorem Db4 : ∀ (p : Nat) (i : Int) (xs : List A9), (Cs8 i xs).take p = Cs8 i (xs.take p)
 | 0, _, _ => by simp [Cs8]
 | p + 1, i, [] => by simp [Cs8]
 | p + 1, i, e :: r => by simp only [Cs8, List.take_succ_cons, Db4 p]
def M4 (l : C4) (a : Nat) : List JRec := Cs8 (l.1 + 1 + a) (l.2.2.1.drop a)
theorem Bl8 {l : C4} {a : Nat} (h : a < l.2.2.1.length) : M4 l a = .ent (l.1 + 1 + a) (rd B2 l.2.2.1 a) :: M4 l (a + 1) := by
 unfold M4
 rw [List.drop_eq_getElem_cons h, Cs8, ← Ad6 h (z := B2)]
 congr 2
 omega
theorem A97 {l : C4} {a : Nat} (h : l.2.2.1.length ≤ a) : M4 l a = [] := by
 unfold M4
 rw [List.drop_eq_nil_of_le h]
 rfl
theorem Dw1 {i : Int} {e : A9} (ho : N4 e = true) (hi : i ≤ 1000000) : (G4 (Ac7 i e.1 e.2.1 e.2.2.1)).size ≤ 150 := by
 obtain ⟨k1, k2, k3⟩ := W3 ho
 have n1 : (E6 i).size ≤ 5 := D2 (by omega)
 have n2 : (E6 e.1).size ≤ 5 := D2 (by omega)
 have h := B40 i e.1 e.2.1 e.2.2.1
 have n3 : (E6 ((Ac7 i e.1 e.2.1 e.2.2.1).size : Int)).size ≤ 5 := D2 (by omega)
 rw [j3]; omega
theorem E56 {l : C4} (hl : LogP l) {a : Nat} (h : a < l.2.2.1.length) : N4 (rd B2 l.2.2.1 a) = true ∧ i6 (l.1 + 1 + a) 1 1000000 = true := by
 refine ⟨(hl.2.2.2.2 a h).1, D6.2 ⟨?_, ?_⟩⟩
 ·have := hl.1.1; omega
 ·have := hl.2.2.2.1; omega
theorem Cs9 (l : C4) (hl : LogP l) : ∀ (m a : Nat) (xs : List Int), a + m = l.2.2.1.length → xs.length ≤ 150 * a →
  (∃ K, ∀ k, K ≤ k → ∀ n, m < n → V9 k n (a : Int) l xs = some (B3 (xs ++ D5 (B5 ((M4 l a).map JRec.bytes))))) ∧
  (∃ K, ∀ k, K ≤ k → ∀ n, m < n → Q4 k n (a : Int) l xs = some (B3 (xs ++ D5 (B5 ((M4 l a).map JRec.bytes)))))
 | 0, a, xs, hm, _ => by
  have he : M4 l a = [] := A97 (by omega)
  have hz : B3 (xs ++ D5 (B5 (([] : List JRec).map JRec.bytes))) = B3 xs := by
   show B3 (xs ++ D5 (⟨#[]⟩ : ByteArray)) = _
   rw [show D5 (⟨#[]⟩ : ByteArray) = [] from rfl, List.append_nil]
  rw [he, hz]
  have d : decide ((a : Int) < (l.2.2.1.length : Int)) = false := decide_eq_false (by omega)
  refine ⟨⟨0, fun k _ n hn => ?_⟩, ⟨0, fun k _ n hn => ?_⟩⟩
  ·obtain ⟨n, rfl⟩ : ∃ q, n = q + 1 := ⟨n - 1, by omega⟩
   simp only [V9, Ak5, d, br_false]
  ·obtain ⟨n, rfl⟩ : ∃ q, n = q + 1 := ⟨n - 1, by omega⟩
   simp only [Q4, Ac0, d, br_false]
 | m + 1, a, xs, hm, hx => by
  have ha : a < l.2.2.1.length := by omega
  have h60 := hl.2.2.1
  have hl1 := hl.1
  have hl3 := hl.2.2.2.1
  obtain ⟨ho, hi⟩ := E56 hl ha
  have hi2 := D6.1 hi
  obtain ⟨e, he⟩ : ∃ e, e = rd B2 l.2.2.1 a := ⟨_, rfl⟩
  rw [← he] at ho
  have hsm := Dw1 ho hi2.2
  have hd := (W3 ho).2.2
  have hT : A95 (l.1 + 1 + a) e = (Ac7 (l.1 + 1 + a) e.1 e.2.1 e.2.2.1, true) := by unfold A95; rw [ho, hi]; rfl
  have hR : Bv7 (Ac7 (l.1 + 1 + a) e.1 e.2.1 e.2.2.1) := JRec.rec_ok (r := .ent (l.1 + 1 + a) e) ⟨ho, hi⟩
  obtain ⟨K1, h1⟩ := Bv8 (l.1 + 1 + a) e (by omega)
  obtain ⟨K2, h2⟩ := Da9 (l.1 + 1 + a) e (by omega)
  obtain ⟨K3, h3⟩ := Ah4 _ hR
  obtain ⟨K4, h4⟩ := Ar1 _ hR
  obtain ⟨B, hB⟩ : ∃ B, B = Ac7 (l.1 + 1 + a) e.1 e.2.1 e.2.2.1 := ⟨_, rfl⟩
  rw [hT] at h1 h2
  rw [← hB] at h1 h2 h3 h4 hsm
  have hlen : (xs ++ D5 (G4 B)).length ≤ 150 * (a + 1) := by rw [List.length_append, F7]; omega
  obtain ⟨⟨K5, h5⟩, ⟨K6, h6⟩⟩ := Cs9 l hl m (a + 1) (xs ++ D5 (G4 B)) (by omega) hlen
  have hout : xs ++ D5 (B5 ((M4 l a).map JRec.bytes)) = (xs ++ D5 (G4 B)) ++ D5 (B5 ((M4 l (a + 1)).map JRec.bytes)) := by
   rw [Bl8 ha, List.map_cons, B5, V2, List.append_assoc, ← he]
   show xs ++ (D5 (G4 (Ac7 (l.1 + 1 + a) e.1 e.2.1 e.2.2.1)) ++ _) = _
   rw [← hB]
  rw [hout]
  have d : decide ((a : Int) < (l.2.2.1.length : Int)) = true := decide_eq_true (by omega)
  have d0 : decide (0 ≤ (a : Int)) = true := decide_eq_true (Int.natCast_nonneg _)
  have z1 : B8 (l.1 + 1) = l.1 + 1 := C6 (by omega) (by omega)
  have z2 : B8 (l.1 + 1 + (a : Int)) = l.1 + 1 + a := C6 (by omega) (by omega)
  have z3 : B8 (l.1 + (a : Int)) = l.1 + a := C6 (by omega) (by omega)
  have z4 : B8 (l.1 + (a : Int) + 1) = l.1 + 1 + a := by rw [C6 (by omega) (by omega)]; omega
  have z5 : B8 ((a : Int) + 1) = ((a + 1 : Nat) : Int) := by rw [C6 (by omega) (by omega)]; rfl
  have z6 : decide (xs.length + (D5 (G4 B)).length ≤ A2) = true := decide_eq_true (by rw [F7]; unfold A2; omega)
  refine ⟨⟨K1 + K3 + K5, fun k hk n hn => ?_⟩, ⟨K2 + K4 + K6, fun k hk n hn => ?_⟩⟩
  ·obtain ⟨n, rfl⟩ : ∃ q, n = q + 1 := ⟨n - 1, by omega⟩
   have q1 : i8 k (l.1 + 1 + a) e = some (B, true) := h1 k (by omega)
   have q2 : T2 k B = some (G4 B, true) := h3 k (by omega)
   have q3 := h5 k (by omega) n (by omega)
   simp only [V9, Ak5, d, d0, br_true, gd_true, z1, z2, Int.toNat_natCast, ← he, q1, q2, bd_some, z5, z6]
   exact q3
  ·obtain ⟨n, rfl⟩ : ∃ q, n = q + 1 := ⟨n - 1, by omega⟩
   have q1 : Ai8 k (l.1 + 1 + a) e = some (B, true) := h2 k (by omega)
   have q2 : l9 k B = some (G4 B, true) := h4 k (by omega)
   have q3 := h6 k (by omega) n (by omega)
   simp only [Q4, Ac0, d, d0, br_true, gd_true, z3, z4, Int.toNat_natCast, ← he, q1, q2, bd_some, z5, z6]
   exact q3
noncomputable def Cf5 (l : C4) (a : Nat) : ByteArray := B5 ((M4 l a).map JRec.bytes)
theorem Ar2 (l : C4) (hl : LogP l) : ∀ (m a : Nat), a + m = l.2.2.1.length → (Cf5 l a).size ≤ 150 * m
 | 0, a, h => by unfold Cf5; rw [A97 (by omega)]; exact Nat.zero_le _
 | m + 1, a, h => by
  have ha : a < l.2.2.1.length := by omega
  obtain ⟨ho, hi⟩ := E56 hl ha
  have h1 := Dw1 ho (D6.1 hi).2
  have h2 := Ar2 l hl m (a + 1) (by omega)
  unfold Cf5 at h2 ⊢
  rw [Bl8 ha, List.map_cons, B5, C8]
  have : (G4 (JRec.bytes (.ent (l.1 + 1 + a) (rd B2 l.2.2.1 a)))).size ≤ 150 := h1
  omega
theorem Cm0 (l : C4) (hl : LogP l) (a : Nat) (ha : a ≤ l.2.2.1.length) : Ev (fun k => F6 k l (a : Int)) (Cf5 l a) ∧ Ev (fun k => G2 k l (a : Int)) (Cf5 l a) := by
 obtain ⟨⟨K1, h1⟩, ⟨K2, h2⟩⟩ := Cs9 l hl (l.2.2.1.length - a) a [] (by omega) (by simp)
 have e : B3 ([] ++ D5 (B5 ((M4 l a).map JRec.bytes))) = Cf5 l a := by rw [List.nil_append, Z6]; rfl
 rw [e] at h1 h2
 exact ⟨⟨max K1 (l.2.2.1.length - a + 1), fun k hk => h1 k (by omega) k (by omega)⟩, ⟨max K2 (l.2.2.1.length - a + 1), fun k hk => h2 k (by omega) k (by omega)⟩⟩
noncomputable def Ct0 (t v : Int) : ByteArray := G4 (L3 72 t v)
theorem Ac8 {c a b : Int} (ha : 0 ≤ a ∧ a ≤ 1000000) (hb : 0 ≤ b ∧ b ≤ 1000000) : Bv7 (L3 c a b) ∧ (G4 (L3 c a b)).size ≤ 20 := by
 have h := B39 (c := c) (a := a) (b := b) (by omega) (by omega)
 have n : (E6 ((L3 c a b).size : Int)).size ≤ 5 := D2 (by omega)
 exact ⟨⟨Db2 _ _ _, by omega⟩, by rw [j3]; omega⟩
theorem Dw2 {t v : Int} (ht : 0 ≤ t ∧ t ≤ 1000000) (hv : 0 ≤ v ∧ v ≤ 1000000) : Ev (fun k => L9 k t v) (Ct0 t v) := by
 have n1 : (E6 t).size ≤ 5 := D2 (by omega)
 have n2 : (E6 v).size ≤ 5 := D2 (by omega)
 obtain ⟨h1, h2⟩ := Ac8 (c := 72) ht hv
 refine Re.eq (Re.c1 (H2 t ht.1 (by omega)) (Re.gdd (by simp only [Gb2, J8]; unfold A2; omega) (Re.c1 (H2 v hv.1 (by omega)) (Re.gdd (by simp only [Gb2, C8, J8]; unfold A2; omega) ?_))))
 have e : (⟨#[72]⟩ : ByteArray) ++ E6 t ++ E6 v = L3 72 t v := by rw [Gb2]; unfold L3; rw [ByteArray.append_assoc]
 exact Re.c1 (v := (G4 (L3 72 t v), true)) ((Ah4 _ h1).congr fun k => congrArg (T2 k) e) (Re.ret rfl)
theorem Cm1 (c : ByteArray) (n a b : Int) (hc : c = I1 n) (ha : 0 ≤ a ∧ a ≤ 1000000) (hb : 0 ≤ b ∧ b ≤ 1000000) : Ev (fun k => J7 k c a b) (G4 (L3 n a b)) := by
 subst hc
 have n1 : (E6 a).size ≤ 5 := D2 (by omega)
 have n2 : (E6 b).size ≤ 5 := D2 (by omega)
 obtain ⟨h1, h2⟩ := Ac8 (c := n) ha hb
 have hv := Dv6 [a, b] (by simp) (fun n hn => by simp at hn; rcases hn with rfl | rfl <;> omega)
 have e1 : Bj6 [a, b] = E6 a ++ E6 b := by
  rw [Cl7]
  show E6 a ++ (E6 b ++ (⟨#[]⟩ : ByteArray)) = _
  rw [show E6 b ++ (⟨#[]⟩ : ByteArray) = E6 b from ByteArray.append_empty]
 rw [e1] at hv
 refine Re.eq (Re.c1 hv (Re.gdd (by simp only [C8, J8]; unfold A2; omega) ?_))
 exact Re.c1 (v := (G4 (L3 n a b), true)) (Ar1 _ h1) (Re.ret rfl)
noncomputable def t7 (j : A0) : ByteArray := Bv9 j.2.2.2.1.1 j.2.2.2.1.2.1 (.hard j.2.1 j.2.2.1 :: M4 j.2.2.2.1 0)
theorem Bw0 (j : A0) : t7 j = G4 (L3 66 j.2.2.2.1.1 j.2.2.2.1.2.1) ++ Ct0 j.2.1 j.2.2.1 ++ Cf5 j.2.2.2.1 0 := by
 rw [ByteArray.append_assoc]
 rfl
theorem P3 {j : A0} (h : jOk j = true) : (0 ≤ j.1 ∧ j.1 ≤ 999) ∧ (0 ≤ j.2.1 ∧ j.2.1 ≤ 100000) ∧ (0 ≤ j.2.2.1 ∧ j.2.2.1 ≤ 4) ∧ LogP j.2.2.2.1 := by
 unfold jOk at h
 simp only [Bool.and_eq_true] at h
 exact ⟨D6.1 h.1, D6.1 h.2.1, D6.1 h.2.2.1, M3.1 h.2.2.2⟩
theorem Db5 {j : A0} (h : jOk j = true) : (t7 j).size ≤ 40 + 150 * j.2.2.2.1.2.2.1.length := by
 obtain ⟨h1, h2, h3, h4⟩ := P3 h
 have s1 := (Ac8 (c := 66) h4.1 ⟨h4.2.1.1, by have := h4.2.1.2; omega⟩).2
 have s2 := (Ac8 (c := 72) (a := j.2.1) (b := j.2.2.1) ⟨h2.1, by omega⟩ ⟨h3.1, by omega⟩).2
 have s3 := Ar2 _ h4 _ 0 (Nat.zero_add _)
 rw [Bw0, C8, C8]
 unfold Ct0
 omega
theorem Cf6 {j : A0} (h : jOk j = true) : Ev (fun k => p8 k j) (t7 j, true) ∧ Ev (fun k => q7 k j) (t7 j, true) := by
 obtain ⟨h1, h2, h3, h4⟩ := P3 h
 have hsz := Db5 h
 have h60 := h4.2.2.1
 have hst := h4.1
 have hsm := h4.2.1
 have hT2 : j.2.2.2.1.2.1 ≤ 1000000 := by omega
 obtain ⟨r1, r2⟩ := Ac8 (c := 66) h4.1 (⟨hsm.1, hT2⟩ : 0 ≤ j.2.2.2.1.2.1 ∧ j.2.2.2.1.2.1 ≤ 1000000)
 have s2 := (Ac8 (c := 72) (a := j.2.1) (b := j.2.2.1) ⟨h2.1, by omega⟩ ⟨h3.1, by omega⟩).2
 have s3 := Ar2 _ h4 _ 0 (Nat.zero_add _)
 have n1 : (E6 j.2.2.2.1.1).size ≤ 5 := D2 (by omega)
 have n2 : (E6 j.2.2.2.1.2.1).size ≤ 5 := D2 (by omega)
 have hF := Cm0 _ h4 0 (Nat.zero_le _)
 have hh : (Ct0 j.2.1 j.2.2.1).size ≤ 20 := s2
 have hlast : ∀ {f : Nat → Option (ByteArray × Bool)}, Re (fun k => br (decide (((t7 j).size : Int) > 20000)) (f k) (some (t7 j, true))) (fun r => r = (t7 j, true)) := fun {f} => by
  rw [decide_eq_false (by omega)]
  exact Re.ret rfl
 constructor
 ·refine Re.eq (Re.c1 (A53 j h4.small) ?_)
  rw [h]
  refine Re.br (b := false) (fun h => by cases h) (fun _ => ?_)
  refine Re.c1 (H2 _ hst.1 (by omega)) (Re.gdd (by simp only [h66, J8]; unfold A2; omega) (Re.c1 (H2 _ hsm.1 (by omega)) (Re.gdd (by simp only [h66, C8, J8]; unfold A2; omega) ?_)))
  have e : (⟨#[66]⟩ : ByteArray) ++ E6 j.2.2.2.1.1 ++ E6 j.2.2.2.1.2.1 = L3 66 j.2.2.2.1.1 j.2.2.2.1.2.1 := by rw [h66]; unfold L3; rw [ByteArray.append_assoc]
  refine Re.c1 (v := (G4 (L3 66 j.2.2.2.1.1 j.2.2.2.1.2.1), true)) ((Ah4 _ r1).congr fun k => congrArg (T2 k) e) ?_
  refine Re.c1 (Dw2 ⟨h2.1, by omega⟩ ⟨h3.1, by omega⟩) (Re.gdd (by simp only; unfold A2; omega) (Re.c1 hF.1 (Re.gdd (by simp only [C8]; unfold A2; omega) ?_)))
  have := @hlast fun _ => some ((⟨#[]⟩ : ByteArray), false)
  rw [Bw0] at this
  rw [Bw0]
  exact this
 ·refine Re.eq (Re.c1 (Z8 j h4.small) ?_)
  rw [h]
  refine Re.br (b := false) (fun h => by cases h) (fun _ => ?_)
  refine Re.c1 (Cm1 _ 66 _ _ h66 hst ⟨hsm.1, hT2⟩) (Re.c1 (Cm1 _ 72 _ _ Gb2 ⟨h2.1, by omega⟩ ⟨h3.1, by omega⟩) (Re.gdd (by unfold Ct0 at hh; unfold A2; omega) (Re.c1 hF.2 (Re.gdd (by simp only [C8]; unfold Ct0 at hh; unfold A2; omega) ?_))))
  have := @hlast fun _ => some ((⟨#[]⟩ : ByteArray), false)
  rw [Bw0] at this
  rw [Bw0]
  exact this
theorem Ca1 (s t : Int) (xs : List A9) (m i : Nat) (h : i ≤ m) (hm : i ≤ xs.length) : M6 (s, t, xs.take m, ()) i = M6 (s, t, xs, ()) i := by
 unfold M6
 by_cases h0 : i = 0
 ·rw [if_pos h0, if_pos h0]
 ·rw [if_neg h0, if_neg h0]
  have : rd B2 (xs.take m) (i - 1) = rd B2 xs (i - 1) := by
   have hlt : i - 1 < m := by omega
   simp [rd, List.getElem?_take, hlt]
  show (rd B2 (xs.take m) (i - 1)).1 = _
  rw [this]
theorem LogP.take {l : C4} (h : LogP l) (m : Nat) : LogP (l.1, l.2.1, l.2.2.1.take m, ()) := by
 obtain ⟨h1, h2, h3, h4, h5⟩ := h
 refine ⟨h1, h2, by simp only [List.length_take]; omega, by simp only [List.length_take]; omega, fun i hi => ?_⟩
 simp only [List.length_take] at hi
 have hi2 : i < l.2.2.1.length := by omega
 obtain ⟨k1, k2⟩ := h5 i hi2
 have e : rd B2 (l.2.2.1.take m) i = rd B2 l.2.2.1 i := by
  have hlt : i < m := by omega
  simp [rd, List.getElem?_take, hlt]
 rw [Ca1 _ _ _ _ _ (by omega) (by omega)]
 simp only [e]
 exact ⟨k1, k2⟩
theorem Z9 {α : Type} {d : α} {xs ys : List α} {a : Nat} (ha : a < ys.length) (h : xs.take a = ys.take a) : xs.take a ++ [rd d ys a] = ys.take (a + 1) := by
 rw [h, Ad6 ha, List.take_add_one, List.getElem?_eq_getElem ha]
 rfl
theorem Ca2 (l : C4) (hl : LogP l) : ∀ (m a : Nat) (j : A0), a + m = l.2.2.1.length → LogP j.2.2.2.1 → j.2.2.2.1.1 = l.1 → j.2.2.2.1.2.1 = l.2.1 → a ≤ j.2.2.2.1.2.2.1.length → j.2.2.2.1.2.2.1.take a = l.2.2.1.take a → (m = 0 → j.2.2.2.1.2.2.1.length = a) →
  JChain j (M4 l a) ∧ Aj0 j (M4 l a) = (j.1, j.2.1, j.2.2.1, l, ())
 | 0, a, j, hm, hj, h1, h2, h3, h4, h5 => by
  rw [A97 (by omega)]
  refine ⟨trivial, ?_⟩
  have e : j.2.2.2.1.2.2.1 = l.2.2.1 := by
   have h6 := h5 rfl
   rw [List.take_of_length_le (by omega), List.take_of_length_le (by omega)] at h4
   exact h4
  show j = _
  have : j.2.2.2.1 = l := Prod.ext h1 (Prod.ext h2 (Prod.ext e rfl))
  rw [← this]
 | m + 1, a, j, hm, hj, h1, h2, h3, h4, _ => by
  have ha : a < l.2.2.1.length := by omega
  obtain ⟨ho, hi⟩ := E56 hl ha
  have e1 : (l.1 + 1 + (a : Int) - j.2.2.2.1.1 - 1).toNat = a := by rw [h1]; omega
  have e2 : j.2.2.2.1.2.2.1.take a ++ [rd B2 l.2.2.1 a] = l.2.2.1.take (a + 1) := Z9 ha h4
  have hP : LogP (j.2.2.2.1.1, j.2.2.2.1.2.1, j.2.2.2.1.2.2.1.take (l.1 + 1 + (a : Int) - j.2.2.2.1.1 - 1).toNat ++ [rd B2 l.2.2.1 a], ()) := by
   rw [e1, e2, h1, h2]
   exact hl.take (a + 1)
  have hput := Ge3 hj ⟨by rw [h1]; omega, by rw [h1]; omega⟩ hP
  have hf : JRec.fits j (.ent (l.1 + 1 + a) (rd B2 l.2.2.1 a)) := by
   show (Bl7 j.2.2.2.1 (l.1 + 1 + a) (rd B2 l.2.2.1 a)).2 = true
   rw [hput]
  have happ : JRec.app j (.ent (l.1 + 1 + a) (rd B2 l.2.2.1 a)) = (j.1, j.2.1, j.2.2.1, (l.1, l.2.1, l.2.2.1.take (a + 1), ()), ()) := by
   show (j.1, j.2.1, j.2.2.1, (Bl7 j.2.2.2.1 (l.1 + 1 + a) (rd B2 l.2.2.1 a)).1, ()) = _
   rw [hput, e1, e2, h1, h2]
  obtain ⟨g1, g2⟩ := Ca2 l hl m (a + 1) (j.1, j.2.1, j.2.2.1, (l.1, l.2.1, l.2.2.1.take (a + 1), ()), ()) (by omega) (hl.take _) rfl rfl (by simp; omega) (by show (l.2.2.1.take (a + 1)).take (a + 1) = _; rw [List.take_take, Nat.min_self]) (fun _ => by simp; omega)
  rw [Bl8 ha]
  refine ⟨⟨⟨ho, hi⟩, hf, by rw [happ]; exact g1⟩, ?_⟩
  show Aj0 (JRec.app j _) _ = _
  rw [happ]
  exact g2
theorem Ei1 {j : A0} (h : jOk j = true) (n : Int) : JChain (Ap5 n j.2.2.2.1.1 j.2.2.2.1.2.1) (.hard j.2.1 j.2.2.1 :: M4 j.2.2.2.1 0) ∧ Aj0 (Ap5 n j.2.2.2.1.1 j.2.2.2.1.2.1) (.hard j.2.1 j.2.2.1 :: M4 j.2.2.2.1 0) = (n, j.2) := by
 obtain ⟨h1, h2, h3, h4⟩ := P3 h
 obtain ⟨g1, g2⟩ := Ca2 j.2.2.2.1 h4 j.2.2.2.1.2.2.1.length 0 (n, j.2.1, j.2.2.1, (j.2.2.2.1.1, j.2.2.2.1.2.1, [], ()), ()) (Nat.zero_add _) (h4.take 0) rfl rfl (Nat.zero_le _) rfl (fun _ => rfl)
 exact ⟨⟨⟨h2, h3⟩, trivial, g1⟩, g2⟩
theorem F07 {l : C4} (h : LogP l) : LogP (l.1, l.2.1, [], ()) := h.take 0
end Go.Vm
end
section
set_option linter.unusedVariables false
set_option linter.unusedSimpArgs false
namespace Go.Vm
open Go
def Bf8 (a b : ByteArray) : Bool := Op.bytesLess a.toList b.toList
def Ct1 (f : C7) : Prop := (1 ≤ f.1.size ∧ f.1.size ≤ 8) ∧ f.2.1.size ≤ 20000 ∧ 0 ≤ f.2.2.1 ∧ f.2.2.1 ≤ f.2.1.size
def Al4 (d : List C7) : Prop := d.length ≤ 30 ∧ ∀ i, i < d.length → Ct1 (rd B0 d i) ∧ (0 < i → Bf8 (rd B0 d (i - 1)).1 (rd B0 d i).1 = true)
theorem Dw3 {l : Nat → Nat → Nat → Option Bool} {V : Bool} (d : List C7) (h : Al4 d)
  (hs : ∀ i, i < d.length → ∀ k n, l k (n + 1) i = l k n (i + 1)) (he : ∀ k n, l k (n + 1) d.length = some V) : Ev (fun k => l k k 0) V :=
 D08 d.length (fun i hi => ⟨0, fun k _ n => hs i hi k n⟩) ⟨0, fun k _ n => he k n⟩
theorem S8 (d : List C7) (h : Al4 d) : Ev (fun k => F9 k (d, ())) true := by
 have hl := h.1
 have := Dw3 (l := fun k n i => j0 k n (i : Int) (d, ())) (V := true) d h (fun i hi k n => by
  obtain ⟨⟨⟨n1, n2⟩, t1, k1, k2⟩, hlt⟩ := h.2 i hi
  have d1 : decide ((i : Int) < (d.length : Int)) = true := decide_eq_true (by omega)
  have d2 : decide (0 ≤ (i : Int)) = true := decide_eq_true (Int.natCast_nonneg _)
  have d3 : i6 ((rd B0 d i).1.size : Int) 1 8 = true := D6.2 ⟨by omega, by omega⟩
  have d4 : decide (((rd B0 d i).2.1.size : Int) > 20000) = false := decide_eq_false (by omega)
  have d5 : i6 (rd B0 d i).2.2.1 0 ((rd B0 d i).2.1.size : Int) = true := D6.2 ⟨k1, k2⟩
  have ei : B8 ((i : Int) + 1) = ((i + 1 : Nat) : Int) := by rw [C6 (by omega) (by omega)]; rfl
  simp only [j0, A85, d1, d2, br_true, gd_true, Int.toNat_natCast, T3, I0, bd_some, d3, Bool.not_true, br_false, d4, d5, ei]
  by_cases h0 : i = 0
  ·subst h0; rfl
  ·have d6 : decide ((i : Int) > 0) = true := decide_eq_true (by omega)
   have ep : B8 ((i : Int) - 1) = ((i - 1 : Nat) : Int) := by rw [C6 (by omega) (by omega)]; omega
   have d7 : decide (((i - 1 : Nat) : Int) < (d.length : Int)) = true := decide_eq_true (by omega)
   have d8 : decide (0 ≤ ((i - 1 : Nat) : Int)) = true := decide_eq_true (Int.natCast_nonneg _)
   have hb : Op.bytesLess (rd B0 d (i - 1)).1.toList (rd B0 d i).1.toList = true := hlt (by omega)
   simp only [d6, br_true, ep, d7, d8, gd_true, Int.toNat_natCast, hb, Bool.not_true, br_false]) (fun k n => by
  simp only [j0, A85, decide_eq_false (Int.lt_irrefl _), br_false])
 show Ev (fun k => br (decide ((d.length : Int) > 30)) (some false) (j0 k k 0 (d, ()))) true
 rw [show decide ((d.length : Int) > 30) = false from decide_eq_false (by omega)]
 exact this
theorem Ct2 (d : List C7) (h : Al4 d) : Ev (fun k => A47 k (d, ())) true := by
 have hl := h.1
 have := Dw3 (l := fun k n i => Aa0 k n (d, ()) (i : Int)) (V := true) d h (fun i hi k n => by
  obtain ⟨⟨⟨n1, n2⟩, t1, k1, k2⟩, hlt⟩ := h.2 i hi
  have d1 : decide ((i : Int) < (d.length : Int)) = true := decide_eq_true (by omega)
  have d2 : decide (0 ≤ (i : Int)) = true := decide_eq_true (Int.natCast_nonneg _)
  have d3 : i6 ((rd B0 d i).1.size : Int) 1 8 = true := D6.2 ⟨by omega, by omega⟩
  have d4 : decide (((rd B0 d i).2.1.size : Int) > 20000) = false := decide_eq_false (by omega)
  have d5 : i6 (rd B0 d i).2.2.1 0 ((rd B0 d i).2.1.size : Int) = true := D6.2 ⟨k1, k2⟩
  have ei : B8 ((i : Int) + 1) = ((i + 1 : Nat) : Int) := by rw [C6 (by omega) (by omega)]; rfl
  simp only [Aa0, A94, d1, d2, br_true, gd_true, Int.toNat_natCast, N0, bd_some, d3, Bool.not_true, br_false, d4, d5, ei]
  by_cases h0 : i = 0
  ·subst h0; rfl
  ·have d6 : decide ((i : Int) > 0) = true := decide_eq_true (by omega)
   have ep : B8 ((i : Int) - 1) = ((i - 1 : Nat) : Int) := by rw [C6 (by omega) (by omega)]; omega
   have d7 : decide (((i - 1 : Nat) : Int) < (d.length : Int)) = true := decide_eq_true (by omega)
   have d8 : decide (0 ≤ ((i - 1 : Nat) : Int)) = true := decide_eq_true (Int.natCast_nonneg _)
   have hb : Op.bytesLess (rd B0 d (i - 1)).1.toList (rd B0 d i).1.toList = true := hlt (by omega)
   simp only [d6, br_true, ep, d7, d8, gd_true, Int.toNat_natCast, hb, Bool.not_true, br_false]) (fun k n => by
  simp only [Aa0, A94, decide_eq_false (Int.lt_irrefl _), br_false, decide_eq_true (show (d.length : Int) ≤ 30 by omega)])
 exact this
def atF : List C7 → ByteArray → Nat → Int
 | [], _, _ => -1
 | f :: r, nm, i => bif decide (f.1 = nm) then (i : Int) else atF r nm (i + 1)
theorem D24 (d : List C7) (nm : ByteArray) (hl : d.length ≤ 1000) : ∀ (m i : Nat), i + m = d.length → ∀ k n, m < n →
  Ag8 k n nm (i : Int) (d, ()) = some (atF (d.drop i) nm i) ∧ z8 k n (d, ()) (i : Int) nm = some (atF (d.drop i) nm i)
 | 0, i, hm, k, n, hn => by
  obtain ⟨n, rfl⟩ : ∃ q, n = q + 1 := ⟨n - 1, by omega⟩
  have d1 : decide ((i : Int) < (d.length : Int)) = false := decide_eq_false (by omega)
  rw [List.drop_eq_nil_of_le (by omega)]
  simp only [Ag8, Bj7, z8, A93, d1, br_false, atF, and_self]
 | m + 1, i, hm, k, n, hn => by
  obtain ⟨n, rfl⟩ : ∃ q, n = q + 1 := ⟨n - 1, by omega⟩
  have hi : i < d.length := by omega
  have d1 : decide ((i : Int) < (d.length : Int)) = true := decide_eq_true (by omega)
  have d2 : decide (0 ≤ (i : Int)) = true := decide_eq_true (Int.natCast_nonneg _)
  have ei : B8 ((i : Int) + 1) = ((i + 1 : Nat) : Int) := by rw [C6 (by omega) (by omega)]; rfl
  obtain ⟨h1, h2⟩ := D24 d nm hl m (i + 1) (by omega) k n (by omega)
  have hd : d.drop i = rd B0 d i :: d.drop (i + 1) := by rw [List.drop_eq_getElem_cons hi, ← Ad6 hi (z := B0)]
  simp only [Ag8, Bj7, z8, A93, d1, d2, br_true, gd_true, Int.toNat_natCast, ei, h1, h2, Y9, hd, atF]
  cases decide ((rd B0 d i).1 = nm) with
  | true => exact ⟨rfl, rfl⟩
  | false => exact ⟨rfl, rfl⟩
theorem Dw4 (d : List C7) (nm : ByteArray) (hl : d.length ≤ 1000) : Ev (fun k => Az6 k (d, ()) nm) (atF d nm 0) ∧ Ev (fun k => Bf1 k (d, ()) nm) (atF d nm 0) :=
 ⟨⟨d.length + 1, fun k hk => (D24 d nm hl d.length 0 (Nat.zero_add _) k k (by omega)).1⟩, ⟨d.length + 1, fun k hk => (D24 d nm hl d.length 0 (Nat.zero_add _) k k (by omega)).2⟩⟩
theorem Cm2 : ∀ (d : List C7) (nm : ByteArray) (i : Nat), atF d nm i < 0 ∨ ((i : Int) ≤ atF d nm i ∧ atF d nm i < i + d.length)
 | [], _, _ => .inl (by show (-1 : Int) < 0; decide)
 | f :: r, nm, i => by
  unfold atF
  cases decide (f.1 = nm) with
  | true => exact .inr ⟨Int.le_refl _, by simp; omega⟩
  | false =>
   rcases Cm2 r nm (i + 1) with h | h
   ·exact .inl h
   ·exact .inr ⟨by simp only [cond_false]; omega, by simp only [cond_false, List.length_cons]; omega⟩
def Bw1 (d : List C7) (nm : ByteArray) : ByteArray × Bool := bif decide (atF d nm 0 < 0) then (⟨#[]⟩, false) else ((rd B0 d (atF d nm 0).toNat).2.1, true)
theorem B41 (d : List C7) (nm : ByteArray) (hl : d.length ≤ 1000) : Ev (fun k => Be4 k (d, ()) nm) (Bw1 d nm) ∧ Ev (fun k => A46 k (d, ()) nm) (Bw1 d nm) := by
 obtain ⟨h1, h2⟩ := Dw4 d nm hl
 have h3 := Cm2 d nm 0
 unfold Bw1
 constructor
 ·refine Re.eq (Re.c1 h1 (Re.brd (fun h => ?_) (fun h => ?_)))
  ·rw [decide_eq_true h]; exact Re.ret rfl
  ·rw [decide_eq_false h]
   exact Re.gdd (by omega) (Re.gdd (by show atF d nm 0 < (d.length : Int); omega) (Re.ret rfl))
 ·refine Re.eq (Re.c1 h2 (Re.brd (fun h => ?_) (fun h => ?_)))
  ·rw [decide_eq_true h]; exact Re.ret rfl
  ·rw [decide_eq_false h]
   exact Re.gdd (by omega) (Re.gdd (by show atF d nm 0 < (d.length : Int); omega) (Re.ret rfl))
def Ct3 (f : C7) (x : C7) : Bool := !(Bf8 x.1 f.1 || decide (x.1 = f.1))
def Br3 (d : List C7) (f : C7) : List C7 := d.filter (fun x => Bf8 x.1 f.1) ++ [f] ++ d.filter (Ct3 f)
theorem E57 (d : List C7) (f : C7) (hl : d.length ≤ 1000) : ∀ (m i : Nat) (xs : List C7), i + m = d.length → xs.length ≤ 3000 - m → ∀ k n, m < n →
  Ai2 k n (i : Int) (d, ()) f xs = some (xs ++ (d.drop i).filter (Ct3 f), ())
 | 0, i, xs, hm, _, k, n, hn => by
  obtain ⟨n, rfl⟩ : ∃ q, n = q + 1 := ⟨n - 1, by omega⟩
  have d1 : decide ((i : Int) < (d.length : Int)) = false := decide_eq_false (by omega)
  rw [List.drop_eq_nil_of_le (by omega)]
  simp only [Ai2, A86, d1, br_false, List.filter_nil, List.append_nil]
 | m + 1, i, xs, hm, hx, k, n, hn => by
  obtain ⟨n, rfl⟩ : ∃ q, n = q + 1 := ⟨n - 1, by omega⟩
  have hi : i < d.length := by omega
  have d1 : decide ((i : Int) < (d.length : Int)) = true := decide_eq_true (by omega)
  have d2 : decide (0 ≤ (i : Int)) = true := decide_eq_true (Int.natCast_nonneg _)
  have d3 : decide (xs.length + ([rd B0 d i] : List C7).length ≤ A2) = true := decide_eq_true (by simp; unfold A2; omega)
  have ei : B8 ((i : Int) + 1) = ((i + 1 : Nat) : Int) := by rw [C6 (by omega) (by omega)]; rfl
  have hd : d.drop i = rd B0 d i :: d.drop (i + 1) := by rw [List.drop_eq_getElem_cons hi, ← Ad6 hi (z := B0)]
  have h1 := E57 d f hl m (i + 1) xs (by omega) (by omega) k n (by omega)
  have h2 := E57 d f hl m (i + 1) (xs ++ [rd B0 d i]) (by omega) (by simp; omega) k n (by omega)
  simp only [Ai2, A86, d1, d2, d3, br_true, gd_true, Int.toNat_natCast, ei, h1, h2, Y9, hd]
  rw [List.filter_cons]
  have e : Ct3 f (rd B0 d i) = !(Op.bytesLess (rd B0 d i).1.toList f.1.toList || decide ((rd B0 d i).1 = f.1)) := rfl
  rw [e]
  cases (!(Op.bytesLess (rd B0 d i).1.toList f.1.toList || decide ((rd B0 d i).1 = f.1))) with
  | true => simp
  | false => simp
theorem E58 (d : List C7) (f : C7) (hl : d.length ≤ 1000) : ∀ (m i : Nat) (xs : List C7), i + m = d.length → xs.length ≤ i → ∀ k n, m + d.length + 1 < n →
  y0 k n (i : Int) (d, ()) f xs = some (xs ++ (d.drop i).filter (fun x => Bf8 x.1 f.1) ++ [f] ++ d.filter (Ct3 f), ())
 | 0, i, xs, hm, hx, k, n, hn => by
  obtain ⟨n, rfl⟩ : ∃ q, n = q + 1 := ⟨n - 1, by omega⟩
  have d1 : decide ((i : Int) < (d.length : Int)) = false := decide_eq_false (by omega)
  have d3 : decide (xs.length + ([f] : List C7).length ≤ A2) = true := decide_eq_true (by simp; unfold A2; omega)
  rw [List.drop_eq_nil_of_le (by omega)]
  have h1 := E57 d f hl d.length 0 (xs ++ [f]) (Nat.zero_add _) (by simp; omega) k n (by omega)
  rw [List.drop_zero] at h1
  simp only [y0, A87, d1, d3, br_false, gd_true, List.filter_nil, List.append_nil]
  exact h1
 | m + 1, i, xs, hm, hx, k, n, hn => by
  obtain ⟨n, rfl⟩ : ∃ q, n = q + 1 := ⟨n - 1, by omega⟩
  have hi : i < d.length := by omega
  have d1 : decide ((i : Int) < (d.length : Int)) = true := decide_eq_true (by omega)
  have d2 : decide (0 ≤ (i : Int)) = true := decide_eq_true (Int.natCast_nonneg _)
  have d3 : decide (xs.length + ([rd B0 d i] : List C7).length ≤ A2) = true := decide_eq_true (by simp; unfold A2; omega)
  have ei : B8 ((i : Int) + 1) = ((i + 1 : Nat) : Int) := by rw [C6 (by omega) (by omega)]; rfl
  have hd : d.drop i = rd B0 d i :: d.drop (i + 1) := by rw [List.drop_eq_getElem_cons hi, ← Ad6 hi (z := B0)]
  have h1 := E58 d f hl m (i + 1) xs (by omega) (by omega) k n (by omega)
  have h2 := E58 d f hl m (i + 1) (xs ++ [rd B0 d i]) (by omega) (by simp; omega) k n (by omega)
  simp only [y0, A87, d1, d2, d3, br_true, gd_true, Int.toNat_natCast, ei, h1, h2, hd]
  rw [List.filter_cons]
  have e : Bf8 (rd B0 d i).1 f.1 = Op.bytesLess (rd B0 d i).1.toList f.1.toList := rfl
  rw [e]
  cases Op.bytesLess (rd B0 d i).1.toList f.1.toList with
  | true => simp
  | false => simp
theorem D25 (d : List C7) (f : C7) (hl : d.length ≤ 1000) : Ev (fun k => I3 k (d, ()) f) (Br3 d f, ()) :=
 ⟨d.length + d.length + 2, fun k hk => by
  have := E58 d f hl d.length 0 [] (Nat.zero_add _) (Nat.le_refl _) k k (by omega)
  rwa [List.drop_zero, List.nil_append] at this⟩
def Cm3 (d : List C7) (nm : ByteArray) : List C7 := d.filter fun x => !decide (x.1 = nm)
theorem Db6 (d : List C7) (nm : ByteArray) (hl : d.length ≤ 1000) : ∀ (m i : Nat) (xs : List C7), i + m = d.length → xs.length ≤ i → ∀ k n, m < n →
  T8 k n nm (i : Int) (d, ()) xs = some (xs ++ Cm3 (d.drop i) nm, ())
 | 0, i, xs, hm, _, k, n, hn => by
  obtain ⟨n, rfl⟩ : ∃ q, n = q + 1 := ⟨n - 1, by omega⟩
  have d1 : decide ((i : Int) < (d.length : Int)) = false := decide_eq_false (by omega)
  rw [List.drop_eq_nil_of_le (by omega)]
  simp only [T8, Ag4, d1, br_false, Cm3, List.filter_nil, List.append_nil]
 | m + 1, i, xs, hm, hx, k, n, hn => by
  obtain ⟨n, rfl⟩ : ∃ q, n = q + 1 := ⟨n - 1, by omega⟩
  have hi : i < d.length := by omega
  have d1 : decide ((i : Int) < (d.length : Int)) = true := decide_eq_true (by omega)
  have d2 : decide (0 ≤ (i : Int)) = true := decide_eq_true (Int.natCast_nonneg _)
  have d3 : decide (xs.length + ([rd B0 d i] : List C7).length ≤ A2) = true := decide_eq_true (by simp; unfold A2; omega)
  have ei : B8 ((i : Int) + 1) = ((i + 1 : Nat) : Int) := by rw [C6 (by omega) (by omega)]; rfl
  have hd : d.drop i = rd B0 d i :: d.drop (i + 1) := by rw [List.drop_eq_getElem_cons hi, ← Ad6 hi (z := B0)]
  have h1 := Db6 d nm hl m (i + 1) xs (by omega) (by omega) k n (by omega)
  have h2 := Db6 d nm hl m (i + 1) (xs ++ [rd B0 d i]) (by omega) (by simp; omega) k n (by omega)
  unfold Cm3 at h1 h2 ⊢
  simp only [T8, Ag4, d1, d2, d3, br_true, gd_true, Int.toNat_natCast, ei, h1, h2, Y9, hd]
  rw [List.filter_cons]
  cases decide ((rd B0 d i).1 = nm) with
  | true => simp
  | false => simp
theorem F08 (d : List C7) (nm : ByteArray) (hl : d.length ≤ 1000) : Ev (fun k => G7 k (d, ()) nm) (Cm3 d nm, ()) :=
 ⟨d.length + 1, fun k hk => by
  have := Db6 d nm hl d.length 0 [] (Nat.zero_add _) (Nat.le_refl _) k k (by omega)
  rwa [List.drop_zero, List.nil_append] at this⟩
end Go.Vm
end
section
set_option linter.unusedVariables false
set_option linter.unusedSimpArgs false
namespace Go.Vm
open Go
theorem noE : ¬ ((!(ByteArray.empty.toList == (⟨#[]⟩ : ByteArray).toList)) = true) := by
 rw [show ByteArray.empty = (⟨#[]⟩ : ByteArray) from rfl, beq_self_eq_true]
 decide
theorem Fl0 {d : List C7} {nm tx : ByteArray} {f : C7} (hd : Al4 d) (hn : 1 ≤ nm.size ∧ nm.size ≤ 8) (hf : (atF d nm 0 < 0 ∧ f = (nm, tx, 0, ())) ∨ (0 ≤ atF d nm 0 ∧ f = ((rd B0 d (atF d nm 0).toNat).1, (rd B0 d (atF d nm 0).toNat).2.1 ++ tx, (rd B0 d (atF d nm 0).toNat).2.2.1, ())))
  (htx : tx.size ≤ 20000) (h' : Al4 (Br3 d f)) : Ev (fun k => Z0 k (d, ()) (1, nm, tx, ByteArray.empty, ())) ((Br3 d f, ()), true) := by
 have hl : d.length ≤ 1000 := by have := hd.1; omega
 have hlt := Cm2 d nm 0
 refine Re.eq (Re.c1 (S8 d hd) (Re.br (b := false) (fun h => by cases h) (fun _ => ?_)))
 refine Re.s1 (v := true) (fun k => by show bd (E7 k (nm.size : Int) 1 8) _ = _; rw [I0, D6.2 ⟨by omega, by omega⟩]; rfl) (Re.br (b := false) (fun h => by cases h) (fun _ => ?_))
 refine Re.br (b := true) (fun _ => ?_) (fun h => by cases h)
 refine Re.br (fun h => absurd h noE) (fun _ => ?_)
 refine Re.br (b := false) (fun h => by cases h) (fun _ => ?_)
 refine Re.c1 (Dw4 d nm hl).1 (Re.brd (fun h => ?_) (fun h => ?_))
 ·rcases hf with ⟨h1, _⟩ | ⟨_, rfl⟩
  ·exact absurd h (by omega)
  have hi : (atF d nm 0).toNat < d.length := by omega
  have hfs := (hd.2 _ hi).1.2.1
  refine Re.gdd h (Re.gdd (by show atF d nm 0 < (d.length : Int); omega) (Re.br (b := true) (fun _ => ?_) (fun h => by cases h)))
  refine Re.gdd (by show (rd B0 d (atF d nm 0).toNat).2.1.size + tx.size ≤ A2; unfold A2; omega) (Re.c1 (D25 d _ hl) (Re.c1 (S8 _ h') (Re.br (b := false) (fun h => by cases h) (fun _ => Re.ret rfl))))
 ·rcases hf with ⟨_, rfl⟩ | ⟨h1, _⟩
  ·refine Re.br (b := true) (fun _ => ?_) (fun h => by cases h)
   refine Re.gdd (by show 0 + tx.size ≤ A2; unfold A2; omega) ?_
   have e : ByteArray.empty ++ tx = tx := Cf2 tx
   refine Re.c1 (v := (Br3 d (nm, tx, 0, ()), ())) ((D25 d _ hl).congr fun k => by show I3 k (d, ()) (nm, ByteArray.empty ++ tx, 0, ()) = _; rw [e]) (Re.c1 (S8 _ h') (Re.br (b := false) (fun h => by cases h) (fun _ => Re.ret rfl)))
  ·exact absurd h1 h
theorem Ei2 {d : List C7} {nm : ByteArray} (hd : Al4 d) (hn : 1 ≤ nm.size ∧ nm.size ≤ 8) {f : C7} (ha : 0 ≤ atF d nm 0) (hf : f = ((rd B0 d (atF d nm 0).toNat).1, (rd B0 d (atF d nm 0).toNat).2.1, (((rd B0 d (atF d nm 0).toNat).2.1.size : Nat) : Int), ()))
  (h' : Al4 (Br3 d f)) : Ev (fun k => Z0 k (d, ()) (2, nm, ByteArray.empty, ByteArray.empty, ())) ((Br3 d f, ()), true) := by
 have hl : d.length ≤ 1000 := by have := hd.1; omega
 have hlt := Cm2 d nm 0
 subst hf
 refine Re.eq (Re.c1 (S8 d hd) (Re.br (b := false) (fun h => by cases h) (fun _ => ?_)))
 refine Re.s1 (v := true) (fun k => by show bd (E7 k (nm.size : Int) 1 8) _ = _; rw [I0, D6.2 ⟨by omega, by omega⟩]; rfl) (Re.br (b := false) (fun h => by cases h) (fun _ => ?_))
 refine Re.br (b := true) (fun _ => ?_) (fun h => by cases h)
 refine Re.br (fun h => absurd h noE) (fun _ => ?_)
 refine Re.br (b := true) (fun _ => ?_) (fun h => by cases h)
 refine Re.br (fun h => absurd h noE) (fun _ => ?_)
 refine Re.c1 (Dw4 d nm hl).1 (Re.brd (fun h => ?_) (fun h => absurd ha h))
 refine Re.gdd h (Re.gdd (by show atF d nm 0 < (d.length : Int); omega) (Re.br (b := false) (fun h => by cases h) (fun _ => ?_)))
 refine Re.brd (fun h => absurd ha (by omega)) (fun _ => Re.br (b := true) (fun _ => ?_) (fun h => by cases h))
 exact Re.c1 (D25 d _ hl) (Re.c1 (S8 _ h') (Re.br (b := false) (fun h => by cases h) (fun _ => Re.ret rfl)))
theorem F09 {d : List C7} {nm to : ByteArray} (hd : Al4 d) (hn : 1 ≤ nm.size ∧ nm.size ≤ 8) (ht : 1 ≤ to.size ∧ to.size ≤ 8) (hne : to ≠ nm) {f : C7} (ha : 0 ≤ atF d nm 0) (hf : f = (to, (rd B0 d (atF d nm 0).toNat).2))
  (hk : (rd B0 d (atF d nm 0).toNat).2.2.1 = ((rd B0 d (atF d nm 0).toNat).2.1.size : Int)) (h' : Al4 (Br3 (Cm3 d nm) f)) : Ev (fun k => Z0 k (d, ()) (3, nm, ByteArray.empty, to, ())) ((Br3 (Cm3 d nm) f, ()), true) := by
 have hl : d.length ≤ 1000 := by have := hd.1; omega
 have hl2 : (Cm3 d nm).length ≤ 1000 := Nat.le_trans (List.length_filter_le _ _) hl
 have hlt := Cm2 d nm 0
 subst hf
 refine Re.eq (Re.c1 (S8 d hd) (Re.br (b := false) (fun h => by cases h) (fun _ => ?_)))
 refine Re.s1 (v := true) (fun k => by show bd (E7 k (nm.size : Int) 1 8) _ = _; rw [I0, D6.2 ⟨by omega, by omega⟩]; rfl) (Re.br (b := false) (fun h => by cases h) (fun _ => ?_))
 refine Re.br (b := false) (fun h => by cases h) (fun _ => ?_)
 refine Re.br (b := true) (fun _ => ?_) (fun h => by cases h)
 refine Re.br (fun h => absurd h noE) (fun _ => ?_)
 refine Re.c1 (Dw4 d nm hl).1 (Re.brd (fun h => ?_) (fun h => absurd ha h))
 refine Re.gdd h (Re.gdd (by show atF d nm 0 < (d.length : Int); omega) (Re.br (b := false) (fun h => by cases h) (fun _ => ?_)))
 refine Re.brd (fun h => absurd ha (by omega)) (fun _ => Re.br (b := false) (fun h => by cases h) (fun _ => Re.br (b := true) (fun _ => ?_) (fun h => by cases h)))
 refine Re.brd (fun h => absurd h (by show ¬ (rd B0 d (atF d nm 0).toNat).2.2.1 < ((rd B0 d (atF d nm 0).toNat).2.1.size : Int); rw [hk]; omega)) (fun _ => ?_)
 refine Re.br (fun h => absurd (by rw [Y9] at h; exact of_decide_eq_true h) hne) (fun _ => ?_)
 refine Re.s1 (v := true) (fun k => by show bd (E7 k (to.size : Int) 1 8) _ = _; rw [I0, D6.2 ⟨by omega, by omega⟩]; rfl) (Re.br (b := false) (fun h => by cases h) (fun _ => ?_))
 exact Re.c1 (F08 d nm hl) (Re.c1 (D25 _ _ hl2) (Re.c1 (S8 _ h') (Re.br (b := false) (fun h => by cases h) (fun _ => Re.ret rfl))))
theorem F10 {d : List C7} {nm : ByteArray} (hd : Al4 d) (hn : 1 ≤ nm.size ∧ nm.size ≤ 8) (ha : 0 ≤ atF d nm 0) (h' : Al4 (Cm3 d nm)) :
  Ev (fun k => Z0 k (d, ()) (4, nm, ByteArray.empty, ByteArray.empty, ())) ((Cm3 d nm, ()), true) := by
 have hl : d.length ≤ 1000 := by have := hd.1; omega
 have hlt := Cm2 d nm 0
 refine Re.eq (Re.c1 (S8 d hd) (Re.br (b := false) (fun h => by cases h) (fun _ => ?_)))
 refine Re.s1 (v := true) (fun k => by show bd (E7 k (nm.size : Int) 1 8) _ = _; rw [I0, D6.2 ⟨by omega, by omega⟩]; rfl) (Re.br (b := false) (fun h => by cases h) (fun _ => ?_))
 refine Re.br (b := true) (fun _ => ?_) (fun h => by cases h)
 refine Re.br (fun h => absurd h noE) (fun _ => ?_)
 refine Re.br (b := true) (fun _ => ?_) (fun h => by cases h)
 refine Re.br (fun h => absurd h noE) (fun _ => ?_)
 refine Re.c1 (Dw4 d nm hl).1 (Re.brd (fun h => ?_) (fun h => absurd ha h))
 refine Re.gdd h (Re.gdd (by show atF d nm 0 < (d.length : Int); omega) (Re.br (b := false) (fun h => by cases h) (fun _ => ?_)))
 refine Re.brd (fun h => absurd ha (by omega)) (fun _ => Re.br (b := false) (fun h => by cases h) (fun _ => Re.br (b := false) (fun h => by cases h) (fun _ => Re.br (b := true) (fun _ => ?_) (fun h => by cases h))))
 exact Re.c1 (F08 d nm hl) (Re.c1 (S8 _ h') (Re.br (b := false) (fun h => by cases h) (fun _ => Re.ret rfl)))
inductive Done : List C7 → List E8 → List C7 → Prop where
 | nil {d} : Done d [] d
 | cons {d a r d1 d2} : Ev (fun k => Z0 k (d, ()) a) ((d1, ()), true) → Done d1 r d2 → Done d (a :: r) d2
theorem Dw5 (all : List E8) (hl : all.length ≤ 1000000) : ∀ (rest pre : List E8) (d d' : List C7), all = pre ++ rest → Done d rest d' →
  ∃ K, ∀ k, K ≤ k → ∀ n, rest.length < n → j1 k n all (pre.length : Int) d = some ((d', ()), (all.length : Int))
 | [], pre, d, d', hall, h => by
  cases h
  rw [List.append_nil] at hall
  subst hall
  refine ⟨0, fun k _ n hn => ?_⟩
  obtain ⟨n, rfl⟩ : ∃ q, n = q + 1 := ⟨n - 1, by simp at hn; omega⟩
  simp only [j1, A88, decide_eq_false (Int.lt_irrefl _), br_false]
 | a :: rest, pre, d, d', hall, h => by
  cases h with
  | @cons _ _ _ d1 _ h1 h2 =>
   obtain ⟨K1, h1⟩ := h1
   obtain ⟨K2, h2⟩ := Dw5 all hl rest (pre ++ [a]) d1 d' (by rw [hall]; simp) h2
   refine ⟨max K1 K2, fun k hk n hn => ?_⟩
   obtain ⟨n, rfl⟩ : ∃ q, n = q + 1 := ⟨n - 1, by simp at hn; omega⟩
   have hlen : all.length = pre.length + 1 + rest.length := by rw [hall]; simp; omega
   have hrd : rd Gg7 all pre.length = a := by rw [hall]; simp [rd]
   have e1 : Z0 k (d, ()) a = some ((d1, ()), true) := h1 k (by omega)
   have d1' : decide ((pre.length : Int) < (all.length : Int)) = true := decide_eq_true (by omega)
   have d2 : decide (0 ≤ (pre.length : Int)) = true := decide_eq_true (Int.natCast_nonneg _)
   have ei : B8 ((pre.length : Int) + 1) = ((pre ++ [a]).length : Int) := by rw [C6 (by omega) (by omega)]; simp
   have g := h2 k (by omega) n (by simp at hn; omega)
   simp only [j1, A88, d1', d2, br_true, gd_true, Int.toNat_natCast, hrd, e1, bd_some, Bool.not_true, br_false, ei]
   exact g
theorem D26 {d d' : List C7} {list : List E8} (hl : list.length ≤ 1000000) (hd : d.length ≤ 1000000) (h : Done d list d') : Ev (fun k => A41 k (d, ()) list) ((d', ()), (list.length : Int)) := by
 obtain ⟨K, hK⟩ := Dw5 list hl list [] d d' rfl h
 refine ⟨max K (list.length + 1), fun k hk => ?_⟩
 show gd (decide (([] : List C7).length + d.length ≤ A2)) (j1 k k list 0 ([] ++ d)) = _
 rw [decide_eq_true (by simp; unfold A2; omega)]
 exact hK k (by omega) k (by omega)
theorem Done.append {d1 d2 d3 : List C7} {a b : List E8} (h : Done d1 a d2) (k : Done d2 b d3) : Done d1 (a ++ b) d3 := by
 induction h with
 | nil => exact k
 | cons h1 _ ih => exact .cons h1 (ih k)
end Go.Vm
end
section
set_option linter.unusedVariables false
set_option linter.unusedSimpArgs false
namespace Go.Vm
open Go
theorem Db7 {s t : Int} {xs : List A9} (h : Eh7 (s, t, xs, ())) : ∀ (m i : Nat), i + m ≤ xs.length → M6 (s, t, xs, ()) i ≤ M6 (s, t, xs, ()) (i + m)
 | 0, i, _ => Int.le_refl _
 | m + 1, i, hm => by
  have h1 := Db7 h m i (by omega)
  have h2 := (h (i + m) (show i + m < xs.length by omega)).2
  rw [show i + (m + 1) = (i + m) + 1 by omega, A51]
  exact Int.le_trans h1 h2
theorem EntsT.mono {s t : Int} {xs : List A9} {T T' : Int} (h : EntsT s t xs T) (hT : T ≤ T') : EntsT s t xs T' := ⟨h.1, Int.le_trans h.2.1 hT, h.2.2⟩
def WellL (m : Nat) (l : C4) : Prop := (0 ≤ l.1 ∧ l.1 + l.2.2.1.length ≤ 28 + 4 * m) ∧ (0 ≤ l.2.1 ∧ l.2.1 ≤ 40 + 4 * m) ∧ l.2.2.1.length ≤ 8 + 4 * m ∧ EntsT l.1 l.2.1 l.2.2.1 (40 + 4 * m)
theorem WellL.ok {m : Nat} {l : C4} (h : WellL m l) (hm : m ≤ 10) : LogP l := ⟨⟨h.1.1, by have := h.1.2; omega⟩, ⟨h.2.1.1, by have := h.2.1.2; omega⟩, by have := h.2.2.1; omega, by have := h.1.2; omega, h.2.2.2.1⟩
theorem WellL.more {m : Nat} {l : C4} (h : WellL m l) : WellL (m + 1) l := ⟨⟨h.1.1, by have := h.1.2; omega⟩, ⟨h.2.1.1, by have := h.2.1.2; omega⟩, by have := h.2.2.1; omega, h.2.2.2.mono (by omega)⟩
theorem E59 {s t : Int} {xs : List A9} {T : Int} (h : EntsT s t xs T) (n : Nat) : EntsT s t (xs.take n) (M6 (s, t, xs, ()) xs.length) := by
 refine ⟨fun i hi => ?_, ?_, fun i hi => ?_⟩
 ·simp only [List.length_take] at hi
  have e : rd B2 (xs.take n) i = rd B2 xs i := by
   have : i < n := by omega
   simp [rd, List.getElem?_take, this]
  rw [Ca1 _ _ _ _ _ (by omega) (by omega)]
  simp only [e]
  exact h.1 i (by show i < xs.length; omega)
 ·rw [Ca1 _ _ _ _ _ (by simp only [List.length_take]; omega) (by simp only [List.length_take]; omega)]
  have hle : (xs.take n).length ≤ xs.length := by simp only [List.length_take]; omega
  have := Db7 h.1 (xs.length - (xs.take n).length) (xs.take n).length (by omega)
  rwa [show (xs.take n).length + (xs.length - (xs.take n).length) = xs.length by omega] at this
 ·simp only [List.length_take] at hi
  have e : rd B2 (xs.take n) i = rd B2 xs i := by
   have : i < n := by omega
   simp [rd, List.getElem?_take, this]
  rw [e]; exact h.2.2 i (by omega)
theorem Ei3 {m : Nat} {l : C4} (h : WellL m l) (hm : m ≤ 10) {j : Nat} (hj : j ≤ l.2.2.1.length) : WellL m (l.1 + j, M6 l j, l.2.2.1.drop j, ()) := by
 have hp := h.ok hm
 have hb := Fp5 hp hj
 have hpos := B38 hp j hj
 have hle : M6 l j ≤ M6 l l.2.2.1.length := by
  have := Db7 (s := l.1) (t := l.2.1) (xs := l.2.2.1) h.2.2.2.1 (l.2.2.1.length - j) j (by omega)
  rwa [show j + (l.2.2.1.length - j) = l.2.2.1.length by omega] at this
 have hT := h.2.2.2.2.1
 have hT : M6 l l.2.2.1.length ≤ 40 + 4 * m := hT
 have h1 := h.1
 have h3 := h.2.2.1
 refine ⟨⟨by simp only; omega, by simp only [List.length_drop]; omega⟩, ⟨hpos, by simp only; omega⟩, by simp only [List.length_drop]; omega, hb.2.2.2.2, ?_, fun i hi => ?_⟩
 ·show M6 (l.1 + j, M6 l j, l.2.2.1.drop j, ()) (l.2.2.1.drop j).length ≤ _
  rw [Db1, List.length_drop, show j + (l.2.2.1.length - j) = l.2.2.1.length by omega]
  exact hT
 ·simp only [List.length_drop] at hi
  rw [D20]
  exact h.2.2.2.2.2 _ (by omega)
theorem Cm4 {m : Nat} {l : C4} (h : WellL m l) (hm : m ≤ 10) {j : Nat} (hj : j ≤ l.2.2.1.length) : Re (fun k => Au3 k l (l.1 + j) (Bv6 l (l.1 + j))) (WellL m) := by
 have hp := h.ok hm
 have p1 := hp.1; have p3 := hp.2.2.1
 refine Re.c1 (A52 l hp.small) ?_
 rw [M3.2 hp]
 refine Re.br (b := true) (fun _ => ?_) (fun h => by cases h)
 refine Re.s1 (v := Bv5 l) (fun k => by unfold Ab1 Bv5; rw [C6 (by omega) (by omega)]) ?_
 refine Re.s1 (I0 · _ _ _) ?_
 rw [D6.2 ⟨by omega, by unfold Bv5; omega⟩]
 refine Re.br (b := true) (fun _ => ?_) (fun h => by cases h)
 refine Re.s1 (Cf1 (hp.near (by omega) (by omega))) ?_
 refine Re.bre (fun _ => ?_) (fun h => absurd rfl h)
 have e : B8 (l.1 + (j : Int) - l.1) = (j : Int) := by rw [C6 (by omega) (by omega)]; omega
 rw [e]
 refine Re.gdd (by omega) (Re.gdd (by omega) (Re.gdd (by simp [A2]; omega) (Re.ret ?_)))
 rw [Int.toNat_natCast, List.nil_append, Fp4 hj]
 exact Ei3 h hm hj
theorem D27 (c : A4) (h : CurOk c) (m : Nat) (hm : m ≤ 9) (l : C4) (hw : WellL m l) : Re (fun k => Be9 k c l) (fun r => WellL (m + 1) r.1 ∧ CurOk r.2.1) := by
 have hp := hw.ok (by omega)
 have ha := hp.any
 have hb := hw.1
 have hl8 := hw.2.2.1
 have hT0 : M6 l l.2.2.1.length ≤ 40 + 4 * m := hw.2.2.2.2.1
 have hTp := B38 hp _ (Nat.le_refl _)
 refine Re.s1 (Ca0 l ha) ?_
 refine Re.b1 (B35 _ 2 h) fun r2 h2 => ?_
 have go : ∀ (c : A4) (n : Nat), CurOk c → Re (fun k => U5 k k (M6 l l.2.2.1.length) 0 c.1 c.2.1 c.2.2.1 l (l.2.2.1.take n)) (fun r => WellL (m + 1) r.1 ∧ CurOk r.2.1) := by
  intro c n hc
  refine Re.enter (f := fun k q => U5 k q (M6 l l.2.2.1.length) 0 c.1 c.2.1 c.2.2.1 l (l.2.2.1.take n)) L8 ?_
  have := Re.loop (ι := Nat) (l := fun k q (s : Int × Nat × A4 × List A9) => U5 k q s.1 (s.2.1 : Int) s.2.2.1.1 s.2.2.1.2.1 s.2.2.1.2.2.1 l s.2.2.2) (I := fun s => s.2.1 ≤ 3 ∧ s.2.2.2.length ≤ l.2.2.1.length + s.2.1 ∧ CurOk s.2.2.1 ∧ (0 ≤ s.1 ∧ s.1 ≤ 40 + 4 * m + s.2.1) ∧ EntsT l.1 l.2.1 s.2.2.2 s.1) (fun s => 3 - s.2.1) (Q := fun _ r => WellL (m + 1) r.1 ∧ CurOk r.2.1) (fun s hi ih => by
   obtain ⟨T, j, c, xs⟩ := s
   obtain ⟨i1, i2, i3, i4, i5⟩ := hi
   simp only at i1 i2 i3 i4 i5 ih ⊢
   have hx : WellL (m + 1) (l.1, l.2.1, xs, ()) := ⟨⟨hb.1, by simp only; omega⟩, ⟨hw.2.1.1, by have := hw.2.1.2; simp only; omega⟩, by simp only; omega, i5.mono (by omega)⟩
   simp only [U5, Bk4]
   refine Re.b2 (I7 _ 4 i3.eta) fun r4 h4 => ?_
   refine Re.brd (fun q => ?_) (fun q => ?_)
   ·have hj : j < 3 := by obtain ⟨⟨a, b⟩, _⟩ := h4; omega
    refine Re.b2 (I7 _ 2 h4.2) fun r5 h5 => Re.b2 (Bv4 _ h5.2 _) fun r6 h6 => Re.gdd (by simp [A2]; omega) ?_
    obtain ⟨⟨f1, f2⟩, _⟩ := h5
    have eT : B8 (T + r5.1) = T + r5.1 := C6 (by omega) (by omega)
    have hE := h6.1
    rw [eT] at hE
    have hsn := B99 i5 (T' := T + r5.1) (by omega) (by omega) (by omega) hE
    have hx2 : AnyL (l.1, l.2.1, xs ++ [r6.1], ()) := ⟨⟨by simp only; omega, by simp only; omega⟩, by simp; omega, fun i hi => Nat.le_trans (hsn.2.2 i hi) (by omega)⟩
    refine Re.s2 (Ca0 _ hx2) ?_
    have e1 : B8 ((j : Int) + 1) = ((j + 1 : Nat) : Int) := by rw [C6 (by omega) (by omega)]; rfl
    have e2 : M6 (l.1, l.2.1, xs ++ [r6.1], ()) (xs ++ [r6.1]).length = T + r5.1 := by
     rw [List.length_append, List.length_singleton, A51]
     simp only [B37, Nat.lt_irrefl, if_false, if_true]
     exact hE.1
    rw [e1]
    show Re (fun x : Nat × Nat => U5 x.1 x.2 (M6 (l.1, l.2.1, xs ++ [r6.1], ()) (xs ++ [r6.1]).length) _ _ _ _ l _) _
    rw [e2]
    exact ih (T + r5.1, j + 1, r6.2.1, xs ++ [r6.1]) ⟨by simp only; omega, by simp; omega, h6.2, ⟨by simp only; omega, by simp only; omega⟩, hsn⟩ (by simp only; omega)
   ·refine Re.b2 (B35 _ 4 h4.2) fun r8 h8 => ?_
    refine Re.brb (Re.b2 (I7 _ _ h8) fun r9 h9 => ?_) (Re.ret ⟨hx, h8⟩)
    obtain ⟨⟨g1, g2⟩, g3⟩ := h9
    rw [C6 (show -9223372036854775808 ≤ ((xs.length : Nat) : Int) + 1 by omega) (by omega)] at g2
    have e2 : B8 (l.1 + r9.1) = l.1 + r9.1 := C6 (by omega) (by omega)
    rw [e2]
    obtain ⟨q, hq⟩ : ∃ q : Nat, r9.1 = q := ⟨r9.1.toNat, (Int.toNat_of_nonneg g1).symm⟩
    rw [hq]
    refine Re.s2 (Cf1 ⟨⟨by simp only; omega, by simp only; omega⟩, by simp only; omega, by omega, by omega⟩) ?_
    exact Re.b2 (Cm4 hx (by omega) (j := q) (by simp only; omega)) fun r11 h11 => Re.ret ⟨h11, g3⟩) (M6 l l.2.2.1.length, 0, c, l.2.2.1.take n) ⟨by simp only; omega, by simp; omega, hc, ⟨hTp, by simp only; omega⟩, E59 hw.2.2.2 n⟩
  simpa using this
 refine Re.brb (Re.b1 (I7 _ _ h2) fun r3 h3 => ?_) ?_
 ·obtain ⟨⟨g1, g2⟩, g3⟩ := h3
  rw [C6 (show -9223372036854775808 ≤ ((l.2.2.1.length : Nat) : Int) + 1 by omega) (by omega)] at g2
  exact Re.gdd g1 (Re.gdd (by omega) (Re.gdd (by simp [A2]; omega) (go _ _ g3)))
 ·exact Re.gdd (by omega) (Re.gdd (by omega) (Re.gdd (by simp [A2]; omega) (go _ _ h2)))
def WellJ (m : Nat) (j : A0) : Prop := (0 ≤ j.1 ∧ j.1 ≤ 4 + m) ∧ (0 ≤ j.2.1 ∧ j.2.1 ≤ 50 + 4 * m) ∧ (0 ≤ j.2.2.1 ∧ j.2.2.1 ≤ 4) ∧ WellL m j.2.2.2.1
theorem WellJ.ok {m : Nat} {j : A0} (h : WellJ m j) (hm : m ≤ 10) : jOk j = true := by
 unfold jOk
 simp only [Bool.and_eq_true]
 exact ⟨D6.2 ⟨h.1.1, by have := h.1.2; omega⟩, D6.2 ⟨h.2.1.1, by have := h.2.1.2; omega⟩, D6.2 h.2.2.1, M3.2 (h.2.2.2.ok hm)⟩
theorem WellJ.more {m : Nat} {j : A0} (h : WellJ m j) : WellJ (m + 1) j := ⟨⟨h.1.1, by have := h.1.2; omega⟩, ⟨h.2.1.1, by have := h.2.1.2; omega⟩, h.2.2.1, h.2.2.2.more⟩
theorem D28 (j : A0) (h : j.2.2.2.1.2.2.1.length ≤ 1000000) (k : Nat) : Ai1 k j = some j := by
 unfold Ai1
 rw [decide_eq_true (by simp; unfold A2; omega)]
 rfl
theorem Bl9 (c : A4) (h : CurOk c) (m : Nat) (hm : m ≤ 9) (j : A0) (hw : WellJ m j) : Re (fun k => Ab8 k c j) (fun r => (WellJ (m + 1) r.1 ∧ r.1.1 = j.1) ∧ CurOk r.2.1) := by
 obtain ⟨w1, w2, w3, w4⟩ := hw
 refine Re.s1 (D28 j (by have := w4.2.2.1; omega)) ?_
 refine Re.b1 (D27 c h m hm _ w4) fun r2 h2 => ?_
 refine Re.b1 (B35 _ 2 h2.2) fun r3 h3 => ?_
 refine Re.brb (Re.b1 (I7 _ 3 h3) fun r4 h4 => Re.b1 (I7 _ 5 h4.2) fun r5 h5 => Re.ret ⟨⟨⟨⟨w1.1, by simp only; omega⟩, ?_, ?_, h2.1⟩, rfl⟩, h5.2⟩) (Re.ret ⟨⟨⟨⟨w1.1, by simp only; omega⟩, ⟨w2.1, by simp only; omega⟩, w3, h2.1⟩, rfl⟩, h3⟩)
 ·obtain ⟨⟨a, b⟩, _⟩ := h4
  show 0 ≤ B8 (j.2.1 + r4.1) ∧ B8 (j.2.1 + r4.1) ≤ _
  rw [C6 (by omega) (by omega)]
  exact ⟨by omega, by omega⟩
 ·obtain ⟨⟨a, b⟩, _⟩ := h5
  show 0 ≤ r5.1 ∧ r5.1 ≤ 4
  exact ⟨a, by omega⟩
theorem Dj4 (c : A4) (h : CurOk c) : Re (fun k => Ah1 k c) (fun r => WellJ 0 r.1 ∧ CurOk r.2.1) := by
 refine Re.b1 (Eh8 c h) fun r1 h1 => ?_
 obtain ⟨⟨hR, h8⟩, hc⟩ := h1
 have hw : WellL 0 r1.1 := ⟨⟨hR.1.1, by have := hR.1.2; omega⟩, ⟨hR.2.1.1, by have := hR.2.1.2; omega⟩, by omega, hR.2.2.2⟩
 have hp := hw.ok (by omega)
 have hT0 : M6 r1.1 r1.1.2.2.1.length ≤ 40 := hR.2.2.2.2.1
 have hTp := B38 hp _ (Nat.le_refl _)
 refine Re.s1 (Ca0 _ hp.any) ?_
 refine Re.b1 (I7 _ 5 hc) fun r3 h3 => Re.b1 (I7 _ 2 h3.2) fun r4 h4 => Re.b1 (I7 _ 5 h4.2) fun r5 h5 => Re.ret ⟨⟨?_, ?_, ?_, hw⟩, h5.2⟩
 ·obtain ⟨⟨a, b⟩, _⟩ := h3
  exact ⟨a, by simp only; omega⟩
 ·obtain ⟨⟨a, b⟩, _⟩ := h4
  show 0 ≤ B8 (M6 r1.1 r1.1.2.2.1.length + r4.1) ∧ _
  rw [C6 (by omega) (by omega)]
  exact ⟨by omega, by simp only; omega⟩
 ·obtain ⟨⟨a, b⟩, _⟩ := h5
  exact ⟨a, by simp only; omega⟩
end Go.Vm
end
section
set_option linter.unusedVariables false
set_option linter.unusedSimpArgs false
namespace Go.Vm
open Go
def newN : ByteArray := ⟨#[106, 43]⟩
def J1 (n : Nat) : ByteArray := ⟨#[106, UInt8.ofNat (48 + n)]⟩
theorem A54 {P : Nat → Prop} (h : ∀ i : Fin 10, P i.1) {n : Nat} (hn : n ≤ 9) : P n := h ⟨n, by omega⟩
theorem Fl1 (n : Nat) : (J1 n).size = 2 := rfl
theorem Ba7 {n : Nat} (hn : n ≤ 9) : Bf8 newN (J1 n) = true ∧ Bf8 (J1 n) newN = false ∧ J1 n ≠ newN :=
 A54 (P := fun n => Bf8 newN (J1 n) = true ∧ Bf8 (J1 n) newN = false ∧ J1 n ≠ newN) (by decide +kernel) hn
theorem Db8 {m n : Nat} (hm : m ≤ 9) (hn : n ≤ 9) : (m < n → Bf8 (J1 m) (J1 n) = true ∧ Bf8 (J1 n) (J1 m) = false) ∧ (m ≠ n → J1 m ≠ J1 n) ∧ Bf8 (J1 n) (J1 n) = false :=
 A54 (P := fun m => ∀ n, n ≤ 9 → (m < n → Bf8 (J1 m) (J1 n) = true ∧ Bf8 (J1 n) (J1 m) = false) ∧ (m ≠ n → J1 m ≠ J1 n) ∧ Bf8 (J1 n) (J1 n) = false)
  (fun i n hn => A54 (P := fun n => (i.1 < n → Bf8 (J1 i.1) (J1 n) = true ∧ Bf8 (J1 n) (J1 i.1) = false) ∧ (i.1 ≠ n → J1 i.1 ≠ J1 n) ∧ Bf8 (J1 n) (J1 n) = false) (by revert i; decide +kernel) hn) hm n hn
theorem D29 {n : Nat} (hn : n ≤ 9) : Ev (fun k => A21 k (n : Int)) ⟨#[UInt8.ofNat (48 + n)]⟩ := by
 refine ⟨2, fun k hk => ?_⟩
 obtain ⟨k, rfl⟩ : ∃ m, k = m + 2 := ⟨k - 2, by omega⟩
 revert hn
 refine fun hn => A54 (P := fun n => A21 (k + 2) (n : Int) = some ⟨#[UInt8.ofNat (48 + n)]⟩) (fun i => ?_) hn
 match i with
 | ⟨0, _⟩ => (show _ = some _; kernel_rfl)
 | ⟨1, _⟩ => (show _ = some _; kernel_rfl)
 | ⟨2, _⟩ => (show _ = some _; kernel_rfl)
 | ⟨3, _⟩ => (show _ = some _; kernel_rfl)
 | ⟨4, _⟩ => (show _ = some _; kernel_rfl)
 | ⟨5, _⟩ => (show _ = some _; kernel_rfl)
 | ⟨6, _⟩ => (show _ = some _; kernel_rfl)
 | ⟨7, _⟩ => (show _ = some _; kernel_rfl)
 | ⟨8, _⟩ => (show _ = some _; kernel_rfl)
 | ⟨9, _⟩ => (show _ = some _; kernel_rfl)
theorem D30 {n : Nat} (hn : n ≤ 9) (k : Nat) : A26 k (n : Int) = some ⟨#[UInt8.ofNat (48 + n)]⟩ := by
 refine A54 (P := fun n => A26 k (n : Int) = some ⟨#[UInt8.ofNat (48 + n)]⟩) (fun i => ?_) hn
 match i with
 | ⟨0, _⟩ => (show _ = some _; kernel_rfl)
 | ⟨1, _⟩ => (show _ = some _; kernel_rfl)
 | ⟨2, _⟩ => (show _ = some _; kernel_rfl)
 | ⟨3, _⟩ => (show _ = some _; kernel_rfl)
 | ⟨4, _⟩ => (show _ = some _; kernel_rfl)
 | ⟨5, _⟩ => (show _ = some _; kernel_rfl)
 | ⟨6, _⟩ => (show _ = some _; kernel_rfl)
 | ⟨7, _⟩ => (show _ = some _; kernel_rfl)
 | ⟨8, _⟩ => (show _ = some _; kernel_rfl)
 | ⟨9, _⟩ => (show _ = some _; kernel_rfl)
theorem Fl2 (n : Nat) : (⟨#[106]⟩ : ByteArray) ++ ⟨#[UInt8.ofNat (48 + n)]⟩ = J1 n := by apply Ae0; simp [J1]
theorem B42 {n : Nat} (hn : n ≤ 9) : Ev (fun k => U8 k (n : Int)) (J1 n) := by
 refine Re.eq (Re.s1 (I0 · _ _ _) ?_)
 rw [D6.2 ⟨by omega, by omega⟩]
 refine Re.br (b := false) (fun h => by cases h) (fun _ => Re.c1 (D29 hn) (Re.gdd (by show 1 + 1 ≤ A2; decide) (Re.ret (Fl2 n))))
theorem Bf9 {n : Nat} (hn : n ≤ 9) : Ev (fun k => O6 k (n : Int)) (J1 n) := by
 refine Re.eq (Re.s1 (N0 · _ _ _) ?_)
 rw [D6.2 ⟨by omega, by omega⟩]
 refine Re.br (b := false) (fun h => by cases h) (fun _ => Re.s1 (D30 hn) (Re.gdd (by show 1 + 1 ≤ A2; decide) (Re.ret (Fl2 n))))
theorem Fp7 {n : Nat} (hn : n ≤ 9) (k : Nat) : m9 k (J1 n) (⟨#[106]⟩ : ByteArray) 999 = some (n : Int) := by
 refine A54 (P := fun n => m9 k (J1 n) (⟨#[106]⟩ : ByteArray) 999 = some (n : Int)) (fun i => ?_) hn
 match i with
 | ⟨0, _⟩ => (show _ = some _; kernel_rfl)
 | ⟨1, _⟩ => (show _ = some _; kernel_rfl)
 | ⟨2, _⟩ => (show _ = some _; kernel_rfl)
 | ⟨3, _⟩ => (show _ = some _; kernel_rfl)
 | ⟨4, _⟩ => (show _ = some _; kernel_rfl)
 | ⟨5, _⟩ => (show _ = some _; kernel_rfl)
 | ⟨6, _⟩ => (show _ = some _; kernel_rfl)
 | ⟨7, _⟩ => (show _ = some _; kernel_rfl)
 | ⟨8, _⟩ => (show _ = some _; kernel_rfl)
 | ⟨9, _⟩ => (show _ = some _; kernel_rfl)
theorem E60 (k : Nat) : m9 k newN (⟨#[106]⟩ : ByteArray) 999 = some (-1) := by kernel_rfl
end Go.Vm
end
section
set_option linter.unusedVariables false
set_option linter.unusedSimpArgs false
namespace Go.Vm
open Go
theorem Dw6 (a b : C4) (hl : a.2.2.1.length ≤ 1000000) (hb : a.2.2.1.length = b.2.2.1.length) : ∀ (m i : Nat), i + m = a.2.2.1.length → a.2.2.1.take i = b.2.2.1.take i → ∀ k n, m < n → j8 k n (i : Int) a b = some (eqd a.2.2.1 b.2.2.1)
 | 0, i, hm, ht, k, n, hn => by
  obtain ⟨n, rfl⟩ : ∃ q, n = q + 1 := ⟨n - 1, by omega⟩
  have e : a.2.2.1 = b.2.2.1 := by
   rwa [List.take_of_length_le (by omega), List.take_of_length_le (by omega)] at ht
  have d1 : decide ((i : Int) < (a.2.2.1.length : Int)) = false := decide_eq_false (by omega)
  simp only [j8, Az9, d1, br_false]
  rw [e, Aq9 rfl]
 | m + 1, i, hm, ht, k, n, hn => by
  obtain ⟨n, rfl⟩ : ∃ q, n = q + 1 := ⟨n - 1, by omega⟩
  have hi : i < a.2.2.1.length := by omega
  have hi2 : i < b.2.2.1.length := by omega
  have d1 : decide ((i : Int) < (a.2.2.1.length : Int)) = true := decide_eq_true (by omega)
  have d3 : decide ((i : Int) < (b.2.2.1.length : Int)) = true := decide_eq_true (by omega)
  have d2 : decide (0 ≤ (i : Int)) = true := decide_eq_true (Int.natCast_nonneg _)
  have ei : B8 ((i : Int) + 1) = ((i + 1 : Nat) : Int) := by rw [C6 (by omega) (by omega)]; rfl
  simp only [j8, Az9, d1, d2, d3, br_true, gd_true, Int.toNat_natCast, ei, Au6]
  cases he : eqd (rd B2 a.2.2.1 i) (rd B2 b.2.2.1 i) with
  | true =>
   have he := S5.1 he
   have ht2 : a.2.2.1.take (i + 1) = b.2.2.1.take (i + 1) := by
    rw [← Z9 hi2 ht, ← Z9 hi rfl, he]
   exact Dw6 a b hl hb m (i + 1) (by omega) ht2 k n (by omega)
  | false =>
   have hne : a.2.2.1 ≠ b.2.2.1 := fun e => by
    rw [e, Aq9 rfl] at he; cases he
   rw [Z7 hne]
   rfl
theorem Db9 (a b : C4) (hl : a.2.2.1.length ≤ 1000000) (hb : a.2.2.1.length = b.2.2.1.length) : ∀ (m i : Nat), i + m = a.2.2.1.length → a.2.2.1.take i = b.2.2.1.take i → ∀ k n, m < n → m8 k n (i : Int) a b = some (eqd a.2.2.1 b.2.2.1)
 | 0, i, hm, ht, k, n, hn => by
  obtain ⟨n, rfl⟩ : ∃ q, n = q + 1 := ⟨n - 1, by omega⟩
  have e : a.2.2.1 = b.2.2.1 := by
   rwa [List.take_of_length_le (by omega), List.take_of_length_le (by omega)] at ht
  have d1 : decide ((i : Int) < (a.2.2.1.length : Int)) = false := decide_eq_false (by omega)
  simp only [m8, A03, d1, br_false]
  rw [e, Aq9 rfl]
 | m + 1, i, hm, ht, k, n, hn => by
  obtain ⟨n, rfl⟩ : ∃ q, n = q + 1 := ⟨n - 1, by omega⟩
  have hi : i < a.2.2.1.length := by omega
  have hi2 : i < b.2.2.1.length := by omega
  have d1 : decide ((i : Int) < (a.2.2.1.length : Int)) = true := decide_eq_true (by omega)
  have d3 : decide ((i : Int) < (b.2.2.1.length : Int)) = true := decide_eq_true (by omega)
  have d2 : decide (0 ≤ (i : Int)) = true := decide_eq_true (Int.natCast_nonneg _)
  have ei : B8 ((i : Int) + 1) = ((i + 1 : Nat) : Int) := by rw [C6 (by omega) (by omega)]; rfl
  simp only [m8, A03, d1, d2, d3, br_true, gd_true, Int.toNat_natCast, ei, Au6]
  cases he : eqd (rd B2 a.2.2.1 i) (rd B2 b.2.2.1 i) with
  | true =>
   have he := S5.1 he
   have ht2 : a.2.2.1.take (i + 1) = b.2.2.1.take (i + 1) := by
    rw [← Z9 hi2 ht, ← Z9 hi rfl, he]
   exact Db9 a b hl hb m (i + 1) (by omega) ht2 k n (by omega)
  | false =>
   have hne : a.2.2.1 ≠ b.2.2.1 := fun e => by
    rw [e, Aq9 rfl] at he; cases he
   rw [Z7 hne]
   rfl
theorem Dc0 (a b : C4) (hl : a.2.2.1.length ≤ 1000000) (hb : a.2.2.1.length = b.2.2.1.length) : ∀ (m i : Nat), i + m = a.2.2.1.length → a.2.2.1.take i = b.2.2.1.take i → ∀ k n, m < n → E4 k n a.2.2.1 b.2.2.1 (i : Int) = some (eqd a.2.2.1 b.2.2.1)
 | 0, i, hm, ht, k, n, hn => by
  obtain ⟨n, rfl⟩ : ∃ q, n = q + 1 := ⟨n - 1, by omega⟩
  have e : a.2.2.1 = b.2.2.1 := by
   rwa [List.take_of_length_le (by omega), List.take_of_length_le (by omega)] at ht
  have d1 : decide ((i : Int) < (a.2.2.1.length : Int)) = false := decide_eq_false (by omega)
  simp only [E4, I6, d1, br_false]
  rw [e, Aq9 rfl]
 | m + 1, i, hm, ht, k, n, hn => by
  obtain ⟨n, rfl⟩ : ∃ q, n = q + 1 := ⟨n - 1, by omega⟩
  have hi : i < a.2.2.1.length := by omega
  have hi2 : i < b.2.2.1.length := by omega
  have d1 : decide ((i : Int) < (a.2.2.1.length : Int)) = true := decide_eq_true (by omega)
  have d3 : decide ((i : Int) < (b.2.2.1.length : Int)) = true := decide_eq_true (by omega)
  have d2 : decide (0 ≤ (i : Int)) = true := decide_eq_true (Int.natCast_nonneg _)
  have ei : B8 ((i : Int) + 1) = ((i + 1 : Nat) : Int) := by rw [C6 (by omega) (by omega)]; rfl
  simp only [E4, I6, d1, d2, d3, br_true, gd_true, Int.toNat_natCast, ei, Au6]
  cases he : eqd (rd B2 a.2.2.1 i) (rd B2 b.2.2.1 i) with
  | true =>
   have he := S5.1 he
   have ht2 : a.2.2.1.take (i + 1) = b.2.2.1.take (i + 1) := by
    rw [← Z9 hi2 ht, ← Z9 hi rfl, he]
   exact Dc0 a b hl hb m (i + 1) (by omega) ht2 k n (by omega)
  | false =>
   have hne : a.2.2.1 ≠ b.2.2.1 := fun e => by
    rw [e, Aq9 rfl] at he; cases he
   rw [Z7 hne]
   rfl
theorem D31 {a b : C4} (h1 : a.1 = b.1) (h2 : a.2.1 = b.2.1) (h3 : a.2.2.1 = b.2.2.1) : a = b := Prod.ext h1 (Prod.ext h2 (Prod.ext h3 rfl))
theorem E61 (a b : C4) (hl : a.2.2.1.length ≤ 1000000) : Ev (fun k => Be6 k a b) (eqd a b) := by
 refine Re.eq (Re.brn (fun h => Re.ret (Z7 fun e => h (by rw [e])).symm) (fun h1 => Re.brn (fun h => Re.ret (Z7 fun e => h (by rw [e])).symm) (fun h2 => Re.brn (fun h => Re.ret (Z7 fun e => h (by rw [e])).symm) (fun h3 => ?_))))
 have h3 : a.2.2.1.length = b.2.2.1.length := Int.ofNat_inj.1 h3
 refine ⟨_, ?_, a.2.2.1.length + 1, fun k hk => Dw6 a b hl h3 a.2.2.1.length 0 (Nat.zero_add _) rfl k k (by have : a.2.2.1.length + 1 ≤ k := hk; omega)⟩
 show eqd a.2.2.1 b.2.2.1 = eqd a b
 rw [Bool.eq_iff_iff, S5, S5]
 exact ⟨fun h => D31 h1 h2 h, fun h => by rw [h]⟩
theorem Bw2 (a b : C4) (hl : a.2.2.1.length ≤ 1000000) : Ev (fun k => Aq5 k a b) (eqd a b) := by
 refine Re.eq (Re.brn (fun h => Re.ret (Z7 fun e => h (by rw [e])).symm) (fun h1 => Re.brn (fun h => Re.ret (Z7 fun e => h (by rw [e])).symm) (fun h2 => Re.brn (fun h => Re.ret (Z7 fun e => h (by rw [e])).symm) (fun h3 => ?_))))
 have h3 : a.2.2.1.length = b.2.2.1.length := Int.ofNat_inj.1 h3
 refine ⟨_, ?_, a.2.2.1.length + 1, fun k hk => Db9 a b hl h3 a.2.2.1.length 0 (Nat.zero_add _) rfl k k (by have : a.2.2.1.length + 1 ≤ k := hk; omega)⟩
 show eqd a.2.2.1 b.2.2.1 = eqd a b
 rw [Bool.eq_iff_iff, S5, S5]
 exact ⟨fun h => D31 h1 h2 h, fun h => by rw [h]⟩
theorem E62 (a b : C4) (hl : a.2.2.1.length ≤ 1000000) : Ev (fun k => H7 k a.2.2.1 b.2.2.1) (eqd a.2.2.1 b.2.2.1) := by
 refine Re.eq (Re.brn (fun h => Re.ret (Z7 fun e => h (by rw [e])).symm) (fun h3 => ?_))
 have h3 : a.2.2.1.length = b.2.2.1.length := Int.ofNat_inj.1 h3
 exact ⟨_, rfl, a.2.2.1.length + 1, fun k hk => Dc0 a b hl h3 a.2.2.1.length 0 (Nat.zero_add _) rfl k k (by have : a.2.2.1.length + 1 ≤ k := hk; omega)⟩
theorem D32 (a b : C4) (hl : a.2.2.1.length ≤ 1000000) : Ev (fun k => Bf2 k a b) (eqd a b) := by
 refine Re.eq (Re.bre (fun h1 => Re.bre (fun h2 => Re.c1 (E62 a b hl) (Re.ret ?_)) (fun h => Re.ret (Z7 fun e => h (by rw [e])).symm)) (fun h => Re.ret (Z7 fun e => h (by rw [e])).symm))
 rw [Bool.eq_iff_iff, S5, S5]
 exact ⟨fun h => D31 h1 h2 h, fun h => by rw [h]⟩
theorem Gh0 {a b : A0} (h1 : a.1 = b.1) (h2 : a.2.1 = b.2.1) (h3 : a.2.2.1 = b.2.2.1) (h4 : a.2.2.2.1 = b.2.2.2.1) : a = b := Prod.ext h1 (Prod.ext h2 (Prod.ext h3 (Prod.ext h4 rfl)))
theorem Dc1 (a b : A0) (hl : a.2.2.2.1.2.2.1.length ≤ 1000000) : Ev (fun k => A23 k a b) (eqd a b) := by
 refine Re.eq (Re.bre (fun h1 => Re.bre (fun h2 => Re.bre (fun h3 => Re.c1 (E61 _ _ hl) (Re.ret ?_)) (fun h => Re.ret (Z7 fun e => h (by rw [e])).symm)) (fun h => Re.ret (Z7 fun e => h (by rw [e])).symm)) (fun h => Re.ret (Z7 fun e => h (by rw [e])).symm))
 rw [Bool.eq_iff_iff, S5, S5]
 exact ⟨fun h => Gh0 h1 h2 h3 h, fun h => by rw [h]⟩
theorem E63 (a b : A0) (hl : a.2.2.2.1.2.2.1.length ≤ 1000000) : Ev (fun k => Ae8 k a b) (eqd a b) := by
 refine Re.eq (Re.bre (fun h1 => Re.bre (fun h2 => Re.bre (fun h3 => Re.c1 (D32 _ _ hl) (Re.ret ?_)) (fun h => Re.ret (Z7 fun e => h (by rw [e])).symm)) (fun h => Re.ret (Z7 fun e => h (by rw [e])).symm)) (fun h => Re.ret (Z7 fun e => h (by rw [e])).symm))
 rw [Bool.eq_iff_iff, S5, S5]
 exact ⟨fun h => Gh0 h1 h2 h3 h, fun h => by rw [h]⟩
structure OneJ (d : List C7) (j : A0) (n : Nat) (T : ByteArray) : Prop where
 num : j.1 = (n : Int)
 disk : d = [(J1 n, T, (T.size : Int), ())]
 file : ∃ s t rs, T = Bv9 s t rs ∧ JChain (Ap5 (n : Int) s t) rs ∧ Aj0 (Ap5 (n : Int) s t) rs = j ∧ LogP (s, t, [], ())
 ok : jOk j = true
 size : T.size ≤ 10000
theorem B43 {n : Nat} {T : ByteArray} {j : A0} (hf : ∃ s t rs, T = Bv9 s t rs ∧ JChain (Ap5 (n : Int) s t) rs ∧ Aj0 (Ap5 (n : Int) s t) rs = j ∧ LogP (s, t, [], ())) (hn : n ≤ 9) (hs : T.size ≤ 10000) :
  Ev (fun k => p7 k (n : Int) T) (j, (T.size : Int), true) ∧ Ev (fun k => N2 k (n : Int) T) (j, (T.size : Int), true) := by
 obtain ⟨s, t, rs, hT, hc, hj, h0⟩ := hf
 have := Ge4 (n : Int) s t rs ⟨#[]⟩ ⟨by omega, by omega⟩ h0 hc F02 (by rw [D15, ← hT]; omega)
 rw [D15, ← hT, hj] at this
 exact this
theorem B44 {j : A0} {n : Nat} (h : jOk j = true) (hn : j.1 = (n : Int)) : (∃ s t rs, t7 j = Bv9 s t rs ∧ JChain (Ap5 (n : Int) s t) rs ∧ Aj0 (Ap5 (n : Int) s t) rs = j ∧ LogP (s, t, [], ())) ∧ (t7 j).size ≤ 10000 := by
 obtain ⟨h1, h2, h3, h4⟩ := P3 h
 obtain ⟨g1, g2⟩ := Ei1 h (n : Int)
 refine ⟨⟨_, _, _, rfl, g1, g2.trans (Prod.ext hn.symm rfl), F07 h4⟩, ?_⟩
 have := Db5 h
 have := h4.2.2.1
 omega
theorem Dw7 {j : A0} {n : Nat} (h : jOk j = true) (hn : j.1 = (n : Int)) : OneJ [(J1 n, t7 j, ((t7 j).size : Int), ())] j n (t7 j) :=
 ⟨hn, rfl, (B44 h hn).1, h, (B44 h hn).2⟩
end Go.Vm
end
section
set_option linter.unusedVariables false
set_option linter.unusedSimpArgs false
namespace Go.Vm
open Go
def Dc2 (n : Nat) (t : ByteArray) : List E8 := [(1, newN, t, ByteArray.empty, ()), (2, newN, ByteArray.empty, ByteArray.empty, ()), (3, newN, ByteArray.empty, J1 (n + 1), ()), (4, J1 n, ByteArray.empty, ByteArray.empty, ())]
def F11 (n : Nat) (more : ByteArray) : List E8 := [(1, J1 n, more, ByteArray.empty, ()), (2, J1 n, ByteArray.empty, ByteArray.empty, ())]
theorem Fp8 {a0 a1 : A0} {n : Nat} (h0 : a0.1 = (n : Int)) (hn : n + 1 ≤ 9) (ok : jOk (((n + 1 : Nat) : Int), a1.2) = true) :
  Ev (fun k => H4 k a0 a1) (Dc2 n (t7 (((n + 1 : Nat) : Int), a1.2)), (((n + 1 : Nat) : Int), a1.2), true) := by
 have e : B8 (a0.1 + 1) = ((n + 1 : Nat) : Int) := by rw [h0, C6 (by omega) (by omega)]; rfl
 have hl := (P3 ok).2.2.2.2.2.1
 unfold H4
 rw [e, h0]
 refine Re.eq (Re.c1 (Cf6 ok).1 (Re.br (b := false) (fun h => by cases h) (fun _ => ?_)))
 exact Re.c1 (B42 hn) (Re.c1 (B42 (by omega)) (Re.s1 (D28 _ (by simp only at hl ⊢; omega)) (Re.ret rfl)))
theorem Gh1 (n : Nat) : ((J1 n).toList == (⟨#[]⟩ : ByteArray).toList) = false := by
 rw [Y9]
 exact decide_eq_false fun h => by
  have := congrArg ByteArray.size h
  rw [Fl1] at this
  cases this
theorem Fp9 {a1 : A0} {n : Nat} (hn : n + 1 ≤ 9) (ok : jOk (((n + 1 : Nat) : Int), a1.2) = true) :
  Ev (fun k => W7 k (n : Int) a1) (Dc2 n (t7 (((n + 1 : Nat) : Int), a1.2)), (((n + 1 : Nat) : Int), a1.2), true) := by
 have e : B8 ((n : Int) + 1) = ((n + 1 : Nat) : Int) := by rw [C6 (by omega) (by omega)]; rfl
 have hl := (P3 ok).2.2.2.2.2.1
 unfold W7
 rw [e]
 refine Re.eq (Re.s1 (v := a1.2.2.2.1) (fun k => by unfold I2; rw [decide_eq_true (by simp only at hl; unfold A2; omega)]; rfl) ?_)
 refine Re.c1 (Cf6 ok).2 (Re.c1 (Bf9 hn) (Re.br (b := false) (fun h => by cases h) (fun _ => ?_)))
 rw [Gh1]
 exact Re.br (b := false) (fun h => by cases h) (fun _ => Re.c1 (Bf9 (by omega)) (Re.ret rfl))
noncomputable def Ct4 (old now : A0) : List JRec := bif eqd old.2.1 now.2.1 && eqd old.2.2.1 now.2.2.1 then [] else [.hard now.2.1 now.2.2.1]
noncomputable def Bg0 (old now : A0) (c : Nat) : List JRec := Ct4 old now ++ M4 now.2.2.2.1 c
def F12 (old now j : A0) : Prop := j.1 = old.1 ∧ ((j.2.1 = old.2.1 ∧ j.2.2.1 = old.2.2.1) ∨ (j.2.1 = now.2.1 ∧ j.2.2.1 = now.2.2.1)) ∧ (j.2.2.2.1 = old.2.2.2.1 ∨ ∃ m, j.2.2.2.1 = (now.2.2.2.1.1, now.2.2.2.1.2.1, now.2.2.2.1.2.2.1.take m, ()))
structure Upto (a b : C4) (c : Nat) : Prop where
 st : a.1 = b.1
 tm : a.2.1 = b.2.1
 la : c ≤ a.2.2.1.length
 lb : c ≤ b.2.2.1.length
 eq : a.2.2.1.take c = b.2.2.1.take c
 no : c = b.2.2.1.length → a.2.2.1.length = c
theorem Ei4 {l : C4} {c q : Nat} : (M4 l c).take q = M4 (l.1, l.2.1, l.2.2.1.take (c + q), ()) c := by
 unfold M4
 rw [Db4]
 congr 1
 rw [List.drop_take, show c + q - c = q by omega]
theorem Cm5 {j : A0} {b : C4} {c : Nat} (h : Upto j.2.2.2.1 b c) (hj : LogP j.2.2.2.1) (hb : LogP b) : JChain j (M4 b c) ∧ Aj0 j (M4 b c) = (j.1, j.2.1, j.2.2.1, b, ()) :=
 Ca2 b hb (b.2.2.1.length - c) c j (by have := h.lb; omega) hj h.st h.tm h.la h.eq (fun e => h.no (by have := h.lb; omega))
theorem Ei5 {j : A0} {b : C4} {c : Nat} (h : Upto j.2.2.2.1 b c) (hj : LogP j.2.2.2.1) (hb : LogP b) (q : Nat) : ∃ l, Aj0 j ((M4 b c).take q) = (j.1, j.2.1, j.2.2.1, l, ()) ∧ (l = j.2.2.2.1 ∨ ∃ m, l = (b.1, b.2.1, b.2.2.1.take m, ())) := by
 by_cases hq : q = 0 ∨ c = b.2.2.1.length
 ·refine ⟨j.2.2.2.1, ?_, .inl rfl⟩
  have : (M4 b c).take q = [] := by
   rcases hq with rfl | rfl
   ·rfl
   ·rw [A97 (Nat.le_refl _), List.take_nil]
  rw [this]
  rfl
 ·have hlb := h.lb
  have hU : Upto j.2.2.2.1 (b.1, b.2.1, b.2.2.1.take (c + q), ()) c := ⟨h.st, h.tm, h.la, by simp only [List.length_take]; omega, by
   simp only [List.take_take]
   rw [Nat.min_eq_left (by omega)]; exact h.eq, fun e => by simp only [List.length_take] at e; omega⟩
  have := (Cm5 hU hj (hb.take _)).2
  rw [Ei4]
  exact ⟨_, this, .inr ⟨c + q, rfl⟩⟩
theorem Dw8 {old now : A0} {c : Nat} (ho : jOk old = true) (hw : jOk now = true) (h : Upto old.2.2.2.1 now.2.2.2.1 c) :
  JChain old (Bg0 old now c) ∧ Aj0 old (Bg0 old now c) = (old.1, now.2) ∧ ∀ p, F12 old now (Aj0 old ((Bg0 old now c).take p)) := by
 obtain ⟨o1, o2, o3, o4⟩ := P3 ho
 obtain ⟨w1, w2, w3, w4⟩ := P3 hw
 unfold Bg0 Ct4
 cases hb : eqd old.2.1 now.2.1 && eqd old.2.2.1 now.2.2.1 with
 | true =>
  rw [Bool.and_eq_true] at hb
  have e1 := S5.1 hb.1
  have e2 := S5.1 hb.2
  obtain ⟨g1, g2⟩ := Cm5 (j := old) h o4 w4
  refine ⟨g1, g2.trans (by rw [e1, e2]), fun p => ?_⟩
  obtain ⟨l, k1, k2⟩ := Ei5 (j := old) h o4 w4 p
  show F12 old now (Aj0 old ((M4 now.2.2.2.1 c).take p))
  rw [k1]
  exact ⟨rfl, .inl ⟨rfl, rfl⟩, k2⟩
 | false =>
  obtain ⟨g1, g2⟩ := Cm5 (j := (old.1, now.2.1, now.2.2.1, old.2.2.2)) h o4 w4
  refine ⟨⟨⟨w2, w3⟩, trivial, g1⟩, g2, fun p => ?_⟩
  cases p with
  | zero => exact ⟨rfl, .inl ⟨rfl, rfl⟩, .inl rfl⟩
  | succ p =>
   obtain ⟨l, k1, k2⟩ := Ei5 (j := (old.1, now.2.1, now.2.2.1, old.2.2.2)) h o4 w4 p
   show F12 old now (Aj0 (old.1, now.2.1, now.2.2.1, old.2.2.2) ((M4 now.2.2.2.1 c).take p))
   rw [k1]
   exact ⟨rfl, .inr ⟨rfl, rfl⟩, k2⟩
inductive ActsR (old now : A0) (n : Nat) (T : ByteArray) : List E8 → A0 → Prop where
 | stay : (old.1, now.2) = old → ActsR old now n T [] (old.1, now.2)
 | grow (c : Nat) : Upto old.2.2.2.1 now.2.2.2.1 c → T.size ≤ 400 → ActsR old now n T (F11 n (B5 ((Bg0 old now c).map JRec.bytes))) (old.1, now.2)
 | anew : ActsR old now n T (Dc2 n (t7 (((n + 1 : Nat) : Int), now.2))) (((n + 1 : Nat) : Int), now.2)
def Bw3 (old now : A0) (n : Nat) (T : ByteArray) (r : List E8 × A0 × Bool) : Prop := r.2.2 = true ∧ ActsR old now n T r.1 r.2.1
theorem Ah5 (old now : A0) (c : Nat) : B5 ((Bg0 old now c).map JRec.bytes) = B5 ((Ct4 old now).map JRec.bytes) ++ Cf5 now.2.2.2.1 c := by
 unfold Bg0 Cf5
 rw [List.map_append, O8]
theorem Bw4 {old now : A0} (h : old.2.1 ≠ now.2.1 ∨ old.2.2.1 ≠ now.2.2.1) : B5 ((Ct4 old now).map JRec.bytes) = Ct0 now.2.1 now.2.2.1 := by
 unfold Ct4
 have : (eqd old.2.1 now.2.1 && eqd old.2.2.1 now.2.2.1) = false := by
  rcases h with h | h
  ·rw [Z7 h]; rfl
  ·rw [Z7 h, Bool.and_false]
 rw [this]
 exact j4 _
theorem D33 {old now : A0} (h1 : old.2.1 = now.2.1) (h2 : old.2.2.1 = now.2.2.1) : B5 ((Ct4 old now).map JRec.bytes) = ⟨#[]⟩ := by
 unfold Ct4
 rw [Aq9 h1, Aq9 h2]
 rfl
end Go.Vm
end
section
set_option linter.unusedVariables false
set_option linter.unusedSimpArgs false
namespace Go.Vm
open Go
theorem Dc3 (nm T : ByteArray) (z : Int) : Bw1 [(nm, T, z, ())] nm = (T, true) := by
 unfold Bw1 atF
 rw [decide_eq_true rfl]
 rfl
theorem Fq0 {nm x T : ByteArray} {z : Int} (h : nm ≠ x) : Bw1 [(nm, T, z, ())] x = (⟨#[]⟩, false) := by
 unfold Bw1 atF atF
 rw [decide_eq_false h]
 rfl
theorem Af1 {n : Nat} {T : ByteArray} {z : Int} (hT : T.size ≤ 20000) (hz : 0 ≤ z ∧ z ≤ T.size) : Al4 [(J1 n, T, z, ())] := by
 refine ⟨by simp, fun i hi => ?_⟩
 have h0 : i = 0 := by simp at hi; exact hi
 subst h0
 exact ⟨⟨⟨by show 1 ≤ 2; omega, by show 2 ≤ 8; omega⟩, hT, hz.1, hz.2⟩, fun h => absurd h (by omega)⟩
theorem Ei6 : ∀ {rs : List ByteArray}, B5 rs = ⟨#[]⟩ → rs = []
 | [], _ => rfl
 | t :: r, h => by
  have := congrArg ByteArray.size h
  rw [B5, C8, j3] at this
  have h0 : (⟨#[]⟩ : ByteArray).size = 0 := rfl
  omega
theorem E64 (l : C4) (h : l.2.2.1.length ≤ 1000000) (k : Nat) : I2 k l = some l := by
 unfold I2
 rw [decide_eq_true (by unfold A2; omega)]
 rfl
section
variable {d : List C7} {old now : A0} {n : Nat} {T : ByteArray}
theorem D34 {c : Nat} (hU : Upto old.2.2.2.1 now.2.2.2.1 c) (hT : T.size ≤ 400) {more : ByteArray} (hm : more = B5 ((Bg0 old now c).map JRec.bytes)) :
  Bw3 old now n T ([(1, J1 n, more, ByteArray.empty, ()), (2, J1 n, ByteArray.empty, ByteArray.empty, ())], (old.1, now.2), true) := by
 subst hm
 exact ⟨rfl, .grow c hU hT⟩
theorem Gj7 {c : Nat} (ho : jOk old = true) (hw : jOk now = true) (hU : Upto old.2.2.2.1 now.2.2.2.1 c) {more : ByteArray} (hm : more = B5 ((Bg0 old now c).map JRec.bytes)) (h0 : more = ⟨#[]⟩) :
  Bw3 old now n T ([], (old.1, now.2), true) := by
 rw [h0] at hm
 have h1 := List.map_eq_nil_iff.1 (Ei6 hm.symm)
 have h2 := (Dw8 ho hw hU).2.1
 rw [h1] at h2
 exact ⟨rfl, .stay h2.symm⟩
theorem Cm6 (hG : OneJ d old n T) (hn : n + 1 ≤ 9) (hw : jOk now = true) (hnum : now.1 = old.1) : Re (fun k => U9 k (d, ()) old now) (Bw3 old now n T) := by
 obtain ⟨g1, g2, g3, g4, g5⟩ := hG
 subst g2
 obtain ⟨o1, o2, o3, o4⟩ := P3 g4
 obtain ⟨w1, w2, w3, w4⟩ := P3 hw
 have hne := Ba7 (n := n) (by omega)
 have hok1 : jOk (((n + 1 : Nat) : Int), now.2) = true := by
  unfold jOk
  simp only [Bool.and_eq_true]
  exact ⟨D6.2 ⟨by omega, by omega⟩, D6.2 w2, D6.2 w3, M3.2 w4⟩
 have hok0 : jOk (0, now.2) = true := by
  unfold jOk
  simp only [Bool.and_eq_true]
  exact ⟨rfl, D6.2 w2, D6.2 w3, M3.2 w4⟩
 have h60 := o4.2.2.1
 have h61 := w4.2.2.1
 have hR := (B43 g3 (by omega) g5).1
 have hF1 := (B41 [(J1 n, T, (T.size : Int), ())] (J1 n) (by simp)).1
 have hF2 := (B41 [(J1 n, T, (T.size : Int), ())] newN (by simp)).1
 rw [Dc3] at hF1
 rw [Fq0 hne.2.2] at hF2
 have hN := B42 (n := n) (by omega)
 unfold U9 Ax0
 rw [g1]
 refine Re.c1 hN (Re.c1 hF1 (Re.c1 hR (Re.c1 hF2 (Re.c1 (S8 _ (Af1 (by omega) ⟨by omega, by omega⟩)) ?_))))
 refine Re.br (b := false) (fun h => by cases h) (fun _ => Re.c1 (A53 old o4.small) ?_)
 rw [g4]
 refine Re.br (b := false) (fun h => by cases h) (fun _ => Re.c1 (A53 (0, now.2) w4.small) ?_)
 rw [hok0]
 refine Re.br (b := false) (fun h => by cases h) (fun _ => Re.s1 (I0 · _ _ _) ?_)
 rw [D6.2 w1]
 refine Re.br (b := false) (fun h => by cases h) (fun _ => ?_)
 refine Re.br (b := false) (fun h => by cases h) (fun _ => ?_)
 refine Re.br (b := false) (fun h => by cases h) (fun _ => ?_)
 refine Re.brn (fun h => absurd rfl h) (fun _ => Re.c1 (Dc1 old old (by omega)) ?_)
 rw [Aq9 rfl]
 refine Re.br (b := false) (fun h => by cases h) (fun _ => ?_)
 refine Re.br (b := false) (fun h => by cases h) (fun _ => Re.s1 (D28 ((n : Int), now.2) (by simp only; omega)) (Re.c1 (Dc1 old ((n : Int), now.2) (by omega)) ?_))
 refine Re.br (fun h => Re.ret ⟨rfl, ?_⟩) (fun _ => ?_)
 ·have := S5.1 h
  have e : ((n : Int), now.2) = (old.1, now.2) := by rw [g1]
  rw [e] at this ⊢
  exact .stay this.symm
 refine Re.enter (f := fun k q => Q1 k q (J1 n) (T, true) 0 old now ((n : Int), now.2)) L8 ?_
 have e0 : ((n : Int), now.2) = (old.1, now.2) := by rw [g1]
 rw [e0]
 have anewC : Re (fun x : Nat × Nat => bd (H4 x.1 old now) fun r => some (r.1, r.2.1, r.2.2)) (Bw3 old now n T) := Re.c2 (Fp8 g1 hn hok1) (Re.ret ⟨rfl, .anew⟩)
 have growC : ∀ i, Upto old.2.2.2.1 now.2.2.2.1 i → T.size ≤ 400 → Re (fun x : Nat × Nat => br (old.2.1 != now.2.1) (bd (L9 x.1 now.2.1 now.2.2.1) fun r24 => (bd (F6 x.1 now.2.2.2.1 (i : Int)) fun r25 => (gd (decide (r24.size + r25.size ≤ A2)) (some (([(1, J1 n, (r24 ++ r25), ByteArray.empty, ()), (2, J1 n, ByteArray.empty, ByteArray.empty, ())] : List E8), (old.1, now.2), true)))))
   (br (old.2.2.1 != now.2.2.1) (bd (L9 x.1 now.2.1 now.2.2.1) fun r24 => (bd (F6 x.1 now.2.2.2.1 (i : Int)) fun r25 => (gd (decide (r24.size + r25.size ≤ A2)) (some (([(1, J1 n, (r24 ++ r25), ByteArray.empty, ()), (2, J1 n, ByteArray.empty, ByteArray.empty, ())] : List E8), (old.1, now.2), true)))))
    (bd (F6 x.1 now.2.2.2.1 (i : Int)) fun r25 => (gd (decide ((⟨#[]⟩ : ByteArray).size + r25.size ≤ A2)) (some (([(1, J1 n, ((⟨#[]⟩ : ByteArray) ++ r25), ByteArray.empty, ()), (2, J1 n, ByteArray.empty, ByteArray.empty, ())] : List E8), (old.1, now.2), true)))))) (Bw3 old now n T) := by
  intro i hU hT
  have hH := Dw2 (t := now.2.1) (v := now.2.2.1) ⟨w2.1, by omega⟩ ⟨w3.1, by omega⟩
  have hFr := (Cm0 _ w4 i hU.lb).1
  have z1 := (Ac8 (c := 72) (a := now.2.1) (b := now.2.2.1) ⟨w2.1, by omega⟩ ⟨w3.1, by omega⟩).2
  have z2 := Ar2 _ w4 (now.2.2.2.1.2.2.1.length - i) i (by have := hU.lb; omega)
  have z3 : (Ct0 now.2.1 now.2.2.1).size ≤ 20 := z1
  have z0 : (⟨#[]⟩ : ByteArray).size = 0 := rfl
  refine Re.brn (fun h => Re.c2 hH (Re.c2 hFr (Re.gdd (by unfold A2; omega) (Re.ret (D34 hU hT ?_))))) (fun h5 => Re.brn (fun h => Re.c2 hH (Re.c2 hFr (Re.gdd (by unfold A2; omega) (Re.ret (D34 hU hT ?_))))) (fun h6 => Re.c2 hFr (Re.gdd (by unfold A2; omega) (Re.ret (D34 hU hT ?_)))))
  ·rw [Ah5, Bw4 (.inl h)]
  ·rw [Ah5, Bw4 (.inr h)]
  ·rw [Ah5, D33 h5 h6]
 have := Re.loop (ι := Nat) (l := fun k q (i : Nat) => Q1 k q (J1 n) (T, true) (i : Int) old now (old.1, now.2)) (I := fun i => i ≤ old.2.2.2.1.2.2.1.length ∧ i ≤ now.2.2.2.1.2.2.1.length ∧ old.2.2.2.1.2.2.1.take i = now.2.2.2.1.2.2.1.take i) (fun i => old.2.2.2.1.2.2.1.length - i) (Q := fun _ => Bw3 old now n T) (fun i hi ih => by
  obtain ⟨i1, i2, i3⟩ := hi
  have ei : B8 ((i : Int) + 1) = ((i + 1 : Nat) : Int) := by rw [C6 (by omega) (by omega)]; rfl
  simp only [Q1, Aq0, Int.toNat_natCast, Au6, ei]
  refine Re.brd (fun q1 => ?_) (fun q1 => ?_)
  ·refine Re.brd (fun q2 => ?_) (fun q2 => ?_)
   ·refine Re.gdd (by omega) (Re.gdd q1 (Re.gdd (by omega) (Re.gdd q2 ?_)))
    have ha : i < old.2.2.2.1.2.2.1.length := by omega
    have hb : i < now.2.2.2.1.2.2.1.length := by omega
    refine Re.br (fun q3 => ?_) (fun q3 => ?_)
    ·refine ih (i + 1) ⟨by omega, by omega, ?_⟩ (by omega)
     rw [← Z9 hb i3, ← Z9 ha rfl, S5.1 q3]
    ·refine Re.bre (fun q4 => absurd q4 (by omega)) (fun q4 => ?_)
     refine Re.brn (fun _ => anewC) (fun h1 => Re.brn (fun _ => anewC) (fun h2 => Re.brd (fun _ => anewC) (fun h4 => ?_)))
     exact growC i ⟨h1, h2, i1, i2, i3, fun e => absurd e (by omega)⟩ (by have h4 : ¬ ((T.size : Nat) : Int) > 400 := h4; omega)
   ·refine Re.bre (fun q4 => ?_) (fun q4 => absurd (show (i : Int) = now.2.2.2.1.2.2.1.length by omega) q4)
    refine Re.brn (fun _ => anewC) (fun h1 => Re.brn (fun _ => anewC) (fun h2 => ?_))
    exact Re.brd (fun _ => anewC) (fun h3 => absurd q1 h3)
  ·refine Re.bre (fun q4 => ?_) (fun q4 => ?_)
   ·refine Re.brn (fun _ => anewC) (fun h1 => Re.brn (fun _ => anewC) (fun h2 => ?_))
    refine Re.brd (fun _ => anewC) (fun h3 => Re.brd (fun _ => anewC) (fun h4 => ?_))
    exact growC i ⟨h1, h2, i1, i2, i3, fun e => by omega⟩ (by have h4 : ¬ ((T.size : Nat) : Int) > 400 := h4; omega)
   ·refine Re.brn (fun _ => anewC) (fun h1 => Re.brn (fun _ => anewC) (fun h2 => Re.brd (fun _ => anewC) (fun h4 => ?_)))
    exact growC i ⟨h1, h2, i1, i2, i3, fun e => absurd (by rw [e]) q4⟩ (by have h4 : ¬ ((T.size : Nat) : Int) > 400 := h4; omega)) 0 ⟨Nat.zero_le _, Nat.zero_le _, rfl⟩
 exact this
theorem Fq1 (hG : OneJ d old n T) (hn : n + 1 ≤ 9) (hw : jOk now = true) (hnum : now.1 = old.1) : Re (fun k => s5 k (d, ()) old now) (Bw3 old now n T) := by
 obtain ⟨g1, g2, g3, g4, g5⟩ := hG
 subst g2
 obtain ⟨o1, o2, o3, o4⟩ := P3 g4
 obtain ⟨w1, w2, w3, w4⟩ := P3 hw
 have hne := Ba7 (n := n) (by omega)
 have hok1 : jOk (((n + 1 : Nat) : Int), now.2) = true := by
  unfold jOk
  simp only [Bool.and_eq_true]
  exact ⟨D6.2 ⟨by omega, by omega⟩, D6.2 w2, D6.2 w3, M3.2 w4⟩
 have h60 := o4.2.2.1
 have h61 := w4.2.2.1
 have hR := (B43 g3 (by omega) g5).2
 have hF1 := (B41 [(J1 n, T, (T.size : Int), ())] (J1 n) (by simp)).2
 have hF2 := (Dw4 [(J1 n, T, (T.size : Int), ())] newN (by simp)).2
 have hat : atF [(J1 n, T, (T.size : Int), ())] newN 0 = -1 := by
  unfold atF atF
  rw [decide_eq_false (show ¬ J1 n = newN from hne.2.2)]
  rfl
 rw [Dc3] at hF1
 rw [hat] at hF2
 have hN := Bf9 (n := n) (by omega)
 unfold s5 Ax3
 rw [g1]
 refine Re.c1 hN (Re.c1 hF1 (Re.c1 hR (Re.c1 (Ct2 _ (Af1 (by omega) ⟨by omega, by omega⟩)) ?_)))
 refine Re.br (b := false) (fun h => by cases h) (fun _ => Re.c1 (Z8 old o4.small) ?_)
 rw [g4]
 refine Re.br (b := false) (fun h => by cases h) (fun _ => Re.c1 (Z8 now w4.small) ?_)
 rw [hw]
 refine Re.br (b := false) (fun h => by cases h) (fun _ => ?_)
 refine Re.br (b := false) (fun h => by cases h) (fun _ => ?_)
 refine Re.br (b := false) (fun h => by cases h) (fun _ => Re.c1 (E63 old old (by omega)) ?_)
 rw [Aq9 rfl]
 refine Re.br (b := false) (fun h => by cases h) (fun _ => ?_)
 refine Re.brn (fun h => absurd rfl h) (fun _ => ?_)
 refine Re.c1 (v := false) (Ev.bd hF2 (.of fun _ => rfl)) ?_
 refine Re.br (b := false) (fun h => by cases h) (fun _ => ?_)
 refine Re.enter (f := fun k q => Q5 k q (J1 n) (T, true) 0 old now) L8 ?_
 have anewC : Re (fun x : Nat × Nat => bd (W7 x.1 old.1 now) fun r => some (r.1, r.2.1, r.2.2)) (Bw3 old now n T) := by
  rw [g1]
  exact Re.c2 (Fp9 hn hok1) (Re.ret ⟨rfl, .anew⟩)
 have tailC : ∀ {i : Nat} {more : ByteArray}, Upto old.2.2.2.1 now.2.2.2.1 i → T.size ≤ 400 → more = B5 ((Bg0 old now i).map JRec.bytes) → Re (fun x : Nat × Nat => bd (I2 x.1 now.2.2.2.1) fun r26 => (br (more.toList == (⟨#[]⟩ : ByteArray).toList) (some ([], (old.1, now.2.1, now.2.2.1, r26, ()), true)) (some (([(1, J1 n, more, ByteArray.empty, ()), (2, J1 n, ByteArray.empty, ByteArray.empty, ())] : List E8), (old.1, now.2.1, now.2.2.1, r26, ()), true)))) (Bw3 old now n T) := by
  intro i more hU hT hm
  refine Re.s2 (E64 now.2.2.2.1 (by omega)) ?_
  rw [Y9]
  exact Re.brd (fun h => Re.ret (Gj7 g4 hw hU hm h)) (fun _ => Re.ret (D34 hU hT hm))
 have growC : ∀ i, Upto old.2.2.2.1 now.2.2.2.1 i → T.size ≤ 400 → Re (fun x : Nat × Nat => br (old.2.1 != now.2.1) (bd (J7 x.1 (⟨#[72]⟩ : ByteArray) now.2.1 now.2.2.1) fun r24 => (bd (G2 x.1 now.2.2.2.1 (i : Int)) fun r25 => (gd (decide (r24.size + r25.size ≤ A2)) (bd (I2 x.1 now.2.2.2.1) fun r26 => (br ((r24 ++ r25).toList == (⟨#[]⟩ : ByteArray).toList) (some ([], (old.1, now.2.1, now.2.2.1, r26, ()), true)) (some (([(1, J1 n, (r24 ++ r25), ByteArray.empty, ()), (2, J1 n, ByteArray.empty, ByteArray.empty, ())] : List E8), (old.1, now.2.1, now.2.2.1, r26, ()), true)))))))
   (br (old.2.2.1 != now.2.2.1) (bd (J7 x.1 (⟨#[72]⟩ : ByteArray) now.2.1 now.2.2.1) fun r24 => (bd (G2 x.1 now.2.2.2.1 (i : Int)) fun r25 => (gd (decide (r24.size + r25.size ≤ A2)) (bd (I2 x.1 now.2.2.2.1) fun r26 => (br ((r24 ++ r25).toList == (⟨#[]⟩ : ByteArray).toList) (some ([], (old.1, now.2.1, now.2.2.1, r26, ()), true)) (some (([(1, J1 n, (r24 ++ r25), ByteArray.empty, ()), (2, J1 n, ByteArray.empty, ByteArray.empty, ())] : List E8), (old.1, now.2.1, now.2.2.1, r26, ()), true)))))))
    (bd (G2 x.1 now.2.2.2.1 (i : Int)) fun r25 => (gd (decide ((⟨#[]⟩ : ByteArray).size + r25.size ≤ A2)) (bd (I2 x.1 now.2.2.2.1) fun r26 => (br (((⟨#[]⟩ : ByteArray) ++ r25).toList == (⟨#[]⟩ : ByteArray).toList) (some ([], (old.1, now.2.1, now.2.2.1, r26, ()), true)) (some (([(1, J1 n, ((⟨#[]⟩ : ByteArray) ++ r25), ByteArray.empty, ()), (2, J1 n, ByteArray.empty, ByteArray.empty, ())] : List E8), (old.1, now.2.1, now.2.2.1, r26, ()), true)))))))) (Bw3 old now n T) := by
  intro i hU hT
  have hH := Cm1 (⟨#[72]⟩ : ByteArray) 72 now.2.1 now.2.2.1 Gb2 ⟨w2.1, by omega⟩ ⟨w3.1, by omega⟩
  have hFr := (Cm0 _ w4 i hU.lb).2
  have z1 := (Ac8 (c := 72) (a := now.2.1) (b := now.2.2.1) ⟨w2.1, by omega⟩ ⟨w3.1, by omega⟩).2
  have z2 := Ar2 _ w4 (now.2.2.2.1.2.2.1.length - i) i (by have := hU.lb; omega)
  have z0 : (⟨#[]⟩ : ByteArray).size = 0 := rfl
  refine Re.brn (fun h => Re.c2 hH (Re.c2 hFr (Re.gdd (by unfold A2; omega) (tailC hU hT ?_)))) (fun h5 => Re.brn (fun h => Re.c2 hH (Re.c2 hFr (Re.gdd (by unfold A2; omega) (tailC hU hT ?_)))) (fun h6 => Re.c2 hFr (Re.gdd (by unfold A2; omega) (tailC hU hT ?_))))
  ·rw [Ah5, Bw4 (.inl h)]; rfl
  ·rw [Ah5, Bw4 (.inr h)]; rfl
  ·rw [Ah5, D33 h5 h6]
 have := Re.loop (ι := Nat) (l := fun k q (i : Nat) => Q5 k q (J1 n) (T, true) (i : Int) old now) (I := fun i => i ≤ old.2.2.2.1.2.2.1.length ∧ i ≤ now.2.2.2.1.2.2.1.length ∧ old.2.2.2.1.2.2.1.take i = now.2.2.2.1.2.2.1.take i) (fun i => old.2.2.2.1.2.2.1.length - i) (Q := fun _ => Bw3 old now n T) (fun i hi ih => by
  obtain ⟨i1, i2, i3⟩ := hi
  have ei : B8 ((i : Int) + 1) = ((i + 1 : Nat) : Int) := by rw [C6 (by omega) (by omega)]; rfl
  simp only [Q5, Aq6, Int.toNat_natCast, Au6, ei]
  refine Re.brd (fun q1 => ?_) (fun q1 => ?_)
  ·have ha : i < old.2.2.2.1.2.2.1.length := by split at q1 <;> omega
   have hb : i < now.2.2.2.1.2.2.1.length := by split at q1 <;> omega
   refine Re.gdd (by omega) (Re.gdd (by omega) (Re.gdd (by omega) (Re.gdd (by omega) ?_)))
   refine Re.br (fun q3 => ?_) (fun q3 => ?_)
   ·refine ih (i + 1) ⟨by omega, by omega, ?_⟩ (by omega)
    rw [← Z9 hb i3, ← Z9 ha rfl, S5.1 q3]
   ·refine Re.bre (fun q4 => absurd q4 (by omega)) (fun q4 => ?_)
    refine Re.brn (fun _ => anewC) (fun h1 => Re.brn (fun _ => anewC) (fun h2 => Re.brd (fun _ => anewC) (fun h4 => ?_)))
    exact growC i ⟨h1, h2, i1, i2, i3, fun e => absurd e (by omega)⟩ (by have h4 : ¬ ((T.size : Nat) : Int) > 400 := h4; omega)
  ·refine Re.bre (fun q4 => ?_) (fun q4 => ?_)
   ·refine Re.brn (fun _ => anewC) (fun h1 => Re.brn (fun _ => anewC) (fun h2 => ?_))
    refine Re.brd (fun _ => anewC) (fun h3 => Re.brd (fun _ => anewC) (fun h4 => ?_))
    exact growC i ⟨h1, h2, i1, i2, i3, fun e => by omega⟩ (by have h4 : ¬ ((T.size : Nat) : Int) > 400 := h4; omega)
   ·refine Re.brn (fun _ => anewC) (fun h1 => Re.brn (fun _ => anewC) (fun h2 => Re.brd (fun _ => anewC) (fun h4 => ?_)))
    exact growC i ⟨h1, h2, i1, i2, i3, fun e => absurd (by rw [e]) q4⟩ (by have h4 : ¬ ((T.size : Nat) : Int) > 400 := h4; omega)) 0 ⟨Nat.zero_le _, Nat.zero_le _, rfl⟩
 exact this
end
end Go.Vm
end
section
set_option linter.unusedVariables false
set_option linter.unusedSimpArgs false
namespace Go.Vm
open Go
theorem F13 : Bf8 newN newN = false := by decide +kernel
abbrev G3 (nm T : ByteArray) (z : Nat) : C7 := (nm, T, (z : Int), ())
theorem Cf7 (nm T : ByteArray) (z : Int) (r : List C7) : atF ((nm, T, z, ()) :: r) nm 0 = 0 := by
 unfold atF
 rw [decide_eq_true rfl]
 rfl
theorem Dc4 {f g : C7} (hf : Ct1 f) (hg : Ct1 g) (h : Bf8 f.1 g.1 = true) : Al4 [f, g] := by
 refine ⟨by simp, fun i hi => ?_⟩
 match i, hi with
 | 0, _ => exact ⟨hf, fun h => absurd h (by omega)⟩
 | 1, _ => exact ⟨hg, fun _ => h⟩
theorem D35 {nm T : ByteArray} {z : Nat} (hn : nm.size = 2) (hT : T.size ≤ 20000) (hz : z ≤ T.size) : Ct1 (G3 nm T z) := ⟨⟨by show 1 ≤ nm.size; omega, by show nm.size ≤ 8; omega⟩, hT, by show (0 : Int) ≤ (z : Int); omega, by show (z : Int) ≤ (T.size : Int); omega⟩
theorem Ei7 {n : Nat} (hn : n ≤ 9) {T T' : ByteArray} {z z' : Nat} : Br3 [G3 (J1 n) T z] (G3 (J1 n) T' z') = [G3 (J1 n) T' z'] := by
 have h := (Db8 hn hn).2.2
 simp [Br3, Ct3, h]
theorem Ge5 {n : Nat} (hn : n ≤ 9) {T X : ByteArray} {z y : Nat} : Br3 [G3 (J1 n) T z] (G3 newN X y) = [G3 newN X y, G3 (J1 n) T z] := by
 have h := Ba7 hn
 simp [Br3, Ct3, h]
theorem F14 {n : Nat} (hn : n ≤ 9) {T X Y : ByteArray} {z y x : Nat} : Br3 [G3 newN Y x, G3 (J1 n) T z] (G3 newN X y) = [G3 newN X y, G3 (J1 n) T z] := by
 have h := Ba7 hn
 simp [Br3, Ct3, h, F13]
theorem Ge6 {n : Nat} (hn : n ≤ 9) {T Y : ByteArray} {z x : Nat} : Cm3 [G3 newN Y x, G3 (J1 n) T z] newN = [G3 (J1 n) T z] := by
 have h := Ba7 hn
 simp [Cm3, h]
theorem F15 {n : Nat} (hn : n + 1 ≤ 9) {T X : ByteArray} {z y : Nat} : Br3 [G3 (J1 n) T z] (G3 (J1 (n + 1)) X y) = [G3 (J1 n) T z, G3 (J1 (n + 1)) X y] := by
 have h := (Db8 (m := n) (n := n + 1) (by omega) hn).1 (by omega)
 simp [Br3, Ct3, h]
theorem Ge7 {n : Nat} (hn : n + 1 ≤ 9) {T X : ByteArray} {z y : Nat} : Cm3 [G3 (J1 n) T z, G3 (J1 (n + 1)) X y] (J1 n) = [G3 (J1 (n + 1)) X y] := by
 have h := (Db8 (m := n + 1) (n := n) hn (by omega)).2.1 (by omega)
 simp [Cm3, h]
theorem Fq2 {n : Nat} (hn : n ≤ 9) {T more : ByteArray} (hs : T.size + more.size ≤ 20000) : ∃ d1, Ev (fun k => Z0 k ([G3 (J1 n) T T.size], ()) (1, J1 n, more, ByteArray.empty, ())) ((d1, ()), true) ∧ d1 = [G3 (J1 n) (T ++ more) T.size] ∧
  Ev (fun k => Z0 k (d1, ()) (2, J1 n, ByteArray.empty, ByteArray.empty, ())) (([G3 (J1 n) (T ++ more) (T ++ more).size], ()), true) := by
 have hsz : (T ++ more).size = T.size + more.size := C8 _ _
 have hat := Cf7 (J1 n) T (T.size : Int) []
 have hat2 := Cf7 (J1 n) (T ++ more) (T.size : Int) []
 have p1 : Br3 [G3 (J1 n) T T.size] (G3 (J1 n) (T ++ more) T.size) = [G3 (J1 n) (T ++ more) T.size] := Ei7 hn
 have p2 : Br3 [G3 (J1 n) (T ++ more) T.size] (G3 (J1 n) (T ++ more) (T ++ more).size) = [G3 (J1 n) (T ++ more) (T ++ more).size] := Ei7 hn
 refine ⟨_, ?_, rfl, ?_⟩
 ·have := Fl0 (d := [G3 (J1 n) T T.size]) (nm := J1 n) (tx := more) (f := G3 (J1 n) (T ++ more) T.size) (Af1 (by omega) ⟨by omega, by omega⟩) ⟨by show 1 ≤ 2; omega, by show 2 ≤ 8; omega⟩ (.inr ⟨by rw [hat]; decide, by rw [hat]; rfl⟩) (by omega) (by rw [p1]; exact Af1 (by omega) ⟨by omega, by omega⟩)
  rwa [p1] at this
 ·have := Ei2 (d := [G3 (J1 n) (T ++ more) T.size]) (nm := J1 n) (f := G3 (J1 n) (T ++ more) (T ++ more).size) (Af1 (by omega) ⟨by omega, by omega⟩) ⟨by show 1 ≤ 2; omega, by show 2 ≤ 8; omega⟩ (by rw [hat2]; decide) (by rw [hat2]; rfl) (by rw [p2]; exact Af1 (by omega) ⟨by omega, by omega⟩)
  rwa [p2] at this
theorem Fq3 {n : Nat} (hn : n + 1 ≤ 9) {T X : ByteArray} {z : Nat} (hT : T.size ≤ 20000) (hz : z ≤ T.size) (hX : X.size ≤ 20000) :
  Ev (fun k => Z0 k ([G3 (J1 n) T z], ()) (1, newN, X, ByteArray.empty, ())) (([G3 newN X 0, G3 (J1 n) T z], ()), true) ∧
  Ev (fun k => Z0 k ([G3 newN X 0, G3 (J1 n) T z], ()) (2, newN, ByteArray.empty, ByteArray.empty, ())) (([G3 newN X X.size, G3 (J1 n) T z], ()), true) ∧
  Ev (fun k => Z0 k ([G3 newN X X.size, G3 (J1 n) T z], ()) (3, newN, ByteArray.empty, J1 (n + 1), ())) (([G3 (J1 n) T z, G3 (J1 (n + 1)) X X.size], ()), true) ∧
  Ev (fun k => Z0 k ([G3 (J1 n) T z, G3 (J1 (n + 1)) X X.size], ()) (4, J1 n, ByteArray.empty, ByteArray.empty, ())) (([G3 (J1 (n + 1)) X X.size], ()), true) := by
 have h := Ba7 (n := n) (by omega)
 have h1 := Ba7 (n := n + 1) hn
 have h2 := (Db8 (m := n) (n := n + 1) (by omega) hn).1 (by omega)
 have sz : ∀ m, (J1 m).size = 2 := Fl1
 have fo : Ct1 (G3 (J1 n) T z) := D35 (sz n) hT hz
 have f0 : Ct1 (G3 newN X 0) := D35 rfl hX (by omega)
 have f1 : Ct1 (G3 newN X X.size) := D35 rfl hX (Nat.le_refl _)
 have f2 : Ct1 (G3 (J1 (n + 1)) X X.size) := D35 (sz _) hX (Nat.le_refl _)
 have d0 : Al4 [G3 (J1 n) T z] := Af1 hT ⟨by omega, by omega⟩
 have d1 : Al4 [G3 newN X 0, G3 (J1 n) T z] := Dc4 f0 fo h.1
 have d2 : Al4 [G3 newN X X.size, G3 (J1 n) T z] := Dc4 f1 fo h.1
 have d3 : Al4 [G3 (J1 n) T z, G3 (J1 (n + 1)) X X.size] := Dc4 fo f2 h2.1
 have d4 : Al4 [G3 (J1 (n + 1)) X X.size] := Af1 hX ⟨by omega, by omega⟩
 have n2 : 1 ≤ newN.size ∧ newN.size ≤ 8 := ⟨by show 1 ≤ 2; omega, by show 2 ≤ 8; omega⟩
 have n3 : ∀ m, 1 ≤ (J1 m).size ∧ (J1 m).size ≤ 8 := fun m => ⟨by show 1 ≤ 2; omega, by show 2 ≤ 8; omega⟩
 have a0 : atF [G3 (J1 n) T z] newN 0 = -1 := by
  unfold atF atF
  rw [decide_eq_false (show ¬ J1 n = newN from h.2.2)]
  rfl
 refine ⟨?_, ?_, ?_, ?_⟩
 ·have p := Ge5 (n := n) (by omega) (T := T) (X := X) (z := z) (y := 0)
  have := Fl0 (d := [G3 (J1 n) T z]) (nm := newN) (tx := X) (f := G3 newN X 0) d0 n2 (.inl ⟨by rw [a0]; decide, rfl⟩) hX (by rw [p]; exact d1)
  rwa [p] at this
 ·have hat := Cf7 newN X ((0 : Nat) : Int) [G3 (J1 n) T z]
  have p := F14 (n := n) (by omega) (T := T) (X := X) (Y := X) (z := z) (y := X.size) (x := 0)
  have := Ei2 (d := [G3 newN X 0, G3 (J1 n) T z]) (nm := newN) (f := G3 newN X X.size) d1 n2 (by rw [hat]; decide) (by rw [hat]; rfl) (by rw [p]; exact d2)
  rwa [p] at this
 ·have hat := Cf7 newN X (X.size : Int) [G3 (J1 n) T z]
  have p1 := Ge6 (n := n) (by omega) (T := T) (Y := X) (z := z) (x := X.size)
  have p2 := F15 hn (T := T) (X := X) (z := z) (y := X.size)
  have := F09 (d := [G3 newN X X.size, G3 (J1 n) T z]) (nm := newN) (to := J1 (n + 1)) (f := G3 (J1 (n + 1)) X X.size) d2 n2 (n3 _) h1.2.2 (by rw [hat]; decide) (by rw [hat]; rfl) (by rw [hat]; rfl) (by rw [p1, p2]; exact d3)
  rwa [p1, p2] at this
 ·have hat := Cf7 (J1 n) T (z : Int) [G3 (J1 (n + 1)) X X.size]
  have p := Ge7 hn (T := T) (X := X) (z := z) (y := X.size)
  have := F10 (d := [G3 (J1 n) T z, G3 (J1 (n + 1)) X X.size]) (nm := J1 n) d3 (n3 _) (by rw [hat]; decide) (by rw [p]; exact d4)
  rwa [p] at this
theorem Fq4 {old now : A0} {c : Nat} (hw : jOk now = true) (hc : c ≤ now.2.2.2.1.2.2.1.length) : (B5 ((Bg0 old now c).map JRec.bytes)).size ≤ 9020 := by
 obtain ⟨w1, w2, w3, w4⟩ := P3 hw
 have h61 := w4.2.2.1
 have z1 := (Ac8 (c := 72) (a := now.2.1) (b := now.2.2.1) ⟨w2.1, by omega⟩ ⟨w3.1, by omega⟩).2
 have z2 := Ar2 _ w4 (now.2.2.2.1.2.2.1.length - c) c (by omega)
 rw [Ah5, C8]
 have : (B5 ((Ct4 old now).map JRec.bytes)).size ≤ 20 := by
  by_cases h : old.2.1 = now.2.1 ∧ old.2.2.1 = now.2.2.1
  ·rw [D33 h.1 h.2]; exact Nat.zero_le _
  ·have h' : old.2.1 ≠ now.2.1 ∨ old.2.2.1 ≠ now.2.2.1 := by
    by_cases q : old.2.1 = now.2.1
    ·exact .inr fun e => h ⟨q, e⟩
    ·exact .inl q
   rw [Bw4 h']; exact z1
 omega
theorem F16 {now : A0} {n : Nat} (hw : jOk now = true) (hn : n ≤ 9) : jOk ((n : Int), now.2) = true := by
 obtain ⟨w1, w2, w3, w4⟩ := P3 hw
 unfold jOk
 simp only [Bool.and_eq_true]
 exact ⟨D6.2 ⟨by omega, by omega⟩, D6.2 w2, D6.2 w3, M3.2 w4⟩
theorem Cm7 {d : List C7} {old now next : A0} {n : Nat} {T : ByteArray} {list : List E8} (hG : OneJ d old n T) (hn : n + 1 ≤ 9) (hw : jOk now = true) (hR : ActsR old now n T list next) :
  ∃ d' n' T', Done d list d' ∧ OneJ d' next n' T' ∧ n' ≤ n + 1 ∧ next.2 = now.2 := by
 obtain ⟨g1, g2, g3, g4, g5⟩ := hG
 subst g2
 cases hR with
 | stay h =>
  refine ⟨_, n, T, .nil, ?_, by omega, rfl⟩
  rw [h]
  exact ⟨g1, rfl, g3, g4, g5⟩
 | grow c hU hT =>
  have hsz := Fq4 (old := old) (c := c) hw hU.lb
  obtain ⟨k1, k2, k3⟩ := Dw8 g4 hw hU
  obtain ⟨d1, a1, rfl, a2⟩ := Fq2 (n := n) (by omega) (T := T) (more := B5 ((Bg0 old now c).map JRec.bytes)) (by omega)
  refine ⟨_, n, _, .cons a1 (.cons a2 .nil), ⟨g1, rfl, ?_, ?_, by rw [C8]; omega⟩, by omega, rfl⟩
  ·obtain ⟨s, t, rs, f1, f2, f3, f4⟩ := g3
   refine ⟨s, t, rs ++ Bg0 old now c, ?_, f2.append (by rw [f3]; exact k1), by rw [D23, f3, k2], f4⟩
   unfold Bv9 at f1 ⊢
   rw [f1, List.map_append, ← List.cons_append, O8]
  ·rw [g1]; exact F16 hw (by omega)
 | anew =>
  have ok1 := F16 (n := n + 1) hw hn
  obtain ⟨t1, t2⟩ := B44 (n := n + 1) ok1 rfl
  obtain ⟨a1, a2, a3, a4⟩ := Fq3 hn (T := T) (X := t7 (((n + 1 : Nat) : Int), now.2)) (z := T.size) (by omega) (Nat.le_refl _) (by omega)
  exact ⟨_, n + 1, _, .cons a1 (.cons a2 (.cons a3 (.cons a4 .nil))), Dw7 ok1 rfl, Nat.le_refl _, rfl⟩
theorem Dc5 {old now next : A0} {n : Nat} {T : ByteArray} {list : List E8} (h : ActsR old now n T list next) : list.length ≤ 4 := by
 cases h with
 | stay => exact Nat.zero_le _
 | grow => show 2 ≤ 4; omega
 | anew => exact Nat.le_refl 4
end Go.Vm
end
section
set_option linter.unusedVariables false
set_option linter.unusedSimpArgs false
namespace Go.Vm
open Go
def Fl3 (m : Nat) (r : (B4 × A0) × A4 × Unit) : Prop := (∃ n T, OneJ r.1.1.1 r.1.2 n T ∧ n ≤ 4 + m ∧ WellJ m r.1.2) ∧ CurOk r.2.1
theorem WellJ.to {m p : Nat} {j : A0} (h : WellJ m j) (hp : m ≤ p) : WellJ p j := by
  induction p with
  | zero => have : m = 0 := by omega
            subst this; exact h
  | succ p ih =>
    by_cases q : m = p + 1
    · subst q; exact h
    · exact (ih (by omega)).more
theorem Dw9 {m : Nat} {now next : A0} {n' : Nat} (hw : WellJ m now) (h2 : next.2 = now.2) (hn : next.1 = (n' : Int)) (hn' : n' ≤ 4 + m) : WellJ m next := by
 obtain ⟨w1, w2, w3, w4⟩ := hw
 refine ⟨⟨by omega, by omega⟩, ?_, ?_, ?_⟩
 ·rw [h2]; exact w2
 ·rw [h2]; exact w3
 ·rw [h2]; exact w4
theorem Ge8 : ∀ (s : Nat × A4 × A0 × List C7), (s.1 ≤ 3 ∧ CurOk s.2.1 ∧ ∃ n T, OneJ s.2.2.2 s.2.2.1 n T ∧ n ≤ 4 + s.1 ∧ WellJ s.1 s.2.2.1) →
  Re (fun x : Nat × Nat => Ab9 x.1 x.2 (s.1 : Int) s.2.1.1 s.2.1.2.1 s.2.1.2.2.1 s.2.2.1.1 s.2.2.1.2.1 s.2.2.1.2.2.1 s.2.2.1.2.2.2.1.1 s.2.2.1.2.2.2.1.2.1 s.2.2.1.2.2.2.1.2.2.1 s.2.2.2) (Fl3 3) := by
 refine Re.loop (ι := Nat) (l := fun k q (s : Nat × A4 × A0 × List C7) => Ab9 k q (s.1 : Int) s.2.1.1 s.2.1.2.1 s.2.1.2.2.1 s.2.2.1.1 s.2.2.1.2.1 s.2.2.1.2.2.1 s.2.2.1.2.2.2.1.1 s.2.2.1.2.2.2.1.2.1 s.2.2.1.2.2.2.1.2.2.1 s.2.2.2) (fun s => 3 - s.1) (Q := fun _ => Fl3 3) (fun s hi ih => ?_)
 obtain ⟨i, c, j, d⟩ := s
 obtain ⟨i1, i2, n, T, hG, hn, hw⟩ := hi
 simp only at i1 i2 hG hn hw ih ⊢
 simp only [Ab9, Bk5]
 have ei : B8 ((i : Int) + 1) = ((i + 1 : Nat) : Int) := by rw [C6 (by omega) (by omega)]; rfl
 refine Re.b2 (I7 _ 4 i2.eta) fun r4 h4 => ?_
 refine Re.brd (fun q => ?_) (fun q => Re.ret ⟨⟨n, T, hG, by omega, hw.to (by omega)⟩, h4.2⟩)
 have hi3 : i < 3 := by obtain ⟨⟨a, b⟩, _⟩ := h4; omega
 refine Re.b2 (Bl9 _ h4.2 i (by omega) j hw) fun r8 h8 => ?_
 obtain ⟨⟨hw8, hn8⟩, hc8⟩ := h8
 have hok := hw8.ok (by omega)
 refine Re.b2 (Cm6 hG (by omega) hok hn8) fun r9 h9 => ?_
 obtain ⟨ho, hA⟩ := h9
 obtain ⟨d', n', T', hD, hG', hn', h2⟩ := Cm7 hG (by omega) hok hA
 have hl := Dc5 hA
 have hdl : d.length ≤ 1000000 := by rw [hG.disk]; simp
 rw [ho]
 refine Re.br (b := true) (fun _ => ?_) (fun h => by cases h)
 refine Re.c2 (D26 (by omega) hdl hD) ?_
 rw [ei]
 exact ih (i + 1, r8.2.1, r9.2.1, d') ⟨by simp only; omega, hc8, n', T', hG', by simp only; omega, Dw9 hw8 h2 hG'.num (by omega)⟩ (by simp only; omega)
theorem E65 (c : A4) (hc : CurOk c) (j : A0) (hw : WellJ 0 j) : Re (fun k => Ai6 k c j) (Fl3 3) := by
 have hok := hw.ok (by omega)
 obtain ⟨n, hn⟩ : ∃ n : Nat, j.1 = n := ⟨j.1.toNat, (Int.toNat_of_nonneg hw.1.1).symm⟩
 have hn4 : n ≤ 4 := by have := hw.1.2; omega
 have hG : OneJ [(J1 n, t7 j, ((t7 j).size : Int), ())] j n (t7 j) := Dw7 hok hn
 unfold Ai6 Bu5
 refine Re.c1 (Cf6 hok).1 ?_
 refine Re.c1 (v := J1 n) ((B42 (n := n) (by omega)).congr fun k => by rw [hn]) ?_
 refine Re.enter (f := fun k q => l7 k q 0 c.1 c.2.1 c.2.2.1 j (J1 n) (t7 j, true)) L8 ?_
 have := Re.loop (ι := Nat) (l := fun k q (s : Unit) => l7 k q 0 c.1 c.2.1 c.2.2.1 j (J1 n) (t7 j, true)) (I := fun _ => True) (fun _ => 0) (Q := fun _ => Fl3 3) (fun s _ _ => by
  simp only [l7, Bk6]
  refine Re.b2 (I7 _ 4 hc.eta) fun r4 h4 => ?_
  refine Re.brd (fun q => ?_) (fun q => Re.ret ⟨⟨n, t7 j, hG, by omega, hw.to (by omega)⟩, h4.2⟩)
  refine Re.b2 (Bl9 _ h4.2 0 (by omega) j hw) fun r8 h8 => ?_
  obtain ⟨⟨hw8, hn8⟩, hc8⟩ := h8
  have hok8 := hw8.ok (by omega)
  refine Re.b2 (Cm6 hG (by omega) hok8 hn8) fun r9 h9 => ?_
  obtain ⟨ho, hA⟩ := h9
  obtain ⟨d', n', T', hD, hG', hn', h2⟩ := Cm7 hG (by omega) hok8 hA
  have hl := Dc5 hA
  rw [ho]
  refine Re.br (b := true) (fun _ => ?_) (fun h => by cases h)
  refine Re.c2 (D26 (by omega) (by simp) hD) ?_
  exact Ge8 (1, r8.2.1, r9.2.1, d') ⟨by simp only; omega, hc8, n', T', hG', by simp only; omega, Dw9 hw8 h2 hG'.num (by omega)⟩) () trivial
 exact this
def Gj8 (r : B4 × A0 × A0) : Prop := ∃ n T, OneJ r.1.1 r.2.1 n T ∧ n ≤ 7 ∧ jOk r.2.2 = true ∧ r.2.2.1 = r.2.1.1
theorem F17 (a : List Int) (h : a.length ≤ 1048576) : Re (fun k => U0 k a) Gj8 :=
 Gj3 (l := fun k n v i => O7 k n a v i) (C := fun k c => (bd (Ah1 k (a, 0, c, ())) fun r1 => (bd (Ai6 k r1.2.1 r1.1) fun r2 => (bd (Ab8 k r2.2.1 r2.1.2) fun r3 => (some (r2.1.1, r2.1.2, r3.1)))))) a h (fun k n v1 v2 => rfl) (fun c hc => Re.b1 (Dj4 _ hc) fun r1 h1 => Re.b1 (E65 _ h1.2 _ h1.1) fun r2 h2 => by
  obtain ⟨⟨n, T, hG, hn, hw⟩, hc2⟩ := h2
  exact Re.b1 (Bl9 _ hc2 3 (by omega) _ hw) fun r3 h3 => Re.ret ⟨n, T, hG, by omega, h3.1.1.ok (by omega), h3.1.2⟩) _
def D36 (nm : ByteArray) : Int := bif decide (nm = newN) then -1 else bt nm 1 - 48
theorem F18 : D36 newN = -1 := by unfold D36; rw [decide_eq_true rfl]; rfl
theorem D37 {n : Nat} (hn : n ≤ 9) : D36 (J1 n) = (n : Int) := by
 unfold D36
 rw [decide_eq_false (Ba7 hn).2.2]
 refine A54 (P := fun n => (bif false then -1 else bt (J1 n) 1 - 48) = (n : Int)) (fun i => ?_) hn
 match i with
 | ⟨0, _⟩ => rfl
 | ⟨1, _⟩ => rfl
 | ⟨2, _⟩ => rfl
 | ⟨3, _⟩ => rfl
 | ⟨4, _⟩ => rfl
 | ⟨5, _⟩ => rfl
 | ⟨6, _⟩ => rfl
 | ⟨7, _⟩ => rfl
 | ⟨8, _⟩ => rfl
 | ⟨9, _⟩ => rfl
def D38 (d : List C7) : Prop := ∀ i, i < d.length → (rd B0 d i).1 = newN ∨ ∃ n, n ≤ 9 ∧ (rd B0 d i).1 = J1 n
theorem Dx0 {d : List C7} (h : D38 d) {i : Nat} (hi : i < d.length) (k : Nat) : m9 k (rd B0 d i).1 (⟨#[106]⟩ : ByteArray) 999 = some (D36 (rd B0 d i).1) := by
 rcases h i hi with e | ⟨n, hn, e⟩
 ·rw [e, F18]; exact E60 k
 ·rw [e, D37 hn]; exact Fp7 hn k
def F19 (d : List C7) (v : Int) : Int := d.foldl (fun v f => if D36 f.1 > v then D36 f.1 else v) v
def Bm0 (d : List C7) (best : Nat) : List E8 := (d.filter fun f => !decide (f.1 = J1 best)).map fun f => (4, f.1, ByteArray.empty, ByteArray.empty, ())
def Ge9 (best : Nat) (r4 : ByteArray × Bool) (r5 : A0 × Int × Bool) (k : Nat) (xs : List E8) : Option (A0 × List E8 × Bool) :=
 br (r5.2.1 == (r4.1.size : Int)) (some (r5.1, xs, true)) (bd (W7 k (best : Int) r5.1) fun r7 => (br (!r7.2.2) (some ((0, 0, 0, (0, 0, [], ()), ()), [], false)) (gd (decide (xs.length + r7.1.length ≤ A2)) (some (r7.2.1, (xs ++ r7.1), true)))))
theorem D39 (d : List C7) (hN : D38 d) (hl : d.length ≤ 1000) {best : Nat} (hb : best ≤ 9) (r4 : ByteArray × Bool) (r5 : A0 × Int × Bool) : ∀ (m i : Nat) (xs : List E8), i + m = d.length → xs.length ≤ i → ∀ k n, m < n →
  V7 k n (best : Int) r4 r5 (d, ()) (i : Int) xs = Ge9 best r4 r5 k (xs ++ Bm0 (d.drop i) best)
 | 0, i, xs, hm, _, k, n, hn => by
  obtain ⟨n, rfl⟩ : ∃ q, n = q + 1 := ⟨n - 1, by omega⟩
  have d1 : decide ((i : Int) < (d.length : Int)) = false := decide_eq_false (by omega)
  rw [List.drop_eq_nil_of_le (by omega)]
  simp only [V7, Ac2, d1, br_false, Bm0, List.filter_nil, List.map_nil, List.append_nil]
  rfl
 | m + 1, i, xs, hm, hx, k, n, hn => by
  obtain ⟨n, rfl⟩ : ∃ q, n = q + 1 := ⟨n - 1, by omega⟩
  have hi : i < d.length := by omega
  have d1 : decide ((i : Int) < (d.length : Int)) = true := decide_eq_true (by omega)
  have d2 : decide (0 ≤ (i : Int)) = true := decide_eq_true (Int.natCast_nonneg _)
  have ei : B8 ((i : Int) + 1) = ((i + 1 : Nat) : Int) := by rw [C6 (by omega) (by omega)]; rfl
  have hd : d.drop i = rd B0 d i :: d.drop (i + 1) := by rw [List.drop_eq_getElem_cons hi, ← Ad6 hi (z := B0)]
  have d3 : decide (xs.length + ([(4, (rd B0 d i).1, ByteArray.empty, ByteArray.empty, ())] : List E8).length ≤ A2) = true := decide_eq_true (by simp; unfold A2; omega)
  have h1 := D39 d hN hl hb r4 r5 m (i + 1) xs (by omega) (by omega) k n (by omega)
  have h2 := D39 d hN hl hb r4 r5 m (i + 1) (xs ++ [(4, (rd B0 d i).1, ByteArray.empty, ByteArray.empty, ())]) (by omega) (by simp; omega) k n (by omega)
  have hq := Dx0 hN hi k
  have hdrop : Bm0 (d.drop i) best = (if (rd B0 d i).1 = J1 best then [] else [(4, (rd B0 d i).1, ByteArray.empty, ByteArray.empty, ())]) ++ Bm0 (d.drop (i + 1)) best := by
   unfold Bm0
   rw [hd, List.filter_cons]
   by_cases e : (rd B0 d i).1 = J1 best
   ·simp [e]
   ·simp [e]
  rw [hdrop]
  simp only [V7, Ac2, d1, d2, d3, br_true, gd_true, Int.toNat_natCast, hq, bd_some, ei, h1, h2]
  rw [show (⟨#[106, 43]⟩ : ByteArray) = newN from rfl, Y9]
  rcases hN i hi with e | ⟨q, hq9, e⟩
  ·rw [e, decide_eq_true rfl, if_neg (fun h => (Ba7 hb).2.2 h.symm)]
   simp
  ·rw [e, decide_eq_false (Ba7 hq9).2.2, D37 hq9]
   rw [decide_eq_true (show (q : Int) ≥ 0 by omega)]
   simp only [br_false, br_true]
   by_cases eq : q = best
   ·subst eq
    rw [if_pos rfl]
    simp
   ·have hne : J1 q ≠ J1 best := (Db8 hq9 hb).2.1 eq
    rw [if_neg hne]
    have : ((q : Int) != (best : Int)) = true := by simp; omega
    rw [this, br_true]
    simp
end Go.Vm
end
section
set_option linter.unusedVariables false
set_option linter.unusedSimpArgs false
namespace Go.Vm
open Go
theorem Fq5 {d : List C7} {i : Nat} (hi : i < d.length) (v : Int) : F19 (d.drop i) v = F19 (d.drop (i + 1)) (if D36 (rd B0 d i).1 > v then D36 (rd B0 d i).1 else v) := by
 rw [List.drop_eq_getElem_cons hi, ← Ad6 hi (z := B0)]
 rfl
theorem Gf0 {d : List C7} {best : Nat} {T : ByteArray} {j : A0} {e : Int} {V : A0 × List E8 × Bool} (hN : D38 d) (hD : Al4 d) (hmax : F19 d (-1) = (best : Int)) (hb : best ≤ 9) (hf : Bw1 d (J1 best) = (T, true))
  (hr : Ev (fun k => N2 k (best : Int) T) (j, e, true)) (hV : Ev (fun k => Ge9 best (T, true) (j, e, true) k (Bm0 d best)) V) : Ev (fun k => s6 k (d, ())) V := by
 have hl : d.length ≤ 1000 := by have := hD.1; omega
 obtain ⟨K1, h1⟩ := Ct2 d hD
 obtain ⟨K2, h2⟩ := Bf9 (n := best) hb
 obtain ⟨K3, h3⟩ := (B41 d (J1 best) hl).2
 obtain ⟨K4, h4⟩ := hr
 obtain ⟨K5, h5⟩ := hV
 rw [hf] at h3
 have main : ∀ (m i : Nat) (v : Int), i + m = d.length → F19 (d.drop i) v = (best : Int) → ∀ k, K1 + K2 + K3 + K4 + K5 ≤ k → ∀ n, m + d.length + 2 < n → Q6 k n v (d, ()) (i : Int) = some V := by
  intro m
  induction m with
  | zero =>
   intro i v hm hv k hk n hn
   obtain ⟨n, rfl⟩ : ∃ q, n = q + 1 := ⟨n - 1, by omega⟩
   have d1 : decide ((i : Int) < (d.length : Int)) = false := decide_eq_false (by omega)
   rw [List.drop_eq_nil_of_le (by omega)] at hv
   have hv : v = (best : Int) := hv
   subst hv
   have q1 : A47 k (d, ()) = some true := h1 k (by omega)
   have q2 : O6 k (best : Int) = some (J1 best) := h2 k (by omega)
   have q3 : A46 k (d, ()) (J1 best) = some (T, true) := h3 k (by omega)
   have q4 : N2 k (best : Int) T = some (j, e, true) := h4 k (by omega)
   have q5 : Ge9 best (T, true) (j, e, true) k (Bm0 d best) = some V := h5 k (by omega)
   have q6 := D39 d hN hl hb (T, true) (j, e, true) d.length 0 [] (Nat.zero_add _) (Nat.le_refl _) k n (by omega)
   rw [List.drop_zero, List.nil_append, q5] at q6
   have d2 : decide ((best : Int) < 0) = false := decide_eq_false (by omega)
   simp only [Q6, Ac3, d1, br_false, q1, bd_some, Bool.not_true, d2, q2, q3, q4]
   exact q6
  | succ m ih =>
   intro i v hm hv k hk n hn
   obtain ⟨n, rfl⟩ : ∃ q, n = q + 1 := ⟨n - 1, by omega⟩
   have hi : i < d.length := by omega
   have d1 : decide ((i : Int) < (d.length : Int)) = true := decide_eq_true (by omega)
   have d2 : decide (0 ≤ (i : Int)) = true := decide_eq_true (Int.natCast_nonneg _)
   have ei : B8 ((i : Int) + 1) = ((i + 1 : Nat) : Int) := by rw [C6 (by omega) (by omega)]; rfl
   have hq := Dx0 hN hi k
   rw [Fq5 hi] at hv
   have g := ih (i + 1) _ (by omega) hv k hk n (by omega)
   simp only [Q6, Ac3, d1, d2, br_true, gd_true, Int.toNat_natCast, hq, bd_some, ei]
   exact g
 refine ⟨K1 + K2 + K3 + K4 + K5 + d.length + d.length + 3, fun k hk => ?_⟩
 exact main d.length 0 (-1) (Nat.zero_add _) hmax k (by omega) k (by omega)
theorem Fq6 {n : Nat} (hn : n ≤ 9) {T : ByteArray} {z : Int} : D38 [(J1 n, T, z, ())] := fun i hi => by
 have h0 : i = 0 := by simp at hi; exact hi
 subst h0
 exact .inr ⟨n, hn, rfl⟩
theorem F20 {d : List C7} {j : A0} {n : Nat} {T : ByteArray} (hG : OneJ d j n T) (hn : n ≤ 9) : Ev (fun k => s6 k (d, ())) (j, [], true) := by
 obtain ⟨g1, g2, g3, g4, g5⟩ := hG
 subst g2
 refine Gf0 (best := n) (T := T) (j := j) (e := (T.size : Int)) (Fq6 hn) (Af1 (by omega) ⟨by omega, by omega⟩) ?_ hn (Dc3 _ _ _) (B43 g3 hn g5).2 ?_
 ·unfold F19
  simp only [List.foldl_cons, List.foldl_nil, D37 hn]
  rw [if_pos (by omega)]
 ·refine .of fun k => ?_
  have hdr : Bm0 [(J1 n, T, (T.size : Int), ())] n = [] := by simp [Bm0]
  rw [hdr]
  unfold Ge9
  rw [beq_self_eq_true]
  rfl
theorem F21 {d : List C7} {j : A0} {n : Nat} {T : ByteArray} (hG : OneJ d j n T) : Ev (fun k => Bf3 k (d, ())) true := by
 obtain ⟨g1, g2, g3, g4, g5⟩ := hG
 subst g2
 refine Re.eq (Re.c1 (S8 _ (Af1 (by omega) ⟨by omega, by omega⟩)) (Re.br (b := false) (fun h => by cases h) (fun _ => ?_)))
 refine ⟨_, rfl, 2, fun k hk => ?_⟩
 obtain ⟨k, rfl⟩ : ∃ m, k = m + 2 := ⟨k - 2, by have : 2 ≤ k := hk; omega⟩
 have d1 : decide ((T.size : Int) < (T.size : Int)) = false := decide_eq_false (by omega)
 show Ac4 (k + 2) (k + 2) 0 _ = _
 simp only [Ac4, Bl2]
 show br (decide ((T.size : Int) < (T.size : Int))) _ _ = _
 rw [d1]
 rfl
theorem Gf1 (a : List Int) (k : Nat) : Eg7 k a = some (decide ((a.length : Int) > 1048576)) := rfl
theorem Dj5 (a : List Int) : Ev (fun k => Ac5 k a) true := by
 refine Re.eq (Re.s1 (Gf1 a) (Re.brd (fun _ => Re.ret rfl) (fun hl => ?_)))
 refine Re.b1 (F17 a (by omega)) fun r2 h2 => ?_
 obtain ⟨n, T, hG, hn, hw, hnum⟩ := h2
 have g1 := hG.num
 have g4 := hG.ok
 obtain ⟨o1, o2, o3, o4⟩ := P3 g4
 obtain ⟨w1, w2, w3, w4⟩ := P3 hw
 have h60 := o4.2.2.1
 have h61 := w4.2.2.1
 obtain ⟨tf, ts⟩ := B44 g4 g1
 refine Re.c1 (Cf6 g4).2 ?_
 refine Re.c1 (v := (r2.2.1, ((t7 r2.2.1).size : Int), true)) ((B43 tf (by omega) ts).2.congr fun k => by show N2 k r2.2.1.1 (t7 r2.2.1) = _; rw [g1]) ?_
 refine Re.br (b := false) (fun h => by cases h) (fun _ => Re.br (b := false) (fun h => by cases h) (fun _ => ?_))
 refine Re.brn (fun h => absurd rfl h) (fun _ => Re.brn (fun h => absurd rfl h) (fun _ => Re.brn (fun h => absurd rfl h) (fun _ => ?_)))
 refine Re.c1 (Bw2 _ _ (by show r2.2.1.2.2.2.1.2.2.1.length ≤ 1000000; omega)) ?_
 rw [Aq9 rfl]
 refine Re.br (b := false) (fun h => by cases h) (fun _ => Re.c1 (Z8 _ o4.small) ?_)
 rw [g4]
 refine Re.br (b := false) (fun h => by cases h) (fun _ => ?_)
 refine Re.b1 (Fq1 hG (by omega) hw hnum) fun r7 h7 => Re.b1 (Cm6 hG (by omega) hw hnum) fun r8 h8 => ?_
 obtain ⟨i1, i2⟩ := h7
 obtain ⟨s1, s2⟩ := h8
 rw [i1, s1]
 refine Re.br (b := false) (fun h => by cases h) (fun _ => Re.br (b := false) (fun h => by cases h) (fun _ => ?_))
 obtain ⟨d', n', T', hD, hG', hn', h2⟩ := Cm7 hG (by omega) hw i2
 have hl4 := Dc5 i2
 have hdl : r2.1.1.length ≤ 1000000 := by rw [hG.disk]; simp
 refine Re.c1 (D26 (by omega) hdl hD) (Re.c1 (F20 hG' (by omega)) ?_)
 have hlen : r7.2.1.2.2.2.1.2.2.1.length ≤ 1000000 := by rw [h2]; omega
 refine Re.bre (fun _ => ?_) (fun h => absurd rfl h)
 refine Re.br (b := true) (fun _ => ?_) (fun h => by cases h)
 refine Re.br (b := true) (fun _ => ?_) (fun h => by cases h)
 refine Re.bre (fun _ => ?_) (fun h => absurd rfl h)
 refine Re.bre (fun _ => ?_) (fun h => absurd (by rw [h2]) h)
 refine Re.bre (fun _ => ?_) (fun h => absurd (by rw [h2]) h)
 refine Re.c1 (Bw2 _ _ hlen) ?_
 rw [Aq9 (show r7.2.1.2.2.2.1 = r2.2.2.2.2.2.1 by rw [h2])]
 refine Re.br (b := true) (fun _ => ?_) (fun h => by cases h)
 refine Re.c1 (Bw2 _ _ hlen) ?_
 rw [Aq9 (show r7.2.1.2.2.2.1 = r2.2.2.2.2.2.1 by rw [h2])]
 refine Re.br (b := true) (fun _ => ?_) (fun h => by cases h)
 refine Re.c1 (F21 hG') (Re.br (b := true) (fun _ => ?_) (fun h => by cases h))
 refine Re.c1 (v := J1 n') ((Bf9 (n := n') (by omega)).congr fun k => by rw [hG'.num]) ?_
 rw [Gh1]
 exact Re.ret rfl
end Go.Vm
end
