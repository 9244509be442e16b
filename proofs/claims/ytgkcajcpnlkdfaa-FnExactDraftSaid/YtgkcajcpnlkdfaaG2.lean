/- What the functions compute. -/
import Derived.Test.YtgkcajcpnlkdfaaWc
set_option linter.unusedVariables false
namespace Go.Vm
open Go
abbrev TEvent : Type := Int × Int × Int × Int × Int × List Int × ByteArray × List Int × Int × Unit
def dTEvent : TEvent := (0, 0, 0, 0, 0, [], ByteArray.empty, [], 0, ())
abbrev TItem : Type := Int × Int × Unit
def dTItem : TItem := (0, 0, ())
abbrev TRoom : Type := List TEvent × List (List TItem) × List Bool × Unit
def dTRoom : TRoom := ([], [], [], ())
abbrev TOut : Type := Int × Int × List Int × Unit
def dTOut : TOut := (0, 0, [], ())
abbrev TSession : Type := Int × Int × ByteArray × Unit
def dTSession : TSession := (0, 0, ByteArray.empty, ())
abbrev THall : Type := List TSession × TRoom × List TOut × Unit
def dTHall : THall := ([], dTRoom, [], ())
def l_szIntS (k : Nat) (a0 : List Int) (a1 : Int) : Option Int := (br (decide ((w64 (a1 - (a0.length : Int))) < 0)) (some (-1)) (some (w64 (a1 - (a0.length : Int)))))
def l_szEvent (k : Nat) (a0 : TEvent) (a1 : Int) : Option Int := (bd (l_szIntS k a0.2.2.2.2.2.1 a1) fun r1 => (br (decide (r1 < 0)) (some (-1)) (br (decide ((w64 (r1 - (a0.2.2.2.2.2.2.1.size : Int))) < 0)) (some (-1)) (bd (l_szIntS k a0.2.2.2.2.2.2.2.1 (w64 (r1 - (a0.2.2.2.2.2.2.1.size : Int)))) fun r2 => (br (decide (r2 < 0)) (some (-1)) (some r2))))))
noncomputable section
def b0_l_szEventS (k : Nat) (L0 : List TEvent → Int → Int → Option Int) (a0 : List TEvent) (v1 : Int) (v2 : Int) : Option Int := (br (decide (v2 < (a0.length : Int))) (gd (decide (0 ≤ v2)) (gd (decide (v2 < (a0.length : Int))) (bd (l_szEvent k (rd dTEvent a0 v2.toNat) v1) fun r1 => (br (decide (r1 < 0)) (some (-1)) (L0 a0 r1 (w64 (v2 + 1))))))) (some v1))
def l0_l_szEventS (k : Nat) : Nat → List TEvent → Int → Int → Option Int
  | 0, _, _, _ => none
  | n + 1, a0, v1, v2 => b0_l_szEventS k (l0_l_szEventS k n) a0 v1 v2
def g_l_szEventS (k : Nat) (L0 : List TEvent → Int → Int → Option Int) (a0 : List TEvent) (a1 : Int) : Option Int := (br (decide ((w64 (a1 - (a0.length : Int))) < 0)) (some (-1)) (L0 a0 (w64 (a1 - (a0.length : Int))) 0))
def l_szEventS (k : Nat) (a0 : List TEvent) (a1 : Int) : Option Int := g_l_szEventS k (l0_l_szEventS k k) a0 a1
end
noncomputable section
def b0_s_l10Find (k : Nat) (L0 : List TEvent → Int → Int → Option (TEvent × Bool)) (a0 : List TEvent) (a1 : Int) (v1 : Int) : Option (TEvent × Bool) := (br (decide (v1 < (a0.length : Int))) (gd (decide (0 ≤ v1)) (gd (decide (v1 < (a0.length : Int))) (br ((rd dTEvent a0 v1.toNat).1 == a1) (gd (decide (0 ≤ v1)) (gd (decide (v1 < (a0.length : Int))) (some ((rd dTEvent a0 v1.toNat), true)))) (L0 a0 a1 (w64 (v1 + 1)))))) (some ((0, 0, 0, 0, 0, [], ByteArray.empty, [], 0, ()), false)))
def l0_s_l10Find (k : Nat) : Nat → List TEvent → Int → Int → Option (TEvent × Bool)
  | 0, _, _, _ => none
  | n + 1, a0, a1, v1 => b0_s_l10Find k (l0_s_l10Find k n) a0 a1 v1
def g_s_l10Find (k : Nat) (L0 : List TEvent → Int → Int → Option (TEvent × Bool)) (a0 : List TEvent) (a1 : Int) : Option (TEvent × Bool) := (L0 a0 a1 0)
def s_l10Find (k : Nat) (a0 : List TEvent) (a1 : Int) : Option (TEvent × Bool) := g_s_l10Find k (l0_s_l10Find k k) a0 a1
end
def s_l09Copy (k : Nat) (a0 : TEvent) : Option TEvent := (gd (decide (([] : List Int).length + a0.2.2.2.2.2.1.length ≤ maxRow)) (gd (decide (([] : List Int).length + a0.2.2.2.2.2.2.2.1.length ≤ maxRow)) (some (a0.1, a0.2.1, a0.2.2.1, a0.2.2.2.1, a0.2.2.2.2.1, (([] : List Int) ++ a0.2.2.2.2.2.1), a0.2.2.2.2.2.2.1, (([] : List Int) ++ a0.2.2.2.2.2.2.2.1), a0.2.2.2.2.2.2.2.2))))
def s_Known (k : Nat) (a0 : List TEvent) (a1 : Int) : Option (TEvent × Bool) := (bd (s_l10Find k a0 a1) fun r1 => (bd (s_l09Copy k r1.1) fun r2 => (some (r2, r1.2))))
noncomputable section
def b0_l_toIntS (k : Nat) (L0 : List Int → Int → List Int → Option (List Int)) (a0 : List Int) (v1 : Int) (xs2 : List Int) : Option (List Int) := (br (decide (v1 < (a0.length : Int))) (gd (decide (0 ≤ v1)) (gd (decide (v1 < (a0.length : Int))) (gd (decide (0 ≤ v1)) (gd (decide (v1 < (xs2.length : Int))) (L0 a0 (w64 (v1 + 1)) (xs2.set v1.toNat (rd 0 a0 v1.toNat))))))) (some xs2))
def l0_l_toIntS (k : Nat) : Nat → List Int → Int → List Int → Option (List Int)
  | 0, _, _, _ => none
  | n + 1, a0, v1, xs2 => b0_l_toIntS k (l0_l_toIntS k n) a0 v1 xs2
def g_l_toIntS (k : Nat) (L0 : List Int → Int → List Int → Option (List Int)) (a0 : List Int) : Option (List Int) := (gd (decide ((a0.length : Int) = (a0.length : Int))) (gd (decide (0 ≤ (a0.length : Int))) (gd (decide ((a0.length : Int).toNat ≤ maxRow)) (L0 a0 0 (List.replicate (a0.length : Int).toNat 0)))))
def l_toIntS (k : Nat) (a0 : List Int) : Option (List Int) := g_l_toIntS k (l0_l_toIntS k k) a0
end
def l_toEvent (k : Nat) (a0 : TEvent) : Option TEvent := (bd (l_toIntS k a0.2.2.2.2.2.1) fun r1 => (bd (l_toIntS k a0.2.2.2.2.2.2.2.1) fun r2 => (some (a0.1, a0.2.1, a0.2.2.1, a0.2.2.2.1, a0.2.2.2.2.1, r1, a0.2.2.2.2.2.2.1, r2, a0.2.2.2.2.2.2.2.2))))
noncomputable section
def b0_l_toEventS (k : Nat) (L0 : List TEvent → Int → List TEvent → Option (List TEvent)) (a0 : List TEvent) (v1 : Int) (xs2 : List TEvent) : Option (List TEvent) := (br (decide (v1 < (a0.length : Int))) (gd (decide (0 ≤ v1)) (gd (decide (v1 < (a0.length : Int))) (bd (l_toEvent k (rd dTEvent a0 v1.toNat)) fun r1 => (gd (decide (0 ≤ v1)) (gd (decide (v1 < (xs2.length : Int))) (L0 a0 (w64 (v1 + 1)) (xs2.set v1.toNat r1))))))) (some xs2))
def l0_l_toEventS (k : Nat) : Nat → List TEvent → Int → List TEvent → Option (List TEvent)
  | 0, _, _, _ => none
  | n + 1, a0, v1, xs2 => b0_l_toEventS k (l0_l_toEventS k n) a0 v1 xs2
def g_l_toEventS (k : Nat) (L0 : List TEvent → Int → List TEvent → Option (List TEvent)) (a0 : List TEvent) : Option (List TEvent) := (gd (decide ((a0.length : Int) = (a0.length : Int))) (gd (decide (0 ≤ (a0.length : Int))) (gd (decide ((a0.length : Int).toNat ≤ maxRow)) (L0 a0 0 (List.replicate (a0.length : Int).toNat dTEvent)))))
def l_toEventS (k : Nat) (a0 : List TEvent) : Option (List TEvent) := g_l_toEventS k (l0_l_toEventS k k) a0
end
def i_copyEvent (k : Nat) (a0 : TEvent) : Option TEvent := (gd (decide (a0.2.2.2.2.2.1.length ≤ maxRow)) (gd (decide (a0.2.2.2.2.2.2.2.1.length ≤ maxRow)) (some a0)))
noncomputable section
def b0_i_Known (k : Nat) (L0 : Int → List TEvent → Int → Option (TEvent × Bool)) (a1 : Int) (a0 : List TEvent) (v1 : Int) : Option (TEvent × Bool) := (br (decide (v1 < (a0.length : Int))) (gd (decide (0 ≤ v1)) (gd (decide (v1 < (a0.length : Int))) (br ((rd dTEvent a0 v1.toNat).1 == a1) (bd (i_copyEvent k (rd dTEvent a0 v1.toNat)) fun r1 => (some (r1, true))) (L0 a1 a0 (w64 (v1 + 1)))))) (some ((0, 0, 0, 0, 0, [], ByteArray.empty, [], 0, ()), false)))
def l0_i_Known (k : Nat) : Nat → Int → List TEvent → Int → Option (TEvent × Bool)
  | 0, _, _, _ => none
  | n + 1, a1, a0, v1 => b0_i_Known k (l0_i_Known k n) a1 a0 v1
def g_i_Known (k : Nat) (L0 : Int → List TEvent → Int → Option (TEvent × Bool)) (a0 : List TEvent) (a1 : Int) : Option (TEvent × Bool) := (L0 a1 a0 0)
def i_Known (k : Nat) (a0 : List TEvent) (a1 : Int) : Option (TEvent × Bool) := g_i_Known k (l0_i_Known k k) a0 a1
end
noncomputable section
def b0_l_eqIntS (k : Nat) (L0 : List Int → List Int → Int → Option Bool) (a0 : List Int) (a1 : List Int) (v1 : Int) : Option Bool := (br (decide (v1 < (a0.length : Int))) (gd (decide (0 ≤ v1)) (gd (decide (v1 < (a0.length : Int))) (gd (decide (0 ≤ v1)) (gd (decide (v1 < (a1.length : Int))) (br ((rd 0 a0 v1.toNat) != (rd 0 a1 v1.toNat)) (some false) (L0 a0 a1 (w64 (v1 + 1)))))))) (some true))
def l0_l_eqIntS (k : Nat) : Nat → List Int → List Int → Int → Option Bool
  | 0, _, _, _ => none
  | n + 1, a0, a1, v1 => b0_l_eqIntS k (l0_l_eqIntS k n) a0 a1 v1
def g_l_eqIntS (k : Nat) (L0 : List Int → List Int → Int → Option Bool) (a0 : List Int) (a1 : List Int) : Option Bool := (br ((a0.length : Int) != (a1.length : Int)) (some false) (L0 a0 a1 0))
def l_eqIntS (k : Nat) (a0 : List Int) (a1 : List Int) : Option Bool := g_l_eqIntS k (l0_l_eqIntS k k) a0 a1
end
def l_eqEvent (k : Nat) (a0 : TEvent) (a1 : TEvent) : Option Bool := (br (a0.1 != a1.1) (some false) (br (a0.2.1 != a1.2.1) (some false) (br (a0.2.2.1 != a1.2.2.1) (some false) (br (a0.2.2.2.1 != a1.2.2.2.1) (some false) (br (a0.2.2.2.2.1 != a1.2.2.2.2.1) (some false) (bd (l_eqIntS k a0.2.2.2.2.2.1 a1.2.2.2.2.2.1) fun r1 => (br (!r1) (some false) (br (!(a0.2.2.2.2.2.2.1.toList == a1.2.2.2.2.2.2.1.toList)) (some false) (bd (l_eqIntS k a0.2.2.2.2.2.2.2.1 a1.2.2.2.2.2.2.2.1) fun r2 => (br (!r2) (some false) (br (a0.2.2.2.2.2.2.2.2.1 != a1.2.2.2.2.2.2.2.2.1) (some false) (some true))))))))))))
noncomputable section
def b0_l_eqEventS (k : Nat) (L0 : List TEvent → List TEvent → Int → Option Bool) (a0 : List TEvent) (a1 : List TEvent) (v1 : Int) : Option Bool := (br (decide (v1 < (a0.length : Int))) (gd (decide (0 ≤ v1)) (gd (decide (v1 < (a0.length : Int))) (gd (decide (0 ≤ v1)) (gd (decide (v1 < (a1.length : Int))) (bd (l_eqEvent k (rd dTEvent a0 v1.toNat) (rd dTEvent a1 v1.toNat)) fun r1 => (br (!r1) (some false) (L0 a0 a1 (w64 (v1 + 1))))))))) (some true))
def l0_l_eqEventS (k : Nat) : Nat → List TEvent → List TEvent → Int → Option Bool
  | 0, _, _, _ => none
  | n + 1, a0, a1, v1 => b0_l_eqEventS k (l0_l_eqEventS k n) a0 a1 v1
def g_l_eqEventS (k : Nat) (L0 : List TEvent → List TEvent → Int → Option Bool) (a0 : List TEvent) (a1 : List TEvent) : Option Bool := (br ((a0.length : Int) != (a1.length : Int)) (some false) (L0 a0 a1 0))
def l_eqEventS (k : Nat) (a0 : List TEvent) (a1 : List TEvent) : Option Bool := g_l_eqEventS k (l0_l_eqEventS k k) a0 a1
end
noncomputable section
def b0_l_markIntS (k : Nat) (L0 : Int → Int → List Int → Option (Int × List Int × Unit)) (a1 : Int) (v1 : Int) (a0 : List Int) : Option (Int × List Int × Unit) := (br (decide (v1 < (a0.length : Int))) (gd (decide (0 ≤ v1)) (gd (decide (v1 < (a0.length : Int))) (L0 (w64 (a1 + 1)) (w64 (v1 + 1)) (a0.set v1.toNat a1)))) (some (a1, a0, ())))
def l0_l_markIntS (k : Nat) : Nat → Int → Int → List Int → Option (Int × List Int × Unit)
  | 0, _, _, _ => none
  | n + 1, a1, v1, a0 => b0_l_markIntS k (l0_l_markIntS k n) a1 v1 a0
def g_l_markIntS (k : Nat) (L0 : Int → Int → List Int → Option (Int × List Int × Unit)) (a0 : List Int) (a1 : Int) : Option (Int × List Int × Unit) := (L0 a1 0 a0)
def l_markIntS (k : Nat) (a0 : List Int) (a1 : Int) : Option (Int × List Int × Unit) := g_l_markIntS k (l0_l_markIntS k k) a0 a1
end
noncomputable section
def b0_l_markText (k : Nat) (L0 : Int → ByteArray → Option ByteArray) (a0 : Int) (v1 : ByteArray) : Option ByteArray := (br (decide (a0 > 0)) (ng (a0 == a0 && (10 : Int) == 0) (gd (decide ((strOfNums [(IntKind.wrap .u8 (w64 (48 + (Int.tmod a0 10))))]).size + v1.size ≤ maxRow)) (ng (a0 == a0 && (10 : Int) == 0) (L0 (w64 (Int.tdiv a0 10)) ((strOfNums [(IntKind.wrap .u8 (w64 (48 + (Int.tmod a0 10))))]) ++ v1))))) (gd (decide ((⟨#[109]⟩ : ByteArray).size + v1.size ≤ maxRow)) (some ((⟨#[109]⟩ : ByteArray) ++ v1))))
def l0_l_markText (k : Nat) : Nat → Int → ByteArray → Option ByteArray
  | 0, _, _ => none
  | n + 1, a0, v1 => b0_l_markText k (l0_l_markText k n) a0 v1
def g_l_markText (k : Nat) (L0 : Int → ByteArray → Option ByteArray) (a0 : Int) : Option ByteArray := (br (decide (a0 ≤ 0)) (some (⟨#[109, 48]⟩ : ByteArray)) (L0 a0 (⟨#[]⟩ : ByteArray)))
def l_markText (k : Nat) (a0 : Int) : Option ByteArray := g_l_markText k (l0_l_markText k k) a0
end
noncomputable section
def b0_l_markEventS (k : Nat) (L0 : Int → Int → List TEvent → Option (Int × List TEvent × Unit)) (a1 : Int) (v1 : Int) (a0 : List TEvent) : Option (Int × List TEvent × Unit) := (br (decide (v1 < (a0.length : Int))) (gd (decide (0 ≤ v1)) (gd (decide (v1 < (a0.length : Int))) (lt (a0.set v1.toNat (a1, (rd dTEvent a0 v1.toNat).2)) fun z1 => (gd (decide (0 ≤ v1)) (gd (decide (v1 < (z1.length : Int))) (lt (z1.set v1.toNat ((rd dTEvent z1 v1.toNat).1, (w64 (a1 + 1)), (rd dTEvent z1 v1.toNat).2.2)) fun z2 => (gd (decide (0 ≤ v1)) (gd (decide (v1 < (z2.length : Int))) (lt (z2.set v1.toNat ((rd dTEvent z2 v1.toNat).1, (rd dTEvent z2 v1.toNat).2.1, (w64 ((w64 (a1 + 1)) + 1)), (rd dTEvent z2 v1.toNat).2.2.2)) fun z3 => (gd (decide (0 ≤ v1)) (gd (decide (v1 < (z3.length : Int))) (lt (z3.set v1.toNat ((rd dTEvent z3 v1.toNat).1, (rd dTEvent z3 v1.toNat).2.1, (rd dTEvent z3 v1.toNat).2.2.1, (w64 ((w64 ((w64 (a1 + 1)) + 1)) + 1)), (rd dTEvent z3 v1.toNat).2.2.2.2)) fun z4 => (gd (decide (0 ≤ v1)) (gd (decide (v1 < (z4.length : Int))) (lt (z4.set v1.toNat ((rd dTEvent z4 v1.toNat).1, (rd dTEvent z4 v1.toNat).2.1, (rd dTEvent z4 v1.toNat).2.2.1, (rd dTEvent z4 v1.toNat).2.2.2.1, (w64 ((w64 ((w64 ((w64 (a1 + 1)) + 1)) + 1)) + 1)), (rd dTEvent z4 v1.toNat).2.2.2.2.2)) fun z5 => (gd (decide (0 ≤ v1)) (gd (decide (v1 < (z5.length : Int))) (bd (l_markIntS k (rd dTEvent z5 v1.toNat).2.2.2.2.2.1 (w64 ((w64 ((w64 ((w64 ((w64 (a1 + 1)) + 1)) + 1)) + 1)) + 1))) fun r6 => (gd (Nat.beq r6.2.1.length (rd dTEvent z5 v1.toNat).2.2.2.2.2.1.length) (lt (z5.set v1.toNat ((rd dTEvent z5 v1.toNat).1, (rd dTEvent z5 v1.toNat).2.1, (rd dTEvent z5 v1.toNat).2.2.1, (rd dTEvent z5 v1.toNat).2.2.2.1, (rd dTEvent z5 v1.toNat).2.2.2.2.1, r6.2.1, (rd dTEvent z5 v1.toNat).2.2.2.2.2.2)) fun z7 => (bd (l_markText k r6.1) fun r8 => (gd (decide (0 ≤ v1)) (gd (decide (v1 < (z7.length : Int))) (lt (z7.set v1.toNat ((rd dTEvent z7 v1.toNat).1, (rd dTEvent z7 v1.toNat).2.1, (rd dTEvent z7 v1.toNat).2.2.1, (rd dTEvent z7 v1.toNat).2.2.2.1, (rd dTEvent z7 v1.toNat).2.2.2.2.1, (rd dTEvent z7 v1.toNat).2.2.2.2.2.1, r8, (rd dTEvent z7 v1.toNat).2.2.2.2.2.2.2)) fun z9 => (gd (decide (0 ≤ v1)) (gd (decide (v1 < (z9.length : Int))) (bd (l_markIntS k (rd dTEvent z9 v1.toNat).2.2.2.2.2.2.2.1 (w64 (r6.1 + 1))) fun r10 => (gd (Nat.beq r10.2.1.length (rd dTEvent z9 v1.toNat).2.2.2.2.2.2.2.1.length) (lt (z9.set v1.toNat ((rd dTEvent z9 v1.toNat).1, (rd dTEvent z9 v1.toNat).2.1, (rd dTEvent z9 v1.toNat).2.2.1, (rd dTEvent z9 v1.toNat).2.2.2.1, (rd dTEvent z9 v1.toNat).2.2.2.2.1, (rd dTEvent z9 v1.toNat).2.2.2.2.2.1, (rd dTEvent z9 v1.toNat).2.2.2.2.2.2.1, r10.2.1, (rd dTEvent z9 v1.toNat).2.2.2.2.2.2.2.2)) fun z11 => (gd (decide (0 ≤ v1)) (gd (decide (v1 < (z11.length : Int))) (lt (z11.set v1.toNat ((rd dTEvent z11 v1.toNat).1, (rd dTEvent z11 v1.toNat).2.1, (rd dTEvent z11 v1.toNat).2.2.1, (rd dTEvent z11 v1.toNat).2.2.2.1, (rd dTEvent z11 v1.toNat).2.2.2.2.1, (rd dTEvent z11 v1.toNat).2.2.2.2.2.1, (rd dTEvent z11 v1.toNat).2.2.2.2.2.2.1, (rd dTEvent z11 v1.toNat).2.2.2.2.2.2.2.1, r10.1, ())) fun z12 => (L0 (w64 (r10.1 + 1)) (w64 (v1 + 1)) z12))))))))))))))))))))))))))))))))) (some (a1, a0, ())))
def l0_l_markEventS (k : Nat) : Nat → Int → Int → List TEvent → Option (Int × List TEvent × Unit)
  | 0, _, _, _ => none
  | n + 1, a1, v1, a0 => b0_l_markEventS k (l0_l_markEventS k n) a1 v1 a0
def g_l_markEventS (k : Nat) (L0 : Int → Int → List TEvent → Option (Int × List TEvent × Unit)) (a0 : List TEvent) (a1 : Int) : Option (Int × List TEvent × Unit) := (L0 a1 0 a0)
def l_markEventS (k : Nat) (a0 : List TEvent) (a1 : Int) : Option (Int × List TEvent × Unit) := g_l_markEventS k (l0_l_markEventS k k) a0 a1
end
noncomputable section
def b0_l_heldIntS (k : Nat) (L0 : List Int → Int → Int → Option Int) (a0 : List Int) (a1 : Int) (v1 : Int) : Option Int := (br (decide (v1 < (a0.length : Int))) (gd (decide (0 ≤ v1)) (gd (decide (v1 < (a0.length : Int))) (br ((rd 0 a0 v1.toNat) != a1) (some (-1)) (L0 a0 (w64 (a1 + 1)) (w64 (v1 + 1)))))) (some a1))
def l0_l_heldIntS (k : Nat) : Nat → List Int → Int → Int → Option Int
  | 0, _, _, _ => none
  | n + 1, a0, a1, v1 => b0_l_heldIntS k (l0_l_heldIntS k n) a0 a1 v1
def g_l_heldIntS (k : Nat) (L0 : List Int → Int → Int → Option Int) (a0 : List Int) (a1 : Int) : Option Int := (L0 a0 a1 0)
def l_heldIntS (k : Nat) (a0 : List Int) (a1 : Int) : Option Int := g_l_heldIntS k (l0_l_heldIntS k k) a0 a1
end
def l_heldEvent (k : Nat) (a0 : TEvent) (a1 : Int) : Option Int := (bd (l_heldIntS k a0.2.2.2.2.2.1 a1) fun r1 => (br (decide (r1 < 0)) (some (-1)) (bd (l_heldIntS k a0.2.2.2.2.2.2.2.1 r1) fun r2 => (br (decide (r2 < 0)) (some (-1)) (some r2)))))
def l_FnExactKnown (k : Nat) (a0 : List TEvent) (a1 : Int) : Option Bool := (bd (l_szEventS k a0 1048576) fun r1 => (br (decide (r1 < 0)) (some true) (bd (l_toEventS k a0) fun r2 => (bd (s_Known k r2 a1) fun r3 => (bd (l_toEventS k a0) fun r4 => (bd (i_Known k r4 a1) fun r5 => (bd (l_eqEvent k r5.1 r3.1) fun r6 => (br (!r6) (some false) (br (!(r5.2 == r3.2)) (some false) (bd (l_toEventS k a0) fun r7 => (bd (l_eqEventS k r4 r7) fun r8 => (br (!r8) (some false) (bd (l_markEventS k r4 1) fun r9 => (gd (Nat.beq r9.2.1.length r4.length) (br (decide (r9.1 < 0)) (some false) (bd (l_eqEvent k r5.1 r3.1) fun r10 => (br (!r10) (some false) (br (!(r5.2 == r3.2)) (some false) (bd (l_markIntS k r5.1.2.2.2.2.2.1 1) fun r11 => (gd (Nat.beq r11.2.1.length r5.1.2.2.2.2.2.1.length) (bd (l_markIntS k r5.1.2.2.2.2.2.2.2.1 r11.1) fun r12 => (gd (Nat.beq r12.2.1.length r5.1.2.2.2.2.2.2.2.1.length) (bd (l_heldEvent k (r5.1.1, r5.1.2.1, r5.1.2.2.1, r5.1.2.2.2.1, r5.1.2.2.2.2.1, r11.2.1, r5.1.2.2.2.2.2.2.1, r12.2.1, r5.1.2.2.2.2.2.2.2.2) 1) fun r13 => (br (decide (r13 < 0)) (some false) (br (r13 != r12.1) (some false) (bd (l_toEventS k a0) fun r14 => (bd (i_Known k r14 a1) fun r15 => (bd (l_eqEvent k r15.1 r3.1) fun r16 => (br (!r16) (some false) (br (!(r15.2 == r3.2)) (some false) (bd (l_heldEvent k (r5.1.1, r5.1.2.1, r5.1.2.2.1, r5.1.2.2.2.1, r5.1.2.2.2.2.1, r11.2.1, r5.1.2.2.2.2.2.2.1, r12.2.1, r5.1.2.2.2.2.2.2.2.2) 1) fun r17 => (br (decide (r17 < 0)) (some false) (br (r17 != r12.1) (some false) (some true))))))))))))))))))))))))))))))))))
def l_szItemS (k : Nat) (a0 : List TItem) (a1 : Int) : Option Int := (br (decide ((w64 (a1 - (a0.length : Int))) < 0)) (some (-1)) (some (w64 (a1 - (a0.length : Int)))))
noncomputable section
def b0_l_szItemSS (k : Nat) (L0 : List (List TItem) → Int → Int → Option Int) (a0 : List (List TItem)) (v1 : Int) (v2 : Int) : Option Int := (br (decide (v2 < (a0.length : Int))) (gd (decide (0 ≤ v2)) (gd (decide (v2 < (a0.length : Int))) (bd (l_szItemS k (rd [] a0 v2.toNat) v1) fun r1 => (br (decide (r1 < 0)) (some (-1)) (L0 a0 r1 (w64 (v2 + 1))))))) (some v1))
def l0_l_szItemSS (k : Nat) : Nat → List (List TItem) → Int → Int → Option Int
  | 0, _, _, _ => none
  | n + 1, a0, v1, v2 => b0_l_szItemSS k (l0_l_szItemSS k n) a0 v1 v2
def g_l_szItemSS (k : Nat) (L0 : List (List TItem) → Int → Int → Option Int) (a0 : List (List TItem)) (a1 : Int) : Option Int := (br (decide ((w64 (a1 - (a0.length : Int))) < 0)) (some (-1)) (L0 a0 (w64 (a1 - (a0.length : Int))) 0))
def l_szItemSS (k : Nat) (a0 : List (List TItem)) (a1 : Int) : Option Int := g_l_szItemSS k (l0_l_szItemSS k k) a0 a1
end
def l_szBoolS (k : Nat) (a0 : List Bool) (a1 : Int) : Option Int := (br (decide ((w64 (a1 - (a0.length : Int))) < 0)) (some (-1)) (some (w64 (a1 - (a0.length : Int)))))
def l_szRoom (k : Nat) (a0 : TRoom) (a1 : Int) : Option Int := (bd (l_szEventS k a0.1 a1) fun r1 => (br (decide (r1 < 0)) (some (-1)) (bd (l_szItemSS k a0.2.1 r1) fun r2 => (br (decide (r2 < 0)) (some (-1)) (bd (l_szBoolS k a0.2.2.1 r2) fun r3 => (br (decide (r3 < 0)) (some (-1)) (some r3)))))))
noncomputable section
def b0_s_Said (k : Nat) (L0 : Int → TRoom → List ByteArray → Option (List ByteArray)) (v1 : Int) (a0 : TRoom) (xs2 : List ByteArray) : Option (List ByteArray) := (br (decide (v1 < (a0.1.length : Int))) (br (decide (v1 < (a0.2.2.1.length : Int))) (gd (decide (0 ≤ v1)) (gd (decide (v1 < (a0.1.length : Int))) (br ((rd dTEvent a0.1 v1.toNat).2.1 == 5) (gd (decide (0 ≤ v1)) (gd (decide (v1 < (a0.2.2.1.length : Int))) (br (rd false a0.2.2.1 v1.toNat) (gd (decide (0 ≤ v1)) (gd (decide (v1 < (a0.1.length : Int))) (gd (decide (xs2.length + [(rd dTEvent a0.1 v1.toNat).2.2.2.2.2.2.1].length ≤ maxRow)) (L0 (w64 (v1 + 1)) a0 (xs2 ++ [(rd dTEvent a0.1 v1.toNat).2.2.2.2.2.2.1]))))) (L0 (w64 (v1 + 1)) a0 xs2)))) (L0 (w64 (v1 + 1)) a0 xs2)))) (some xs2)) (some xs2))
def l0_s_Said (k : Nat) : Nat → Int → TRoom → List ByteArray → Option (List ByteArray)
  | 0, _, _, _ => none
  | n + 1, v1, a0, xs2 => b0_s_Said k (l0_s_Said k n) v1 a0 xs2
def g_s_Said (k : Nat) (L0 : Int → TRoom → List ByteArray → Option (List ByteArray)) (a0 : TRoom) : Option (List ByteArray) := (L0 0 a0 [])
def s_Said (k : Nat) (a0 : TRoom) : Option (List ByteArray) := g_s_Said k (l0_s_Said k k) a0
end
def l_toItem (k : Nat) (a0 : TItem) : Option TItem := (some a0)
noncomputable section
def b0_l_toItemS (k : Nat) (L0 : List TItem → Int → List TItem → Option (List TItem)) (a0 : List TItem) (v1 : Int) (xs2 : List TItem) : Option (List TItem) := (br (decide (v1 < (a0.length : Int))) (gd (decide (0 ≤ v1)) (gd (decide (v1 < (a0.length : Int))) (bd (l_toItem k (rd dTItem a0 v1.toNat)) fun r1 => (gd (decide (0 ≤ v1)) (gd (decide (v1 < (xs2.length : Int))) (L0 a0 (w64 (v1 + 1)) (xs2.set v1.toNat r1))))))) (some xs2))
def l0_l_toItemS (k : Nat) : Nat → List TItem → Int → List TItem → Option (List TItem)
  | 0, _, _, _ => none
  | n + 1, a0, v1, xs2 => b0_l_toItemS k (l0_l_toItemS k n) a0 v1 xs2
def g_l_toItemS (k : Nat) (L0 : List TItem → Int → List TItem → Option (List TItem)) (a0 : List TItem) : Option (List TItem) := (gd (decide ((a0.length : Int) = (a0.length : Int))) (gd (decide (0 ≤ (a0.length : Int))) (gd (decide ((a0.length : Int).toNat ≤ maxRow)) (L0 a0 0 (List.replicate (a0.length : Int).toNat dTItem)))))
def l_toItemS (k : Nat) (a0 : List TItem) : Option (List TItem) := g_l_toItemS k (l0_l_toItemS k k) a0
end
noncomputable section
def b0_l_toItemSS (k : Nat) (L0 : List (List TItem) → Int → List (List TItem) → Option (List (List TItem))) (a0 : List (List TItem)) (v1 : Int) (xs2 : List (List TItem)) : Option (List (List TItem)) := (br (decide (v1 < (a0.length : Int))) (gd (decide (0 ≤ v1)) (gd (decide (v1 < (a0.length : Int))) (bd (l_toItemS k (rd [] a0 v1.toNat)) fun r1 => (gd (decide (0 ≤ v1)) (gd (decide (v1 < (xs2.length : Int))) (L0 a0 (w64 (v1 + 1)) (xs2.set v1.toNat r1))))))) (some xs2))
def l0_l_toItemSS (k : Nat) : Nat → List (List TItem) → Int → List (List TItem) → Option (List (List TItem))
  | 0, _, _, _ => none
  | n + 1, a0, v1, xs2 => b0_l_toItemSS k (l0_l_toItemSS k n) a0 v1 xs2
def g_l_toItemSS (k : Nat) (L0 : List (List TItem) → Int → List (List TItem) → Option (List (List TItem))) (a0 : List (List TItem)) : Option (List (List TItem)) := (gd (decide ((a0.length : Int) = (a0.length : Int))) (gd (decide (0 ≤ (a0.length : Int))) (gd (decide ((a0.length : Int).toNat ≤ maxRow)) (L0 a0 0 (List.replicate (a0.length : Int).toNat [])))))
def l_toItemSS (k : Nat) (a0 : List (List TItem)) : Option (List (List TItem)) := g_l_toItemSS k (l0_l_toItemSS k k) a0
end
noncomputable section
def b0_l_toBoolS (k : Nat) (L0 : List Bool → Int → List Bool → Option (List Bool)) (a0 : List Bool) (v1 : Int) (xs2 : List Bool) : Option (List Bool) := (br (decide (v1 < (a0.length : Int))) (gd (decide (0 ≤ v1)) (gd (decide (v1 < (a0.length : Int))) (gd (decide (0 ≤ v1)) (gd (decide (v1 < (xs2.length : Int))) (L0 a0 (w64 (v1 + 1)) (xs2.set v1.toNat (rd false a0 v1.toNat))))))) (some xs2))
def l0_l_toBoolS (k : Nat) : Nat → List Bool → Int → List Bool → Option (List Bool)
  | 0, _, _, _ => none
  | n + 1, a0, v1, xs2 => b0_l_toBoolS k (l0_l_toBoolS k n) a0 v1 xs2
def g_l_toBoolS (k : Nat) (L0 : List Bool → Int → List Bool → Option (List Bool)) (a0 : List Bool) : Option (List Bool) := (gd (decide ((a0.length : Int) = (a0.length : Int))) (gd (decide (0 ≤ (a0.length : Int))) (gd (decide ((a0.length : Int).toNat ≤ maxRow)) (L0 a0 0 (List.replicate (a0.length : Int).toNat false)))))
def l_toBoolS (k : Nat) (a0 : List Bool) : Option (List Bool) := g_l_toBoolS k (l0_l_toBoolS k k) a0
end
def l_toRoom (k : Nat) (a0 : TRoom) : Option TRoom := (bd (l_toEventS k a0.1) fun r1 => (bd (l_toItemSS k a0.2.1) fun r2 => (bd (l_toBoolS k a0.2.2.1) fun r3 => (some (r1, r2, r3, ())))))
def i_isGood (k : Nat) (a0 : TRoom) (a1 : Int) : Option Bool := (br (decide (a1 < (a0.2.2.1.length : Int))) (gd (decide (0 ≤ a1)) (gd (decide (a1 < (a0.2.2.1.length : Int))) (some (rd false a0.2.2.1 a1.toNat)))) (some false))
noncomputable section
def b0_i_Said (k : Nat) (L0 : TRoom → Int → List ByteArray → Option (List ByteArray)) (a0 : TRoom) (v1 : Int) (xs2 : List ByteArray) : Option (List ByteArray) := (br (decide (v1 < (a0.1.length : Int))) (gd (decide (0 ≤ v1)) (gd (decide (v1 < (a0.1.length : Int))) (br ((rd dTEvent a0.1 v1.toNat).2.1 == 5) (bd (i_isGood k a0 v1) fun r1 => (br r1 (gd (decide (xs2.length + [(rd dTEvent a0.1 v1.toNat).2.2.2.2.2.2.1].length ≤ maxRow)) (L0 a0 (w64 (v1 + 1)) (xs2 ++ [(rd dTEvent a0.1 v1.toNat).2.2.2.2.2.2.1]))) (L0 a0 (w64 (v1 + 1)) xs2))) (L0 a0 (w64 (v1 + 1)) xs2)))) (some xs2))
def l0_i_Said (k : Nat) : Nat → TRoom → Int → List ByteArray → Option (List ByteArray)
  | 0, _, _, _ => none
  | n + 1, a0, v1, xs2 => b0_i_Said k (l0_i_Said k n) a0 v1 xs2
def g_i_Said (k : Nat) (L0 : TRoom → Int → List ByteArray → Option (List ByteArray)) (a0 : TRoom) : Option (List ByteArray) := (L0 a0 0 [])
def i_Said (k : Nat) (a0 : TRoom) : Option (List ByteArray) := g_i_Said k (l0_i_Said k k) a0
end
noncomputable section
def b0_l_eqStringS (k : Nat) (L0 : List ByteArray → List ByteArray → Int → Option Bool) (a0 : List ByteArray) (a1 : List ByteArray) (v1 : Int) : Option Bool := (br (decide (v1 < (a0.length : Int))) (gd (decide (0 ≤ v1)) (gd (decide (v1 < (a0.length : Int))) (gd (decide (0 ≤ v1)) (gd (decide (v1 < (a1.length : Int))) (br (!((rd ByteArray.empty a0 v1.toNat).toList == (rd ByteArray.empty a1 v1.toNat).toList)) (some false) (L0 a0 a1 (w64 (v1 + 1)))))))) (some true))
def l0_l_eqStringS (k : Nat) : Nat → List ByteArray → List ByteArray → Int → Option Bool
  | 0, _, _, _ => none
  | n + 1, a0, a1, v1 => b0_l_eqStringS k (l0_l_eqStringS k n) a0 a1 v1
def g_l_eqStringS (k : Nat) (L0 : List ByteArray → List ByteArray → Int → Option Bool) (a0 : List ByteArray) (a1 : List ByteArray) : Option Bool := (br ((a0.length : Int) != (a1.length : Int)) (some false) (L0 a0 a1 0))
def l_eqStringS (k : Nat) (a0 : List ByteArray) (a1 : List ByteArray) : Option Bool := g_l_eqStringS k (l0_l_eqStringS k k) a0 a1
end
def l_eqItem (k : Nat) (a0 : TItem) (a1 : TItem) : Option Bool := (br (a0.1 != a1.1) (some false) (br (a0.2.1 != a1.2.1) (some false) (some true)))
noncomputable section
def b0_l_eqItemS (k : Nat) (L0 : List TItem → List TItem → Int → Option Bool) (a0 : List TItem) (a1 : List TItem) (v1 : Int) : Option Bool := (br (decide (v1 < (a0.length : Int))) (gd (decide (0 ≤ v1)) (gd (decide (v1 < (a0.length : Int))) (gd (decide (0 ≤ v1)) (gd (decide (v1 < (a1.length : Int))) (bd (l_eqItem k (rd dTItem a0 v1.toNat) (rd dTItem a1 v1.toNat)) fun r1 => (br (!r1) (some false) (L0 a0 a1 (w64 (v1 + 1))))))))) (some true))
def l0_l_eqItemS (k : Nat) : Nat → List TItem → List TItem → Int → Option Bool
  | 0, _, _, _ => none
  | n + 1, a0, a1, v1 => b0_l_eqItemS k (l0_l_eqItemS k n) a0 a1 v1
def g_l_eqItemS (k : Nat) (L0 : List TItem → List TItem → Int → Option Bool) (a0 : List TItem) (a1 : List TItem) : Option Bool := (br ((a0.length : Int) != (a1.length : Int)) (some false) (L0 a0 a1 0))
def l_eqItemS (k : Nat) (a0 : List TItem) (a1 : List TItem) : Option Bool := g_l_eqItemS k (l0_l_eqItemS k k) a0 a1
end
noncomputable section
def b0_l_eqItemSS (k : Nat) (L0 : List (List TItem) → List (List TItem) → Int → Option Bool) (a0 : List (List TItem)) (a1 : List (List TItem)) (v1 : Int) : Option Bool := (br (decide (v1 < (a0.length : Int))) (gd (decide (0 ≤ v1)) (gd (decide (v1 < (a0.length : Int))) (gd (decide (0 ≤ v1)) (gd (decide (v1 < (a1.length : Int))) (bd (l_eqItemS k (rd [] a0 v1.toNat) (rd [] a1 v1.toNat)) fun r1 => (br (!r1) (some false) (L0 a0 a1 (w64 (v1 + 1))))))))) (some true))
def l0_l_eqItemSS (k : Nat) : Nat → List (List TItem) → List (List TItem) → Int → Option Bool
  | 0, _, _, _ => none
  | n + 1, a0, a1, v1 => b0_l_eqItemSS k (l0_l_eqItemSS k n) a0 a1 v1
def g_l_eqItemSS (k : Nat) (L0 : List (List TItem) → List (List TItem) → Int → Option Bool) (a0 : List (List TItem)) (a1 : List (List TItem)) : Option Bool := (br ((a0.length : Int) != (a1.length : Int)) (some false) (L0 a0 a1 0))
def l_eqItemSS (k : Nat) (a0 : List (List TItem)) (a1 : List (List TItem)) : Option Bool := g_l_eqItemSS k (l0_l_eqItemSS k k) a0 a1
end
noncomputable section
def b0_l_eqBoolS (k : Nat) (L0 : List Bool → List Bool → Int → Option Bool) (a0 : List Bool) (a1 : List Bool) (v1 : Int) : Option Bool := (br (decide (v1 < (a0.length : Int))) (gd (decide (0 ≤ v1)) (gd (decide (v1 < (a0.length : Int))) (gd (decide (0 ≤ v1)) (gd (decide (v1 < (a1.length : Int))) (br (!((rd false a0 v1.toNat) == (rd false a1 v1.toNat))) (some false) (L0 a0 a1 (w64 (v1 + 1)))))))) (some true))
def l0_l_eqBoolS (k : Nat) : Nat → List Bool → List Bool → Int → Option Bool
  | 0, _, _, _ => none
  | n + 1, a0, a1, v1 => b0_l_eqBoolS k (l0_l_eqBoolS k n) a0 a1 v1
def g_l_eqBoolS (k : Nat) (L0 : List Bool → List Bool → Int → Option Bool) (a0 : List Bool) (a1 : List Bool) : Option Bool := (br ((a0.length : Int) != (a1.length : Int)) (some false) (L0 a0 a1 0))
def l_eqBoolS (k : Nat) (a0 : List Bool) (a1 : List Bool) : Option Bool := g_l_eqBoolS k (l0_l_eqBoolS k k) a0 a1
end
def l_eqRoom (k : Nat) (a0 : TRoom) (a1 : TRoom) : Option Bool := (bd (l_eqEventS k a0.1 a1.1) fun r1 => (br (!r1) (some false) (bd (l_eqItemSS k a0.2.1 a1.2.1) fun r2 => (br (!r2) (some false) (bd (l_eqBoolS k a0.2.2.1 a1.2.2.1) fun r3 => (br (!r3) (some false) (some true)))))))
noncomputable section
def b0_l_markStringS (k : Nat) (L0 : Int → Int → List ByteArray → Option (Int × List ByteArray × Unit)) (a1 : Int) (v1 : Int) (a0 : List ByteArray) : Option (Int × List ByteArray × Unit) := (br (decide (v1 < (a0.length : Int))) (bd (l_markText k a1) fun r1 => (gd (decide (0 ≤ v1)) (gd (decide (v1 < (a0.length : Int))) (L0 (w64 (a1 + 1)) (w64 (v1 + 1)) (a0.set v1.toNat r1))))) (some (a1, a0, ())))
def l0_l_markStringS (k : Nat) : Nat → Int → Int → List ByteArray → Option (Int × List ByteArray × Unit)
  | 0, _, _, _ => none
  | n + 1, a1, v1, a0 => b0_l_markStringS k (l0_l_markStringS k n) a1 v1 a0
def g_l_markStringS (k : Nat) (L0 : Int → Int → List ByteArray → Option (Int × List ByteArray × Unit)) (a0 : List ByteArray) (a1 : Int) : Option (Int × List ByteArray × Unit) := (L0 a1 0 a0)
def l_markStringS (k : Nat) (a0 : List ByteArray) (a1 : Int) : Option (Int × List ByteArray × Unit) := g_l_markStringS k (l0_l_markStringS k k) a0 a1
end
noncomputable section
def b0_l_heldStringS (k : Nat) (L0 : List ByteArray → Int → Int → Option Int) (a0 : List ByteArray) (a1 : Int) (v1 : Int) : Option Int := (br (decide (v1 < (a0.length : Int))) (gd (decide (0 ≤ v1)) (gd (decide (v1 < (a0.length : Int))) (bd (l_markText k a1) fun r1 => (br (!((rd ByteArray.empty a0 v1.toNat).toList == r1.toList)) (some (-1)) (L0 a0 (w64 (a1 + 1)) (w64 (v1 + 1))))))) (some a1))
def l0_l_heldStringS (k : Nat) : Nat → List ByteArray → Int → Int → Option Int
  | 0, _, _, _ => none
  | n + 1, a0, a1, v1 => b0_l_heldStringS k (l0_l_heldStringS k n) a0 a1 v1
def g_l_heldStringS (k : Nat) (L0 : List ByteArray → Int → Int → Option Int) (a0 : List ByteArray) (a1 : Int) : Option Int := (L0 a0 a1 0)
def l_heldStringS (k : Nat) (a0 : List ByteArray) (a1 : Int) : Option Int := g_l_heldStringS k (l0_l_heldStringS k k) a0 a1
end
noncomputable section
def b0_l_markItemS (k : Nat) (L0 : Int → Int → List TItem → Option (Int × List TItem × Unit)) (a1 : Int) (v1 : Int) (a0 : List TItem) : Option (Int × List TItem × Unit) := (br (decide (v1 < (a0.length : Int))) (gd (decide (0 ≤ v1)) (gd (decide (v1 < (a0.length : Int))) (gd (decide (0 ≤ v1)) (gd (decide (v1 < (((a0.set v1.toNat (a1, (rd dTItem a0 v1.toNat).2)).length : Nat) : Int))) (L0 (w64 ((w64 (a1 + 1)) + 1)) (w64 (v1 + 1)) ((a0.set v1.toNat (a1, (rd dTItem a0 v1.toNat).2)).set v1.toNat ((rd dTItem (a0.set v1.toNat (a1, (rd dTItem a0 v1.toNat).2)) v1.toNat).1, (w64 (a1 + 1)), ()))))))) (some (a1, a0, ())))
def l0_l_markItemS (k : Nat) : Nat → Int → Int → List TItem → Option (Int × List TItem × Unit)
  | 0, _, _, _ => none
  | n + 1, a1, v1, a0 => b0_l_markItemS k (l0_l_markItemS k n) a1 v1 a0
def g_l_markItemS (k : Nat) (L0 : Int → Int → List TItem → Option (Int × List TItem × Unit)) (a0 : List TItem) (a1 : Int) : Option (Int × List TItem × Unit) := (L0 a1 0 a0)
def l_markItemS (k : Nat) (a0 : List TItem) (a1 : Int) : Option (Int × List TItem × Unit) := g_l_markItemS k (l0_l_markItemS k k) a0 a1
end
noncomputable section
def b0_l_markItemSS (k : Nat) (L0 : Int → Int → List (List TItem) → Option (Int × List (List TItem) × Unit)) (a1 : Int) (v1 : Int) (a0 : List (List TItem)) : Option (Int × List (List TItem) × Unit) := (br (decide (v1 < (a0.length : Int))) (gd (decide (0 ≤ v1)) (gd (decide (v1 < (a0.length : Int))) (bd (l_markItemS k (rd [] a0 v1.toNat) a1) fun r1 => (gd (Nat.beq r1.2.1.length (rd [] a0 v1.toNat).length) (lt (a0.set v1.toNat r1.2.1) fun z2 => (L0 r1.1 (w64 (v1 + 1)) z2)))))) (some (a1, a0, ())))
def l0_l_markItemSS (k : Nat) : Nat → Int → Int → List (List TItem) → Option (Int × List (List TItem) × Unit)
  | 0, _, _, _ => none
  | n + 1, a1, v1, a0 => b0_l_markItemSS k (l0_l_markItemSS k n) a1 v1 a0
def g_l_markItemSS (k : Nat) (L0 : Int → Int → List (List TItem) → Option (Int × List (List TItem) × Unit)) (a0 : List (List TItem)) (a1 : Int) : Option (Int × List (List TItem) × Unit) := (L0 a1 0 a0)
def l_markItemSS (k : Nat) (a0 : List (List TItem)) (a1 : Int) : Option (Int × List (List TItem) × Unit) := g_l_markItemSS k (l0_l_markItemSS k k) a0 a1
end
noncomputable section
def b0_l_markBoolS (k : Nat) (L0 : Int → Int → List Bool → Option (Int × List Bool × Unit)) (a1 : Int) (v1 : Int) (a0 : List Bool) : Option (Int × List Bool × Unit) := (br (decide (v1 < (a0.length : Int))) (ng (a1 == a1 && (3 : Int) == 0) (gd (decide (0 ≤ v1)) (gd (decide (v1 < (a0.length : Int))) (L0 (w64 (a1 + 1)) (w64 (v1 + 1)) (a0.set v1.toNat ((Int.tmod a1 3) == 0)))))) (some (a1, a0, ())))
def l0_l_markBoolS (k : Nat) : Nat → Int → Int → List Bool → Option (Int × List Bool × Unit)
  | 0, _, _, _ => none
  | n + 1, a1, v1, a0 => b0_l_markBoolS k (l0_l_markBoolS k n) a1 v1 a0
def g_l_markBoolS (k : Nat) (L0 : Int → Int → List Bool → Option (Int × List Bool × Unit)) (a0 : List Bool) (a1 : Int) : Option (Int × List Bool × Unit) := (L0 a1 0 a0)
def l_markBoolS (k : Nat) (a0 : List Bool) (a1 : Int) : Option (Int × List Bool × Unit) := g_l_markBoolS k (l0_l_markBoolS k k) a0 a1
end
def l_FnExactSaid (k : Nat) (a0 : TRoom) : Option Bool := (bd (l_szRoom k a0 1048576) fun r1 => (br (decide (r1 < 0)) (some true) (bd (l_toRoom k a0) fun r2 => (bd (s_Said k r2) fun r3 => (bd (l_toRoom k a0) fun r4 => (bd (i_Said k r4) fun r5 => (bd (l_eqStringS k r5 r3) fun r6 => (br (!r6) (some false) (bd (l_toRoom k a0) fun r7 => (bd (l_eqRoom k r4 r7) fun r8 => (br (!r8) (some false) (bd (l_markEventS k r4.1 1) fun r9 => (gd (Nat.beq r9.2.1.length r4.1.length) (bd (l_markItemSS k r4.2.1 r9.1) fun r10 => (gd (Nat.beq r10.2.1.length r4.2.1.length) (bd (l_markBoolS k r4.2.2.1 r10.1) fun r11 => (gd (Nat.beq r11.2.1.length r4.2.2.1.length) (br (decide (r11.1 < 0)) (some false) (bd (l_eqStringS k r5 r3) fun r12 => (br (!r12) (some false) (bd (l_markStringS k r5 1) fun r13 => (gd (Nat.beq r13.2.1.length r5.length) (bd (l_heldStringS k r13.2.1 1) fun r14 => (br (decide (r14 < 0)) (some false) (br (r14 != r13.1) (some false) (bd (l_toRoom k a0) fun r15 => (bd (i_Said k r15) fun r16 => (bd (l_eqStringS k r16 r3) fun r17 => (br (!r17) (some false) (bd (l_heldStringS k r13.2.1 1) fun r18 => (br (decide (r18 < 0)) (some false) (br (r18 != r13.1) (some false) (some true)))))))))))))))))))))))))))))))))
noncomputable section
def b0_s_l11Keys (k : Nat) (L1 : List (List TItem) → Int → Bool → Int → List Int → Option (List Int)) (a0 : List (List TItem)) (v1 : Int) (xs2 : List Int) : Option (List Int) := (br (decide (v1 ≤ 15)) (L1 a0 v1 false 0 xs2) (some xs2))
def b1_s_l11Keys (k : Nat) (L2 : List (List TItem) → Int → Bool → Int → Int → List Int → Option (List Int)) (L0 : List (List TItem) → Int → List Int → Option (List Int)) (a0 : List (List TItem)) (v1 : Int) (v3 : Bool) (v4 : Int) (xs2 : List Int) : Option (List Int) := (br (decide (v4 < (a0.length : Int))) (L2 a0 v1 v3 v4 0 xs2) (br v3 (gd (decide (xs2.length + [v1].length ≤ maxRow)) (L0 a0 (w64 (v1 + 1)) (xs2 ++ [v1]))) (L0 a0 (w64 (v1 + 1)) xs2)))
def b2_s_l11Keys (k : Nat) (L2 : List (List TItem) → Int → Bool → Int → Int → List Int → Option (List Int)) (L1 : List (List TItem) → Int → Bool → Int → List Int → Option (List Int)) (a0 : List (List TItem)) (v1 : Int) (v5 : Bool) (v4 : Int) (v6 : Int) (xs2 : List Int) : Option (List Int) := (gd (decide (0 ≤ v4)) (gd (decide (v4 < (a0.length : Int))) (br (decide (v6 < (((rd [] a0 v4.toNat).length : Nat) : Int))) (br v5 (L2 a0 v1 true v4 (w64 (v6 + 1)) xs2) (gd (decide (0 ≤ v4)) (gd (decide (v4 < (a0.length : Int))) (gd (decide (0 ≤ v6)) (gd (decide (v6 < (((rd [] a0 v4.toNat).length : Nat) : Int))) (L2 a0 v1 ((rd dTItem (rd [] a0 v4.toNat) v6.toNat).1 == v1) v4 (w64 (v6 + 1)) xs2)))))) (L1 a0 v1 v5 (w64 (v4 + 1)) xs2))))
def q0_s_l11Keys (k : Nat) : Nat → (List (List TItem) → Int → List Int → Option (List Int)) × (List (List TItem) → Int → Bool → Int → List Int → Option (List Int)) × (List (List TItem) → Int → Bool → Int → Int → List Int → Option (List Int))
  | 0 => (fun _ _ _ => none, fun _ _ _ _ _ => none, fun _ _ _ _ _ _ => none)
  | n + 1 => (b0_s_l11Keys k (q0_s_l11Keys k n).2.1, b1_s_l11Keys k (q0_s_l11Keys k n).2.2 (q0_s_l11Keys k n).1, b2_s_l11Keys k (q0_s_l11Keys k n).2.2 (q0_s_l11Keys k n).2.1)
def l0_s_l11Keys (k : Nat) (n : Nat) : List (List TItem) → Int → List Int → Option (List Int) := (q0_s_l11Keys k n).1
def l1_s_l11Keys (k : Nat) (n : Nat) : List (List TItem) → Int → Bool → Int → List Int → Option (List Int) := (q0_s_l11Keys k n).2.1
def l2_s_l11Keys (k : Nat) (n : Nat) : List (List TItem) → Int → Bool → Int → Int → List Int → Option (List Int) := (q0_s_l11Keys k n).2.2
theorem z0_s_l11Keys (k : Nat) (n : Nat) (a0 : List (List TItem)) (v1 : Int) (xs2 : List Int) : l0_s_l11Keys k (n + 1) a0 v1 xs2 = b0_s_l11Keys k (l1_s_l11Keys k n) a0 v1 xs2 := rfl
theorem z1_s_l11Keys (k : Nat) (n : Nat) (a0 : List (List TItem)) (v1 : Int) (v3 : Bool) (v4 : Int) (xs2 : List Int) : l1_s_l11Keys k (n + 1) a0 v1 v3 v4 xs2 = b1_s_l11Keys k (l2_s_l11Keys k n) (l0_s_l11Keys k n) a0 v1 v3 v4 xs2 := rfl
theorem z2_s_l11Keys (k : Nat) (n : Nat) (a0 : List (List TItem)) (v1 : Int) (v5 : Bool) (v4 : Int) (v6 : Int) (xs2 : List Int) : l2_s_l11Keys k (n + 1) a0 v1 v5 v4 v6 xs2 = b2_s_l11Keys k (l2_s_l11Keys k n) (l1_s_l11Keys k n) a0 v1 v5 v4 v6 xs2 := rfl
def g_s_l11Keys (k : Nat) (L0 : List (List TItem) → Int → List Int → Option (List Int)) (a0 : List (List TItem)) : Option (List Int) := (L0 a0 0 [])
def s_l11Keys (k : Nat) (a0 : List (List TItem)) : Option (List Int) := g_s_l11Keys k (l0_s_l11Keys k k) a0
end
noncomputable section
def b0_s_At (k : Nat) (L0 : List TItem → Int → Int → Option Int) (a0 : List TItem) (a1 : Int) (v1 : Int) : Option Int := (br (decide (v1 < (a0.length : Int))) (gd (decide (0 ≤ v1)) (gd (decide (v1 < (a0.length : Int))) (br ((rd dTItem a0 v1.toNat).1 == a1) (gd (decide (0 ≤ v1)) (gd (decide (v1 < (a0.length : Int))) (some (rd dTItem a0 v1.toNat).2.1))) (L0 a0 a1 (w64 (v1 + 1)))))) (some 0))
def l0_s_At (k : Nat) : Nat → List TItem → Int → Int → Option Int
  | 0, _, _, _ => none
  | n + 1, a0, a1, v1 => b0_s_At k (l0_s_At k n) a0 a1 v1
def g_s_At (k : Nat) (L0 : List TItem → Int → Int → Option Int) (a0 : List TItem) (a1 : Int) : Option Int := (L0 a0 a1 0)
def s_At (k : Nat) (a0 : List TItem) (a1 : Int) : Option Int := g_s_At k (l0_s_At k k) a0 a1
end
noncomputable section
def b0_s_l11Alike (k : Nat) (L0 : List (List TItem) → Int → Int → Option Bool) (a0 : List (List TItem)) (a1 : Int) (v1 : Int) : Option Bool := (br (decide (v1 < (a0.length : Int))) (gd (decide (0 ≤ v1)) (gd (decide (v1 < (a0.length : Int))) (bd (s_At k (rd [] a0 v1.toNat) a1) fun r1 => (gd (decide (0 < (a0.length : Int))) (bd (s_At k (rd [] a0 0) a1) fun r2 => (br (r1 != r2) (some false) (L0 a0 a1 (w64 (v1 + 1))))))))) (some true))
def l0_s_l11Alike (k : Nat) : Nat → List (List TItem) → Int → Int → Option Bool
  | 0, _, _, _ => none
  | n + 1, a0, a1, v1 => b0_s_l11Alike k (l0_s_l11Alike k n) a0 a1 v1
def g_s_l11Alike (k : Nat) (L0 : List (List TItem) → Int → Int → Option Bool) (a0 : List (List TItem)) (a1 : Int) : Option Bool := (L0 a0 a1 1)
def s_l11Alike (k : Nat) (a0 : List (List TItem)) (a1 : Int) : Option Bool := g_s_l11Alike k (l0_s_l11Alike k k) a0 a1
end
noncomputable section
def b0_s_Agreed (k : Nat) (L0 : List (List TItem) → Int → List TItem → List Int → Option (List TItem)) (a0 : List (List TItem)) (v1 : Int) (xs2 : List TItem) (r1 : List Int) : Option (List TItem) := (br (decide (v1 < (r1.length : Int))) (gd (decide (0 ≤ v1)) (gd (decide (v1 < (r1.length : Int))) (bd (s_l11Alike k a0 (rd 0 r1 v1.toNat)) fun r2 => (br r2 (gd (decide (0 ≤ v1)) (gd (decide (v1 < (r1.length : Int))) (gd (decide (0 < (a0.length : Int))) (gd (decide (0 ≤ v1)) (gd (decide (v1 < (r1.length : Int))) (bd (s_At k (rd [] a0 0) (rd 0 r1 v1.toNat)) fun r3 => (gd (decide (xs2.length + ([((rd 0 r1 v1.toNat), r3, ())] : List TItem).length ≤ maxRow)) (L0 a0 (w64 (v1 + 1)) (xs2 ++ ([((rd 0 r1 v1.toNat), r3, ())] : List TItem)) r1)))))))) (L0 a0 (w64 (v1 + 1)) xs2 r1))))) (some xs2))
def l0_s_Agreed (k : Nat) : Nat → List (List TItem) → Int → List TItem → List Int → Option (List TItem)
  | 0, _, _, _, _ => none
  | n + 1, a0, v1, xs2, r1 => b0_s_Agreed k (l0_s_Agreed k n) a0 v1 xs2 r1
def g_s_Agreed (k : Nat) (L0 : List (List TItem) → Int → List TItem → List Int → Option (List TItem)) (a0 : List (List TItem)) : Option (List TItem) := (bd (s_l11Keys k a0) fun r1 => (L0 a0 0 ([] : List TItem) r1))
def s_Agreed (k : Nat) (a0 : List (List TItem)) : Option (List TItem) := g_s_Agreed k (l0_s_Agreed k k) a0
end
def i_within (k : Nat) (a0 : Int) (a1 : Int) (a2 : Int) : Option Bool := (br (decide (a0 ≥ a1)) (some (decide (a0 ≤ a2))) (some false))
def slices_Sort_int_int (k : Nat) (a0 : List Int) : Option (Unit × List Int × Unit) := sortO a0
noncomputable section
def b3_i_keysIn (k : Nat) (L3 : Int → Int → Int → List Int → List (List TItem) → Int → Option (List Int)) (v6 : Int) (v5 : Int) (v7 : Int) (xs8 : List Int) (a0 : List (List TItem)) (v1 : Int) : Option (List Int) := (br (decide (v7 < (((xs8.length - v5.toNat) : Nat) : Int))) (gd (decide (0 ≤ v7)) (gd (decide (v7 < (((xs8.length - v5.toNat) : Nat) : Int))) (gd (decide (0 ≤ (w64 (v7 - 1)))) (gd (decide ((w64 (v7 - 1)) < (((xs8.length - v5.toNat) : Nat) : Int))) (br ((rd 0 xs8 (v5.toNat + v7.toNat)) != (rd 0 xs8 (v5.toNat + (w64 (v7 - 1)).toNat))) (gd (decide (0 ≤ v7)) (gd (decide (v7 < (((xs8.length - v5.toNat) : Nat) : Int))) (gd (decide (0 ≤ v6)) (gd (decide (v6 < (xs8.length : Int))) (L3 (w64 (v6 + 1)) v5 (w64 (v7 + 1)) (xs8.set v6.toNat (rd 0 xs8 (v5.toNat + v7.toNat))) a0 v1))))) (L3 v6 v5 (w64 (v7 + 1)) xs8 a0 v1)))))) (gd (decide (0 ≤ v6)) (gd (decide (v6 ≤ (xs8.length : Int))) (gd (decide (0 ≤ v6)) (gd (decide (v6 ≤ (((clr 0 (some v6.toNat) none xs8).length : Nat) : Int))) (some ((clr 0 (some v6.toNat) none xs8).take (0 + v6.toNat))))))))
def b2_i_keysIn (k : Nat) (L3 : Int → Int → Int → List Int → List (List TItem) → Int → Option (List Int)) (L2 : Int → (Unit × List Int × Unit) → List (List TItem) → Int → Option (List Int)) (v5 : Int) (r2 : Unit × List Int × Unit) (a0 : List (List TItem)) (v1 : Int) : Option (List Int) := (br (decide (v5 < (r2.2.1.length : Int))) (gd (decide (0 ≤ v5)) (gd (decide (v5 < (r2.2.1.length : Int))) (gd (decide (0 ≤ (w64 (v5 - 1)))) (gd (decide ((w64 (v5 - 1)) < (r2.2.1.length : Int))) (br ((rd 0 r2.2.1 v5.toNat) == (rd 0 r2.2.1 (w64 (v5 - 1)).toNat)) (gd (decide (0 ≤ v5)) (gd (decide (v5 ≤ (r2.2.1.length : Int))) (L3 v5 v5 1 r2.2.1 a0 v1))) (L2 (w64 (v5 + 1)) r2 a0 v1)))))) (some r2.2.1))
def b0_i_keysIn (k : Nat) (L1 : List (List TItem) → Int → Int → List Int → Option (List Int)) (L2 : Int → (Unit × List Int × Unit) → List (List TItem) → Int → Option (List Int)) (a0 : List (List TItem)) (v1 : Int) (xs2 : List Int) : Option (List Int) := (br (decide (v1 < (a0.length : Int))) (gd (decide (0 ≤ v1)) (gd (decide (v1 < (a0.length : Int))) (L1 a0 v1 0 xs2))) (bd (slices_Sort_int_int k xs2) fun r2 => (gd (Nat.beq r2.2.1.length xs2.length) (br (decide ((r2.2.1.length : Int) < 2)) (some r2.2.1) (L2 1 r2 a0 v1)))))
def b1_i_keysIn (k : Nat) (L1 : List (List TItem) → Int → Int → List Int → Option (List Int)) (L0 : List (List TItem) → Int → List Int → Option (List Int)) (a0 : List (List TItem)) (v1 : Int) (v3 : Int) (xs4 : List Int) : Option (List Int) := (br (decide (v3 < (((rd [] a0 v1.toNat).length : Nat) : Int))) (gd (decide (0 ≤ v3)) (gd (decide (v3 < (((rd [] a0 v1.toNat).length : Nat) : Int))) (bd (i_within k (rd dTItem (rd [] a0 v1.toNat) v3.toNat).1 0 15) fun r1 => (br r1 (gd (decide (xs4.length + [(rd dTItem (rd [] a0 v1.toNat) v3.toNat).1].length ≤ maxRow)) (L1 a0 v1 (w64 (v3 + 1)) (xs4 ++ [(rd dTItem (rd [] a0 v1.toNat) v3.toNat).1]))) (L1 a0 v1 (w64 (v3 + 1)) xs4))))) (L0 a0 (w64 (v1 + 1)) xs4))
def l3_i_keysIn (k : Nat) : Nat → Int → Int → Int → List Int → List (List TItem) → Int → Option (List Int)
  | 0, _, _, _, _, _, _ => none
  | n + 1, v6, v5, v7, xs8, a0, v1 => b3_i_keysIn k (l3_i_keysIn k n) v6 v5 v7 xs8 a0 v1
def l2_i_keysIn (k : Nat) : Nat → Int → (Unit × List Int × Unit) → List (List TItem) → Int → Option (List Int)
  | 0, _, _, _, _ => none
  | n + 1, v5, r2, a0, v1 => b2_i_keysIn k (l3_i_keysIn k n) (l2_i_keysIn k n) v5 r2 a0 v1
def q0_i_keysIn (k : Nat) : Nat → (List (List TItem) → Int → List Int → Option (List Int)) × (List (List TItem) → Int → Int → List Int → Option (List Int))
  | 0 => (fun _ _ _ => none, fun _ _ _ _ => none)
  | n + 1 => (b0_i_keysIn k (q0_i_keysIn k n).2 (l2_i_keysIn k n), b1_i_keysIn k (q0_i_keysIn k n).2 (q0_i_keysIn k n).1)
def l0_i_keysIn (k : Nat) (n : Nat) : List (List TItem) → Int → List Int → Option (List Int) := (q0_i_keysIn k n).1
def l1_i_keysIn (k : Nat) (n : Nat) : List (List TItem) → Int → Int → List Int → Option (List Int) := (q0_i_keysIn k n).2
theorem z0_i_keysIn (k : Nat) (n : Nat) (a0 : List (List TItem)) (v1 : Int) (xs2 : List Int) : l0_i_keysIn k (n + 1) a0 v1 xs2 = b0_i_keysIn k (l1_i_keysIn k n) (l2_i_keysIn k n) a0 v1 xs2 := rfl
theorem z1_i_keysIn (k : Nat) (n : Nat) (a0 : List (List TItem)) (v1 : Int) (v3 : Int) (xs4 : List Int) : l1_i_keysIn k (n + 1) a0 v1 v3 xs4 = b1_i_keysIn k (l1_i_keysIn k n) (l0_i_keysIn k n) a0 v1 v3 xs4 := rfl
def g_i_keysIn (k : Nat) (L0 : List (List TItem) → Int → List Int → Option (List Int)) (a0 : List (List TItem)) : Option (List Int) := (L0 a0 0 [])
def i_keysIn (k : Nat) (a0 : List (List TItem)) : Option (List Int) := g_i_keysIn k (l0_i_keysIn k k) a0
end
noncomputable section
def b0_i_At (k : Nat) (L0 : Int → List TItem → Int → Option Int) (a1 : Int) (a0 : List TItem) (v1 : Int) : Option Int := (br (decide (v1 < (a0.length : Int))) (gd (decide (0 ≤ v1)) (gd (decide (v1 < (a0.length : Int))) (br ((rd dTItem a0 v1.toNat).1 == a1) (some (rd dTItem a0 v1.toNat).2.1) (L0 a1 a0 (w64 (v1 + 1)))))) (some 0))
def l0_i_At (k : Nat) : Nat → Int → List TItem → Int → Option Int
  | 0, _, _, _ => none
  | n + 1, a1, a0, v1 => b0_i_At k (l0_i_At k n) a1 a0 v1
def g_i_At (k : Nat) (L0 : Int → List TItem → Int → Option Int) (a0 : List TItem) (a1 : Int) : Option Int := (L0 a1 a0 0)
def i_At (k : Nat) (a0 : List TItem) (a1 : Int) : Option Int := g_i_At k (l0_i_At k k) a0 a1
end
noncomputable section
def b0_i_allTell (k : Nat) (L0 : List (List TItem) → Int → Int → Option Bool) (a0 : List (List TItem)) (v1 : Int) (a1 : Int) : Option Bool := (br (decide (v1 < (a0.length : Int))) (gd (decide (0 ≤ v1)) (gd (decide (v1 < (a0.length : Int))) (bd (i_At k (rd [] a0 v1.toNat) a1) fun r1 => (gd (decide (0 < (a0.length : Int))) (bd (i_At k (rd [] a0 0) a1) fun r2 => (br (r1 != r2) (some (!(decide (v1 ≥ 0)))) (L0 a0 (w64 (v1 + 1)) a1))))))) (some true))
def l0_i_allTell (k : Nat) : Nat → List (List TItem) → Int → Int → Option Bool
  | 0, _, _, _ => none
  | n + 1, a0, v1, a1 => b0_i_allTell k (l0_i_allTell k n) a0 v1 a1
def g_i_allTell (k : Nat) (L0 : List (List TItem) → Int → Int → Option Bool) (a0 : List (List TItem)) (a1 : Int) : Option Bool := (L0 a0 0 a1)
def i_allTell (k : Nat) (a0 : List (List TItem)) (a1 : Int) : Option Bool := g_i_allTell k (l0_i_allTell k k) a0 a1
end
noncomputable section
def b0_i_Agreed (k : Nat) (L0 : List (List TItem) → List Int → Int → List TItem → Option (List TItem)) (a0 : List (List TItem)) (r1 : List Int) (v1 : Int) (xs2 : List TItem) : Option (List TItem) := (br (decide (v1 < (r1.length : Int))) (gd (decide (0 ≤ v1)) (gd (decide (v1 < (r1.length : Int))) (bd (i_allTell k a0 (rd 0 r1 v1.toNat)) fun r2 => (br r2 (gd (decide (0 < (a0.length : Int))) (bd (i_At k (rd [] a0 0) (rd 0 r1 v1.toNat)) fun r3 => (gd (decide (xs2.length + ([((rd 0 r1 v1.toNat), r3, ())] : List TItem).length ≤ maxRow)) (L0 a0 r1 (w64 (v1 + 1)) (xs2 ++ ([((rd 0 r1 v1.toNat), r3, ())] : List TItem)))))) (L0 a0 r1 (w64 (v1 + 1)) xs2))))) (some xs2))
def l0_i_Agreed (k : Nat) : Nat → List (List TItem) → List Int → Int → List TItem → Option (List TItem)
  | 0, _, _, _, _ => none
  | n + 1, a0, r1, v1, xs2 => b0_i_Agreed k (l0_i_Agreed k n) a0 r1 v1 xs2
def g_i_Agreed (k : Nat) (L0 : List (List TItem) → List Int → Int → List TItem → Option (List TItem)) (a0 : List (List TItem)) : Option (List TItem) := (bd (i_keysIn k a0) fun r1 => (L0 a0 r1 0 []))
def i_Agreed (k : Nat) (a0 : List (List TItem)) : Option (List TItem) := g_i_Agreed k (l0_i_Agreed k k) a0
end
noncomputable section
def b0_l_heldItemS (k : Nat) (L0 : List TItem → Int → Int → Option Int) (a0 : List TItem) (a1 : Int) (v1 : Int) : Option Int := (br (decide (v1 < (a0.length : Int))) (gd (decide (0 ≤ v1)) (gd (decide (v1 < (a0.length : Int))) (br ((rd dTItem a0 v1.toNat).1 != a1) (some (-1)) (gd (decide (0 ≤ v1)) (gd (decide (v1 < (a0.length : Int))) (br ((rd dTItem a0 v1.toNat).2.1 != (w64 (a1 + 1))) (some (-1)) (L0 a0 (w64 ((w64 (a1 + 1)) + 1)) (w64 (v1 + 1))))))))) (some a1))
def l0_l_heldItemS (k : Nat) : Nat → List TItem → Int → Int → Option Int
  | 0, _, _, _ => none
  | n + 1, a0, a1, v1 => b0_l_heldItemS k (l0_l_heldItemS k n) a0 a1 v1
def g_l_heldItemS (k : Nat) (L0 : List TItem → Int → Int → Option Int) (a0 : List TItem) (a1 : Int) : Option Int := (L0 a0 a1 0)
def l_heldItemS (k : Nat) (a0 : List TItem) (a1 : Int) : Option Int := g_l_heldItemS k (l0_l_heldItemS k k) a0 a1
end
def l_FnExactAgreed (k : Nat) (a0 : List (List TItem)) : Option Bool := (bd (l_szItemSS k a0 1048576) fun r1 => (br (decide (r1 < 0)) (some true) (bd (l_toItemSS k a0) fun r2 => (bd (s_Agreed k r2) fun r3 => (bd (l_toItemSS k a0) fun r4 => (bd (i_Agreed k r4) fun r5 => (bd (l_eqItemS k r5 r3) fun r6 => (br (!r6) (some false) (bd (l_toItemSS k a0) fun r7 => (bd (l_eqItemSS k r4 r7) fun r8 => (br (!r8) (some false) (bd (l_markItemSS k r4 1) fun r9 => (gd (Nat.beq r9.2.1.length r4.length) (br (decide (r9.1 < 0)) (some false) (bd (l_eqItemS k r5 r3) fun r10 => (br (!r10) (some false) (bd (l_markItemS k r5 1) fun r11 => (gd (Nat.beq r11.2.1.length r5.length) (bd (l_heldItemS k r11.2.1 1) fun r12 => (br (decide (r12 < 0)) (some false) (br (r12 != r11.1) (some false) (bd (l_toItemSS k a0) fun r13 => (bd (i_Agreed k r13) fun r14 => (bd (l_eqItemS k r14 r3) fun r15 => (br (!r15) (some false) (bd (l_heldItemS k r11.2.1 1) fun r16 => (br (decide (r16 < 0)) (some false) (br (r16 != r11.1) (some false) (some true)))))))))))))))))))))))))))))
noncomputable section
def b0_s_Clash (k : Nat) (L0 : List (List TItem) → Int → List Int → List Int → Option (List Int)) (a0 : List (List TItem)) (v1 : Int) (xs2 : List Int) (r1 : List Int) : Option (List Int) := (br (decide (v1 < (r1.length : Int))) (gd (decide (0 ≤ v1)) (gd (decide (v1 < (r1.length : Int))) (bd (s_l11Alike k a0 (rd 0 r1 v1.toNat)) fun r2 => (br (!r2) (gd (decide (0 ≤ v1)) (gd (decide (v1 < (r1.length : Int))) (gd (decide (xs2.length + [(rd 0 r1 v1.toNat)].length ≤ maxRow)) (L0 a0 (w64 (v1 + 1)) (xs2 ++ [(rd 0 r1 v1.toNat)]) r1)))) (L0 a0 (w64 (v1 + 1)) xs2 r1))))) (some xs2))
def l0_s_Clash (k : Nat) : Nat → List (List TItem) → Int → List Int → List Int → Option (List Int)
  | 0, _, _, _, _ => none
  | n + 1, a0, v1, xs2, r1 => b0_s_Clash k (l0_s_Clash k n) a0 v1 xs2 r1
def g_s_Clash (k : Nat) (L0 : List (List TItem) → Int → List Int → List Int → Option (List Int)) (a0 : List (List TItem)) : Option (List Int) := (bd (s_l11Keys k a0) fun r1 => (L0 a0 0 [] r1))
def s_Clash (k : Nat) (a0 : List (List TItem)) : Option (List Int) := g_s_Clash k (l0_s_Clash k k) a0
end
noncomputable section
def b0_i_Clash (k : Nat) (L0 : List (List TItem) → List Int → Int → List Int → Option (List Int)) (a0 : List (List TItem)) (r1 : List Int) (v1 : Int) (xs2 : List Int) : Option (List Int) := (br (decide (v1 < (r1.length : Int))) (gd (decide (0 ≤ v1)) (gd (decide (v1 < (r1.length : Int))) (bd (i_allTell k a0 (rd 0 r1 v1.toNat)) fun r2 => (br (!r2) (gd (decide (xs2.length + [(rd 0 r1 v1.toNat)].length ≤ maxRow)) (L0 a0 r1 (w64 (v1 + 1)) (xs2 ++ [(rd 0 r1 v1.toNat)]))) (L0 a0 r1 (w64 (v1 + 1)) xs2))))) (some xs2))
def l0_i_Clash (k : Nat) : Nat → List (List TItem) → List Int → Int → List Int → Option (List Int)
  | 0, _, _, _, _ => none
  | n + 1, a0, r1, v1, xs2 => b0_i_Clash k (l0_i_Clash k n) a0 r1 v1 xs2
def g_i_Clash (k : Nat) (L0 : List (List TItem) → List Int → Int → List Int → Option (List Int)) (a0 : List (List TItem)) : Option (List Int) := (bd (i_keysIn k a0) fun r1 => (L0 a0 r1 0 []))
def i_Clash (k : Nat) (a0 : List (List TItem)) : Option (List Int) := g_i_Clash k (l0_i_Clash k k) a0
end
def l_FnExactClash (k : Nat) (a0 : List (List TItem)) : Option Bool := (bd (l_szItemSS k a0 1048576) fun r1 => (br (decide (r1 < 0)) (some true) (bd (l_toItemSS k a0) fun r2 => (bd (s_Clash k r2) fun r3 => (bd (l_toItemSS k a0) fun r4 => (bd (i_Clash k r4) fun r5 => (bd (l_eqIntS k r5 r3) fun r6 => (br (!r6) (some false) (bd (l_toItemSS k a0) fun r7 => (bd (l_eqItemSS k r4 r7) fun r8 => (br (!r8) (some false) (bd (l_markItemSS k r4 1) fun r9 => (gd (Nat.beq r9.2.1.length r4.length) (br (decide (r9.1 < 0)) (some false) (bd (l_eqIntS k r5 r3) fun r10 => (br (!r10) (some false) (bd (l_markIntS k r5 1) fun r11 => (gd (Nat.beq r11.2.1.length r5.length) (bd (l_heldIntS k r11.2.1 1) fun r12 => (br (decide (r12 < 0)) (some false) (br (r12 != r11.1) (some false) (bd (l_toItemSS k a0) fun r13 => (bd (i_Clash k r13) fun r14 => (bd (l_eqIntS k r14 r3) fun r15 => (br (!r15) (some false) (bd (l_heldIntS k r11.2.1 1) fun r16 => (br (decide (r16 < 0)) (some false) (br (r16 != r11.1) (some false) (some true)))))))))))))))))))))))))))))
def s_l01In (k : Nat) (a0 : Int) (a1 : Int) (a2 : Int) : Option Bool := (br (decide (a0 ≥ a1)) (some (decide (a0 ≤ a2))) (some false))
noncomputable section
def b0_s_l11Add (k : Nat) (L0 : List Int → Int → Bool → Int → List Int → Option (List Int)) (a0 : List Int) (a1 : Int) (v1 : Bool) (v2 : Int) (xs3 : List Int) : Option (List Int) := (br (decide (v2 < (a0.length : Int))) (gd (decide (0 ≤ v2)) (gd (decide (v2 < (a0.length : Int))) (br (decide ((rd 0 a0 v2.toNat) ≥ a1)) (br (!v1) (gd (decide (xs3.length + [a1].length ≤ maxRow)) (gd (decide (0 ≤ v2)) (gd (decide (v2 < (a0.length : Int))) (br ((rd 0 a0 v2.toNat) != a1) (gd (decide (0 ≤ v2)) (gd (decide (v2 < (a0.length : Int))) (gd (decide ((xs3 ++ [a1]).length + [(rd 0 a0 v2.toNat)].length ≤ maxRow)) (L0 a0 a1 true (w64 (v2 + 1)) ((xs3 ++ [a1]) ++ [(rd 0 a0 v2.toNat)]))))) (L0 a0 a1 true (w64 (v2 + 1)) (xs3 ++ [a1])))))) (gd (decide (0 ≤ v2)) (gd (decide (v2 < (a0.length : Int))) (br ((rd 0 a0 v2.toNat) != a1) (gd (decide (0 ≤ v2)) (gd (decide (v2 < (a0.length : Int))) (gd (decide (xs3.length + [(rd 0 a0 v2.toNat)].length ≤ maxRow)) (L0 a0 a1 v1 (w64 (v2 + 1)) (xs3 ++ [(rd 0 a0 v2.toNat)]))))) (L0 a0 a1 v1 (w64 (v2 + 1)) xs3))))) (gd (decide (0 ≤ v2)) (gd (decide (v2 < (a0.length : Int))) (br ((rd 0 a0 v2.toNat) != a1) (gd (decide (0 ≤ v2)) (gd (decide (v2 < (a0.length : Int))) (gd (decide (xs3.length + [(rd 0 a0 v2.toNat)].length ≤ maxRow)) (L0 a0 a1 v1 (w64 (v2 + 1)) (xs3 ++ [(rd 0 a0 v2.toNat)]))))) (L0 a0 a1 v1 (w64 (v2 + 1)) xs3))))))) (br (!v1) (gd (decide (xs3.length + [a1].length ≤ maxRow)) (some (xs3 ++ [a1]))) (some xs3)))
def l0_s_l11Add (k : Nat) : Nat → List Int → Int → Bool → Int → List Int → Option (List Int)
  | 0, _, _, _, _, _ => none
  | n + 1, a0, a1, v1, v2, xs3 => b0_s_l11Add k (l0_s_l11Add k n) a0 a1 v1 v2 xs3
def g_s_l11Add (k : Nat) (L0 : List Int → Int → Bool → Int → List Int → Option (List Int)) (a0 : List Int) (a1 : Int) : Option (List Int) := (L0 a0 a1 false 0 [])
def s_l11Add (k : Nat) (a0 : List Int) (a1 : Int) : Option (List Int) := g_s_l11Add k (l0_s_l11Add k k) a0 a1
end
noncomputable section
def b0_s_AuthOf (k : Nat) (L0 : List TEvent → List TItem → Int → List Int → List Int → Option (List Int)) (a0 : List TEvent) (a1 : List TItem) (v1 : Int) (xs2 : List Int) (xs3 : List Int) : Option (List Int) := (br (decide (v1 < (xs2.length : Int))) (gd (decide (0 ≤ v1)) (gd (decide (v1 < (xs2.length : Int))) (bd (s_At k a1 (rd 0 xs2 v1.toNat)) fun r3 => (bd (s_l10Find k a0 r3) fun r4 => (br (r3 != 0) (br r4.2 (bd (s_l11Add k xs3 r3) fun r5 => (L0 a0 a1 (w64 (v1 + 1)) xs2 r5)) (L0 a0 a1 (w64 (v1 + 1)) xs2 xs3)) (L0 a0 a1 (w64 (v1 + 1)) xs2 xs3)))))) (some xs3))
def l0_s_AuthOf (k : Nat) : Nat → List TEvent → List TItem → Int → List Int → List Int → Option (List Int)
  | 0, _, _, _, _, _ => none
  | n + 1, a0, a1, v1, xs2, xs3 => b0_s_AuthOf k (l0_s_AuthOf k n) a0 a1 v1 xs2 xs3
def g_s_AuthOf (k : Nat) (L0 : List TEvent → List TItem → Int → List Int → List Int → Option (List Int)) (a0 : List TEvent) (a1 : List TItem) (a2 : TEvent) : Option (List Int) := (bd (s_l01In k a2.2.2.1 1 5) fun r1 => (br r1 (gd (decide ([1, 2].length + [(w64 (10 + a2.2.2.1))].length ≤ maxRow)) (br (a2.2.1 == 2) (bd (s_l01In k a2.2.2.2.1 1 5) fun r2 => (br r2 (gd (decide (([1, 2] ++ [(w64 (10 + a2.2.2.1))]).length + [(w64 (10 + a2.2.2.2.1))].length ≤ maxRow)) (L0 a0 a1 0 (([1, 2] ++ [(w64 (10 + a2.2.2.1))]) ++ [(w64 (10 + a2.2.2.2.1))]) [])) (L0 a0 a1 0 ([1, 2] ++ [(w64 (10 + a2.2.2.1))]) []))) (L0 a0 a1 0 ([1, 2] ++ [(w64 (10 + a2.2.2.1))]) []))) (br (a2.2.1 == 2) (bd (s_l01In k a2.2.2.2.1 1 5) fun r6 => (br r6 (gd (decide ([1, 2].length + [(w64 (10 + a2.2.2.2.1))].length ≤ maxRow)) (L0 a0 a1 0 ([1, 2] ++ [(w64 (10 + a2.2.2.2.1))]) [])) (L0 a0 a1 0 [1, 2] []))) (L0 a0 a1 0 [1, 2] []))))
def s_AuthOf (k : Nat) (a0 : List TEvent) (a1 : List TItem) (a2 : TEvent) : Option (List Int) := g_s_AuthOf k (l0_s_AuthOf k k) a0 a1 a2
end
def i_tells (k : Nat) (a0 : List TEvent) (a1 : List TItem) (a2 : Int) : Option (TEvent × Bool) := (bd (i_At k a1 a2) fun r1 => (br (r1 == 0) (some ((0, 0, 0, 0, 0, [], ByteArray.empty, [], 0, ()), false)) (bd (i_Known k a0 r1) fun r2 => (some (r2.1, r2.2)))))
noncomputable section
def b2_i_AuthOf (k : Nat) (L2 : Int → Int → Int → List Int → List Int → List TEvent → List TItem → Int → Int → Option (List Int)) (v6 : Int) (v5 : Int) (v7 : Int) (xs8 : List Int) (xs4 : List Int) (a0 : List TEvent) (a1 : List TItem) (v1 : Int) (v2 : Int) : Option (List Int) := (br (decide (v7 < (((xs8.length - v5.toNat) : Nat) : Int))) (gd (decide (0 ≤ v7)) (gd (decide (v7 < (((xs8.length - v5.toNat) : Nat) : Int))) (gd (decide (0 ≤ (w64 (v7 - 1)))) (gd (decide ((w64 (v7 - 1)) < (((xs8.length - v5.toNat) : Nat) : Int))) (br ((rd 0 xs8 (v5.toNat + v7.toNat)) != (rd 0 xs8 (v5.toNat + (w64 (v7 - 1)).toNat))) (gd (decide (0 ≤ v7)) (gd (decide (v7 < (((xs8.length - v5.toNat) : Nat) : Int))) (gd (decide (0 ≤ v6)) (gd (decide (v6 < (xs8.length : Int))) (L2 (w64 (v6 + 1)) v5 (w64 (v7 + 1)) (xs8.set v6.toNat (rd 0 xs8 (v5.toNat + v7.toNat))) xs4 a0 a1 v1 v2))))) (L2 v6 v5 (w64 (v7 + 1)) xs8 xs4 a0 a1 v1 v2)))))) (gd (decide (0 ≤ v6)) (gd (decide (v6 ≤ (xs8.length : Int))) (gd (decide (0 ≤ v6)) (gd (decide (v6 ≤ (((clr 0 (some v6.toNat) none xs8).length : Nat) : Int))) (some ((clr 0 (some v6.toNat) none xs8).take (0 + v6.toNat))))))))
def b1_i_AuthOf (k : Nat) (L2 : Int → Int → Int → List Int → List Int → List TEvent → List TItem → Int → Int → Option (List Int)) (L1 : Int → (Unit × List Int × Unit) → List Int → List TEvent → List TItem → Int → Int → Option (List Int)) (v5 : Int) (r4 : Unit × List Int × Unit) (xs4 : List Int) (a0 : List TEvent) (a1 : List TItem) (v1 : Int) (v2 : Int) : Option (List Int) := (br (decide (v5 < (r4.2.1.length : Int))) (gd (decide (0 ≤ v5)) (gd (decide (v5 < (r4.2.1.length : Int))) (gd (decide (0 ≤ (w64 (v5 - 1)))) (gd (decide ((w64 (v5 - 1)) < (r4.2.1.length : Int))) (br ((rd 0 r4.2.1 v5.toNat) == (rd 0 r4.2.1 (w64 (v5 - 1)).toNat)) (gd (decide (0 ≤ v5)) (gd (decide (v5 ≤ (r4.2.1.length : Int))) (L2 v5 v5 1 r4.2.1 xs4 a0 a1 v1 v2))) (L1 (w64 (v5 + 1)) r4 xs4 a0 a1 v1 v2)))))) (some r4.2.1))
def b0_i_AuthOf (k : Nat) (L0 : List TEvent → List TItem → Int → Int → List Int → List Int → Option (List Int)) (L1 : Int → (Unit × List Int × Unit) → List Int → List TEvent → List TItem → Int → Int → Option (List Int)) (a0 : List TEvent) (a1 : List TItem) (v1 : Int) (v2 : Int) (xs3 : List Int) (xs4 : List Int) : Option (List Int) := (br (decide (v2 < v1)) (gd (decide (0 ≤ v2)) (gd (decide (v2 < (xs4.length : Int))) (bd (i_tells k a0 a1 (rd 0 xs4 v2.toNat)) fun r3 => (br r3.2 (gd (decide (xs3.length + [r3.1.1].length ≤ maxRow)) (L0 a0 a1 v1 (w64 (v2 + 1)) (xs3 ++ [r3.1.1]) xs4)) (L0 a0 a1 v1 (w64 (v2 + 1)) xs3 xs4))))) (bd (slices_Sort_int_int k xs3) fun r4 => (gd (Nat.beq r4.2.1.length xs3.length) (br (decide ((r4.2.1.length : Int) < 2)) (some r4.2.1) (L1 1 r4 xs4 a0 a1 v1 v2)))))
def l2_i_AuthOf (k : Nat) : Nat → Int → Int → Int → List Int → List Int → List TEvent → List TItem → Int → Int → Option (List Int)
  | 0, _, _, _, _, _, _, _, _, _ => none
  | n + 1, v6, v5, v7, xs8, xs4, a0, a1, v1, v2 => b2_i_AuthOf k (l2_i_AuthOf k n) v6 v5 v7 xs8 xs4 a0 a1 v1 v2
def l1_i_AuthOf (k : Nat) : Nat → Int → (Unit × List Int × Unit) → List Int → List TEvent → List TItem → Int → Int → Option (List Int)
  | 0, _, _, _, _, _, _, _ => none
  | n + 1, v5, r4, xs4, a0, a1, v1, v2 => b1_i_AuthOf k (l2_i_AuthOf k n) (l1_i_AuthOf k n) v5 r4 xs4 a0 a1 v1 v2
def l0_i_AuthOf (k : Nat) : Nat → List TEvent → List TItem → Int → Int → List Int → List Int → Option (List Int)
  | 0, _, _, _, _, _, _ => none
  | n + 1, a0, a1, v1, v2, xs3, xs4 => b0_i_AuthOf k (l0_i_AuthOf k n) (l1_i_AuthOf k n) a0 a1 v1 v2 xs3 xs4
def g_i_AuthOf (k : Nat) (L0 : List TEvent → List TItem → Int → Int → List Int → List Int → Option (List Int)) (a0 : List TEvent) (a1 : List TItem) (a2 : TEvent) : Option (List Int) := (bd (i_within k a2.2.2.1 1 5) fun r1 => (br r1 (gd (decide ([1, 2].length + [(w64 (10 + a2.2.2.1))].length ≤ maxRow)) (br (a2.2.1 == 2) (bd (i_within k a2.2.2.2.1 1 5) fun r2 => (br r2 (gd (decide (([1, 2] ++ [(w64 (10 + a2.2.2.1))]).length + [(w64 (10 + a2.2.2.2.1))].length ≤ maxRow)) (L0 a0 a1 (((([1, 2] ++ [(w64 (10 + a2.2.2.1))]) ++ [(w64 (10 + a2.2.2.2.1))]).length : Nat) : Int) 0 [] (([1, 2] ++ [(w64 (10 + a2.2.2.1))]) ++ [(w64 (10 + a2.2.2.2.1))]))) (L0 a0 a1 ((([1, 2] ++ [(w64 (10 + a2.2.2.1))]).length : Nat) : Int) 0 [] ([1, 2] ++ [(w64 (10 + a2.2.2.1))])))) (L0 a0 a1 ((([1, 2] ++ [(w64 (10 + a2.2.2.1))]).length : Nat) : Int) 0 [] ([1, 2] ++ [(w64 (10 + a2.2.2.1))])))) (br (a2.2.1 == 2) (bd (i_within k a2.2.2.2.1 1 5) fun r5 => (br r5 (gd (decide ([1, 2].length + [(w64 (10 + a2.2.2.2.1))].length ≤ maxRow)) (L0 a0 a1 ((([1, 2] ++ [(w64 (10 + a2.2.2.2.1))]).length : Nat) : Int) 0 [] ([1, 2] ++ [(w64 (10 + a2.2.2.2.1))]))) (L0 a0 a1 ([1, 2].length : Int) 0 [] [1, 2]))) (L0 a0 a1 ([1, 2].length : Int) 0 [] [1, 2]))))
def i_AuthOf (k : Nat) (a0 : List TEvent) (a1 : List TItem) (a2 : TEvent) : Option (List Int) := g_i_AuthOf k (l0_i_AuthOf k k) a0 a1 a2
end
def l_FnExactAuthOf (k : Nat) (a0 : List TEvent) (a1 : List TItem) (a2 : TEvent) : Option Bool := (bd (l_szEventS k a0 1048576) fun r1 => (br (decide (r1 < 0)) (some true) (bd (l_szItemS k a1 r1) fun r2 => (br (decide (r2 < 0)) (some true) (bd (l_szEvent k a2 r2) fun r3 => (br (decide (r3 < 0)) (some true) (bd (l_toEventS k a0) fun r4 => (bd (l_toItemS k a1) fun r5 => (bd (l_toEvent k a2) fun r6 => (bd (s_AuthOf k r4 r5 r6) fun r7 => (bd (l_toEventS k a0) fun r8 => (bd (l_toItemS k a1) fun r9 => (bd (l_toEvent k a2) fun r10 => (bd (i_AuthOf k r8 r9 r10) fun r11 => (bd (l_eqIntS k r11 r7) fun r12 => (br (!r12) (some false) (bd (l_toEventS k a0) fun r13 => (bd (l_eqEventS k r8 r13) fun r14 => (br (!r14) (some false) (bd (l_toItemS k a1) fun r15 => (bd (l_eqItemS k r9 r15) fun r16 => (br (!r16) (some false) (bd (l_toEvent k a2) fun r17 => (bd (l_eqEvent k r10 r17) fun r18 => (br (!r18) (some false) (bd (l_markEventS k r8 1) fun r19 => (gd (Nat.beq r19.2.1.length r8.length) (bd (l_markItemS k r9 r19.1) fun r20 => (gd (Nat.beq r20.2.1.length r9.length) (bd (l_markIntS k r10.2.2.2.2.2.1 r20.1) fun r21 => (gd (Nat.beq r21.2.1.length r10.2.2.2.2.2.1.length) (bd (l_markIntS k r10.2.2.2.2.2.2.2.1 r21.1) fun r22 => (gd (Nat.beq r22.2.1.length r10.2.2.2.2.2.2.2.1.length) (br (decide (r22.1 < 0)) (some false) (bd (l_eqIntS k r11 r7) fun r23 => (br (!r23) (some false) (bd (l_markIntS k r11 1) fun r24 => (gd (Nat.beq r24.2.1.length r11.length) (bd (l_heldIntS k r24.2.1 1) fun r25 => (br (decide (r25 < 0)) (some false) (br (r25 != r24.1) (some false) (bd (l_toEventS k a0) fun r26 => (bd (l_toItemS k a1) fun r27 => (bd (l_toEvent k a2) fun r28 => (bd (i_AuthOf k r26 r27 r28) fun r29 => (bd (l_eqIntS k r29 r7) fun r30 => (br (!r30) (some false) (bd (l_heldIntS k r24.2.1 1) fun r31 => (br (decide (r31 < 0)) (some false) (br (r31 != r24.1) (some false) (some true)))))))))))))))))))))))))))))))))))))))))))))))))))
noncomputable section
def b0_s_l05In (k : Nat) (L0 : List Int → Int → Int → Option Bool) (a0 : List Int) (a1 : Int) (v1 : Int) : Option Bool := (br (decide (v1 < (a0.length : Int))) (gd (decide (0 ≤ v1)) (gd (decide (v1 < (a0.length : Int))) (br ((rd 0 a0 v1.toNat) == a1) (some true) (L0 a0 a1 (w64 (v1 + 1)))))) (some false))
def l0_s_l05In (k : Nat) : Nat → List Int → Int → Int → Option Bool
  | 0, _, _, _ => none
  | n + 1, a0, a1, v1 => b0_s_l05In k (l0_s_l05In k n) a0 a1 v1
def g_s_l05In (k : Nat) (L0 : List Int → Int → Int → Option Bool) (a0 : List Int) (a1 : Int) : Option Bool := (L0 a0 a1 0)
def s_l05In (k : Nat) (a0 : List Int) (a1 : Int) : Option Bool := g_s_l05In k (l0_s_l05In k k) a0 a1
end
noncomputable section
def b0_s_EndsOf (k : Nat) (L1 : Int → Bool → Int → TRoom → List Int → Option (List Int)) (v1 : Int) (a0 : TRoom) (xs2 : List Int) : Option (List Int) := (br (decide (v1 < (a0.1.length : Int))) (L1 v1 false 0 a0 xs2) (some xs2))
def b1_s_EndsOf (k : Nat) (L1 : Int → Bool → Int → TRoom → List Int → Option (List Int)) (L0 : Int → TRoom → List Int → Option (List Int)) (v1 : Int) (v3 : Bool) (v4 : Int) (a0 : TRoom) (xs2 : List Int) : Option (List Int) := (br (decide (v4 < (a0.1.length : Int))) (br v3 (L1 v1 true (w64 (v4 + 1)) a0 xs2) (gd (decide (0 ≤ v4)) (gd (decide (v4 < (a0.1.length : Int))) (gd (decide (0 ≤ v1)) (gd (decide (v1 < (a0.1.length : Int))) (bd (s_l05In k (rd dTEvent a0.1 v4.toNat).2.2.2.2.2.2.2.1 (rd dTEvent a0.1 v1.toNat).1) fun r1 => (L1 v1 r1 (w64 (v4 + 1)) a0 xs2))))))) (br (!v3) (gd (decide (0 ≤ v1)) (gd (decide (v1 < (a0.1.length : Int))) (bd (s_l11Add k xs2 (rd dTEvent a0.1 v1.toNat).1) fun r2 => (L0 (w64 (v1 + 1)) a0 r2)))) (L0 (w64 (v1 + 1)) a0 xs2)))
def q0_s_EndsOf (k : Nat) : Nat → (Int → TRoom → List Int → Option (List Int)) × (Int → Bool → Int → TRoom → List Int → Option (List Int))
  | 0 => (fun _ _ _ => none, fun _ _ _ _ _ => none)
  | n + 1 => (b0_s_EndsOf k (q0_s_EndsOf k n).2, b1_s_EndsOf k (q0_s_EndsOf k n).2 (q0_s_EndsOf k n).1)
def l0_s_EndsOf (k : Nat) (n : Nat) : Int → TRoom → List Int → Option (List Int) := (q0_s_EndsOf k n).1
def l1_s_EndsOf (k : Nat) (n : Nat) : Int → Bool → Int → TRoom → List Int → Option (List Int) := (q0_s_EndsOf k n).2
theorem z0_s_EndsOf (k : Nat) (n : Nat) (v1 : Int) (a0 : TRoom) (xs2 : List Int) : l0_s_EndsOf k (n + 1) v1 a0 xs2 = b0_s_EndsOf k (l1_s_EndsOf k n) v1 a0 xs2 := rfl
theorem z1_s_EndsOf (k : Nat) (n : Nat) (v1 : Int) (v3 : Bool) (v4 : Int) (a0 : TRoom) (xs2 : List Int) : l1_s_EndsOf k (n + 1) v1 v3 v4 a0 xs2 = b1_s_EndsOf k (l1_s_EndsOf k n) (l0_s_EndsOf k n) v1 v3 v4 a0 xs2 := rfl
def g_s_EndsOf (k : Nat) (L0 : Int → TRoom → List Int → Option (List Int)) (a0 : TRoom) : Option (List Int) := (L0 0 a0 [])
def s_EndsOf (k : Nat) (a0 : TRoom) : Option (List Int) := g_s_EndsOf k (l0_s_EndsOf k k) a0
end
noncomputable section
def b0_slices_Index_int_int (k : Nat) (L0 : List Int → Int → Int → Option Int) (a0 : List Int) (a1 : Int) (v1 : Int) : Option Int := (br (decide (v1 < (a0.length : Int))) (gd (decide (0 ≤ v1)) (gd (decide (v1 < (a0.length : Int))) (br (a1 == (rd 0 a0 v1.toNat)) (some v1) (L0 a0 a1 (w64 (v1 + 1)))))) (some (-1)))
def l0_slices_Index_int_int (k : Nat) : Nat → List Int → Int → Int → Option Int
  | 0, _, _, _ => none
  | n + 1, a0, a1, v1 => b0_slices_Index_int_int k (l0_slices_Index_int_int k n) a0 a1 v1
def g_slices_Index_int_int (k : Nat) (L0 : List Int → Int → Int → Option Int) (a0 : List Int) (a1 : Int) : Option Int := (L0 a0 a1 0)
def slices_Index_int_int (k : Nat) (a0 : List Int) (a1 : Int) : Option Int := g_slices_Index_int_int k (l0_slices_Index_int_int k k) a0 a1
end
def slices_Contains_int_int (k : Nat) (a0 : List Int) (a1 : Int) : Option Bool := (bd (slices_Index_int_int k a0 a1) fun r1 => (some (decide (r1 ≥ 0))))
noncomputable section
def b3_i_EndsOf (k : Nat) (L3 : Int → Int → Int → List Int → TRoom → Int → Option (List Int)) (v5 : Int) (v4 : Int) (v6 : Int) (xs7 : List Int) (a0 : TRoom) (v1 : Int) : Option (List Int) := (br (decide (v6 < (((xs7.length - v4.toNat) : Nat) : Int))) (gd (decide (0 ≤ v6)) (gd (decide (v6 < (((xs7.length - v4.toNat) : Nat) : Int))) (gd (decide (0 ≤ (w64 (v6 - 1)))) (gd (decide ((w64 (v6 - 1)) < (((xs7.length - v4.toNat) : Nat) : Int))) (br ((rd 0 xs7 (v4.toNat + v6.toNat)) != (rd 0 xs7 (v4.toNat + (w64 (v6 - 1)).toNat))) (gd (decide (0 ≤ v6)) (gd (decide (v6 < (((xs7.length - v4.toNat) : Nat) : Int))) (gd (decide (0 ≤ v5)) (gd (decide (v5 < (xs7.length : Int))) (L3 (w64 (v5 + 1)) v4 (w64 (v6 + 1)) (xs7.set v5.toNat (rd 0 xs7 (v4.toNat + v6.toNat))) a0 v1))))) (L3 v5 v4 (w64 (v6 + 1)) xs7 a0 v1)))))) (gd (decide (0 ≤ v5)) (gd (decide (v5 ≤ (xs7.length : Int))) (gd (decide (0 ≤ v5)) (gd (decide (v5 ≤ (((clr 0 (some v5.toNat) none xs7).length : Nat) : Int))) (some ((clr 0 (some v5.toNat) none xs7).take (0 + v5.toNat))))))))
def b2_i_EndsOf (k : Nat) (L3 : Int → Int → Int → List Int → TRoom → Int → Option (List Int)) (L2 : Int → (Unit × List Int × Unit) → TRoom → Int → Option (List Int)) (v4 : Int) (r2 : Unit × List Int × Unit) (a0 : TRoom) (v1 : Int) : Option (List Int) := (br (decide (v4 < (r2.2.1.length : Int))) (gd (decide (0 ≤ v4)) (gd (decide (v4 < (r2.2.1.length : Int))) (gd (decide (0 ≤ (w64 (v4 - 1)))) (gd (decide ((w64 (v4 - 1)) < (r2.2.1.length : Int))) (br ((rd 0 r2.2.1 v4.toNat) == (rd 0 r2.2.1 (w64 (v4 - 1)).toNat)) (gd (decide (0 ≤ v4)) (gd (decide (v4 ≤ (r2.2.1.length : Int))) (L3 v4 v4 1 r2.2.1 a0 v1))) (L2 (w64 (v4 + 1)) r2 a0 v1)))))) (some r2.2.1))
def b0_i_EndsOf (k : Nat) (L1 : TRoom → Int → Int → List Int → Option (List Int)) (L2 : Int → (Unit × List Int × Unit) → TRoom → Int → Option (List Int)) (a0 : TRoom) (v1 : Int) (xs2 : List Int) : Option (List Int) := (br (decide (v1 < (a0.1.length : Int))) (gd (decide (0 ≤ v1)) (gd (decide (v1 < (a0.1.length : Int))) (L1 a0 0 v1 xs2))) (bd (slices_Sort_int_int k xs2) fun r2 => (gd (Nat.beq r2.2.1.length xs2.length) (br (decide ((r2.2.1.length : Int) < 2)) (some r2.2.1) (L2 1 r2 a0 v1)))))
def b1_i_EndsOf (k : Nat) (L0 : TRoom → Int → List Int → Option (List Int)) (L1 : TRoom → Int → Int → List Int → Option (List Int)) (a0 : TRoom) (v3 : Int) (v1 : Int) (xs2 : List Int) : Option (List Int) := (br (decide (v3 < (a0.1.length : Int))) (gd (decide (0 ≤ v3)) (gd (decide (v3 < (a0.1.length : Int))) (bd (slices_Contains_int_int k (rd dTEvent a0.1 v3.toNat).2.2.2.2.2.2.2.1 (rd dTEvent a0.1 v1.toNat).1) fun r1 => (br r1 (br (!(decide (v3 ≥ 0))) (gd (decide (xs2.length + [(rd dTEvent a0.1 v1.toNat).1].length ≤ maxRow)) (L0 a0 (w64 (v1 + 1)) (xs2 ++ [(rd dTEvent a0.1 v1.toNat).1]))) (L0 a0 (w64 (v1 + 1)) xs2)) (L1 a0 (w64 (v3 + 1)) v1 xs2))))) (gd (decide (xs2.length + [(rd dTEvent a0.1 v1.toNat).1].length ≤ maxRow)) (L0 a0 (w64 (v1 + 1)) (xs2 ++ [(rd dTEvent a0.1 v1.toNat).1]))))
def l3_i_EndsOf (k : Nat) : Nat → Int → Int → Int → List Int → TRoom → Int → Option (List Int)
  | 0, _, _, _, _, _, _ => none
  | n + 1, v5, v4, v6, xs7, a0, v1 => b3_i_EndsOf k (l3_i_EndsOf k n) v5 v4 v6 xs7 a0 v1
def l2_i_EndsOf (k : Nat) : Nat → Int → (Unit × List Int × Unit) → TRoom → Int → Option (List Int)
  | 0, _, _, _, _ => none
  | n + 1, v4, r2, a0, v1 => b2_i_EndsOf k (l3_i_EndsOf k n) (l2_i_EndsOf k n) v4 r2 a0 v1
def q0_i_EndsOf (k : Nat) : Nat → (TRoom → Int → List Int → Option (List Int)) × (TRoom → Int → Int → List Int → Option (List Int))
  | 0 => (fun _ _ _ => none, fun _ _ _ _ => none)
  | n + 1 => (b0_i_EndsOf k (q0_i_EndsOf k n).2 (l2_i_EndsOf k n), b1_i_EndsOf k (q0_i_EndsOf k n).1 (q0_i_EndsOf k n).2)
def l0_i_EndsOf (k : Nat) (n : Nat) : TRoom → Int → List Int → Option (List Int) := (q0_i_EndsOf k n).1
def l1_i_EndsOf (k : Nat) (n : Nat) : TRoom → Int → Int → List Int → Option (List Int) := (q0_i_EndsOf k n).2
theorem z0_i_EndsOf (k : Nat) (n : Nat) (a0 : TRoom) (v1 : Int) (xs2 : List Int) : l0_i_EndsOf k (n + 1) a0 v1 xs2 = b0_i_EndsOf k (l1_i_EndsOf k n) (l2_i_EndsOf k n) a0 v1 xs2 := rfl
theorem z1_i_EndsOf (k : Nat) (n : Nat) (a0 : TRoom) (v3 : Int) (v1 : Int) (xs2 : List Int) : l1_i_EndsOf k (n + 1) a0 v3 v1 xs2 = b1_i_EndsOf k (l0_i_EndsOf k n) (l1_i_EndsOf k n) a0 v3 v1 xs2 := rfl
def g_i_EndsOf (k : Nat) (L0 : TRoom → Int → List Int → Option (List Int)) (a0 : TRoom) : Option (List Int) := (L0 a0 0 [])
def i_EndsOf (k : Nat) (a0 : TRoom) : Option (List Int) := g_i_EndsOf k (l0_i_EndsOf k k) a0
end
def l_FnExactEndsOf (k : Nat) (a0 : TRoom) : Option Bool := (bd (l_szRoom k a0 1048576) fun r1 => (br (decide (r1 < 0)) (some true) (bd (l_toRoom k a0) fun r2 => (bd (s_EndsOf k r2) fun r3 => (bd (l_toRoom k a0) fun r4 => (bd (i_EndsOf k r4) fun r5 => (bd (l_eqIntS k r5 r3) fun r6 => (br (!r6) (some false) (bd (l_toRoom k a0) fun r7 => (bd (l_eqRoom k r4 r7) fun r8 => (br (!r8) (some false) (bd (l_markEventS k r4.1 1) fun r9 => (gd (Nat.beq r9.2.1.length r4.1.length) (bd (l_markItemSS k r4.2.1 r9.1) fun r10 => (gd (Nat.beq r10.2.1.length r4.2.1.length) (bd (l_markBoolS k r4.2.2.1 r10.1) fun r11 => (gd (Nat.beq r11.2.1.length r4.2.2.1.length) (br (decide (r11.1 < 0)) (some false) (bd (l_eqIntS k r5 r3) fun r12 => (br (!r12) (some false) (bd (l_markIntS k r5 1) fun r13 => (gd (Nat.beq r13.2.1.length r5.length) (bd (l_heldIntS k r13.2.1 1) fun r14 => (br (decide (r14 < 0)) (some false) (br (r14 != r13.1) (some false) (bd (l_toRoom k a0) fun r15 => (bd (i_EndsOf k r15) fun r16 => (bd (l_eqIntS k r16 r3) fun r17 => (br (!r17) (some false) (bd (l_heldIntS k r13.2.1 1) fun r18 => (br (decide (r18 < 0)) (some false) (br (r18 != r13.1) (some false) (some true)))))))))))))))))))))))))))))))))
noncomputable section
def b0_s_l12Has (k : Nat) (L0 : Int → Int → TRoom → Option Int) (a1 : Int) (v1 : Int) (a0 : TRoom) : Option Int := (br (decide (v1 < (a0.1.length : Int))) (gd (decide (0 ≤ v1)) (gd (decide (v1 < (a0.1.length : Int))) (br ((rd dTEvent a0.1 v1.toNat).1 == a1) (some v1) (L0 a1 (w64 (v1 + 1)) a0)))) (some (-1)))
def l0_s_l12Has (k : Nat) : Nat → Int → Int → TRoom → Option Int
  | 0, _, _, _ => none
  | n + 1, a1, v1, a0 => b0_s_l12Has k (l0_s_l12Has k n) a1 v1 a0
def g_s_l12Has (k : Nat) (L0 : Int → Int → TRoom → Option Int) (a0 : TRoom) (a1 : Int) : Option Int := (L0 a1 0 a0)
def s_l12Has (k : Nat) (a0 : TRoom) (a1 : Int) : Option Int := g_s_l12Has k (l0_s_l12Has k k) a0 a1
end
noncomputable section
def b0_s_DepthOf (k : Nat) (L0 : List Int → Int → Int → TRoom → Option Int) (a1 : List Int) (v1 : Int) (v2 : Int) (a0 : TRoom) : Option Int := (br (decide (v2 < (a1.length : Int))) (gd (decide (0 ≤ v2)) (gd (decide (v2 < (a1.length : Int))) (bd (s_l12Has k a0 (rd 0 a1 v2.toNat)) fun r1 => (br (decide (r1 ≥ 0)) (gd (decide (0 ≤ r1)) (gd (decide (r1 < (a0.1.length : Int))) (br (decide ((rd dTEvent a0.1 r1.toNat).2.2.2.2.2.2.2.2.1 > v1)) (gd (decide (0 ≤ r1)) (gd (decide (r1 < (a0.1.length : Int))) (L0 a1 (rd dTEvent a0.1 r1.toNat).2.2.2.2.2.2.2.2.1 (w64 (v2 + 1)) a0))) (L0 a1 v1 (w64 (v2 + 1)) a0)))) (L0 a1 v1 (w64 (v2 + 1)) a0))))) (br (decide (v1 > 1000000)) (some 1000001) (some (w64 (v1 + 1)))))
def l0_s_DepthOf (k : Nat) : Nat → List Int → Int → Int → TRoom → Option Int
  | 0, _, _, _, _ => none
  | n + 1, a1, v1, v2, a0 => b0_s_DepthOf k (l0_s_DepthOf k n) a1 v1 v2 a0
def g_s_DepthOf (k : Nat) (L0 : List Int → Int → Int → TRoom → Option Int) (a0 : TRoom) (a1 : List Int) : Option Int := (L0 a1 (-1) 0 a0)
def s_DepthOf (k : Nat) (a0 : TRoom) (a1 : List Int) : Option Int := g_s_DepthOf k (l0_s_DepthOf k k) a0 a1
end
def s_Draft (k : Nat) (a0 : TRoom) (a1 : Int) (a2 : TEvent) : Option TEvent := (bd (s_l09Copy k a2) fun r1 => (bd (s_l01In k a1 0 1000000) fun r2 => (br r2 (br (a2.2.1 != 1) (bd (s_EndsOf k a0) fun r3 => (br (decide ((w64 ((r3.length : Int) - 3)) < 0)) (gd (decide (0 ≤ (r3.length : Int))) (gd (decide (([] : List Int).length + (r3.drop 0).length ≤ maxRow)) (bd (s_DepthOf k a0 (([] : List Int) ++ (r3.drop 0))) fun r4 => (some ((w64 (2 * a1)), r1.2.1, r1.2.2.1, r1.2.2.2.1, r1.2.2.2.2.1, r1.2.2.2.2.2.1, r1.2.2.2.2.2.2.1, (([] : List Int) ++ (r3.drop 0)), r4, ()))))) (gd (decide (0 ≤ (w64 ((r3.length : Int) - 3)))) (gd (decide ((w64 ((r3.length : Int) - 3)) ≤ (r3.length : Int))) (gd (decide (([] : List Int).length + (r3.drop (w64 ((r3.length : Int) - 3)).toNat).length ≤ maxRow)) (bd (s_DepthOf k a0 (([] : List Int) ++ (r3.drop (w64 ((r3.length : Int) - 3)).toNat))) fun r5 => (some ((w64 (2 * a1)), r1.2.1, r1.2.2.1, r1.2.2.2.1, r1.2.2.2.2.1, r1.2.2.2.2.2.1, r1.2.2.2.2.2.2.1, (([] : List Int) ++ (r3.drop (w64 ((r3.length : Int) - 3)).toNat)), r5, ())))))))) (bd (s_DepthOf k a0 []) fun r6 => (some ((w64 (2 * a1)), r1.2.1, r1.2.2.1, r1.2.2.2.1, r1.2.2.2.2.1, r1.2.2.2.2.2.1, r1.2.2.2.2.2.2.1, [], r6, ())))) (br (a2.2.1 != 1) (bd (s_EndsOf k a0) fun r7 => (br (decide ((w64 ((r7.length : Int) - 3)) < 0)) (gd (decide (0 ≤ (r7.length : Int))) (gd (decide (([] : List Int).length + (r7.drop 0).length ≤ maxRow)) (bd (s_DepthOf k a0 (([] : List Int) ++ (r7.drop 0))) fun r8 => (some (0, r1.2.1, r1.2.2.1, r1.2.2.2.1, r1.2.2.2.2.1, r1.2.2.2.2.2.1, r1.2.2.2.2.2.2.1, (([] : List Int) ++ (r7.drop 0)), r8, ()))))) (gd (decide (0 ≤ (w64 ((r7.length : Int) - 3)))) (gd (decide ((w64 ((r7.length : Int) - 3)) ≤ (r7.length : Int))) (gd (decide (([] : List Int).length + (r7.drop (w64 ((r7.length : Int) - 3)).toNat).length ≤ maxRow)) (bd (s_DepthOf k a0 (([] : List Int) ++ (r7.drop (w64 ((r7.length : Int) - 3)).toNat))) fun r9 => (some (0, r1.2.1, r1.2.2.1, r1.2.2.2.1, r1.2.2.2.2.1, r1.2.2.2.2.2.1, r1.2.2.2.2.2.2.1, (([] : List Int) ++ (r7.drop (w64 ((r7.length : Int) - 3)).toNat)), r9, ())))))))) (bd (s_DepthOf k a0 []) fun r10 => (some (0, r1.2.1, r1.2.2.1, r1.2.2.2.1, r1.2.2.2.2.1, r1.2.2.2.2.2.1, r1.2.2.2.2.2.2.1, [], r10, ())))))))
noncomputable section
def b0_i_DepthOf (k : Nat) (L0 : Int → List Int → Int → TRoom → Option Int) (v1 : Int) (a1 : List Int) (v2 : Int) (a0 : TRoom) : Option Int := (br (decide (v2 < (a1.length : Int))) (gd (decide (0 ≤ v2)) (gd (decide (v2 < (a1.length : Int))) (bd (i_Known k a0.1 (rd 0 a1 v2.toNat)) fun r1 => (br r1.2 (L0 (if r1.1.2.2.2.2.2.2.2.2.1 > v1 then r1.1.2.2.2.2.2.2.2.2.1 else v1) a1 (w64 (v2 + 1)) a0) (L0 v1 a1 (w64 (v2 + 1)) a0))))) (some (w64 ((if 1000000 < v1 then 1000000 else v1) + 1))))
def l0_i_DepthOf (k : Nat) : Nat → Int → List Int → Int → TRoom → Option Int
  | 0, _, _, _, _ => none
  | n + 1, v1, a1, v2, a0 => b0_i_DepthOf k (l0_i_DepthOf k n) v1 a1 v2 a0
def g_i_DepthOf (k : Nat) (L0 : Int → List Int → Int → TRoom → Option Int) (a0 : TRoom) (a1 : List Int) : Option Int := (L0 (-1) a1 0 a0)
def i_DepthOf (k : Nat) (a0 : TRoom) (a1 : List Int) : Option Int := g_i_DepthOf k (l0_i_DepthOf k k) a0 a1
end
def i_Draft (k : Nat) (a0 : TRoom) (a1 : Int) (a2 : TEvent) : Option TEvent := (bd (i_copyEvent k a2) fun r1 => (bd (i_within k a1 0 1000000) fun r2 => (br r2 (br (a2.2.1 != 1) (bd (i_EndsOf k a0) fun r3 => (gd (decide (0 ≤ (if (w64 ((r3.length : Int) - 3)) > 0 then (w64 ((r3.length : Int) - 3)) else 0))) (gd (decide ((if (w64 ((r3.length : Int) - 3)) > 0 then (w64 ((r3.length : Int) - 3)) else 0) ≤ (r3.length : Int))) (gd (decide ((r3.drop (if (w64 ((r3.length : Int) - 3)) > 0 then (w64 ((r3.length : Int) - 3)) else 0).toNat).length ≤ maxRow)) (bd (i_DepthOf k a0 (r3.drop (if (w64 ((r3.length : Int) - 3)) > 0 then (w64 ((r3.length : Int) - 3)) else 0).toNat)) fun r4 => (some ((w64 (2 * a1)), r1.2.1, r1.2.2.1, r1.2.2.2.1, r1.2.2.2.2.1, r1.2.2.2.2.2.1, r1.2.2.2.2.2.2.1, (r3.drop (if (w64 ((r3.length : Int) - 3)) > 0 then (w64 ((r3.length : Int) - 3)) else 0).toNat), r4, ()))))))) (bd (i_DepthOf k a0 []) fun r5 => (some ((w64 (2 * a1)), r1.2.1, r1.2.2.1, r1.2.2.2.1, r1.2.2.2.2.1, r1.2.2.2.2.2.1, r1.2.2.2.2.2.2.1, [], r5, ())))) (br (a2.2.1 != 1) (bd (i_EndsOf k a0) fun r6 => (gd (decide (0 ≤ (if (w64 ((r6.length : Int) - 3)) > 0 then (w64 ((r6.length : Int) - 3)) else 0))) (gd (decide ((if (w64 ((r6.length : Int) - 3)) > 0 then (w64 ((r6.length : Int) - 3)) else 0) ≤ (r6.length : Int))) (gd (decide ((r6.drop (if (w64 ((r6.length : Int) - 3)) > 0 then (w64 ((r6.length : Int) - 3)) else 0).toNat).length ≤ maxRow)) (bd (i_DepthOf k a0 (r6.drop (if (w64 ((r6.length : Int) - 3)) > 0 then (w64 ((r6.length : Int) - 3)) else 0).toNat)) fun r7 => (some (0, r1.2.1, r1.2.2.1, r1.2.2.2.1, r1.2.2.2.2.1, r1.2.2.2.2.2.1, r1.2.2.2.2.2.2.1, (r6.drop (if (w64 ((r6.length : Int) - 3)) > 0 then (w64 ((r6.length : Int) - 3)) else 0).toNat), r7, ()))))))) (bd (i_DepthOf k a0 []) fun r8 => (some (0, r1.2.1, r1.2.2.1, r1.2.2.2.1, r1.2.2.2.2.1, r1.2.2.2.2.2.1, r1.2.2.2.2.2.2.1, [], r8, ())))))))
def l_FnExactDraft (k : Nat) (a0 : TRoom) (a1 : Int) (a2 : TEvent) : Option Bool := (bd (l_szRoom k a0 1048576) fun r1 => (br (decide (r1 < 0)) (some true) (bd (l_szEvent k a2 r1) fun r2 => (br (decide (r2 < 0)) (some true) (bd (l_toRoom k a0) fun r3 => (bd (l_toEvent k a2) fun r4 => (bd (s_Draft k r3 a1 r4) fun r5 => (bd (l_toRoom k a0) fun r6 => (bd (l_toEvent k a2) fun r7 => (bd (i_Draft k r6 a1 r7) fun r8 => (bd (l_eqEvent k r8 r5) fun r9 => (br (!r9) (some false) (bd (l_toRoom k a0) fun r10 => (bd (l_eqRoom k r6 r10) fun r11 => (br (!r11) (some false) (bd (l_toEvent k a2) fun r12 => (bd (l_eqEvent k r7 r12) fun r13 => (br (!r13) (some false) (bd (l_markEventS k r6.1 1) fun r14 => (gd (Nat.beq r14.2.1.length r6.1.length) (bd (l_markItemSS k r6.2.1 r14.1) fun r15 => (gd (Nat.beq r15.2.1.length r6.2.1.length) (bd (l_markBoolS k r6.2.2.1 r15.1) fun r16 => (gd (Nat.beq r16.2.1.length r6.2.2.1.length) (bd (l_markIntS k r7.2.2.2.2.2.1 r16.1) fun r17 => (gd (Nat.beq r17.2.1.length r7.2.2.2.2.2.1.length) (bd (l_markIntS k r7.2.2.2.2.2.2.2.1 r17.1) fun r18 => (gd (Nat.beq r18.2.1.length r7.2.2.2.2.2.2.2.1.length) (br (decide (r18.1 < 0)) (some false) (bd (l_eqEvent k r8 r5) fun r19 => (br (!r19) (some false) (bd (l_markIntS k r8.2.2.2.2.2.1 1) fun r20 => (gd (Nat.beq r20.2.1.length r8.2.2.2.2.2.1.length) (bd (l_markIntS k r8.2.2.2.2.2.2.2.1 r20.1) fun r21 => (gd (Nat.beq r21.2.1.length r8.2.2.2.2.2.2.2.1.length) (bd (l_heldEvent k (r8.1, r8.2.1, r8.2.2.1, r8.2.2.2.1, r8.2.2.2.2.1, r20.2.1, r8.2.2.2.2.2.2.1, r21.2.1, r8.2.2.2.2.2.2.2.2) 1) fun r22 => (br (decide (r22 < 0)) (some false) (br (r22 != r21.1) (some false) (bd (l_toRoom k a0) fun r23 => (bd (l_toEvent k a2) fun r24 => (bd (i_Draft k r23 a1 r24) fun r25 => (bd (l_eqEvent k r25 r5) fun r26 => (br (!r26) (some false) (bd (l_heldEvent k (r8.1, r8.2.1, r8.2.2.1, r8.2.2.2.1, r8.2.2.2.2.1, r20.2.1, r8.2.2.2.2.2.2.1, r21.2.1, r8.2.2.2.2.2.2.2.2) 1) fun r27 => (br (decide (r27 < 0)) (some false) (br (r27 != r21.1) (some false) (some true)))))))))))))))))))))))))))))))))))))))))))))))
end Go.Vm
