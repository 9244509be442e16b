/- What the functions compute. -/
import Derived.Test.YtmmgjbjmmipobaaWc
set_option linter.unusedVariables false
namespace Go.Vm
open Go
abbrev TOut : Type := Int × Int × List Int × Unit
def dTOut : TOut := (0, 0, [], ())
abbrev TSession : Type := Int × Int × ByteArray × Unit
def dTSession : TSession := (0, 0, ByteArray.empty, ())
abbrev TEvent : Type := Int × Int × Int × Int × Int × List Int × ByteArray × List Int × Int × Unit
def dTEvent : TEvent := (0, 0, 0, 0, 0, [], ByteArray.empty, [], 0, ())
abbrev TItem : Type := Int × Int × Unit
def dTItem : TItem := (0, 0, ())
abbrev TRoom : Type := List TEvent × List (List TItem) × List Bool × Unit
def dTRoom : TRoom := ([], [], [], ())
abbrev THall : Type := List TSession × TRoom × List TOut × Unit
def dTHall : THall := ([], dTRoom, [], ())
noncomputable section
def b0_s_HallNew (k : Nat) (L0 : Int → List TOut → Option THall) (v1 : Int) (xs2 : List TOut) : Option THall := (br (decide (v1 ≤ 2)) (gd (decide (xs2.length + ([(v1, 0, [], ())] : List TOut).length ≤ maxRow)) (L0 (w64 (v1 + 1)) (xs2 ++ ([(v1, 0, [], ())] : List TOut)))) (some ([], ([], [], [], ()), xs2, ())))
def l0_s_HallNew (k : Nat) : Nat → Int → List TOut → Option THall
  | 0, _, _ => none
  | n + 1, v1, xs2 => b0_s_HallNew k (l0_s_HallNew k n) v1 xs2
def g_s_HallNew (k : Nat) (L0 : Int → List TOut → Option THall) : Option THall := (L0 1 [])
def s_HallNew (k : Nat) : Option THall := g_s_HallNew k (l0_s_HallNew k k)
end
noncomputable section
def b0_i_HallNew (k : Nat) (L0 : Int → List TOut → Option THall) (v1 : Int) (xs2 : List TOut) : Option THall := (br (decide (v1 ≤ 2)) (gd (decide (xs2.length + ([(v1, 0, [], ())] : List TOut).length ≤ maxRow)) (L0 (w64 (v1 + 1)) (xs2 ++ ([(v1, 0, [], ())] : List TOut)))) (some ([], ([], [], [], ()), xs2, ())))
def l0_i_HallNew (k : Nat) : Nat → Int → List TOut → Option THall
  | 0, _, _ => none
  | n + 1, v1, xs2 => b0_i_HallNew k (l0_i_HallNew k n) v1 xs2
def g_i_HallNew (k : Nat) (L0 : Int → List TOut → Option THall) : Option THall := (L0 1 [])
def i_HallNew (k : Nat) : Option THall := g_i_HallNew k (l0_i_HallNew k k)
end
def l_eqSession (k : Nat) (a0 : TSession) (a1 : TSession) : Option Bool := (br (a0.1 != a1.1) (some false) (br (a0.2.1 != a1.2.1) (some false) (br (!(a0.2.2.1.toList == a1.2.2.1.toList)) (some false) (some true))))
noncomputable section
def b0_l_eqSessionS (k : Nat) (L0 : List TSession → List TSession → Int → Option Bool) (a0 : List TSession) (a1 : List TSession) (v1 : Int) : Option Bool := (br (decide (v1 < (a0.length : Int))) (gd (decide (0 ≤ v1)) (gd (decide (v1 < (a0.length : Int))) (gd (decide (0 ≤ v1)) (gd (decide (v1 < (a1.length : Int))) (bd (l_eqSession k (rd dTSession a0 v1.toNat) (rd dTSession a1 v1.toNat)) fun r1 => (br (!r1) (some false) (L0 a0 a1 (w64 (v1 + 1))))))))) (some true))
def l0_l_eqSessionS (k : Nat) : Nat → List TSession → List TSession → Int → Option Bool
  | 0, _, _, _ => none
  | n + 1, a0, a1, v1 => b0_l_eqSessionS k (l0_l_eqSessionS k n) a0 a1 v1
def g_l_eqSessionS (k : Nat) (L0 : List TSession → List TSession → Int → Option Bool) (a0 : List TSession) (a1 : List TSession) : Option Bool := (br ((a0.length : Int) != (a1.length : Int)) (some false) (L0 a0 a1 0))
def l_eqSessionS (k : Nat) (a0 : List TSession) (a1 : List TSession) : Option Bool := g_l_eqSessionS k (l0_l_eqSessionS k k) a0 a1
end
noncomputable section
def b0_l_eqIntS (k : Nat) (L0 : List Int → List Int → Int → Option Bool) (a0 : List Int) (a1 : List Int) (v1 : Int) : Option Bool := (br (decide (v1 < (a0.length : Int))) (gd (decide (0 ≤ v1)) (gd (decide (v1 < (a0.length : Int))) (gd (decide (0 ≤ v1)) (gd (decide (v1 < (a1.length : Int))) (br ((rd 0 a0 v1.toNat) != (rd 0 a1 v1.toNat)) (some false) (L0 a0 a1 (w64 (v1 + 1)))))))) (some true))
def l0_l_eqIntS (k : Nat) : Nat → List Int → List Int → Int → Option Bool
  | 0, _, _, _ => none
  | n + 1, a0, a1, v1 => b0_l_eqIntS k (l0_l_eqIntS k n) a0 a1 v1
def g_l_eqIntS (k : Nat) (L0 : List Int → List Int → Int → Option Bool) (a0 : List Int) (a1 : List Int) : Option Bool := (br ((a0.length : Int) != (a1.length : Int)) (some false) (L0 a0 a1 0))
def l_eqIntS (k : Nat) (a0 : List Int) (a1 : List Int) : Option Bool := g_l_eqIntS k (l0_l_eqIntS k k) a0 a1
end
def l_eqEvent (k : Nat) (a0 : TEvent) (a1 : TEvent) : Option Bool := (br (a0.1 != a1.1) (some false) (br (a0.2.1 != a1.2.1) (some false) (br (a0.2.2.1 != a1.2.2.1) (some false) (br (a0.2.2.2.1 != a1.2.2.2.1) (some false) (br (a0.2.2.2.2.1 != a1.2.2.2.2.1) (some false) (bd (l_eqIntS k a0.2.2.2.2.2.1 a1.2.2.2.2.2.1) fun r1 => (br (!r1) (some false) (br (!(a0.2.2.2.2.2.2.1.toList == a1.2.2.2.2.2.2.1.toList)) (some false) (bd (l_eqIntS k a0.2.2.2.2.2.2.2.1 a1.2.2.2.2.2.2.2.1) fun r2 => (br (!r2) (some false) (br (a0.2.2.2.2.2.2.2.2.1 != a1.2.2.2.2.2.2.2.2.1) (some false) (some true))))))))))))
noncomputable section
def b0_l_eqEventS (k : Nat) (L0 : List TEvent → List TEvent → Int → Option Bool) (a0 : List TEvent) (a1 : List TEvent) (v1 : Int) : Option Bool := (br (decide (v1 < (a0.length : Int))) (gd (decide (0 ≤ v1)) (gd (decide (v1 < (a0.length : Int))) (gd (decide (0 ≤ v1)) (gd (decide (v1 < (a1.length : Int))) (bd (l_eqEvent k (rd dTEvent a0 v1.toNat) (rd dTEvent a1 v1.toNat)) fun r1 => (br (!r1) (some false) (L0 a0 a1 (w64 (v1 + 1))))))))) (some true))
def l0_l_eqEventS (k : Nat) : Nat → List TEvent → List TEvent → Int → Option Bool
  | 0, _, _, _ => none
  | n + 1, a0, a1, v1 => b0_l_eqEventS k (l0_l_eqEventS k n) a0 a1 v1
def g_l_eqEventS (k : Nat) (L0 : List TEvent → List TEvent → Int → Option Bool) (a0 : List TEvent) (a1 : List TEvent) : Option Bool := (br ((a0.length : Int) != (a1.length : Int)) (some false) (L0 a0 a1 0))
def l_eqEventS (k : Nat) (a0 : List TEvent) (a1 : List TEvent) : Option Bool := g_l_eqEventS k (l0_l_eqEventS k k) a0 a1
end
def l_eqItem (k : Nat) (a0 : TItem) (a1 : TItem) : Option Bool := (br (a0.1 != a1.1) (some false) (br (a0.2.1 != a1.2.1) (some false) (some true)))
noncomputable section
def b0_l_eqItemS (k : Nat) (L0 : List TItem → List TItem → Int → Option Bool) (a0 : List TItem) (a1 : List TItem) (v1 : Int) : Option Bool := (br (decide (v1 < (a0.length : Int))) (gd (decide (0 ≤ v1)) (gd (decide (v1 < (a0.length : Int))) (gd (decide (0 ≤ v1)) (gd (decide (v1 < (a1.length : Int))) (bd (l_eqItem k (rd dTItem a0 v1.toNat) (rd dTItem a1 v1.toNat)) fun r1 => (br (!r1) (some false) (L0 a0 a1 (w64 (v1 + 1))))))))) (some true))
def l0_l_eqItemS (k : Nat) : Nat → List TItem → List TItem → Int → Option Bool
  | 0, _, _, _ => none
  | n + 1, a0, a1, v1 => b0_l_eqItemS k (l0_l_eqItemS k n) a0 a1 v1
def g_l_eqItemS (k : Nat) (L0 : List TItem → List TItem → Int → Option Bool) (a0 : List TItem) (a1 : List TItem) : Option Bool := (br ((a0.length : Int) != (a1.length : Int)) (some false) (L0 a0 a1 0))
def l_eqItemS (k : Nat) (a0 : List TItem) (a1 : List TItem) : Option Bool := g_l_eqItemS k (l0_l_eqItemS k k) a0 a1
end
noncomputable section
def b0_l_eqItemSS (k : Nat) (L0 : List (List TItem) → List (List TItem) → Int → Option Bool) (a0 : List (List TItem)) (a1 : List (List TItem)) (v1 : Int) : Option Bool := (br (decide (v1 < (a0.length : Int))) (gd (decide (0 ≤ v1)) (gd (decide (v1 < (a0.length : Int))) (gd (decide (0 ≤ v1)) (gd (decide (v1 < (a1.length : Int))) (bd (l_eqItemS k (rd [] a0 v1.toNat) (rd [] a1 v1.toNat)) fun r1 => (br (!r1) (some false) (L0 a0 a1 (w64 (v1 + 1))))))))) (some true))
def l0_l_eqItemSS (k : Nat) : Nat → List (List TItem) → List (List TItem) → Int → Option Bool
  | 0, _, _, _ => none
  | n + 1, a0, a1, v1 => b0_l_eqItemSS k (l0_l_eqItemSS k n) a0 a1 v1
def g_l_eqItemSS (k : Nat) (L0 : List (List TItem) → List (List TItem) → Int → Option Bool) (a0 : List (List TItem)) (a1 : List (List TItem)) : Option Bool := (br ((a0.length : Int) != (a1.length : Int)) (some false) (L0 a0 a1 0))
def l_eqItemSS (k : Nat) (a0 : List (List TItem)) (a1 : List (List TItem)) : Option Bool := g_l_eqItemSS k (l0_l_eqItemSS k k) a0 a1
end
noncomputable section
def b0_l_eqBoolS (k : Nat) (L0 : List Bool → List Bool → Int → Option Bool) (a0 : List Bool) (a1 : List Bool) (v1 : Int) : Option Bool := (br (decide (v1 < (a0.length : Int))) (gd (decide (0 ≤ v1)) (gd (decide (v1 < (a0.length : Int))) (gd (decide (0 ≤ v1)) (gd (decide (v1 < (a1.length : Int))) (br (!((rd false a0 v1.toNat) == (rd false a1 v1.toNat))) (some false) (L0 a0 a1 (w64 (v1 + 1)))))))) (some true))
def l0_l_eqBoolS (k : Nat) : Nat → List Bool → List Bool → Int → Option Bool
  | 0, _, _, _ => none
  | n + 1, a0, a1, v1 => b0_l_eqBoolS k (l0_l_eqBoolS k n) a0 a1 v1
def g_l_eqBoolS (k : Nat) (L0 : List Bool → List Bool → Int → Option Bool) (a0 : List Bool) (a1 : List Bool) : Option Bool := (br ((a0.length : Int) != (a1.length : Int)) (some false) (L0 a0 a1 0))
def l_eqBoolS (k : Nat) (a0 : List Bool) (a1 : List Bool) : Option Bool := g_l_eqBoolS k (l0_l_eqBoolS k k) a0 a1
end
def l_eqRoom (k : Nat) (a0 : TRoom) (a1 : TRoom) : Option Bool := (bd (l_eqEventS k a0.1 a1.1) fun r1 => (br (!r1) (some false) (bd (l_eqItemSS k a0.2.1 a1.2.1) fun r2 => (br (!r2) (some false) (bd (l_eqBoolS k a0.2.2.1 a1.2.2.1) fun r3 => (br (!r3) (some false) (some true)))))))
def l_eqOut (k : Nat) (a0 : TOut) (a1 : TOut) : Option Bool := (br (a0.1 != a1.1) (some false) (br (a0.2.1 != a1.2.1) (some false) (bd (l_eqIntS k a0.2.2.1 a1.2.2.1) fun r1 => (br (!r1) (some false) (some true)))))
noncomputable section
def b0_l_eqOutS (k : Nat) (L0 : List TOut → List TOut → Int → Option Bool) (a0 : List TOut) (a1 : List TOut) (v1 : Int) : Option Bool := (br (decide (v1 < (a0.length : Int))) (gd (decide (0 ≤ v1)) (gd (decide (v1 < (a0.length : Int))) (gd (decide (0 ≤ v1)) (gd (decide (v1 < (a1.length : Int))) (bd (l_eqOut k (rd dTOut a0 v1.toNat) (rd dTOut a1 v1.toNat)) fun r1 => (br (!r1) (some false) (L0 a0 a1 (w64 (v1 + 1))))))))) (some true))
def l0_l_eqOutS (k : Nat) : Nat → List TOut → List TOut → Int → Option Bool
  | 0, _, _, _ => none
  | n + 1, a0, a1, v1 => b0_l_eqOutS k (l0_l_eqOutS k n) a0 a1 v1
def g_l_eqOutS (k : Nat) (L0 : List TOut → List TOut → Int → Option Bool) (a0 : List TOut) (a1 : List TOut) : Option Bool := (br ((a0.length : Int) != (a1.length : Int)) (some false) (L0 a0 a1 0))
def l_eqOutS (k : Nat) (a0 : List TOut) (a1 : List TOut) : Option Bool := g_l_eqOutS k (l0_l_eqOutS k k) a0 a1
end
def l_eqHall (k : Nat) (a0 : THall) (a1 : THall) : Option Bool := (bd (l_eqSessionS k a0.1 a1.1) fun r1 => (br (!r1) (some false) (bd (l_eqRoom k a0.2.1 a1.2.1) fun r2 => (br (!r2) (some false) (bd (l_eqOutS k a0.2.2.1 a1.2.2.1) fun r3 => (br (!r3) (some false) (some true)))))))
noncomputable section
def b0_l_markText (k : Nat) (L0 : Int → ByteArray → Option ByteArray) (a0 : Int) (v1 : ByteArray) : Option ByteArray := (br (decide (a0 > 0)) (ng (a0 == a0 && (10 : Int) == 0) (gd (decide ((strOfNums [(IntKind.wrap .u8 (w64 (48 + (Int.tmod a0 10))))]).size + v1.size ≤ maxRow)) (ng (a0 == a0 && (10 : Int) == 0) (L0 (w64 (Int.tdiv a0 10)) ((strOfNums [(IntKind.wrap .u8 (w64 (48 + (Int.tmod a0 10))))]) ++ v1))))) (gd (decide ((⟨#[109]⟩ : ByteArray).size + v1.size ≤ maxRow)) (some ((⟨#[109]⟩ : ByteArray) ++ v1))))
def l0_l_markText (k : Nat) : Nat → Int → ByteArray → Option ByteArray
  | 0, _, _ => none
  | n + 1, a0, v1 => b0_l_markText k (l0_l_markText k n) a0 v1
def g_l_markText (k : Nat) (L0 : Int → ByteArray → Option ByteArray) (a0 : Int) : Option ByteArray := (br (decide (a0 ≤ 0)) (some (⟨#[109, 48]⟩ : ByteArray)) (L0 a0 (⟨#[]⟩ : ByteArray)))
def l_markText (k : Nat) (a0 : Int) : Option ByteArray := g_l_markText k (l0_l_markText k k) a0
end
noncomputable section
def b0_l_heldSessionS (k : Nat) (L0 : List TSession → Int → Int → Option Int) (a0 : List TSession) (a1 : Int) (v1 : Int) : Option Int := (br (decide (v1 < (a0.length : Int))) (gd (decide (0 ≤ v1)) (gd (decide (v1 < (a0.length : Int))) (br ((rd dTSession a0 v1.toNat).1 != a1) (some (-1)) (gd (decide (0 ≤ v1)) (gd (decide (v1 < (a0.length : Int))) (br ((rd dTSession a0 v1.toNat).2.1 != (w64 (a1 + 1))) (some (-1)) (gd (decide (0 ≤ v1)) (gd (decide (v1 < (a0.length : Int))) (bd (l_markText k (w64 ((w64 (a1 + 1)) + 1))) fun r1 => (br (!((rd dTSession a0 v1.toNat).2.2.1.toList == r1.toList)) (some (-1)) (L0 a0 (w64 ((w64 ((w64 (a1 + 1)) + 1)) + 1)) (w64 (v1 + 1))))))))))))) (some a1))
def l0_l_heldSessionS (k : Nat) : Nat → List TSession → Int → Int → Option Int
  | 0, _, _, _ => none
  | n + 1, a0, a1, v1 => b0_l_heldSessionS k (l0_l_heldSessionS k n) a0 a1 v1
def g_l_heldSessionS (k : Nat) (L0 : List TSession → Int → Int → Option Int) (a0 : List TSession) (a1 : Int) : Option Int := (L0 a0 a1 0)
def l_heldSessionS (k : Nat) (a0 : List TSession) (a1 : Int) : Option Int := g_l_heldSessionS k (l0_l_heldSessionS k k) a0 a1
end
noncomputable section
def b0_l_heldIntS (k : Nat) (L0 : List Int → Int → Int → Option Int) (a0 : List Int) (a1 : Int) (v1 : Int) : Option Int := (br (decide (v1 < (a0.length : Int))) (gd (decide (0 ≤ v1)) (gd (decide (v1 < (a0.length : Int))) (br ((rd 0 a0 v1.toNat) != a1) (some (-1)) (L0 a0 (w64 (a1 + 1)) (w64 (v1 + 1)))))) (some a1))
def l0_l_heldIntS (k : Nat) : Nat → List Int → Int → Int → Option Int
  | 0, _, _, _ => none
  | n + 1, a0, a1, v1 => b0_l_heldIntS k (l0_l_heldIntS k n) a0 a1 v1
def g_l_heldIntS (k : Nat) (L0 : List Int → Int → Int → Option Int) (a0 : List Int) (a1 : Int) : Option Int := (L0 a0 a1 0)
def l_heldIntS (k : Nat) (a0 : List Int) (a1 : Int) : Option Int := g_l_heldIntS k (l0_l_heldIntS k k) a0 a1
end
noncomputable section
def b0_l_heldEventS (k : Nat) (L0 : List TEvent → Int → Int → Option Int) (a0 : List TEvent) (a1 : Int) (v1 : Int) : Option Int := (br (decide (v1 < (a0.length : Int))) (gd (decide (0 ≤ v1)) (gd (decide (v1 < (a0.length : Int))) (br ((rd dTEvent a0 v1.toNat).1 != a1) (some (-1)) (gd (decide (0 ≤ v1)) (gd (decide (v1 < (a0.length : Int))) (br ((rd dTEvent a0 v1.toNat).2.1 != (w64 (a1 + 1))) (some (-1)) (gd (decide (0 ≤ v1)) (gd (decide (v1 < (a0.length : Int))) (br ((rd dTEvent a0 v1.toNat).2.2.1 != (w64 ((w64 (a1 + 1)) + 1))) (some (-1)) (gd (decide (0 ≤ v1)) (gd (decide (v1 < (a0.length : Int))) (br ((rd dTEvent a0 v1.toNat).2.2.2.1 != (w64 ((w64 ((w64 (a1 + 1)) + 1)) + 1))) (some (-1)) (gd (decide (0 ≤ v1)) (gd (decide (v1 < (a0.length : Int))) (br ((rd dTEvent a0 v1.toNat).2.2.2.2.1 != (w64 ((w64 ((w64 ((w64 (a1 + 1)) + 1)) + 1)) + 1))) (some (-1)) (gd (decide (0 ≤ v1)) (gd (decide (v1 < (a0.length : Int))) (bd (l_heldIntS k (rd dTEvent a0 v1.toNat).2.2.2.2.2.1 (w64 ((w64 ((w64 ((w64 ((w64 (a1 + 1)) + 1)) + 1)) + 1)) + 1))) fun r1 => (br (decide (r1 < 0)) (some (-1)) (gd (decide (0 ≤ v1)) (gd (decide (v1 < (a0.length : Int))) (bd (l_markText k r1) fun r2 => (br (!((rd dTEvent a0 v1.toNat).2.2.2.2.2.2.1.toList == r2.toList)) (some (-1)) (gd (decide (0 ≤ v1)) (gd (decide (v1 < (a0.length : Int))) (bd (l_heldIntS k (rd dTEvent a0 v1.toNat).2.2.2.2.2.2.2.1 (w64 (r1 + 1))) fun r3 => (br (decide (r3 < 0)) (some (-1)) (gd (decide (0 ≤ v1)) (gd (decide (v1 < (a0.length : Int))) (br ((rd dTEvent a0 v1.toNat).2.2.2.2.2.2.2.2.1 != r3) (some (-1)) (L0 a0 (w64 (r3 + 1)) (w64 (v1 + 1))))))))))))))))))))))))))))))))) (some a1))
def l0_l_heldEventS (k : Nat) : Nat → List TEvent → Int → Int → Option Int
  | 0, _, _, _ => none
  | n + 1, a0, a1, v1 => b0_l_heldEventS k (l0_l_heldEventS k n) a0 a1 v1
def g_l_heldEventS (k : Nat) (L0 : List TEvent → Int → Int → Option Int) (a0 : List TEvent) (a1 : Int) : Option Int := (L0 a0 a1 0)
def l_heldEventS (k : Nat) (a0 : List TEvent) (a1 : Int) : Option Int := g_l_heldEventS k (l0_l_heldEventS k k) a0 a1
end
noncomputable section
def b0_l_heldItemS (k : Nat) (L0 : List TItem → Int → Int → Option Int) (a0 : List TItem) (a1 : Int) (v1 : Int) : Option Int := (br (decide (v1 < (a0.length : Int))) (gd (decide (0 ≤ v1)) (gd (decide (v1 < (a0.length : Int))) (br ((rd dTItem a0 v1.toNat).1 != a1) (some (-1)) (gd (decide (0 ≤ v1)) (gd (decide (v1 < (a0.length : Int))) (br ((rd dTItem a0 v1.toNat).2.1 != (w64 (a1 + 1))) (some (-1)) (L0 a0 (w64 ((w64 (a1 + 1)) + 1)) (w64 (v1 + 1))))))))) (some a1))
def l0_l_heldItemS (k : Nat) : Nat → List TItem → Int → Int → Option Int
  | 0, _, _, _ => none
  | n + 1, a0, a1, v1 => b0_l_heldItemS k (l0_l_heldItemS k n) a0 a1 v1
def g_l_heldItemS (k : Nat) (L0 : List TItem → Int → Int → Option Int) (a0 : List TItem) (a1 : Int) : Option Int := (L0 a0 a1 0)
def l_heldItemS (k : Nat) (a0 : List TItem) (a1 : Int) : Option Int := g_l_heldItemS k (l0_l_heldItemS k k) a0 a1
end
noncomputable section
def b0_l_heldItemSS (k : Nat) (L0 : List (List TItem) → Int → Int → Option Int) (a0 : List (List TItem)) (a1 : Int) (v1 : Int) : Option Int := (br (decide (v1 < (a0.length : Int))) (gd (decide (0 ≤ v1)) (gd (decide (v1 < (a0.length : Int))) (bd (l_heldItemS k (rd [] a0 v1.toNat) a1) fun r1 => (br (decide (r1 < 0)) (some (-1)) (L0 a0 r1 (w64 (v1 + 1))))))) (some a1))
def l0_l_heldItemSS (k : Nat) : Nat → List (List TItem) → Int → Int → Option Int
  | 0, _, _, _ => none
  | n + 1, a0, a1, v1 => b0_l_heldItemSS k (l0_l_heldItemSS k n) a0 a1 v1
def g_l_heldItemSS (k : Nat) (L0 : List (List TItem) → Int → Int → Option Int) (a0 : List (List TItem)) (a1 : Int) : Option Int := (L0 a0 a1 0)
def l_heldItemSS (k : Nat) (a0 : List (List TItem)) (a1 : Int) : Option Int := g_l_heldItemSS k (l0_l_heldItemSS k k) a0 a1
end
noncomputable section
def b0_l_heldBoolS (k : Nat) (L0 : List Bool → Int → Int → Option Int) (a0 : List Bool) (a1 : Int) (v1 : Int) : Option Int := (br (decide (v1 < (a0.length : Int))) (gd (decide (0 ≤ v1)) (gd (decide (v1 < (a0.length : Int))) (ng (a1 == a1 && (3 : Int) == 0) (br (!((rd false a0 v1.toNat) == ((Int.tmod a1 3) == 0))) (some (-1)) (L0 a0 (w64 (a1 + 1)) (w64 (v1 + 1))))))) (some a1))
def l0_l_heldBoolS (k : Nat) : Nat → List Bool → Int → Int → Option Int
  | 0, _, _, _ => none
  | n + 1, a0, a1, v1 => b0_l_heldBoolS k (l0_l_heldBoolS k n) a0 a1 v1
def g_l_heldBoolS (k : Nat) (L0 : List Bool → Int → Int → Option Int) (a0 : List Bool) (a1 : Int) : Option Int := (L0 a0 a1 0)
def l_heldBoolS (k : Nat) (a0 : List Bool) (a1 : Int) : Option Int := g_l_heldBoolS k (l0_l_heldBoolS k k) a0 a1
end
def l_heldRoom (k : Nat) (a0 : TRoom) (a1 : Int) : Option Int := (bd (l_heldEventS k a0.1 a1) fun r1 => (br (decide (r1 < 0)) (some (-1)) (bd (l_heldItemSS k a0.2.1 r1) fun r2 => (br (decide (r2 < 0)) (some (-1)) (bd (l_heldBoolS k a0.2.2.1 r2) fun r3 => (br (decide (r3 < 0)) (some (-1)) (some r3)))))))
noncomputable section
def b0_l_heldOutS (k : Nat) (L0 : List TOut → Int → Int → Option Int) (a0 : List TOut) (a1 : Int) (v1 : Int) : Option Int := (br (decide (v1 < (a0.length : Int))) (gd (decide (0 ≤ v1)) (gd (decide (v1 < (a0.length : Int))) (br ((rd dTOut a0 v1.toNat).1 != a1) (some (-1)) (gd (decide (0 ≤ v1)) (gd (decide (v1 < (a0.length : Int))) (br ((rd dTOut a0 v1.toNat).2.1 != (w64 (a1 + 1))) (some (-1)) (gd (decide (0 ≤ v1)) (gd (decide (v1 < (a0.length : Int))) (bd (l_heldIntS k (rd dTOut a0 v1.toNat).2.2.1 (w64 ((w64 (a1 + 1)) + 1))) fun r1 => (br (decide (r1 < 0)) (some (-1)) (L0 a0 r1 (w64 (v1 + 1))))))))))))) (some a1))
def l0_l_heldOutS (k : Nat) : Nat → List TOut → Int → Int → Option Int
  | 0, _, _, _ => none
  | n + 1, a0, a1, v1 => b0_l_heldOutS k (l0_l_heldOutS k n) a0 a1 v1
def g_l_heldOutS (k : Nat) (L0 : List TOut → Int → Int → Option Int) (a0 : List TOut) (a1 : Int) : Option Int := (L0 a0 a1 0)
def l_heldOutS (k : Nat) (a0 : List TOut) (a1 : Int) : Option Int := g_l_heldOutS k (l0_l_heldOutS k k) a0 a1
end
def l_heldHall (k : Nat) (a0 : THall) (a1 : Int) : Option Int := (bd (l_heldSessionS k a0.1 a1) fun r1 => (br (decide (r1 < 0)) (some (-1)) (bd (l_heldRoom k a0.2.1 r1) fun r2 => (br (decide (r2 < 0)) (some (-1)) (bd (l_heldOutS k a0.2.2.1 r2) fun r3 => (br (decide (r3 < 0)) (some (-1)) (some r3)))))))
noncomputable section
def b0_l_markSessionS (k : Nat) (L0 : Int → Int → List TSession → Option (Int × List TSession × Unit)) (a1 : Int) (v1 : Int) (a0 : List TSession) : Option (Int × List TSession × Unit) := (br (decide (v1 < (a0.length : Int))) (gd (decide (0 ≤ v1)) (gd (decide (v1 < (a0.length : Int))) (gd (decide (0 ≤ v1)) (gd (decide (v1 < (((a0.set v1.toNat (a1, (rd dTSession a0 v1.toNat).2)).length : Nat) : Int))) (bd (l_markText k (w64 ((w64 (a1 + 1)) + 1))) fun r1 => (gd (decide (0 ≤ v1)) (gd (decide (v1 < ((((a0.set v1.toNat (a1, (rd dTSession a0 v1.toNat).2)).set v1.toNat ((rd dTSession (a0.set v1.toNat (a1, (rd dTSession a0 v1.toNat).2)) v1.toNat).1, (w64 (a1 + 1)), (rd dTSession (a0.set v1.toNat (a1, (rd dTSession a0 v1.toNat).2)) v1.toNat).2.2)).length : Nat) : Int))) (L0 (w64 ((w64 ((w64 (a1 + 1)) + 1)) + 1)) (w64 (v1 + 1)) (((a0.set v1.toNat (a1, (rd dTSession a0 v1.toNat).2)).set v1.toNat ((rd dTSession (a0.set v1.toNat (a1, (rd dTSession a0 v1.toNat).2)) v1.toNat).1, (w64 (a1 + 1)), (rd dTSession (a0.set v1.toNat (a1, (rd dTSession a0 v1.toNat).2)) v1.toNat).2.2)).set v1.toNat ((rd dTSession ((a0.set v1.toNat (a1, (rd dTSession a0 v1.toNat).2)).set v1.toNat ((rd dTSession (a0.set v1.toNat (a1, (rd dTSession a0 v1.toNat).2)) v1.toNat).1, (w64 (a1 + 1)), (rd dTSession (a0.set v1.toNat (a1, (rd dTSession a0 v1.toNat).2)) v1.toNat).2.2)) v1.toNat).1, (rd dTSession ((a0.set v1.toNat (a1, (rd dTSession a0 v1.toNat).2)).set v1.toNat ((rd dTSession (a0.set v1.toNat (a1, (rd dTSession a0 v1.toNat).2)) v1.toNat).1, (w64 (a1 + 1)), (rd dTSession (a0.set v1.toNat (a1, (rd dTSession a0 v1.toNat).2)) v1.toNat).2.2)) v1.toNat).2.1, r1, ())))))))))) (some (a1, a0, ())))
def l0_l_markSessionS (k : Nat) : Nat → Int → Int → List TSession → Option (Int × List TSession × Unit)
  | 0, _, _, _ => none
  | n + 1, a1, v1, a0 => b0_l_markSessionS k (l0_l_markSessionS k n) a1 v1 a0
def g_l_markSessionS (k : Nat) (L0 : Int → Int → List TSession → Option (Int × List TSession × Unit)) (a0 : List TSession) (a1 : Int) : Option (Int × List TSession × Unit) := (L0 a1 0 a0)
def l_markSessionS (k : Nat) (a0 : List TSession) (a1 : Int) : Option (Int × List TSession × Unit) := g_l_markSessionS k (l0_l_markSessionS k k) a0 a1
end
noncomputable section
def b0_l_markIntS (k : Nat) (L0 : Int → Int → List Int → Option (Int × List Int × Unit)) (a1 : Int) (v1 : Int) (a0 : List Int) : Option (Int × List Int × Unit) := (br (decide (v1 < (a0.length : Int))) (gd (decide (0 ≤ v1)) (gd (decide (v1 < (a0.length : Int))) (L0 (w64 (a1 + 1)) (w64 (v1 + 1)) (a0.set v1.toNat a1)))) (some (a1, a0, ())))
def l0_l_markIntS (k : Nat) : Nat → Int → Int → List Int → Option (Int × List Int × Unit)
  | 0, _, _, _ => none
  | n + 1, a1, v1, a0 => b0_l_markIntS k (l0_l_markIntS k n) a1 v1 a0
def g_l_markIntS (k : Nat) (L0 : Int → Int → List Int → Option (Int × List Int × Unit)) (a0 : List Int) (a1 : Int) : Option (Int × List Int × Unit) := (L0 a1 0 a0)
def l_markIntS (k : Nat) (a0 : List Int) (a1 : Int) : Option (Int × List Int × Unit) := g_l_markIntS k (l0_l_markIntS k k) a0 a1
end
noncomputable section
def b0_l_markOutS (k : Nat) (L0 : Int → Int → List TOut → Option (Int × List TOut × Unit)) (a1 : Int) (v1 : Int) (a0 : List TOut) : Option (Int × List TOut × Unit) := (br (decide (v1 < (a0.length : Int))) (gd (decide (0 ≤ v1)) (gd (decide (v1 < (a0.length : Int))) (lt (a0.set v1.toNat (a1, (rd dTOut a0 v1.toNat).2)) fun z1 => (gd (decide (0 ≤ v1)) (gd (decide (v1 < (z1.length : Int))) (lt (z1.set v1.toNat ((rd dTOut z1 v1.toNat).1, (w64 (a1 + 1)), (rd dTOut z1 v1.toNat).2.2)) fun z2 => (gd (decide (0 ≤ v1)) (gd (decide (v1 < (z2.length : Int))) (bd (l_markIntS k (rd dTOut z2 v1.toNat).2.2.1 (w64 ((w64 (a1 + 1)) + 1))) fun r3 => (gd (Nat.beq r3.2.1.length (rd dTOut z2 v1.toNat).2.2.1.length) (lt (z2.set v1.toNat ((rd dTOut z2 v1.toNat).1, (rd dTOut z2 v1.toNat).2.1, r3.2.1, (rd dTOut z2 v1.toNat).2.2.2)) fun z4 => (L0 r3.1 (w64 (v1 + 1)) z4)))))))))))) (some (a1, a0, ())))
def l0_l_markOutS (k : Nat) : Nat → Int → Int → List TOut → Option (Int × List TOut × Unit)
  | 0, _, _, _ => none
  | n + 1, a1, v1, a0 => b0_l_markOutS k (l0_l_markOutS k n) a1 v1 a0
def g_l_markOutS (k : Nat) (L0 : Int → Int → List TOut → Option (Int × List TOut × Unit)) (a0 : List TOut) (a1 : Int) : Option (Int × List TOut × Unit) := (L0 a1 0 a0)
def l_markOutS (k : Nat) (a0 : List TOut) (a1 : Int) : Option (Int × List TOut × Unit) := g_l_markOutS k (l0_l_markOutS k k) a0 a1
end
noncomputable section
def b0_l_markEventS (k : Nat) (L0 : Int → Int → List TEvent → Option (Int × List TEvent × Unit)) (a1 : Int) (v1 : Int) (a0 : List TEvent) : Option (Int × List TEvent × Unit) := (br (decide (v1 < (a0.length : Int))) (gd (decide (0 ≤ v1)) (gd (decide (v1 < (a0.length : Int))) (lt (a0.set v1.toNat (a1, (rd dTEvent a0 v1.toNat).2)) fun z1 => (gd (decide (0 ≤ v1)) (gd (decide (v1 < (z1.length : Int))) (lt (z1.set v1.toNat ((rd dTEvent z1 v1.toNat).1, (w64 (a1 + 1)), (rd dTEvent z1 v1.toNat).2.2)) fun z2 => (gd (decide (0 ≤ v1)) (gd (decide (v1 < (z2.length : Int))) (lt (z2.set v1.toNat ((rd dTEvent z2 v1.toNat).1, (rd dTEvent z2 v1.toNat).2.1, (w64 ((w64 (a1 + 1)) + 1)), (rd dTEvent z2 v1.toNat).2.2.2)) fun z3 => (gd (decide (0 ≤ v1)) (gd (decide (v1 < (z3.length : Int))) (lt (z3.set v1.toNat ((rd dTEvent z3 v1.toNat).1, (rd dTEvent z3 v1.toNat).2.1, (rd dTEvent z3 v1.toNat).2.2.1, (w64 ((w64 ((w64 (a1 + 1)) + 1)) + 1)), (rd dTEvent z3 v1.toNat).2.2.2.2)) fun z4 => (gd (decide (0 ≤ v1)) (gd (decide (v1 < (z4.length : Int))) (lt (z4.set v1.toNat ((rd dTEvent z4 v1.toNat).1, (rd dTEvent z4 v1.toNat).2.1, (rd dTEvent z4 v1.toNat).2.2.1, (rd dTEvent z4 v1.toNat).2.2.2.1, (w64 ((w64 ((w64 ((w64 (a1 + 1)) + 1)) + 1)) + 1)), (rd dTEvent z4 v1.toNat).2.2.2.2.2)) fun z5 => (gd (decide (0 ≤ v1)) (gd (decide (v1 < (z5.length : Int))) (bd (l_markIntS k (rd dTEvent z5 v1.toNat).2.2.2.2.2.1 (w64 ((w64 ((w64 ((w64 ((w64 (a1 + 1)) + 1)) + 1)) + 1)) + 1))) fun r6 => (gd (Nat.beq r6.2.1.length (rd dTEvent z5 v1.toNat).2.2.2.2.2.1.length) (lt (z5.set v1.toNat ((rd dTEvent z5 v1.toNat).1, (rd dTEvent z5 v1.toNat).2.1, (rd dTEvent z5 v1.toNat).2.2.1, (rd dTEvent z5 v1.toNat).2.2.2.1, (rd dTEvent z5 v1.toNat).2.2.2.2.1, r6.2.1, (rd dTEvent z5 v1.toNat).2.2.2.2.2.2)) fun z7 => (bd (l_markText k r6.1) fun r8 => (gd (decide (0 ≤ v1)) (gd (decide (v1 < (z7.length : Int))) (lt (z7.set v1.toNat ((rd dTEvent z7 v1.toNat).1, (rd dTEvent z7 v1.toNat).2.1, (rd dTEvent z7 v1.toNat).2.2.1, (rd dTEvent z7 v1.toNat).2.2.2.1, (rd dTEvent z7 v1.toNat).2.2.2.2.1, (rd dTEvent z7 v1.toNat).2.2.2.2.2.1, r8, (rd dTEvent z7 v1.toNat).2.2.2.2.2.2.2)) fun z9 => (gd (decide (0 ≤ v1)) (gd (decide (v1 < (z9.length : Int))) (bd (l_markIntS k (rd dTEvent z9 v1.toNat).2.2.2.2.2.2.2.1 (w64 (r6.1 + 1))) fun r10 => (gd (Nat.beq r10.2.1.length (rd dTEvent z9 v1.toNat).2.2.2.2.2.2.2.1.length) (lt (z9.set v1.toNat ((rd dTEvent z9 v1.toNat).1, (rd dTEvent z9 v1.toNat).2.1, (rd dTEvent z9 v1.toNat).2.2.1, (rd dTEvent z9 v1.toNat).2.2.2.1, (rd dTEvent z9 v1.toNat).2.2.2.2.1, (rd dTEvent z9 v1.toNat).2.2.2.2.2.1, (rd dTEvent z9 v1.toNat).2.2.2.2.2.2.1, r10.2.1, (rd dTEvent z9 v1.toNat).2.2.2.2.2.2.2.2)) fun z11 => (gd (decide (0 ≤ v1)) (gd (decide (v1 < (z11.length : Int))) (lt (z11.set v1.toNat ((rd dTEvent z11 v1.toNat).1, (rd dTEvent z11 v1.toNat).2.1, (rd dTEvent z11 v1.toNat).2.2.1, (rd dTEvent z11 v1.toNat).2.2.2.1, (rd dTEvent z11 v1.toNat).2.2.2.2.1, (rd dTEvent z11 v1.toNat).2.2.2.2.2.1, (rd dTEvent z11 v1.toNat).2.2.2.2.2.2.1, (rd dTEvent z11 v1.toNat).2.2.2.2.2.2.2.1, r10.1, ())) fun z12 => (L0 (w64 (r10.1 + 1)) (w64 (v1 + 1)) z12))))))))))))))))))))))))))))))))) (some (a1, a0, ())))
def l0_l_markEventS (k : Nat) : Nat → Int → Int → List TEvent → Option (Int × List TEvent × Unit)
  | 0, _, _, _ => none
  | n + 1, a1, v1, a0 => b0_l_markEventS k (l0_l_markEventS k n) a1 v1 a0
def g_l_markEventS (k : Nat) (L0 : Int → Int → List TEvent → Option (Int × List TEvent × Unit)) (a0 : List TEvent) (a1 : Int) : Option (Int × List TEvent × Unit) := (L0 a1 0 a0)
def l_markEventS (k : Nat) (a0 : List TEvent) (a1 : Int) : Option (Int × List TEvent × Unit) := g_l_markEventS k (l0_l_markEventS k k) a0 a1
end
noncomputable section
def b0_l_markItemS (k : Nat) (L0 : Int → Int → List TItem → Option (Int × List TItem × Unit)) (a1 : Int) (v1 : Int) (a0 : List TItem) : Option (Int × List TItem × Unit) := (br (decide (v1 < (a0.length : Int))) (gd (decide (0 ≤ v1)) (gd (decide (v1 < (a0.length : Int))) (gd (decide (0 ≤ v1)) (gd (decide (v1 < (((a0.set v1.toNat (a1, (rd dTItem a0 v1.toNat).2)).length : Nat) : Int))) (L0 (w64 ((w64 (a1 + 1)) + 1)) (w64 (v1 + 1)) ((a0.set v1.toNat (a1, (rd dTItem a0 v1.toNat).2)).set v1.toNat ((rd dTItem (a0.set v1.toNat (a1, (rd dTItem a0 v1.toNat).2)) v1.toNat).1, (w64 (a1 + 1)), ()))))))) (some (a1, a0, ())))
def l0_l_markItemS (k : Nat) : Nat → Int → Int → List TItem → Option (Int × List TItem × Unit)
  | 0, _, _, _ => none
  | n + 1, a1, v1, a0 => b0_l_markItemS k (l0_l_markItemS k n) a1 v1 a0
def g_l_markItemS (k : Nat) (L0 : Int → Int → List TItem → Option (Int × List TItem × Unit)) (a0 : List TItem) (a1 : Int) : Option (Int × List TItem × Unit) := (L0 a1 0 a0)
def l_markItemS (k : Nat) (a0 : List TItem) (a1 : Int) : Option (Int × List TItem × Unit) := g_l_markItemS k (l0_l_markItemS k k) a0 a1
end
noncomputable section
def b0_l_markItemSS (k : Nat) (L0 : Int → Int → List (List TItem) → Option (Int × List (List TItem) × Unit)) (a1 : Int) (v1 : Int) (a0 : List (List TItem)) : Option (Int × List (List TItem) × Unit) := (br (decide (v1 < (a0.length : Int))) (gd (decide (0 ≤ v1)) (gd (decide (v1 < (a0.length : Int))) (bd (l_markItemS k (rd [] a0 v1.toNat) a1) fun r1 => (gd (Nat.beq r1.2.1.length (rd [] a0 v1.toNat).length) (lt (a0.set v1.toNat r1.2.1) fun z2 => (L0 r1.1 (w64 (v1 + 1)) z2)))))) (some (a1, a0, ())))
def l0_l_markItemSS (k : Nat) : Nat → Int → Int → List (List TItem) → Option (Int × List (List TItem) × Unit)
  | 0, _, _, _ => none
  | n + 1, a1, v1, a0 => b0_l_markItemSS k (l0_l_markItemSS k n) a1 v1 a0
def g_l_markItemSS (k : Nat) (L0 : Int → Int → List (List TItem) → Option (Int × List (List TItem) × Unit)) (a0 : List (List TItem)) (a1 : Int) : Option (Int × List (List TItem) × Unit) := (L0 a1 0 a0)
def l_markItemSS (k : Nat) (a0 : List (List TItem)) (a1 : Int) : Option (Int × List (List TItem) × Unit) := g_l_markItemSS k (l0_l_markItemSS k k) a0 a1
end
noncomputable section
def b0_l_markBoolS (k : Nat) (L0 : Int → Int → List Bool → Option (Int × List Bool × Unit)) (a1 : Int) (v1 : Int) (a0 : List Bool) : Option (Int × List Bool × Unit) := (br (decide (v1 < (a0.length : Int))) (ng (a1 == a1 && (3 : Int) == 0) (gd (decide (0 ≤ v1)) (gd (decide (v1 < (a0.length : Int))) (L0 (w64 (a1 + 1)) (w64 (v1 + 1)) (a0.set v1.toNat ((Int.tmod a1 3) == 0)))))) (some (a1, a0, ())))
def l0_l_markBoolS (k : Nat) : Nat → Int → Int → List Bool → Option (Int × List Bool × Unit)
  | 0, _, _, _ => none
  | n + 1, a1, v1, a0 => b0_l_markBoolS k (l0_l_markBoolS k n) a1 v1 a0
def g_l_markBoolS (k : Nat) (L0 : Int → Int → List Bool → Option (Int × List Bool × Unit)) (a0 : List Bool) (a1 : Int) : Option (Int × List Bool × Unit) := (L0 a1 0 a0)
def l_markBoolS (k : Nat) (a0 : List Bool) (a1 : Int) : Option (Int × List Bool × Unit) := g_l_markBoolS k (l0_l_markBoolS k k) a0 a1
end
def l_FnExactHallNew (k : Nat) : Option Bool := (bd (s_HallNew k) fun r1 => (bd (i_HallNew k) fun r2 => (bd (l_eqHall k r2 r1) fun r3 => (br (!r3) (some false) (bd (l_markSessionS k r2.1 1) fun r4 => (gd (Nat.beq r4.2.1.length r2.1.length) (bd (l_markEventS k r2.2.1.1 r4.1) fun r5 => (gd (Nat.beq r5.2.1.length r2.2.1.1.length) (bd (l_markItemSS k r2.2.1.2.1 r5.1) fun r6 => (gd (Nat.beq r6.2.1.length r2.2.1.2.1.length) (bd (l_markBoolS k r2.2.1.2.2.1 r6.1) fun r7 => (gd (Nat.beq r7.2.1.length r2.2.1.2.2.1.length) (bd (l_markOutS k r2.2.2.1 r7.1) fun r8 => (gd (Nat.beq r8.2.1.length r2.2.2.1.length) (bd (l_heldHall k (r4.2.1, (r5.2.1, r6.2.1, r7.2.1, ()), r8.2.1, ()) 1) fun r9 => (br (decide (r9 < 0)) (some false) (br (r9 != r8.1) (some false) (bd (i_HallNew k) fun r10 => (bd (l_eqHall k r10 r1) fun r11 => (br (!r11) (some false) (bd (l_heldHall k (r4.2.1, (r5.2.1, r6.2.1, r7.2.1, ()), r8.2.1, ()) 1) fun r12 => (br (decide (r12 < 0)) (some false) (br (r12 != r8.1) (some false) (some true))))))))))))))))))))))))
end Go.Vm
