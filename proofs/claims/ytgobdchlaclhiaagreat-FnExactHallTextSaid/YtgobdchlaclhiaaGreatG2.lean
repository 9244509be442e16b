/- What the functions compute. -/
import Derived.Test.YtgobdchlaclhiaaGreatWc
set_option linter.unusedVariables false
namespace Go.Vm
open Go
abbrev TSession : Type := Int × Int × ByteArray × Unit
def dTSession : TSession := (0, 0, ByteArray.empty, ())
abbrev TEvent : Type := Int × Int × Int × Int × Int × List Int × ByteArray × List Int × Int × Unit
def dTEvent : TEvent := (0, 0, 0, 0, 0, [], ByteArray.empty, [], 0, ())
abbrev TItem : Type := Int × Int × Unit
def dTItem : TItem := (0, 0, ())
abbrev TRoom : Type := List TEvent × List (List TItem) × List Bool × Unit
def dTRoom : TRoom := ([], [], [], ())
abbrev TOut : Type := Int × Int × List Int × Unit
def dTOut : TOut := (0, 0, [], ())
abbrev THall : Type := List TSession × TRoom × List TOut × Unit
def dTHall : THall := ([], dTRoom, [], ())
def l_szSession (k : Nat) (a0 : TSession) (a1 : Int) : Option Int := (br (decide ((w64 (a1 - (a0.2.2.1.size : Int))) < 0)) (some (-1)) (some (w64 (a1 - (a0.2.2.1.size : Int)))))
noncomputable section
def b0_l_szSessionS (k : Nat) (L0 : List TSession → Int → Int → Option Int) (a0 : List TSession) (v1 : Int) (v2 : Int) : Option Int := (br (decide (v2 < (a0.length : Int))) (gd (decide (0 ≤ v2)) (gd (decide (v2 < (a0.length : Int))) (bd (l_szSession k (rd dTSession a0 v2.toNat) v1) fun r1 => (br (decide (r1 < 0)) (some (-1)) (L0 a0 r1 (w64 (v2 + 1))))))) (some v1))
def l0_l_szSessionS (k : Nat) : Nat → List TSession → Int → Int → Option Int
  | 0, _, _, _ => none
  | n + 1, a0, v1, v2 => b0_l_szSessionS k (l0_l_szSessionS k n) a0 v1 v2
def g_l_szSessionS (k : Nat) (L0 : List TSession → Int → Int → Option Int) (a0 : List TSession) (a1 : Int) : Option Int := (br (decide ((w64 (a1 - (a0.length : Int))) < 0)) (some (-1)) (L0 a0 (w64 (a1 - (a0.length : Int))) 0))
def l_szSessionS (k : Nat) (a0 : List TSession) (a1 : Int) : Option Int := g_l_szSessionS k (l0_l_szSessionS k k) a0 a1
end
def l_szIntS (k : Nat) (a0 : List Int) (a1 : Int) : Option Int := (br (decide ((w64 (a1 - (a0.length : Int))) < 0)) (some (-1)) (some (w64 (a1 - (a0.length : Int)))))
def l_szEvent (k : Nat) (a0 : TEvent) (a1 : Int) : Option Int := (bd (l_szIntS k a0.2.2.2.2.2.1 a1) fun r1 => (br (decide (r1 < 0)) (some (-1)) (br (decide ((w64 (r1 - (a0.2.2.2.2.2.2.1.size : Int))) < 0)) (some (-1)) (bd (l_szIntS k a0.2.2.2.2.2.2.2.1 (w64 (r1 - (a0.2.2.2.2.2.2.1.size : Int)))) fun r2 => (br (decide (r2 < 0)) (some (-1)) (some r2))))))
noncomputable section
def b0_l_szEventS (k : Nat) (L0 : List TEvent → Int → Int → Option Int) (a0 : List TEvent) (v1 : Int) (v2 : Int) : Option Int := (br (decide (v2 < (a0.length : Int))) (gd (decide (0 ≤ v2)) (gd (decide (v2 < (a0.length : Int))) (bd (l_szEvent k (rd dTEvent a0 v2.toNat) v1) fun r1 => (br (decide (r1 < 0)) (some (-1)) (L0 a0 r1 (w64 (v2 + 1))))))) (some v1))
def l0_l_szEventS (k : Nat) : Nat → List TEvent → Int → Int → Option Int
  | 0, _, _, _ => none
  | n + 1, a0, v1, v2 => b0_l_szEventS k (l0_l_szEventS k n) a0 v1 v2
def g_l_szEventS (k : Nat) (L0 : List TEvent → Int → Int → Option Int) (a0 : List TEvent) (a1 : Int) : Option Int := (br (decide ((w64 (a1 - (a0.length : Int))) < 0)) (some (-1)) (L0 a0 (w64 (a1 - (a0.length : Int))) 0))
def l_szEventS (k : Nat) (a0 : List TEvent) (a1 : Int) : Option Int := g_l_szEventS k (l0_l_szEventS k k) a0 a1
end
def l_szItemS (k : Nat) (a0 : List TItem) (a1 : Int) : Option Int := (br (decide ((w64 (a1 - (a0.length : Int))) < 0)) (some (-1)) (some (w64 (a1 - (a0.length : Int)))))
noncomputable section
def b0_l_szItemSS (k : Nat) (L0 : List (List TItem) → Int → Int → Option Int) (a0 : List (List TItem)) (v1 : Int) (v2 : Int) : Option Int := (br (decide (v2 < (a0.length : Int))) (gd (decide (0 ≤ v2)) (gd (decide (v2 < (a0.length : Int))) (bd (l_szItemS k (rd [] a0 v2.toNat) v1) fun r1 => (br (decide (r1 < 0)) (some (-1)) (L0 a0 r1 (w64 (v2 + 1))))))) (some v1))
def l0_l_szItemSS (k : Nat) : Nat → List (List TItem) → Int → Int → Option Int
  | 0, _, _, _ => none
  | n + 1, a0, v1, v2 => b0_l_szItemSS k (l0_l_szItemSS k n) a0 v1 v2
def g_l_szItemSS (k : Nat) (L0 : List (List TItem) → Int → Int → Option Int) (a0 : List (List TItem)) (a1 : Int) : Option Int := (br (decide ((w64 (a1 - (a0.length : Int))) < 0)) (some (-1)) (L0 a0 (w64 (a1 - (a0.length : Int))) 0))
def l_szItemSS (k : Nat) (a0 : List (List TItem)) (a1 : Int) : Option Int := g_l_szItemSS k (l0_l_szItemSS k k) a0 a1
end
def l_szBoolS (k : Nat) (a0 : List Bool) (a1 : Int) : Option Int := (br (decide ((w64 (a1 - (a0.length : Int))) < 0)) (some (-1)) (some (w64 (a1 - (a0.length : Int)))))
def l_szRoom (k : Nat) (a0 : TRoom) (a1 : Int) : Option Int := (bd (l_szEventS k a0.1 a1) fun r1 => (br (decide (r1 < 0)) (some (-1)) (bd (l_szItemSS k a0.2.1 r1) fun r2 => (br (decide (r2 < 0)) (some (-1)) (bd (l_szBoolS k a0.2.2.1 r2) fun r3 => (br (decide (r3 < 0)) (some (-1)) (some r3)))))))
def l_szOut (k : Nat) (a0 : TOut) (a1 : Int) : Option Int := (bd (l_szIntS k a0.2.2.1 a1) fun r1 => (br (decide (r1 < 0)) (some (-1)) (some r1)))
noncomputable section
def b0_l_szOutS (k : Nat) (L0 : List TOut → Int → Int → Option Int) (a0 : List TOut) (v1 : Int) (v2 : Int) : Option Int := (br (decide (v2 < (a0.length : Int))) (gd (decide (0 ≤ v2)) (gd (decide (v2 < (a0.length : Int))) (bd (l_szOut k (rd dTOut a0 v2.toNat) v1) fun r1 => (br (decide (r1 < 0)) (some (-1)) (L0 a0 r1 (w64 (v2 + 1))))))) (some v1))
def l0_l_szOutS (k : Nat) : Nat → List TOut → Int → Int → Option Int
  | 0, _, _, _ => none
  | n + 1, a0, v1, v2 => b0_l_szOutS k (l0_l_szOutS k n) a0 v1 v2
def g_l_szOutS (k : Nat) (L0 : List TOut → Int → Int → Option Int) (a0 : List TOut) (a1 : Int) : Option Int := (br (decide ((w64 (a1 - (a0.length : Int))) < 0)) (some (-1)) (L0 a0 (w64 (a1 - (a0.length : Int))) 0))
def l_szOutS (k : Nat) (a0 : List TOut) (a1 : Int) : Option Int := g_l_szOutS k (l0_l_szOutS k k) a0 a1
end
def l_szHall (k : Nat) (a0 : THall) (a1 : Int) : Option Int := (bd (l_szSessionS k a0.1 a1) fun r1 => (br (decide (r1 < 0)) (some (-1)) (bd (l_szRoom k a0.2.1 r1) fun r2 => (br (decide (r2 < 0)) (some (-1)) (bd (l_szOutS k a0.2.2.1 r2) fun r3 => (br (decide (r3 < 0)) (some (-1)) (some r3)))))))
def s_l01In (k : Nat) (a0 : Int) (a1 : Int) (a2 : Int) : Option Bool := (br (decide (a0 ≥ a1)) (some (decide (a0 ≤ a2))) (some false))
noncomputable section
def b0_s_l09Levels (k : Nat) (L0 : List Int → Int → Option Bool) (a0 : List Int) (v1 : Int) : Option Bool := (br (decide (v1 < (a0.length : Int))) (gd (decide (0 ≤ v1)) (gd (decide (v1 < (a0.length : Int))) (bd (s_l01In k (rd 0 a0 v1.toNat) 0 100) fun r1 => (br (!r1) (some false) (L0 a0 (w64 (v1 + 1))))))) (some ((a0.length : Int) == 5)))
def l0_s_l09Levels (k : Nat) : Nat → List Int → Int → Option Bool
  | 0, _, _ => none
  | n + 1, a0, v1 => b0_s_l09Levels k (l0_s_l09Levels k n) a0 v1
def g_s_l09Levels (k : Nat) (L0 : List Int → Int → Option Bool) (a0 : List Int) : Option Bool := (L0 a0 0)
def s_l09Levels (k : Nat) (a0 : List Int) : Option Bool := g_s_l09Levels k (l0_s_l09Levels k k) a0
end
def s_l09Body (k : Nat) (a0 : TEvent) : Option Bool := (bd (s_l01In k a0.2.1 1 5) fun r1 => (br (!r1) (some false) (bd (s_l01In k a0.2.2.1 1 5) fun r2 => (br (!r2) (some false) (br (a0.2.1 == 2) (bd (s_l01In k a0.2.2.2.1 1 5) fun r3 => (br (!r3) (some false) (bd (s_l01In k a0.2.2.2.2.1 0 3) fun r4 => (br (!r4) (some false) (br (a0.2.1 != 2) (br (a0.2.2.2.1 != 0) (some false) (br (a0.2.2.2.2.1 != 0) (some false) (br (a0.2.1 == 3) (bd (s_l09Levels k a0.2.2.2.2.2.1) fun r5 => (br (!r5) (some false) (br (a0.2.1 != 3) (br (decide ((a0.2.2.2.2.2.1.length : Int) > 0)) (some false) (br (a0.2.1 == 4) (some (decide ((a0.2.2.2.2.2.2.1.size : Int) ≤ 24))) (br (a0.2.1 == 5) (some (decide ((a0.2.2.2.2.2.2.1.size : Int) ≤ 24))) (some (a0.2.2.2.2.2.2.1.toList == (⟨#[]⟩ : ByteArray).toList))))) (br (a0.2.1 == 4) (some (decide ((a0.2.2.2.2.2.2.1.size : Int) ≤ 24))) (br (a0.2.1 == 5) (some (decide ((a0.2.2.2.2.2.2.1.size : Int) ≤ 24))) (some (a0.2.2.2.2.2.2.1.toList == (⟨#[]⟩ : ByteArray).toList))))))) (br (a0.2.1 != 3) (br (decide ((a0.2.2.2.2.2.1.length : Int) > 0)) (some false) (br (a0.2.1 == 4) (some (decide ((a0.2.2.2.2.2.2.1.size : Int) ≤ 24))) (br (a0.2.1 == 5) (some (decide ((a0.2.2.2.2.2.2.1.size : Int) ≤ 24))) (some (a0.2.2.2.2.2.2.1.toList == (⟨#[]⟩ : ByteArray).toList))))) (br (a0.2.1 == 4) (some (decide ((a0.2.2.2.2.2.2.1.size : Int) ≤ 24))) (br (a0.2.1 == 5) (some (decide ((a0.2.2.2.2.2.2.1.size : Int) ≤ 24))) (some (a0.2.2.2.2.2.2.1.toList == (⟨#[]⟩ : ByteArray).toList)))))))) (br (a0.2.1 == 3) (bd (s_l09Levels k a0.2.2.2.2.2.1) fun r6 => (br (!r6) (some false) (br (a0.2.1 != 3) (br (decide ((a0.2.2.2.2.2.1.length : Int) > 0)) (some false) (br (a0.2.1 == 4) (some (decide ((a0.2.2.2.2.2.2.1.size : Int) ≤ 24))) (br (a0.2.1 == 5) (some (decide ((a0.2.2.2.2.2.2.1.size : Int) ≤ 24))) (some (a0.2.2.2.2.2.2.1.toList == (⟨#[]⟩ : ByteArray).toList))))) (br (a0.2.1 == 4) (some (decide ((a0.2.2.2.2.2.2.1.size : Int) ≤ 24))) (br (a0.2.1 == 5) (some (decide ((a0.2.2.2.2.2.2.1.size : Int) ≤ 24))) (some (a0.2.2.2.2.2.2.1.toList == (⟨#[]⟩ : ByteArray).toList))))))) (br (a0.2.1 != 3) (br (decide ((a0.2.2.2.2.2.1.length : Int) > 0)) (some false) (br (a0.2.1 == 4) (some (decide ((a0.2.2.2.2.2.2.1.size : Int) ≤ 24))) (br (a0.2.1 == 5) (some (decide ((a0.2.2.2.2.2.2.1.size : Int) ≤ 24))) (some (a0.2.2.2.2.2.2.1.toList == (⟨#[]⟩ : ByteArray).toList))))) (br (a0.2.1 == 4) (some (decide ((a0.2.2.2.2.2.2.1.size : Int) ≤ 24))) (br (a0.2.1 == 5) (some (decide ((a0.2.2.2.2.2.2.1.size : Int) ≤ 24))) (some (a0.2.2.2.2.2.2.1.toList == (⟨#[]⟩ : ByteArray).toList))))))))))) (br (a0.2.1 != 2) (br (a0.2.2.2.1 != 0) (some false) (br (a0.2.2.2.2.1 != 0) (some false) (br (a0.2.1 == 3) (bd (s_l09Levels k a0.2.2.2.2.2.1) fun r7 => (br (!r7) (some false) (br (a0.2.1 != 3) (br (decide ((a0.2.2.2.2.2.1.length : Int) > 0)) (some false) (br (a0.2.1 == 4) (some (decide ((a0.2.2.2.2.2.2.1.size : Int) ≤ 24))) (br (a0.2.1 == 5) (some (decide ((a0.2.2.2.2.2.2.1.size : Int) ≤ 24))) (some (a0.2.2.2.2.2.2.1.toList == (⟨#[]⟩ : ByteArray).toList))))) (br (a0.2.1 == 4) (some (decide ((a0.2.2.2.2.2.2.1.size : Int) ≤ 24))) (br (a0.2.1 == 5) (some (decide ((a0.2.2.2.2.2.2.1.size : Int) ≤ 24))) (some (a0.2.2.2.2.2.2.1.toList == (⟨#[]⟩ : ByteArray).toList))))))) (br (a0.2.1 != 3) (br (decide ((a0.2.2.2.2.2.1.length : Int) > 0)) (some false) (br (a0.2.1 == 4) (some (decide ((a0.2.2.2.2.2.2.1.size : Int) ≤ 24))) (br (a0.2.1 == 5) (some (decide ((a0.2.2.2.2.2.2.1.size : Int) ≤ 24))) (some (a0.2.2.2.2.2.2.1.toList == (⟨#[]⟩ : ByteArray).toList))))) (br (a0.2.1 == 4) (some (decide ((a0.2.2.2.2.2.2.1.size : Int) ≤ 24))) (br (a0.2.1 == 5) (some (decide ((a0.2.2.2.2.2.2.1.size : Int) ≤ 24))) (some (a0.2.2.2.2.2.2.1.toList == (⟨#[]⟩ : ByteArray).toList)))))))) (br (a0.2.1 == 3) (bd (s_l09Levels k a0.2.2.2.2.2.1) fun r8 => (br (!r8) (some false) (br (a0.2.1 != 3) (br (decide ((a0.2.2.2.2.2.1.length : Int) > 0)) (some false) (br (a0.2.1 == 4) (some (decide ((a0.2.2.2.2.2.2.1.size : Int) ≤ 24))) (br (a0.2.1 == 5) (some (decide ((a0.2.2.2.2.2.2.1.size : Int) ≤ 24))) (some (a0.2.2.2.2.2.2.1.toList == (⟨#[]⟩ : ByteArray).toList))))) (br (a0.2.1 == 4) (some (decide ((a0.2.2.2.2.2.2.1.size : Int) ≤ 24))) (br (a0.2.1 == 5) (some (decide ((a0.2.2.2.2.2.2.1.size : Int) ≤ 24))) (some (a0.2.2.2.2.2.2.1.toList == (⟨#[]⟩ : ByteArray).toList))))))) (br (a0.2.1 != 3) (br (decide ((a0.2.2.2.2.2.1.length : Int) > 0)) (some false) (br (a0.2.1 == 4) (some (decide ((a0.2.2.2.2.2.2.1.size : Int) ≤ 24))) (br (a0.2.1 == 5) (some (decide ((a0.2.2.2.2.2.2.1.size : Int) ≤ 24))) (some (a0.2.2.2.2.2.2.1.toList == (⟨#[]⟩ : ByteArray).toList))))) (br (a0.2.1 == 4) (some (decide ((a0.2.2.2.2.2.2.1.size : Int) ≤ 24))) (br (a0.2.1 == 5) (some (decide ((a0.2.2.2.2.2.2.1.size : Int) ≤ 24))) (some (a0.2.2.2.2.2.2.1.toList == (⟨#[]⟩ : ByteArray).toList))))))))))))
noncomputable section
def b0_s_EventOk (k : Nat) (L0 : Int → TEvent → Option Bool) (v1 : Int) (a0 : TEvent) : Option Bool := (br (decide (v1 < (a0.2.2.2.2.2.2.2.1.length : Int))) (gd (decide (0 ≤ v1)) (gd (decide (v1 < (a0.2.2.2.2.2.2.2.1.length : Int))) (bd (s_l01In k (rd 0 a0.2.2.2.2.2.2.2.1 v1.toNat) 1 1000000) fun r4 => (br (!r4) (some false) (gd (decide (0 ≤ v1)) (gd (decide (v1 < (a0.2.2.2.2.2.2.2.1.length : Int))) (br ((rd 0 a0.2.2.2.2.2.2.2.1 v1.toNat) == a0.1) (some false) (br (decide (v1 > 0)) (gd (decide (0 ≤ (w64 (v1 - 1)))) (gd (decide ((w64 (v1 - 1)) < (a0.2.2.2.2.2.2.2.1.length : Int))) (gd (decide (0 ≤ v1)) (gd (decide (v1 < (a0.2.2.2.2.2.2.2.1.length : Int))) (br (decide ((rd 0 a0.2.2.2.2.2.2.2.1 (w64 (v1 - 1)).toNat) ≥ (rd 0 a0.2.2.2.2.2.2.2.1 v1.toNat))) (some false) (L0 (w64 (v1 + 1)) a0)))))) (L0 (w64 (v1 + 1)) a0))))))))) (some true))
def l0_s_EventOk (k : Nat) : Nat → Int → TEvent → Option Bool
  | 0, _, _ => none
  | n + 1, v1, a0 => b0_s_EventOk k (l0_s_EventOk k n) v1 a0
def g_s_EventOk (k : Nat) (L0 : Int → TEvent → Option Bool) (a0 : TEvent) : Option Bool := (bd (s_l09Body k a0) fun r1 => (br (!r1) (some false) (bd (s_l01In k a0.1 1 1000000) fun r2 => (br (!r2) (some false) (bd (s_l01In k a0.2.2.2.2.2.2.2.2.1 0 1000000) fun r3 => (br (!r3) (some false) (br (decide ((a0.2.2.2.2.2.2.2.1.length : Int) > 3)) (some false) (br (!((a0.2.1 == 1) == ((a0.2.2.2.2.2.2.2.1.length : Int) == 0))) (some false) (L0 0 a0)))))))))
def s_EventOk (k : Nat) (a0 : TEvent) : Option Bool := g_s_EventOk k (l0_s_EventOk k k) a0
end
noncomputable section
def b0_s_l12Has (k : Nat) (L0 : Int → Int → TRoom → Option Int) (a1 : Int) (v1 : Int) (a0 : TRoom) : Option Int := (br (decide (v1 < (a0.1.length : Int))) (gd (decide (0 ≤ v1)) (gd (decide (v1 < (a0.1.length : Int))) (br ((rd dTEvent a0.1 v1.toNat).1 == a1) (some v1) (L0 a1 (w64 (v1 + 1)) a0)))) (some (-1)))
def l0_s_l12Has (k : Nat) : Nat → Int → Int → TRoom → Option Int
  | 0, _, _, _ => none
  | n + 1, a1, v1, a0 => b0_s_l12Has k (l0_s_l12Has k n) a1 v1 a0
def g_s_l12Has (k : Nat) (L0 : Int → Int → TRoom → Option Int) (a0 : TRoom) (a1 : Int) : Option Int := (L0 a1 0 a0)
def s_l12Has (k : Nat) (a0 : TRoom) (a1 : Int) : Option Int := g_s_l12Has k (l0_s_l12Has k k) a0 a1
end
noncomputable section
def b0_s_l10Find (k : Nat) (L0 : List TEvent → Int → Int → Option (TEvent × Bool)) (a0 : List TEvent) (a1 : Int) (v1 : Int) : Option (TEvent × Bool) := (br (decide (v1 < (a0.length : Int))) (gd (decide (0 ≤ v1)) (gd (decide (v1 < (a0.length : Int))) (br ((rd dTEvent a0 v1.toNat).1 == a1) (gd (decide (0 ≤ v1)) (gd (decide (v1 < (a0.length : Int))) (some ((rd dTEvent a0 v1.toNat), true)))) (L0 a0 a1 (w64 (v1 + 1)))))) (some ((0, 0, 0, 0, 0, [], ByteArray.empty, [], 0, ()), false)))
def l0_s_l10Find (k : Nat) : Nat → List TEvent → Int → Int → Option (TEvent × Bool)
  | 0, _, _, _ => none
  | n + 1, a0, a1, v1 => b0_s_l10Find k (l0_s_l10Find k n) a0 a1 v1
def g_s_l10Find (k : Nat) (L0 : List TEvent → Int → Int → Option (TEvent × Bool)) (a0 : List TEvent) (a1 : Int) : Option (TEvent × Bool) := (L0 a0 a1 0)
def s_l10Find (k : Nat) (a0 : List TEvent) (a1 : Int) : Option (TEvent × Bool) := g_s_l10Find k (l0_s_l10Find k k) a0 a1
end
noncomputable section
def b0_s_At (k : Nat) (L0 : List TItem → Int → Int → Option Int) (a0 : List TItem) (a1 : Int) (v1 : Int) : Option Int := (br (decide (v1 < (a0.length : Int))) (gd (decide (0 ≤ v1)) (gd (decide (v1 < (a0.length : Int))) (br ((rd dTItem a0 v1.toNat).1 == a1) (gd (decide (0 ≤ v1)) (gd (decide (v1 < (a0.length : Int))) (some (rd dTItem a0 v1.toNat).2.1))) (L0 a0 a1 (w64 (v1 + 1)))))) (some 0))
def l0_s_At (k : Nat) : Nat → List TItem → Int → Int → Option Int
  | 0, _, _, _ => none
  | n + 1, a0, a1, v1 => b0_s_At k (l0_s_At k n) a0 a1 v1
def g_s_At (k : Nat) (L0 : List TItem → Int → Int → Option Int) (a0 : List TItem) (a1 : Int) : Option Int := (L0 a0 a1 0)
def s_At (k : Nat) (a0 : List TItem) (a1 : Int) : Option Int := g_s_At k (l0_s_At k k) a0 a1
end
def s_MemberOf (k : Nat) (a0 : List TEvent) (a1 : List TItem) (a2 : Int) : Option Int := (bd (s_l01In k a2 1 5) fun r1 => (br (!r1) (some 0) (bd (s_At k a1 (w64 (10 + a2))) fun r2 => (bd (s_l10Find k a0 r2) fun r3 => (br (!r3.2) (some 0) (br (r3.1.2.1 != 2) (some 0) (br (r3.1.2.2.2.1 != a2) (some 0) (some r3.1.2.2.2.2.1))))))))
def s_LevelOf (k : Nat) (a0 : List TEvent) (a1 : List TItem) (a2 : Int) : Option Int := (bd (s_l01In k a2 1 5) fun r1 => (br (!r1) (some 0) (bd (s_At k a1 2) fun r2 => (bd (s_l10Find k a0 r2) fun r3 => (br r3.2 (br (r3.1.2.1 == 3) (br ((r3.1.2.2.2.2.2.1.length : Int) == 5) (gd (decide (0 ≤ (w64 (a2 - 1)))) (gd (decide ((w64 (a2 - 1)) < (r3.1.2.2.2.2.2.1.length : Int))) (some (rd 0 r3.1.2.2.2.2.2.1 (w64 (a2 - 1)).toNat)))) (bd (s_At k a1 1) fun r4 => (bd (s_l10Find k a0 r4) fun r5 => (br r5.2 (br (r5.1.2.1 == 1) (br (r5.1.2.2.1 == a2) (some 100) (some 0)) (some 0)) (some 0))))) (bd (s_At k a1 1) fun r6 => (bd (s_l10Find k a0 r6) fun r7 => (br r7.2 (br (r7.1.2.1 == 1) (br (r7.1.2.2.1 == a2) (some 100) (some 0)) (some 0)) (some 0))))) (bd (s_At k a1 1) fun r8 => (bd (s_l10Find k a0 r8) fun r9 => (br r9.2 (br (r9.1.2.1 == 1) (br (r9.1.2.2.1 == a2) (some 100) (some 0)) (some 0)) (some 0)))))))))
noncomputable section
def b0_s_l10Empty (k : Nat) (L0 : List TItem → Int → Option Bool) (a0 : List TItem) (v1 : Int) : Option Bool := (br (decide (v1 < (a0.length : Int))) (gd (decide (0 ≤ v1)) (gd (decide (v1 < (a0.length : Int))) (br (decide ((rd dTItem a0 v1.toNat).1 > 10)) (some false) (L0 a0 (w64 (v1 + 1)))))) (some true))
def l0_s_l10Empty (k : Nat) : Nat → List TItem → Int → Option Bool
  | 0, _, _ => none
  | n + 1, a0, v1 => b0_s_l10Empty k (l0_s_l10Empty k n) a0 v1
def g_s_l10Empty (k : Nat) (L0 : List TItem → Int → Option Bool) (a0 : List TItem) : Option Bool := (L0 a0 0)
def s_l10Empty (k : Nat) (a0 : List TItem) : Option Bool := g_s_l10Empty k (l0_s_l10Empty k k) a0
end
def s_l10Self (k : Nat) (a0 : List TEvent) (a1 : List TItem) (a2 : TEvent) : Option Bool := (bd (s_MemberOf k a0 a1 a2.2.2.2.1) fun r1 => (br (a2.2.2.2.2.1 == 2) (bd (s_At k a1 1) fun r2 => (bd (s_l10Find k a0 r2) fun r3 => (br r3.2 (br (r3.1.2.2.1 == a2.2.2.1) (bd (s_l10Empty k a1) fun r4 => (br (r1 == 1) (some true) (br (r1 == 2) (some true) (some r4)))) (br (r1 == 1) (some true) (br (r1 == 2) (some true) (some false)))) (br (r1 == 1) (some true) (br (r1 == 2) (some true) (some false)))))) (br (a2.2.2.2.2.1 == 0) (br (r1 == 1) (some true) (some (r1 == 2))) (some false))))
def s_l10Member (k : Nat) (a0 : List TEvent) (a1 : List TItem) (a2 : TEvent) : Option Bool := (br (a2.2.2.2.1 == a2.2.2.1) (bd (s_l10Self k a0 a1 a2) fun r1 => (some r1)) (bd (s_MemberOf k a0 a1 a2.2.2.2.1) fun r2 => (bd (s_LevelOf k a0 a1 a2.2.2.1) fun r3 => (br (decide (r3 ≥ 50)) (bd (s_LevelOf k a0 a1 a2.2.2.2.1) fun r4 => (bd (s_MemberOf k a0 a1 a2.2.2.1) fun r5 => (br (r5 != 2) (some false) (br (a2.2.2.2.2.1 == 1) (some (r2 == 0)) (br (a2.2.2.2.2.1 == 0) (br (r2 == 1) (some (decide (r3 > r4))) (br (r2 == 2) (some (decide (r3 > r4))) (some false))) (br (a2.2.2.2.2.1 == 3) (br (r2 != 3) (some (decide (r3 > r4))) (some false)) (some false))))))) (bd (s_MemberOf k a0 a1 a2.2.2.1) fun r6 => (br (r6 != 2) (some false) (br (a2.2.2.2.2.1 == 1) (some (r2 == 0)) (br (a2.2.2.2.2.1 == 0) (br (r2 == 1) (some false) (br (r2 == 2) (some false) (some false))) (br (a2.2.2.2.2.1 == 3) (br (r2 != 3) (some false) (some false)) (some false))))))))))
noncomputable section
def b0_s_l10Power (k : Nat) (L0 : List TEvent → List TItem → Int → Int → TEvent → Option Bool) (a0 : List TEvent) (a1 : List TItem) (r1 : Int) (v1 : Int) (a2 : TEvent) : Option Bool := (br (decide (v1 ≤ 5)) (bd (s_LevelOf k a0 a1 v1) fun r3 => (gd (decide (0 ≤ (w64 (v1 - 1)))) (gd (decide ((w64 (v1 - 1)) < (a2.2.2.2.2.2.1.length : Int))) (br ((rd 0 a2.2.2.2.2.2.1 (w64 (v1 - 1)).toNat) == r3) (L0 a0 a1 r1 (w64 (v1 + 1)) a2) (br (decide ((rd 0 a2.2.2.2.2.2.1 (w64 (v1 - 1)).toNat) > r1)) (some false) (br (decide (r3 ≥ r1)) (br (v1 != a2.2.2.1) (some false) (L0 a0 a1 r1 (w64 (v1 + 1)) a2)) (L0 a0 a1 r1 (w64 (v1 + 1)) a2))))))) (some true))
def l0_s_l10Power (k : Nat) : Nat → List TEvent → List TItem → Int → Int → TEvent → Option Bool
  | 0, _, _, _, _, _ => none
  | n + 1, a0, a1, r1, v1, a2 => b0_s_l10Power k (l0_s_l10Power k n) a0 a1 r1 v1 a2
def g_s_l10Power (k : Nat) (L0 : List TEvent → List TItem → Int → Int → TEvent → Option Bool) (a0 : List TEvent) (a1 : List TItem) (a2 : TEvent) : Option Bool := (bd (s_LevelOf k a0 a1 a2.2.2.1) fun r1 => (bd (s_MemberOf k a0 a1 a2.2.2.1) fun r2 => (br (r2 != 2) (some false) (br (decide (r1 < 50)) (some false) (L0 a0 a1 r1 1 a2)))))
def s_l10Power (k : Nat) (a0 : List TEvent) (a1 : List TItem) (a2 : TEvent) : Option Bool := g_s_l10Power k (l0_s_l10Power k k) a0 a1 a2
end
def s_Allowed (k : Nat) (a0 : List TEvent) (a1 : List TItem) (a2 : TEvent) : Option Bool := (bd (s_EventOk k a2) fun r1 => (br (!r1) (some false) (br (a2.2.1 == 1) (some ((a1.length : Int) == 0)) (bd (s_At k a1 1) fun r2 => (bd (s_l10Find k a0 r2) fun r3 => (br (!r3.2) (some false) (br (r3.1.2.1 != 1) (some false) (br (a2.2.1 == 2) (bd (s_l10Member k a0 a1 a2) fun r4 => (some r4)) (br (a2.2.1 == 3) (bd (s_l10Power k a0 a1 a2) fun r5 => (some r5)) (br (a2.2.1 == 4) (bd (s_MemberOf k a0 a1 a2.2.2.1) fun r6 => (br (r6 == 2) (bd (s_LevelOf k a0 a1 a2.2.2.1) fun r7 => (some (decide (r7 ≥ 50)))) (some false))) (bd (s_MemberOf k a0 a1 a2.2.2.1) fun r8 => (some (r8 == 2)))))))))))))
def s_KeyOf (k : Nat) (a0 : TEvent) : Option Int := (br (a0.2.1 == 1) (some 1) (br (a0.2.1 == 3) (some 2) (br (a0.2.1 == 4) (some 3) (br (a0.2.1 == 2) (bd (s_l01In k a0.2.2.2.1 1 5) fun r1 => (br r1 (some (w64 (10 + a0.2.2.2.1))) (some 0))) (some 0)))))
def s_l10Key (k : Nat) (a0 : Int) : Option Bool := (bd (s_l01In k a0 1 3) fun r1 => (br r1 (some true) (bd (s_l01In k a0 11 15) fun r2 => (some r2))))
noncomputable section
def b0_s_StateOk (k : Nat) (L0 : List TItem → Int → Option Bool) (a0 : List TItem) (v1 : Int) : Option Bool := (br (decide (v1 < (a0.length : Int))) (gd (decide (0 ≤ v1)) (gd (decide (v1 < (a0.length : Int))) (bd (s_l10Key k (rd dTItem a0 v1.toNat).1) fun r1 => (br (!r1) (some false) (gd (decide (0 ≤ v1)) (gd (decide (v1 < (a0.length : Int))) (bd (s_l01In k (rd dTItem a0 v1.toNat).2.1 1 1000000) fun r2 => (br (!r2) (some false) (br (decide (v1 > 0)) (gd (decide (0 ≤ (w64 (v1 - 1)))) (gd (decide ((w64 (v1 - 1)) < (a0.length : Int))) (gd (decide (0 ≤ v1)) (gd (decide (v1 < (a0.length : Int))) (br (decide ((rd dTItem a0 (w64 (v1 - 1)).toNat).1 ≥ (rd dTItem a0 v1.toNat).1)) (some false) (L0 a0 (w64 (v1 + 1)))))))) (L0 a0 (w64 (v1 + 1)))))))))))) (some true))
def l0_s_StateOk (k : Nat) : Nat → List TItem → Int → Option Bool
  | 0, _, _ => none
  | n + 1, a0, v1 => b0_s_StateOk k (l0_s_StateOk k n) a0 v1
def g_s_StateOk (k : Nat) (L0 : List TItem → Int → Option Bool) (a0 : List TItem) : Option Bool := (br (decide ((a0.length : Int) > 8)) (some false) (L0 a0 0))
def s_StateOk (k : Nat) (a0 : List TItem) : Option Bool := g_s_StateOk k (l0_s_StateOk k k) a0
end
noncomputable section
def b1_s_Put (k : Nat) (L1 : List TItem → Int → Int → List TItem → Option (List TItem)) (a0 : List TItem) (a1 : Int) (v3 : Int) (xs4 : List TItem) : Option (List TItem) := (br (decide (v3 < (a0.length : Int))) (gd (decide (0 ≤ v3)) (gd (decide (v3 < (a0.length : Int))) (br (decide ((rd dTItem a0 v3.toNat).1 > a1)) (gd (decide (0 ≤ v3)) (gd (decide (v3 < (a0.length : Int))) (gd (decide (xs4.length + ([(rd dTItem a0 v3.toNat)] : List TItem).length ≤ maxRow)) (L1 a0 a1 (w64 (v3 + 1)) (xs4 ++ ([(rd dTItem a0 v3.toNat)] : List TItem)))))) (L1 a0 a1 (w64 (v3 + 1)) xs4)))) (bd (s_StateOk k a0) fun r1 => (br (!r1) (gd (decide (([] : List TItem).length + a0.length ≤ maxRow)) (some (([] : List TItem) ++ a0))) (bd (s_StateOk k xs4) fun r2 => (br (!r2) (gd (decide (([] : List TItem).length + a0.length ≤ maxRow)) (some (([] : List TItem) ++ a0))) (some xs4))))))
def b0_s_Put (k : Nat) (L0 : List TItem → Int → Int → Int → List TItem → Option (List TItem)) (L1 : List TItem → Int → Int → List TItem → Option (List TItem)) (a0 : List TItem) (a1 : Int) (a2 : Int) (v1 : Int) (xs2 : List TItem) : Option (List TItem) := (br (decide (v1 < (a0.length : Int))) (gd (decide (0 ≤ v1)) (gd (decide (v1 < (a0.length : Int))) (br (decide ((rd dTItem a0 v1.toNat).1 < a1)) (gd (decide (0 ≤ v1)) (gd (decide (v1 < (a0.length : Int))) (gd (decide (xs2.length + ([(rd dTItem a0 v1.toNat)] : List TItem).length ≤ maxRow)) (L0 a0 a1 a2 (w64 (v1 + 1)) (xs2 ++ ([(rd dTItem a0 v1.toNat)] : List TItem)))))) (L0 a0 a1 a2 (w64 (v1 + 1)) xs2)))) (gd (decide (xs2.length + ([(a1, a2, ())] : List TItem).length ≤ maxRow)) (L1 a0 a1 0 (xs2 ++ ([(a1, a2, ())] : List TItem)))))
def l1_s_Put (k : Nat) : Nat → List TItem → Int → Int → List TItem → Option (List TItem)
  | 0, _, _, _, _ => none
  | n + 1, a0, a1, v3, xs4 => b1_s_Put k (l1_s_Put k n) a0 a1 v3 xs4
def l0_s_Put (k : Nat) : Nat → List TItem → Int → Int → Int → List TItem → Option (List TItem)
  | 0, _, _, _, _, _ => none
  | n + 1, a0, a1, a2, v1, xs2 => b0_s_Put k (l0_s_Put k n) (l1_s_Put k n) a0 a1 a2 v1 xs2
def g_s_Put (k : Nat) (L0 : List TItem → Int → Int → Int → List TItem → Option (List TItem)) (a0 : List TItem) (a1 : Int) (a2 : Int) : Option (List TItem) := (L0 a0 a1 a2 0 ([] : List TItem))
def s_Put (k : Nat) (a0 : List TItem) (a1 : Int) (a2 : Int) : Option (List TItem) := g_s_Put k (l0_s_Put k k) a0 a1 a2
end
noncomputable section
def b0_s_l11Keys (k : Nat) (L1 : List (List TItem) → Int → Bool → Int → List Int → Option (List Int)) (a0 : List (List TItem)) (v1 : Int) (xs2 : List Int) : Option (List Int) := (br (decide (v1 ≤ 15)) (L1 a0 v1 false 0 xs2) (some xs2))
def b1_s_l11Keys (k : Nat) (L2 : List (List TItem) → Int → Bool → Int → Int → List Int → Option (List Int)) (L0 : List (List TItem) → Int → List Int → Option (List Int)) (a0 : List (List TItem)) (v1 : Int) (v3 : Bool) (v4 : Int) (xs2 : List Int) : Option (List Int) := (br (decide (v4 < (a0.length : Int))) (L2 a0 v1 v3 v4 0 xs2) (br v3 (gd (decide (xs2.length + [v1].length ≤ maxRow)) (L0 a0 (w64 (v1 + 1)) (xs2 ++ [v1]))) (L0 a0 (w64 (v1 + 1)) xs2)))
def b2_s_l11Keys (k : Nat) (L2 : List (List TItem) → Int → Bool → Int → Int → List Int → Option (List Int)) (L1 : List (List TItem) → Int → Bool → Int → List Int → Option (List Int)) (a0 : List (List TItem)) (v1 : Int) (v5 : Bool) (v4 : Int) (v6 : Int) (xs2 : List Int) : Option (List Int) := (gd (decide (0 ≤ v4)) (gd (decide (v4 < (a0.length : Int))) (br (decide (v6 < (((rd [] a0 v4.toNat).length : Nat) : Int))) (br v5 (L2 a0 v1 true v4 (w64 (v6 + 1)) xs2) (gd (decide (0 ≤ v4)) (gd (decide (v4 < (a0.length : Int))) (gd (decide (0 ≤ v6)) (gd (decide (v6 < (((rd [] a0 v4.toNat).length : Nat) : Int))) (L2 a0 v1 ((rd dTItem (rd [] a0 v4.toNat) v6.toNat).1 == v1) v4 (w64 (v6 + 1)) xs2)))))) (L1 a0 v1 v5 (w64 (v4 + 1)) xs2))))
def q0_s_l11Keys (k : Nat) : Nat → (List (List TItem) → Int → List Int → Option (List Int)) × (List (List TItem) → Int → Bool → Int → List Int → Option (List Int)) × (List (List TItem) → Int → Bool → Int → Int → List Int → Option (List Int))
  | 0 => (fun _ _ _ => none, fun _ _ _ _ _ => none, fun _ _ _ _ _ _ => none)
  | n + 1 => (b0_s_l11Keys k (q0_s_l11Keys k n).2.1, b1_s_l11Keys k (q0_s_l11Keys k n).2.2 (q0_s_l11Keys k n).1, b2_s_l11Keys k (q0_s_l11Keys k n).2.2 (q0_s_l11Keys k n).2.1)
def l0_s_l11Keys (k : Nat) (n : Nat) : List (List TItem) → Int → List Int → Option (List Int) := (q0_s_l11Keys k n).1
def l1_s_l11Keys (k : Nat) (n : Nat) : List (List TItem) → Int → Bool → Int → List Int → Option (List Int) := (q0_s_l11Keys k n).2.1
def l2_s_l11Keys (k : Nat) (n : Nat) : List (List TItem) → Int → Bool → Int → Int → List Int → Option (List Int) := (q0_s_l11Keys k n).2.2
theorem z0_s_l11Keys (k : Nat) (n : Nat) (a0 : List (List TItem)) (v1 : Int) (xs2 : List Int) : l0_s_l11Keys k (n + 1) a0 v1 xs2 = b0_s_l11Keys k (l1_s_l11Keys k n) a0 v1 xs2 := rfl
theorem z1_s_l11Keys (k : Nat) (n : Nat) (a0 : List (List TItem)) (v1 : Int) (v3 : Bool) (v4 : Int) (xs2 : List Int) : l1_s_l11Keys k (n + 1) a0 v1 v3 v4 xs2 = b1_s_l11Keys k (l2_s_l11Keys k n) (l0_s_l11Keys k n) a0 v1 v3 v4 xs2 := rfl
theorem z2_s_l11Keys (k : Nat) (n : Nat) (a0 : List (List TItem)) (v1 : Int) (v5 : Bool) (v4 : Int) (v6 : Int) (xs2 : List Int) : l2_s_l11Keys k (n + 1) a0 v1 v5 v4 v6 xs2 = b2_s_l11Keys k (l2_s_l11Keys k n) (l1_s_l11Keys k n) a0 v1 v5 v4 v6 xs2 := rfl
def g_s_l11Keys (k : Nat) (L0 : List (List TItem) → Int → List Int → Option (List Int)) (a0 : List (List TItem)) : Option (List Int) := (L0 a0 0 [])
def s_l11Keys (k : Nat) (a0 : List (List TItem)) : Option (List Int) := g_s_l11Keys k (l0_s_l11Keys k k) a0
end
noncomputable section
def b0_s_l11Alike (k : Nat) (L0 : List (List TItem) → Int → Int → Option Bool) (a0 : List (List TItem)) (a1 : Int) (v1 : Int) : Option Bool := (br (decide (v1 < (a0.length : Int))) (gd (decide (0 ≤ v1)) (gd (decide (v1 < (a0.length : Int))) (bd (s_At k (rd [] a0 v1.toNat) a1) fun r1 => (gd (decide (0 < (a0.length : Int))) (bd (s_At k (rd [] a0 0) a1) fun r2 => (br (r1 != r2) (some false) (L0 a0 a1 (w64 (v1 + 1))))))))) (some true))
def l0_s_l11Alike (k : Nat) : Nat → List (List TItem) → Int → Int → Option Bool
  | 0, _, _, _ => none
  | n + 1, a0, a1, v1 => b0_s_l11Alike k (l0_s_l11Alike k n) a0 a1 v1
def g_s_l11Alike (k : Nat) (L0 : List (List TItem) → Int → Int → Option Bool) (a0 : List (List TItem)) (a1 : Int) : Option Bool := (L0 a0 a1 1)
def s_l11Alike (k : Nat) (a0 : List (List TItem)) (a1 : Int) : Option Bool := g_s_l11Alike k (l0_s_l11Alike k k) a0 a1
end
noncomputable section
def b0_s_Agreed (k : Nat) (L0 : List (List TItem) → Int → List TItem → List Int → Option (List TItem)) (a0 : List (List TItem)) (v1 : Int) (xs2 : List TItem) (r1 : List Int) : Option (List TItem) := (br (decide (v1 < (r1.length : Int))) (gd (decide (0 ≤ v1)) (gd (decide (v1 < (r1.length : Int))) (bd (s_l11Alike k a0 (rd 0 r1 v1.toNat)) fun r2 => (br r2 (gd (decide (0 ≤ v1)) (gd (decide (v1 < (r1.length : Int))) (gd (decide (0 < (a0.length : Int))) (gd (decide (0 ≤ v1)) (gd (decide (v1 < (r1.length : Int))) (bd (s_At k (rd [] a0 0) (rd 0 r1 v1.toNat)) fun r3 => (gd (decide (xs2.length + ([((rd 0 r1 v1.toNat), r3, ())] : List TItem).length ≤ maxRow)) (L0 a0 (w64 (v1 + 1)) (xs2 ++ ([((rd 0 r1 v1.toNat), r3, ())] : List TItem)) r1)))))))) (L0 a0 (w64 (v1 + 1)) xs2 r1))))) (some xs2))
def l0_s_Agreed (k : Nat) : Nat → List (List TItem) → Int → List TItem → List Int → Option (List TItem)
  | 0, _, _, _, _ => none
  | n + 1, a0, v1, xs2, r1 => b0_s_Agreed k (l0_s_Agreed k n) a0 v1 xs2 r1
def g_s_Agreed (k : Nat) (L0 : List (List TItem) → Int → List TItem → List Int → Option (List TItem)) (a0 : List (List TItem)) : Option (List TItem) := (bd (s_l11Keys k a0) fun r1 => (L0 a0 0 ([] : List TItem) r1))
def s_Agreed (k : Nat) (a0 : List (List TItem)) : Option (List TItem) := g_s_Agreed k (l0_s_Agreed k k) a0
end
noncomputable section
def b0_s_Clash (k : Nat) (L0 : List (List TItem) → Int → List Int → List Int → Option (List Int)) (a0 : List (List TItem)) (v1 : Int) (xs2 : List Int) (r1 : List Int) : Option (List Int) := (br (decide (v1 < (r1.length : Int))) (gd (decide (0 ≤ v1)) (gd (decide (v1 < (r1.length : Int))) (bd (s_l11Alike k a0 (rd 0 r1 v1.toNat)) fun r2 => (br (!r2) (gd (decide (0 ≤ v1)) (gd (decide (v1 < (r1.length : Int))) (gd (decide (xs2.length + [(rd 0 r1 v1.toNat)].length ≤ maxRow)) (L0 a0 (w64 (v1 + 1)) (xs2 ++ [(rd 0 r1 v1.toNat)]) r1)))) (L0 a0 (w64 (v1 + 1)) xs2 r1))))) (some xs2))
def l0_s_Clash (k : Nat) : Nat → List (List TItem) → Int → List Int → List Int → Option (List Int)
  | 0, _, _, _, _ => none
  | n + 1, a0, v1, xs2, r1 => b0_s_Clash k (l0_s_Clash k n) a0 v1 xs2 r1
def g_s_Clash (k : Nat) (L0 : List (List TItem) → Int → List Int → List Int → Option (List Int)) (a0 : List (List TItem)) : Option (List Int) := (bd (s_l11Keys k a0) fun r1 => (L0 a0 0 [] r1))
def s_Clash (k : Nat) (a0 : List (List TItem)) : Option (List Int) := g_s_Clash k (l0_s_Clash k k) a0
end
noncomputable section
def b0_s_l11Add (k : Nat) (L0 : List Int → Int → Bool → Int → List Int → Option (List Int)) (a0 : List Int) (a1 : Int) (v1 : Bool) (v2 : Int) (xs3 : List Int) : Option (List Int) := (br (decide (v2 < (a0.length : Int))) (gd (decide (0 ≤ v2)) (gd (decide (v2 < (a0.length : Int))) (br (decide ((rd 0 a0 v2.toNat) ≥ a1)) (br (!v1) (gd (decide (xs3.length + [a1].length ≤ maxRow)) (gd (decide (0 ≤ v2)) (gd (decide (v2 < (a0.length : Int))) (br ((rd 0 a0 v2.toNat) != a1) (gd (decide (0 ≤ v2)) (gd (decide (v2 < (a0.length : Int))) (gd (decide ((xs3 ++ [a1]).length + [(rd 0 a0 v2.toNat)].length ≤ maxRow)) (L0 a0 a1 true (w64 (v2 + 1)) ((xs3 ++ [a1]) ++ [(rd 0 a0 v2.toNat)]))))) (L0 a0 a1 true (w64 (v2 + 1)) (xs3 ++ [a1])))))) (gd (decide (0 ≤ v2)) (gd (decide (v2 < (a0.length : Int))) (br ((rd 0 a0 v2.toNat) != a1) (gd (decide (0 ≤ v2)) (gd (decide (v2 < (a0.length : Int))) (gd (decide (xs3.length + [(rd 0 a0 v2.toNat)].length ≤ maxRow)) (L0 a0 a1 v1 (w64 (v2 + 1)) (xs3 ++ [(rd 0 a0 v2.toNat)]))))) (L0 a0 a1 v1 (w64 (v2 + 1)) xs3))))) (gd (decide (0 ≤ v2)) (gd (decide (v2 < (a0.length : Int))) (br ((rd 0 a0 v2.toNat) != a1) (gd (decide (0 ≤ v2)) (gd (decide (v2 < (a0.length : Int))) (gd (decide (xs3.length + [(rd 0 a0 v2.toNat)].length ≤ maxRow)) (L0 a0 a1 v1 (w64 (v2 + 1)) (xs3 ++ [(rd 0 a0 v2.toNat)]))))) (L0 a0 a1 v1 (w64 (v2 + 1)) xs3))))))) (br (!v1) (gd (decide (xs3.length + [a1].length ≤ maxRow)) (some (xs3 ++ [a1]))) (some xs3)))
def l0_s_l11Add (k : Nat) : Nat → List Int → Int → Bool → Int → List Int → Option (List Int)
  | 0, _, _, _, _, _ => none
  | n + 1, a0, a1, v1, v2, xs3 => b0_s_l11Add k (l0_s_l11Add k n) a0 a1 v1 v2 xs3
def g_s_l11Add (k : Nat) (L0 : List Int → Int → Bool → Int → List Int → Option (List Int)) (a0 : List Int) (a1 : Int) : Option (List Int) := (L0 a0 a1 false 0 [])
def s_l11Add (k : Nat) (a0 : List Int) (a1 : Int) : Option (List Int) := g_s_l11Add k (l0_s_l11Add k k) a0 a1
end
noncomputable section
def b0_s_l05In (k : Nat) (L0 : List Int → Int → Int → Option Bool) (a0 : List Int) (a1 : Int) (v1 : Int) : Option Bool := (br (decide (v1 < (a0.length : Int))) (gd (decide (0 ≤ v1)) (gd (decide (v1 < (a0.length : Int))) (br ((rd 0 a0 v1.toNat) == a1) (some true) (L0 a0 a1 (w64 (v1 + 1)))))) (some false))
def l0_s_l05In (k : Nat) : Nat → List Int → Int → Int → Option Bool
  | 0, _, _, _ => none
  | n + 1, a0, a1, v1 => b0_s_l05In k (l0_s_l05In k n) a0 a1 v1
def g_s_l05In (k : Nat) (L0 : List Int → Int → Int → Option Bool) (a0 : List Int) (a1 : Int) : Option Bool := (L0 a0 a1 0)
def s_l05In (k : Nat) (a0 : List Int) (a1 : Int) : Option Bool := g_s_l05In k (l0_s_l05In k k) a0 a1
end
noncomputable section
def b0_s_l11Behind (k : Nat) (L1 : List TEvent → Nat → Int → List Int → List Int → (TEvent × Bool) → Option (List Int)) (a0 : List TEvent) (u1 : Nat) (xs2 : List Int) (xs3 : List Int) : Option (List Int) := (br (decide ((((xs3.length - u1) : Nat) : Int) > 0)) (gd (decide (0 < (((xs3.length - u1) : Nat) : Int))) (bd (s_l10Find k a0 (rd 0 xs3 (u1 + 0))) fun r1 => (gd (decide (1 ≤ (((xs3.length - u1) : Nat) : Int))) (L1 a0 (u1 + 1) 0 xs2 xs3 r1)))) (some xs2))
def b1_s_l11Behind (k : Nat) (L1 : List TEvent → Nat → Int → List Int → List Int → (TEvent × Bool) → Option (List Int)) (L0 : List TEvent → Nat → List Int → List Int → Option (List Int)) (a0 : List TEvent) (u4 : Nat) (v5 : Int) (xs6 : List Int) (xs7 : List Int) (r1 : TEvent × Bool) : Option (List Int) := (br (decide (v5 < (r1.1.2.2.2.2.2.2.2.1.length : Int))) (gd (decide (0 ≤ v5)) (gd (decide (v5 < (r1.1.2.2.2.2.2.2.2.1.length : Int))) (bd (s_l10Find k a0 (rd 0 r1.1.2.2.2.2.2.2.2.1 v5.toNat)) fun r2 => (br r2.2 (gd (decide (0 ≤ v5)) (gd (decide (v5 < (r1.1.2.2.2.2.2.2.2.1.length : Int))) (bd (s_l05In k xs6 (rd 0 r1.1.2.2.2.2.2.2.2.1 v5.toNat)) fun r3 => (br (!r3) (gd (decide (0 ≤ v5)) (gd (decide (v5 < (r1.1.2.2.2.2.2.2.2.1.length : Int))) (gd (decide (xs6.length + [(rd 0 r1.1.2.2.2.2.2.2.2.1 v5.toNat)].length ≤ maxRow)) (gd (decide (0 ≤ v5)) (gd (decide (v5 < (r1.1.2.2.2.2.2.2.2.1.length : Int))) (gd (decide ((xs7.drop u4).length + [(rd 0 r1.1.2.2.2.2.2.2.2.1 v5.toNat)].length ≤ maxRow)) (L1 a0 0 (w64 (v5 + 1)) (xs6 ++ [(rd 0 r1.1.2.2.2.2.2.2.2.1 v5.toNat)]) ((xs7.drop u4) ++ [(rd 0 r1.1.2.2.2.2.2.2.2.1 v5.toNat)]) r1))))))) (L1 a0 u4 (w64 (v5 + 1)) xs6 xs7 r1))))) (L1 a0 u4 (w64 (v5 + 1)) xs6 xs7 r1))))) (L0 a0 u4 xs6 xs7))
def q0_s_l11Behind (k : Nat) : Nat → (List TEvent → Nat → List Int → List Int → Option (List Int)) × (List TEvent → Nat → Int → List Int → List Int → (TEvent × Bool) → Option (List Int))
  | 0 => (fun _ _ _ _ => none, fun _ _ _ _ _ _ => none)
  | n + 1 => (b0_s_l11Behind k (q0_s_l11Behind k n).2, b1_s_l11Behind k (q0_s_l11Behind k n).2 (q0_s_l11Behind k n).1)
def l0_s_l11Behind (k : Nat) (n : Nat) : List TEvent → Nat → List Int → List Int → Option (List Int) := (q0_s_l11Behind k n).1
def l1_s_l11Behind (k : Nat) (n : Nat) : List TEvent → Nat → Int → List Int → List Int → (TEvent × Bool) → Option (List Int) := (q0_s_l11Behind k n).2
theorem z0_s_l11Behind (k : Nat) (n : Nat) (a0 : List TEvent) (u1 : Nat) (xs2 : List Int) (xs3 : List Int) : l0_s_l11Behind k (n + 1) a0 u1 xs2 xs3 = b0_s_l11Behind k (l1_s_l11Behind k n) a0 u1 xs2 xs3 := rfl
theorem z1_s_l11Behind (k : Nat) (n : Nat) (a0 : List TEvent) (u4 : Nat) (v5 : Int) (xs6 : List Int) (xs7 : List Int) (r1 : TEvent × Bool) : l1_s_l11Behind k (n + 1) a0 u4 v5 xs6 xs7 r1 = b1_s_l11Behind k (l1_s_l11Behind k n) (l0_s_l11Behind k n) a0 u4 v5 xs6 xs7 r1 := rfl
def g_s_l11Behind (k : Nat) (L0 : List TEvent → Nat → List Int → List Int → Option (List Int)) (a0 : List TEvent) (a1 : Int) : Option (List Int) := (L0 a0 0 [] [a1])
def s_l11Behind (k : Nat) (a0 : List TEvent) (a1 : Int) : Option (List Int) := g_s_l11Behind k (l0_s_l11Behind k k) a0 a1
end
noncomputable section
def b0_s_l11Ready (k : Nat) (L0 : List Int → List Int → List Int → Int → Option Bool) (a0 : List Int) (a1 : List Int) (a2 : List Int) (v1 : Int) : Option Bool := (br (decide (v1 < (a0.length : Int))) (gd (decide (0 ≤ v1)) (gd (decide (v1 < (a0.length : Int))) (bd (s_l05In k a1 (rd 0 a0 v1.toNat)) fun r1 => (br r1 (gd (decide (0 ≤ v1)) (gd (decide (v1 < (a0.length : Int))) (bd (s_l05In k a2 (rd 0 a0 v1.toNat)) fun r2 => (br (!r2) (some false) (L0 a0 a1 a2 (w64 (v1 + 1))))))) (L0 a0 a1 a2 (w64 (v1 + 1))))))) (some true))
def l0_s_l11Ready (k : Nat) : Nat → List Int → List Int → List Int → Int → Option Bool
  | 0, _, _, _, _ => none
  | n + 1, a0, a1, a2, v1 => b0_s_l11Ready k (l0_s_l11Ready k n) a0 a1 a2 v1
def g_s_l11Ready (k : Nat) (L0 : List Int → List Int → List Int → Int → Option Bool) (a0 : List Int) (a1 : List Int) (a2 : List Int) : Option Bool := (L0 a0 a1 a2 0)
def s_l11Ready (k : Nat) (a0 : List Int) (a1 : List Int) (a2 : List Int) : Option Bool := g_s_l11Ready k (l0_s_l11Ready k k) a0 a1 a2
end
def s_l11Heavy (k : Nat) (a0 : TEvent) : Option Bool := (br (a0.2.1 == 3) (some true) (br (a0.2.1 == 2) (br (a0.2.2.2.2.1 == 0) (some (a0.2.2.1 != a0.2.2.2.1)) (br (a0.2.2.2.2.1 == 3) (some (a0.2.2.1 != a0.2.2.2.1)) (some false))) (some false)))
def s_Heavier (k : Nat) (a0 : List TEvent) (a1 : List TItem) (a2 : TEvent) (a3 : TEvent) : Option Bool := (bd (s_l11Heavy k a2) fun r1 => (bd (s_l11Heavy k a3) fun r2 => (br (!(r1 == r2)) (bd (s_l11Heavy k a2) fun r3 => (some r3)) (bd (s_LevelOf k a0 a1 a2.2.2.1) fun r4 => (bd (s_LevelOf k a0 a1 a3.2.2.1) fun r5 => (br (r4 != r5) (some (decide (r4 > r5))) (br (a2.2.2.2.2.2.2.2.2.1 != a3.2.2.2.2.2.2.2.2.1) (some (decide (a2.2.2.2.2.2.2.2.2.1 < a3.2.2.2.2.2.2.2.2.1))) (some (decide (a2.1 < a3.1))))))))))
noncomputable section
def b2_s_Order (k : Nat) (L3 : List TEvent → List TItem → Int → List Int → List (List Int) → List Int → Option (List Int)) (a0 : List TEvent) (a1 : List TItem) (xs2 : List Int) (xs4 : List (List Int)) (xs5 : List Int) : Option (List Int) := (br (decide ((xs5.length : Int) < (xs2.length : Int))) (L3 a0 a1 0 xs2 xs4 xs5) (some xs5))
def b3_s_Order (k : Nat) (L3 : List TEvent → List TItem → Int → List Int → List (List Int) → List Int → Option (List Int)) (L4 : List TEvent → List TItem → Int → List Int → List (List Int) → List Int → Int → Int → Int → Int → Int → List Int → ByteArray → List Int → Int → Option (List Int)) (a0 : List TEvent) (a1 : List TItem) (v6 : Int) (xs2 : List Int) (xs4 : List (List Int)) (xs5 : List Int) : Option (List Int) := (br (decide (v6 < (xs2.length : Int))) (gd (decide (0 ≤ v6)) (gd (decide (v6 < (xs2.length : Int))) (bd (s_l05In k xs5 (rd 0 xs2 v6.toNat)) fun r4 => (br r4 (L3 a0 a1 (w64 (v6 + 1)) xs2 xs4 xs5) (gd (decide (0 ≤ v6)) (gd (decide (v6 < (xs4.length : Int))) (bd (s_l11Ready k (rd [] xs4 v6.toNat) xs2 xs5) fun r5 => (br (!r5) (L3 a0 a1 (w64 (v6 + 1)) xs2 xs4 xs5) (gd (decide (0 ≤ v6)) (gd (decide (v6 < (xs2.length : Int))) (bd (s_l10Find k a0 (rd 0 xs2 v6.toNat)) fun r6 => (L4 a0 a1 (w64 (v6 + 1)) xs2 xs4 xs5 r6.1.1 r6.1.2.1 r6.1.2.2.1 r6.1.2.2.2.1 r6.1.2.2.2.2.1 r6.1.2.2.2.2.2.1 r6.1.2.2.2.2.2.2.1 r6.1.2.2.2.2.2.2.2.1 r6.1.2.2.2.2.2.2.2.2.1)))))))))))) (some xs5))
def b4_s_Order (k : Nat) (L4 : List TEvent → List TItem → Int → List Int → List (List Int) → List Int → Int → Int → Int → Int → Int → List Int → ByteArray → List Int → Int → Option (List Int)) (L2 : List TEvent → List TItem → List Int → List (List Int) → List Int → Option (List Int)) (a0 : List TEvent) (a1 : List TItem) (v7 : Int) (xs2 : List Int) (xs4 : List (List Int)) (xs5 : List Int) (v8 : Int) (v9 : Int) (v10 : Int) (v11 : Int) (v12 : Int) (v13 : List Int) (v14 : ByteArray) (v15 : List Int) (v16 : Int) : Option (List Int) := (br (decide (v7 < (xs2.length : Int))) (gd (decide (0 ≤ v7)) (gd (decide (v7 < (xs2.length : Int))) (bd (s_l05In k xs5 (rd 0 xs2 v7.toNat)) fun r7 => (br r7 (L4 a0 a1 (w64 (v7 + 1)) xs2 xs4 xs5 v8 v9 v10 v11 v12 v13 v14 v15 v16) (gd (decide (0 ≤ v7)) (gd (decide (v7 < (xs4.length : Int))) (bd (s_l11Ready k (rd [] xs4 v7.toNat) xs2 xs5) fun r8 => (br (!r8) (L4 a0 a1 (w64 (v7 + 1)) xs2 xs4 xs5 v8 v9 v10 v11 v12 v13 v14 v15 v16) (gd (decide (0 ≤ v7)) (gd (decide (v7 < (xs2.length : Int))) (bd (s_l10Find k a0 (rd 0 xs2 v7.toNat)) fun r9 => (bd (s_Heavier k a0 a1 r9.1 (v8, v9, v10, v11, v12, v13, v14, v15, v16, ())) fun r10 => (br r10 (L4 a0 a1 (w64 (v7 + 1)) xs2 xs4 xs5 r9.1.1 r9.1.2.1 r9.1.2.2.1 r9.1.2.2.2.1 r9.1.2.2.2.2.1 r9.1.2.2.2.2.2.1 r9.1.2.2.2.2.2.2.1 r9.1.2.2.2.2.2.2.2.1 r9.1.2.2.2.2.2.2.2.2.1) (L4 a0 a1 (w64 (v7 + 1)) xs2 xs4 xs5 v8 v9 v10 v11 v12 v13 v14 v15 v16)))))))))))))) (gd (decide (xs5.length + [v8].length ≤ maxRow)) (L2 a0 a1 xs2 xs4 (xs5 ++ [v8]))))
def b1_s_Order (k : Nat) (L1 : List TEvent → List TItem → Int → List Int → List (List Int) → Option (List Int)) (L2 : List TEvent → List TItem → List Int → List (List Int) → List Int → Option (List Int)) (a0 : List TEvent) (a1 : List TItem) (v3 : Int) (xs2 : List Int) (xs4 : List (List Int)) : Option (List Int) := (br (decide (v3 < (xs2.length : Int))) (gd (decide (0 ≤ v3)) (gd (decide (v3 < (xs2.length : Int))) (bd (s_l11Behind k a0 (rd 0 xs2 v3.toNat)) fun r3 => (gd (decide (xs4.length + [r3].length ≤ maxRow)) (L1 a0 a1 (w64 (v3 + 1)) xs2 (xs4 ++ [r3])))))) (L2 a0 a1 xs2 xs4 []))
def b0_s_Order (k : Nat) (L0 : List TEvent → List TItem → List Int → Int → List Int → Option (List Int)) (L1 : List TEvent → List TItem → Int → List Int → List (List Int) → Option (List Int)) (a0 : List TEvent) (a1 : List TItem) (a2 : List Int) (v1 : Int) (xs2 : List Int) : Option (List Int) := (br (decide (v1 < (a2.length : Int))) (gd (decide (0 ≤ v1)) (gd (decide (v1 < (a2.length : Int))) (bd (s_l10Find k a0 (rd 0 a2 v1.toNat)) fun r1 => (br r1.2 (gd (decide (0 ≤ v1)) (gd (decide (v1 < (a2.length : Int))) (bd (s_l11Add k xs2 (rd 0 a2 v1.toNat)) fun r2 => (L0 a0 a1 a2 (w64 (v1 + 1)) r2)))) (L0 a0 a1 a2 (w64 (v1 + 1)) xs2))))) (L1 a0 a1 0 xs2 []))
def q2_s_Order (k : Nat) : Nat → (List TEvent → List TItem → List Int → List (List Int) → List Int → Option (List Int)) × (List TEvent → List TItem → Int → List Int → List (List Int) → List Int → Option (List Int)) × (List TEvent → List TItem → Int → List Int → List (List Int) → List Int → Int → Int → Int → Int → Int → List Int → ByteArray → List Int → Int → Option (List Int))
  | 0 => (fun _ _ _ _ _ => none, fun _ _ _ _ _ _ => none, fun _ _ _ _ _ _ _ _ _ _ _ _ _ _ _ => none)
  | n + 1 => (b2_s_Order k (q2_s_Order k n).2.1, b3_s_Order k (q2_s_Order k n).2.1 (q2_s_Order k n).2.2, b4_s_Order k (q2_s_Order k n).2.2 (q2_s_Order k n).1)
def l2_s_Order (k : Nat) (n : Nat) : List TEvent → List TItem → List Int → List (List Int) → List Int → Option (List Int) := (q2_s_Order k n).1
def l3_s_Order (k : Nat) (n : Nat) : List TEvent → List TItem → Int → List Int → List (List Int) → List Int → Option (List Int) := (q2_s_Order k n).2.1
def l4_s_Order (k : Nat) (n : Nat) : List TEvent → List TItem → Int → List Int → List (List Int) → List Int → Int → Int → Int → Int → Int → List Int → ByteArray → List Int → Int → Option (List Int) := (q2_s_Order k n).2.2
theorem z2_s_Order (k : Nat) (n : Nat) (a0 : List TEvent) (a1 : List TItem) (xs2 : List Int) (xs4 : List (List Int)) (xs5 : List Int) : l2_s_Order k (n + 1) a0 a1 xs2 xs4 xs5 = b2_s_Order k (l3_s_Order k n) a0 a1 xs2 xs4 xs5 := rfl
theorem z3_s_Order (k : Nat) (n : Nat) (a0 : List TEvent) (a1 : List TItem) (v6 : Int) (xs2 : List Int) (xs4 : List (List Int)) (xs5 : List Int) : l3_s_Order k (n + 1) a0 a1 v6 xs2 xs4 xs5 = b3_s_Order k (l3_s_Order k n) (l4_s_Order k n) a0 a1 v6 xs2 xs4 xs5 := rfl
theorem z4_s_Order (k : Nat) (n : Nat) (a0 : List TEvent) (a1 : List TItem) (v7 : Int) (xs2 : List Int) (xs4 : List (List Int)) (xs5 : List Int) (v8 : Int) (v9 : Int) (v10 : Int) (v11 : Int) (v12 : Int) (v13 : List Int) (v14 : ByteArray) (v15 : List Int) (v16 : Int) : l4_s_Order k (n + 1) a0 a1 v7 xs2 xs4 xs5 v8 v9 v10 v11 v12 v13 v14 v15 v16 = b4_s_Order k (l4_s_Order k n) (l2_s_Order k n) a0 a1 v7 xs2 xs4 xs5 v8 v9 v10 v11 v12 v13 v14 v15 v16 := rfl
def l1_s_Order (k : Nat) : Nat → List TEvent → List TItem → Int → List Int → List (List Int) → Option (List Int)
  | 0, _, _, _, _, _ => none
  | n + 1, a0, a1, v3, xs2, xs4 => b1_s_Order k (l1_s_Order k n) (l2_s_Order k n) a0 a1 v3 xs2 xs4
def l0_s_Order (k : Nat) : Nat → List TEvent → List TItem → List Int → Int → List Int → Option (List Int)
  | 0, _, _, _, _, _ => none
  | n + 1, a0, a1, a2, v1, xs2 => b0_s_Order k (l0_s_Order k n) (l1_s_Order k n) a0 a1 a2 v1 xs2
def g_s_Order (k : Nat) (L0 : List TEvent → List TItem → List Int → Int → List Int → Option (List Int)) (a0 : List TEvent) (a1 : List TItem) (a2 : List Int) : Option (List Int) := (L0 a0 a1 a2 0 [])
def s_Order (k : Nat) (a0 : List TEvent) (a1 : List TItem) (a2 : List Int) : Option (List Int) := g_s_Order k (l0_s_Order k k) a0 a1 a2
end
noncomputable section
def b2_s_Resolve (k : Nat) (L2 : List TEvent → Int → List TItem → List Int → Option (List TItem)) (a0 : List TEvent) (v5 : Int) (r1 : List TItem) (r5 : List Int) : Option (List TItem) := (br (decide (v5 < (r5.length : Int))) (gd (decide (0 ≤ v5)) (gd (decide (v5 < (r5.length : Int))) (bd (s_l10Find k a0 (rd 0 r5 v5.toNat)) fun r6 => (bd (s_Allowed k a0 r1 r6.1) fun r7 => (br r7 (bd (s_KeyOf k r6.1) fun r8 => (br (r8 != 0) (bd (s_KeyOf k r6.1) fun r9 => (bd (s_Put k r1 r9 r6.1.1) fun r10 => (L2 a0 (w64 (v5 + 1)) r10 r5))) (L2 a0 (w64 (v5 + 1)) r1 r5))) (L2 a0 (w64 (v5 + 1)) r1 r5)))))) (some r1))
def b0_s_Resolve (k : Nat) (L1 : List TEvent → List (List TItem) → Int → Int → List TItem → List Int → List Int → Option (List TItem)) (L2 : List TEvent → Int → List TItem → List Int → Option (List TItem)) (a0 : List TEvent) (a1 : List (List TItem)) (v1 : Int) (r1 : List TItem) (r2 : List Int) (xs2 : List Int) : Option (List TItem) := (br (decide (v1 < (a1.length : Int))) (L1 a0 a1 v1 0 r1 r2 xs2) (bd (s_Agreed k a1) fun r4 => (bd (s_Order k a0 r4 xs2) fun r5 => (L2 a0 0 r1 r5))))
def b1_s_Resolve (k : Nat) (L1 : List TEvent → List (List TItem) → Int → Int → List TItem → List Int → List Int → Option (List TItem)) (L0 : List TEvent → List (List TItem) → Int → List TItem → List Int → List Int → Option (List TItem)) (a0 : List TEvent) (a1 : List (List TItem)) (v1 : Int) (v3 : Int) (r1 : List TItem) (r2 : List Int) (xs4 : List Int) : Option (List TItem) := (br (decide (v3 < (r2.length : Int))) (gd (decide (0 ≤ v1)) (gd (decide (v1 < (a1.length : Int))) (gd (decide (0 ≤ v3)) (gd (decide (v3 < (r2.length : Int))) (bd (s_At k (rd [] a1 v1.toNat) (rd 0 r2 v3.toNat)) fun r3 => (br (r3 != 0) (gd (decide (xs4.length + [r3].length ≤ maxRow)) (L1 a0 a1 v1 (w64 (v3 + 1)) r1 r2 (xs4 ++ [r3]))) (L1 a0 a1 v1 (w64 (v3 + 1)) r1 r2 xs4))))))) (L0 a0 a1 (w64 (v1 + 1)) r1 r2 xs4))
def l2_s_Resolve (k : Nat) : Nat → List TEvent → Int → List TItem → List Int → Option (List TItem)
  | 0, _, _, _, _ => none
  | n + 1, a0, v5, r1, r5 => b2_s_Resolve k (l2_s_Resolve k n) a0 v5 r1 r5
def q0_s_Resolve (k : Nat) : Nat → (List TEvent → List (List TItem) → Int → List TItem → List Int → List Int → Option (List TItem)) × (List TEvent → List (List TItem) → Int → Int → List TItem → List Int → List Int → Option (List TItem))
  | 0 => (fun _ _ _ _ _ _ => none, fun _ _ _ _ _ _ _ => none)
  | n + 1 => (b0_s_Resolve k (q0_s_Resolve k n).2 (l2_s_Resolve k n), b1_s_Resolve k (q0_s_Resolve k n).2 (q0_s_Resolve k n).1)
def l0_s_Resolve (k : Nat) (n : Nat) : List TEvent → List (List TItem) → Int → List TItem → List Int → List Int → Option (List TItem) := (q0_s_Resolve k n).1
def l1_s_Resolve (k : Nat) (n : Nat) : List TEvent → List (List TItem) → Int → Int → List TItem → List Int → List Int → Option (List TItem) := (q0_s_Resolve k n).2
theorem z0_s_Resolve (k : Nat) (n : Nat) (a0 : List TEvent) (a1 : List (List TItem)) (v1 : Int) (r1 : List TItem) (r2 : List Int) (xs2 : List Int) : l0_s_Resolve k (n + 1) a0 a1 v1 r1 r2 xs2 = b0_s_Resolve k (l1_s_Resolve k n) (l2_s_Resolve k n) a0 a1 v1 r1 r2 xs2 := rfl
theorem z1_s_Resolve (k : Nat) (n : Nat) (a0 : List TEvent) (a1 : List (List TItem)) (v1 : Int) (v3 : Int) (r1 : List TItem) (r2 : List Int) (xs4 : List Int) : l1_s_Resolve k (n + 1) a0 a1 v1 v3 r1 r2 xs4 = b1_s_Resolve k (l1_s_Resolve k n) (l0_s_Resolve k n) a0 a1 v1 v3 r1 r2 xs4 := rfl
def g_s_Resolve (k : Nat) (L0 : List TEvent → List (List TItem) → Int → List TItem → List Int → List Int → Option (List TItem)) (a0 : List TEvent) (a1 : List (List TItem)) : Option (List TItem) := (br ((a1.length : Int) == 0) (some ([] : List TItem)) (br ((a1.length : Int) == 1) (gd (decide (0 < (a1.length : Int))) (gd (decide (([] : List TItem).length + (rd [] a1 0).length ≤ maxRow)) (some (([] : List TItem) ++ (rd [] a1 0))))) (bd (s_Agreed k a1) fun r1 => (bd (s_Clash k a1) fun r2 => (L0 a0 a1 0 r1 r2 [])))))
def s_Resolve (k : Nat) (a0 : List TEvent) (a1 : List (List TItem)) : Option (List TItem) := g_s_Resolve k (l0_s_Resolve k k) a0 a1
end
noncomputable section
def b0_s_l12Before (k : Nat) (L0 : List Int → Int → TRoom → List (List TItem) → Option (List TItem × Bool)) (a1 : List Int) (v1 : Int) (a0 : TRoom) (xs2 : List (List TItem)) : Option (List TItem × Bool) := (br (decide (v1 < (a1.length : Int))) (gd (decide (0 ≤ v1)) (gd (decide (v1 < (a1.length : Int))) (bd (s_l12Has k a0 (rd 0 a1 v1.toNat)) fun r1 => (br (decide (r1 < 0)) (some (([] : List TItem), false)) (br (decide (r1 ≥ (a0.2.1.length : Int))) (some (([] : List TItem), false)) (gd (decide (0 ≤ r1)) (gd (decide (r1 < (a0.2.1.length : Int))) (gd (decide (xs2.length + [(rd [] a0.2.1 r1.toNat)].length ≤ maxRow)) (L0 a1 (w64 (v1 + 1)) a0 (xs2 ++ [(rd [] a0.2.1 r1.toNat)])))))))))) (bd (s_Resolve k a0.1 xs2) fun r2 => (some (r2, true))))
def l0_s_l12Before (k : Nat) : Nat → List Int → Int → TRoom → List (List TItem) → Option (List TItem × Bool)
  | 0, _, _, _, _ => none
  | n + 1, a1, v1, a0, xs2 => b0_s_l12Before k (l0_s_l12Before k n) a1 v1 a0 xs2
def g_s_l12Before (k : Nat) (L0 : List Int → Int → TRoom → List (List TItem) → Option (List TItem × Bool)) (a0 : TRoom) (a1 : List Int) : Option (List TItem × Bool) := (L0 a1 0 a0 [])
def s_l12Before (k : Nat) (a0 : TRoom) (a1 : List Int) : Option (List TItem × Bool) := g_s_l12Before k (l0_s_l12Before k k) a0 a1
end
noncomputable section
def b0_s_DepthOf (k : Nat) (L0 : List Int → Int → Int → TRoom → Option Int) (a1 : List Int) (v1 : Int) (v2 : Int) (a0 : TRoom) : Option Int := (br (decide (v2 < (a1.length : Int))) (gd (decide (0 ≤ v2)) (gd (decide (v2 < (a1.length : Int))) (bd (s_l12Has k a0 (rd 0 a1 v2.toNat)) fun r1 => (br (decide (r1 ≥ 0)) (gd (decide (0 ≤ r1)) (gd (decide (r1 < (a0.1.length : Int))) (br (decide ((rd dTEvent a0.1 r1.toNat).2.2.2.2.2.2.2.2.1 > v1)) (gd (decide (0 ≤ r1)) (gd (decide (r1 < (a0.1.length : Int))) (L0 a1 (rd dTEvent a0.1 r1.toNat).2.2.2.2.2.2.2.2.1 (w64 (v2 + 1)) a0))) (L0 a1 v1 (w64 (v2 + 1)) a0)))) (L0 a1 v1 (w64 (v2 + 1)) a0))))) (br (decide (v1 > 1000000)) (some 1000001) (some (w64 (v1 + 1)))))
def l0_s_DepthOf (k : Nat) : Nat → List Int → Int → Int → TRoom → Option Int
  | 0, _, _, _, _ => none
  | n + 1, a1, v1, v2, a0 => b0_s_DepthOf k (l0_s_DepthOf k n) a1 v1 v2 a0
def g_s_DepthOf (k : Nat) (L0 : List Int → Int → Int → TRoom → Option Int) (a0 : TRoom) (a1 : List Int) : Option Int := (L0 a1 (-1) 0 a0)
def s_DepthOf (k : Nat) (a0 : TRoom) (a1 : List Int) : Option Int := g_s_DepthOf k (l0_s_DepthOf k k) a0 a1
end
def s_l12Add (k : Nat) (a0 : TRoom) (a1 : TEvent) : Option (TRoom × Bool) := (bd (s_l12Before k a0 a1.2.2.2.2.2.2.2.1) fun r1 => (br (!r1.2) (some (([], [], [], ()), false)) (bd (s_EventOk k a1) fun r2 => (br (!r2) (some (([], [], [], ()), false)) (bd (s_l12Has k a0 a1.1) fun r3 => (br (decide (r3 ≥ 0)) (some (([], [], [], ()), false)) (bd (s_DepthOf k a0 a1.2.2.2.2.2.2.2.1) fun r4 => (br (a1.2.2.2.2.2.2.2.2.1 != r4) (some (([], [], [], ()), false)) (br (decide ((a0.1.length : Int) ≥ 40)) (some (([], [], [], ()), false)) (bd (s_Allowed k a0.1 r1.1 a1) fun r5 => (br r5 (bd (s_KeyOf k a1) fun r6 => (br (r6 != 0) (bd (s_KeyOf k a1) fun r7 => (bd (s_Put k r1.1 r7 a1.1) fun r8 => (gd (decide (([] : List TEvent).length + a0.1.length ≤ maxRow)) (gd (decide ((([] : List TEvent) ++ a0.1).length + ([a1] : List TEvent).length ≤ maxRow)) (gd (decide (([] : List (List TItem)).length + a0.2.1.length ≤ maxRow)) (gd (decide ((([] : List (List TItem)) ++ a0.2.1).length + [r8].length ≤ maxRow)) (gd (decide (([] : List Bool).length + a0.2.2.1.length ≤ maxRow)) (gd (decide ((([] : List Bool) ++ a0.2.2.1).length + [r5].length ≤ maxRow)) (some ((((([] : List TEvent) ++ a0.1) ++ ([a1] : List TEvent)), ((([] : List (List TItem)) ++ a0.2.1) ++ [r8]), ((([] : List Bool) ++ a0.2.2.1) ++ [r5]), ()), true)))))))))) (gd (decide (([] : List TEvent).length + a0.1.length ≤ maxRow)) (gd (decide ((([] : List TEvent) ++ a0.1).length + ([a1] : List TEvent).length ≤ maxRow)) (gd (decide (([] : List (List TItem)).length + a0.2.1.length ≤ maxRow)) (gd (decide ((([] : List (List TItem)) ++ a0.2.1).length + [r1.1].length ≤ maxRow)) (gd (decide (([] : List Bool).length + a0.2.2.1.length ≤ maxRow)) (gd (decide ((([] : List Bool) ++ a0.2.2.1).length + [r5].length ≤ maxRow)) (some ((((([] : List TEvent) ++ a0.1) ++ ([a1] : List TEvent)), ((([] : List (List TItem)) ++ a0.2.1) ++ [r1.1]), ((([] : List Bool) ++ a0.2.2.1) ++ [r5]), ()), true)))))))))) (gd (decide (([] : List TEvent).length + a0.1.length ≤ maxRow)) (gd (decide ((([] : List TEvent) ++ a0.1).length + ([a1] : List TEvent).length ≤ maxRow)) (gd (decide (([] : List (List TItem)).length + a0.2.1.length ≤ maxRow)) (gd (decide ((([] : List (List TItem)) ++ a0.2.1).length + [r1.1].length ≤ maxRow)) (gd (decide (([] : List Bool).length + a0.2.2.1.length ≤ maxRow)) (gd (decide ((([] : List Bool) ++ a0.2.2.1).length + [r5].length ≤ maxRow)) (some ((((([] : List TEvent) ++ a0.1) ++ ([a1] : List TEvent)), ((([] : List (List TItem)) ++ a0.2.1) ++ [r1.1]), ((([] : List Bool) ++ a0.2.2.1) ++ [r5]), ()), true)))))))))))))))))))
noncomputable section
def b0_s_l05SameInts (k : Nat) (L0 : List Int → List Int → Int → Option Bool) (a0 : List Int) (a1 : List Int) (v1 : Int) : Option Bool := (br (decide (v1 < (a0.length : Int))) (gd (decide (0 ≤ v1)) (gd (decide (v1 < (a0.length : Int))) (gd (decide (0 ≤ v1)) (gd (decide (v1 < (a1.length : Int))) (br ((rd 0 a0 v1.toNat) != (rd 0 a1 v1.toNat)) (some false) (L0 a0 a1 (w64 (v1 + 1)))))))) (some true))
def l0_s_l05SameInts (k : Nat) : Nat → List Int → List Int → Int → Option Bool
  | 0, _, _, _ => none
  | n + 1, a0, a1, v1 => b0_s_l05SameInts k (l0_s_l05SameInts k n) a0 a1 v1
def g_s_l05SameInts (k : Nat) (L0 : List Int → List Int → Int → Option Bool) (a0 : List Int) (a1 : List Int) : Option Bool := (br ((a0.length : Int) != (a1.length : Int)) (some false) (L0 a0 a1 0))
def s_l05SameInts (k : Nat) (a0 : List Int) (a1 : List Int) : Option Bool := g_s_l05SameInts k (l0_s_l05SameInts k k) a0 a1
end
def s_l09Same (k : Nat) (a0 : TEvent) (a1 : TEvent) : Option Bool := (br (a0.1 == a1.1) (br (a0.2.1 == a1.2.1) (br (a0.2.2.1 == a1.2.2.1) (br (a0.2.2.2.1 == a1.2.2.2.1) (br (a0.2.2.2.2.1 == a1.2.2.2.2.1) (br (a0.2.2.2.2.2.2.1.toList == a1.2.2.2.2.2.2.1.toList) (br (a0.2.2.2.2.2.2.2.2.1 == a1.2.2.2.2.2.2.2.2.1) (bd (s_l05SameInts k a0.2.2.2.2.2.1 a1.2.2.2.2.2.1) fun r1 => (br r1 (bd (s_l05SameInts k a0.2.2.2.2.2.2.2.1 a1.2.2.2.2.2.2.2.1) fun r2 => (some r2)) (some false))) (some false)) (some false)) (some false)) (some false)) (some false)) (some false)) (some false))
noncomputable section
def b0_s_l12SameState (k : Nat) (L0 : List TItem → List TItem → Int → Option Bool) (a0 : List TItem) (a1 : List TItem) (v1 : Int) : Option Bool := (br (decide (v1 < (a0.length : Int))) (gd (decide (0 ≤ v1)) (gd (decide (v1 < (a0.length : Int))) (gd (decide (0 ≤ v1)) (gd (decide (v1 < (a1.length : Int))) (br (!((rd dTItem a0 v1.toNat).1 == (rd dTItem a1 v1.toNat).1 && ((rd dTItem a0 v1.toNat).2.1 == (rd dTItem a1 v1.toNat).2.1 && true))) (some false) (L0 a0 a1 (w64 (v1 + 1)))))))) (some true))
def l0_s_l12SameState (k : Nat) : Nat → List TItem → List TItem → Int → Option Bool
  | 0, _, _, _ => none
  | n + 1, a0, a1, v1 => b0_s_l12SameState k (l0_s_l12SameState k n) a0 a1 v1
def g_s_l12SameState (k : Nat) (L0 : List TItem → List TItem → Int → Option Bool) (a0 : List TItem) (a1 : List TItem) : Option Bool := (br ((a0.length : Int) != (a1.length : Int)) (some false) (L0 a0 a1 0))
def s_l12SameState (k : Nat) (a0 : List TItem) (a1 : List TItem) : Option Bool := g_s_l12SameState k (l0_s_l12SameState k k) a0 a1
end
noncomputable section
def b2_s_l12Same (k : Nat) (L2 : Int → TRoom → TRoom → Option Bool) (v3 : Int) (a0 : TRoom) (a1 : TRoom) : Option Bool := (br (decide (v3 < (a0.2.2.1.length : Int))) (gd (decide (0 ≤ v3)) (gd (decide (v3 < (a0.2.2.1.length : Int))) (gd (decide (0 ≤ v3)) (gd (decide (v3 < (a1.2.2.1.length : Int))) (br (!((rd false a0.2.2.1 v3.toNat) == (rd false a1.2.2.1 v3.toNat))) (some false) (L2 (w64 (v3 + 1)) a0 a1)))))) (some true))
def b1_s_l12Same (k : Nat) (L1 : Int → TRoom → TRoom → Option Bool) (L2 : Int → TRoom → TRoom → Option Bool) (v2 : Int) (a0 : TRoom) (a1 : TRoom) : Option Bool := (br (decide (v2 < (a0.2.1.length : Int))) (gd (decide (0 ≤ v2)) (gd (decide (v2 < (a0.2.1.length : Int))) (gd (decide (0 ≤ v2)) (gd (decide (v2 < (a1.2.1.length : Int))) (bd (s_l12SameState k (rd [] a0.2.1 v2.toNat) (rd [] a1.2.1 v2.toNat)) fun r2 => (br (!r2) (some false) (L1 (w64 (v2 + 1)) a0 a1))))))) (L2 0 a0 a1))
def b0_s_l12Same (k : Nat) (L0 : Int → TRoom → TRoom → Option Bool) (L1 : Int → TRoom → TRoom → Option Bool) (v1 : Int) (a0 : TRoom) (a1 : TRoom) : Option Bool := (br (decide (v1 < (a0.1.length : Int))) (gd (decide (0 ≤ v1)) (gd (decide (v1 < (a0.1.length : Int))) (gd (decide (0 ≤ v1)) (gd (decide (v1 < (a1.1.length : Int))) (bd (s_l09Same k (rd dTEvent a0.1 v1.toNat) (rd dTEvent a1.1 v1.toNat)) fun r1 => (br (!r1) (some false) (L0 (w64 (v1 + 1)) a0 a1))))))) (L1 0 a0 a1))
def l2_s_l12Same (k : Nat) : Nat → Int → TRoom → TRoom → Option Bool
  | 0, _, _, _ => none
  | n + 1, v3, a0, a1 => b2_s_l12Same k (l2_s_l12Same k n) v3 a0 a1
def l1_s_l12Same (k : Nat) : Nat → Int → TRoom → TRoom → Option Bool
  | 0, _, _, _ => none
  | n + 1, v2, a0, a1 => b1_s_l12Same k (l1_s_l12Same k n) (l2_s_l12Same k n) v2 a0 a1
def l0_s_l12Same (k : Nat) : Nat → Int → TRoom → TRoom → Option Bool
  | 0, _, _, _ => none
  | n + 1, v1, a0, a1 => b0_s_l12Same k (l0_s_l12Same k n) (l1_s_l12Same k n) v1 a0 a1
def g_s_l12Same (k : Nat) (L0 : Int → TRoom → TRoom → Option Bool) (a0 : TRoom) (a1 : TRoom) : Option Bool := (br ((a0.1.length : Int) != (a1.1.length : Int)) (some false) (br ((a0.2.1.length : Int) != (a1.2.1.length : Int)) (some false) (br ((a0.2.2.1.length : Int) != (a1.2.2.1.length : Int)) (some false) (L0 0 a0 a1))))
def s_l12Same (k : Nat) (a0 : TRoom) (a1 : TRoom) : Option Bool := g_s_l12Same k (l0_s_l12Same k k) a0 a1
end
noncomputable section
def b0_s_RoomOk (k : Nat) (L0 : Int → TRoom → List TEvent → List (List TItem) → List Bool → Option Bool) (v1 : Int) (a0 : TRoom) (xs2 : List TEvent) (xs3 : List (List TItem)) (xs4 : List Bool) : Option Bool := (br (decide (v1 < (a0.1.length : Int))) (gd (decide (0 ≤ v1)) (gd (decide (v1 < (a0.1.length : Int))) (bd (s_l12Add k (xs2, xs3, xs4, ()) (rd dTEvent a0.1 v1.toNat)) fun r1 => (br (!r1.2) (some false) (L0 (w64 (v1 + 1)) a0 r1.1.1 r1.1.2.1 r1.1.2.2.1))))) (bd (s_l12Same k (xs2, xs3, xs4, ()) a0) fun r2 => (some r2)))
def l0_s_RoomOk (k : Nat) : Nat → Int → TRoom → List TEvent → List (List TItem) → List Bool → Option Bool
  | 0, _, _, _, _, _ => none
  | n + 1, v1, a0, xs2, xs3, xs4 => b0_s_RoomOk k (l0_s_RoomOk k n) v1 a0 xs2 xs3 xs4
def g_s_RoomOk (k : Nat) (L0 : Int → TRoom → List TEvent → List (List TItem) → List Bool → Option Bool) (a0 : TRoom) : Option Bool := (br (decide ((a0.1.length : Int) > 40)) (some false) (L0 0 a0 [] [] []))
def s_RoomOk (k : Nat) (a0 : TRoom) : Option Bool := g_s_RoomOk k (l0_s_RoomOk k k) a0
end
noncomputable section
def b0_s_l13Own (k : Nat) (L0 : Int → TRoom → List Int → Option (List Int)) (v1 : Int) (a0 : TRoom) (xs2 : List Int) : Option (List Int) := (br (decide (v1 < (a0.1.length : Int))) (gd (decide (0 ≤ v1)) (gd (decide (v1 < (a0.2.2.1.length : Int))) (br (rd false a0.2.2.1 v1.toNat) (gd (decide (0 ≤ v1)) (gd (decide (v1 < (a0.1.length : Int))) (ng ((rd dTEvent a0.1 v1.toNat).1 == (rd dTEvent a0.1 v1.toNat).1 && (2 : Int) == 0) (br ((Int.tmod (rd dTEvent a0.1 v1.toNat).1 2) == 0) (gd (decide (0 ≤ v1)) (gd (decide (v1 < (a0.1.length : Int))) (gd (decide (xs2.length + [(rd dTEvent a0.1 v1.toNat).1].length ≤ maxRow)) (L0 (w64 (v1 + 1)) a0 (xs2 ++ [(rd dTEvent a0.1 v1.toNat).1]))))) (L0 (w64 (v1 + 1)) a0 xs2))))) (L0 (w64 (v1 + 1)) a0 xs2)))) (some xs2))
def l0_s_l13Own (k : Nat) : Nat → Int → TRoom → List Int → Option (List Int)
  | 0, _, _, _ => none
  | n + 1, v1, a0, xs2 => b0_s_l13Own k (l0_s_l13Own k n) v1 a0 xs2
def g_s_l13Own (k : Nat) (L0 : Int → TRoom → List Int → Option (List Int)) (a0 : TRoom) : Option (List Int) := (L0 0 a0 [])
def s_l13Own (k : Nat) (a0 : TRoom) : Option (List Int) := g_s_l13Own k (l0_s_l13Own k k) a0
end
noncomputable section
def b1_s_HallOk (k : Nat) (L1 : Int → THall → List Int → Option Bool) (v2 : Int) (a0 : THall) (r4 : List Int) : Option Bool := (br (decide (v2 < (a0.2.2.1.length : Int))) (gd (decide (0 ≤ v2)) (gd (decide (v2 < (a0.2.2.1.length : Int))) (br ((rd dTOut a0.2.2.1 v2.toNat).1 != (w64 (v2 + 1))) (some false) (bd (s_l05SameInts k (rd dTOut a0.2.2.1 v2.toNat).2.2.1 r4) fun r5 => (br (!r5) (some false) (bd (s_l01In k (rd dTOut a0.2.2.1 v2.toNat).2.1 0 (r4.length : Int)) fun r6 => (br (!r6) (some false) (L1 (w64 (v2 + 1)) a0 r4)))))))) (some true))
def b0_s_HallOk (k : Nat) (L0 : Int → THall → Option Bool) (L1 : Int → THall → List Int → Option Bool) (v1 : Int) (a0 : THall) : Option Bool := (br (decide (v1 < (a0.1.length : Int))) (gd (decide (0 ≤ v1)) (gd (decide (v1 < (a0.1.length : Int))) (bd (s_l01In k (rd dTSession a0.1 v1.toNat).1 1 1000000) fun r2 => (br (!r2) (some false) (bd (s_l01In k (rd dTSession a0.1 v1.toNat).2.1 0 1000000) fun r3 => (br (!r3) (some false) (br (decide ((((rd dTSession a0.1 v1.toNat).2.2.1.size : Nat) : Int) > 40)) (some false) (br ((rd dTSession a0.1 v1.toNat).2.1 == 0) (br (!((rd dTSession a0.1 v1.toNat).2.2.1.toList == (⟨#[]⟩ : ByteArray).toList)) (some false) (br (decide (v1 > 0)) (gd (decide (0 ≤ (w64 (v1 - 1)))) (gd (decide ((w64 (v1 - 1)) < (a0.1.length : Int))) (br (decide ((rd dTSession a0.1 (w64 (v1 - 1)).toNat).1 ≥ (rd dTSession a0.1 v1.toNat).1)) (some false) (L0 (w64 (v1 + 1)) a0)))) (L0 (w64 (v1 + 1)) a0))) (br (decide (v1 > 0)) (gd (decide (0 ≤ (w64 (v1 - 1)))) (gd (decide ((w64 (v1 - 1)) < (a0.1.length : Int))) (br (decide ((rd dTSession a0.1 (w64 (v1 - 1)).toNat).1 ≥ (rd dTSession a0.1 v1.toNat).1)) (some false) (L0 (w64 (v1 + 1)) a0)))) (L0 (w64 (v1 + 1)) a0)))))))))) (bd (s_l13Own k a0.2.1) fun r4 => (L1 0 a0 r4)))
def l1_s_HallOk (k : Nat) : Nat → Int → THall → List Int → Option Bool
  | 0, _, _, _ => none
  | n + 1, v2, a0, r4 => b1_s_HallOk k (l1_s_HallOk k n) v2 a0 r4
def l0_s_HallOk (k : Nat) : Nat → Int → THall → Option Bool
  | 0, _, _ => none
  | n + 1, v1, a0 => b0_s_HallOk k (l0_s_HallOk k n) (l1_s_HallOk k n) v1 a0
def g_s_HallOk (k : Nat) (L0 : Int → THall → Option Bool) (a0 : THall) : Option Bool := (br (decide ((a0.1.length : Int) > 3)) (some false) (br ((a0.2.2.1.length : Int) != 2) (some false) (bd (s_RoomOk k a0.2.1) fun r1 => (br (!r1) (some false) (L0 0 a0)))))
def s_HallOk (k : Nat) (a0 : THall) : Option Bool := g_s_HallOk k (l0_s_HallOk k k) a0
end
noncomputable section
def b0_s_l01Var (k : Nat) (L0 : Int → List Int → Option ByteArray) (a0 : Int) (xs1 : List Int) : Option ByteArray := (br (decide (a0 > 127)) (ng (a0 == a0 && (128 : Int) == 0) (gd (decide (xs1.length + [(IntKind.wrap .u8 (w64 ((Int.tmod a0 128) + 128)))].length ≤ maxRow)) (ng (a0 == a0 && (128 : Int) == 0) (L0 (w64 (Int.tdiv a0 128)) (xs1 ++ [(IntKind.wrap .u8 (w64 ((Int.tmod a0 128) + 128)))]))))) (gd (decide (xs1.length + [(IntKind.wrap .u8 a0)].length ≤ maxRow)) (some (strOfNums (xs1 ++ [(IntKind.wrap .u8 a0)])))))
def l0_s_l01Var (k : Nat) : Nat → Int → List Int → Option ByteArray
  | 0, _, _ => none
  | n + 1, a0, xs1 => b0_s_l01Var k (l0_s_l01Var k n) a0 xs1
def g_s_l01Var (k : Nat) (L0 : Int → List Int → Option ByteArray) (a0 : Int) : Option ByteArray := (L0 a0 [])
def s_l01Var (k : Nat) (a0 : Int) : Option ByteArray := g_s_l01Var k (l0_s_l01Var k k) a0
end
def s_l05Short (k : Nat) (a0 : ByteArray) : Option ByteArray := (bd (s_l01Var k (a0.size : Int)) fun r1 => (gd (decide (r1.size + a0.size ≤ maxRow)) (some (r1 ++ a0))))
def s_l09Byte (k : Nat) (a0 : Int) : Option ByteArray := (some (strOfNums [(IntKind.wrap .u8 a0)]))
noncomputable section
def b0_s_l09BodyText (k : Nat) (L0 : ByteArray → Int → TEvent → Option ByteArray) (v1 : ByteArray) (v2 : Int) (a0 : TEvent) : Option ByteArray := (br (decide (v2 < (a0.2.2.2.2.2.1.length : Int))) (gd (decide (0 ≤ v2)) (gd (decide (v2 < (a0.2.2.2.2.2.1.length : Int))) (bd (s_l09Byte k (rd 0 a0.2.2.2.2.2.1 v2.toNat)) fun r6 => (gd (decide (v1.size + r6.size ≤ maxRow)) (L0 (v1 ++ r6) (w64 (v2 + 1)) a0))))) (bd (s_l05Short k a0.2.2.2.2.2.2.1) fun r7 => (gd (decide (v1.size + r7.size ≤ maxRow)) (some (v1 ++ r7)))))
def l0_s_l09BodyText (k : Nat) : Nat → ByteArray → Int → TEvent → Option ByteArray
  | 0, _, _, _ => none
  | n + 1, v1, v2, a0 => b0_s_l09BodyText k (l0_s_l09BodyText k n) v1 v2 a0
def g_s_l09BodyText (k : Nat) (L0 : ByteArray → Int → TEvent → Option ByteArray) (a0 : TEvent) : Option ByteArray := (bd (s_l09Byte k a0.2.1) fun r1 => (bd (s_l09Byte k a0.2.2.1) fun r2 => (gd (decide (r1.size + r2.size ≤ maxRow)) (bd (s_l09Byte k a0.2.2.2.1) fun r3 => (gd (decide ((r1 ++ r2).size + r3.size ≤ maxRow)) (bd (s_l09Byte k a0.2.2.2.2.1) fun r4 => (gd (decide (((r1 ++ r2) ++ r3).size + r4.size ≤ maxRow)) (bd (s_l01Var k (a0.2.2.2.2.2.1.length : Int)) fun r5 => (gd (decide ((((r1 ++ r2) ++ r3) ++ r4).size + r5.size ≤ maxRow)) (L0 ((((r1 ++ r2) ++ r3) ++ r4) ++ r5) 0 a0))))))))))
def s_l09BodyText (k : Nat) (a0 : TEvent) : Option ByteArray := g_s_l09BodyText k (l0_s_l09BodyText k k) a0
end
noncomputable section
def b0_s_EventText (k : Nat) (L0 : ByteArray → Int → TEvent → Option (ByteArray × Bool)) (v1 : ByteArray) (v2 : Int) (a0 : TEvent) : Option (ByteArray × Bool) := (br (decide (v2 < (a0.2.2.2.2.2.2.2.1.length : Int))) (gd (decide (0 ≤ v2)) (gd (decide (v2 < (a0.2.2.2.2.2.2.2.1.length : Int))) (bd (s_l01Var k (rd 0 a0.2.2.2.2.2.2.2.1 v2.toNat)) fun r5 => (gd (decide (v1.size + r5.size ≤ maxRow)) (L0 (v1 ++ r5) (w64 (v2 + 1)) a0))))) (bd (s_l01Var k a0.2.2.2.2.2.2.2.2.1) fun r6 => (gd (decide (v1.size + r6.size ≤ maxRow)) (some ((v1 ++ r6), true)))))
def l0_s_EventText (k : Nat) : Nat → ByteArray → Int → TEvent → Option (ByteArray × Bool)
  | 0, _, _, _ => none
  | n + 1, v1, v2, a0 => b0_s_EventText k (l0_s_EventText k n) v1 v2 a0
def g_s_EventText (k : Nat) (L0 : ByteArray → Int → TEvent → Option (ByteArray × Bool)) (a0 : TEvent) : Option (ByteArray × Bool) := (bd (s_EventOk k a0) fun r1 => (br (!r1) (some ((⟨#[]⟩ : ByteArray), false)) (bd (s_l01Var k a0.1) fun r2 => (bd (s_l09BodyText k a0) fun r3 => (gd (decide (r2.size + r3.size ≤ maxRow)) (bd (s_l01Var k (a0.2.2.2.2.2.2.2.1.length : Int)) fun r4 => (gd (decide ((r2 ++ r3).size + r4.size ≤ maxRow)) (L0 ((r2 ++ r3) ++ r4) 0 a0))))))))
def s_EventText (k : Nat) (a0 : TEvent) : Option (ByteArray × Bool) := g_s_EventText k (l0_s_EventText k k) a0
end
noncomputable section
def b2_s_HallText (k : Nat) (L2 : Int → THall → List Int → Option (ByteArray × Bool)) (v5 : Int) (a0 : THall) (xs4 : List Int) : Option (ByteArray × Bool) := (br (decide (v5 < (a0.2.2.1.length : Int))) (gd (decide (0 ≤ v5)) (gd (decide (v5 < (a0.2.2.1.length : Int))) (bd (s_l01Var k (rd dTOut a0.2.2.1 v5.toNat).2.1) fun r9 => (gd (decide (xs4.length + (numsOf r9).length ≤ maxRow)) (L2 (w64 (v5 + 1)) a0 (xs4 ++ (numsOf r9))))))) (br (decide ((xs4.length : Int) > 20000)) (some ((⟨#[]⟩ : ByteArray), false)) (some ((strOfNums xs4), true))))
def b1_s_HallText (k : Nat) (L1 : Int → THall → List Int → Option (ByteArray × Bool)) (L2 : Int → THall → List Int → Option (ByteArray × Bool)) (v3 : Int) (a0 : THall) (xs4 : List Int) : Option (ByteArray × Bool) := (br (decide (v3 < (a0.2.1.1.length : Int))) (gd (decide (0 ≤ v3)) (gd (decide (v3 < (a0.2.1.1.length : Int))) (bd (s_EventText k (rd dTEvent a0.2.1.1 v3.toNat)) fun r7 => (bd (s_l05Short k r7.1) fun r8 => (gd (decide (xs4.length + (numsOf r8).length ≤ maxRow)) (L1 (w64 (v3 + 1)) a0 (xs4 ++ (numsOf r8)))))))) (L2 0 a0 xs4))
def b0_s_HallText (k : Nat) (L0 : Int → THall → List Int → Option (ByteArray × Bool)) (L1 : Int → THall → List Int → Option (ByteArray × Bool)) (v1 : Int) (a0 : THall) (xs2 : List Int) : Option (ByteArray × Bool) := (br (decide (v1 < (a0.1.length : Int))) (gd (decide (0 ≤ v1)) (gd (decide (v1 < (a0.1.length : Int))) (bd (s_l01Var k (rd dTSession a0.1 v1.toNat).1) fun r3 => (bd (s_l01Var k (rd dTSession a0.1 v1.toNat).2.1) fun r4 => (gd (decide (r3.size + r4.size ≤ maxRow)) (bd (s_l05Short k (rd dTSession a0.1 v1.toNat).2.2.1) fun r5 => (gd (decide ((r3 ++ r4).size + r5.size ≤ maxRow)) (gd (decide (xs2.length + (numsOf ((r3 ++ r4) ++ r5)).length ≤ maxRow)) (L0 (w64 (v1 + 1)) a0 (xs2 ++ (numsOf ((r3 ++ r4) ++ r5)))))))))))) (bd (s_l01Var k (a0.2.1.1.length : Int)) fun r6 => (gd (decide (xs2.length + (numsOf r6).length ≤ maxRow)) (L1 0 a0 (xs2 ++ (numsOf r6))))))
def l2_s_HallText (k : Nat) : Nat → Int → THall → List Int → Option (ByteArray × Bool)
  | 0, _, _, _ => none
  | n + 1, v5, a0, xs4 => b2_s_HallText k (l2_s_HallText k n) v5 a0 xs4
def l1_s_HallText (k : Nat) : Nat → Int → THall → List Int → Option (ByteArray × Bool)
  | 0, _, _, _ => none
  | n + 1, v3, a0, xs4 => b1_s_HallText k (l1_s_HallText k n) (l2_s_HallText k n) v3 a0 xs4
def l0_s_HallText (k : Nat) : Nat → Int → THall → List Int → Option (ByteArray × Bool)
  | 0, _, _, _ => none
  | n + 1, v1, a0, xs2 => b0_s_HallText k (l0_s_HallText k n) (l1_s_HallText k n) v1 a0 xs2
def g_s_HallText (k : Nat) (L0 : Int → THall → List Int → Option (ByteArray × Bool)) (a0 : THall) : Option (ByteArray × Bool) := (bd (s_HallOk k a0) fun r1 => (br (!r1) (some ((⟨#[]⟩ : ByteArray), false)) (bd (s_l01Var k (a0.1.length : Int)) fun r2 => (L0 0 a0 (numsOf r2)))))
def s_HallText (k : Nat) (a0 : THall) : Option (ByteArray × Bool) := g_s_HallText k (l0_s_HallText k k) a0
end
def l_toSession (k : Nat) (a0 : TSession) : Option TSession := (some a0)
noncomputable section
def b0_l_toSessionS (k : Nat) (L0 : List TSession → Int → List TSession → Option (List TSession)) (a0 : List TSession) (v1 : Int) (xs2 : List TSession) : Option (List TSession) := (br (decide (v1 < (a0.length : Int))) (gd (decide (0 ≤ v1)) (gd (decide (v1 < (a0.length : Int))) (bd (l_toSession k (rd dTSession a0 v1.toNat)) fun r1 => (gd (decide (0 ≤ v1)) (gd (decide (v1 < (xs2.length : Int))) (L0 a0 (w64 (v1 + 1)) (xs2.set v1.toNat r1))))))) (some xs2))
def l0_l_toSessionS (k : Nat) : Nat → List TSession → Int → List TSession → Option (List TSession)
  | 0, _, _, _ => none
  | n + 1, a0, v1, xs2 => b0_l_toSessionS k (l0_l_toSessionS k n) a0 v1 xs2
def g_l_toSessionS (k : Nat) (L0 : List TSession → Int → List TSession → Option (List TSession)) (a0 : List TSession) : Option (List TSession) := (gd (decide ((a0.length : Int) = (a0.length : Int))) (gd (decide (0 ≤ (a0.length : Int))) (gd (decide ((a0.length : Int).toNat ≤ maxRow)) (L0 a0 0 (List.replicate (a0.length : Int).toNat dTSession)))))
def l_toSessionS (k : Nat) (a0 : List TSession) : Option (List TSession) := g_l_toSessionS k (l0_l_toSessionS k k) a0
end
noncomputable section
def b0_l_toIntS (k : Nat) (L0 : List Int → Int → List Int → Option (List Int)) (a0 : List Int) (v1 : Int) (xs2 : List Int) : Option (List Int) := (br (decide (v1 < (a0.length : Int))) (gd (decide (0 ≤ v1)) (gd (decide (v1 < (a0.length : Int))) (gd (decide (0 ≤ v1)) (gd (decide (v1 < (xs2.length : Int))) (L0 a0 (w64 (v1 + 1)) (xs2.set v1.toNat (rd 0 a0 v1.toNat))))))) (some xs2))
def l0_l_toIntS (k : Nat) : Nat → List Int → Int → List Int → Option (List Int)
  | 0, _, _, _ => none
  | n + 1, a0, v1, xs2 => b0_l_toIntS k (l0_l_toIntS k n) a0 v1 xs2
def g_l_toIntS (k : Nat) (L0 : List Int → Int → List Int → Option (List Int)) (a0 : List Int) : Option (List Int) := (gd (decide ((a0.length : Int) = (a0.length : Int))) (gd (decide (0 ≤ (a0.length : Int))) (gd (decide ((a0.length : Int).toNat ≤ maxRow)) (L0 a0 0 (List.replicate (a0.length : Int).toNat 0)))))
def l_toIntS (k : Nat) (a0 : List Int) : Option (List Int) := g_l_toIntS k (l0_l_toIntS k k) a0
end
def l_toEvent (k : Nat) (a0 : TEvent) : Option TEvent := (bd (l_toIntS k a0.2.2.2.2.2.1) fun r1 => (bd (l_toIntS k a0.2.2.2.2.2.2.2.1) fun r2 => (some (a0.1, a0.2.1, a0.2.2.1, a0.2.2.2.1, a0.2.2.2.2.1, r1, a0.2.2.2.2.2.2.1, r2, a0.2.2.2.2.2.2.2.2))))
noncomputable section
def b0_l_toEventS (k : Nat) (L0 : List TEvent → Int → List TEvent → Option (List TEvent)) (a0 : List TEvent) (v1 : Int) (xs2 : List TEvent) : Option (List TEvent) := (br (decide (v1 < (a0.length : Int))) (gd (decide (0 ≤ v1)) (gd (decide (v1 < (a0.length : Int))) (bd (l_toEvent k (rd dTEvent a0 v1.toNat)) fun r1 => (gd (decide (0 ≤ v1)) (gd (decide (v1 < (xs2.length : Int))) (L0 a0 (w64 (v1 + 1)) (xs2.set v1.toNat r1))))))) (some xs2))
def l0_l_toEventS (k : Nat) : Nat → List TEvent → Int → List TEvent → Option (List TEvent)
  | 0, _, _, _ => none
  | n + 1, a0, v1, xs2 => b0_l_toEventS k (l0_l_toEventS k n) a0 v1 xs2
def g_l_toEventS (k : Nat) (L0 : List TEvent → Int → List TEvent → Option (List TEvent)) (a0 : List TEvent) : Option (List TEvent) := (gd (decide ((a0.length : Int) = (a0.length : Int))) (gd (decide (0 ≤ (a0.length : Int))) (gd (decide ((a0.length : Int).toNat ≤ maxRow)) (L0 a0 0 (List.replicate (a0.length : Int).toNat dTEvent)))))
def l_toEventS (k : Nat) (a0 : List TEvent) : Option (List TEvent) := g_l_toEventS k (l0_l_toEventS k k) a0
end
def l_toItem (k : Nat) (a0 : TItem) : Option TItem := (some a0)
noncomputable section
def b0_l_toItemS (k : Nat) (L0 : List TItem → Int → List TItem → Option (List TItem)) (a0 : List TItem) (v1 : Int) (xs2 : List TItem) : Option (List TItem) := (br (decide (v1 < (a0.length : Int))) (gd (decide (0 ≤ v1)) (gd (decide (v1 < (a0.length : Int))) (bd (l_toItem k (rd dTItem a0 v1.toNat)) fun r1 => (gd (decide (0 ≤ v1)) (gd (decide (v1 < (xs2.length : Int))) (L0 a0 (w64 (v1 + 1)) (xs2.set v1.toNat r1))))))) (some xs2))
def l0_l_toItemS (k : Nat) : Nat → List TItem → Int → List TItem → Option (List TItem)
  | 0, _, _, _ => none
  | n + 1, a0, v1, xs2 => b0_l_toItemS k (l0_l_toItemS k n) a0 v1 xs2
def g_l_toItemS (k : Nat) (L0 : List TItem → Int → List TItem → Option (List TItem)) (a0 : List TItem) : Option (List TItem) := (gd (decide ((a0.length : Int) = (a0.length : Int))) (gd (decide (0 ≤ (a0.length : Int))) (gd (decide ((a0.length : Int).toNat ≤ maxRow)) (L0 a0 0 (List.replicate (a0.length : Int).toNat dTItem)))))
def l_toItemS (k : Nat) (a0 : List TItem) : Option (List TItem) := g_l_toItemS k (l0_l_toItemS k k) a0
end
noncomputable section
def b0_l_toItemSS (k : Nat) (L0 : List (List TItem) → Int → List (List TItem) → Option (List (List TItem))) (a0 : List (List TItem)) (v1 : Int) (xs2 : List (List TItem)) : Option (List (List TItem)) := (br (decide (v1 < (a0.length : Int))) (gd (decide (0 ≤ v1)) (gd (decide (v1 < (a0.length : Int))) (bd (l_toItemS k (rd [] a0 v1.toNat)) fun r1 => (gd (decide (0 ≤ v1)) (gd (decide (v1 < (xs2.length : Int))) (L0 a0 (w64 (v1 + 1)) (xs2.set v1.toNat r1))))))) (some xs2))
def l0_l_toItemSS (k : Nat) : Nat → List (List TItem) → Int → List (List TItem) → Option (List (List TItem))
  | 0, _, _, _ => none
  | n + 1, a0, v1, xs2 => b0_l_toItemSS k (l0_l_toItemSS k n) a0 v1 xs2
def g_l_toItemSS (k : Nat) (L0 : List (List TItem) → Int → List (List TItem) → Option (List (List TItem))) (a0 : List (List TItem)) : Option (List (List TItem)) := (gd (decide ((a0.length : Int) = (a0.length : Int))) (gd (decide (0 ≤ (a0.length : Int))) (gd (decide ((a0.length : Int).toNat ≤ maxRow)) (L0 a0 0 (List.replicate (a0.length : Int).toNat [])))))
def l_toItemSS (k : Nat) (a0 : List (List TItem)) : Option (List (List TItem)) := g_l_toItemSS k (l0_l_toItemSS k k) a0
end
noncomputable section
def b0_l_toBoolS (k : Nat) (L0 : List Bool → Int → List Bool → Option (List Bool)) (a0 : List Bool) (v1 : Int) (xs2 : List Bool) : Option (List Bool) := (br (decide (v1 < (a0.length : Int))) (gd (decide (0 ≤ v1)) (gd (decide (v1 < (a0.length : Int))) (gd (decide (0 ≤ v1)) (gd (decide (v1 < (xs2.length : Int))) (L0 a0 (w64 (v1 + 1)) (xs2.set v1.toNat (rd false a0 v1.toNat))))))) (some xs2))
def l0_l_toBoolS (k : Nat) : Nat → List Bool → Int → List Bool → Option (List Bool)
  | 0, _, _, _ => none
  | n + 1, a0, v1, xs2 => b0_l_toBoolS k (l0_l_toBoolS k n) a0 v1 xs2
def g_l_toBoolS (k : Nat) (L0 : List Bool → Int → List Bool → Option (List Bool)) (a0 : List Bool) : Option (List Bool) := (gd (decide ((a0.length : Int) = (a0.length : Int))) (gd (decide (0 ≤ (a0.length : Int))) (gd (decide ((a0.length : Int).toNat ≤ maxRow)) (L0 a0 0 (List.replicate (a0.length : Int).toNat false)))))
def l_toBoolS (k : Nat) (a0 : List Bool) : Option (List Bool) := g_l_toBoolS k (l0_l_toBoolS k k) a0
end
def l_toRoom (k : Nat) (a0 : TRoom) : Option TRoom := (bd (l_toEventS k a0.1) fun r1 => (bd (l_toItemSS k a0.2.1) fun r2 => (bd (l_toBoolS k a0.2.2.1) fun r3 => (some (r1, r2, r3, ())))))
def l_toOut (k : Nat) (a0 : TOut) : Option TOut := (bd (l_toIntS k a0.2.2.1) fun r1 => (some (a0.1, a0.2.1, r1, ())))
noncomputable section
def b0_l_toOutS (k : Nat) (L0 : List TOut → Int → List TOut → Option (List TOut)) (a0 : List TOut) (v1 : Int) (xs2 : List TOut) : Option (List TOut) := (br (decide (v1 < (a0.length : Int))) (gd (decide (0 ≤ v1)) (gd (decide (v1 < (a0.length : Int))) (bd (l_toOut k (rd dTOut a0 v1.toNat)) fun r1 => (gd (decide (0 ≤ v1)) (gd (decide (v1 < (xs2.length : Int))) (L0 a0 (w64 (v1 + 1)) (xs2.set v1.toNat r1))))))) (some xs2))
def l0_l_toOutS (k : Nat) : Nat → List TOut → Int → List TOut → Option (List TOut)
  | 0, _, _, _ => none
  | n + 1, a0, v1, xs2 => b0_l_toOutS k (l0_l_toOutS k n) a0 v1 xs2
def g_l_toOutS (k : Nat) (L0 : List TOut → Int → List TOut → Option (List TOut)) (a0 : List TOut) : Option (List TOut) := (gd (decide ((a0.length : Int) = (a0.length : Int))) (gd (decide (0 ≤ (a0.length : Int))) (gd (decide ((a0.length : Int).toNat ≤ maxRow)) (L0 a0 0 (List.replicate (a0.length : Int).toNat dTOut)))))
def l_toOutS (k : Nat) (a0 : List TOut) : Option (List TOut) := g_l_toOutS k (l0_l_toOutS k k) a0
end
def l_toHall (k : Nat) (a0 : THall) : Option THall := (bd (l_toSessionS k a0.1) fun r1 => (bd (l_toRoom k a0.2.1) fun r2 => (bd (l_toOutS k a0.2.2.1) fun r3 => (some (r1, r2, r3, ())))))
def i_within (k : Nat) (a0 : Int) (a1 : Int) (a2 : Int) : Option Bool := (br (decide (a0 ≥ a1)) (some (decide (a0 ≤ a2))) (some false))
noncomputable section
def b0_i_levelsOk (k : Nat) (L0 : TEvent → Int → Option Bool) (a0 : TEvent) (v1 : Int) : Option Bool := (br (decide (v1 < (a0.2.2.2.2.2.1.length : Int))) (gd (decide (0 ≤ v1)) (gd (decide (v1 < (a0.2.2.2.2.2.1.length : Int))) (bd (i_within k (rd 0 a0.2.2.2.2.2.1 v1.toNat) 0 100) fun r1 => (br (!r1) (some false) (L0 a0 (w64 (v1 + 1))))))) (some ((a0.2.2.2.2.2.1.length : Int) == 5)))
def l0_i_levelsOk (k : Nat) : Nat → TEvent → Int → Option Bool
  | 0, _, _ => none
  | n + 1, a0, v1 => b0_i_levelsOk k (l0_i_levelsOk k n) a0 v1
def g_i_levelsOk (k : Nat) (L0 : TEvent → Int → Option Bool) (a0 : TEvent) : Option Bool := (br (a0.2.1 != 3) (some ((a0.2.2.2.2.2.1.length : Int) == 0)) (L0 a0 0))
def i_levelsOk (k : Nat) (a0 : TEvent) : Option Bool := g_i_levelsOk k (l0_i_levelsOk k k) a0
end
noncomputable section
def b0_i_prevOk (k : Nat) (L0 : TEvent → Int → Option Bool) (a0 : TEvent) (v1 : Int) : Option Bool := (br (decide (v1 < (a0.2.2.2.2.2.2.2.1.length : Int))) (gd (decide (0 ≤ v1)) (gd (decide (v1 < (a0.2.2.2.2.2.2.2.1.length : Int))) (bd (i_within k (rd 0 a0.2.2.2.2.2.2.2.1 v1.toNat) 1 1000000) fun r1 => (br (!r1) (some false) (br ((rd 0 a0.2.2.2.2.2.2.2.1 v1.toNat) == a0.1) (some false) (br (decide (v1 > 0)) (gd (decide (0 ≤ (w64 (v1 - 1)))) (gd (decide ((w64 (v1 - 1)) < (a0.2.2.2.2.2.2.2.1.length : Int))) (br (decide ((rd 0 a0.2.2.2.2.2.2.2.1 (w64 (v1 - 1)).toNat) ≥ (rd 0 a0.2.2.2.2.2.2.2.1 v1.toNat))) (some false) (L0 a0 (w64 (v1 + 1)))))) (L0 a0 (w64 (v1 + 1))))))))) (br (decide ((a0.2.2.2.2.2.2.2.1.length : Int) ≤ 3)) (some ((a0.2.1 == 1) == ((a0.2.2.2.2.2.2.2.1.length : Int) == 0))) (some false)))
def l0_i_prevOk (k : Nat) : Nat → TEvent → Int → Option Bool
  | 0, _, _ => none
  | n + 1, a0, v1 => b0_i_prevOk k (l0_i_prevOk k n) a0 v1
def g_i_prevOk (k : Nat) (L0 : TEvent → Int → Option Bool) (a0 : TEvent) : Option Bool := (L0 a0 0)
def i_prevOk (k : Nat) (a0 : TEvent) : Option Bool := g_i_prevOk k (l0_i_prevOk k k) a0
end
def i_EventOk (k : Nat) (a0 : TEvent) : Option Bool := (bd (i_within k a0.1 1 1000000) fun r1 => (br (!r1) (some false) (bd (i_within k a0.2.1 1 5) fun r2 => (br (!r2) (some false) (bd (i_within k a0.2.2.1 1 5) fun r3 => (br (!r3) (some false) (bd (i_within k a0.2.2.2.2.2.2.2.2.1 0 1000000) fun r4 => (br (!r4) (some false) (bd (i_levelsOk k a0) fun r5 => (br (!r5) (some false) (bd (i_prevOk k a0) fun r6 => (br (!r6) (some false) (br (a0.2.1 == 2) (bd (i_within k a0.2.2.2.1 1 5) fun r7 => (br r7 (bd (i_within k a0.2.2.2.2.1 0 3) fun r8 => (br r8 (some (a0.2.2.2.2.2.2.1.toList == (⟨#[]⟩ : ByteArray).toList)) (some false))) (some false))) (br (a0.2.1 == 4) (br (a0.2.2.2.1 == 0) (br (a0.2.2.2.2.1 == 0) (br (decide ((a0.2.2.2.2.2.2.1.size : Int) ≤ 24)) (some true) (some false)) (some false)) (some false)) (br (a0.2.2.2.1 == 0) (br (a0.2.2.2.2.1 == 0) (br (decide ((a0.2.2.2.2.2.2.1.size : Int) ≤ 24)) (br (a0.2.1 == 5) (some true) (some (a0.2.2.2.2.2.2.1.toList == (⟨#[]⟩ : ByteArray).toList))) (some false)) (some false)) (some false))))))))))))))))
noncomputable section
def b0_i_eventAt (k : Nat) (L0 : TRoom → Int → Int → Option Int) (a0 : TRoom) (v1 : Int) (a1 : Int) : Option Int := (br (decide (v1 < (a0.1.length : Int))) (gd (decide (0 ≤ v1)) (gd (decide (v1 < (a0.1.length : Int))) (br ((rd dTEvent a0.1 v1.toNat).1 == a1) (some v1) (L0 a0 (w64 (v1 + 1)) a1)))) (some (-1)))
def l0_i_eventAt (k : Nat) : Nat → TRoom → Int → Int → Option Int
  | 0, _, _, _ => none
  | n + 1, a0, v1, a1 => b0_i_eventAt k (l0_i_eventAt k n) a0 v1 a1
def g_i_eventAt (k : Nat) (L0 : TRoom → Int → Int → Option Int) (a0 : TRoom) (a1 : Int) : Option Int := (L0 a0 0 a1)
def i_eventAt (k : Nat) (a0 : TRoom) (a1 : Int) : Option Int := g_i_eventAt k (l0_i_eventAt k k) a0 a1
end
def i_copyEvent (k : Nat) (a0 : TEvent) : Option TEvent := (gd (decide (a0.2.2.2.2.2.1.length ≤ maxRow)) (gd (decide (a0.2.2.2.2.2.2.2.1.length ≤ maxRow)) (some a0)))
noncomputable section
def b0_i_Known (k : Nat) (L0 : Int → List TEvent → Int → Option (TEvent × Bool)) (a1 : Int) (a0 : List TEvent) (v1 : Int) : Option (TEvent × Bool) := (br (decide (v1 < (a0.length : Int))) (gd (decide (0 ≤ v1)) (gd (decide (v1 < (a0.length : Int))) (br ((rd dTEvent a0 v1.toNat).1 == a1) (bd (i_copyEvent k (rd dTEvent a0 v1.toNat)) fun r1 => (some (r1, true))) (L0 a1 a0 (w64 (v1 + 1)))))) (some ((0, 0, 0, 0, 0, [], ByteArray.empty, [], 0, ()), false)))
def l0_i_Known (k : Nat) : Nat → Int → List TEvent → Int → Option (TEvent × Bool)
  | 0, _, _, _ => none
  | n + 1, a1, a0, v1 => b0_i_Known k (l0_i_Known k n) a1 a0 v1
def g_i_Known (k : Nat) (L0 : Int → List TEvent → Int → Option (TEvent × Bool)) (a0 : List TEvent) (a1 : Int) : Option (TEvent × Bool) := (L0 a1 a0 0)
def i_Known (k : Nat) (a0 : List TEvent) (a1 : Int) : Option (TEvent × Bool) := g_i_Known k (l0_i_Known k k) a0 a1
end
noncomputable section
def b0_i_At (k : Nat) (L0 : Int → List TItem → Int → Option Int) (a1 : Int) (a0 : List TItem) (v1 : Int) : Option Int := (br (decide (v1 < (a0.length : Int))) (gd (decide (0 ≤ v1)) (gd (decide (v1 < (a0.length : Int))) (br ((rd dTItem a0 v1.toNat).1 == a1) (some (rd dTItem a0 v1.toNat).2.1) (L0 a1 a0 (w64 (v1 + 1)))))) (some 0))
def l0_i_At (k : Nat) : Nat → Int → List TItem → Int → Option Int
  | 0, _, _, _ => none
  | n + 1, a1, a0, v1 => b0_i_At k (l0_i_At k n) a1 a0 v1
def g_i_At (k : Nat) (L0 : Int → List TItem → Int → Option Int) (a0 : List TItem) (a1 : Int) : Option Int := (L0 a1 a0 0)
def i_At (k : Nat) (a0 : List TItem) (a1 : Int) : Option Int := g_i_At k (l0_i_At k k) a0 a1
end
def i_tells (k : Nat) (a0 : List TEvent) (a1 : List TItem) (a2 : Int) : Option (TEvent × Bool) := (bd (i_At k a1 a2) fun r1 => (br (r1 == 0) (some ((0, 0, 0, 0, 0, [], ByteArray.empty, [], 0, ()), false)) (bd (i_Known k a0 r1) fun r2 => (some (r2.1, r2.2)))))
def i_MemberOf (k : Nat) (a0 : List TEvent) (a1 : List TItem) (a2 : Int) : Option Int := (bd (i_within k a2 1 5) fun r1 => (br (!r1) (some 0) (bd (i_tells k a0 a1 (w64 (10 + a2))) fun r2 => (br (!r2.2) (some 0) (br (r2.1.2.1 != 2) (some 0) (br (r2.1.2.2.2.1 != a2) (some 0) (some r2.1.2.2.2.2.1)))))))
def i_created (k : Nat) (a0 : List TEvent) (a1 : List TItem) (a2 : Int) : Option Bool := (bd (i_tells k a0 a1 1) fun r1 => (br r1.2 (br (r1.1.2.1 == 1) (some (r1.1.2.2.1 == a2)) (some false)) (some false)))
def i_LevelOf (k : Nat) (a0 : List TEvent) (a1 : List TItem) (a2 : Int) : Option Int := (bd (i_within k a2 1 5) fun r1 => (br (!r1) (some 0) (bd (i_tells k a0 a1 2) fun r2 => (br r2.2 (br (r2.1.2.1 == 3) (br ((r2.1.2.2.2.2.2.1.length : Int) == 5) (gd (decide (0 ≤ (w64 (a2 - 1)))) (gd (decide ((w64 (a2 - 1)) < (r2.1.2.2.2.2.2.1.length : Int))) (some (rd 0 r2.1.2.2.2.2.2.1 (w64 (a2 - 1)).toNat)))) (bd (i_created k a0 a1 a2) fun r3 => (br r3 (some 100) (some 0)))) (bd (i_created k a0 a1 a2) fun r4 => (br r4 (some 100) (some 0)))) (bd (i_created k a0 a1 a2) fun r5 => (br r5 (some 100) (some 0)))))))
noncomputable section
def b0_i_memberAllowed (k : Nat) (L0 : List TItem → Int → TEvent → List TEvent → Int → Int → Bool → Option Bool) (a1 : List TItem) (v1 : Int) (a2 : TEvent) (a0 : List TEvent) (r1 : Int) (r2 : Int) (r3 : Bool) : Option Bool := (br (decide (v1 < (a1.length : Int))) (gd (decide (0 ≤ v1)) (gd (decide (v1 < (a1.length : Int))) (br (decide ((rd dTItem a1 v1.toNat).1 > 10)) (br (a2.2.2.2.2.1 == 2) (some true) (br (a2.2.2.2.2.1 == 0) (some true) (some false))) (L0 a1 (w64 (v1 + 1)) a2 a0 r1 r2 r3)))) (br (a2.2.2.2.2.1 == 2) (some true) (br (a2.2.2.2.2.1 == 0) (some true) (some false))))
def b1_i_memberAllowed (k : Nat) (L1 : List TItem → Int → TEvent → List TEvent → Int → Int → Bool → Option Bool) (a1 : List TItem) (v2 : Int) (a2 : TEvent) (a0 : List TEvent) (r1 : Int) (r2 : Int) (r6 : Bool) : Option Bool := (br (decide (v2 < (a1.length : Int))) (gd (decide (0 ≤ v2)) (gd (decide (v2 < (a1.length : Int))) (br (decide ((rd dTItem a1 v2.toNat).1 > 10)) (br (a2.2.2.2.2.1 == 2) (br (r2 == 2) (some true) (br (!(decide (v2 ≥ 0))) (some true) (br (a2.2.2.2.2.1 == 0) (some (r2 == 2)) (some false)))) (br (a2.2.2.2.2.1 == 0) (some (r2 == 2)) (some false))) (L1 a1 (w64 (v2 + 1)) a2 a0 r1 r2 r6)))) (br (a2.2.2.2.2.1 == 2) (br (r2 == 2) (some true) (some true)) (br (a2.2.2.2.2.1 == 0) (some (r2 == 2)) (some false))))
def l0_i_memberAllowed (k : Nat) : Nat → List TItem → Int → TEvent → List TEvent → Int → Int → Bool → Option Bool
  | 0, _, _, _, _, _, _, _ => none
  | n + 1, a1, v1, a2, a0, r1, r2, r3 => b0_i_memberAllowed k (l0_i_memberAllowed k n) a1 v1 a2 a0 r1 r2 r3
def l1_i_memberAllowed (k : Nat) : Nat → List TItem → Int → TEvent → List TEvent → Int → Int → Bool → Option Bool
  | 0, _, _, _, _, _, _, _ => none
  | n + 1, a1, v2, a2, a0, r1, r2, r6 => b1_i_memberAllowed k (l1_i_memberAllowed k n) a1 v2 a2 a0 r1 r2 r6
def g_i_memberAllowed (k : Nat) (L0 : List TItem → Int → TEvent → List TEvent → Int → Int → Bool → Option Bool) (L1 : List TItem → Int → TEvent → List TEvent → Int → Int → Bool → Option Bool) (a0 : List TEvent) (a1 : List TItem) (a2 : TEvent) : Option Bool := (bd (i_MemberOf k a0 a1 a2.2.2.1) fun r1 => (bd (i_MemberOf k a0 a1 a2.2.2.2.1) fun r2 => (br (r2 == 1) (br (a2.2.2.1 == a2.2.2.2.1) (bd (i_created k a0 a1 a2.2.2.2.1) fun r3 => (br r3 (L0 a1 0 a2 a0 r1 r2 r3) (br (a2.2.2.2.2.1 == 2) (some true) (br (a2.2.2.2.2.1 == 0) (some true) (some false))))) (br (r1 != 2) (some false) (bd (i_LevelOf k a0 a1 a2.2.2.1) fun r4 => (br (decide (r4 ≥ 50)) (bd (i_LevelOf k a0 a1 a2.2.2.2.1) fun r5 => (br (a2.2.2.2.2.1 == 1) (some (r2 == 0)) (br (a2.2.2.2.2.1 == 0) (some (decide (r4 > r5))) (br (a2.2.2.2.2.1 == 3) (br (r2 != 3) (some (decide (r4 > r5))) (some false)) (some false))))) (br (a2.2.2.2.2.1 == 1) (some (r2 == 0)) (br (a2.2.2.2.2.1 == 0) (some false) (br (a2.2.2.2.2.1 == 3) (br (r2 != 3) (some false) (some false)) (some false)))))))) (br (a2.2.2.1 == a2.2.2.2.1) (bd (i_created k a0 a1 a2.2.2.2.1) fun r6 => (br r6 (L1 a1 0 a2 a0 r1 r2 r6) (br (a2.2.2.2.2.1 == 2) (br (r2 == 2) (some true) (br (a2.2.2.2.2.1 == 0) (some (r2 == 2)) (some false))) (br (a2.2.2.2.2.1 == 0) (some (r2 == 2)) (some false))))) (br (r1 != 2) (some false) (bd (i_LevelOf k a0 a1 a2.2.2.1) fun r7 => (br (decide (r7 ≥ 50)) (bd (i_LevelOf k a0 a1 a2.2.2.2.1) fun r8 => (br (a2.2.2.2.2.1 == 1) (some (r2 == 0)) (br (a2.2.2.2.2.1 == 0) (br (r2 == 2) (some (decide (r7 > r8))) (some false)) (br (a2.2.2.2.2.1 == 3) (br (r2 != 3) (some (decide (r7 > r8))) (some false)) (some false))))) (br (a2.2.2.2.2.1 == 1) (some (r2 == 0)) (br (a2.2.2.2.2.1 == 0) (br (r2 == 2) (some false) (some false)) (br (a2.2.2.2.2.1 == 3) (br (r2 != 3) (some false) (some false)) (some false)))))))))))
def i_memberAllowed (k : Nat) (a0 : List TEvent) (a1 : List TItem) (a2 : TEvent) : Option Bool := g_i_memberAllowed k (l0_i_memberAllowed k k) (l1_i_memberAllowed k k) a0 a1 a2
end
noncomputable section
def b0_i_powerAllowed (k : Nat) (L0 : List TEvent → List TItem → Int → TEvent → Int → Option Bool) (a0 : List TEvent) (a1 : List TItem) (r1 : Int) (a2 : TEvent) (v1 : Int) : Option Bool := (br (decide (v1 < (a2.2.2.2.2.2.1.length : Int))) (gd (decide (0 ≤ v1)) (gd (decide (v1 < (a2.2.2.2.2.2.1.length : Int))) (bd (i_LevelOf k a0 a1 (w64 (v1 + 1))) fun r2 => (br ((rd 0 a2.2.2.2.2.2.1 v1.toNat) != r2) (br (decide ((rd 0 a2.2.2.2.2.2.1 v1.toNat) > r1)) (some false) (br (decide (r2 ≥ r1)) (br ((w64 (v1 + 1)) != a2.2.2.1) (some false) (L0 a0 a1 r1 a2 (w64 (v1 + 1)))) (L0 a0 a1 r1 a2 (w64 (v1 + 1))))) (L0 a0 a1 r1 a2 (w64 (v1 + 1))))))) (some (decide (r1 ≥ 50))))
def l0_i_powerAllowed (k : Nat) : Nat → List TEvent → List TItem → Int → TEvent → Int → Option Bool
  | 0, _, _, _, _, _ => none
  | n + 1, a0, a1, r1, a2, v1 => b0_i_powerAllowed k (l0_i_powerAllowed k n) a0 a1 r1 a2 v1
def g_i_powerAllowed (k : Nat) (L0 : List TEvent → List TItem → Int → TEvent → Int → Option Bool) (a0 : List TEvent) (a1 : List TItem) (a2 : TEvent) : Option Bool := (bd (i_LevelOf k a0 a1 a2.2.2.1) fun r1 => (L0 a0 a1 r1 a2 0))
def i_powerAllowed (k : Nat) (a0 : List TEvent) (a1 : List TItem) (a2 : TEvent) : Option Bool := g_i_powerAllowed k (l0_i_powerAllowed k k) a0 a1 a2
end
def i_Allowed (k : Nat) (a0 : List TEvent) (a1 : List TItem) (a2 : TEvent) : Option Bool := (bd (i_EventOk k a2) fun r1 => (br (!r1) (some false) (br (a2.2.1 == 1) (some ((a1.length : Int) == 0)) (bd (i_tells k a0 a1 1) fun r2 => (br (!r2.2) (some false) (br (r2.1.2.1 != 1) (some false) (br (a2.2.1 == 2) (bd (i_memberAllowed k a0 a1 a2) fun r3 => (some r3)) (bd (i_MemberOf k a0 a1 a2.2.2.1) fun r4 => (br (r4 != 2) (some false) (br (a2.2.1 == 3) (bd (i_powerAllowed k a0 a1 a2) fun r5 => (some r5)) (br (a2.2.1 == 4) (bd (i_LevelOf k a0 a1 a2.2.2.1) fun r6 => (some (decide (r6 ≥ 50)))) (some true))))))))))))
def i_KeyOf (k : Nat) (a0 : TEvent) : Option Int := (br (a0.2.1 == 1) (some 1) (br (a0.2.1 == 3) (some 2) (br (a0.2.1 == 4) (some 3) (br (a0.2.1 == 2) (bd (i_within k a0.2.2.2.1 1 5) fun r1 => (br r1 (some (w64 (10 + a0.2.2.2.1))) (some 0))) (some 0)))))
def slices_Insert_impl_Item_impl_Item (k : Nat) (a0 : List TItem) (a1 : Int) (a2 : List TItem) : Option (List TItem) := insO a0 a1 a2
noncomputable section
def b0_i_StateOk (k : Nat) (L0 : List TItem → Int → Option Bool) (a0 : List TItem) (v1 : Int) : Option Bool := (br (decide (v1 < (a0.length : Int))) (gd (decide (0 ≤ v1)) (gd (decide (v1 < (a0.length : Int))) (bd (i_within k (rd dTItem a0 v1.toNat).1 1 3) fun r1 => (br (!r1) (bd (i_within k (rd dTItem a0 v1.toNat).1 11 15) fun r2 => (br (!r2) (some false) (bd (i_within k (rd dTItem a0 v1.toNat).2.1 1 1000000) fun r3 => (br (!r3) (some false) (br (decide (v1 > 0)) (gd (decide (0 ≤ (w64 (v1 - 1)))) (gd (decide ((w64 (v1 - 1)) < (a0.length : Int))) (br (decide ((rd dTItem a0 (w64 (v1 - 1)).toNat).1 ≥ (rd dTItem a0 v1.toNat).1)) (some false) (L0 a0 (w64 (v1 + 1)))))) (L0 a0 (w64 (v1 + 1)))))))) (bd (i_within k (rd dTItem a0 v1.toNat).2.1 1 1000000) fun r4 => (br (!r4) (some false) (br (decide (v1 > 0)) (gd (decide (0 ≤ (w64 (v1 - 1)))) (gd (decide ((w64 (v1 - 1)) < (a0.length : Int))) (br (decide ((rd dTItem a0 (w64 (v1 - 1)).toNat).1 ≥ (rd dTItem a0 v1.toNat).1)) (some false) (L0 a0 (w64 (v1 + 1)))))) (L0 a0 (w64 (v1 + 1)))))))))) (some (decide ((a0.length : Int) ≤ 8))))
def l0_i_StateOk (k : Nat) : Nat → List TItem → Int → Option Bool
  | 0, _, _ => none
  | n + 1, a0, v1 => b0_i_StateOk k (l0_i_StateOk k n) a0 v1
def g_i_StateOk (k : Nat) (L0 : List TItem → Int → Option Bool) (a0 : List TItem) : Option Bool := (L0 a0 0)
def i_StateOk (k : Nat) (a0 : List TItem) : Option Bool := g_i_StateOk k (l0_i_StateOk k k) a0
end
noncomputable section
def b0_i_Put (k : Nat) (L0 : List TItem → Int → Int → Int → Option (List TItem)) (a0 : List TItem) (a1 : Int) (a2 : Int) (v1 : Int) : Option (List TItem) := (br (decide (v1 < (a0.length : Int))) (gd (decide (0 ≤ v1)) (gd (decide (v1 < (a0.length : Int))) (br (decide ((rd dTItem a0 v1.toNat).1 < a1)) (L0 a0 a1 a2 (w64 (v1 + 1))) (br (decide (v1 < (a0.length : Int))) (gd (decide (0 ≤ v1)) (gd (decide (v1 < (a0.length : Int))) (br ((rd dTItem a0 v1.toNat).1 == a1) (gd (decide (0 ≤ v1)) (gd (decide (v1 < (a0.length : Int))) (bd (i_StateOk k a0) fun r1 => (br (!r1) (gd (decide (a0.length ≤ maxRow)) (some a0)) (bd (i_StateOk k (a0.set v1.toNat ((rd dTItem a0 v1.toNat).1, a2, ()))) fun r2 => (br (!r2) (gd (decide (a0.length ≤ maxRow)) (some a0)) (some (a0.set v1.toNat ((rd dTItem a0 v1.toNat).1, a2, ()))))))))) (bd (slices_Insert_impl_Item_impl_Item k a0 v1 ([(a1, a2, ())] : List TItem)) fun r3 => (bd (i_StateOk k a0) fun r4 => (br (!r4) (gd (decide (a0.length ≤ maxRow)) (some a0)) (bd (i_StateOk k r3) fun r5 => (br (!r5) (gd (decide (a0.length ≤ maxRow)) (some a0)) (some r3))))))))) (bd (slices_Insert_impl_Item_impl_Item k a0 v1 ([(a1, a2, ())] : List TItem)) fun r6 => (bd (i_StateOk k a0) fun r7 => (br (!r7) (gd (decide (a0.length ≤ maxRow)) (some a0)) (bd (i_StateOk k r6) fun r8 => (br (!r8) (gd (decide (a0.length ≤ maxRow)) (some a0)) (some r6)))))))))) (br (decide (v1 < (a0.length : Int))) (gd (decide (0 ≤ v1)) (gd (decide (v1 < (a0.length : Int))) (br ((rd dTItem a0 v1.toNat).1 == a1) (gd (decide (0 ≤ v1)) (gd (decide (v1 < (a0.length : Int))) (bd (i_StateOk k a0) fun r9 => (br (!r9) (gd (decide (a0.length ≤ maxRow)) (some a0)) (bd (i_StateOk k (a0.set v1.toNat ((rd dTItem a0 v1.toNat).1, a2, ()))) fun r10 => (br (!r10) (gd (decide (a0.length ≤ maxRow)) (some a0)) (some (a0.set v1.toNat ((rd dTItem a0 v1.toNat).1, a2, ()))))))))) (bd (slices_Insert_impl_Item_impl_Item k a0 v1 ([(a1, a2, ())] : List TItem)) fun r11 => (bd (i_StateOk k a0) fun r12 => (br (!r12) (gd (decide (a0.length ≤ maxRow)) (some a0)) (bd (i_StateOk k r11) fun r13 => (br (!r13) (gd (decide (a0.length ≤ maxRow)) (some a0)) (some r11))))))))) (bd (slices_Insert_impl_Item_impl_Item k a0 v1 ([(a1, a2, ())] : List TItem)) fun r14 => (bd (i_StateOk k a0) fun r15 => (br (!r15) (gd (decide (a0.length ≤ maxRow)) (some a0)) (bd (i_StateOk k r14) fun r16 => (br (!r16) (gd (decide (a0.length ≤ maxRow)) (some a0)) (some r14))))))))
def l0_i_Put (k : Nat) : Nat → List TItem → Int → Int → Int → Option (List TItem)
  | 0, _, _, _, _ => none
  | n + 1, a0, a1, a2, v1 => b0_i_Put k (l0_i_Put k n) a0 a1 a2 v1
def g_i_Put (k : Nat) (L0 : List TItem → Int → Int → Int → Option (List TItem)) (a0 : List TItem) (a1 : Int) (a2 : Int) : Option (List TItem) := (gd (decide (a0.length ≤ maxRow)) (L0 a0 a1 a2 0))
def i_Put (k : Nat) (a0 : List TItem) (a1 : Int) (a2 : Int) : Option (List TItem) := g_i_Put k (l0_i_Put k k) a0 a1 a2
end
def i_copyState (k : Nat) (a0 : List TItem) : Option (List TItem) := (gd (decide (a0.length ≤ maxRow)) (some a0))
def slices_Sort_int_int (k : Nat) (a0 : List Int) : Option (Unit × List Int × Unit) := sortO a0
noncomputable section
def b3_i_keysIn (k : Nat) (L3 : Int → Int → Int → List Int → List (List TItem) → Int → Option (List Int)) (v6 : Int) (v5 : Int) (v7 : Int) (xs8 : List Int) (a0 : List (List TItem)) (v1 : Int) : Option (List Int) := (br (decide (v7 < (((xs8.length - v5.toNat) : Nat) : Int))) (gd (decide (0 ≤ v7)) (gd (decide (v7 < (((xs8.length - v5.toNat) : Nat) : Int))) (gd (decide (0 ≤ (w64 (v7 - 1)))) (gd (decide ((w64 (v7 - 1)) < (((xs8.length - v5.toNat) : Nat) : Int))) (br ((rd 0 xs8 (v5.toNat + v7.toNat)) != (rd 0 xs8 (v5.toNat + (w64 (v7 - 1)).toNat))) (gd (decide (0 ≤ v7)) (gd (decide (v7 < (((xs8.length - v5.toNat) : Nat) : Int))) (gd (decide (0 ≤ v6)) (gd (decide (v6 < (xs8.length : Int))) (L3 (w64 (v6 + 1)) v5 (w64 (v7 + 1)) (xs8.set v6.toNat (rd 0 xs8 (v5.toNat + v7.toNat))) a0 v1))))) (L3 v6 v5 (w64 (v7 + 1)) xs8 a0 v1)))))) (gd (decide (0 ≤ v6)) (gd (decide (v6 ≤ (xs8.length : Int))) (gd (decide (0 ≤ v6)) (gd (decide (v6 ≤ (((clr 0 (some v6.toNat) none xs8).length : Nat) : Int))) (some ((clr 0 (some v6.toNat) none xs8).take (0 + v6.toNat))))))))
def b2_i_keysIn (k : Nat) (L3 : Int → Int → Int → List Int → List (List TItem) → Int → Option (List Int)) (L2 : Int → (Unit × List Int × Unit) → List (List TItem) → Int → Option (List Int)) (v5 : Int) (r2 : Unit × List Int × Unit) (a0 : List (List TItem)) (v1 : Int) : Option (List Int) := (br (decide (v5 < (r2.2.1.length : Int))) (gd (decide (0 ≤ v5)) (gd (decide (v5 < (r2.2.1.length : Int))) (gd (decide (0 ≤ (w64 (v5 - 1)))) (gd (decide ((w64 (v5 - 1)) < (r2.2.1.length : Int))) (br ((rd 0 r2.2.1 v5.toNat) == (rd 0 r2.2.1 (w64 (v5 - 1)).toNat)) (gd (decide (0 ≤ v5)) (gd (decide (v5 ≤ (r2.2.1.length : Int))) (L3 v5 v5 1 r2.2.1 a0 v1))) (L2 (w64 (v5 + 1)) r2 a0 v1)))))) (some r2.2.1))
def b0_i_keysIn (k : Nat) (L1 : List (List TItem) → Int → Int → List Int → Option (List Int)) (L2 : Int → (Unit × List Int × Unit) → List (List TItem) → Int → Option (List Int)) (a0 : List (List TItem)) (v1 : Int) (xs2 : List Int) : Option (List Int) := (br (decide (v1 < (a0.length : Int))) (gd (decide (0 ≤ v1)) (gd (decide (v1 < (a0.length : Int))) (L1 a0 v1 0 xs2))) (bd (slices_Sort_int_int k xs2) fun r2 => (gd (Nat.beq r2.2.1.length xs2.length) (br (decide ((r2.2.1.length : Int) < 2)) (some r2.2.1) (L2 1 r2 a0 v1)))))
def b1_i_keysIn (k : Nat) (L1 : List (List TItem) → Int → Int → List Int → Option (List Int)) (L0 : List (List TItem) → Int → List Int → Option (List Int)) (a0 : List (List TItem)) (v1 : Int) (v3 : Int) (xs4 : List Int) : Option (List Int) := (br (decide (v3 < (((rd [] a0 v1.toNat).length : Nat) : Int))) (gd (decide (0 ≤ v3)) (gd (decide (v3 < (((rd [] a0 v1.toNat).length : Nat) : Int))) (bd (i_within k (rd dTItem (rd [] a0 v1.toNat) v3.toNat).1 0 15) fun r1 => (br r1 (gd (decide (xs4.length + [(rd dTItem (rd [] a0 v1.toNat) v3.toNat).1].length ≤ maxRow)) (L1 a0 v1 (w64 (v3 + 1)) (xs4 ++ [(rd dTItem (rd [] a0 v1.toNat) v3.toNat).1]))) (L1 a0 v1 (w64 (v3 + 1)) xs4))))) (L0 a0 (w64 (v1 + 1)) xs4))
def l3_i_keysIn (k : Nat) : Nat → Int → Int → Int → List Int → List (List TItem) → Int → Option (List Int)
  | 0, _, _, _, _, _, _ => none
  | n + 1, v6, v5, v7, xs8, a0, v1 => b3_i_keysIn k (l3_i_keysIn k n) v6 v5 v7 xs8 a0 v1
def l2_i_keysIn (k : Nat) : Nat → Int → (Unit × List Int × Unit) → List (List TItem) → Int → Option (List Int)
  | 0, _, _, _, _ => none
  | n + 1, v5, r2, a0, v1 => b2_i_keysIn k (l3_i_keysIn k n) (l2_i_keysIn k n) v5 r2 a0 v1
def q0_i_keysIn (k : Nat) : Nat → (List (List TItem) → Int → List Int → Option (List Int)) × (List (List TItem) → Int → Int → List Int → Option (List Int))
  | 0 => (fun _ _ _ => none, fun _ _ _ _ => none)
  | n + 1 => (b0_i_keysIn k (q0_i_keysIn k n).2 (l2_i_keysIn k n), b1_i_keysIn k (q0_i_keysIn k n).2 (q0_i_keysIn k n).1)
def l0_i_keysIn (k : Nat) (n : Nat) : List (List TItem) → Int → List Int → Option (List Int) := (q0_i_keysIn k n).1
def l1_i_keysIn (k : Nat) (n : Nat) : List (List TItem) → Int → Int → List Int → Option (List Int) := (q0_i_keysIn k n).2
theorem z0_i_keysIn (k : Nat) (n : Nat) (a0 : List (List TItem)) (v1 : Int) (xs2 : List Int) : l0_i_keysIn k (n + 1) a0 v1 xs2 = b0_i_keysIn k (l1_i_keysIn k n) (l2_i_keysIn k n) a0 v1 xs2 := rfl
theorem z1_i_keysIn (k : Nat) (n : Nat) (a0 : List (List TItem)) (v1 : Int) (v3 : Int) (xs4 : List Int) : l1_i_keysIn k (n + 1) a0 v1 v3 xs4 = b1_i_keysIn k (l1_i_keysIn k n) (l0_i_keysIn k n) a0 v1 v3 xs4 := rfl
def g_i_keysIn (k : Nat) (L0 : List (List TItem) → Int → List Int → Option (List Int)) (a0 : List (List TItem)) : Option (List Int) := (L0 a0 0 [])
def i_keysIn (k : Nat) (a0 : List (List TItem)) : Option (List Int) := g_i_keysIn k (l0_i_keysIn k k) a0
end
noncomputable section
def b0_i_allTell (k : Nat) (L0 : List (List TItem) → Int → Int → Option Bool) (a0 : List (List TItem)) (v1 : Int) (a1 : Int) : Option Bool := (br (decide (v1 < (a0.length : Int))) (gd (decide (0 ≤ v1)) (gd (decide (v1 < (a0.length : Int))) (bd (i_At k (rd [] a0 v1.toNat) a1) fun r1 => (gd (decide (0 < (a0.length : Int))) (bd (i_At k (rd [] a0 0) a1) fun r2 => (br (r1 != r2) (some (!(decide (v1 ≥ 0)))) (L0 a0 (w64 (v1 + 1)) a1))))))) (some true))
def l0_i_allTell (k : Nat) : Nat → List (List TItem) → Int → Int → Option Bool
  | 0, _, _, _ => none
  | n + 1, a0, v1, a1 => b0_i_allTell k (l0_i_allTell k n) a0 v1 a1
def g_i_allTell (k : Nat) (L0 : List (List TItem) → Int → Int → Option Bool) (a0 : List (List TItem)) (a1 : Int) : Option Bool := (L0 a0 0 a1)
def i_allTell (k : Nat) (a0 : List (List TItem)) (a1 : Int) : Option Bool := g_i_allTell k (l0_i_allTell k k) a0 a1
end
noncomputable section
def b0_i_Agreed (k : Nat) (L0 : List (List TItem) → List Int → Int → List TItem → Option (List TItem)) (a0 : List (List TItem)) (r1 : List Int) (v1 : Int) (xs2 : List TItem) : Option (List TItem) := (br (decide (v1 < (r1.length : Int))) (gd (decide (0 ≤ v1)) (gd (decide (v1 < (r1.length : Int))) (bd (i_allTell k a0 (rd 0 r1 v1.toNat)) fun r2 => (br r2 (gd (decide (0 < (a0.length : Int))) (bd (i_At k (rd [] a0 0) (rd 0 r1 v1.toNat)) fun r3 => (gd (decide (xs2.length + ([((rd 0 r1 v1.toNat), r3, ())] : List TItem).length ≤ maxRow)) (L0 a0 r1 (w64 (v1 + 1)) (xs2 ++ ([((rd 0 r1 v1.toNat), r3, ())] : List TItem)))))) (L0 a0 r1 (w64 (v1 + 1)) xs2))))) (some xs2))
def l0_i_Agreed (k : Nat) : Nat → List (List TItem) → List Int → Int → List TItem → Option (List TItem)
  | 0, _, _, _, _ => none
  | n + 1, a0, r1, v1, xs2 => b0_i_Agreed k (l0_i_Agreed k n) a0 r1 v1 xs2
def g_i_Agreed (k : Nat) (L0 : List (List TItem) → List Int → Int → List TItem → Option (List TItem)) (a0 : List (List TItem)) : Option (List TItem) := (bd (i_keysIn k a0) fun r1 => (L0 a0 r1 0 []))
def i_Agreed (k : Nat) (a0 : List (List TItem)) : Option (List TItem) := g_i_Agreed k (l0_i_Agreed k k) a0
end
noncomputable section
def b0_i_Clash (k : Nat) (L0 : List (List TItem) → List Int → Int → List Int → Option (List Int)) (a0 : List (List TItem)) (r1 : List Int) (v1 : Int) (xs2 : List Int) : Option (List Int) := (br (decide (v1 < (r1.length : Int))) (gd (decide (0 ≤ v1)) (gd (decide (v1 < (r1.length : Int))) (bd (i_allTell k a0 (rd 0 r1 v1.toNat)) fun r2 => (br (!r2) (gd (decide (xs2.length + [(rd 0 r1 v1.toNat)].length ≤ maxRow)) (L0 a0 r1 (w64 (v1 + 1)) (xs2 ++ [(rd 0 r1 v1.toNat)]))) (L0 a0 r1 (w64 (v1 + 1)) xs2))))) (some xs2))
def l0_i_Clash (k : Nat) : Nat → List (List TItem) → List Int → Int → List Int → Option (List Int)
  | 0, _, _, _, _ => none
  | n + 1, a0, r1, v1, xs2 => b0_i_Clash k (l0_i_Clash k n) a0 r1 v1 xs2
def g_i_Clash (k : Nat) (L0 : List (List TItem) → List Int → Int → List Int → Option (List Int)) (a0 : List (List TItem)) : Option (List Int) := (bd (i_keysIn k a0) fun r1 => (L0 a0 r1 0 []))
def i_Clash (k : Nat) (a0 : List (List TItem)) : Option (List Int) := g_i_Clash k (l0_i_Clash k k) a0
end
noncomputable section
def b0_slices_Index_int_int (k : Nat) (L0 : List Int → Int → Int → Option Int) (a0 : List Int) (a1 : Int) (v1 : Int) : Option Int := (br (decide (v1 < (a0.length : Int))) (gd (decide (0 ≤ v1)) (gd (decide (v1 < (a0.length : Int))) (br (a1 == (rd 0 a0 v1.toNat)) (some v1) (L0 a0 a1 (w64 (v1 + 1)))))) (some (-1)))
def l0_slices_Index_int_int (k : Nat) : Nat → List Int → Int → Int → Option Int
  | 0, _, _, _ => none
  | n + 1, a0, a1, v1 => b0_slices_Index_int_int k (l0_slices_Index_int_int k n) a0 a1 v1
def g_slices_Index_int_int (k : Nat) (L0 : List Int → Int → Int → Option Int) (a0 : List Int) (a1 : Int) : Option Int := (L0 a0 a1 0)
def slices_Index_int_int (k : Nat) (a0 : List Int) (a1 : Int) : Option Int := g_slices_Index_int_int k (l0_slices_Index_int_int k k) a0 a1
end
def slices_Contains_int_int (k : Nat) (a0 : List Int) (a1 : Int) : Option Bool := (bd (slices_Index_int_int k a0 a1) fun r1 => (some (decide (r1 ≥ 0))))
noncomputable section
def b0_i_aheadOf (k : Nat) (L1 : List TEvent → Nat → (TEvent × Bool) → Int → List Int → List Int → Option (List Int)) (a0 : List TEvent) (u1 : Nat) (xs2 : List Int) (xs3 : List Int) : Option (List Int) := (br (decide ((((xs3.length - u1) : Nat) : Int) > 0)) (gd (decide (0 < (((xs3.length - u1) : Nat) : Int))) (bd (i_Known k a0 (rd 0 xs3 (u1 + 0))) fun r1 => (gd (decide (1 ≤ (((xs3.length - u1) : Nat) : Int))) (L1 a0 (u1 + 1) r1 0 xs2 xs3)))) (some xs2))
def b1_i_aheadOf (k : Nat) (L1 : List TEvent → Nat → (TEvent × Bool) → Int → List Int → List Int → Option (List Int)) (L0 : List TEvent → Nat → List Int → List Int → Option (List Int)) (a0 : List TEvent) (u4 : Nat) (r1 : TEvent × Bool) (v5 : Int) (xs6 : List Int) (xs7 : List Int) : Option (List Int) := (br (decide (v5 < (r1.1.2.2.2.2.2.2.2.1.length : Int))) (gd (decide (0 ≤ v5)) (gd (decide (v5 < (r1.1.2.2.2.2.2.2.2.1.length : Int))) (bd (i_Known k a0 (rd 0 r1.1.2.2.2.2.2.2.2.1 v5.toNat)) fun r2 => (br r2.2 (bd (slices_Contains_int_int k xs6 (rd 0 r1.1.2.2.2.2.2.2.2.1 v5.toNat)) fun r3 => (br (!r3) (gd (decide (xs6.length + [(rd 0 r1.1.2.2.2.2.2.2.2.1 v5.toNat)].length ≤ maxRow)) (gd (decide ((xs7.drop u4).length + [(rd 0 r1.1.2.2.2.2.2.2.2.1 v5.toNat)].length ≤ maxRow)) (L1 a0 0 r1 (w64 (v5 + 1)) (xs6 ++ [(rd 0 r1.1.2.2.2.2.2.2.2.1 v5.toNat)]) ((xs7.drop u4) ++ [(rd 0 r1.1.2.2.2.2.2.2.2.1 v5.toNat)])))) (L1 a0 u4 r1 (w64 (v5 + 1)) xs6 xs7))) (L1 a0 u4 r1 (w64 (v5 + 1)) xs6 xs7))))) (L0 a0 u4 xs6 xs7))
def q0_i_aheadOf (k : Nat) : Nat → (List TEvent → Nat → List Int → List Int → Option (List Int)) × (List TEvent → Nat → (TEvent × Bool) → Int → List Int → List Int → Option (List Int))
  | 0 => (fun _ _ _ _ => none, fun _ _ _ _ _ _ => none)
  | n + 1 => (b0_i_aheadOf k (q0_i_aheadOf k n).2, b1_i_aheadOf k (q0_i_aheadOf k n).2 (q0_i_aheadOf k n).1)
def l0_i_aheadOf (k : Nat) (n : Nat) : List TEvent → Nat → List Int → List Int → Option (List Int) := (q0_i_aheadOf k n).1
def l1_i_aheadOf (k : Nat) (n : Nat) : List TEvent → Nat → (TEvent × Bool) → Int → List Int → List Int → Option (List Int) := (q0_i_aheadOf k n).2
theorem z0_i_aheadOf (k : Nat) (n : Nat) (a0 : List TEvent) (u1 : Nat) (xs2 : List Int) (xs3 : List Int) : l0_i_aheadOf k (n + 1) a0 u1 xs2 xs3 = b0_i_aheadOf k (l1_i_aheadOf k n) a0 u1 xs2 xs3 := rfl
theorem z1_i_aheadOf (k : Nat) (n : Nat) (a0 : List TEvent) (u4 : Nat) (r1 : TEvent × Bool) (v5 : Int) (xs6 : List Int) (xs7 : List Int) : l1_i_aheadOf k (n + 1) a0 u4 r1 v5 xs6 xs7 = b1_i_aheadOf k (l1_i_aheadOf k n) (l0_i_aheadOf k n) a0 u4 r1 v5 xs6 xs7 := rfl
def g_i_aheadOf (k : Nat) (L0 : List TEvent → Nat → List Int → List Int → Option (List Int)) (a0 : List TEvent) (a1 : Int) : Option (List Int) := (L0 a0 0 [] [a1])
def i_aheadOf (k : Nat) (a0 : List TEvent) (a1 : Int) : Option (List Int) := g_i_aheadOf k (l0_i_aheadOf k k) a0 a1
end
def i_isHeavy (k : Nat) (a0 : TEvent) : Option Bool := (br (a0.2.1 == 3) (some true) (br (a0.2.1 == 2) (br (a0.2.2.2.2.1 == 0) (some (a0.2.2.1 != a0.2.2.2.1)) (br (a0.2.2.2.2.1 == 3) (some (a0.2.2.1 != a0.2.2.2.1)) (some false))) (some false)))
def i_Heavier (k : Nat) (a0 : List TEvent) (a1 : List TItem) (a2 : TEvent) (a3 : TEvent) : Option Bool := (bd (i_isHeavy k a2) fun r1 => (bd (i_isHeavy k a3) fun r2 => (br (!(r1 == r2)) (bd (i_isHeavy k a2) fun r3 => (some r3)) (bd (i_LevelOf k a0 a1 a2.2.2.1) fun r4 => (bd (i_LevelOf k a0 a1 a3.2.2.1) fun r5 => (br (r4 != r5) (some (decide (r4 > r5))) (br (a2.2.2.2.2.2.2.2.2.1 != a3.2.2.2.2.2.2.2.2.1) (some (decide (a2.2.2.2.2.2.2.2.2.1 < a3.2.2.2.2.2.2.2.2.1))) (some (decide (a2.1 < a3.1))))))))))
noncomputable section
def b3_i_Order (k : Nat) (L4 : List TEvent → List TItem → Int → List TEvent → Int → List Int → (List (Int × List Int)) → Option (List Int)) (a0 : List TEvent) (a1 : List TItem) (xs2 : List TEvent) (xs6 : List Int) (ms5 : List (Int × List Int)) : Option (List Int) := (L4 a0 a1 (-1) xs2 0 xs6 ms5)
def b4_i_Order (k : Nat) (L5 : List TEvent → Int → Int → List Int → (List (Int × List Int)) → List TEvent → List TItem → Int → Option (List Int)) (L3 : List TEvent → List TItem → List TEvent → List Int → (List (Int × List Int)) → Option (List Int)) (L6 : List TEvent → List TItem → Nat → List TEvent → List Int → (List (Int × List Int)) → Option (List Int)) (a0 : List TEvent) (a1 : List TItem) (v7 : Int) (xs2 : List TEvent) (v8 : Int) (xs6 : List Int) (ms5 : List (Int × List Int)) : Option (List Int) := (br (decide (v8 < (xs2.length : Int))) (gd (decide (0 ≤ v8)) (gd (decide (v8 < (xs2.length : Int))) (L5 xs2 0 v8 xs6 ms5 a0 a1 v7))) (br (decide (v7 < 0)) (some xs6) (gd (decide (0 ≤ v7)) (gd (decide (v7 < (xs2.length : Int))) (gd (decide (xs6.length + [(rd dTEvent xs2 v7.toNat).1].length ≤ maxRow)) (gd (decide (0 ≤ (xs2.length : Int))) (gd (decide ((xs2.length : Int) ≤ (xs2.length : Int))) (gd (decide (0 ≤ (w64 (v7 + 1)))) (gd (decide ((w64 (v7 + 1)) ≤ (xs2.length : Int))) (gd (decide (0 ≤ v7)) (gd (decide (v7 ≤ (w64 (v7 + 1)))) (br (v7 == (w64 (v7 + 1))) (L3 a0 a1 xs2 (xs6 ++ [(rd dTEvent xs2 v7.toNat).1]) ms5) (gd (decide (0 ≤ v7)) (gd (decide (v7 ≤ (xs2.length : Int))) (gd (decide (0 ≤ (w64 (v7 + 1)))) (gd (decide ((w64 (v7 + 1)) ≤ (xs2.length : Int))) (br (decide (((0 + v7.toNat) + (xs2.drop (w64 (v7 + 1)).toNat).length) ≤ xs2.length)) (gd (decide (0 ≤ (xs2.length : Int))) (gd (decide ((xs2.length : Int) ≤ (((app (0 + v7.toNat) (xs2.drop (w64 (v7 + 1)).toNat) xs2).length : Nat) : Int))) (gd (decide (0 ≤ ((((0 + v7.toNat) + (xs2.drop (w64 (v7 + 1)).toNat).length) : Nat) : Int))) (gd (decide (((((0 + v7.toNat) + (xs2.drop (w64 (v7 + 1)).toNat).length) : Nat) : Int) ≤ (xs2.length : Int))) (L6 a0 a1 ((0 + v7.toNat) + (xs2.drop (w64 (v7 + 1)).toNat).length) (clr dTEvent (some ((((0 + v7.toNat) + (xs2.drop (w64 (v7 + 1)).toNat).length) : Nat) : Int).toNat) (some (0 + (xs2.length : Int).toNat)) (app (0 + v7.toNat) (xs2.drop (w64 (v7 + 1)).toNat) xs2)) (xs6 ++ [(rd dTEvent xs2 v7.toNat).1]) ms5))))) (gd (decide ((xs2.take (0 + v7.toNat)).length + (xs2.drop (w64 (v7 + 1)).toNat).length ≤ maxRow)) (gd (decide (0 ≤ (xs2.length : Int))) (gd (decide ((xs2.length : Int) ≤ ((((xs2.take (0 + v7.toNat)) ++ (xs2.drop (w64 (v7 + 1)).toNat)).length : Nat) : Int))) (gd (decide (0 ≤ ((((xs2.take (0 + v7.toNat)) ++ (xs2.drop (w64 (v7 + 1)).toNat)).length : Nat) : Int))) (gd (decide (((((xs2.take (0 + v7.toNat)) ++ (xs2.drop (w64 (v7 + 1)).toNat)).length : Nat) : Int) ≤ (xs2.length : Int))) (L3 a0 a1 (clr dTEvent (some ((((xs2.take (0 + v7.toNat)) ++ (xs2.drop (w64 (v7 + 1)).toNat)).length : Nat) : Int).toNat) (some (0 + (xs2.length : Int).toNat)) ((xs2.take (0 + v7.toNat)) ++ (xs2.drop (w64 (v7 + 1)).toNat))) (xs6 ++ [(rd dTEvent xs2 v7.toNat).1]) ms5)))))))))))))))))))))))
def b5_i_Order (k : Nat) (L4 : List TEvent → List TItem → Int → List TEvent → Int → List Int → (List (Int × List Int)) → Option (List Int)) (L5 : List TEvent → Int → Int → List Int → (List (Int × List Int)) → List TEvent → List TItem → Int → Option (List Int)) (xs2 : List TEvent) (v9 : Int) (v8 : Int) (xs6 : List Int) (ms5 : List (Int × List Int)) (a0 : List TEvent) (a1 : List TItem) (v7 : Int) : Option (List Int) := (br (decide (v9 < (xs2.length : Int))) (gd (decide (0 ≤ v9)) (gd (decide (v9 < (xs2.length : Int))) (bd (slices_Contains_int_int k (mgetD [] ms5 (rd dTEvent xs2 v8.toNat).1) (rd dTEvent xs2 v9.toNat).1) fun r3 => (br r3 (br (!(decide (v9 ≥ 0))) (br (decide (v7 < 0)) (L4 a0 a1 v8 xs2 (w64 (v8 + 1)) xs6 ms5) (gd (decide (0 ≤ v7)) (gd (decide (v7 < (xs2.length : Int))) (bd (i_Heavier k a0 a1 (rd dTEvent xs2 v8.toNat) (rd dTEvent xs2 v7.toNat)) fun r4 => (br r4 (L4 a0 a1 v8 xs2 (w64 (v8 + 1)) xs6 ms5) (L4 a0 a1 v7 xs2 (w64 (v8 + 1)) xs6 ms5)))))) (L4 a0 a1 v7 xs2 (w64 (v8 + 1)) xs6 ms5)) (L5 xs2 (w64 (v9 + 1)) v8 xs6 ms5 a0 a1 v7))))) (br (decide (v7 < 0)) (L4 a0 a1 v8 xs2 (w64 (v8 + 1)) xs6 ms5) (gd (decide (0 ≤ v7)) (gd (decide (v7 < (xs2.length : Int))) (bd (i_Heavier k a0 a1 (rd dTEvent xs2 v8.toNat) (rd dTEvent xs2 v7.toNat)) fun r5 => (br r5 (L4 a0 a1 v8 xs2 (w64 (v8 + 1)) xs6 ms5) (L4 a0 a1 v7 xs2 (w64 (v8 + 1)) xs6 ms5)))))))
def b6_i_Order (k : Nat) (L7 : List TEvent → List TItem → Nat → Int → Int → List TEvent → List Int → (List (Int × List Int)) → Option (List Int)) (a0 : List TEvent) (a1 : List TItem) (u10 : Nat) (xs11 : List TEvent) (xs12 : List Int) (ms5 : List (Int × List Int)) : Option (List Int) := (L7 a0 a1 u10 (-1) 0 xs11 xs12 ms5)
def b7_i_Order (k : Nat) (L8 : Nat → Int → List TEvent → Int → List Int → (List (Int × List Int)) → List TEvent → List TItem → Int → Option (List Int)) (L6 : List TEvent → List TItem → Nat → List TEvent → List Int → (List (Int × List Int)) → Option (List Int)) (L3 : List TEvent → List TItem → List TEvent → List Int → (List (Int × List Int)) → Option (List Int)) (a0 : List TEvent) (a1 : List TItem) (u10 : Nat) (v13 : Int) (v14 : Int) (xs11 : List TEvent) (xs12 : List Int) (ms5 : List (Int × List Int)) : Option (List Int) := (br (decide (v14 < (u10 : Int))) (gd (decide (0 ≤ v14)) (gd (decide (v14 < (u10 : Int))) (L8 u10 0 xs11 v14 xs12 ms5 a0 a1 v13))) (br (decide (v13 < 0)) (some xs12) (gd (decide (0 ≤ v13)) (gd (decide (v13 < (u10 : Int))) (gd (decide (xs12.length + [(rd dTEvent xs11 v13.toNat).1].length ≤ maxRow)) (gd (decide (0 ≤ (u10 : Int))) (gd (decide ((u10 : Int) ≤ (xs11.length : Int))) (gd (decide (0 ≤ (w64 (v13 + 1)))) (gd (decide ((w64 (v13 + 1)) ≤ (u10 : Int))) (gd (decide (0 ≤ v13)) (gd (decide (v13 ≤ (w64 (v13 + 1)))) (br (v13 == (w64 (v13 + 1))) (L6 a0 a1 u10 xs11 (xs12 ++ [(rd dTEvent xs11 v13.toNat).1]) ms5) (gd (decide (0 ≤ v13)) (gd (decide (v13 ≤ (xs11.length : Int))) (gd (decide (0 ≤ (w64 (v13 + 1)))) (gd (decide ((w64 (v13 + 1)) ≤ (u10 : Int))) (br (decide (((0 + v13.toNat) + ((xs11.take u10).drop (w64 (v13 + 1)).toNat).length) ≤ xs11.length)) (gd (decide (0 ≤ (u10 : Int))) (gd (decide ((u10 : Int) ≤ (((app (0 + v13.toNat) ((xs11.take u10).drop (w64 (v13 + 1)).toNat) xs11).length : Nat) : Int))) (gd (decide (0 ≤ ((((0 + v13.toNat) + ((xs11.take u10).drop (w64 (v13 + 1)).toNat).length) : Nat) : Int))) (gd (decide (((((0 + v13.toNat) + ((xs11.take u10).drop (w64 (v13 + 1)).toNat).length) : Nat) : Int) ≤ (u10 : Int))) (L6 a0 a1 ((0 + v13.toNat) + ((xs11.take u10).drop (w64 (v13 + 1)).toNat).length) (clr dTEvent (some ((((0 + v13.toNat) + ((xs11.take u10).drop (w64 (v13 + 1)).toNat).length) : Nat) : Int).toNat) (some (0 + (u10 : Int).toNat)) (app (0 + v13.toNat) ((xs11.take u10).drop (w64 (v13 + 1)).toNat) xs11)) (xs12 ++ [(rd dTEvent xs11 v13.toNat).1]) ms5))))) (gd (decide ((xs11.take (0 + v13.toNat)).length + ((xs11.take u10).drop (w64 (v13 + 1)).toNat).length ≤ maxRow)) (gd (decide (0 ≤ (u10 : Int))) (gd (decide ((u10 : Int) ≤ ((((xs11.take (0 + v13.toNat)) ++ ((xs11.take u10).drop (w64 (v13 + 1)).toNat)).length : Nat) : Int))) (gd (decide (0 ≤ ((((xs11.take (0 + v13.toNat)) ++ ((xs11.take u10).drop (w64 (v13 + 1)).toNat)).length : Nat) : Int))) (gd (decide (((((xs11.take (0 + v13.toNat)) ++ ((xs11.take u10).drop (w64 (v13 + 1)).toNat)).length : Nat) : Int) ≤ (u10 : Int))) (L3 a0 a1 (clr dTEvent (some ((((xs11.take (0 + v13.toNat)) ++ ((xs11.take u10).drop (w64 (v13 + 1)).toNat)).length : Nat) : Int).toNat) (some (0 + (u10 : Int).toNat)) ((xs11.take (0 + v13.toNat)) ++ ((xs11.take u10).drop (w64 (v13 + 1)).toNat))) (xs12 ++ [(rd dTEvent xs11 v13.toNat).1]) ms5)))))))))))))))))))))))
def b8_i_Order (k : Nat) (L7 : List TEvent → List TItem → Nat → Int → Int → List TEvent → List Int → (List (Int × List Int)) → Option (List Int)) (L8 : Nat → Int → List TEvent → Int → List Int → (List (Int × List Int)) → List TEvent → List TItem → Int → Option (List Int)) (u10 : Nat) (v15 : Int) (xs11 : List TEvent) (v14 : Int) (xs12 : List Int) (ms5 : List (Int × List Int)) (a0 : List TEvent) (a1 : List TItem) (v13 : Int) : Option (List Int) := (br (decide (v15 < (u10 : Int))) (gd (decide (0 ≤ v15)) (gd (decide (v15 < (u10 : Int))) (bd (slices_Contains_int_int k (mgetD [] ms5 (rd dTEvent xs11 v14.toNat).1) (rd dTEvent xs11 v15.toNat).1) fun r6 => (br r6 (br (!(decide (v15 ≥ 0))) (br (decide (v13 < 0)) (L7 a0 a1 u10 v14 (w64 (v14 + 1)) xs11 xs12 ms5) (gd (decide (0 ≤ v13)) (gd (decide (v13 < (u10 : Int))) (bd (i_Heavier k a0 a1 (rd dTEvent xs11 v14.toNat) (rd dTEvent xs11 v13.toNat)) fun r7 => (br r7 (L7 a0 a1 u10 v14 (w64 (v14 + 1)) xs11 xs12 ms5) (L7 a0 a1 u10 v13 (w64 (v14 + 1)) xs11 xs12 ms5)))))) (L7 a0 a1 u10 v13 (w64 (v14 + 1)) xs11 xs12 ms5)) (L8 u10 (w64 (v15 + 1)) xs11 v14 xs12 ms5 a0 a1 v13))))) (br (decide (v13 < 0)) (L7 a0 a1 u10 v14 (w64 (v14 + 1)) xs11 xs12 ms5) (gd (decide (0 ≤ v13)) (gd (decide (v13 < (u10 : Int))) (bd (i_Heavier k a0 a1 (rd dTEvent xs11 v14.toNat) (rd dTEvent xs11 v13.toNat)) fun r8 => (br r8 (L7 a0 a1 u10 v14 (w64 (v14 + 1)) xs11 xs12 ms5) (L7 a0 a1 u10 v13 (w64 (v14 + 1)) xs11 xs12 ms5)))))))
def b2_i_Order (k : Nat) (L2 : List TEvent → List TItem → List TEvent → Int → (List (Int × List Int)) → Option (List Int)) (L3 : List TEvent → List TItem → List TEvent → List Int → (List (Int × List Int)) → Option (List Int)) (a0 : List TEvent) (a1 : List TItem) (xs2 : List TEvent) (v4 : Int) (ms5 : List (Int × List Int)) : Option (List Int) := (br (decide (v4 < (xs2.length : Int))) (gd (decide (0 ≤ v4)) (gd (decide (v4 < (xs2.length : Int))) (bd (i_aheadOf k a0 (rd dTEvent xs2 v4.toNat).1) fun r2 => (L2 a0 a1 xs2 (w64 (v4 + 1)) (mset ms5 (rd dTEvent xs2 v4.toNat).1 r2))))) (L3 a0 a1 xs2 [] ms5))
def b0_i_Order (k : Nat) (L1 : List TEvent → Int → List Int → Int → (TEvent × Bool) → List TEvent → List TItem → Option (List Int)) (L0 : List TEvent → List TItem → List Int → Int → List TEvent → Option (List Int)) (L2 : List TEvent → List TItem → List TEvent → Int → (List (Int × List Int)) → Option (List Int)) (a0 : List TEvent) (a1 : List TItem) (a2 : List Int) (v1 : Int) (xs2 : List TEvent) : Option (List Int) := (br (decide (v1 < (a2.length : Int))) (gd (decide (0 ≤ v1)) (gd (decide (v1 < (a2.length : Int))) (bd (i_Known k a0 (rd 0 a2 v1.toNat)) fun r1 => (br r1.2 (L1 xs2 0 a2 v1 r1 a0 a1) (L0 a0 a1 a2 (w64 (v1 + 1)) xs2))))) (L2 a0 a1 xs2 0 []))
def b1_i_Order (k : Nat) (L0 : List TEvent → List TItem → List Int → Int → List TEvent → Option (List Int)) (L1 : List TEvent → Int → List Int → Int → (TEvent × Bool) → List TEvent → List TItem → Option (List Int)) (xs2 : List TEvent) (v3 : Int) (a2 : List Int) (v1 : Int) (r1 : TEvent × Bool) (a0 : List TEvent) (a1 : List TItem) : Option (List Int) := (br (decide (v3 < (xs2.length : Int))) (gd (decide (0 ≤ v3)) (gd (decide (v3 < (xs2.length : Int))) (br ((rd dTEvent xs2 v3.toNat).1 == (rd 0 a2 v1.toNat)) (br (!(decide (v3 ≥ 0))) (gd (decide (xs2.length + ([r1.1] : List TEvent).length ≤ maxRow)) (L0 a0 a1 a2 (w64 (v1 + 1)) (xs2 ++ ([r1.1] : List TEvent)))) (L0 a0 a1 a2 (w64 (v1 + 1)) xs2)) (L1 xs2 (w64 (v3 + 1)) a2 v1 r1 a0 a1)))) (gd (decide (xs2.length + ([r1.1] : List TEvent).length ≤ maxRow)) (L0 a0 a1 a2 (w64 (v1 + 1)) (xs2 ++ ([r1.1] : List TEvent)))))
def q3_i_Order (k : Nat) : Nat → (List TEvent → List TItem → List TEvent → List Int → (List (Int × List Int)) → Option (List Int)) × (List TEvent → List TItem → Int → List TEvent → Int → List Int → (List (Int × List Int)) → Option (List Int)) × (List TEvent → Int → Int → List Int → (List (Int × List Int)) → List TEvent → List TItem → Int → Option (List Int)) × (List TEvent → List TItem → Nat → List TEvent → List Int → (List (Int × List Int)) → Option (List Int)) × (List TEvent → List TItem → Nat → Int → Int → List TEvent → List Int → (List (Int × List Int)) → Option (List Int)) × (Nat → Int → List TEvent → Int → List Int → (List (Int × List Int)) → List TEvent → List TItem → Int → Option (List Int))
  | 0 => (fun _ _ _ _ _ => none, fun _ _ _ _ _ _ _ => none, fun _ _ _ _ _ _ _ _ => none, fun _ _ _ _ _ _ => none, fun _ _ _ _ _ _ _ _ => none, fun _ _ _ _ _ _ _ _ _ => none)
  | n + 1 => (b3_i_Order k (q3_i_Order k n).2.1, b4_i_Order k (q3_i_Order k n).2.2.1 (q3_i_Order k n).1 (q3_i_Order k n).2.2.2.1, b5_i_Order k (q3_i_Order k n).2.1 (q3_i_Order k n).2.2.1, b6_i_Order k (q3_i_Order k n).2.2.2.2.1, b7_i_Order k (q3_i_Order k n).2.2.2.2.2 (q3_i_Order k n).2.2.2.1 (q3_i_Order k n).1, b8_i_Order k (q3_i_Order k n).2.2.2.2.1 (q3_i_Order k n).2.2.2.2.2)
def l3_i_Order (k : Nat) (n : Nat) : List TEvent → List TItem → List TEvent → List Int → (List (Int × List Int)) → Option (List Int) := (q3_i_Order k n).1
def l4_i_Order (k : Nat) (n : Nat) : List TEvent → List TItem → Int → List TEvent → Int → List Int → (List (Int × List Int)) → Option (List Int) := (q3_i_Order k n).2.1
def l5_i_Order (k : Nat) (n : Nat) : List TEvent → Int → Int → List Int → (List (Int × List Int)) → List TEvent → List TItem → Int → Option (List Int) := (q3_i_Order k n).2.2.1
def l6_i_Order (k : Nat) (n : Nat) : List TEvent → List TItem → Nat → List TEvent → List Int → (List (Int × List Int)) → Option (List Int) := (q3_i_Order k n).2.2.2.1
def l7_i_Order (k : Nat) (n : Nat) : List TEvent → List TItem → Nat → Int → Int → List TEvent → List Int → (List (Int × List Int)) → Option (List Int) := (q3_i_Order k n).2.2.2.2.1
def l8_i_Order (k : Nat) (n : Nat) : Nat → Int → List TEvent → Int → List Int → (List (Int × List Int)) → List TEvent → List TItem → Int → Option (List Int) := (q3_i_Order k n).2.2.2.2.2
theorem z3_i_Order (k : Nat) (n : Nat) (a0 : List TEvent) (a1 : List TItem) (xs2 : List TEvent) (xs6 : List Int) (ms5 : List (Int × List Int)) : l3_i_Order k (n + 1) a0 a1 xs2 xs6 ms5 = b3_i_Order k (l4_i_Order k n) a0 a1 xs2 xs6 ms5 := rfl
theorem z4_i_Order (k : Nat) (n : Nat) (a0 : List TEvent) (a1 : List TItem) (v7 : Int) (xs2 : List TEvent) (v8 : Int) (xs6 : List Int) (ms5 : List (Int × List Int)) : l4_i_Order k (n + 1) a0 a1 v7 xs2 v8 xs6 ms5 = b4_i_Order k (l5_i_Order k n) (l3_i_Order k n) (l6_i_Order k n) a0 a1 v7 xs2 v8 xs6 ms5 := rfl
theorem z5_i_Order (k : Nat) (n : Nat) (xs2 : List TEvent) (v9 : Int) (v8 : Int) (xs6 : List Int) (ms5 : List (Int × List Int)) (a0 : List TEvent) (a1 : List TItem) (v7 : Int) : l5_i_Order k (n + 1) xs2 v9 v8 xs6 ms5 a0 a1 v7 = b5_i_Order k (l4_i_Order k n) (l5_i_Order k n) xs2 v9 v8 xs6 ms5 a0 a1 v7 := rfl
theorem z6_i_Order (k : Nat) (n : Nat) (a0 : List TEvent) (a1 : List TItem) (u10 : Nat) (xs11 : List TEvent) (xs12 : List Int) (ms5 : List (Int × List Int)) : l6_i_Order k (n + 1) a0 a1 u10 xs11 xs12 ms5 = b6_i_Order k (l7_i_Order k n) a0 a1 u10 xs11 xs12 ms5 := rfl
theorem z7_i_Order (k : Nat) (n : Nat) (a0 : List TEvent) (a1 : List TItem) (u10 : Nat) (v13 : Int) (v14 : Int) (xs11 : List TEvent) (xs12 : List Int) (ms5 : List (Int × List Int)) : l7_i_Order k (n + 1) a0 a1 u10 v13 v14 xs11 xs12 ms5 = b7_i_Order k (l8_i_Order k n) (l6_i_Order k n) (l3_i_Order k n) a0 a1 u10 v13 v14 xs11 xs12 ms5 := rfl
theorem z8_i_Order (k : Nat) (n : Nat) (u10 : Nat) (v15 : Int) (xs11 : List TEvent) (v14 : Int) (xs12 : List Int) (ms5 : List (Int × List Int)) (a0 : List TEvent) (a1 : List TItem) (v13 : Int) : l8_i_Order k (n + 1) u10 v15 xs11 v14 xs12 ms5 a0 a1 v13 = b8_i_Order k (l7_i_Order k n) (l8_i_Order k n) u10 v15 xs11 v14 xs12 ms5 a0 a1 v13 := rfl
def l2_i_Order (k : Nat) : Nat → List TEvent → List TItem → List TEvent → Int → (List (Int × List Int)) → Option (List Int)
  | 0, _, _, _, _, _ => none
  | n + 1, a0, a1, xs2, v4, ms5 => b2_i_Order k (l2_i_Order k n) (l3_i_Order k n) a0 a1 xs2 v4 ms5
def q0_i_Order (k : Nat) : Nat → (List TEvent → List TItem → List Int → Int → List TEvent → Option (List Int)) × (List TEvent → Int → List Int → Int → (TEvent × Bool) → List TEvent → List TItem → Option (List Int))
  | 0 => (fun _ _ _ _ _ => none, fun _ _ _ _ _ _ _ => none)
  | n + 1 => (b0_i_Order k (q0_i_Order k n).2 (q0_i_Order k n).1 (l2_i_Order k n), b1_i_Order k (q0_i_Order k n).1 (q0_i_Order k n).2)
def l0_i_Order (k : Nat) (n : Nat) : List TEvent → List TItem → List Int → Int → List TEvent → Option (List Int) := (q0_i_Order k n).1
def l1_i_Order (k : Nat) (n : Nat) : List TEvent → Int → List Int → Int → (TEvent × Bool) → List TEvent → List TItem → Option (List Int) := (q0_i_Order k n).2
theorem z0_i_Order (k : Nat) (n : Nat) (a0 : List TEvent) (a1 : List TItem) (a2 : List Int) (v1 : Int) (xs2 : List TEvent) : l0_i_Order k (n + 1) a0 a1 a2 v1 xs2 = b0_i_Order k (l1_i_Order k n) (l0_i_Order k n) (l2_i_Order k n) a0 a1 a2 v1 xs2 := rfl
theorem z1_i_Order (k : Nat) (n : Nat) (xs2 : List TEvent) (v3 : Int) (a2 : List Int) (v1 : Int) (r1 : TEvent × Bool) (a0 : List TEvent) (a1 : List TItem) : l1_i_Order k (n + 1) xs2 v3 a2 v1 r1 a0 a1 = b1_i_Order k (l0_i_Order k n) (l1_i_Order k n) xs2 v3 a2 v1 r1 a0 a1 := rfl
def g_i_Order (k : Nat) (L0 : List TEvent → List TItem → List Int → Int → List TEvent → Option (List Int)) (a0 : List TEvent) (a1 : List TItem) (a2 : List Int) : Option (List Int) := (L0 a0 a1 a2 0 [])
def i_Order (k : Nat) (a0 : List TEvent) (a1 : List TItem) (a2 : List Int) : Option (List Int) := g_i_Order k (l0_i_Order k k) a0 a1 a2
end
noncomputable section
def b2_i_Resolve (k : Nat) (L2 : List TEvent → List Int → Int → List TItem → Option (List TItem)) (a0 : List TEvent) (r6 : List Int) (v5 : Int) (r5 : List TItem) : Option (List TItem) := (br (decide (v5 < (r6.length : Int))) (gd (decide (0 ≤ v5)) (gd (decide (v5 < (r6.length : Int))) (bd (i_Known k a0 (rd 0 r6 v5.toNat)) fun r7 => (bd (i_Allowed k a0 r5 r7.1) fun r8 => (br r8 (bd (i_KeyOf k r7.1) fun r9 => (bd (i_Put k r5 r9 (rd 0 r6 v5.toNat)) fun r10 => (L2 a0 r6 (w64 (v5 + 1)) r10))) (L2 a0 r6 (w64 (v5 + 1)) r5)))))) (some r5))
def b0_i_Resolve (k : Nat) (L1 : List TEvent → List (List TItem) → List Int → Int → Int → List TItem → List Int → Option (List TItem)) (L2 : List TEvent → List Int → Int → List TItem → Option (List TItem)) (a0 : List TEvent) (a1 : List (List TItem)) (r3 : List Int) (v1 : Int) (r2 : List TItem) (xs2 : List Int) : Option (List TItem) := (br (decide (v1 < (r3.length : Int))) (gd (decide (0 ≤ v1)) (gd (decide (v1 < (r3.length : Int))) (L1 a0 a1 r3 v1 0 r2 xs2))) (bd (i_copyState k r2) fun r5 => (bd (i_Order k a0 r2 xs2) fun r6 => (L2 a0 r6 0 r5))))
def b1_i_Resolve (k : Nat) (L1 : List TEvent → List (List TItem) → List Int → Int → Int → List TItem → List Int → Option (List TItem)) (L0 : List TEvent → List (List TItem) → List Int → Int → List TItem → List Int → Option (List TItem)) (a0 : List TEvent) (a1 : List (List TItem)) (r3 : List Int) (v1 : Int) (v3 : Int) (r2 : List TItem) (xs4 : List Int) : Option (List TItem) := (br (decide (v3 < (a1.length : Int))) (gd (decide (0 ≤ v3)) (gd (decide (v3 < (a1.length : Int))) (bd (i_At k (rd [] a1 v3.toNat) (rd 0 r3 v1.toNat)) fun r4 => (br (r4 != 0) (gd (decide (xs4.length + [r4].length ≤ maxRow)) (L1 a0 a1 r3 v1 (w64 (v3 + 1)) r2 (xs4 ++ [r4]))) (L1 a0 a1 r3 v1 (w64 (v3 + 1)) r2 xs4))))) (L0 a0 a1 r3 (w64 (v1 + 1)) r2 xs4))
def l2_i_Resolve (k : Nat) : Nat → List TEvent → List Int → Int → List TItem → Option (List TItem)
  | 0, _, _, _, _ => none
  | n + 1, a0, r6, v5, r5 => b2_i_Resolve k (l2_i_Resolve k n) a0 r6 v5 r5
def q0_i_Resolve (k : Nat) : Nat → (List TEvent → List (List TItem) → List Int → Int → List TItem → List Int → Option (List TItem)) × (List TEvent → List (List TItem) → List Int → Int → Int → List TItem → List Int → Option (List TItem))
  | 0 => (fun _ _ _ _ _ _ => none, fun _ _ _ _ _ _ _ => none)
  | n + 1 => (b0_i_Resolve k (q0_i_Resolve k n).2 (l2_i_Resolve k n), b1_i_Resolve k (q0_i_Resolve k n).2 (q0_i_Resolve k n).1)
def l0_i_Resolve (k : Nat) (n : Nat) : List TEvent → List (List TItem) → List Int → Int → List TItem → List Int → Option (List TItem) := (q0_i_Resolve k n).1
def l1_i_Resolve (k : Nat) (n : Nat) : List TEvent → List (List TItem) → List Int → Int → Int → List TItem → List Int → Option (List TItem) := (q0_i_Resolve k n).2
theorem z0_i_Resolve (k : Nat) (n : Nat) (a0 : List TEvent) (a1 : List (List TItem)) (r3 : List Int) (v1 : Int) (r2 : List TItem) (xs2 : List Int) : l0_i_Resolve k (n + 1) a0 a1 r3 v1 r2 xs2 = b0_i_Resolve k (l1_i_Resolve k n) (l2_i_Resolve k n) a0 a1 r3 v1 r2 xs2 := rfl
theorem z1_i_Resolve (k : Nat) (n : Nat) (a0 : List TEvent) (a1 : List (List TItem)) (r3 : List Int) (v1 : Int) (v3 : Int) (r2 : List TItem) (xs4 : List Int) : l1_i_Resolve k (n + 1) a0 a1 r3 v1 v3 r2 xs4 = b1_i_Resolve k (l1_i_Resolve k n) (l0_i_Resolve k n) a0 a1 r3 v1 v3 r2 xs4 := rfl
def g_i_Resolve (k : Nat) (L0 : List TEvent → List (List TItem) → List Int → Int → List TItem → List Int → Option (List TItem)) (a0 : List TEvent) (a1 : List (List TItem)) : Option (List TItem) := (br ((a1.length : Int) == 0) (some []) (br ((a1.length : Int) == 1) (gd (decide (0 < (a1.length : Int))) (bd (i_copyState k (rd [] a1 0)) fun r1 => (some r1))) (bd (i_Agreed k a1) fun r2 => (bd (i_Clash k a1) fun r3 => (L0 a0 a1 r3 0 r2 [])))))
def i_Resolve (k : Nat) (a0 : List TEvent) (a1 : List (List TItem)) : Option (List TItem) := g_i_Resolve k (l0_i_Resolve k k) a0 a1
end
noncomputable section
def b0_i_Before (k : Nat) (L0 : List Int → Int → TRoom → List (List TItem) → Option (List TItem × Bool)) (a1 : List Int) (v1 : Int) (a0 : TRoom) (xs2 : List (List TItem)) : Option (List TItem × Bool) := (br (decide (v1 < (a1.length : Int))) (gd (decide (0 ≤ v1)) (gd (decide (v1 < (a1.length : Int))) (bd (i_eventAt k a0 (rd 0 a1 v1.toNat)) fun r1 => (br (decide (r1 < 0)) (some ([], false)) (br (decide (r1 ≥ (a0.2.1.length : Int))) (some ([], false)) (gd (decide (0 ≤ r1)) (gd (decide (r1 < (a0.2.1.length : Int))) (gd (decide (xs2.length + [(rd [] a0.2.1 r1.toNat)].length ≤ maxRow)) (L0 a1 (w64 (v1 + 1)) a0 (xs2 ++ [(rd [] a0.2.1 r1.toNat)])))))))))) (bd (i_Resolve k a0.1 xs2) fun r2 => (some (r2, true))))
def l0_i_Before (k : Nat) : Nat → List Int → Int → TRoom → List (List TItem) → Option (List TItem × Bool)
  | 0, _, _, _, _ => none
  | n + 1, a1, v1, a0, xs2 => b0_i_Before k (l0_i_Before k n) a1 v1 a0 xs2
def g_i_Before (k : Nat) (L0 : List Int → Int → TRoom → List (List TItem) → Option (List TItem × Bool)) (a0 : TRoom) (a1 : List Int) : Option (List TItem × Bool) := (L0 a1 0 a0 [])
def i_Before (k : Nat) (a0 : TRoom) (a1 : List Int) : Option (List TItem × Bool) := g_i_Before k (l0_i_Before k k) a0 a1
end
noncomputable section
def b0_i_DepthOf (k : Nat) (L0 : Int → List Int → Int → TRoom → Option Int) (v1 : Int) (a1 : List Int) (v2 : Int) (a0 : TRoom) : Option Int := (br (decide (v2 < (a1.length : Int))) (gd (decide (0 ≤ v2)) (gd (decide (v2 < (a1.length : Int))) (bd (i_Known k a0.1 (rd 0 a1 v2.toNat)) fun r1 => (br r1.2 (L0 (if r1.1.2.2.2.2.2.2.2.2.1 > v1 then r1.1.2.2.2.2.2.2.2.2.1 else v1) a1 (w64 (v2 + 1)) a0) (L0 v1 a1 (w64 (v2 + 1)) a0))))) (some (w64 ((if 1000000 < v1 then 1000000 else v1) + 1))))
def l0_i_DepthOf (k : Nat) : Nat → Int → List Int → Int → TRoom → Option Int
  | 0, _, _, _, _ => none
  | n + 1, v1, a1, v2, a0 => b0_i_DepthOf k (l0_i_DepthOf k n) v1 a1 v2 a0
def g_i_DepthOf (k : Nat) (L0 : Int → List Int → Int → TRoom → Option Int) (a0 : TRoom) (a1 : List Int) : Option Int := (L0 (-1) a1 0 a0)
def i_DepthOf (k : Nat) (a0 : TRoom) (a1 : List Int) : Option Int := g_i_DepthOf k (l0_i_DepthOf k k) a0 a1
end
noncomputable section
def b1_i_copyRoom (k : Nat) (L1 : TRoom → Int → List TEvent → List (List TItem) → Option TRoom) (a0 : TRoom) (v3 : Int) (xs2 : List TEvent) (xs4 : List (List TItem)) : Option TRoom := (br (decide (v3 < (a0.2.1.length : Int))) (gd (decide (0 ≤ v3)) (gd (decide (v3 < (a0.2.1.length : Int))) (bd (i_copyState k (rd [] a0.2.1 v3.toNat)) fun r2 => (gd (decide (xs4.length + [r2].length ≤ maxRow)) (L1 a0 (w64 (v3 + 1)) xs2 (xs4 ++ [r2])))))) (some (xs2, xs4, a0.2.2)))
def b0_i_copyRoom (k : Nat) (L0 : TRoom → Int → List TEvent → Option TRoom) (L1 : TRoom → Int → List TEvent → List (List TItem) → Option TRoom) (a0 : TRoom) (v1 : Int) (xs2 : List TEvent) : Option TRoom := (br (decide (v1 < (a0.1.length : Int))) (gd (decide (0 ≤ v1)) (gd (decide (v1 < (a0.1.length : Int))) (bd (i_copyEvent k (rd dTEvent a0.1 v1.toNat)) fun r1 => (gd (decide (xs2.length + ([r1] : List TEvent).length ≤ maxRow)) (L0 a0 (w64 (v1 + 1)) (xs2 ++ ([r1] : List TEvent))))))) (L1 a0 0 xs2 []))
def l1_i_copyRoom (k : Nat) : Nat → TRoom → Int → List TEvent → List (List TItem) → Option TRoom
  | 0, _, _, _, _ => none
  | n + 1, a0, v3, xs2, xs4 => b1_i_copyRoom k (l1_i_copyRoom k n) a0 v3 xs2 xs4
def l0_i_copyRoom (k : Nat) : Nat → TRoom → Int → List TEvent → Option TRoom
  | 0, _, _, _ => none
  | n + 1, a0, v1, xs2 => b0_i_copyRoom k (l0_i_copyRoom k n) (l1_i_copyRoom k n) a0 v1 xs2
def g_i_copyRoom (k : Nat) (L0 : TRoom → Int → List TEvent → Option TRoom) (a0 : TRoom) : Option TRoom := (gd (decide (a0.2.2.1.length ≤ maxRow)) (L0 a0 0 []))
def i_copyRoom (k : Nat) (a0 : TRoom) : Option TRoom := g_i_copyRoom k (l0_i_copyRoom k k) a0
end
def i_AddEvent (k : Nat) (a0 : TRoom) (a1 : TEvent) : Option (TRoom × Bool) := (br ((a0.2.1.length : Int) != (a0.1.length : Int)) (some (([], [], [], ()), false)) (br ((a0.2.2.1.length : Int) != (a0.1.length : Int)) (some (([], [], [], ()), false)) (bd (i_EventOk k a1) fun r1 => (br (!r1) (some (([], [], [], ()), false)) (br (decide ((a0.1.length : Int) ≥ 40)) (some (([], [], [], ()), false)) (bd (i_eventAt k a0 a1.1) fun r2 => (br (decide (r2 ≥ 0)) (some (([], [], [], ()), false)) (bd (i_Before k a0 a1.2.2.2.2.2.2.2.1) fun r3 => (br (!r3.2) (some (([], [], [], ()), false)) (bd (i_DepthOf k a0 a1.2.2.2.2.2.2.2.1) fun r4 => (br (a1.2.2.2.2.2.2.2.2.1 != r4) (some (([], [], [], ()), false)) (bd (i_Allowed k a0.1 r3.1 a1) fun r5 => (br r5 (bd (i_KeyOf k a1) fun r6 => (br (r6 != 0) (bd (i_KeyOf k a1) fun r7 => (bd (i_Put k r3.1 r7 a1.1) fun r8 => (bd (i_copyRoom k a0) fun r9 => (bd (i_copyEvent k a1) fun r10 => (gd (decide (r9.1.length + ([r10] : List TEvent).length ≤ maxRow)) (gd (decide (r9.2.1.length + [r8].length ≤ maxRow)) (gd (decide (r9.2.2.1.length + [r5].length ≤ maxRow)) (some (((r9.1 ++ ([r10] : List TEvent)), (r9.2.1 ++ [r8]), (r9.2.2.1 ++ [r5]), ()), true))))))))) (bd (i_copyRoom k a0) fun r11 => (bd (i_copyEvent k a1) fun r12 => (gd (decide (r11.1.length + ([r12] : List TEvent).length ≤ maxRow)) (gd (decide (r11.2.1.length + [r3.1].length ≤ maxRow)) (gd (decide (r11.2.2.1.length + [r5].length ≤ maxRow)) (some (((r11.1 ++ ([r12] : List TEvent)), (r11.2.1 ++ [r3.1]), (r11.2.2.1 ++ [r5]), ()), true))))))))) (bd (i_copyRoom k a0) fun r13 => (bd (i_copyEvent k a1) fun r14 => (gd (decide (r13.1.length + ([r14] : List TEvent).length ≤ maxRow)) (gd (decide (r13.2.1.length + [r3.1].length ≤ maxRow)) (gd (decide (r13.2.2.1.length + [r5].length ≤ maxRow)) (some (((r13.1 ++ ([r14] : List TEvent)), (r13.2.1 ++ [r3.1]), (r13.2.2.1 ++ [r5]), ()), true))))))))))))))))))))
noncomputable section
def b0_i_roomOf (k : Nat) (L0 : List TEvent → Int → List TEvent → List (List TItem) → List Bool → Option (TRoom × Bool)) (a0 : List TEvent) (v1 : Int) (xs2 : List TEvent) (xs3 : List (List TItem)) (xs4 : List Bool) : Option (TRoom × Bool) := (br (decide (v1 < (a0.length : Int))) (gd (decide (0 ≤ v1)) (gd (decide (v1 < (a0.length : Int))) (bd (i_AddEvent k (xs2, xs3, xs4, ()) (rd dTEvent a0 v1.toNat)) fun r1 => (br (!r1.2) (some (([], [], [], ()), false)) (L0 a0 (w64 (v1 + 1)) r1.1.1 r1.1.2.1 r1.1.2.2.1))))) (some ((xs2, xs3, xs4, ()), true)))
def l0_i_roomOf (k : Nat) : Nat → List TEvent → Int → List TEvent → List (List TItem) → List Bool → Option (TRoom × Bool)
  | 0, _, _, _, _, _ => none
  | n + 1, a0, v1, xs2, xs3, xs4 => b0_i_roomOf k (l0_i_roomOf k n) a0 v1 xs2 xs3 xs4
def g_i_roomOf (k : Nat) (L0 : List TEvent → Int → List TEvent → List (List TItem) → List Bool → Option (TRoom × Bool)) (a0 : List TEvent) : Option (TRoom × Bool) := (L0 a0 0 [] [] [])
def i_roomOf (k : Nat) (a0 : List TEvent) : Option (TRoom × Bool) := g_i_roomOf k (l0_i_roomOf k k) a0
end
noncomputable section
def b0_slices_Equal_int_int (k : Nat) (L0 : List Int → List Int → Int → Option Bool) (a0 : List Int) (a1 : List Int) (v1 : Int) : Option Bool := (br (decide (v1 < (a0.length : Int))) (gd (decide (0 ≤ v1)) (gd (decide (v1 < (a0.length : Int))) (gd (decide (0 ≤ v1)) (gd (decide (v1 < (a1.length : Int))) (br ((rd 0 a0 v1.toNat) != (rd 0 a1 v1.toNat)) (some false) (L0 a0 a1 (w64 (v1 + 1)))))))) (some true))
def l0_slices_Equal_int_int (k : Nat) : Nat → List Int → List Int → Int → Option Bool
  | 0, _, _, _ => none
  | n + 1, a0, a1, v1 => b0_slices_Equal_int_int k (l0_slices_Equal_int_int k n) a0 a1 v1
def g_slices_Equal_int_int (k : Nat) (L0 : List Int → List Int → Int → Option Bool) (a0 : List Int) (a1 : List Int) : Option Bool := (br ((a0.length : Int) != (a1.length : Int)) (some false) (L0 a0 a1 0))
def slices_Equal_int_int (k : Nat) (a0 : List Int) (a1 : List Int) : Option Bool := g_slices_Equal_int_int k (l0_slices_Equal_int_int k k) a0 a1
end
noncomputable section
def b0_slices_Equal_impl_Item_impl_Item (k : Nat) (L0 : List TItem → List TItem → Int → Option Bool) (a0 : List TItem) (a1 : List TItem) (v1 : Int) : Option Bool := (br (decide (v1 < (a0.length : Int))) (gd (decide (0 ≤ v1)) (gd (decide (v1 < (a0.length : Int))) (gd (decide (0 ≤ v1)) (gd (decide (v1 < (a1.length : Int))) (br (!((rd dTItem a0 v1.toNat).1 == (rd dTItem a1 v1.toNat).1 && ((rd dTItem a0 v1.toNat).2.1 == (rd dTItem a1 v1.toNat).2.1 && true))) (some false) (L0 a0 a1 (w64 (v1 + 1)))))))) (some true))
def l0_slices_Equal_impl_Item_impl_Item (k : Nat) : Nat → List TItem → List TItem → Int → Option Bool
  | 0, _, _, _ => none
  | n + 1, a0, a1, v1 => b0_slices_Equal_impl_Item_impl_Item k (l0_slices_Equal_impl_Item_impl_Item k n) a0 a1 v1
def g_slices_Equal_impl_Item_impl_Item (k : Nat) (L0 : List TItem → List TItem → Int → Option Bool) (a0 : List TItem) (a1 : List TItem) : Option Bool := (br ((a0.length : Int) != (a1.length : Int)) (some false) (L0 a0 a1 0))
def slices_Equal_impl_Item_impl_Item (k : Nat) (a0 : List TItem) (a1 : List TItem) : Option Bool := g_slices_Equal_impl_Item_impl_Item k (l0_slices_Equal_impl_Item_impl_Item k k) a0 a1
end
noncomputable section
def b0_slices_Equal_bool_bool (k : Nat) (L0 : List Bool → List Bool → Int → Option Bool) (a0 : List Bool) (a1 : List Bool) (v1 : Int) : Option Bool := (br (decide (v1 < (a0.length : Int))) (gd (decide (0 ≤ v1)) (gd (decide (v1 < (a0.length : Int))) (gd (decide (0 ≤ v1)) (gd (decide (v1 < (a1.length : Int))) (br (!((rd false a0 v1.toNat) == (rd false a1 v1.toNat))) (some false) (L0 a0 a1 (w64 (v1 + 1)))))))) (some true))
def l0_slices_Equal_bool_bool (k : Nat) : Nat → List Bool → List Bool → Int → Option Bool
  | 0, _, _, _ => none
  | n + 1, a0, a1, v1 => b0_slices_Equal_bool_bool k (l0_slices_Equal_bool_bool k n) a0 a1 v1
def g_slices_Equal_bool_bool (k : Nat) (L0 : List Bool → List Bool → Int → Option Bool) (a0 : List Bool) (a1 : List Bool) : Option Bool := (br ((a0.length : Int) != (a1.length : Int)) (some false) (L0 a0 a1 0))
def slices_Equal_bool_bool (k : Nat) (a0 : List Bool) (a1 : List Bool) : Option Bool := g_slices_Equal_bool_bool k (l0_slices_Equal_bool_bool k k) a0 a1
end
noncomputable section
def b1_i_sameRoom (k : Nat) (L1 : TRoom → TRoom → Int → Option Bool) (a1 : TRoom) (a0 : TRoom) (v2 : Int) : Option Bool := (br (decide (v2 < (a0.2.1.length : Int))) (gd (decide (0 ≤ v2)) (gd (decide (v2 < (a0.2.1.length : Int))) (gd (decide (0 ≤ v2)) (gd (decide (v2 < (a1.2.1.length : Int))) (bd (slices_Equal_impl_Item_impl_Item k (rd [] a0.2.1 v2.toNat) (rd [] a1.2.1 v2.toNat)) fun r3 => (br (!r3) (some false) (L1 a1 a0 (w64 (v2 + 1))))))))) (bd (slices_Equal_bool_bool k a0.2.2.1 a1.2.2.1) fun r4 => (some r4)))
def b0_i_sameRoom (k : Nat) (L0 : TRoom → TRoom → Int → Option Bool) (L1 : TRoom → TRoom → Int → Option Bool) (a1 : TRoom) (a0 : TRoom) (v1 : Int) : Option Bool := (br (decide (v1 < (a0.1.length : Int))) (gd (decide (0 ≤ v1)) (gd (decide (v1 < (a0.1.length : Int))) (gd (decide (0 ≤ v1)) (gd (decide (v1 < (a1.1.length : Int))) (br ((rd dTEvent a0.1 v1.toNat).1 == (rd dTEvent a1.1 v1.toNat).1) (br ((rd dTEvent a0.1 v1.toNat).2.1 == (rd dTEvent a1.1 v1.toNat).2.1) (br ((rd dTEvent a0.1 v1.toNat).2.2.1 == (rd dTEvent a1.1 v1.toNat).2.2.1) (br ((rd dTEvent a0.1 v1.toNat).2.2.2.1 == (rd dTEvent a1.1 v1.toNat).2.2.2.1) (br ((rd dTEvent a0.1 v1.toNat).2.2.2.2.1 == (rd dTEvent a1.1 v1.toNat).2.2.2.2.1) (bd (slices_Equal_int_int k (rd dTEvent a0.1 v1.toNat).2.2.2.2.2.1 (rd dTEvent a1.1 v1.toNat).2.2.2.2.2.1) fun r1 => (br r1 (br ((rd dTEvent a0.1 v1.toNat).2.2.2.2.2.2.1.toList == (rd dTEvent a1.1 v1.toNat).2.2.2.2.2.2.1.toList) (bd (slices_Equal_int_int k (rd dTEvent a0.1 v1.toNat).2.2.2.2.2.2.2.1 (rd dTEvent a1.1 v1.toNat).2.2.2.2.2.2.2.1) fun r2 => (br r2 (br (!((rd dTEvent a0.1 v1.toNat).2.2.2.2.2.2.2.2.1 == (rd dTEvent a1.1 v1.toNat).2.2.2.2.2.2.2.2.1)) (some false) (L0 a1 a0 (w64 (v1 + 1)))) (some false))) (some false)) (some false))) (some false)) (some false)) (some false)) (some false)) (some false)))))) (br ((a0.2.1.length : Int) != (a1.2.1.length : Int)) (some false) (L1 a1 a0 0)))
def l1_i_sameRoom (k : Nat) : Nat → TRoom → TRoom → Int → Option Bool
  | 0, _, _, _ => none
  | n + 1, a1, a0, v2 => b1_i_sameRoom k (l1_i_sameRoom k n) a1 a0 v2
def l0_i_sameRoom (k : Nat) : Nat → TRoom → TRoom → Int → Option Bool
  | 0, _, _, _ => none
  | n + 1, a1, a0, v1 => b0_i_sameRoom k (l0_i_sameRoom k n) (l1_i_sameRoom k n) a1 a0 v1
def g_i_sameRoom (k : Nat) (L0 : TRoom → TRoom → Int → Option Bool) (a0 : TRoom) (a1 : TRoom) : Option Bool := (br ((a0.1.length : Int) != (a1.1.length : Int)) (some false) (L0 a1 a0 0))
def i_sameRoom (k : Nat) (a0 : TRoom) (a1 : TRoom) : Option Bool := g_i_sameRoom k (l0_i_sameRoom k k) a0 a1
end
def i_RoomOk (k : Nat) (a0 : TRoom) : Option Bool := (br (decide ((a0.1.length : Int) > 40)) (some false) (bd (i_roomOf k a0.1) fun r1 => (br r1.2 (bd (i_sameRoom k r1.1 a0) fun r2 => (some r2)) (some false))))
def i_isGood (k : Nat) (a0 : TRoom) (a1 : Int) : Option Bool := (br (decide (a1 < (a0.2.2.1.length : Int))) (gd (decide (0 ≤ a1)) (gd (decide (a1 < (a0.2.2.1.length : Int))) (some (rd false a0.2.2.1 a1.toNat)))) (some false))
noncomputable section
def b0_i_forward (k : Nat) (L0 : TRoom → Int → List Int → Option (List Int)) (a0 : TRoom) (v1 : Int) (xs2 : List Int) : Option (List Int) := (br (decide (v1 < (a0.1.length : Int))) (gd (decide (0 ≤ v1)) (gd (decide (v1 < (a0.1.length : Int))) (ng ((rd dTEvent a0.1 v1.toNat).1 == (rd dTEvent a0.1 v1.toNat).1 && (2 : Int) == 0) (br ((Int.tmod (rd dTEvent a0.1 v1.toNat).1 2) == 0) (bd (i_isGood k a0 v1) fun r1 => (br r1 (gd (decide (xs2.length + [(rd dTEvent a0.1 v1.toNat).1].length ≤ maxRow)) (L0 a0 (w64 (v1 + 1)) (xs2 ++ [(rd dTEvent a0.1 v1.toNat).1]))) (L0 a0 (w64 (v1 + 1)) xs2))) (L0 a0 (w64 (v1 + 1)) xs2))))) (some xs2))
def l0_i_forward (k : Nat) : Nat → TRoom → Int → List Int → Option (List Int)
  | 0, _, _, _ => none
  | n + 1, a0, v1, xs2 => b0_i_forward k (l0_i_forward k n) a0 v1 xs2
def g_i_forward (k : Nat) (L0 : TRoom → Int → List Int → Option (List Int)) (a0 : TRoom) : Option (List Int) := (L0 a0 0 [])
def i_forward (k : Nat) (a0 : TRoom) : Option (List Int) := g_i_forward k (l0_i_forward k k) a0
end
noncomputable section
def b1_i_HallOk (k : Nat) (L1 : THall → Int → List Int → Option Bool) (a0 : THall) (v2 : Int) (r4 : List Int) : Option Bool := (br (decide (v2 < (a0.2.2.1.length : Int))) (gd (decide (0 ≤ v2)) (gd (decide (v2 < (a0.2.2.1.length : Int))) (br ((rd dTOut a0.2.2.1 v2.toNat).1 != (w64 (v2 + 1))) (some false) (bd (slices_Equal_int_int k (rd dTOut a0.2.2.1 v2.toNat).2.2.1 r4) fun r5 => (br (!r5) (some false) (bd (i_within k (rd dTOut a0.2.2.1 v2.toNat).2.1 0 (r4.length : Int)) fun r6 => (br (!r6) (some false) (L1 a0 (w64 (v2 + 1)) r4)))))))) (some true))
def b0_i_HallOk (k : Nat) (L0 : THall → Int → Option Bool) (L1 : THall → Int → List Int → Option Bool) (a0 : THall) (v1 : Int) : Option Bool := (br (decide (v1 < (a0.1.length : Int))) (gd (decide (0 ≤ v1)) (gd (decide (v1 < (a0.1.length : Int))) (bd (i_within k (rd dTSession a0.1 v1.toNat).1 1 1000000) fun r2 => (br (!r2) (some false) (bd (i_within k (rd dTSession a0.1 v1.toNat).2.1 0 1000000) fun r3 => (br (!r3) (some false) (br (decide ((((rd dTSession a0.1 v1.toNat).2.2.1.size : Nat) : Int) > 40)) (some false) (br ((rd dTSession a0.1 v1.toNat).2.1 == 0) (br (!((rd dTSession a0.1 v1.toNat).2.2.1.toList == (⟨#[]⟩ : ByteArray).toList)) (some false) (br (decide (v1 > 0)) (gd (decide (0 ≤ (w64 (v1 - 1)))) (gd (decide ((w64 (v1 - 1)) < (a0.1.length : Int))) (br (decide ((rd dTSession a0.1 (w64 (v1 - 1)).toNat).1 ≥ (rd dTSession a0.1 v1.toNat).1)) (some false) (L0 a0 (w64 (v1 + 1)))))) (L0 a0 (w64 (v1 + 1))))) (br (decide (v1 > 0)) (gd (decide (0 ≤ (w64 (v1 - 1)))) (gd (decide ((w64 (v1 - 1)) < (a0.1.length : Int))) (br (decide ((rd dTSession a0.1 (w64 (v1 - 1)).toNat).1 ≥ (rd dTSession a0.1 v1.toNat).1)) (some false) (L0 a0 (w64 (v1 + 1)))))) (L0 a0 (w64 (v1 + 1)))))))))))) (bd (i_forward k a0.2.1) fun r4 => (L1 a0 0 r4)))
def l1_i_HallOk (k : Nat) : Nat → THall → Int → List Int → Option Bool
  | 0, _, _, _ => none
  | n + 1, a0, v2, r4 => b1_i_HallOk k (l1_i_HallOk k n) a0 v2 r4
def l0_i_HallOk (k : Nat) : Nat → THall → Int → Option Bool
  | 0, _, _ => none
  | n + 1, a0, v1 => b0_i_HallOk k (l0_i_HallOk k n) (l1_i_HallOk k n) a0 v1
def g_i_HallOk (k : Nat) (L0 : THall → Int → Option Bool) (a0 : THall) : Option Bool := (br (decide ((a0.1.length : Int) > 3)) (some false) (bd (i_RoomOk k a0.2.1) fun r1 => (br (!r1) (some false) (br ((a0.2.2.1.length : Int) != 2) (some false) (L0 a0 0)))))
def i_HallOk (k : Nat) (a0 : THall) : Option Bool := g_i_HallOk k (l0_i_HallOk k k) a0
end
noncomputable section
def b0_i_VarText (k : Nat) (L0 : Int → List Int → Option (ByteArray × Bool)) (a0 : Int) (xs1 : List Int) : Option (ByteArray × Bool) := (br (decide (a0 > 127)) (ng (a0 == a0 && (128 : Int) == 0) (gd (decide (xs1.length + [(IntKind.wrap .u8 (w64 ((Int.tmod a0 128) + 128)))].length ≤ maxRow)) (ng (a0 == a0 && (128 : Int) == 0) (L0 (w64 (Int.tdiv a0 128)) (xs1 ++ [(IntKind.wrap .u8 (w64 ((Int.tmod a0 128) + 128)))]))))) (gd (decide (xs1.length + [(IntKind.wrap .u8 a0)].length ≤ maxRow)) (some ((strOfNums (xs1 ++ [(IntKind.wrap .u8 a0)])), true))))
def l0_i_VarText (k : Nat) : Nat → Int → List Int → Option (ByteArray × Bool)
  | 0, _, _ => none
  | n + 1, a0, xs1 => b0_i_VarText k (l0_i_VarText k n) a0 xs1
def g_i_VarText (k : Nat) (L0 : Int → List Int → Option (ByteArray × Bool)) (a0 : Int) : Option (ByteArray × Bool) := (bd (i_within k a0 0 1000000000) fun r1 => (br (!r1) (some ((⟨#[]⟩ : ByteArray), false)) (L0 a0 [])))
def i_VarText (k : Nat) (a0 : Int) : Option (ByteArray × Bool) := g_i_VarText k (l0_i_VarText k k) a0
end
noncomputable section
def b0_i_vars (k : Nat) (L0 : List Int → Int → List Int → Option (ByteArray × Bool)) (a0 : List Int) (v1 : Int) (xs2 : List Int) : Option (ByteArray × Bool) := (br (decide (v1 < (a0.length : Int))) (gd (decide (0 ≤ v1)) (gd (decide (v1 < (a0.length : Int))) (bd (i_VarText k (rd 0 a0 v1.toNat)) fun r1 => (br (!r1.2) (some ((⟨#[]⟩ : ByteArray), false)) (gd (decide (xs2.length + (numsOf r1.1).length ≤ maxRow)) (L0 a0 (w64 (v1 + 1)) (xs2 ++ (numsOf r1.1)))))))) (some ((strOfNums xs2), true)))
def l0_i_vars (k : Nat) : Nat → List Int → Int → List Int → Option (ByteArray × Bool)
  | 0, _, _, _ => none
  | n + 1, a0, v1, xs2 => b0_i_vars k (l0_i_vars k n) a0 v1 xs2
def g_i_vars (k : Nat) (L0 : List Int → Int → List Int → Option (ByteArray × Bool)) (a0 : List Int) : Option (ByteArray × Bool) := (L0 a0 0 [])
def i_vars (k : Nat) (a0 : List Int) : Option (ByteArray × Bool) := g_i_vars k (l0_i_vars k k) a0
end
def i_ShortText (k : Nat) (a0 : ByteArray) : Option (ByteArray × Bool) := (br (decide ((a0.size : Int) > 20000)) (some ((⟨#[]⟩ : ByteArray), false)) (bd (i_VarText k (a0.size : Int)) fun r1 => (gd (decide (r1.1.size + a0.size ≤ maxRow)) (some ((r1.1 ++ a0), true)))))
noncomputable section
def b0_i_listText (k : Nat) (L0 : ByteArray → List Int → Int → Option ByteArray) (v1 : ByteArray) (a0 : List Int) (v2 : Int) : Option ByteArray := (br (decide (v2 < (a0.length : Int))) (gd (decide (0 ≤ v2)) (gd (decide (v2 < (a0.length : Int))) (gd (decide (v1.size + (strOfNums [(IntKind.wrap .u8 (rd 0 a0 v2.toNat))]).size ≤ maxRow)) (L0 (v1 ++ (strOfNums [(IntKind.wrap .u8 (rd 0 a0 v2.toNat))])) a0 (w64 (v2 + 1)))))) (some v1))
def l0_i_listText (k : Nat) : Nat → ByteArray → List Int → Int → Option ByteArray
  | 0, _, _, _ => none
  | n + 1, v1, a0, v2 => b0_i_listText k (l0_i_listText k n) v1 a0 v2
def g_i_listText (k : Nat) (L0 : ByteArray → List Int → Int → Option ByteArray) (a0 : List Int) : Option ByteArray := (bd (i_VarText k (a0.length : Int)) fun r1 => (L0 r1.1 a0 0))
def i_listText (k : Nat) (a0 : List Int) : Option ByteArray := g_i_listText k (l0_i_listText k k) a0
end
def i_mainText (k : Nat) (a0 : TEvent) : Option ByteArray := (bd (i_ShortText k a0.2.2.2.2.2.2.1) fun r1 => (bd (i_listText k a0.2.2.2.2.2.1) fun r2 => (gd (decide ((strOfNums [(IntKind.wrap .u8 a0.2.1), (IntKind.wrap .u8 a0.2.2.1), (IntKind.wrap .u8 a0.2.2.2.1), (IntKind.wrap .u8 a0.2.2.2.2.1)]).size + r2.size ≤ maxRow)) (gd (decide (((strOfNums [(IntKind.wrap .u8 a0.2.1), (IntKind.wrap .u8 a0.2.2.1), (IntKind.wrap .u8 a0.2.2.2.1), (IntKind.wrap .u8 a0.2.2.2.2.1)]) ++ r2).size + r1.1.size ≤ maxRow)) (some (((strOfNums [(IntKind.wrap .u8 a0.2.1), (IntKind.wrap .u8 a0.2.2.1), (IntKind.wrap .u8 a0.2.2.2.1), (IntKind.wrap .u8 a0.2.2.2.2.1)]) ++ r2) ++ r1.1))))))
def i_EventText (k : Nat) (a0 : TEvent) : Option (ByteArray × Bool) := (bd (i_EventOk k a0) fun r1 => (br (!r1) (some ((⟨#[]⟩ : ByteArray), false)) (bd (i_VarText k a0.1) fun r2 => (gd (decide ([(a0.2.2.2.2.2.2.2.1.length : Int)].length + a0.2.2.2.2.2.2.2.1.length ≤ maxRow)) (bd (i_vars k ([(a0.2.2.2.2.2.2.2.1.length : Int)] ++ a0.2.2.2.2.2.2.2.1)) fun r3 => (bd (i_VarText k a0.2.2.2.2.2.2.2.2.1) fun r4 => (bd (i_mainText k a0) fun r5 => (gd (decide (r2.1.size + r5.size ≤ maxRow)) (gd (decide ((r2.1 ++ r5).size + r3.1.size ≤ maxRow)) (gd (decide (((r2.1 ++ r5) ++ r3.1).size + r4.1.size ≤ maxRow)) (some ((((r2.1 ++ r5) ++ r3.1) ++ r4.1), true))))))))))))
noncomputable section
def b2_i_HallText (k : Nat) (L2 : ByteArray → THall → Int → Option (ByteArray × Bool)) (v3 : ByteArray) (a0 : THall) (v5 : Int) : Option (ByteArray × Bool) := (br (decide (v5 < (a0.2.2.1.length : Int))) (gd (decide (0 ≤ v5)) (gd (decide (v5 < (a0.2.2.1.length : Int))) (bd (i_VarText k (rd dTOut a0.2.2.1 v5.toNat).2.1) fun r8 => (gd (decide (v3.size + r8.1.size ≤ maxRow)) (L2 (v3 ++ r8.1) a0 (w64 (v5 + 1))))))) (br (decide ((v3.size : Int) > 20000)) (some ((⟨#[]⟩ : ByteArray), false)) (some (v3, true))))
def b1_i_HallText (k : Nat) (L1 : ByteArray → THall → Int → Option (ByteArray × Bool)) (L2 : ByteArray → THall → Int → Option (ByteArray × Bool)) (v3 : ByteArray) (a0 : THall) (v4 : Int) : Option (ByteArray × Bool) := (br (decide (v4 < (a0.2.1.1.length : Int))) (gd (decide (0 ≤ v4)) (gd (decide (v4 < (a0.2.1.1.length : Int))) (bd (i_EventText k (rd dTEvent a0.2.1.1 v4.toNat)) fun r6 => (bd (i_ShortText k r6.1) fun r7 => (gd (decide (v3.size + r7.1.size ≤ maxRow)) (L1 (v3 ++ r7.1) a0 (w64 (v4 + 1)))))))) (L2 v3 a0 0))
def b0_i_HallText (k : Nat) (L0 : ByteArray → THall → Int → Option (ByteArray × Bool)) (L1 : ByteArray → THall → Int → Option (ByteArray × Bool)) (v1 : ByteArray) (a0 : THall) (v2 : Int) : Option (ByteArray × Bool) := (br (decide (v2 < (a0.1.length : Int))) (gd (decide (0 ≤ v2)) (gd (decide (v2 < (a0.1.length : Int))) (bd (i_vars k [(rd dTSession a0.1 v2.toNat).1, (rd dTSession a0.1 v2.toNat).2.1]) fun r3 => (bd (i_ShortText k (rd dTSession a0.1 v2.toNat).2.2.1) fun r4 => (gd (decide (r3.1.size + r4.1.size ≤ maxRow)) (gd (decide (v1.size + (r3.1 ++ r4.1).size ≤ maxRow)) (L0 (v1 ++ (r3.1 ++ r4.1)) a0 (w64 (v2 + 1))))))))) (bd (i_VarText k (a0.2.1.1.length : Int)) fun r5 => (gd (decide (v1.size + r5.1.size ≤ maxRow)) (L1 (v1 ++ r5.1) a0 0))))
def l2_i_HallText (k : Nat) : Nat → ByteArray → THall → Int → Option (ByteArray × Bool)
  | 0, _, _, _ => none
  | n + 1, v3, a0, v5 => b2_i_HallText k (l2_i_HallText k n) v3 a0 v5
def l1_i_HallText (k : Nat) : Nat → ByteArray → THall → Int → Option (ByteArray × Bool)
  | 0, _, _, _ => none
  | n + 1, v3, a0, v4 => b1_i_HallText k (l1_i_HallText k n) (l2_i_HallText k n) v3 a0 v4
def l0_i_HallText (k : Nat) : Nat → ByteArray → THall → Int → Option (ByteArray × Bool)
  | 0, _, _, _ => none
  | n + 1, v1, a0, v2 => b0_i_HallText k (l0_i_HallText k n) (l1_i_HallText k n) v1 a0 v2
def g_i_HallText (k : Nat) (L0 : ByteArray → THall → Int → Option (ByteArray × Bool)) (a0 : THall) : Option (ByteArray × Bool) := (bd (i_HallOk k a0) fun r1 => (br (!r1) (some ((⟨#[]⟩ : ByteArray), false)) (bd (i_VarText k (a0.1.length : Int)) fun r2 => (L0 r2.1 a0 0))))
def i_HallText (k : Nat) (a0 : THall) : Option (ByteArray × Bool) := g_i_HallText k (l0_i_HallText k k) a0
end
def l_eqSession (k : Nat) (a0 : TSession) (a1 : TSession) : Option Bool := (br (a0.1 != a1.1) (some false) (br (a0.2.1 != a1.2.1) (some false) (br (!(a0.2.2.1.toList == a1.2.2.1.toList)) (some false) (some true))))
noncomputable section
def b0_l_eqSessionS (k : Nat) (L0 : List TSession → List TSession → Int → Option Bool) (a0 : List TSession) (a1 : List TSession) (v1 : Int) : Option Bool := (br (decide (v1 < (a0.length : Int))) (gd (decide (0 ≤ v1)) (gd (decide (v1 < (a0.length : Int))) (gd (decide (0 ≤ v1)) (gd (decide (v1 < (a1.length : Int))) (bd (l_eqSession k (rd dTSession a0 v1.toNat) (rd dTSession a1 v1.toNat)) fun r1 => (br (!r1) (some false) (L0 a0 a1 (w64 (v1 + 1))))))))) (some true))
def l0_l_eqSessionS (k : Nat) : Nat → List TSession → List TSession → Int → Option Bool
  | 0, _, _, _ => none
  | n + 1, a0, a1, v1 => b0_l_eqSessionS k (l0_l_eqSessionS k n) a0 a1 v1
def g_l_eqSessionS (k : Nat) (L0 : List TSession → List TSession → Int → Option Bool) (a0 : List TSession) (a1 : List TSession) : Option Bool := (br ((a0.length : Int) != (a1.length : Int)) (some false) (L0 a0 a1 0))
def l_eqSessionS (k : Nat) (a0 : List TSession) (a1 : List TSession) : Option Bool := g_l_eqSessionS k (l0_l_eqSessionS k k) a0 a1
end
noncomputable section
def b0_l_eqIntS (k : Nat) (L0 : List Int → List Int → Int → Option Bool) (a0 : List Int) (a1 : List Int) (v1 : Int) : Option Bool := (br (decide (v1 < (a0.length : Int))) (gd (decide (0 ≤ v1)) (gd (decide (v1 < (a0.length : Int))) (gd (decide (0 ≤ v1)) (gd (decide (v1 < (a1.length : Int))) (br ((rd 0 a0 v1.toNat) != (rd 0 a1 v1.toNat)) (some false) (L0 a0 a1 (w64 (v1 + 1)))))))) (some true))
def l0_l_eqIntS (k : Nat) : Nat → List Int → List Int → Int → Option Bool
  | 0, _, _, _ => none
  | n + 1, a0, a1, v1 => b0_l_eqIntS k (l0_l_eqIntS k n) a0 a1 v1
def g_l_eqIntS (k : Nat) (L0 : List Int → List Int → Int → Option Bool) (a0 : List Int) (a1 : List Int) : Option Bool := (br ((a0.length : Int) != (a1.length : Int)) (some false) (L0 a0 a1 0))
def l_eqIntS (k : Nat) (a0 : List Int) (a1 : List Int) : Option Bool := g_l_eqIntS k (l0_l_eqIntS k k) a0 a1
end
def l_eqEvent (k : Nat) (a0 : TEvent) (a1 : TEvent) : Option Bool := (br (a0.1 != a1.1) (some false) (br (a0.2.1 != a1.2.1) (some false) (br (a0.2.2.1 != a1.2.2.1) (some false) (br (a0.2.2.2.1 != a1.2.2.2.1) (some false) (br (a0.2.2.2.2.1 != a1.2.2.2.2.1) (some false) (bd (l_eqIntS k a0.2.2.2.2.2.1 a1.2.2.2.2.2.1) fun r1 => (br (!r1) (some false) (br (!(a0.2.2.2.2.2.2.1.toList == a1.2.2.2.2.2.2.1.toList)) (some false) (bd (l_eqIntS k a0.2.2.2.2.2.2.2.1 a1.2.2.2.2.2.2.2.1) fun r2 => (br (!r2) (some false) (br (a0.2.2.2.2.2.2.2.2.1 != a1.2.2.2.2.2.2.2.2.1) (some false) (some true))))))))))))
noncomputable section
def b0_l_eqEventS (k : Nat) (L0 : List TEvent → List TEvent → Int → Option Bool) (a0 : List TEvent) (a1 : List TEvent) (v1 : Int) : Option Bool := (br (decide (v1 < (a0.length : Int))) (gd (decide (0 ≤ v1)) (gd (decide (v1 < (a0.length : Int))) (gd (decide (0 ≤ v1)) (gd (decide (v1 < (a1.length : Int))) (bd (l_eqEvent k (rd dTEvent a0 v1.toNat) (rd dTEvent a1 v1.toNat)) fun r1 => (br (!r1) (some false) (L0 a0 a1 (w64 (v1 + 1))))))))) (some true))
def l0_l_eqEventS (k : Nat) : Nat → List TEvent → List TEvent → Int → Option Bool
  | 0, _, _, _ => none
  | n + 1, a0, a1, v1 => b0_l_eqEventS k (l0_l_eqEventS k n) a0 a1 v1
def g_l_eqEventS (k : Nat) (L0 : List TEvent → List TEvent → Int → Option Bool) (a0 : List TEvent) (a1 : List TEvent) : Option Bool := (br ((a0.length : Int) != (a1.length : Int)) (some false) (L0 a0 a1 0))
def l_eqEventS (k : Nat) (a0 : List TEvent) (a1 : List TEvent) : Option Bool := g_l_eqEventS k (l0_l_eqEventS k k) a0 a1
end
def l_eqItem (k : Nat) (a0 : TItem) (a1 : TItem) : Option Bool := (br (a0.1 != a1.1) (some false) (br (a0.2.1 != a1.2.1) (some false) (some true)))
noncomputable section
def b0_l_eqItemS (k : Nat) (L0 : List TItem → List TItem → Int → Option Bool) (a0 : List TItem) (a1 : List TItem) (v1 : Int) : Option Bool := (br (decide (v1 < (a0.length : Int))) (gd (decide (0 ≤ v1)) (gd (decide (v1 < (a0.length : Int))) (gd (decide (0 ≤ v1)) (gd (decide (v1 < (a1.length : Int))) (bd (l_eqItem k (rd dTItem a0 v1.toNat) (rd dTItem a1 v1.toNat)) fun r1 => (br (!r1) (some false) (L0 a0 a1 (w64 (v1 + 1))))))))) (some true))
def l0_l_eqItemS (k : Nat) : Nat → List TItem → List TItem → Int → Option Bool
  | 0, _, _, _ => none
  | n + 1, a0, a1, v1 => b0_l_eqItemS k (l0_l_eqItemS k n) a0 a1 v1
def g_l_eqItemS (k : Nat) (L0 : List TItem → List TItem → Int → Option Bool) (a0 : List TItem) (a1 : List TItem) : Option Bool := (br ((a0.length : Int) != (a1.length : Int)) (some false) (L0 a0 a1 0))
def l_eqItemS (k : Nat) (a0 : List TItem) (a1 : List TItem) : Option Bool := g_l_eqItemS k (l0_l_eqItemS k k) a0 a1
end
noncomputable section
def b0_l_eqItemSS (k : Nat) (L0 : List (List TItem) → List (List TItem) → Int → Option Bool) (a0 : List (List TItem)) (a1 : List (List TItem)) (v1 : Int) : Option Bool := (br (decide (v1 < (a0.length : Int))) (gd (decide (0 ≤ v1)) (gd (decide (v1 < (a0.length : Int))) (gd (decide (0 ≤ v1)) (gd (decide (v1 < (a1.length : Int))) (bd (l_eqItemS k (rd [] a0 v1.toNat) (rd [] a1 v1.toNat)) fun r1 => (br (!r1) (some false) (L0 a0 a1 (w64 (v1 + 1))))))))) (some true))
def l0_l_eqItemSS (k : Nat) : Nat → List (List TItem) → List (List TItem) → Int → Option Bool
  | 0, _, _, _ => none
  | n + 1, a0, a1, v1 => b0_l_eqItemSS k (l0_l_eqItemSS k n) a0 a1 v1
def g_l_eqItemSS (k : Nat) (L0 : List (List TItem) → List (List TItem) → Int → Option Bool) (a0 : List (List TItem)) (a1 : List (List TItem)) : Option Bool := (br ((a0.length : Int) != (a1.length : Int)) (some false) (L0 a0 a1 0))
def l_eqItemSS (k : Nat) (a0 : List (List TItem)) (a1 : List (List TItem)) : Option Bool := g_l_eqItemSS k (l0_l_eqItemSS k k) a0 a1
end
noncomputable section
def b0_l_eqBoolS (k : Nat) (L0 : List Bool → List Bool → Int → Option Bool) (a0 : List Bool) (a1 : List Bool) (v1 : Int) : Option Bool := (br (decide (v1 < (a0.length : Int))) (gd (decide (0 ≤ v1)) (gd (decide (v1 < (a0.length : Int))) (gd (decide (0 ≤ v1)) (gd (decide (v1 < (a1.length : Int))) (br (!((rd false a0 v1.toNat) == (rd false a1 v1.toNat))) (some false) (L0 a0 a1 (w64 (v1 + 1)))))))) (some true))
def l0_l_eqBoolS (k : Nat) : Nat → List Bool → List Bool → Int → Option Bool
  | 0, _, _, _ => none
  | n + 1, a0, a1, v1 => b0_l_eqBoolS k (l0_l_eqBoolS k n) a0 a1 v1
def g_l_eqBoolS (k : Nat) (L0 : List Bool → List Bool → Int → Option Bool) (a0 : List Bool) (a1 : List Bool) : Option Bool := (br ((a0.length : Int) != (a1.length : Int)) (some false) (L0 a0 a1 0))
def l_eqBoolS (k : Nat) (a0 : List Bool) (a1 : List Bool) : Option Bool := g_l_eqBoolS k (l0_l_eqBoolS k k) a0 a1
end
def l_eqRoom (k : Nat) (a0 : TRoom) (a1 : TRoom) : Option Bool := (bd (l_eqEventS k a0.1 a1.1) fun r1 => (br (!r1) (some false) (bd (l_eqItemSS k a0.2.1 a1.2.1) fun r2 => (br (!r2) (some false) (bd (l_eqBoolS k a0.2.2.1 a1.2.2.1) fun r3 => (br (!r3) (some false) (some true)))))))
def l_eqOut (k : Nat) (a0 : TOut) (a1 : TOut) : Option Bool := (br (a0.1 != a1.1) (some false) (br (a0.2.1 != a1.2.1) (some false) (bd (l_eqIntS k a0.2.2.1 a1.2.2.1) fun r1 => (br (!r1) (some false) (some true)))))
noncomputable section
def b0_l_eqOutS (k : Nat) (L0 : List TOut → List TOut → Int → Option Bool) (a0 : List TOut) (a1 : List TOut) (v1 : Int) : Option Bool := (br (decide (v1 < (a0.length : Int))) (gd (decide (0 ≤ v1)) (gd (decide (v1 < (a0.length : Int))) (gd (decide (0 ≤ v1)) (gd (decide (v1 < (a1.length : Int))) (bd (l_eqOut k (rd dTOut a0 v1.toNat) (rd dTOut a1 v1.toNat)) fun r1 => (br (!r1) (some false) (L0 a0 a1 (w64 (v1 + 1))))))))) (some true))
def l0_l_eqOutS (k : Nat) : Nat → List TOut → List TOut → Int → Option Bool
  | 0, _, _, _ => none
  | n + 1, a0, a1, v1 => b0_l_eqOutS k (l0_l_eqOutS k n) a0 a1 v1
def g_l_eqOutS (k : Nat) (L0 : List TOut → List TOut → Int → Option Bool) (a0 : List TOut) (a1 : List TOut) : Option Bool := (br ((a0.length : Int) != (a1.length : Int)) (some false) (L0 a0 a1 0))
def l_eqOutS (k : Nat) (a0 : List TOut) (a1 : List TOut) : Option Bool := g_l_eqOutS k (l0_l_eqOutS k k) a0 a1
end
def l_eqHall (k : Nat) (a0 : THall) (a1 : THall) : Option Bool := (bd (l_eqSessionS k a0.1 a1.1) fun r1 => (br (!r1) (some false) (bd (l_eqRoom k a0.2.1 a1.2.1) fun r2 => (br (!r2) (some false) (bd (l_eqOutS k a0.2.2.1 a1.2.2.1) fun r3 => (br (!r3) (some false) (some true)))))))
def l_FnExactHallText (k : Nat) (a0 : THall) : Option Bool := (bd (l_szHall k a0 1048576) fun r1 => (br (decide (r1 < 0)) (some true) (bd (l_toHall k a0) fun r2 => (bd (s_HallText k r2) fun r3 => (bd (l_toHall k a0) fun r4 => (bd (i_HallText k r4) fun r5 => (br (!(r5.1.toList == r3.1.toList)) (some false) (br (!(r5.2 == r3.2)) (some false) (bd (l_toHall k a0) fun r6 => (bd (l_eqHall k r4 r6) fun r7 => (br (!r7) (some false) (some true))))))))))))
end Go.Vm
