/- What the functions compute. -/
import Derived.Test.YtdpbokpmionoeaaVb
set_option linter.unusedVariables false
namespace Go.Vm
open Go
abbrev TItem : Type := Int × Int × Unit
def dTItem : TItem := (0, 0, ())
abbrev TEvent : Type := Int × Int × Int × Int × Int × List Int × ByteArray × List Int × Int × Unit
def dTEvent : TEvent := (0, 0, 0, 0, 0, [], ByteArray.empty, [], 0, ())
abbrev TCommand : Type := Int × Int × Int × TEvent × Int × Int × Unit
def dTCommand : TCommand := (0, 0, 0, dTEvent, 0, 0, ())
abbrev TRoom : Type := List TEvent × List (List TItem) × List Bool × Unit
def dTRoom : TRoom := ([], [], [], ())
abbrev TOut : Type := Int × Int × List Int × Unit
def dTOut : TOut := (0, 0, [], ())
abbrev TSession : Type := Int × Int × ByteArray × Unit
def dTSession : TSession := (0, 0, ByteArray.empty, ())
abbrev THall : Type := List TSession × TRoom × List TOut × Unit
def dTHall : THall := ([], dTRoom, [], ())
def l_szItemS (k : Nat) (a0 : List TItem) (a1 : Int) : Option Int := (br (decide ((w64 (a1 - (a0.length : Int))) < 0)) (some (-1)) (some (w64 (a1 - (a0.length : Int)))))
noncomputable section
def b0_s_At (k : Nat) (L0n0 : List TItem → Int → Int → Option Int) (a0 : List TItem) (a1 : Int) (v1 : Int) : Option Int := (br (decide (v1 < (a0.length : Int))) (gd (decide (0 ≤ v1)) (gd (decide (v1 < (a0.length : Int))) (br ((rd dTItem a0 v1.toNat).1 == a1) (gd (decide (0 ≤ v1)) (gd (decide (v1 < (a0.length : Int))) (some (rd dTItem a0 v1.toNat).2.1))) (L0n0 a0 a1 (w64 (v1 + 1)))))) (some 0))
def l0_s_At (k : Nat) : Nat → List TItem → Int → Int → Option Int
  | 0, _, _, _ => none
  | n0 + 1, a0, a1, v1 => b0_s_At k (l0_s_At k n0) a0 a1 v1
def g_s_At (k : Nat) (L0k : List TItem → Int → Int → Option Int) (a0 : List TItem) (a1 : Int) : Option Int := (L0k a0 a1 0)
def s_At (k : Nat) (a0 : List TItem) (a1 : Int) : Option Int := g_s_At k (l0_s_At k k) a0 a1
end
def l_toItem (k : Nat) (a0 : TItem) : Option TItem := (some a0)
noncomputable section
def b0_l_toItemS (k : Nat) (L0n0 : List TItem → Int → List TItem → Option (List TItem)) (a0 : List TItem) (v1 : Int) (xs2 : List TItem) : Option (List TItem) := (br (decide (v1 < (a0.length : Int))) (gd (decide (0 ≤ v1)) (gd (decide (v1 < (a0.length : Int))) (bd (l_toItem k (rd dTItem a0 v1.toNat)) fun r1 => (gd (decide (0 ≤ v1)) (gd (decide (v1 < (xs2.length : Int))) (L0n0 a0 (w64 (v1 + 1)) (xs2.set v1.toNat r1))))))) (some xs2))
def l0_l_toItemS (k : Nat) : Nat → List TItem → Int → List TItem → Option (List TItem)
  | 0, _, _, _ => none
  | n0 + 1, a0, v1, xs2 => b0_l_toItemS k (l0_l_toItemS k n0) a0 v1 xs2
def g_l_toItemS (k : Nat) (L0k : List TItem → Int → List TItem → Option (List TItem)) (a0 : List TItem) : Option (List TItem) := (gd (decide ((a0.length : Int) = (a0.length : Int))) (gd (decide (0 ≤ (a0.length : Int))) (gd (decide ((a0.length : Int).toNat ≤ maxRow)) (L0k a0 0 (List.replicate (a0.length : Int).toNat dTItem)))))
def l_toItemS (k : Nat) (a0 : List TItem) : Option (List TItem) := g_l_toItemS k (l0_l_toItemS k k) a0
end
noncomputable section
def b0_i_At (k : Nat) (L0n0 : Int → List TItem → Int → Option Int) (a1 : Int) (a0 : List TItem) (v1 : Int) : Option Int := (br (decide (v1 < (a0.length : Int))) (gd (decide (0 ≤ v1)) (gd (decide (v1 < (a0.length : Int))) (br ((rd dTItem a0 v1.toNat).1 == a1) (some (rd dTItem a0 v1.toNat).2.1) (L0n0 a1 a0 (w64 (v1 + 1)))))) (some 0))
def l0_i_At (k : Nat) : Nat → Int → List TItem → Int → Option Int
  | 0, _, _, _ => none
  | n0 + 1, a1, a0, v1 => b0_i_At k (l0_i_At k n0) a1 a0 v1
def g_i_At (k : Nat) (L0k : Int → List TItem → Int → Option Int) (a0 : List TItem) (a1 : Int) : Option Int := (L0k a1 a0 0)
def i_At (k : Nat) (a0 : List TItem) (a1 : Int) : Option Int := g_i_At k (l0_i_At k k) a0 a1
end
def l_eqItem (k : Nat) (a0 : TItem) (a1 : TItem) : Option Bool := (br (a0.1 != a1.1) (some false) (br (a0.2.1 != a1.2.1) (some false) (some true)))
noncomputable section
def b0_l_eqItemS (k : Nat) (L0n0 : List TItem → List TItem → Int → Option Bool) (a0 : List TItem) (a1 : List TItem) (v1 : Int) : Option Bool := (br (decide (v1 < (a0.length : Int))) (gd (decide (0 ≤ v1)) (gd (decide (v1 < (a0.length : Int))) (gd (decide (0 ≤ v1)) (gd (decide (v1 < (a1.length : Int))) (bd (l_eqItem k (rd dTItem a0 v1.toNat) (rd dTItem a1 v1.toNat)) fun r1 => (br (!r1) (some false) (L0n0 a0 a1 (w64 (v1 + 1))))))))) (some true))
def l0_l_eqItemS (k : Nat) : Nat → List TItem → List TItem → Int → Option Bool
  | 0, _, _, _ => none
  | n0 + 1, a0, a1, v1 => b0_l_eqItemS k (l0_l_eqItemS k n0) a0 a1 v1
def g_l_eqItemS (k : Nat) (L0k : List TItem → List TItem → Int → Option Bool) (a0 : List TItem) (a1 : List TItem) : Option Bool := (br ((a0.length : Int) != (a1.length : Int)) (some false) (L0k a0 a1 0))
def l_eqItemS (k : Nat) (a0 : List TItem) (a1 : List TItem) : Option Bool := g_l_eqItemS k (l0_l_eqItemS k k) a0 a1
end
def l_FnExactAt (k : Nat) (a0 : List TItem) (a1 : Int) : Option Bool := (bd (l_szItemS k a0 1048576) fun r1 => (br (decide (r1 < 0)) (some true) (bd (l_toItemS k a0) fun r2 => (bd (s_At k r2 a1) fun r3 => (bd (l_toItemS k a0) fun r4 => (bd (i_At k r4 a1) fun r5 => (br (r5 != r3) (some false) (bd (l_toItemS k a0) fun r6 => (bd (l_eqItemS k r4 r6) fun r7 => (br (!r7) (some false) (some true)))))))))))
def s_l01In (k : Nat) (a0 : Int) (a1 : Int) (a2 : Int) : Option Bool := (br (decide (a0 ≥ a1)) (some (decide (a0 ≤ a2))) (some false))
def s_l10Key (k : Nat) (a0 : Int) : Option Bool := (bd (s_l01In k a0 1 3) fun r1 => (br r1 (some true) (bd (s_l01In k a0 11 15) fun r2 => (some r2))))
noncomputable section
def b0_s_StateOk (k : Nat) (L0n0 : List TItem → Int → Option Bool) (a0 : List TItem) (v1 : Int) : Option Bool := (br (decide (v1 < (a0.length : Int))) (gd (decide (0 ≤ v1)) (gd (decide (v1 < (a0.length : Int))) (bd (s_l10Key k (rd dTItem a0 v1.toNat).1) fun r1 => (br (!r1) (some false) (gd (decide (0 ≤ v1)) (gd (decide (v1 < (a0.length : Int))) (bd (s_l01In k (rd dTItem a0 v1.toNat).2.1 1 1000000) fun r2 => (br (!r2) (some false) (br (decide (v1 > 0)) (gd (decide (0 ≤ (w64 (v1 - 1)))) (gd (decide ((w64 (v1 - 1)) < (a0.length : Int))) (gd (decide (0 ≤ v1)) (gd (decide (v1 < (a0.length : Int))) (br (decide ((rd dTItem a0 (w64 (v1 - 1)).toNat).1 ≥ (rd dTItem a0 v1.toNat).1)) (some false) (L0n0 a0 (w64 (v1 + 1)))))))) (L0n0 a0 (w64 (v1 + 1)))))))))))) (some true))
def l0_s_StateOk (k : Nat) : Nat → List TItem → Int → Option Bool
  | 0, _, _ => none
  | n0 + 1, a0, v1 => b0_s_StateOk k (l0_s_StateOk k n0) a0 v1
def g_s_StateOk (k : Nat) (L0k : List TItem → Int → Option Bool) (a0 : List TItem) : Option Bool := (br (decide ((a0.length : Int) > 8)) (some false) (L0k a0 0))
def s_StateOk (k : Nat) (a0 : List TItem) : Option Bool := g_s_StateOk k (l0_s_StateOk k k) a0
end
def i_within (k : Nat) (a0 : Int) (a1 : Int) (a2 : Int) : Option Bool := (br (decide (a0 ≥ a1)) (some (decide (a0 ≤ a2))) (some false))
noncomputable section
def b0_i_StateOk (k : Nat) (L0n0 : List TItem → Int → Option Bool) (a0 : List TItem) (v1 : Int) : Option Bool := (br (decide (v1 < (a0.length : Int))) (gd (decide (0 ≤ v1)) (gd (decide (v1 < (a0.length : Int))) (bd (i_within k (rd dTItem a0 v1.toNat).1 1 3) fun r1 => (br (!r1) (bd (i_within k (rd dTItem a0 v1.toNat).1 11 15) fun r2 => (br (!r2) (some false) (bd (i_within k (rd dTItem a0 v1.toNat).2.1 1 1000000) fun r3 => (br (!r3) (some false) (br (decide (v1 > 0)) (gd (decide (0 ≤ (w64 (v1 - 1)))) (gd (decide ((w64 (v1 - 1)) < (a0.length : Int))) (br (decide ((rd dTItem a0 (w64 (v1 - 1)).toNat).1 ≥ (rd dTItem a0 v1.toNat).1)) (some false) (L0n0 a0 (w64 (v1 + 1)))))) (L0n0 a0 (w64 (v1 + 1)))))))) (bd (i_within k (rd dTItem a0 v1.toNat).2.1 1 1000000) fun r4 => (br (!r4) (some false) (br (decide (v1 > 0)) (gd (decide (0 ≤ (w64 (v1 - 1)))) (gd (decide ((w64 (v1 - 1)) < (a0.length : Int))) (br (decide ((rd dTItem a0 (w64 (v1 - 1)).toNat).1 ≥ (rd dTItem a0 v1.toNat).1)) (some false) (L0n0 a0 (w64 (v1 + 1)))))) (L0n0 a0 (w64 (v1 + 1)))))))))) (some (decide ((a0.length : Int) ≤ 8))))
def l0_i_StateOk (k : Nat) : Nat → List TItem → Int → Option Bool
  | 0, _, _ => none
  | n0 + 1, a0, v1 => b0_i_StateOk k (l0_i_StateOk k n0) a0 v1
def g_i_StateOk (k : Nat) (L0k : List TItem → Int → Option Bool) (a0 : List TItem) : Option Bool := (L0k a0 0)
def i_StateOk (k : Nat) (a0 : List TItem) : Option Bool := g_i_StateOk k (l0_i_StateOk k k) a0
end
def l_FnExactStateOk (k : Nat) (a0 : List TItem) : Option Bool := (bd (l_szItemS k a0 1048576) fun r1 => (br (decide (r1 < 0)) (some true) (bd (l_toItemS k a0) fun r2 => (bd (s_StateOk k r2) fun r3 => (bd (l_toItemS k a0) fun r4 => (bd (i_StateOk k r4) fun r5 => (br (!(r5 == r3)) (some false) (bd (l_toItemS k a0) fun r6 => (bd (l_eqItemS k r4 r6) fun r7 => (br (!r7) (some false) (some true)))))))))))
def l_szIntS (k : Nat) (a0 : List Int) (a1 : Int) : Option Int := (br (decide ((w64 (a1 - (a0.length : Int))) < 0)) (some (-1)) (some (w64 (a1 - (a0.length : Int)))))
def l_szEvent (k : Nat) (a0 : TEvent) (a1 : Int) : Option Int := (bd (l_szIntS k a0.2.2.2.2.2.1 a1) fun r1 => (br (decide (r1 < 0)) (some (-1)) (br (decide ((w64 (r1 - (a0.2.2.2.2.2.2.1.size : Int))) < 0)) (some (-1)) (bd (l_szIntS k a0.2.2.2.2.2.2.2.1 (w64 (r1 - (a0.2.2.2.2.2.2.1.size : Int)))) fun r2 => (br (decide (r2 < 0)) (some (-1)) (some r2))))))
noncomputable section
def b0_s_l09Levels (k : Nat) (L0n0 : List Int → Int → Option Bool) (a0 : List Int) (v1 : Int) : Option Bool := (br (decide (v1 < (a0.length : Int))) (gd (decide (0 ≤ v1)) (gd (decide (v1 < (a0.length : Int))) (bd (s_l01In k (rd 0 a0 v1.toNat) 0 100) fun r1 => (br (!r1) (some false) (L0n0 a0 (w64 (v1 + 1))))))) (some ((a0.length : Int) == 5)))
def l0_s_l09Levels (k : Nat) : Nat → List Int → Int → Option Bool
  | 0, _, _ => none
  | n0 + 1, a0, v1 => b0_s_l09Levels k (l0_s_l09Levels k n0) a0 v1
def g_s_l09Levels (k : Nat) (L0k : List Int → Int → Option Bool) (a0 : List Int) : Option Bool := (L0k a0 0)
def s_l09Levels (k : Nat) (a0 : List Int) : Option Bool := g_s_l09Levels k (l0_s_l09Levels k k) a0
end
def s_l09Body (k : Nat) (a0 : TEvent) : Option Bool := (bd (s_l01In k a0.2.1 1 5) fun r1 => (br (!r1) (some false) (bd (s_l01In k a0.2.2.1 1 5) fun r2 => (br (!r2) (some false) (br (a0.2.1 == 2) (bd (s_l01In k a0.2.2.2.1 1 5) fun r3 => (br (!r3) (some false) (bd (s_l01In k a0.2.2.2.2.1 0 3) fun r4 => (br (!r4) (some false) (br (a0.2.1 != 2) (br (a0.2.2.2.1 != 0) (some false) (br (a0.2.2.2.2.1 != 0) (some false) (br (a0.2.1 == 3) (bd (s_l09Levels k a0.2.2.2.2.2.1) fun r5 => (br (!r5) (some false) (br (a0.2.1 != 3) (br (decide ((a0.2.2.2.2.2.1.length : Int) > 0)) (some false) (br (a0.2.1 == 4) (some (decide ((a0.2.2.2.2.2.2.1.size : Int) ≤ 24))) (br (a0.2.1 == 5) (some (decide ((a0.2.2.2.2.2.2.1.size : Int) ≤ 24))) (some (a0.2.2.2.2.2.2.1.toList == (⟨#[]⟩ : ByteArray).toList))))) (br (a0.2.1 == 4) (some (decide ((a0.2.2.2.2.2.2.1.size : Int) ≤ 24))) (br (a0.2.1 == 5) (some (decide ((a0.2.2.2.2.2.2.1.size : Int) ≤ 24))) (some (a0.2.2.2.2.2.2.1.toList == (⟨#[]⟩ : ByteArray).toList))))))) (br (a0.2.1 != 3) (br (decide ((a0.2.2.2.2.2.1.length : Int) > 0)) (some false) (br (a0.2.1 == 4) (some (decide ((a0.2.2.2.2.2.2.1.size : Int) ≤ 24))) (br (a0.2.1 == 5) (some (decide ((a0.2.2.2.2.2.2.1.size : Int) ≤ 24))) (some (a0.2.2.2.2.2.2.1.toList == (⟨#[]⟩ : ByteArray).toList))))) (br (a0.2.1 == 4) (some (decide ((a0.2.2.2.2.2.2.1.size : Int) ≤ 24))) (br (a0.2.1 == 5) (some (decide ((a0.2.2.2.2.2.2.1.size : Int) ≤ 24))) (some (a0.2.2.2.2.2.2.1.toList == (⟨#[]⟩ : ByteArray).toList)))))))) (br (a0.2.1 == 3) (bd (s_l09Levels k a0.2.2.2.2.2.1) fun r6 => (br (!r6) (some false) (br (a0.2.1 != 3) (br (decide ((a0.2.2.2.2.2.1.length : Int) > 0)) (some false) (br (a0.2.1 == 4) (some (decide ((a0.2.2.2.2.2.2.1.size : Int) ≤ 24))) (br (a0.2.1 == 5) (some (decide ((a0.2.2.2.2.2.2.1.size : Int) ≤ 24))) (some (a0.2.2.2.2.2.2.1.toList == (⟨#[]⟩ : ByteArray).toList))))) (br (a0.2.1 == 4) (some (decide ((a0.2.2.2.2.2.2.1.size : Int) ≤ 24))) (br (a0.2.1 == 5) (some (decide ((a0.2.2.2.2.2.2.1.size : Int) ≤ 24))) (some (a0.2.2.2.2.2.2.1.toList == (⟨#[]⟩ : ByteArray).toList))))))) (br (a0.2.1 != 3) (br (decide ((a0.2.2.2.2.2.1.length : Int) > 0)) (some false) (br (a0.2.1 == 4) (some (decide ((a0.2.2.2.2.2.2.1.size : Int) ≤ 24))) (br (a0.2.1 == 5) (some (decide ((a0.2.2.2.2.2.2.1.size : Int) ≤ 24))) (some (a0.2.2.2.2.2.2.1.toList == (⟨#[]⟩ : ByteArray).toList))))) (br (a0.2.1 == 4) (some (decide ((a0.2.2.2.2.2.2.1.size : Int) ≤ 24))) (br (a0.2.1 == 5) (some (decide ((a0.2.2.2.2.2.2.1.size : Int) ≤ 24))) (some (a0.2.2.2.2.2.2.1.toList == (⟨#[]⟩ : ByteArray).toList))))))))))) (br (a0.2.1 != 2) (br (a0.2.2.2.1 != 0) (some false) (br (a0.2.2.2.2.1 != 0) (some false) (br (a0.2.1 == 3) (bd (s_l09Levels k a0.2.2.2.2.2.1) fun r7 => (br (!r7) (some false) (br (a0.2.1 != 3) (br (decide ((a0.2.2.2.2.2.1.length : Int) > 0)) (some false) (br (a0.2.1 == 4) (some (decide ((a0.2.2.2.2.2.2.1.size : Int) ≤ 24))) (br (a0.2.1 == 5) (some (decide ((a0.2.2.2.2.2.2.1.size : Int) ≤ 24))) (some (a0.2.2.2.2.2.2.1.toList == (⟨#[]⟩ : ByteArray).toList))))) (br (a0.2.1 == 4) (some (decide ((a0.2.2.2.2.2.2.1.size : Int) ≤ 24))) (br (a0.2.1 == 5) (some (decide ((a0.2.2.2.2.2.2.1.size : Int) ≤ 24))) (some (a0.2.2.2.2.2.2.1.toList == (⟨#[]⟩ : ByteArray).toList))))))) (br (a0.2.1 != 3) (br (decide ((a0.2.2.2.2.2.1.length : Int) > 0)) (some false) (br (a0.2.1 == 4) (some (decide ((a0.2.2.2.2.2.2.1.size : Int) ≤ 24))) (br (a0.2.1 == 5) (some (decide ((a0.2.2.2.2.2.2.1.size : Int) ≤ 24))) (some (a0.2.2.2.2.2.2.1.toList == (⟨#[]⟩ : ByteArray).toList))))) (br (a0.2.1 == 4) (some (decide ((a0.2.2.2.2.2.2.1.size : Int) ≤ 24))) (br (a0.2.1 == 5) (some (decide ((a0.2.2.2.2.2.2.1.size : Int) ≤ 24))) (some (a0.2.2.2.2.2.2.1.toList == (⟨#[]⟩ : ByteArray).toList)))))))) (br (a0.2.1 == 3) (bd (s_l09Levels k a0.2.2.2.2.2.1) fun r8 => (br (!r8) (some false) (br (a0.2.1 != 3) (br (decide ((a0.2.2.2.2.2.1.length : Int) > 0)) (some false) (br (a0.2.1 == 4) (some (decide ((a0.2.2.2.2.2.2.1.size : Int) ≤ 24))) (br (a0.2.1 == 5) (some (decide ((a0.2.2.2.2.2.2.1.size : Int) ≤ 24))) (some (a0.2.2.2.2.2.2.1.toList == (⟨#[]⟩ : ByteArray).toList))))) (br (a0.2.1 == 4) (some (decide ((a0.2.2.2.2.2.2.1.size : Int) ≤ 24))) (br (a0.2.1 == 5) (some (decide ((a0.2.2.2.2.2.2.1.size : Int) ≤ 24))) (some (a0.2.2.2.2.2.2.1.toList == (⟨#[]⟩ : ByteArray).toList))))))) (br (a0.2.1 != 3) (br (decide ((a0.2.2.2.2.2.1.length : Int) > 0)) (some false) (br (a0.2.1 == 4) (some (decide ((a0.2.2.2.2.2.2.1.size : Int) ≤ 24))) (br (a0.2.1 == 5) (some (decide ((a0.2.2.2.2.2.2.1.size : Int) ≤ 24))) (some (a0.2.2.2.2.2.2.1.toList == (⟨#[]⟩ : ByteArray).toList))))) (br (a0.2.1 == 4) (some (decide ((a0.2.2.2.2.2.2.1.size : Int) ≤ 24))) (br (a0.2.1 == 5) (some (decide ((a0.2.2.2.2.2.2.1.size : Int) ≤ 24))) (some (a0.2.2.2.2.2.2.1.toList == (⟨#[]⟩ : ByteArray).toList))))))))))))
noncomputable section
def b0_s_EventOk (k : Nat) (L0n0 : Int → TEvent → Option Bool) (v1 : Int) (a0 : TEvent) : Option Bool := (br (decide (v1 < (a0.2.2.2.2.2.2.2.1.length : Int))) (gd (decide (0 ≤ v1)) (gd (decide (v1 < (a0.2.2.2.2.2.2.2.1.length : Int))) (bd (s_l01In k (rd 0 a0.2.2.2.2.2.2.2.1 v1.toNat) 1 1000000) fun r4 => (br (!r4) (some false) (gd (decide (0 ≤ v1)) (gd (decide (v1 < (a0.2.2.2.2.2.2.2.1.length : Int))) (br ((rd 0 a0.2.2.2.2.2.2.2.1 v1.toNat) == a0.1) (some false) (br (decide (v1 > 0)) (gd (decide (0 ≤ (w64 (v1 - 1)))) (gd (decide ((w64 (v1 - 1)) < (a0.2.2.2.2.2.2.2.1.length : Int))) (gd (decide (0 ≤ v1)) (gd (decide (v1 < (a0.2.2.2.2.2.2.2.1.length : Int))) (br (decide ((rd 0 a0.2.2.2.2.2.2.2.1 (w64 (v1 - 1)).toNat) ≥ (rd 0 a0.2.2.2.2.2.2.2.1 v1.toNat))) (some false) (L0n0 (w64 (v1 + 1)) a0)))))) (L0n0 (w64 (v1 + 1)) a0))))))))) (some true))
def l0_s_EventOk (k : Nat) : Nat → Int → TEvent → Option Bool
  | 0, _, _ => none
  | n0 + 1, v1, a0 => b0_s_EventOk k (l0_s_EventOk k n0) v1 a0
def g_s_EventOk (k : Nat) (L0k : Int → TEvent → Option Bool) (a0 : TEvent) : Option Bool := (bd (s_l09Body k a0) fun r1 => (br (!r1) (some false) (bd (s_l01In k a0.1 1 1000000) fun r2 => (br (!r2) (some false) (bd (s_l01In k a0.2.2.2.2.2.2.2.2.1 0 1000000) fun r3 => (br (!r3) (some false) (br (decide ((a0.2.2.2.2.2.2.2.1.length : Int) > 3)) (some false) (br (!((a0.2.1 == 1) == ((a0.2.2.2.2.2.2.2.1.length : Int) == 0))) (some false) (L0k 0 a0)))))))))
def s_EventOk (k : Nat) (a0 : TEvent) : Option Bool := g_s_EventOk k (l0_s_EventOk k k) a0
end
noncomputable section
def b0_l_toIntS (k : Nat) (L0n0 : List Int → Int → List Int → Option (List Int)) (a0 : List Int) (v1 : Int) (xs2 : List Int) : Option (List Int) := (br (decide (v1 < (a0.length : Int))) (gd (decide (0 ≤ v1)) (gd (decide (v1 < (a0.length : Int))) (gd (decide (0 ≤ v1)) (gd (decide (v1 < (xs2.length : Int))) (L0n0 a0 (w64 (v1 + 1)) (xs2.set v1.toNat (rd 0 a0 v1.toNat))))))) (some xs2))
def l0_l_toIntS (k : Nat) : Nat → List Int → Int → List Int → Option (List Int)
  | 0, _, _, _ => none
  | n0 + 1, a0, v1, xs2 => b0_l_toIntS k (l0_l_toIntS k n0) a0 v1 xs2
def g_l_toIntS (k : Nat) (L0k : List Int → Int → List Int → Option (List Int)) (a0 : List Int) : Option (List Int) := (gd (decide ((a0.length : Int) = (a0.length : Int))) (gd (decide (0 ≤ (a0.length : Int))) (gd (decide ((a0.length : Int).toNat ≤ maxRow)) (L0k a0 0 (List.replicate (a0.length : Int).toNat 0)))))
def l_toIntS (k : Nat) (a0 : List Int) : Option (List Int) := g_l_toIntS k (l0_l_toIntS k k) a0
end
def l_toEvent (k : Nat) (a0 : TEvent) : Option TEvent := (bd (l_toIntS k a0.2.2.2.2.2.1) fun r1 => (bd (l_toIntS k a0.2.2.2.2.2.2.2.1) fun r2 => (some (a0.1, a0.2.1, a0.2.2.1, a0.2.2.2.1, a0.2.2.2.2.1, r1, a0.2.2.2.2.2.2.1, r2, a0.2.2.2.2.2.2.2.2))))
noncomputable section
def b0_i_levelsOk (k : Nat) (L0n0 : TEvent → Int → Option Bool) (a0 : TEvent) (v1 : Int) : Option Bool := (br (decide (v1 < (a0.2.2.2.2.2.1.length : Int))) (gd (decide (0 ≤ v1)) (gd (decide (v1 < (a0.2.2.2.2.2.1.length : Int))) (bd (i_within k (rd 0 a0.2.2.2.2.2.1 v1.toNat) 0 100) fun r1 => (br (!r1) (some false) (L0n0 a0 (w64 (v1 + 1))))))) (some ((a0.2.2.2.2.2.1.length : Int) == 5)))
def l0_i_levelsOk (k : Nat) : Nat → TEvent → Int → Option Bool
  | 0, _, _ => none
  | n0 + 1, a0, v1 => b0_i_levelsOk k (l0_i_levelsOk k n0) a0 v1
def g_i_levelsOk (k : Nat) (L0k : TEvent → Int → Option Bool) (a0 : TEvent) : Option Bool := (br (a0.2.1 != 3) (some ((a0.2.2.2.2.2.1.length : Int) == 0)) (L0k a0 0))
def i_levelsOk (k : Nat) (a0 : TEvent) : Option Bool := g_i_levelsOk k (l0_i_levelsOk k k) a0
end
noncomputable section
def b0_i_prevOk (k : Nat) (L0n0 : TEvent → Int → Option Bool) (a0 : TEvent) (v1 : Int) : Option Bool := (br (decide (v1 < (a0.2.2.2.2.2.2.2.1.length : Int))) (gd (decide (0 ≤ v1)) (gd (decide (v1 < (a0.2.2.2.2.2.2.2.1.length : Int))) (bd (i_within k (rd 0 a0.2.2.2.2.2.2.2.1 v1.toNat) 1 1000000) fun r1 => (br (!r1) (some false) (br ((rd 0 a0.2.2.2.2.2.2.2.1 v1.toNat) == a0.1) (some false) (br (decide (v1 > 0)) (gd (decide (0 ≤ (w64 (v1 - 1)))) (gd (decide ((w64 (v1 - 1)) < (a0.2.2.2.2.2.2.2.1.length : Int))) (br (decide ((rd 0 a0.2.2.2.2.2.2.2.1 (w64 (v1 - 1)).toNat) ≥ (rd 0 a0.2.2.2.2.2.2.2.1 v1.toNat))) (some false) (L0n0 a0 (w64 (v1 + 1)))))) (L0n0 a0 (w64 (v1 + 1))))))))) (br (decide ((a0.2.2.2.2.2.2.2.1.length : Int) ≤ 3)) (some ((a0.2.1 == 1) == ((a0.2.2.2.2.2.2.2.1.length : Int) == 0))) (some false)))
def l0_i_prevOk (k : Nat) : Nat → TEvent → Int → Option Bool
  | 0, _, _ => none
  | n0 + 1, a0, v1 => b0_i_prevOk k (l0_i_prevOk k n0) a0 v1
def g_i_prevOk (k : Nat) (L0k : TEvent → Int → Option Bool) (a0 : TEvent) : Option Bool := (L0k a0 0)
def i_prevOk (k : Nat) (a0 : TEvent) : Option Bool := g_i_prevOk k (l0_i_prevOk k k) a0
end
def i_EventOk (k : Nat) (a0 : TEvent) : Option Bool := (bd (i_within k a0.1 1 1000000) fun r1 => (br (!r1) (some false) (bd (i_within k a0.2.1 1 5) fun r2 => (br (!r2) (some false) (bd (i_within k a0.2.2.1 1 5) fun r3 => (br (!r3) (some false) (bd (i_within k a0.2.2.2.2.2.2.2.2.1 0 1000000) fun r4 => (br (!r4) (some false) (bd (i_levelsOk k a0) fun r5 => (br (!r5) (some false) (bd (i_prevOk k a0) fun r6 => (br (!r6) (some false) (br (a0.2.1 == 2) (bd (i_within k a0.2.2.2.1 1 5) fun r7 => (br r7 (bd (i_within k a0.2.2.2.2.1 0 3) fun r8 => (br r8 (some (a0.2.2.2.2.2.2.1.toList == (⟨#[]⟩ : ByteArray).toList)) (some false))) (some false))) (br (a0.2.1 == 4) (br (a0.2.2.2.1 == 0) (br (a0.2.2.2.2.1 == 0) (br (decide ((a0.2.2.2.2.2.2.1.size : Int) ≤ 24)) (some true) (some false)) (some false)) (some false)) (br (a0.2.2.2.1 == 0) (br (a0.2.2.2.2.1 == 0) (br (decide ((a0.2.2.2.2.2.2.1.size : Int) ≤ 24)) (br (a0.2.1 == 5) (some true) (some (a0.2.2.2.2.2.2.1.toList == (⟨#[]⟩ : ByteArray).toList))) (some false)) (some false)) (some false))))))))))))))))
noncomputable section
def b0_l_eqIntS (k : Nat) (L0n0 : List Int → List Int → Int → Option Bool) (a0 : List Int) (a1 : List Int) (v1 : Int) : Option Bool := (br (decide (v1 < (a0.length : Int))) (gd (decide (0 ≤ v1)) (gd (decide (v1 < (a0.length : Int))) (gd (decide (0 ≤ v1)) (gd (decide (v1 < (a1.length : Int))) (br ((rd 0 a0 v1.toNat) != (rd 0 a1 v1.toNat)) (some false) (L0n0 a0 a1 (w64 (v1 + 1)))))))) (some true))
def l0_l_eqIntS (k : Nat) : Nat → List Int → List Int → Int → Option Bool
  | 0, _, _, _ => none
  | n0 + 1, a0, a1, v1 => b0_l_eqIntS k (l0_l_eqIntS k n0) a0 a1 v1
def g_l_eqIntS (k : Nat) (L0k : List Int → List Int → Int → Option Bool) (a0 : List Int) (a1 : List Int) : Option Bool := (br ((a0.length : Int) != (a1.length : Int)) (some false) (L0k a0 a1 0))
def l_eqIntS (k : Nat) (a0 : List Int) (a1 : List Int) : Option Bool := g_l_eqIntS k (l0_l_eqIntS k k) a0 a1
end
def l_eqEvent (k : Nat) (a0 : TEvent) (a1 : TEvent) : Option Bool := (br (a0.1 != a1.1) (some false) (br (a0.2.1 != a1.2.1) (some false) (br (a0.2.2.1 != a1.2.2.1) (some false) (br (a0.2.2.2.1 != a1.2.2.2.1) (some false) (br (a0.2.2.2.2.1 != a1.2.2.2.2.1) (some false) (bd (l_eqIntS k a0.2.2.2.2.2.1 a1.2.2.2.2.2.1) fun r1 => (br (!r1) (some false) (br (!(a0.2.2.2.2.2.2.1.toList == a1.2.2.2.2.2.2.1.toList)) (some false) (bd (l_eqIntS k a0.2.2.2.2.2.2.2.1 a1.2.2.2.2.2.2.2.1) fun r2 => (br (!r2) (some false) (br (a0.2.2.2.2.2.2.2.2.1 != a1.2.2.2.2.2.2.2.2.1) (some false) (some true))))))))))))
def l_FnExactEventOk (k : Nat) (a0 : TEvent) : Option Bool := (bd (l_szEvent k a0 1048576) fun r1 => (br (decide (r1 < 0)) (some true) (bd (l_toEvent k a0) fun r2 => (bd (s_EventOk k r2) fun r3 => (bd (l_toEvent k a0) fun r4 => (bd (i_EventOk k r4) fun r5 => (br (!(r5 == r3)) (some false) (bd (l_toEvent k a0) fun r6 => (bd (l_eqEvent k r4 r6) fun r7 => (br (!r7) (some false) (some true)))))))))))
noncomputable section
def b0_s_l01Var (k : Nat) (L0n0 : Int → List Int → Option ByteArray) (a0 : Int) (xs1 : List Int) : Option ByteArray := (br (decide (a0 > 127)) (ng (a0 == a0 && (128 : Int) == 0) (gd (decide (xs1.length + [(IntKind.wrap .u8 (w64 ((Int.tmod a0 128) + 128)))].length ≤ maxRow)) (ng (a0 == a0 && (128 : Int) == 0) (L0n0 (w64 (Int.tdiv a0 128)) (xs1 ++ [(IntKind.wrap .u8 (w64 ((Int.tmod a0 128) + 128)))]))))) (gd (decide (xs1.length + [(IntKind.wrap .u8 a0)].length ≤ maxRow)) (some (strOfNums (xs1 ++ [(IntKind.wrap .u8 a0)])))))
def l0_s_l01Var (k : Nat) : Nat → Int → List Int → Option ByteArray
  | 0, _, _ => none
  | n0 + 1, a0, xs1 => b0_s_l01Var k (l0_s_l01Var k n0) a0 xs1
def g_s_l01Var (k : Nat) (L0k : Int → List Int → Option ByteArray) (a0 : Int) : Option ByteArray := (L0k a0 [])
def s_l01Var (k : Nat) (a0 : Int) : Option ByteArray := g_s_l01Var k (l0_s_l01Var k k) a0
end
def s_l09Byte (k : Nat) (a0 : Int) : Option ByteArray := (some (strOfNums [(IntKind.wrap .u8 a0)]))
def s_l05Short (k : Nat) (a0 : ByteArray) : Option ByteArray := (bd (s_l01Var k (a0.size : Int)) fun r1 => (gd (decide (r1.size + a0.size ≤ maxRow)) (some (r1 ++ a0))))
noncomputable section
def b0_s_l09BodyText (k : Nat) (L0n0 : ByteArray → Int → TEvent → Option ByteArray) (v1 : ByteArray) (v2 : Int) (a0 : TEvent) : Option ByteArray := (br (decide (v2 < (a0.2.2.2.2.2.1.length : Int))) (gd (decide (0 ≤ v2)) (gd (decide (v2 < (a0.2.2.2.2.2.1.length : Int))) (bd (s_l09Byte k (rd 0 a0.2.2.2.2.2.1 v2.toNat)) fun r6 => (gd (decide (v1.size + r6.size ≤ maxRow)) (L0n0 (v1 ++ r6) (w64 (v2 + 1)) a0))))) (bd (s_l05Short k a0.2.2.2.2.2.2.1) fun r7 => (gd (decide (v1.size + r7.size ≤ maxRow)) (some (v1 ++ r7)))))
def l0_s_l09BodyText (k : Nat) : Nat → ByteArray → Int → TEvent → Option ByteArray
  | 0, _, _, _ => none
  | n0 + 1, v1, v2, a0 => b0_s_l09BodyText k (l0_s_l09BodyText k n0) v1 v2 a0
def g_s_l09BodyText (k : Nat) (L0k : ByteArray → Int → TEvent → Option ByteArray) (a0 : TEvent) : Option ByteArray := (bd (s_l09Byte k a0.2.1) fun r1 => (bd (s_l09Byte k a0.2.2.1) fun r2 => (gd (decide (r1.size + r2.size ≤ maxRow)) (bd (s_l09Byte k a0.2.2.2.1) fun r3 => (gd (decide ((r1 ++ r2).size + r3.size ≤ maxRow)) (bd (s_l09Byte k a0.2.2.2.2.1) fun r4 => (gd (decide (((r1 ++ r2) ++ r3).size + r4.size ≤ maxRow)) (bd (s_l01Var k (a0.2.2.2.2.2.1.length : Int)) fun r5 => (gd (decide ((((r1 ++ r2) ++ r3) ++ r4).size + r5.size ≤ maxRow)) (L0k ((((r1 ++ r2) ++ r3) ++ r4) ++ r5) 0 a0))))))))))
def s_l09BodyText (k : Nat) (a0 : TEvent) : Option ByteArray := g_s_l09BodyText k (l0_s_l09BodyText k k) a0
end
noncomputable section
def b0_s_EventText (k : Nat) (L0n0 : ByteArray → Int → TEvent → Option (ByteArray × Bool)) (v1 : ByteArray) (v2 : Int) (a0 : TEvent) : Option (ByteArray × Bool) := (br (decide (v2 < (a0.2.2.2.2.2.2.2.1.length : Int))) (gd (decide (0 ≤ v2)) (gd (decide (v2 < (a0.2.2.2.2.2.2.2.1.length : Int))) (bd (s_l01Var k (rd 0 a0.2.2.2.2.2.2.2.1 v2.toNat)) fun r5 => (gd (decide (v1.size + r5.size ≤ maxRow)) (L0n0 (v1 ++ r5) (w64 (v2 + 1)) a0))))) (bd (s_l01Var k a0.2.2.2.2.2.2.2.2.1) fun r6 => (gd (decide (v1.size + r6.size ≤ maxRow)) (some ((v1 ++ r6), true)))))
def l0_s_EventText (k : Nat) : Nat → ByteArray → Int → TEvent → Option (ByteArray × Bool)
  | 0, _, _, _ => none
  | n0 + 1, v1, v2, a0 => b0_s_EventText k (l0_s_EventText k n0) v1 v2 a0
def g_s_EventText (k : Nat) (L0k : ByteArray → Int → TEvent → Option (ByteArray × Bool)) (a0 : TEvent) : Option (ByteArray × Bool) := (bd (s_EventOk k a0) fun r1 => (br (!r1) (some ((⟨#[]⟩ : ByteArray), false)) (bd (s_l01Var k a0.1) fun r2 => (bd (s_l09BodyText k a0) fun r3 => (gd (decide (r2.size + r3.size ≤ maxRow)) (bd (s_l01Var k (a0.2.2.2.2.2.2.2.1.length : Int)) fun r4 => (gd (decide ((r2 ++ r3).size + r4.size ≤ maxRow)) (L0k ((r2 ++ r3) ++ r4) 0 a0))))))))
def s_EventText (k : Nat) (a0 : TEvent) : Option (ByteArray × Bool) := g_s_EventText k (l0_s_EventText k k) a0
end
noncomputable section
def b1_i_VarText (k : Nat) (L1n0 : Int → List Int → Option (ByteArray × Bool)) (v1 : Int) (xs2 : List Int) : Option (ByteArray × Bool) := (br (decide (v1 > 127)) (ng (v1 == v1 && (128 : Int) == 0) (gd (decide (xs2.length + [(IntKind.wrap .u8 (w64 ((Int.tmod v1 128) + 128)))].length ≤ maxRow)) (ng (v1 == v1 && (128 : Int) == 0) (L1n0 (w64 (Int.tdiv v1 128)) (xs2 ++ [(IntKind.wrap .u8 (w64 ((Int.tmod v1 128) + 128)))]))))) (gd (decide (xs2.length + [(IntKind.wrap .u8 v1)].length ≤ maxRow)) (some ((strOfNums (xs2 ++ [(IntKind.wrap .u8 v1)])), true))))
def l1_i_VarText (k : Nat) : Nat → Int → List Int → Option (ByteArray × Bool)
  | 0, _, _ => none
  | n0 + 1, v1, xs2 => b1_i_VarText k (l1_i_VarText k n0) v1 xs2
def b0_i_VarText (k : Nat) (L1n0 : Int → List Int → Option (ByteArray × Bool)) (a0 : Int) : Option (ByteArray × Bool) := (br (decide (a0 > 127)) (ng (a0 == a0 && (128 : Int) == 0) (gd (decide ([(IntKind.wrap .u8 (w64 ((Int.tmod a0 128) + 128)))].length ≤ maxRow)) (ng (a0 == a0 && (128 : Int) == 0) (L1n0 (w64 (Int.tdiv a0 128)) [(IntKind.wrap .u8 (w64 ((Int.tmod a0 128) + 128)))])))) (gd (decide ([(IntKind.wrap .u8 a0)].length ≤ maxRow)) (some ((strOfNums [(IntKind.wrap .u8 a0)]), true))))
def l0_i_VarText (k : Nat) : Nat → Int → Option (ByteArray × Bool)
  | 0, _ => none
  | n0 + 1, a0 => b0_i_VarText k (l1_i_VarText k n0) a0
def g_i_VarText (k : Nat) (L0k : Int → Option (ByteArray × Bool)) (a0 : Int) : Option (ByteArray × Bool) := (bd (i_within k a0 0 1000000000) fun r1 => (br (!r1) (some ((⟨#[]⟩ : ByteArray), false)) (L0k a0)))
def i_VarText (k : Nat) (a0 : Int) : Option (ByteArray × Bool) := g_i_VarText k (l0_i_VarText k k) a0
end
noncomputable section
def b1_i_vars (k : Nat) (L1n0 : List Int → Int → List Int → Option (ByteArray × Bool)) (a0 : List Int) (v1 : Int) (xs2 : List Int) : Option (ByteArray × Bool) := (br (decide (v1 < (a0.length : Int))) (gd (decide (0 ≤ v1)) (gd (decide (v1 < (a0.length : Int))) (bd (i_VarText k (rd 0 a0 v1.toNat)) fun r2 => (br (!r2.2) (some ((⟨#[]⟩ : ByteArray), false)) (gd (decide (xs2.length + (numsOf r2.1).length ≤ maxRow)) (L1n0 a0 (w64 (v1 + 1)) (xs2 ++ (numsOf r2.1)))))))) (some ((strOfNums xs2), true)))
def l1_i_vars (k : Nat) : Nat → List Int → Int → List Int → Option (ByteArray × Bool)
  | 0, _, _, _ => none
  | n0 + 1, a0, v1, xs2 => b1_i_vars k (l1_i_vars k n0) a0 v1 xs2
def b0_i_vars (k : Nat) (L1n0 : List Int → Int → List Int → Option (ByteArray × Bool)) (a0 : List Int) : Option (ByteArray × Bool) := (br (decide (0 < (a0.length : Int))) (gd (decide (0 < (a0.length : Int))) (bd (i_VarText k (rd 0 a0 0)) fun r1 => (br (!r1.2) (some ((⟨#[]⟩ : ByteArray), false)) (gd (decide ((numsOf r1.1).length ≤ maxRow)) (L1n0 a0 1 (numsOf r1.1)))))) (some ((strOfNums []), true)))
def l0_i_vars (k : Nat) : Nat → List Int → Option (ByteArray × Bool)
  | 0, _ => none
  | n0 + 1, a0 => b0_i_vars k (l1_i_vars k n0) a0
def g_i_vars (k : Nat) (L0k : List Int → Option (ByteArray × Bool)) (a0 : List Int) : Option (ByteArray × Bool) := (L0k a0)
def i_vars (k : Nat) (a0 : List Int) : Option (ByteArray × Bool) := g_i_vars k (l0_i_vars k k) a0
end
def i_ShortText (k : Nat) (a0 : ByteArray) : Option (ByteArray × Bool) := (br (decide ((a0.size : Int) > 20000)) (some ((⟨#[]⟩ : ByteArray), false)) (bd (i_VarText k (a0.size : Int)) fun r1 => (gd (decide (r1.1.size + a0.size ≤ maxRow)) (some ((r1.1 ++ a0), true)))))
noncomputable section
def b0_i_listText (k : Nat) (L0n0 : ByteArray → List Int → Int → Option ByteArray) (v1 : ByteArray) (a0 : List Int) (v2 : Int) : Option ByteArray := (br (decide (v2 < (a0.length : Int))) (gd (decide (0 ≤ v2)) (gd (decide (v2 < (a0.length : Int))) (gd (decide (v1.size + (strOfNums [(IntKind.wrap .u8 (rd 0 a0 v2.toNat))]).size ≤ maxRow)) (L0n0 (v1 ++ (strOfNums [(IntKind.wrap .u8 (rd 0 a0 v2.toNat))])) a0 (w64 (v2 + 1)))))) (some v1))
def l0_i_listText (k : Nat) : Nat → ByteArray → List Int → Int → Option ByteArray
  | 0, _, _, _ => none
  | n0 + 1, v1, a0, v2 => b0_i_listText k (l0_i_listText k n0) v1 a0 v2
def g_i_listText (k : Nat) (L0k : ByteArray → List Int → Int → Option ByteArray) (a0 : List Int) : Option ByteArray := (bd (i_VarText k (a0.length : Int)) fun r1 => (L0k r1.1 a0 0))
def i_listText (k : Nat) (a0 : List Int) : Option ByteArray := g_i_listText k (l0_i_listText k k) a0
end
def i_mainText (k : Nat) (a0 : TEvent) : Option ByteArray := (bd (i_ShortText k a0.2.2.2.2.2.2.1) fun r1 => (bd (i_listText k a0.2.2.2.2.2.1) fun r2 => (gd (decide ((strOfNums [(IntKind.wrap .u8 a0.2.1), (IntKind.wrap .u8 a0.2.2.1), (IntKind.wrap .u8 a0.2.2.2.1), (IntKind.wrap .u8 a0.2.2.2.2.1)]).size + r2.size ≤ maxRow)) (gd (decide (((strOfNums [(IntKind.wrap .u8 a0.2.1), (IntKind.wrap .u8 a0.2.2.1), (IntKind.wrap .u8 a0.2.2.2.1), (IntKind.wrap .u8 a0.2.2.2.2.1)]) ++ r2).size + r1.1.size ≤ maxRow)) (some (((strOfNums [(IntKind.wrap .u8 a0.2.1), (IntKind.wrap .u8 a0.2.2.1), (IntKind.wrap .u8 a0.2.2.2.1), (IntKind.wrap .u8 a0.2.2.2.2.1)]) ++ r2) ++ r1.1))))))
def i_EventText (k : Nat) (a0 : TEvent) : Option (ByteArray × Bool) := (bd (i_EventOk k a0) fun r1 => (br (!r1) (some ((⟨#[]⟩ : ByteArray), false)) (bd (i_VarText k a0.1) fun r2 => (gd (decide ([(a0.2.2.2.2.2.2.2.1.length : Int)].length + a0.2.2.2.2.2.2.2.1.length ≤ maxRow)) (bd (i_vars k ([(a0.2.2.2.2.2.2.2.1.length : Int)] ++ a0.2.2.2.2.2.2.2.1)) fun r3 => (bd (i_VarText k a0.2.2.2.2.2.2.2.2.1) fun r4 => (bd (i_mainText k a0) fun r5 => (gd (decide (r2.1.size + r5.size ≤ maxRow)) (gd (decide ((r2.1 ++ r5).size + r3.1.size ≤ maxRow)) (gd (decide (((r2.1 ++ r5) ++ r3.1).size + r4.1.size ≤ maxRow)) (some ((((r2.1 ++ r5) ++ r3.1) ++ r4.1), true))))))))))))
def l_FnExactEventText (k : Nat) (a0 : TEvent) : Option Bool := (bd (l_szEvent k a0 1048576) fun r1 => (br (decide (r1 < 0)) (some true) (bd (l_toEvent k a0) fun r2 => (bd (s_EventText k r2) fun r3 => (bd (l_toEvent k a0) fun r4 => (bd (i_EventText k r4) fun r5 => (br (!(r5.1.toList == r3.1.toList)) (some false) (br (!(r5.2 == r3.2)) (some false) (bd (l_toEvent k a0) fun r6 => (bd (l_eqEvent k r4 r6) fun r7 => (br (!r7) (some false) (some true))))))))))))
def l_szCommand (k : Nat) (a0 : TCommand) (a1 : Int) : Option Int := (bd (l_szEvent k a0.2.2.2.1 a1) fun r1 => (br (decide (r1 < 0)) (some (-1)) (some r1)))
noncomputable section
def b0_s_l05SameInts (k : Nat) (L0n0 : List Int → List Int → Int → Option Bool) (a0 : List Int) (a1 : List Int) (v1 : Int) : Option Bool := (br (decide (v1 < (a0.length : Int))) (gd (decide (0 ≤ v1)) (gd (decide (v1 < (a0.length : Int))) (gd (decide (0 ≤ v1)) (gd (decide (v1 < (a1.length : Int))) (br ((rd 0 a0 v1.toNat) != (rd 0 a1 v1.toNat)) (some false) (L0n0 a0 a1 (w64 (v1 + 1)))))))) (some true))
def l0_s_l05SameInts (k : Nat) : Nat → List Int → List Int → Int → Option Bool
  | 0, _, _, _ => none
  | n0 + 1, a0, a1, v1 => b0_s_l05SameInts k (l0_s_l05SameInts k n0) a0 a1 v1
def g_s_l05SameInts (k : Nat) (L0k : List Int → List Int → Int → Option Bool) (a0 : List Int) (a1 : List Int) : Option Bool := (br ((a0.length : Int) != (a1.length : Int)) (some false) (L0k a0 a1 0))
def s_l05SameInts (k : Nat) (a0 : List Int) (a1 : List Int) : Option Bool := g_s_l05SameInts k (l0_s_l05SameInts k k) a0 a1
end
def s_l09Same (k : Nat) (a0 : TEvent) (a1 : TEvent) : Option Bool := (br (a0.1 == a1.1) (br (a0.2.1 == a1.2.1) (br (a0.2.2.1 == a1.2.2.1) (br (a0.2.2.2.1 == a1.2.2.2.1) (br (a0.2.2.2.2.1 == a1.2.2.2.2.1) (br (a0.2.2.2.2.2.2.1.toList == a1.2.2.2.2.2.2.1.toList) (br (a0.2.2.2.2.2.2.2.2.1 == a1.2.2.2.2.2.2.2.2.1) (bd (s_l05SameInts k a0.2.2.2.2.2.1 a1.2.2.2.2.2.1) fun r1 => (br r1 (bd (s_l05SameInts k a0.2.2.2.2.2.2.2.1 a1.2.2.2.2.2.2.2.1) fun r2 => (some r2)) (some false))) (some false)) (some false)) (some false)) (some false)) (some false)) (some false)) (some false))
def s_l13Blank (k : Nat) (a0 : TEvent) : Option Bool := (bd (s_l09Same k a0 (0, 0, 0, 0, 0, [], ByteArray.empty, [], 0, ())) fun r1 => (some r1))
def s_CommandOk (k : Nat) (a0 : TCommand) : Option Bool := (bd (s_l01In k a0.1 1 5) fun r1 => (br (!r1) (some false) (bd (s_l01In k a0.2.1 0 1000000) fun r2 => (br (!r2) (some false) (bd (s_l01In k a0.2.2.1 0 1000000) fun r3 => (br (!r3) (some false) (br (a0.1 != 2) (br (a0.1 != 3) (bd (s_l13Blank k a0.2.2.2.1) fun r4 => (br (!r4) (some false) (br (a0.1 != 4) (br (a0.2.2.2.2.1 != 0) (some false) (br (a0.2.2.2.2.2.1 != 0) (some false) (br (a0.1 == 1) (br (a0.2.1 == 0) (some (a0.2.2.1 == 0)) (some false)) (br (a0.1 == 2) (bd (s_l09Body k a0.2.2.2.1) fun r5 => (br r5 (br (a0.2.2.2.1.1 == 0) (br (a0.2.2.2.1.2.2.2.2.2.2.2.2.1 == 0) (some ((a0.2.2.2.1.2.2.2.2.2.2.2.1.length : Int) == 0)) (some false)) (some false)) (some false))) (br (a0.1 == 3) (bd (s_EventOk k a0.2.2.2.1) fun r6 => (br r6 (ng (a0.2.2.2.1.1 == a0.2.2.2.1.1 && (2 : Int) == 0) (some ((Int.tmod a0.2.2.2.1.1 2) == 1))) (some false))) (br (a0.1 == 4) (bd (s_l01In k a0.2.2.2.2.1 1 2) fun r7 => (br r7 (bd (s_l01In k a0.2.2.2.2.2.1 0 1000000) fun r8 => (some r8)) (some false))) (some true))))))) (br (a0.1 == 1) (br (a0.2.1 == 0) (some (a0.2.2.1 == 0)) (some false)) (br (a0.1 == 2) (bd (s_l09Body k a0.2.2.2.1) fun r9 => (br r9 (br (a0.2.2.2.1.1 == 0) (br (a0.2.2.2.1.2.2.2.2.2.2.2.2.1 == 0) (some ((a0.2.2.2.1.2.2.2.2.2.2.2.1.length : Int) == 0)) (some false)) (some false)) (some false))) (br (a0.1 == 3) (bd (s_EventOk k a0.2.2.2.1) fun r10 => (br r10 (ng (a0.2.2.2.1.1 == a0.2.2.2.1.1 && (2 : Int) == 0) (some ((Int.tmod a0.2.2.2.1.1 2) == 1))) (some false))) (br (a0.1 == 4) (bd (s_l01In k a0.2.2.2.2.1 1 2) fun r11 => (br r11 (bd (s_l01In k a0.2.2.2.2.2.1 0 1000000) fun r12 => (some r12)) (some false))) (some true)))))))) (br (a0.1 != 4) (br (a0.2.2.2.2.1 != 0) (some false) (br (a0.2.2.2.2.2.1 != 0) (some false) (br (a0.1 == 1) (br (a0.2.1 == 0) (some (a0.2.2.1 == 0)) (some false)) (br (a0.1 == 2) (bd (s_l09Body k a0.2.2.2.1) fun r13 => (br r13 (br (a0.2.2.2.1.1 == 0) (br (a0.2.2.2.1.2.2.2.2.2.2.2.2.1 == 0) (some ((a0.2.2.2.1.2.2.2.2.2.2.2.1.length : Int) == 0)) (some false)) (some false)) (some false))) (br (a0.1 == 3) (bd (s_EventOk k a0.2.2.2.1) fun r14 => (br r14 (ng (a0.2.2.2.1.1 == a0.2.2.2.1.1 && (2 : Int) == 0) (some ((Int.tmod a0.2.2.2.1.1 2) == 1))) (some false))) (br (a0.1 == 4) (bd (s_l01In k a0.2.2.2.2.1 1 2) fun r15 => (br r15 (bd (s_l01In k a0.2.2.2.2.2.1 0 1000000) fun r16 => (some r16)) (some false))) (some true))))))) (br (a0.1 == 1) (br (a0.2.1 == 0) (some (a0.2.2.1 == 0)) (some false)) (br (a0.1 == 2) (bd (s_l09Body k a0.2.2.2.1) fun r17 => (br r17 (br (a0.2.2.2.1.1 == 0) (br (a0.2.2.2.1.2.2.2.2.2.2.2.2.1 == 0) (some ((a0.2.2.2.1.2.2.2.2.2.2.2.1.length : Int) == 0)) (some false)) (some false)) (some false))) (br (a0.1 == 3) (bd (s_EventOk k a0.2.2.2.1) fun r18 => (br r18 (ng (a0.2.2.2.1.1 == a0.2.2.2.1.1 && (2 : Int) == 0) (some ((Int.tmod a0.2.2.2.1.1 2) == 1))) (some false))) (br (a0.1 == 4) (bd (s_l01In k a0.2.2.2.2.1 1 2) fun r19 => (br r19 (bd (s_l01In k a0.2.2.2.2.2.1 0 1000000) fun r20 => (some r20)) (some false))) (some true))))))) (br (a0.1 != 4) (br (a0.2.2.2.2.1 != 0) (some false) (br (a0.2.2.2.2.2.1 != 0) (some false) (br (a0.1 == 1) (br (a0.2.1 == 0) (some (a0.2.2.1 == 0)) (some false)) (br (a0.1 == 2) (bd (s_l09Body k a0.2.2.2.1) fun r21 => (br r21 (br (a0.2.2.2.1.1 == 0) (br (a0.2.2.2.1.2.2.2.2.2.2.2.2.1 == 0) (some ((a0.2.2.2.1.2.2.2.2.2.2.2.1.length : Int) == 0)) (some false)) (some false)) (some false))) (br (a0.1 == 3) (bd (s_EventOk k a0.2.2.2.1) fun r22 => (br r22 (ng (a0.2.2.2.1.1 == a0.2.2.2.1.1 && (2 : Int) == 0) (some ((Int.tmod a0.2.2.2.1.1 2) == 1))) (some false))) (br (a0.1 == 4) (bd (s_l01In k a0.2.2.2.2.1 1 2) fun r23 => (br r23 (bd (s_l01In k a0.2.2.2.2.2.1 0 1000000) fun r24 => (some r24)) (some false))) (some true))))))) (br (a0.1 == 1) (br (a0.2.1 == 0) (some (a0.2.2.1 == 0)) (some false)) (br (a0.1 == 2) (bd (s_l09Body k a0.2.2.2.1) fun r25 => (br r25 (br (a0.2.2.2.1.1 == 0) (br (a0.2.2.2.1.2.2.2.2.2.2.2.2.1 == 0) (some ((a0.2.2.2.1.2.2.2.2.2.2.2.1.length : Int) == 0)) (some false)) (some false)) (some false))) (br (a0.1 == 3) (bd (s_EventOk k a0.2.2.2.1) fun r26 => (br r26 (ng (a0.2.2.2.1.1 == a0.2.2.2.1.1 && (2 : Int) == 0) (some ((Int.tmod a0.2.2.2.1.1 2) == 1))) (some false))) (br (a0.1 == 4) (bd (s_l01In k a0.2.2.2.2.1 1 2) fun r27 => (br r27 (bd (s_l01In k a0.2.2.2.2.2.1 0 1000000) fun r28 => (some r28)) (some false))) (some true)))))))))))))
def l_toCommand (k : Nat) (a0 : TCommand) : Option TCommand := (bd (l_toEvent k a0.2.2.2.1) fun r1 => (some (a0.1, a0.2.1, a0.2.2.1, r1, a0.2.2.2.2)))
noncomputable section
def b0_slices_Equal_int_int (k : Nat) (L0n0 : List Int → List Int → Int → Option Bool) (a0 : List Int) (a1 : List Int) (v1 : Int) : Option Bool := (br (decide (v1 < (a0.length : Int))) (gd (decide (0 ≤ v1)) (gd (decide (v1 < (a0.length : Int))) (gd (decide (0 ≤ v1)) (gd (decide (v1 < (a1.length : Int))) (br ((rd 0 a0 v1.toNat) != (rd 0 a1 v1.toNat)) (some false) (L0n0 a0 a1 (w64 (v1 + 1)))))))) (some true))
def l0_slices_Equal_int_int (k : Nat) : Nat → List Int → List Int → Int → Option Bool
  | 0, _, _, _ => none
  | n0 + 1, a0, a1, v1 => b0_slices_Equal_int_int k (l0_slices_Equal_int_int k n0) a0 a1 v1
def g_slices_Equal_int_int (k : Nat) (L0k : List Int → List Int → Int → Option Bool) (a0 : List Int) (a1 : List Int) : Option Bool := (br ((a0.length : Int) != (a1.length : Int)) (some false) (L0k a0 a1 0))
def slices_Equal_int_int (k : Nat) (a0 : List Int) (a1 : List Int) : Option Bool := g_slices_Equal_int_int k (l0_slices_Equal_int_int k k) a0 a1
end
def i_sameEvent (k : Nat) (a0 : TEvent) (a1 : TEvent) : Option Bool := (br (a0.1 == a1.1) (br (a0.2.1 == a1.2.1) (br (a0.2.2.1 == a1.2.2.1) (br (a0.2.2.2.1 == a1.2.2.2.1) (br (a0.2.2.2.2.1 == a1.2.2.2.2.1) (bd (slices_Equal_int_int k a0.2.2.2.2.2.1 a1.2.2.2.2.2.1) fun r1 => (br r1 (br (a0.2.2.2.2.2.2.1.toList == a1.2.2.2.2.2.2.1.toList) (bd (slices_Equal_int_int k a0.2.2.2.2.2.2.2.1 a1.2.2.2.2.2.2.2.1) fun r2 => (br r2 (some (a0.2.2.2.2.2.2.2.2.1 == a1.2.2.2.2.2.2.2.2.1)) (some false))) (some false)) (some false))) (some false)) (some false)) (some false)) (some false)) (some false))
def i_sentOk (k : Nat) (a0 : TEvent) : Option Bool := (br (a0.1 != 0) (some false) (br (a0.2.2.2.2.2.2.2.2.1 != 0) (some false) (br (decide ((a0.2.2.2.2.2.2.2.1.length : Int) > 0)) (some false) (br (a0.2.1 != 1) (bd (i_EventOk k (2, a0.2.1, a0.2.2.1, a0.2.2.2.1, a0.2.2.2.2.1, a0.2.2.2.2.2.1, a0.2.2.2.2.2.2.1, [1], a0.2.2.2.2.2.2.2.2)) fun r1 => (some r1)) (bd (i_EventOk k (2, a0.2)) fun r2 => (some r2))))))
def i_CommandOk (k : Nat) (a0 : TCommand) : Option Bool := (bd (i_sameEvent k a0.2.2.2.1 (0, 0, 0, 0, 0, [], ByteArray.empty, [], 0, ())) fun r1 => (br (a0.2.2.2.2.1 == 0) (bd (i_within k a0.2.1 0 1000000) fun r2 => (br (!r2) (some false) (bd (i_within k a0.2.2.1 0 1000000) fun r3 => (br (!r3) (some false) (br (a0.1 == 1) (br r1 (br (a0.2.2.2.2.2.1 == 0) (br (a0.2.1 == 0) (some (a0.2.2.1 == 0)) (some false)) (some false)) (some false)) (br (a0.1 == 2) (br (a0.2.2.2.2.2.1 == 0) (bd (i_sentOk k a0.2.2.2.1) fun r4 => (some r4)) (some false)) (br (a0.1 == 3) (br (a0.2.2.2.2.2.1 == 0) (bd (i_EventOk k a0.2.2.2.1) fun r5 => (br r5 (ng (a0.2.2.2.1.1 == a0.2.2.2.1.1 && (2 : Int) == 0) (some ((Int.tmod a0.2.2.2.1.1 2) == 1))) (some false))) (some false)) (br (a0.1 == 4) (br r1 (bd (i_within k a0.2.2.2.2.1 1 2) fun r6 => (br r6 (bd (i_within k a0.2.2.2.2.2.1 0 1000000) fun r7 => (some r7)) (some false))) (some false)) (br (a0.1 == 5) (br r1 (some (a0.2.2.2.2.2.1 == 0)) (some false)) (some false)))))))))) (bd (i_within k a0.2.1 0 1000000) fun r8 => (br (!r8) (some false) (bd (i_within k a0.2.2.1 0 1000000) fun r9 => (br (!r9) (some false) (br (a0.1 == 1) (br r1 (some false) (some false)) (br (a0.1 == 2) (some false) (br (a0.1 == 3) (some false) (br (a0.1 == 4) (br r1 (bd (i_within k a0.2.2.2.2.1 1 2) fun r10 => (br r10 (bd (i_within k a0.2.2.2.2.2.1 0 1000000) fun r11 => (some r11)) (some false))) (some false)) (br (a0.1 == 5) (br r1 (some false) (some false)) (some false))))))))))))
def l_eqCommand (k : Nat) (a0 : TCommand) (a1 : TCommand) : Option Bool := (br (a0.1 != a1.1) (some false) (br (a0.2.1 != a1.2.1) (some false) (br (a0.2.2.1 != a1.2.2.1) (some false) (bd (l_eqEvent k a0.2.2.2.1 a1.2.2.2.1) fun r1 => (br (!r1) (some false) (br (a0.2.2.2.2.1 != a1.2.2.2.2.1) (some false) (br (a0.2.2.2.2.2.1 != a1.2.2.2.2.2.1) (some false) (some true))))))))
def l_FnExactCommandOk (k : Nat) (a0 : TCommand) : Option Bool := (bd (l_szCommand k a0 1048576) fun r1 => (br (decide (r1 < 0)) (some true) (bd (l_toCommand k a0) fun r2 => (bd (s_CommandOk k r2) fun r3 => (bd (l_toCommand k a0) fun r4 => (bd (i_CommandOk k r4) fun r5 => (br (!(r5 == r3)) (some false) (bd (l_toCommand k a0) fun r6 => (bd (l_eqCommand k r4 r6) fun r7 => (br (!r7) (some false) (some true)))))))))))
noncomputable section
def b0_l_szEventS (k : Nat) (L0n0 : List TEvent → Int → Int → Option Int) (a0 : List TEvent) (v1 : Int) (v2 : Int) : Option Int := (br (decide (v2 < (a0.length : Int))) (gd (decide (0 ≤ v2)) (gd (decide (v2 < (a0.length : Int))) (bd (l_szEvent k (rd dTEvent a0 v2.toNat) v1) fun r1 => (br (decide (r1 < 0)) (some (-1)) (L0n0 a0 r1 (w64 (v2 + 1))))))) (some v1))
def l0_l_szEventS (k : Nat) : Nat → List TEvent → Int → Int → Option Int
  | 0, _, _, _ => none
  | n0 + 1, a0, v1, v2 => b0_l_szEventS k (l0_l_szEventS k n0) a0 v1 v2
def g_l_szEventS (k : Nat) (L0k : List TEvent → Int → Int → Option Int) (a0 : List TEvent) (a1 : Int) : Option Int := (br (decide ((w64 (a1 - (a0.length : Int))) < 0)) (some (-1)) (L0k a0 (w64 (a1 - (a0.length : Int))) 0))
def l_szEventS (k : Nat) (a0 : List TEvent) (a1 : Int) : Option Int := g_l_szEventS k (l0_l_szEventS k k) a0 a1
end
noncomputable section
def b0_l_szItemSS (k : Nat) (L0n0 : List (List TItem) → Int → Int → Option Int) (a0 : List (List TItem)) (v1 : Int) (v2 : Int) : Option Int := (br (decide (v2 < (a0.length : Int))) (gd (decide (0 ≤ v2)) (gd (decide (v2 < (a0.length : Int))) (bd (l_szItemS k (rd [] a0 v2.toNat) v1) fun r1 => (br (decide (r1 < 0)) (some (-1)) (L0n0 a0 r1 (w64 (v2 + 1))))))) (some v1))
def l0_l_szItemSS (k : Nat) : Nat → List (List TItem) → Int → Int → Option Int
  | 0, _, _, _ => none
  | n0 + 1, a0, v1, v2 => b0_l_szItemSS k (l0_l_szItemSS k n0) a0 v1 v2
def g_l_szItemSS (k : Nat) (L0k : List (List TItem) → Int → Int → Option Int) (a0 : List (List TItem)) (a1 : Int) : Option Int := (br (decide ((w64 (a1 - (a0.length : Int))) < 0)) (some (-1)) (L0k a0 (w64 (a1 - (a0.length : Int))) 0))
def l_szItemSS (k : Nat) (a0 : List (List TItem)) (a1 : Int) : Option Int := g_l_szItemSS k (l0_l_szItemSS k k) a0 a1
end
def l_szBoolS (k : Nat) (a0 : List Bool) (a1 : Int) : Option Int := (br (decide ((w64 (a1 - (a0.length : Int))) < 0)) (some (-1)) (some (w64 (a1 - (a0.length : Int)))))
def l_szRoom (k : Nat) (a0 : TRoom) (a1 : Int) : Option Int := (bd (l_szEventS k a0.1 a1) fun r1 => (br (decide (r1 < 0)) (some (-1)) (bd (l_szItemSS k a0.2.1 r1) fun r2 => (br (decide (r2 < 0)) (some (-1)) (bd (l_szBoolS k a0.2.2.1 r2) fun r3 => (br (decide (r3 < 0)) (some (-1)) (some r3)))))))
noncomputable section
def b0_s_l12Has (k : Nat) (L0n0 : Int → Int → TRoom → Option Int) (a1 : Int) (v1 : Int) (a0 : TRoom) : Option Int := (br (decide (v1 < (a0.1.length : Int))) (gd (decide (0 ≤ v1)) (gd (decide (v1 < (a0.1.length : Int))) (br ((rd dTEvent a0.1 v1.toNat).1 == a1) (some v1) (L0n0 a1 (w64 (v1 + 1)) a0)))) (some (-1)))
def l0_s_l12Has (k : Nat) : Nat → Int → Int → TRoom → Option Int
  | 0, _, _, _ => none
  | n0 + 1, a1, v1, a0 => b0_s_l12Has k (l0_s_l12Has k n0) a1 v1 a0
def g_s_l12Has (k : Nat) (L0k : Int → Int → TRoom → Option Int) (a0 : TRoom) (a1 : Int) : Option Int := (L0k a1 0 a0)
def s_l12Has (k : Nat) (a0 : TRoom) (a1 : Int) : Option Int := g_s_l12Has k (l0_s_l12Has k k) a0 a1
end
noncomputable section
def b0_s_DepthOf (k : Nat) (L0n0 : List Int → Int → Int → TRoom → Option Int) (a1 : List Int) (v1 : Int) (v2 : Int) (a0 : TRoom) : Option Int := (br (decide (v2 < (a1.length : Int))) (gd (decide (0 ≤ v2)) (gd (decide (v2 < (a1.length : Int))) (bd (s_l12Has k a0 (rd 0 a1 v2.toNat)) fun r1 => (br (decide (r1 ≥ 0)) (gd (decide (0 ≤ r1)) (gd (decide (r1 < (a0.1.length : Int))) (br (decide ((rd dTEvent a0.1 r1.toNat).2.2.2.2.2.2.2.2.1 > v1)) (gd (decide (0 ≤ r1)) (gd (decide (r1 < (a0.1.length : Int))) (L0n0 a1 (rd dTEvent a0.1 r1.toNat).2.2.2.2.2.2.2.2.1 (w64 (v2 + 1)) a0))) (L0n0 a1 v1 (w64 (v2 + 1)) a0)))) (L0n0 a1 v1 (w64 (v2 + 1)) a0))))) (br (decide (v1 > 1000000)) (some 1000001) (some (w64 (v1 + 1)))))
def l0_s_DepthOf (k : Nat) : Nat → List Int → Int → Int → TRoom → Option Int
  | 0, _, _, _, _ => none
  | n0 + 1, a1, v1, v2, a0 => b0_s_DepthOf k (l0_s_DepthOf k n0) a1 v1 v2 a0
def g_s_DepthOf (k : Nat) (L0k : List Int → Int → Int → TRoom → Option Int) (a0 : TRoom) (a1 : List Int) : Option Int := (L0k a1 (-1) 0 a0)
def s_DepthOf (k : Nat) (a0 : TRoom) (a1 : List Int) : Option Int := g_s_DepthOf k (l0_s_DepthOf k k) a0 a1
end
noncomputable section
def b0_l_toEventS (k : Nat) (L0n0 : List TEvent → Int → List TEvent → Option (List TEvent)) (a0 : List TEvent) (v1 : Int) (xs2 : List TEvent) : Option (List TEvent) := (br (decide (v1 < (a0.length : Int))) (gd (decide (0 ≤ v1)) (gd (decide (v1 < (a0.length : Int))) (bd (l_toEvent k (rd dTEvent a0 v1.toNat)) fun r1 => (gd (decide (0 ≤ v1)) (gd (decide (v1 < (xs2.length : Int))) (L0n0 a0 (w64 (v1 + 1)) (xs2.set v1.toNat r1))))))) (some xs2))
def l0_l_toEventS (k : Nat) : Nat → List TEvent → Int → List TEvent → Option (List TEvent)
  | 0, _, _, _ => none
  | n0 + 1, a0, v1, xs2 => b0_l_toEventS k (l0_l_toEventS k n0) a0 v1 xs2
def g_l_toEventS (k : Nat) (L0k : List TEvent → Int → List TEvent → Option (List TEvent)) (a0 : List TEvent) : Option (List TEvent) := (gd (decide ((a0.length : Int) = (a0.length : Int))) (gd (decide (0 ≤ (a0.length : Int))) (gd (decide ((a0.length : Int).toNat ≤ maxRow)) (L0k a0 0 (List.replicate (a0.length : Int).toNat dTEvent)))))
def l_toEventS (k : Nat) (a0 : List TEvent) : Option (List TEvent) := g_l_toEventS k (l0_l_toEventS k k) a0
end
noncomputable section
def b0_l_toItemSS (k : Nat) (L0n0 : List (List TItem) → Int → List (List TItem) → Option (List (List TItem))) (a0 : List (List TItem)) (v1 : Int) (xs2 : List (List TItem)) : Option (List (List TItem)) := (br (decide (v1 < (a0.length : Int))) (gd (decide (0 ≤ v1)) (gd (decide (v1 < (a0.length : Int))) (bd (l_toItemS k (rd [] a0 v1.toNat)) fun r1 => (gd (decide (0 ≤ v1)) (gd (decide (v1 < (xs2.length : Int))) (L0n0 a0 (w64 (v1 + 1)) (xs2.set v1.toNat r1))))))) (some xs2))
def l0_l_toItemSS (k : Nat) : Nat → List (List TItem) → Int → List (List TItem) → Option (List (List TItem))
  | 0, _, _, _ => none
  | n0 + 1, a0, v1, xs2 => b0_l_toItemSS k (l0_l_toItemSS k n0) a0 v1 xs2
def g_l_toItemSS (k : Nat) (L0k : List (List TItem) → Int → List (List TItem) → Option (List (List TItem))) (a0 : List (List TItem)) : Option (List (List TItem)) := (gd (decide ((a0.length : Int) = (a0.length : Int))) (gd (decide (0 ≤ (a0.length : Int))) (gd (decide ((a0.length : Int).toNat ≤ maxRow)) (L0k a0 0 (List.replicate (a0.length : Int).toNat [])))))
def l_toItemSS (k : Nat) (a0 : List (List TItem)) : Option (List (List TItem)) := g_l_toItemSS k (l0_l_toItemSS k k) a0
end
noncomputable section
def b0_l_toBoolS (k : Nat) (L0n0 : List Bool → Int → List Bool → Option (List Bool)) (a0 : List Bool) (v1 : Int) (xs2 : List Bool) : Option (List Bool) := (br (decide (v1 < (a0.length : Int))) (gd (decide (0 ≤ v1)) (gd (decide (v1 < (a0.length : Int))) (gd (decide (0 ≤ v1)) (gd (decide (v1 < (xs2.length : Int))) (L0n0 a0 (w64 (v1 + 1)) (xs2.set v1.toNat (rd false a0 v1.toNat))))))) (some xs2))
def l0_l_toBoolS (k : Nat) : Nat → List Bool → Int → List Bool → Option (List Bool)
  | 0, _, _, _ => none
  | n0 + 1, a0, v1, xs2 => b0_l_toBoolS k (l0_l_toBoolS k n0) a0 v1 xs2
def g_l_toBoolS (k : Nat) (L0k : List Bool → Int → List Bool → Option (List Bool)) (a0 : List Bool) : Option (List Bool) := (gd (decide ((a0.length : Int) = (a0.length : Int))) (gd (decide (0 ≤ (a0.length : Int))) (gd (decide ((a0.length : Int).toNat ≤ maxRow)) (L0k a0 0 (List.replicate (a0.length : Int).toNat false)))))
def l_toBoolS (k : Nat) (a0 : List Bool) : Option (List Bool) := g_l_toBoolS k (l0_l_toBoolS k k) a0
end
def l_toRoom (k : Nat) (a0 : TRoom) : Option TRoom := (bd (l_toEventS k a0.1) fun r1 => (bd (l_toItemSS k a0.2.1) fun r2 => (bd (l_toBoolS k a0.2.2.1) fun r3 => (some (r1, r2, r3, ())))))
def i_copyEvent (k : Nat) (a0 : TEvent) : Option TEvent := (gd (decide (a0.2.2.2.2.2.1.length ≤ maxRow)) (gd (decide (a0.2.2.2.2.2.2.2.1.length ≤ maxRow)) (some a0)))
noncomputable section
def b0_i_Known (k : Nat) (L0n0 : Int → List TEvent → Int → Option (TEvent × Bool)) (a1 : Int) (a0 : List TEvent) (v1 : Int) : Option (TEvent × Bool) := (br (decide (v1 < (a0.length : Int))) (gd (decide (0 ≤ v1)) (gd (decide (v1 < (a0.length : Int))) (br ((rd dTEvent a0 v1.toNat).1 == a1) (bd (i_copyEvent k (rd dTEvent a0 v1.toNat)) fun r1 => (some (r1, true))) (L0n0 a1 a0 (w64 (v1 + 1)))))) (some ((0, 0, 0, 0, 0, [], ByteArray.empty, [], 0, ()), false)))
def l0_i_Known (k : Nat) : Nat → Int → List TEvent → Int → Option (TEvent × Bool)
  | 0, _, _, _ => none
  | n0 + 1, a1, a0, v1 => b0_i_Known k (l0_i_Known k n0) a1 a0 v1
def g_i_Known (k : Nat) (L0k : Int → List TEvent → Int → Option (TEvent × Bool)) (a0 : List TEvent) (a1 : Int) : Option (TEvent × Bool) := (L0k a1 a0 0)
def i_Known (k : Nat) (a0 : List TEvent) (a1 : Int) : Option (TEvent × Bool) := g_i_Known k (l0_i_Known k k) a0 a1
end
noncomputable section
def b0_i_DepthOf (k : Nat) (L0n0 : Int → List Int → Int → TRoom → Option Int) (v1 : Int) (a1 : List Int) (v2 : Int) (a0 : TRoom) : Option Int := (br (decide (v2 < (a1.length : Int))) (gd (decide (0 ≤ v2)) (gd (decide (v2 < (a1.length : Int))) (bd (i_Known k a0.1 (rd 0 a1 v2.toNat)) fun r1 => (br r1.2 (L0n0 (if r1.1.2.2.2.2.2.2.2.2.1 > v1 then r1.1.2.2.2.2.2.2.2.2.1 else v1) a1 (w64 (v2 + 1)) a0) (L0n0 v1 a1 (w64 (v2 + 1)) a0))))) (some (w64 ((if 1000000 < v1 then 1000000 else v1) + 1))))
def l0_i_DepthOf (k : Nat) : Nat → Int → List Int → Int → TRoom → Option Int
  | 0, _, _, _, _ => none
  | n0 + 1, v1, a1, v2, a0 => b0_i_DepthOf k (l0_i_DepthOf k n0) v1 a1 v2 a0
def g_i_DepthOf (k : Nat) (L0k : Int → List Int → Int → TRoom → Option Int) (a0 : TRoom) (a1 : List Int) : Option Int := (L0k (-1) a1 0 a0)
def i_DepthOf (k : Nat) (a0 : TRoom) (a1 : List Int) : Option Int := g_i_DepthOf k (l0_i_DepthOf k k) a0 a1
end
noncomputable section
def b0_l_eqEventS (k : Nat) (L0n0 : List TEvent → List TEvent → Int → Option Bool) (a0 : List TEvent) (a1 : List TEvent) (v1 : Int) : Option Bool := (br (decide (v1 < (a0.length : Int))) (gd (decide (0 ≤ v1)) (gd (decide (v1 < (a0.length : Int))) (gd (decide (0 ≤ v1)) (gd (decide (v1 < (a1.length : Int))) (bd (l_eqEvent k (rd dTEvent a0 v1.toNat) (rd dTEvent a1 v1.toNat)) fun r1 => (br (!r1) (some false) (L0n0 a0 a1 (w64 (v1 + 1))))))))) (some true))
def l0_l_eqEventS (k : Nat) : Nat → List TEvent → List TEvent → Int → Option Bool
  | 0, _, _, _ => none
  | n0 + 1, a0, a1, v1 => b0_l_eqEventS k (l0_l_eqEventS k n0) a0 a1 v1
def g_l_eqEventS (k : Nat) (L0k : List TEvent → List TEvent → Int → Option Bool) (a0 : List TEvent) (a1 : List TEvent) : Option Bool := (br ((a0.length : Int) != (a1.length : Int)) (some false) (L0k a0 a1 0))
def l_eqEventS (k : Nat) (a0 : List TEvent) (a1 : List TEvent) : Option Bool := g_l_eqEventS k (l0_l_eqEventS k k) a0 a1
end
noncomputable section
def b0_l_eqItemSS (k : Nat) (L0n0 : List (List TItem) → List (List TItem) → Int → Option Bool) (a0 : List (List TItem)) (a1 : List (List TItem)) (v1 : Int) : Option Bool := (br (decide (v1 < (a0.length : Int))) (gd (decide (0 ≤ v1)) (gd (decide (v1 < (a0.length : Int))) (gd (decide (0 ≤ v1)) (gd (decide (v1 < (a1.length : Int))) (bd (l_eqItemS k (rd [] a0 v1.toNat) (rd [] a1 v1.toNat)) fun r1 => (br (!r1) (some false) (L0n0 a0 a1 (w64 (v1 + 1))))))))) (some true))
def l0_l_eqItemSS (k : Nat) : Nat → List (List TItem) → List (List TItem) → Int → Option Bool
  | 0, _, _, _ => none
  | n0 + 1, a0, a1, v1 => b0_l_eqItemSS k (l0_l_eqItemSS k n0) a0 a1 v1
def g_l_eqItemSS (k : Nat) (L0k : List (List TItem) → List (List TItem) → Int → Option Bool) (a0 : List (List TItem)) (a1 : List (List TItem)) : Option Bool := (br ((a0.length : Int) != (a1.length : Int)) (some false) (L0k a0 a1 0))
def l_eqItemSS (k : Nat) (a0 : List (List TItem)) (a1 : List (List TItem)) : Option Bool := g_l_eqItemSS k (l0_l_eqItemSS k k) a0 a1
end
noncomputable section
def b0_l_eqBoolS (k : Nat) (L0n0 : List Bool → List Bool → Int → Option Bool) (a0 : List Bool) (a1 : List Bool) (v1 : Int) : Option Bool := (br (decide (v1 < (a0.length : Int))) (gd (decide (0 ≤ v1)) (gd (decide (v1 < (a0.length : Int))) (gd (decide (0 ≤ v1)) (gd (decide (v1 < (a1.length : Int))) (br (!((rd false a0 v1.toNat) == (rd false a1 v1.toNat))) (some false) (L0n0 a0 a1 (w64 (v1 + 1)))))))) (some true))
def l0_l_eqBoolS (k : Nat) : Nat → List Bool → List Bool → Int → Option Bool
  | 0, _, _, _ => none
  | n0 + 1, a0, a1, v1 => b0_l_eqBoolS k (l0_l_eqBoolS k n0) a0 a1 v1
def g_l_eqBoolS (k : Nat) (L0k : List Bool → List Bool → Int → Option Bool) (a0 : List Bool) (a1 : List Bool) : Option Bool := (br ((a0.length : Int) != (a1.length : Int)) (some false) (L0k a0 a1 0))
def l_eqBoolS (k : Nat) (a0 : List Bool) (a1 : List Bool) : Option Bool := g_l_eqBoolS k (l0_l_eqBoolS k k) a0 a1
end
def l_eqRoom (k : Nat) (a0 : TRoom) (a1 : TRoom) : Option Bool := (bd (l_eqEventS k a0.1 a1.1) fun r1 => (br (!r1) (some false) (bd (l_eqItemSS k a0.2.1 a1.2.1) fun r2 => (br (!r2) (some false) (bd (l_eqBoolS k a0.2.2.1 a1.2.2.1) fun r3 => (br (!r3) (some false) (some true)))))))
def l_FnExactDepthOf (k : Nat) (a0 : TRoom) (a1 : List Int) : Option Bool := (br (decide ((a1.length : Int) > 1048576)) (some true) (bd (l_szRoom k a0 1048576) fun r1 => (br (decide (r1 < 0)) (some true) (bd (l_toRoom k a0) fun r2 => (bd (l_toIntS k a1) fun r3 => (bd (s_DepthOf k r2 r3) fun r4 => (bd (l_toRoom k a0) fun r5 => (bd (l_toIntS k a1) fun r6 => (bd (i_DepthOf k r5 r6) fun r7 => (br (r7 != r4) (some false) (bd (l_toRoom k a0) fun r8 => (bd (l_eqRoom k r5 r8) fun r9 => (br (!r9) (some false) (bd (l_toIntS k a1) fun r10 => (bd (l_eqIntS k r6 r10) fun r11 => (br (!r11) (some false) (some true)))))))))))))))))
def s_CommandText (k : Nat) (a0 : TCommand) : Option (ByteArray × Bool) := (bd (s_CommandOk k a0) fun r1 => (br (!r1) (some ((⟨#[]⟩ : ByteArray), false)) (bd (s_l09Byte k a0.1) fun r2 => (bd (s_l01Var k a0.2.1) fun r3 => (gd (decide (r2.size + r3.size ≤ maxRow)) (bd (s_l01Var k a0.2.2.1) fun r4 => (gd (decide ((r2 ++ r3).size + r4.size ≤ maxRow)) (br (a0.1 == 2) (bd (s_l09BodyText k a0.2.2.2.1) fun r5 => (gd (decide (((r2 ++ r3) ++ r4).size + r5.size ≤ maxRow)) (some ((((r2 ++ r3) ++ r4) ++ r5), true)))) (br (a0.1 == 3) (bd (s_EventText k a0.2.2.2.1) fun r6 => (bd (s_l05Short k r6.1) fun r7 => (gd (decide (((r2 ++ r3) ++ r4).size + r7.size ≤ maxRow)) (some ((((r2 ++ r3) ++ r4) ++ r7), true))))) (br (a0.1 == 4) (bd (s_l01Var k a0.2.2.2.2.1) fun r8 => (gd (decide (((r2 ++ r3) ++ r4).size + r8.size ≤ maxRow)) (bd (s_l01Var k a0.2.2.2.2.2.1) fun r9 => (gd (decide ((((r2 ++ r3) ++ r4) ++ r8).size + r9.size ≤ maxRow)) (some (((((r2 ++ r3) ++ r4) ++ r8) ++ r9), true)))))) (some (((r2 ++ r3) ++ r4), true))))))))))))
def i_CommandText (k : Nat) (a0 : TCommand) : Option (ByteArray × Bool) := (bd (i_CommandOk k a0) fun r1 => (br (!r1) (some ((⟨#[]⟩ : ByteArray), false)) (bd (i_vars k [a0.2.1, a0.2.2.1]) fun r2 => (gd (decide ((strOfNums [(IntKind.wrap .u8 a0.1)]).size + r2.1.size ≤ maxRow)) (br (a0.1 == 2) (bd (i_mainText k a0.2.2.2.1) fun r3 => (gd (decide (((strOfNums [(IntKind.wrap .u8 a0.1)]) ++ r2.1).size + r3.size ≤ maxRow)) (some ((((strOfNums [(IntKind.wrap .u8 a0.1)]) ++ r2.1) ++ r3), true)))) (br (a0.1 == 3) (bd (i_EventText k a0.2.2.2.1) fun r4 => (bd (i_ShortText k r4.1) fun r5 => (gd (decide (((strOfNums [(IntKind.wrap .u8 a0.1)]) ++ r2.1).size + r5.1.size ≤ maxRow)) (some ((((strOfNums [(IntKind.wrap .u8 a0.1)]) ++ r2.1) ++ r5.1), true))))) (br (a0.1 == 4) (bd (i_vars k [a0.2.2.2.2.1, a0.2.2.2.2.2.1]) fun r6 => (gd (decide (((strOfNums [(IntKind.wrap .u8 a0.1)]) ++ r2.1).size + r6.1.size ≤ maxRow)) (some ((((strOfNums [(IntKind.wrap .u8 a0.1)]) ++ r2.1) ++ r6.1), true)))) (some (((strOfNums [(IntKind.wrap .u8 a0.1)]) ++ r2.1), true)))))))))
def l_FnExactCommandText (k : Nat) (a0 : TCommand) : Option Bool := (bd (l_szCommand k a0 1048576) fun r1 => (br (decide (r1 < 0)) (some true) (bd (l_toCommand k a0) fun r2 => (bd (s_CommandText k r2) fun r3 => (bd (l_toCommand k a0) fun r4 => (bd (i_CommandText k r4) fun r5 => (br (!(r5.1.toList == r3.1.toList)) (some false) (br (!(r5.2 == r3.2)) (some false) (bd (l_toCommand k a0) fun r6 => (bd (l_eqCommand k r4 r6) fun r7 => (br (!r7) (some false) (some true))))))))))))
end Go.Vm
