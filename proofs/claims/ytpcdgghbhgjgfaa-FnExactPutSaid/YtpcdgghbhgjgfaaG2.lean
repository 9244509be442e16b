/- What the functions compute. -/
import Derived.Test.YtpcdgghbhgjgfaaWc
set_option linter.unusedVariables false
namespace Go.Vm
open Go
abbrev TItem : Type := Int × Int × Unit
def dTItem : TItem := (0, 0, ())
abbrev TL01Cur : Type := List Int × Int × Int × Unit
def dTL01Cur : TL01Cur := ([], 0, 0, ())
abbrev TEvent : Type := Int × Int × Int × Int × Int × List Int × ByteArray × List Int × Int × Unit
def dTEvent : TEvent := (0, 0, 0, 0, 0, [], ByteArray.empty, [], 0, ())
abbrev TRoom : Type := List TEvent × List (List TItem) × List Bool × Unit
def dTRoom : TRoom := ([], [], [], ())
def l_szItemS (k : Nat) (a0 : List TItem) (a1 : Int) : Option Int := (br (decide ((w64 (a1 - (a0.length : Int))) < 0)) (some (-1)) (some (w64 (a1 - (a0.length : Int)))))
def s_l01In (k : Nat) (a0 : Int) (a1 : Int) (a2 : Int) : Option Bool := (br (decide (a0 ≥ a1)) (some (decide (a0 ≤ a2))) (some false))
def s_l10Key (k : Nat) (a0 : Int) : Option Bool := (bd (s_l01In k a0 1 3) fun r1 => (br r1 (some true) (bd (s_l01In k a0 11 15) fun r2 => (some r2))))
noncomputable section
def b0_s_StateOk (k : Nat) (L0 : List TItem → Int → Option Bool) (a0 : List TItem) (v1 : Int) : Option Bool := (br (decide (v1 < (a0.length : Int))) (gd (decide (0 ≤ v1)) (gd (decide (v1 < (a0.length : Int))) (bd (s_l10Key k (rd dTItem a0 v1.toNat).1) fun r1 => (br (!r1) (some false) (gd (decide (0 ≤ v1)) (gd (decide (v1 < (a0.length : Int))) (bd (s_l01In k (rd dTItem a0 v1.toNat).2.1 1 1000000) fun r2 => (br (!r2) (some false) (br (decide (v1 > 0)) (gd (decide (0 ≤ (w64 (v1 - 1)))) (gd (decide ((w64 (v1 - 1)) < (a0.length : Int))) (gd (decide (0 ≤ v1)) (gd (decide (v1 < (a0.length : Int))) (br (decide ((rd dTItem a0 (w64 (v1 - 1)).toNat).1 ≥ (rd dTItem a0 v1.toNat).1)) (some false) (L0 a0 (w64 (v1 + 1)))))))) (L0 a0 (w64 (v1 + 1)))))))))))) (some true))
def l0_s_StateOk (k : Nat) : Nat → List TItem → Int → Option Bool
  | 0, _, _ => none
  | n + 1, a0, v1 => b0_s_StateOk k (l0_s_StateOk k n) a0 v1
def g_s_StateOk (k : Nat) (L0 : List TItem → Int → Option Bool) (a0 : List TItem) : Option Bool := (br (decide ((a0.length : Int) > 8)) (some false) (L0 a0 0))
def s_StateOk (k : Nat) (a0 : List TItem) : Option Bool := g_s_StateOk k (l0_s_StateOk k k) a0
end
noncomputable section
def b1_s_Put (k : Nat) (L1 : List TItem → Int → Int → List TItem → Option (List TItem)) (a0 : List TItem) (a1 : Int) (v3 : Int) (xs4 : List TItem) : Option (List TItem) := (br (decide (v3 < (a0.length : Int))) (gd (decide (0 ≤ v3)) (gd (decide (v3 < (a0.length : Int))) (br (decide ((rd dTItem a0 v3.toNat).1 > a1)) (gd (decide (0 ≤ v3)) (gd (decide (v3 < (a0.length : Int))) (gd (decide (xs4.length + ([(rd dTItem a0 v3.toNat)] : List TItem).length ≤ maxRow)) (L1 a0 a1 (w64 (v3 + 1)) (xs4 ++ ([(rd dTItem a0 v3.toNat)] : List TItem)))))) (L1 a0 a1 (w64 (v3 + 1)) xs4)))) (bd (s_StateOk k a0) fun r1 => (br (!r1) (gd (decide (([] : List TItem).length + a0.length ≤ maxRow)) (some (([] : List TItem) ++ a0))) (bd (s_StateOk k xs4) fun r2 => (br (!r2) (gd (decide (([] : List TItem).length + a0.length ≤ maxRow)) (some (([] : List TItem) ++ a0))) (some xs4))))))
def b0_s_Put (k : Nat) (L0 : List TItem → Int → Int → Int → List TItem → Option (List TItem)) (L1 : List TItem → Int → Int → List TItem → Option (List TItem)) (a0 : List TItem) (a1 : Int) (a2 : Int) (v1 : Int) (xs2 : List TItem) : Option (List TItem) := (br (decide (v1 < (a0.length : Int))) (gd (decide (0 ≤ v1)) (gd (decide (v1 < (a0.length : Int))) (br (decide ((rd dTItem a0 v1.toNat).1 < a1)) (gd (decide (0 ≤ v1)) (gd (decide (v1 < (a0.length : Int))) (gd (decide (xs2.length + ([(rd dTItem a0 v1.toNat)] : List TItem).length ≤ maxRow)) (L0 a0 a1 a2 (w64 (v1 + 1)) (xs2 ++ ([(rd dTItem a0 v1.toNat)] : List TItem)))))) (L0 a0 a1 a2 (w64 (v1 + 1)) xs2)))) (gd (decide (xs2.length + ([(a1, a2, ())] : List TItem).length ≤ maxRow)) (L1 a0 a1 0 (xs2 ++ ([(a1, a2, ())] : List TItem)))))
def l1_s_Put (k : Nat) : Nat → List TItem → Int → Int → List TItem → Option (List TItem)
  | 0, _, _, _, _ => none
  | n + 1, a0, a1, v3, xs4 => b1_s_Put k (l1_s_Put k n) a0 a1 v3 xs4
def l0_s_Put (k : Nat) : Nat → List TItem → Int → Int → Int → List TItem → Option (List TItem)
  | 0, _, _, _, _, _ => none
  | n + 1, a0, a1, a2, v1, xs2 => b0_s_Put k (l0_s_Put k n) (l1_s_Put k n) a0 a1 a2 v1 xs2
def g_s_Put (k : Nat) (L0 : List TItem → Int → Int → Int → List TItem → Option (List TItem)) (a0 : List TItem) (a1 : Int) (a2 : Int) : Option (List TItem) := (L0 a0 a1 a2 0 ([] : List TItem))
def s_Put (k : Nat) (a0 : List TItem) (a1 : Int) (a2 : Int) : Option (List TItem) := g_s_Put k (l0_s_Put k k) a0 a1 a2
end
def l_toItem (k : Nat) (a0 : TItem) : Option TItem := (some a0)
noncomputable section
def b0_l_toItemS (k : Nat) (L0 : List TItem → Int → List TItem → Option (List TItem)) (a0 : List TItem) (v1 : Int) (xs2 : List TItem) : Option (List TItem) := (br (decide (v1 < (a0.length : Int))) (gd (decide (0 ≤ v1)) (gd (decide (v1 < (a0.length : Int))) (bd (l_toItem k (rd dTItem a0 v1.toNat)) fun r1 => (gd (decide (0 ≤ v1)) (gd (decide (v1 < (xs2.length : Int))) (L0 a0 (w64 (v1 + 1)) (xs2.set v1.toNat r1))))))) (some xs2))
def l0_l_toItemS (k : Nat) : Nat → List TItem → Int → List TItem → Option (List TItem)
  | 0, _, _, _ => none
  | n + 1, a0, v1, xs2 => b0_l_toItemS k (l0_l_toItemS k n) a0 v1 xs2
def g_l_toItemS (k : Nat) (L0 : List TItem → Int → List TItem → Option (List TItem)) (a0 : List TItem) : Option (List TItem) := (gd (decide ((a0.length : Int) = (a0.length : Int))) (gd (decide (0 ≤ (a0.length : Int))) (gd (decide ((a0.length : Int).toNat ≤ maxRow)) (L0 a0 0 (List.replicate (a0.length : Int).toNat dTItem)))))
def l_toItemS (k : Nat) (a0 : List TItem) : Option (List TItem) := g_l_toItemS k (l0_l_toItemS k k) a0
end
def slices_Insert_impl_Item_impl_Item (k : Nat) (a0 : List TItem) (a1 : Int) (a2 : List TItem) : Option (List TItem) := insO a0 a1 a2
def i_within (k : Nat) (a0 : Int) (a1 : Int) (a2 : Int) : Option Bool := (br (decide (a0 ≥ a1)) (some (decide (a0 ≤ a2))) (some false))
noncomputable section
def b0_i_StateOk (k : Nat) (L0 : List TItem → Int → Option Bool) (a0 : List TItem) (v1 : Int) : Option Bool := (br (decide (v1 < (a0.length : Int))) (gd (decide (0 ≤ v1)) (gd (decide (v1 < (a0.length : Int))) (bd (i_within k (rd dTItem a0 v1.toNat).1 1 3) fun r1 => (br (!r1) (bd (i_within k (rd dTItem a0 v1.toNat).1 11 15) fun r2 => (br (!r2) (some false) (bd (i_within k (rd dTItem a0 v1.toNat).2.1 1 1000000) fun r3 => (br (!r3) (some false) (br (decide (v1 > 0)) (gd (decide (0 ≤ (w64 (v1 - 1)))) (gd (decide ((w64 (v1 - 1)) < (a0.length : Int))) (br (decide ((rd dTItem a0 (w64 (v1 - 1)).toNat).1 ≥ (rd dTItem a0 v1.toNat).1)) (some false) (L0 a0 (w64 (v1 + 1)))))) (L0 a0 (w64 (v1 + 1)))))))) (bd (i_within k (rd dTItem a0 v1.toNat).2.1 1 1000000) fun r4 => (br (!r4) (some false) (br (decide (v1 > 0)) (gd (decide (0 ≤ (w64 (v1 - 1)))) (gd (decide ((w64 (v1 - 1)) < (a0.length : Int))) (br (decide ((rd dTItem a0 (w64 (v1 - 1)).toNat).1 ≥ (rd dTItem a0 v1.toNat).1)) (some false) (L0 a0 (w64 (v1 + 1)))))) (L0 a0 (w64 (v1 + 1)))))))))) (some (decide ((a0.length : Int) ≤ 8))))
def l0_i_StateOk (k : Nat) : Nat → List TItem → Int → Option Bool
  | 0, _, _ => none
  | n + 1, a0, v1 => b0_i_StateOk k (l0_i_StateOk k n) a0 v1
def g_i_StateOk (k : Nat) (L0 : List TItem → Int → Option Bool) (a0 : List TItem) : Option Bool := (L0 a0 0)
def i_StateOk (k : Nat) (a0 : List TItem) : Option Bool := g_i_StateOk k (l0_i_StateOk k k) a0
end
noncomputable section
def b0_i_Put (k : Nat) (L0 : List TItem → Int → Int → Int → Option (List TItem)) (a0 : List TItem) (a1 : Int) (a2 : Int) (v1 : Int) : Option (List TItem) := (br (decide (v1 < (a0.length : Int))) (gd (decide (0 ≤ v1)) (gd (decide (v1 < (a0.length : Int))) (br (decide ((rd dTItem a0 v1.toNat).1 < a1)) (L0 a0 a1 a2 (w64 (v1 + 1))) (br (decide (v1 < (a0.length : Int))) (gd (decide (0 ≤ v1)) (gd (decide (v1 < (a0.length : Int))) (br ((rd dTItem a0 v1.toNat).1 == a1) (gd (decide (0 ≤ v1)) (gd (decide (v1 < (a0.length : Int))) (bd (i_StateOk k a0) fun r1 => (br (!r1) (gd (decide (a0.length ≤ maxRow)) (some a0)) (bd (i_StateOk k (a0.set v1.toNat ((rd dTItem a0 v1.toNat).1, a2, ()))) fun r2 => (br (!r2) (gd (decide (a0.length ≤ maxRow)) (some a0)) (some (a0.set v1.toNat ((rd dTItem a0 v1.toNat).1, a2, ()))))))))) (bd (slices_Insert_impl_Item_impl_Item k a0 v1 ([(a1, a2, ())] : List TItem)) fun r3 => (bd (i_StateOk k a0) fun r4 => (br (!r4) (gd (decide (a0.length ≤ maxRow)) (some a0)) (bd (i_StateOk k r3) fun r5 => (br (!r5) (gd (decide (a0.length ≤ maxRow)) (some a0)) (some r3))))))))) (bd (slices_Insert_impl_Item_impl_Item k a0 v1 ([(a1, a2, ())] : List TItem)) fun r6 => (bd (i_StateOk k a0) fun r7 => (br (!r7) (gd (decide (a0.length ≤ maxRow)) (some a0)) (bd (i_StateOk k r6) fun r8 => (br (!r8) (gd (decide (a0.length ≤ maxRow)) (some a0)) (some r6)))))))))) (br (decide (v1 < (a0.length : Int))) (gd (decide (0 ≤ v1)) (gd (decide (v1 < (a0.length : Int))) (br ((rd dTItem a0 v1.toNat).1 == a1) (gd (decide (0 ≤ v1)) (gd (decide (v1 < (a0.length : Int))) (bd (i_StateOk k a0) fun r9 => (br (!r9) (gd (decide (a0.length ≤ maxRow)) (some a0)) (bd (i_StateOk k (a0.set v1.toNat ((rd dTItem a0 v1.toNat).1, a2, ()))) fun r10 => (br (!r10) (gd (decide (a0.length ≤ maxRow)) (some a0)) (some (a0.set v1.toNat ((rd dTItem a0 v1.toNat).1, a2, ()))))))))) (bd (slices_Insert_impl_Item_impl_Item k a0 v1 ([(a1, a2, ())] : List TItem)) fun r11 => (bd (i_StateOk k a0) fun r12 => (br (!r12) (gd (decide (a0.length ≤ maxRow)) (some a0)) (bd (i_StateOk k r11) fun r13 => (br (!r13) (gd (decide (a0.length ≤ maxRow)) (some a0)) (some r11))))))))) (bd (slices_Insert_impl_Item_impl_Item k a0 v1 ([(a1, a2, ())] : List TItem)) fun r14 => (bd (i_StateOk k a0) fun r15 => (br (!r15) (gd (decide (a0.length ≤ maxRow)) (some a0)) (bd (i_StateOk k r14) fun r16 => (br (!r16) (gd (decide (a0.length ≤ maxRow)) (some a0)) (some r14))))))))
def l0_i_Put (k : Nat) : Nat → List TItem → Int → Int → Int → Option (List TItem)
  | 0, _, _, _, _ => none
  | n + 1, a0, a1, a2, v1 => b0_i_Put k (l0_i_Put k n) a0 a1 a2 v1
def g_i_Put (k : Nat) (L0 : List TItem → Int → Int → Int → Option (List TItem)) (a0 : List TItem) (a1 : Int) (a2 : Int) : Option (List TItem) := (gd (decide (a0.length ≤ maxRow)) (L0 a0 a1 a2 0))
def i_Put (k : Nat) (a0 : List TItem) (a1 : Int) (a2 : Int) : Option (List TItem) := g_i_Put k (l0_i_Put k k) a0 a1 a2
end
def l_eqItem (k : Nat) (a0 : TItem) (a1 : TItem) : Option Bool := (br (a0.1 != a1.1) (some false) (br (a0.2.1 != a1.2.1) (some false) (some true)))
noncomputable section
def b0_l_eqItemS (k : Nat) (L0 : List TItem → List TItem → Int → Option Bool) (a0 : List TItem) (a1 : List TItem) (v1 : Int) : Option Bool := (br (decide (v1 < (a0.length : Int))) (gd (decide (0 ≤ v1)) (gd (decide (v1 < (a0.length : Int))) (gd (decide (0 ≤ v1)) (gd (decide (v1 < (a1.length : Int))) (bd (l_eqItem k (rd dTItem a0 v1.toNat) (rd dTItem a1 v1.toNat)) fun r1 => (br (!r1) (some false) (L0 a0 a1 (w64 (v1 + 1))))))))) (some true))
def l0_l_eqItemS (k : Nat) : Nat → List TItem → List TItem → Int → Option Bool
  | 0, _, _, _ => none
  | n + 1, a0, a1, v1 => b0_l_eqItemS k (l0_l_eqItemS k n) a0 a1 v1
def g_l_eqItemS (k : Nat) (L0 : List TItem → List TItem → Int → Option Bool) (a0 : List TItem) (a1 : List TItem) : Option Bool := (br ((a0.length : Int) != (a1.length : Int)) (some false) (L0 a0 a1 0))
def l_eqItemS (k : Nat) (a0 : List TItem) (a1 : List TItem) : Option Bool := g_l_eqItemS k (l0_l_eqItemS k k) a0 a1
end
noncomputable section
def b0_l_markItemS (k : Nat) (L0 : Int → Int → List TItem → Option (Int × List TItem × Unit)) (a1 : Int) (v1 : Int) (a0 : List TItem) : Option (Int × List TItem × Unit) := (br (decide (v1 < (a0.length : Int))) (gd (decide (0 ≤ v1)) (gd (decide (v1 < (a0.length : Int))) (gd (decide (0 ≤ v1)) (gd (decide (v1 < (((a0.set v1.toNat (a1, (rd dTItem a0 v1.toNat).2)).length : Nat) : Int))) (L0 (w64 ((w64 (a1 + 1)) + 1)) (w64 (v1 + 1)) ((a0.set v1.toNat (a1, (rd dTItem a0 v1.toNat).2)).set v1.toNat ((rd dTItem (a0.set v1.toNat (a1, (rd dTItem a0 v1.toNat).2)) v1.toNat).1, (w64 (a1 + 1)), ()))))))) (some (a1, a0, ())))
def l0_l_markItemS (k : Nat) : Nat → Int → Int → List TItem → Option (Int × List TItem × Unit)
  | 0, _, _, _ => none
  | n + 1, a1, v1, a0 => b0_l_markItemS k (l0_l_markItemS k n) a1 v1 a0
def g_l_markItemS (k : Nat) (L0 : Int → Int → List TItem → Option (Int × List TItem × Unit)) (a0 : List TItem) (a1 : Int) : Option (Int × List TItem × Unit) := (L0 a1 0 a0)
def l_markItemS (k : Nat) (a0 : List TItem) (a1 : Int) : Option (Int × List TItem × Unit) := g_l_markItemS k (l0_l_markItemS k k) a0 a1
end
noncomputable section
def b0_l_heldItemS (k : Nat) (L0 : List TItem → Int → Int → Option Int) (a0 : List TItem) (a1 : Int) (v1 : Int) : Option Int := (br (decide (v1 < (a0.length : Int))) (gd (decide (0 ≤ v1)) (gd (decide (v1 < (a0.length : Int))) (br ((rd dTItem a0 v1.toNat).1 != a1) (some (-1)) (gd (decide (0 ≤ v1)) (gd (decide (v1 < (a0.length : Int))) (br ((rd dTItem a0 v1.toNat).2.1 != (w64 (a1 + 1))) (some (-1)) (L0 a0 (w64 ((w64 (a1 + 1)) + 1)) (w64 (v1 + 1))))))))) (some a1))
def l0_l_heldItemS (k : Nat) : Nat → List TItem → Int → Int → Option Int
  | 0, _, _, _ => none
  | n + 1, a0, a1, v1 => b0_l_heldItemS k (l0_l_heldItemS k n) a0 a1 v1
def g_l_heldItemS (k : Nat) (L0 : List TItem → Int → Int → Option Int) (a0 : List TItem) (a1 : Int) : Option Int := (L0 a0 a1 0)
def l_heldItemS (k : Nat) (a0 : List TItem) (a1 : Int) : Option Int := g_l_heldItemS k (l0_l_heldItemS k k) a0 a1
end
def l_FnExactPut (k : Nat) (a0 : List TItem) (a1 : Int) (a2 : Int) : Option Bool := (bd (l_szItemS k a0 1048576) fun r1 => (br (decide (r1 < 0)) (some true) (bd (l_toItemS k a0) fun r2 => (bd (s_Put k r2 a1 a2) fun r3 => (bd (l_toItemS k a0) fun r4 => (bd (i_Put k r4 a1 a2) fun r5 => (bd (l_eqItemS k r5 r3) fun r6 => (br (!r6) (some false) (bd (l_toItemS k a0) fun r7 => (bd (l_eqItemS k r4 r7) fun r8 => (br (!r8) (some false) (bd (l_markItemS k r4 1) fun r9 => (gd (Nat.beq r9.2.1.length r4.length) (br (decide (r9.1 < 0)) (some false) (bd (l_eqItemS k r5 r3) fun r10 => (br (!r10) (some false) (bd (l_markItemS k r5 1) fun r11 => (gd (Nat.beq r11.2.1.length r5.length) (bd (l_heldItemS k r11.2.1 1) fun r12 => (br (decide (r12 < 0)) (some false) (br (r12 != r11.1) (some false) (bd (l_toItemS k a0) fun r13 => (bd (i_Put k r13 a1 a2) fun r14 => (bd (l_eqItemS k r14 r3) fun r15 => (br (!r15) (some false) (bd (l_heldItemS k r11.2.1 1) fun r16 => (br (decide (r16 < 0)) (some false) (br (r16 != r11.1) (some false) (some true)))))))))))))))))))))))))))))
end Go.Vm
