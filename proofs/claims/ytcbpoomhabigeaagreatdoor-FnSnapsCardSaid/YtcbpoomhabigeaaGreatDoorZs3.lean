/- What the functions compute. -/
import Derived.Test.YtcbpoomhabigeaaGreatDoorZs2
set_option linter.all false
section
namespace Go.Vm
open Go
abbrev B4 : Type := ByteArray × ByteArray × Int × Unit
def B0 : B4 := (ByteArray.empty, ByteArray.empty, 0, ())
abbrev B9 : Type := List B4 × Unit
abbrev Ab7 : Type := ByteArray × Int × Bool × Unit
abbrev D4 : Type := Int × Int × ByteArray × Unit
def A8 : D4 := (0, 0, ByteArray.empty, ())
abbrev Ef2 : Type := Int × Int × List D4 × Unit
abbrev I3 : Type := Int × ByteArray × ByteArray × ByteArray × Unit
def Ha1 : I3 := (0, ByteArray.empty, ByteArray.empty, ByteArray.empty, ())
abbrev A9 : Type := List Int × Int × Int × Unit
abbrev A0 : Type := Int × Int × Int × Int × Int × List Int × ByteArray × List Int × Int × Unit
def D2 : A0 := (0, 0, 0, 0, 0, [], ByteArray.empty, [], 0, ())
abbrev D1 : Type := Int × Int × Int × A0 × Int × Int × Unit
abbrev J5 : Type := Int × Int × List Int × Unit
def H1 : J5 := (0, 0, [], ())
abbrev A1 : Type := Int × Int × Unit
def I4 : A1 := (0, 0, ())
abbrev A6 : Type := List A0 × List (List A1) × List Bool × Unit
abbrev C0 : Type := List D4 × A6 × List J5 × Unit
abbrev E5 : Type := Int × Int × List Int × ByteArray × Unit
def E14 (k : Nat) (a0 : List Int) : Option Bool := (some (decide ((a0.length : Int) > 1048576)))
def D9 (k : Nat) (a0 : Int) (a1 : Int) (a2 : Int) : Option Bool := (br (decide (a0 ≥ a1)) (some (decide (a0 ≤ a2))) (some false))
def Q1 (k : Nat) (a0 : ByteArray) : Option Bool := (bd (D9 k (a0.size : Int) 1 8) fun r1 => (some r1))
noncomputable section
def Bf3 (k : Nat) (L0 : Int → B9 → Option Bool) (v1 : Int) (a0 : B9) : Option Bool := (br (decide (v1 < (a0.1.length : Int))) (gd (decide (0 ≤ v1)) (gd (decide (v1 < (a0.1.length : Int))) (bd (Q1 k (rd B0 a0.1 v1.toNat).1) fun r1 => (br (!r1) (some false) (br (decide ((((rd B0 a0.1 v1.toNat).2.1.size : Nat) : Int) > 20000)) (some false) (bd (D9 k (rd B0 a0.1 v1.toNat).2.2.1 0 (((rd B0 a0.1 v1.toNat).2.1.size : Nat) : Int)) fun r2 => (br (!r2) (some false) (br (decide (v1 > 0)) (gd (decide (0 ≤ (B5 (v1 - 1)))) (gd (decide ((B5 (v1 - 1)) < (a0.1.length : Int))) (br (!Op.bytesLess (rd B0 a0.1 (B5 (v1 - 1)).toNat).1.toList (rd B0 a0.1 v1.toNat).1.toList) (some false) (L0 (B5 (v1 + 1)) a0)))) (L0 (B5 (v1 + 1)) a0))))))))) (some true))
def c7 (k : Nat) : Nat → Int → B9 → Option Bool
 | 0, _, _ => none
 | n + 1, v1, a0 => Bf3 k (c7 k n) v1 a0
def Dj5 (k : Nat) (L0 : Int → B9 → Option Bool) (a0 : B9) : Option Bool := (br (decide ((a0.1.length : Int) > 30)) (some false) (L0 0 a0))
def F5 (k : Nat) (a0 : B9) : Option Bool := Dj5 k (c7 k k) a0
end
noncomputable section
def Bf4 (k : Nat) (L1 : Int → B9 → B4 → List B4 → Option B9) (v3 : Int) (a0 : B9) (a1 : B4) (xs4 : List B4) : Option B9 := (br (decide (v3 < (a0.1.length : Int))) (gd (decide (0 ≤ v3)) (gd (decide (v3 < (a0.1.length : Int))) (br (!(Op.bytesLess (rd B0 a0.1 v3.toNat).1.toList a1.1.toList || (rd B0 a0.1 v3.toNat).1.toList == a1.1.toList)) (gd (decide (0 ≤ v3)) (gd (decide (v3 < (a0.1.length : Int))) (gd (decide (xs4.length + ([(rd B0 a0.1 v3.toNat)] : List B4).length ≤ A3)) (L1 (B5 (v3 + 1)) a0 a1 (xs4 ++ ([(rd B0 a0.1 v3.toNat)] : List B4)))))) (L1 (B5 (v3 + 1)) a0 a1 xs4)))) (some (xs4, ())))
def Bf5 (k : Nat) (L0 : Int → B9 → B4 → List B4 → Option B9) (L1 : Int → B9 → B4 → List B4 → Option B9) (v1 : Int) (a0 : B9) (a1 : B4) (xs2 : List B4) : Option B9 := (br (decide (v1 < (a0.1.length : Int))) (gd (decide (0 ≤ v1)) (gd (decide (v1 < (a0.1.length : Int))) (br (Op.bytesLess (rd B0 a0.1 v1.toNat).1.toList a1.1.toList) (gd (decide (0 ≤ v1)) (gd (decide (v1 < (a0.1.length : Int))) (gd (decide (xs2.length + ([(rd B0 a0.1 v1.toNat)] : List B4).length ≤ A3)) (L0 (B5 (v1 + 1)) a0 a1 (xs2 ++ ([(rd B0 a0.1 v1.toNat)] : List B4)))))) (L0 (B5 (v1 + 1)) a0 a1 xs2)))) (gd (decide (xs2.length + ([a1] : List B4).length ≤ A3)) (L1 0 a0 a1 (xs2 ++ ([a1] : List B4)))))
def Ai7 (k : Nat) : Nat → Int → B9 → B4 → List B4 → Option B9
 | 0, _, _, _, _ => none
 | n + 1, v3, a0, a1, xs4 => Bf4 k (Ai7 k n) v3 a0 a1 xs4
def s8 (k : Nat) : Nat → Int → B9 → B4 → List B4 → Option B9
 | 0, _, _, _, _ => none
 | n + 1, v1, a0, a1, xs2 => Bf5 k (s8 k n) (Ai7 k n) v1 a0 a1 xs2
def Dj6 (k : Nat) (L0 : Int → B9 → B4 → List B4 → Option B9) (a0 : B9) (a1 : B4) : Option B9 := (L0 0 a0 a1 [])
def G6 (k : Nat) (a0 : B9) (a1 : B4) : Option B9 := Dj6 k (s8 k k) a0 a1
end
noncomputable section
def Bs9 (k : Nat) (L0 : ByteArray → Int → B9 → Option Int) (a1 : ByteArray) (v1 : Int) (a0 : B9) : Option Int := (br (decide (v1 < (a0.1.length : Int))) (gd (decide (0 ≤ v1)) (gd (decide (v1 < (a0.1.length : Int))) (br ((rd B0 a0.1 v1.toNat).1.toList == a1.toList) (some v1) (L0 a1 (B5 (v1 + 1)) a0)))) (some (-1)))
def Ah4 (k : Nat) : Nat → ByteArray → Int → B9 → Option Int
 | 0, _, _, _ => none
 | n + 1, a1, v1, a0 => Bs9 k (Ah4 k n) a1 v1 a0
def D89 (k : Nat) (L0 : ByteArray → Int → B9 → Option Int) (a0 : B9) (a1 : ByteArray) : Option Int := (L0 a1 0 a0)
def Bf6 (k : Nat) (a0 : B9) (a1 : ByteArray) : Option Int := D89 k (Ah4 k k) a0 a1
end
noncomputable section
def Ag7 (k : Nat) (L0 : ByteArray → Int → B9 → List B4 → Option B9) (a1 : ByteArray) (v1 : Int) (a0 : B9) (xs2 : List B4) : Option B9 := (br (decide (v1 < (a0.1.length : Int))) (gd (decide (0 ≤ v1)) (gd (decide (v1 < (a0.1.length : Int))) (br (!((rd B0 a0.1 v1.toNat).1.toList == a1.toList)) (gd (decide (0 ≤ v1)) (gd (decide (v1 < (a0.1.length : Int))) (gd (decide (xs2.length + ([(rd B0 a0.1 v1.toNat)] : List B4).length ≤ A3)) (L0 a1 (B5 (v1 + 1)) a0 (xs2 ++ ([(rd B0 a0.1 v1.toNat)] : List B4)))))) (L0 a1 (B5 (v1 + 1)) a0 xs2)))) (some (xs2, ())))
def Q4 (k : Nat) : Nat → ByteArray → Int → B9 → List B4 → Option B9
 | 0, _, _, _, _ => none
 | n + 1, a1, v1, a0, xs2 => Ag7 k (Q4 k n) a1 v1 a0 xs2
def B39 (k : Nat) (L0 : ByteArray → Int → B9 → List B4 → Option B9) (a0 : B9) (a1 : ByteArray) : Option B9 := (L0 a1 0 a0 [])
def F9 (k : Nat) (a0 : B9) (a1 : ByteArray) : Option B9 := B39 k (Q4 k k) a0 a1
end
def Y2 (k : Nat) (a0 : B9) (a1 : I3) : Option (B9 × Bool) := (bd (F5 k a0) fun r1 => (br (!r1) (some (([], ()), false)) (bd (Q1 k a1.2.1) fun r2 => (br (!r2) (some (([], ()), false)) (br (a1.1 != 3) (br (!(a1.2.2.2.1.toList == (⟨#[]⟩ : ByteArray).toList)) (some (([], ()), false)) (br (a1.1 != 1) (br (!(a1.2.2.1.toList == (⟨#[]⟩ : ByteArray).toList)) (some (([], ()), false)) (bd (Bf6 k a0 a1.2.1) fun r3 => (br (decide (r3 ≥ 0)) (gd (decide (0 ≤ r3)) (gd (decide (r3 < (a0.1.length : Int))) (br (a1.1 == 1) (gd (decide ((rd B0 a0.1 r3.toNat).2.1.size + a1.2.2.1.size ≤ A3)) (bd (G6 k a0 ((rd B0 a0.1 r3.toNat).1, ((rd B0 a0.1 r3.toNat).2.1 ++ a1.2.2.1), (rd B0 a0.1 r3.toNat).2.2)) fun r4 => (bd (F5 k r4) fun r5 => (br (!r5) (some (([], ()), false)) (some (r4, true)))))) (br (decide (r3 < 0)) (some (([], ()), false)) (br (a1.1 == 2) (bd (G6 k a0 ((rd B0 a0.1 r3.toNat).1, (rd B0 a0.1 r3.toNat).2.1, (((rd B0 a0.1 r3.toNat).2.1.size : Nat) : Int), ())) fun r6 => (bd (F5 k r6) fun r7 => (br (!r7) (some (([], ()), false)) (some (r6, true))))) (br (a1.1 == 3) (br (decide ((rd B0 a0.1 r3.toNat).2.2.1 < (((rd B0 a0.1 r3.toNat).2.1.size : Nat) : Int))) (some (([], ()), false)) (br (a1.2.2.2.1.toList == a1.2.1.toList) (some (([], ()), false)) (bd (Q1 k a1.2.2.2.1) fun r8 => (br (!r8) (some (([], ()), false)) (bd (F9 k a0 a1.2.1) fun r9 => (bd (G6 k r9 (a1.2.2.2.1, (rd B0 a0.1 r3.toNat).2)) fun r10 => (bd (F5 k r10) fun r11 => (br (!r11) (some (([], ()), false)) (some (r10, true)))))))))) (br (a1.1 == 4) (bd (F9 k a0 a1.2.1) fun r12 => (bd (F5 k r12) fun r13 => (br (!r13) (some (([], ()), false)) (some (r12, true))))) (some (([], ()), false))))))))) (br (a1.1 == 1) (gd (decide (ByteArray.empty.size + a1.2.2.1.size ≤ A3)) (bd (G6 k a0 (a1.2.1, (ByteArray.empty ++ a1.2.2.1), 0, ())) fun r14 => (bd (F5 k r14) fun r15 => (br (!r15) (some (([], ()), false)) (some (r14, true)))))) (br (decide (r3 < 0)) (some (([], ()), false)) (br (a1.1 == 2) (bd (G6 k a0 (a1.2.1, ByteArray.empty, (ByteArray.empty.size : Int), ())) fun r16 => (bd (F5 k r16) fun r17 => (br (!r17) (some (([], ()), false)) (some (r16, true))))) (br (a1.1 == 3) (br (decide (0 < (ByteArray.empty.size : Int))) (some (([], ()), false)) (br (a1.2.2.2.1.toList == a1.2.1.toList) (some (([], ()), false)) (bd (Q1 k a1.2.2.2.1) fun r18 => (br (!r18) (some (([], ()), false)) (bd (F9 k a0 a1.2.1) fun r19 => (bd (G6 k r19 (a1.2.2.2.1, ByteArray.empty, 0, ())) fun r20 => (bd (F5 k r20) fun r21 => (br (!r21) (some (([], ()), false)) (some (r20, true)))))))))) (br (a1.1 == 4) (bd (F9 k a0 a1.2.1) fun r22 => (bd (F5 k r22) fun r23 => (br (!r23) (some (([], ()), false)) (some (r22, true))))) (some (([], ()), false)))))))))) (bd (Bf6 k a0 a1.2.1) fun r24 => (br (decide (r24 ≥ 0)) (gd (decide (0 ≤ r24)) (gd (decide (r24 < (a0.1.length : Int))) (br (a1.1 == 1) (gd (decide ((rd B0 a0.1 r24.toNat).2.1.size + a1.2.2.1.size ≤ A3)) (bd (G6 k a0 ((rd B0 a0.1 r24.toNat).1, ((rd B0 a0.1 r24.toNat).2.1 ++ a1.2.2.1), (rd B0 a0.1 r24.toNat).2.2)) fun r25 => (bd (F5 k r25) fun r26 => (br (!r26) (some (([], ()), false)) (some (r25, true)))))) (br (decide (r24 < 0)) (some (([], ()), false)) (br (a1.1 == 2) (bd (G6 k a0 ((rd B0 a0.1 r24.toNat).1, (rd B0 a0.1 r24.toNat).2.1, (((rd B0 a0.1 r24.toNat).2.1.size : Nat) : Int), ())) fun r27 => (bd (F5 k r27) fun r28 => (br (!r28) (some (([], ()), false)) (some (r27, true))))) (br (a1.1 == 3) (br (decide ((rd B0 a0.1 r24.toNat).2.2.1 < (((rd B0 a0.1 r24.toNat).2.1.size : Nat) : Int))) (some (([], ()), false)) (br (a1.2.2.2.1.toList == a1.2.1.toList) (some (([], ()), false)) (bd (Q1 k a1.2.2.2.1) fun r29 => (br (!r29) (some (([], ()), false)) (bd (F9 k a0 a1.2.1) fun r30 => (bd (G6 k r30 (a1.2.2.2.1, (rd B0 a0.1 r24.toNat).2)) fun r31 => (bd (F5 k r31) fun r32 => (br (!r32) (some (([], ()), false)) (some (r31, true)))))))))) (br (a1.1 == 4) (bd (F9 k a0 a1.2.1) fun r33 => (bd (F5 k r33) fun r34 => (br (!r34) (some (([], ()), false)) (some (r33, true))))) (some (([], ()), false))))))))) (br (a1.1 == 1) (gd (decide (ByteArray.empty.size + a1.2.2.1.size ≤ A3)) (bd (G6 k a0 (a1.2.1, (ByteArray.empty ++ a1.2.2.1), 0, ())) fun r35 => (bd (F5 k r35) fun r36 => (br (!r36) (some (([], ()), false)) (some (r35, true)))))) (br (decide (r24 < 0)) (some (([], ()), false)) (br (a1.1 == 2) (bd (G6 k a0 (a1.2.1, ByteArray.empty, (ByteArray.empty.size : Int), ())) fun r37 => (bd (F5 k r37) fun r38 => (br (!r38) (some (([], ()), false)) (some (r37, true))))) (br (a1.1 == 3) (br (decide (0 < (ByteArray.empty.size : Int))) (some (([], ()), false)) (br (a1.2.2.2.1.toList == a1.2.1.toList) (some (([], ()), false)) (bd (Q1 k a1.2.2.2.1) fun r39 => (br (!r39) (some (([], ()), false)) (bd (F9 k a0 a1.2.1) fun r40 => (bd (G6 k r40 (a1.2.2.2.1, ByteArray.empty, 0, ())) fun r41 => (bd (F5 k r41) fun r42 => (br (!r42) (some (([], ()), false)) (some (r41, true)))))))))) (br (a1.1 == 4) (bd (F9 k a0 a1.2.1) fun r43 => (bd (F5 k r43) fun r44 => (br (!r44) (some (([], ()), false)) (some (r43, true))))) (some (([], ()), false))))))))))) (br (a1.1 != 1) (br (!(a1.2.2.1.toList == (⟨#[]⟩ : ByteArray).toList)) (some (([], ()), false)) (bd (Bf6 k a0 a1.2.1) fun r45 => (br (decide (r45 ≥ 0)) (gd (decide (0 ≤ r45)) (gd (decide (r45 < (a0.1.length : Int))) (br (a1.1 == 1) (gd (decide ((rd B0 a0.1 r45.toNat).2.1.size + a1.2.2.1.size ≤ A3)) (bd (G6 k a0 ((rd B0 a0.1 r45.toNat).1, ((rd B0 a0.1 r45.toNat).2.1 ++ a1.2.2.1), (rd B0 a0.1 r45.toNat).2.2)) fun r46 => (bd (F5 k r46) fun r47 => (br (!r47) (some (([], ()), false)) (some (r46, true)))))) (br (decide (r45 < 0)) (some (([], ()), false)) (br (a1.1 == 2) (bd (G6 k a0 ((rd B0 a0.1 r45.toNat).1, (rd B0 a0.1 r45.toNat).2.1, (((rd B0 a0.1 r45.toNat).2.1.size : Nat) : Int), ())) fun r48 => (bd (F5 k r48) fun r49 => (br (!r49) (some (([], ()), false)) (some (r48, true))))) (br (a1.1 == 3) (br (decide ((rd B0 a0.1 r45.toNat).2.2.1 < (((rd B0 a0.1 r45.toNat).2.1.size : Nat) : Int))) (some (([], ()), false)) (br (a1.2.2.2.1.toList == a1.2.1.toList) (some (([], ()), false)) (bd (Q1 k a1.2.2.2.1) fun r50 => (br (!r50) (some (([], ()), false)) (bd (F9 k a0 a1.2.1) fun r51 => (bd (G6 k r51 (a1.2.2.2.1, (rd B0 a0.1 r45.toNat).2)) fun r52 => (bd (F5 k r52) fun r53 => (br (!r53) (some (([], ()), false)) (some (r52, true)))))))))) (br (a1.1 == 4) (bd (F9 k a0 a1.2.1) fun r54 => (bd (F5 k r54) fun r55 => (br (!r55) (some (([], ()), false)) (some (r54, true))))) (some (([], ()), false))))))))) (br (a1.1 == 1) (gd (decide (ByteArray.empty.size + a1.2.2.1.size ≤ A3)) (bd (G6 k a0 (a1.2.1, (ByteArray.empty ++ a1.2.2.1), 0, ())) fun r56 => (bd (F5 k r56) fun r57 => (br (!r57) (some (([], ()), false)) (some (r56, true)))))) (br (decide (r45 < 0)) (some (([], ()), false)) (br (a1.1 == 2) (bd (G6 k a0 (a1.2.1, ByteArray.empty, (ByteArray.empty.size : Int), ())) fun r58 => (bd (F5 k r58) fun r59 => (br (!r59) (some (([], ()), false)) (some (r58, true))))) (br (a1.1 == 3) (br (decide (0 < (ByteArray.empty.size : Int))) (some (([], ()), false)) (br (a1.2.2.2.1.toList == a1.2.1.toList) (some (([], ()), false)) (bd (Q1 k a1.2.2.2.1) fun r60 => (br (!r60) (some (([], ()), false)) (bd (F9 k a0 a1.2.1) fun r61 => (bd (G6 k r61 (a1.2.2.2.1, ByteArray.empty, 0, ())) fun r62 => (bd (F5 k r62) fun r63 => (br (!r63) (some (([], ()), false)) (some (r62, true)))))))))) (br (a1.1 == 4) (bd (F9 k a0 a1.2.1) fun r64 => (bd (F5 k r64) fun r65 => (br (!r65) (some (([], ()), false)) (some (r64, true))))) (some (([], ()), false)))))))))) (bd (Bf6 k a0 a1.2.1) fun r66 => (br (decide (r66 ≥ 0)) (gd (decide (0 ≤ r66)) (gd (decide (r66 < (a0.1.length : Int))) (br (a1.1 == 1) (gd (decide ((rd B0 a0.1 r66.toNat).2.1.size + a1.2.2.1.size ≤ A3)) (bd (G6 k a0 ((rd B0 a0.1 r66.toNat).1, ((rd B0 a0.1 r66.toNat).2.1 ++ a1.2.2.1), (rd B0 a0.1 r66.toNat).2.2)) fun r67 => (bd (F5 k r67) fun r68 => (br (!r68) (some (([], ()), false)) (some (r67, true)))))) (br (decide (r66 < 0)) (some (([], ()), false)) (br (a1.1 == 2) (bd (G6 k a0 ((rd B0 a0.1 r66.toNat).1, (rd B0 a0.1 r66.toNat).2.1, (((rd B0 a0.1 r66.toNat).2.1.size : Nat) : Int), ())) fun r69 => (bd (F5 k r69) fun r70 => (br (!r70) (some (([], ()), false)) (some (r69, true))))) (br (a1.1 == 3) (br (decide ((rd B0 a0.1 r66.toNat).2.2.1 < (((rd B0 a0.1 r66.toNat).2.1.size : Nat) : Int))) (some (([], ()), false)) (br (a1.2.2.2.1.toList == a1.2.1.toList) (some (([], ()), false)) (bd (Q1 k a1.2.2.2.1) fun r71 => (br (!r71) (some (([], ()), false)) (bd (F9 k a0 a1.2.1) fun r72 => (bd (G6 k r72 (a1.2.2.2.1, (rd B0 a0.1 r66.toNat).2)) fun r73 => (bd (F5 k r73) fun r74 => (br (!r74) (some (([], ()), false)) (some (r73, true)))))))))) (br (a1.1 == 4) (bd (F9 k a0 a1.2.1) fun r75 => (bd (F5 k r75) fun r76 => (br (!r76) (some (([], ()), false)) (some (r75, true))))) (some (([], ()), false))))))))) (br (a1.1 == 1) (gd (decide (ByteArray.empty.size + a1.2.2.1.size ≤ A3)) (bd (G6 k a0 (a1.2.1, (ByteArray.empty ++ a1.2.2.1), 0, ())) fun r77 => (bd (F5 k r77) fun r78 => (br (!r78) (some (([], ()), false)) (some (r77, true)))))) (br (decide (r66 < 0)) (some (([], ()), false)) (br (a1.1 == 2) (bd (G6 k a0 (a1.2.1, ByteArray.empty, (ByteArray.empty.size : Int), ())) fun r79 => (bd (F5 k r79) fun r80 => (br (!r80) (some (([], ()), false)) (some (r79, true))))) (br (a1.1 == 3) (br (decide (0 < (ByteArray.empty.size : Int))) (some (([], ()), false)) (br (a1.2.2.2.1.toList == a1.2.1.toList) (some (([], ()), false)) (bd (Q1 k a1.2.2.2.1) fun r81 => (br (!r81) (some (([], ()), false)) (bd (F9 k a0 a1.2.1) fun r82 => (bd (G6 k r82 (a1.2.2.2.1, ByteArray.empty, 0, ())) fun r83 => (bd (F5 k r83) fun r84 => (br (!r84) (some (([], ()), false)) (some (r83, true)))))))))) (br (a1.1 == 4) (bd (F9 k a0 a1.2.1) fun r85 => (bd (F5 k r85) fun r86 => (br (!r86) (some (([], ()), false)) (some (r85, true))))) (some (([], ()), false)))))))))))))))
noncomputable section
def Bf7 (k : Nat) (L0 : List I3 → Int → List B4 → Option (B9 × Int)) (a1 : List I3) (v1 : Int) (xs2 : List B4) : Option (B9 × Int) := (br (decide (v1 < (a1.length : Int))) (gd (decide (0 ≤ v1)) (gd (decide (v1 < (a1.length : Int))) (bd (Y2 k (xs2, ()) (rd Ha1 a1 v1.toNat)) fun r1 => (br (!r1.2) (some ((xs2, ()), v1)) (L0 a1 (B5 (v1 + 1)) r1.1.1))))) (some ((xs2, ()), (a1.length : Int))))
def c8 (k : Nat) : Nat → List I3 → Int → List B4 → Option (B9 × Int)
 | 0, _, _, _ => none
 | n + 1, a1, v1, xs2 => Bf7 k (c8 k n) a1 v1 xs2
def Dj7 (k : Nat) (L0 : List I3 → Int → List B4 → Option (B9 × Int)) (a0 : B9) (a1 : List I3) : Option (B9 × Int) := (gd (decide (([] : List B4).length + a0.1.length ≤ A3)) (L0 a1 0 (([] : List B4) ++ a0.1)))
def B40 (k : Nat) (a0 : B9) (a1 : List I3) : Option (B9 × Int) := Dj7 k (c8 k k) a0 a1
end
def Ab8 (k : Nat) (a0 : A9) : Option (Int × A9 × Unit) := (br (decide (a0.2.1 < (a0.1.length : Int))) (gd (decide (0 ≤ a0.2.1)) (gd (decide (a0.2.1 < (a0.1.length : Int))) (some ((Fo7 .i64 (B5 ((Fo7 .i64 (Gf7 .i64 (Int.fdiv (B5 ((B5 (a0.2.2.1 * 6364136223846793005)) + 1442695040888963407)) (2 ^ 33)) (Int.fdiv (B5 ((B5 (a0.2.2.1 * 6364136223846793005)) + 1442695040888963407)) (2 ^ 45))) 255) + (B5 (rd 0 a0.1 a0.2.1.toNat)))) 255), (a0.1, (B5 (a0.2.1 + 1)), (B5 ((B5 (a0.2.2.1 * 6364136223846793005)) + 1442695040888963407)), ()), ())))) (some ((Fo7 .i64 (Gf7 .i64 (Int.fdiv (B5 ((B5 (a0.2.2.1 * 6364136223846793005)) + 1442695040888963407)) (2 ^ 33)) (Int.fdiv (B5 ((B5 (a0.2.2.1 * 6364136223846793005)) + 1442695040888963407)) (2 ^ 45))) 255), (a0.1, a0.2.1, (B5 ((B5 (a0.2.2.1 * 6364136223846793005)) + 1442695040888963407)), ()), ())))
def C7 (k : Nat) (a0 : A9) (a1 : Int) : Option (Int × A9 × Unit) := (br (decide (a1 ≤ 0)) (some (0, a0, ())) (br (decide (a1 ≤ 256)) (bd (Ab8 k a0) fun r1 => (ng (r1.1 == r1.1 && (a1 : Int) == 0) (some ((Int.tmod r1.1 a1), r1.2.1, ())))) (bd (Ab8 k a0) fun r2 => (bd (Ab8 k r2.2.1) fun r3 => (bd (Ab8 k r3.2.1) fun r4 => (bd (Ab8 k r4.2.1) fun r5 => (ng ((B5 ((B5 ((B5 ((B5 (r2.1 * 16777216)) + (B5 (r3.1 * 65536)))) + (B5 (r4.1 * 256)))) + r5.1)) == (B5 ((B5 ((B5 ((B5 (r2.1 * 16777216)) + (B5 (r3.1 * 65536)))) + (B5 (r4.1 * 256)))) + r5.1)) && (a1 : Int) == 0) (some ((Int.tmod (B5 ((B5 ((B5 ((B5 (r2.1 * 16777216)) + (B5 (r3.1 * 65536)))) + (B5 (r4.1 * 256)))) + r5.1)) a1), r5.2.1, ())))))))))
noncomputable section
def Bf8 (k : Nat) (L0 : Int → List Int → Option ByteArray) (a0 : Int) (xs1 : List Int) : Option ByteArray := (br (decide (a0 > 127)) (ng (a0 == a0 && (128 : Int) == 0) (gd (decide (xs1.length + [(IntKind.wrap .u8 (B5 ((Int.tmod a0 128) + 128)))].length ≤ A3)) (ng (a0 == a0 && (128 : Int) == 0) (L0 (B5 (Int.tdiv a0 128)) (xs1 ++ [(IntKind.wrap .u8 (B5 ((Int.tmod a0 128) + 128)))]))))) (gd (decide (xs1.length + [(IntKind.wrap .u8 a0)].length ≤ A3)) (some (B6 (xs1 ++ [(IntKind.wrap .u8 a0)])))))
def s9 (k : Nat) : Nat → Int → List Int → Option ByteArray
 | 0, _, _ => none
 | n + 1, a0, xs1 => Bf8 k (s9 k n) a0 xs1
def Cl4 (k : Nat) (L0 : Int → List Int → Option ByteArray) (a0 : Int) : Option ByteArray := (L0 a0 [])
def L9 (k : Nat) (a0 : Int) : Option ByteArray := Cl4 k (s9 k k) a0
end
noncomputable section
def Ak9 (k : Nat) (L0 : List Int → Int → Option Bool) (a0 : List Int) (v1 : Int) : Option Bool := (br (decide (v1 < (a0.length : Int))) (gd (decide (0 ≤ v1)) (gd (decide (v1 < (a0.length : Int))) (bd (D9 k (rd 0 a0 v1.toNat) 0 100) fun r1 => (br (!r1) (some false) (L0 a0 (B5 (v1 + 1))))))) (some ((a0.length : Int) == 5)))
def S8 (k : Nat) : Nat → List Int → Int → Option Bool
 | 0, _, _ => none
 | n + 1, a0, v1 => Ak9 k (S8 k n) a0 v1
def Cg3 (k : Nat) (L0 : List Int → Int → Option Bool) (a0 : List Int) : Option Bool := (L0 a0 0)
def U5 (k : Nat) (a0 : List Int) : Option Bool := Cg3 k (S8 k k) a0
end
def U2 (k : Nat) (a0 : A0) : Option Bool := (bd (D9 k a0.2.1 1 5) fun r1 => (br (!r1) (some false) (bd (D9 k a0.2.2.1 1 5) fun r2 => (br (!r2) (some false) (br (a0.2.1 == 2) (bd (D9 k a0.2.2.2.1 1 5) fun r3 => (br (!r3) (some false) (bd (D9 k a0.2.2.2.2.1 0 3) fun r4 => (br (!r4) (some false) (br (a0.2.1 != 2) (br (a0.2.2.2.1 != 0) (some false) (br (a0.2.2.2.2.1 != 0) (some false) (br (a0.2.1 == 3) (bd (U5 k a0.2.2.2.2.2.1) fun r5 => (br (!r5) (some false) (br (a0.2.1 != 3) (br (decide ((a0.2.2.2.2.2.1.length : Int) > 0)) (some false) (br (a0.2.1 == 4) (some (decide ((a0.2.2.2.2.2.2.1.size : Int) ≤ 24))) (br (a0.2.1 == 5) (some (decide ((a0.2.2.2.2.2.2.1.size : Int) ≤ 24))) (some (a0.2.2.2.2.2.2.1.toList == (⟨#[]⟩ : ByteArray).toList))))) (br (a0.2.1 == 4) (some (decide ((a0.2.2.2.2.2.2.1.size : Int) ≤ 24))) (br (a0.2.1 == 5) (some (decide ((a0.2.2.2.2.2.2.1.size : Int) ≤ 24))) (some (a0.2.2.2.2.2.2.1.toList == (⟨#[]⟩ : ByteArray).toList))))))) (br (a0.2.1 != 3) (br (decide ((a0.2.2.2.2.2.1.length : Int) > 0)) (some false) (br (a0.2.1 == 4) (some (decide ((a0.2.2.2.2.2.2.1.size : Int) ≤ 24))) (br (a0.2.1 == 5) (some (decide ((a0.2.2.2.2.2.2.1.size : Int) ≤ 24))) (some (a0.2.2.2.2.2.2.1.toList == (⟨#[]⟩ : ByteArray).toList))))) (br (a0.2.1 == 4) (some (decide ((a0.2.2.2.2.2.2.1.size : Int) ≤ 24))) (br (a0.2.1 == 5) (some (decide ((a0.2.2.2.2.2.2.1.size : Int) ≤ 24))) (some (a0.2.2.2.2.2.2.1.toList == (⟨#[]⟩ : ByteArray).toList)))))))) (br (a0.2.1 == 3) (bd (U5 k a0.2.2.2.2.2.1) fun r6 => (br (!r6) (some false) (br (a0.2.1 != 3) (br (decide ((a0.2.2.2.2.2.1.length : Int) > 0)) (some false) (br (a0.2.1 == 4) (some (decide ((a0.2.2.2.2.2.2.1.size : Int) ≤ 24))) (br (a0.2.1 == 5) (some (decide ((a0.2.2.2.2.2.2.1.size : Int) ≤ 24))) (some (a0.2.2.2.2.2.2.1.toList == (⟨#[]⟩ : ByteArray).toList))))) (br (a0.2.1 == 4) (some (decide ((a0.2.2.2.2.2.2.1.size : Int) ≤ 24))) (br (a0.2.1 == 5) (some (decide ((a0.2.2.2.2.2.2.1.size : Int) ≤ 24))) (some (a0.2.2.2.2.2.2.1.toList == (⟨#[]⟩ : ByteArray).toList))))))) (br (a0.2.1 != 3) (br (decide ((a0.2.2.2.2.2.1.length : Int) > 0)) (some false) (br (a0.2.1 == 4) (some (decide ((a0.2.2.2.2.2.2.1.size : Int) ≤ 24))) (br (a0.2.1 == 5) (some (decide ((a0.2.2.2.2.2.2.1.size : Int) ≤ 24))) (some (a0.2.2.2.2.2.2.1.toList == (⟨#[]⟩ : ByteArray).toList))))) (br (a0.2.1 == 4) (some (decide ((a0.2.2.2.2.2.2.1.size : Int) ≤ 24))) (br (a0.2.1 == 5) (some (decide ((a0.2.2.2.2.2.2.1.size : Int) ≤ 24))) (some (a0.2.2.2.2.2.2.1.toList == (⟨#[]⟩ : ByteArray).toList))))))))))) (br (a0.2.1 != 2) (br (a0.2.2.2.1 != 0) (some false) (br (a0.2.2.2.2.1 != 0) (some false) (br (a0.2.1 == 3) (bd (U5 k a0.2.2.2.2.2.1) fun r7 => (br (!r7) (some false) (br (a0.2.1 != 3) (br (decide ((a0.2.2.2.2.2.1.length : Int) > 0)) (some false) (br (a0.2.1 == 4) (some (decide ((a0.2.2.2.2.2.2.1.size : Int) ≤ 24))) (br (a0.2.1 == 5) (some (decide ((a0.2.2.2.2.2.2.1.size : Int) ≤ 24))) (some (a0.2.2.2.2.2.2.1.toList == (⟨#[]⟩ : ByteArray).toList))))) (br (a0.2.1 == 4) (some (decide ((a0.2.2.2.2.2.2.1.size : Int) ≤ 24))) (br (a0.2.1 == 5) (some (decide ((a0.2.2.2.2.2.2.1.size : Int) ≤ 24))) (some (a0.2.2.2.2.2.2.1.toList == (⟨#[]⟩ : ByteArray).toList))))))) (br (a0.2.1 != 3) (br (decide ((a0.2.2.2.2.2.1.length : Int) > 0)) (some false) (br (a0.2.1 == 4) (some (decide ((a0.2.2.2.2.2.2.1.size : Int) ≤ 24))) (br (a0.2.1 == 5) (some (decide ((a0.2.2.2.2.2.2.1.size : Int) ≤ 24))) (some (a0.2.2.2.2.2.2.1.toList == (⟨#[]⟩ : ByteArray).toList))))) (br (a0.2.1 == 4) (some (decide ((a0.2.2.2.2.2.2.1.size : Int) ≤ 24))) (br (a0.2.1 == 5) (some (decide ((a0.2.2.2.2.2.2.1.size : Int) ≤ 24))) (some (a0.2.2.2.2.2.2.1.toList == (⟨#[]⟩ : ByteArray).toList)))))))) (br (a0.2.1 == 3) (bd (U5 k a0.2.2.2.2.2.1) fun r8 => (br (!r8) (some false) (br (a0.2.1 != 3) (br (decide ((a0.2.2.2.2.2.1.length : Int) > 0)) (some false) (br (a0.2.1 == 4) (some (decide ((a0.2.2.2.2.2.2.1.size : Int) ≤ 24))) (br (a0.2.1 == 5) (some (decide ((a0.2.2.2.2.2.2.1.size : Int) ≤ 24))) (some (a0.2.2.2.2.2.2.1.toList == (⟨#[]⟩ : ByteArray).toList))))) (br (a0.2.1 == 4) (some (decide ((a0.2.2.2.2.2.2.1.size : Int) ≤ 24))) (br (a0.2.1 == 5) (some (decide ((a0.2.2.2.2.2.2.1.size : Int) ≤ 24))) (some (a0.2.2.2.2.2.2.1.toList == (⟨#[]⟩ : ByteArray).toList))))))) (br (a0.2.1 != 3) (br (decide ((a0.2.2.2.2.2.1.length : Int) > 0)) (some false) (br (a0.2.1 == 4) (some (decide ((a0.2.2.2.2.2.2.1.size : Int) ≤ 24))) (br (a0.2.1 == 5) (some (decide ((a0.2.2.2.2.2.2.1.size : Int) ≤ 24))) (some (a0.2.2.2.2.2.2.1.toList == (⟨#[]⟩ : ByteArray).toList))))) (br (a0.2.1 == 4) (some (decide ((a0.2.2.2.2.2.2.1.size : Int) ≤ 24))) (br (a0.2.1 == 5) (some (decide ((a0.2.2.2.2.2.2.1.size : Int) ≤ 24))) (some (a0.2.2.2.2.2.2.1.toList == (⟨#[]⟩ : ByteArray).toList))))))))))))
noncomputable section
def A32 (k : Nat) (L0 : Int → A0 → Option Bool) (v1 : Int) (a0 : A0) : Option Bool := (br (decide (v1 < (a0.2.2.2.2.2.2.2.1.length : Int))) (gd (decide (0 ≤ v1)) (gd (decide (v1 < (a0.2.2.2.2.2.2.2.1.length : Int))) (bd (D9 k (rd 0 a0.2.2.2.2.2.2.2.1 v1.toNat) 1 1000000) fun r4 => (br (!r4) (some false) (gd (decide (0 ≤ v1)) (gd (decide (v1 < (a0.2.2.2.2.2.2.2.1.length : Int))) (br ((rd 0 a0.2.2.2.2.2.2.2.1 v1.toNat) == a0.1) (some false) (br (decide (v1 > 0)) (gd (decide (0 ≤ (B5 (v1 - 1)))) (gd (decide ((B5 (v1 - 1)) < (a0.2.2.2.2.2.2.2.1.length : Int))) (gd (decide (0 ≤ v1)) (gd (decide (v1 < (a0.2.2.2.2.2.2.2.1.length : Int))) (br (decide ((rd 0 a0.2.2.2.2.2.2.2.1 (B5 (v1 - 1)).toNat) ≥ (rd 0 a0.2.2.2.2.2.2.2.1 v1.toNat))) (some false) (L0 (B5 (v1 + 1)) a0)))))) (L0 (B5 (v1 + 1)) a0))))))))) (some true))
def Q9 (k : Nat) : Nat → Int → A0 → Option Bool
 | 0, _, _ => none
 | n + 1, v1, a0 => A32 k (Q9 k n) v1 a0
def B41 (k : Nat) (L0 : Int → A0 → Option Bool) (a0 : A0) : Option Bool := (bd (U2 k a0) fun r1 => (br (!r1) (some false) (bd (D9 k a0.1 1 1000000) fun r2 => (br (!r2) (some false) (bd (D9 k a0.2.2.2.2.2.2.2.2.1 0 1000000) fun r3 => (br (!r3) (some false) (br (decide ((a0.2.2.2.2.2.2.2.1.length : Int) > 3)) (some false) (br (!((a0.2.1 == 1) == ((a0.2.2.2.2.2.2.2.1.length : Int) == 0))) (some false) (L0 0 a0)))))))))
def I9 (k : Nat) (a0 : A0) : Option Bool := B41 k (Q9 k k) a0
end
noncomputable section
def Bf9 (k : Nat) (L0 : Int → Int → A6 → Option Int) (a1 : Int) (v1 : Int) (a0 : A6) : Option Int := (br (decide (v1 < (a0.1.length : Int))) (gd (decide (0 ≤ v1)) (gd (decide (v1 < (a0.1.length : Int))) (br ((rd D2 a0.1 v1.toNat).1 == a1) (some v1) (L0 a1 (B5 (v1 + 1)) a0)))) (some (-1)))
def t6 (k : Nat) : Nat → Int → Int → A6 → Option Int
 | 0, _, _, _ => none
 | n + 1, a1, v1, a0 => Bf9 k (t6 k n) a1 v1 a0
def Dj8 (k : Nat) (L0 : Int → Int → A6 → Option Int) (a0 : A6) (a1 : Int) : Option Int := (L0 a1 0 a0)
def A90 (k : Nat) (a0 : A6) (a1 : Int) : Option Int := Dj8 k (t6 k k) a0 a1
end
noncomputable section
def Bt0 (k : Nat) (L0 : List Int → Int → Int → A6 → Option Int) (a1 : List Int) (v1 : Int) (v2 : Int) (a0 : A6) : Option Int := (br (decide (v2 < (a1.length : Int))) (gd (decide (0 ≤ v2)) (gd (decide (v2 < (a1.length : Int))) (bd (A90 k a0 (rd 0 a1 v2.toNat)) fun r1 => (br (decide (r1 ≥ 0)) (gd (decide (0 ≤ r1)) (gd (decide (r1 < (a0.1.length : Int))) (br (decide ((rd D2 a0.1 r1.toNat).2.2.2.2.2.2.2.2.1 > v1)) (gd (decide (0 ≤ r1)) (gd (decide (r1 < (a0.1.length : Int))) (L0 a1 (rd D2 a0.1 r1.toNat).2.2.2.2.2.2.2.2.1 (B5 (v2 + 1)) a0))) (L0 a1 v1 (B5 (v2 + 1)) a0)))) (L0 a1 v1 (B5 (v2 + 1)) a0))))) (br (decide (v1 > 1000000)) (some 1000001) (some (B5 (v1 + 1)))))
def g6 (k : Nat) : Nat → List Int → Int → Int → A6 → Option Int
 | 0, _, _, _, _ => none
 | n + 1, a1, v1, v2, a0 => Bt0 k (g6 k n) a1 v1 v2 a0
def C48 (k : Nat) (L0 : List Int → Int → Int → A6 → Option Int) (a0 : A6) (a1 : List Int) : Option Int := (L0 a1 (-1) 0 a0)
def J0 (k : Nat) (a0 : A6) (a1 : List Int) : Option Int := C48 k (g6 k k) a0 a1
end
noncomputable section
def A33 (k : Nat) (L0 : List A0 → Int → Int → Option (A0 × Bool)) (a0 : List A0) (a1 : Int) (v1 : Int) : Option (A0 × Bool) := (br (decide (v1 < (a0.length : Int))) (gd (decide (0 ≤ v1)) (gd (decide (v1 < (a0.length : Int))) (br ((rd D2 a0 v1.toNat).1 == a1) (gd (decide (0 ≤ v1)) (gd (decide (v1 < (a0.length : Int))) (some ((rd D2 a0 v1.toNat), true)))) (L0 a0 a1 (B5 (v1 + 1)))))) (some ((0, 0, 0, 0, 0, [], ByteArray.empty, [], 0, ()), false)))
def g7 (k : Nat) : Nat → List A0 → Int → Int → Option (A0 × Bool)
 | 0, _, _, _ => none
 | n + 1, a0, a1, v1 => A33 k (g7 k n) a0 a1 v1
def C49 (k : Nat) (L0 : List A0 → Int → Int → Option (A0 × Bool)) (a0 : List A0) (a1 : Int) : Option (A0 × Bool) := (L0 a0 a1 0)
def L7 (k : Nat) (a0 : List A0) (a1 : Int) : Option (A0 × Bool) := C49 k (g7 k k) a0 a1
end
noncomputable section
def Df9 (k : Nat) (L0 : List A1 → Int → Int → Option Int) (a0 : List A1) (a1 : Int) (v1 : Int) : Option Int := (br (decide (v1 < (a0.length : Int))) (gd (decide (0 ≤ v1)) (gd (decide (v1 < (a0.length : Int))) (br ((rd I4 a0 v1.toNat).1 == a1) (gd (decide (0 ≤ v1)) (gd (decide (v1 < (a0.length : Int))) (some (rd I4 a0 v1.toNat).2.1))) (L0 a0 a1 (B5 (v1 + 1)))))) (some 0))
def Bt1 (k : Nat) : Nat → List A1 → Int → Int → Option Int
 | 0, _, _, _ => none
 | n + 1, a0, a1, v1 => Df9 k (Bt1 k n) a0 a1 v1
def Gu3 (k : Nat) (L0 : List A1 → Int → Int → Option Int) (a0 : List A1) (a1 : Int) : Option Int := (L0 a0 a1 0)
def Ce2 (k : Nat) (a0 : List A1) (a1 : Int) : Option Int := Gu3 k (Bt1 k k) a0 a1
end
def Q5 (k : Nat) (a0 : List A0) (a1 : List A1) (a2 : Int) : Option Int := (bd (D9 k a2 1 5) fun r1 => (br (!r1) (some 0) (bd (Ce2 k a1 (B5 (10 + a2))) fun r2 => (bd (L7 k a0 r2) fun r3 => (br (!r3.2) (some 0) (br (r3.1.2.1 != 2) (some 0) (br (r3.1.2.2.2.1 != a2) (some 0) (some r3.1.2.2.2.2.1))))))))
def U3 (k : Nat) (a0 : List A0) (a1 : List A1) (a2 : Int) : Option Int := (bd (D9 k a2 1 5) fun r1 => (br (!r1) (some 0) (bd (Ce2 k a1 2) fun r2 => (bd (L7 k a0 r2) fun r3 => (br r3.2 (br (r3.1.2.1 == 3) (br ((r3.1.2.2.2.2.2.1.length : Int) == 5) (gd (decide (0 ≤ (B5 (a2 - 1)))) (gd (decide ((B5 (a2 - 1)) < (r3.1.2.2.2.2.2.1.length : Int))) (some (rd 0 r3.1.2.2.2.2.2.1 (B5 (a2 - 1)).toNat)))) (bd (Ce2 k a1 1) fun r4 => (bd (L7 k a0 r4) fun r5 => (br r5.2 (br (r5.1.2.1 == 1) (br (r5.1.2.2.1 == a2) (some 100) (some 0)) (some 0)) (some 0))))) (bd (Ce2 k a1 1) fun r6 => (bd (L7 k a0 r6) fun r7 => (br r7.2 (br (r7.1.2.1 == 1) (br (r7.1.2.2.1 == a2) (some 100) (some 0)) (some 0)) (some 0))))) (bd (Ce2 k a1 1) fun r8 => (bd (L7 k a0 r8) fun r9 => (br r9.2 (br (r9.1.2.1 == 1) (br (r9.1.2.2.1 == a2) (some 100) (some 0)) (some 0)) (some 0)))))))))
noncomputable section
def Av2 (k : Nat) (L0 : List A1 → Int → Option Bool) (a0 : List A1) (v1 : Int) : Option Bool := (br (decide (v1 < (a0.length : Int))) (gd (decide (0 ≤ v1)) (gd (decide (v1 < (a0.length : Int))) (br (decide ((rd I4 a0 v1.toNat).1 > 10)) (some false) (L0 a0 (B5 (v1 + 1)))))) (some true))
def W5 (k : Nat) : Nat → List A1 → Int → Option Bool
 | 0, _, _ => none
 | n + 1, a0, v1 => Av2 k (W5 k n) a0 v1
def Cq4 (k : Nat) (L0 : List A1 → Int → Option Bool) (a0 : List A1) : Option Bool := (L0 a0 0)
def A91 (k : Nat) (a0 : List A1) : Option Bool := Cq4 k (W5 k k) a0
end
def Bn9 (k : Nat) (a0 : List A0) (a1 : List A1) (a2 : A0) : Option Bool := (bd (Q5 k a0 a1 a2.2.2.2.1) fun r1 => (br (a2.2.2.2.2.1 == 2) (bd (Ce2 k a1 1) fun r2 => (bd (L7 k a0 r2) fun r3 => (br r3.2 (br (r3.1.2.2.1 == a2.2.2.1) (bd (A91 k a1) fun r4 => (br (r1 == 1) (some true) (br (r1 == 2) (some true) (some r4)))) (br (r1 == 1) (some true) (br (r1 == 2) (some true) (some false)))) (br (r1 == 1) (some true) (br (r1 == 2) (some true) (some false)))))) (br (a2.2.2.2.2.1 == 0) (br (r1 == 1) (some true) (some (r1 == 2))) (some false))))
def Ai8 (k : Nat) (a0 : List A0) (a1 : List A1) (a2 : A0) : Option Bool := (br (a2.2.2.2.1 == a2.2.2.1) (bd (Bn9 k a0 a1 a2) fun r1 => (some r1)) (bd (Q5 k a0 a1 a2.2.2.2.1) fun r2 => (bd (U3 k a0 a1 a2.2.2.1) fun r3 => (br (decide (r3 ≥ 50)) (bd (U3 k a0 a1 a2.2.2.2.1) fun r4 => (bd (Q5 k a0 a1 a2.2.2.1) fun r5 => (br (r5 != 2) (some false) (br (a2.2.2.2.2.1 == 1) (some (r2 == 0)) (br (a2.2.2.2.2.1 == 0) (br (r2 == 1) (some (decide (r3 > r4))) (br (r2 == 2) (some (decide (r3 > r4))) (some false))) (br (a2.2.2.2.2.1 == 3) (br (r2 != 3) (some (decide (r3 > r4))) (some false)) (some false))))))) (bd (Q5 k a0 a1 a2.2.2.1) fun r6 => (br (r6 != 2) (some false) (br (a2.2.2.2.2.1 == 1) (some (r2 == 0)) (br (a2.2.2.2.2.1 == 0) (br (r2 == 1) (some false) (br (r2 == 2) (some false) (some false))) (br (a2.2.2.2.2.1 == 3) (br (r2 != 3) (some false) (some false)) (some false))))))))))
noncomputable section
def Bi8 (k : Nat) (L0 : List A0 → List A1 → Int → Int → A0 → Option Bool) (a0 : List A0) (a1 : List A1) (r1 : Int) (v1 : Int) (a2 : A0) : Option Bool := (br (decide (v1 ≤ 5)) (bd (U3 k a0 a1 v1) fun r3 => (gd (decide (0 ≤ (B5 (v1 - 1)))) (gd (decide ((B5 (v1 - 1)) < (a2.2.2.2.2.2.1.length : Int))) (br ((rd 0 a2.2.2.2.2.2.1 (B5 (v1 - 1)).toNat) == r3) (L0 a0 a1 r1 (B5 (v1 + 1)) a2) (br (decide ((rd 0 a2.2.2.2.2.2.1 (B5 (v1 - 1)).toNat) > r1)) (some false) (br (decide (r3 ≥ r1)) (br (v1 != a2.2.2.1) (some false) (L0 a0 a1 r1 (B5 (v1 + 1)) a2)) (L0 a0 a1 r1 (B5 (v1 + 1)) a2))))))) (some true))
def R9 (k : Nat) : Nat → List A0 → List A1 → Int → Int → A0 → Option Bool
 | 0, _, _, _, _, _ => none
 | n + 1, a0, a1, r1, v1, a2 => Bi8 k (R9 k n) a0 a1 r1 v1 a2
def Cq5 (k : Nat) (L0 : List A0 → List A1 → Int → Int → A0 → Option Bool) (a0 : List A0) (a1 : List A1) (a2 : A0) : Option Bool := (bd (U3 k a0 a1 a2.2.2.1) fun r1 => (bd (Q5 k a0 a1 a2.2.2.1) fun r2 => (br (r2 != 2) (some false) (br (decide (r1 < 50)) (some false) (L0 a0 a1 r1 1 a2)))))
def A92 (k : Nat) (a0 : List A0) (a1 : List A1) (a2 : A0) : Option Bool := Cq5 k (R9 k k) a0 a1 a2
end
def As3 (k : Nat) (a0 : List A0) (a1 : List A1) (a2 : A0) : Option Bool := (bd (I9 k a2) fun r1 => (br (!r1) (some false) (br (a2.2.1 == 1) (some ((a1.length : Int) == 0)) (bd (Ce2 k a1 1) fun r2 => (bd (L7 k a0 r2) fun r3 => (br (!r3.2) (some false) (br (r3.1.2.1 != 1) (some false) (br (a2.2.1 == 2) (bd (Ai8 k a0 a1 a2) fun r4 => (some r4)) (br (a2.2.1 == 3) (bd (A92 k a0 a1 a2) fun r5 => (some r5)) (br (a2.2.1 == 4) (bd (Q5 k a0 a1 a2.2.2.1) fun r6 => (br (r6 == 2) (bd (U3 k a0 a1 a2.2.2.1) fun r7 => (some (decide (r7 ≥ 50)))) (some false))) (bd (Q5 k a0 a1 a2.2.2.1) fun r8 => (some (r8 == 2)))))))))))))
def A34 (k : Nat) (a0 : A0) : Option Int := (br (a0.2.1 == 1) (some 1) (br (a0.2.1 == 3) (some 2) (br (a0.2.1 == 4) (some 3) (br (a0.2.1 == 2) (bd (D9 k a0.2.2.2.1 1 5) fun r1 => (br r1 (some (B5 (10 + a0.2.2.2.1))) (some 0))) (some 0)))))
def Bo0 (k : Nat) (a0 : Int) : Option Bool := (bd (D9 k a0 1 3) fun r1 => (br r1 (some true) (bd (D9 k a0 11 15) fun r2 => (some r2))))
noncomputable section
def Bt2 (k : Nat) (L0 : List A1 → Int → Option Bool) (a0 : List A1) (v1 : Int) : Option Bool := (br (decide (v1 < (a0.length : Int))) (gd (decide (0 ≤ v1)) (gd (decide (v1 < (a0.length : Int))) (bd (Bo0 k (rd I4 a0 v1.toNat).1) fun r1 => (br (!r1) (some false) (gd (decide (0 ≤ v1)) (gd (decide (v1 < (a0.length : Int))) (bd (D9 k (rd I4 a0 v1.toNat).2.1 1 1000000) fun r2 => (br (!r2) (some false) (br (decide (v1 > 0)) (gd (decide (0 ≤ (B5 (v1 - 1)))) (gd (decide ((B5 (v1 - 1)) < (a0.length : Int))) (gd (decide (0 ≤ v1)) (gd (decide (v1 < (a0.length : Int))) (br (decide ((rd I4 a0 (B5 (v1 - 1)).toNat).1 ≥ (rd I4 a0 v1.toNat).1)) (some false) (L0 a0 (B5 (v1 + 1)))))))) (L0 a0 (B5 (v1 + 1)))))))))))) (some true))
def U6 (k : Nat) : Nat → List A1 → Int → Option Bool
 | 0, _, _ => none
 | n + 1, a0, v1 => Bt2 k (U6 k n) a0 v1
def C50 (k : Nat) (L0 : List A1 → Int → Option Bool) (a0 : List A1) : Option Bool := (br (decide ((a0.length : Int) > 8)) (some false) (L0 a0 0))
def A72 (k : Nat) (a0 : List A1) : Option Bool := C50 k (U6 k k) a0
end
noncomputable section
def Dj9 (k : Nat) (L1 : List A1 → Int → Int → List A1 → Option (List A1)) (a0 : List A1) (a1 : Int) (v3 : Int) (xs4 : List A1) : Option (List A1) := (br (decide (v3 < (a0.length : Int))) (gd (decide (0 ≤ v3)) (gd (decide (v3 < (a0.length : Int))) (br (decide ((rd I4 a0 v3.toNat).1 > a1)) (gd (decide (0 ≤ v3)) (gd (decide (v3 < (a0.length : Int))) (gd (decide (xs4.length + ([(rd I4 a0 v3.toNat)] : List A1).length ≤ A3)) (L1 a0 a1 (B5 (v3 + 1)) (xs4 ++ ([(rd I4 a0 v3.toNat)] : List A1)))))) (L1 a0 a1 (B5 (v3 + 1)) xs4)))) (bd (A72 k a0) fun r1 => (br (!r1) (gd (decide (([] : List A1).length + a0.length ≤ A3)) (some (([] : List A1) ++ a0))) (bd (A72 k xs4) fun r2 => (br (!r2) (gd (decide (([] : List A1).length + a0.length ≤ A3)) (some (([] : List A1) ++ a0))) (some xs4))))))
def Dk0 (k : Nat) (L0 : List A1 → Int → Int → Int → List A1 → Option (List A1)) (L1 : List A1 → Int → Int → List A1 → Option (List A1)) (a0 : List A1) (a1 : Int) (a2 : Int) (v1 : Int) (xs2 : List A1) : Option (List A1) := (br (decide (v1 < (a0.length : Int))) (gd (decide (0 ≤ v1)) (gd (decide (v1 < (a0.length : Int))) (br (decide ((rd I4 a0 v1.toNat).1 < a1)) (gd (decide (0 ≤ v1)) (gd (decide (v1 < (a0.length : Int))) (gd (decide (xs2.length + ([(rd I4 a0 v1.toNat)] : List A1).length ≤ A3)) (L0 a0 a1 a2 (B5 (v1 + 1)) (xs2 ++ ([(rd I4 a0 v1.toNat)] : List A1)))))) (L0 a0 a1 a2 (B5 (v1 + 1)) xs2)))) (gd (decide (xs2.length + ([(a1, a2, ())] : List A1).length ≤ A3)) (L1 a0 a1 0 (xs2 ++ ([(a1, a2, ())] : List A1)))))
def B42 (k : Nat) : Nat → List A1 → Int → Int → List A1 → Option (List A1)
 | 0, _, _, _, _ => none
 | n + 1, a0, a1, v3, xs4 => Dj9 k (B42 k n) a0 a1 v3 xs4
def A93 (k : Nat) : Nat → List A1 → Int → Int → Int → List A1 → Option (List A1)
 | 0, _, _, _, _, _ => none
 | n + 1, a0, a1, a2, v1, xs2 => Dk0 k (A93 k n) (B42 k n) a0 a1 a2 v1 xs2
def Gd1 (k : Nat) (L0 : List A1 → Int → Int → Int → List A1 → Option (List A1)) (a0 : List A1) (a1 : Int) (a2 : Int) : Option (List A1) := (L0 a0 a1 a2 0 ([] : List A1))
def D90 (k : Nat) (a0 : List A1) (a1 : Int) (a2 : Int) : Option (List A1) := Gd1 k (A93 k k) a0 a1 a2
end
noncomputable section
def A35 (k : Nat) (L1 : List (List A1) → Int → Bool → Int → List Int → Option (List Int)) (a0 : List (List A1)) (v1 : Int) (xs2 : List Int) : Option (List Int) := (br (decide (v1 ≤ 15)) (L1 a0 v1 false 0 xs2) (some xs2))
def A36 (k : Nat) (L2 : List (List A1) → Int → Bool → Int → Int → List Int → Option (List Int)) (L0 : List (List A1) → Int → List Int → Option (List Int)) (a0 : List (List A1)) (v1 : Int) (v3 : Bool) (v4 : Int) (xs2 : List Int) : Option (List Int) := (br (decide (v4 < (a0.length : Int))) (L2 a0 v1 v3 v4 0 xs2) (br v3 (gd (decide (xs2.length + [v1].length ≤ A3)) (L0 a0 (B5 (v1 + 1)) (xs2 ++ [v1]))) (L0 a0 (B5 (v1 + 1)) xs2)))
def A37 (k : Nat) (L2 : List (List A1) → Int → Bool → Int → Int → List Int → Option (List Int)) (L1 : List (List A1) → Int → Bool → Int → List Int → Option (List Int)) (a0 : List (List A1)) (v1 : Int) (v5 : Bool) (v4 : Int) (v6 : Int) (xs2 : List Int) : Option (List Int) := (gd (decide (0 ≤ v4)) (gd (decide (v4 < (a0.length : Int))) (br (decide (v6 < (((rd [] a0 v4.toNat).length : Nat) : Int))) (br v5 (L2 a0 v1 true v4 (B5 (v6 + 1)) xs2) (gd (decide (0 ≤ v4)) (gd (decide (v4 < (a0.length : Int))) (gd (decide (0 ≤ v6)) (gd (decide (v6 < (((rd [] a0 v4.toNat).length : Nat) : Int))) (L2 a0 v1 ((rd I4 (rd [] a0 v4.toNat) v6.toNat).1 == v1) v4 (B5 (v6 + 1)) xs2)))))) (L1 a0 v1 v5 (B5 (v4 + 1)) xs2))))
def U7 (k : Nat) : Nat → (List (List A1) → Int → List Int → Option (List Int)) × (List (List A1) → Int → Bool → Int → List Int → Option (List Int)) × (List (List A1) → Int → Bool → Int → Int → List Int → Option (List Int))
 | 0 => (fun _ _ _ => none, fun _ _ _ _ _ => none, fun _ _ _ _ _ _ => none)
 | n + 1 => (A35 k (U7 k n).2.1, A36 k (U7 k n).2.2 (U7 k n).1, A37 k (U7 k n).2.2 (U7 k n).2.1)
def g8 (k : Nat) (n : Nat) : List (List A1) → Int → List Int → Option (List Int) := (U7 k n).1
def Al0 (k : Nat) (n : Nat) : List (List A1) → Int → Bool → Int → List Int → Option (List Int) := (U7 k n).2.1
def Al1 (k : Nat) (n : Nat) : List (List A1) → Int → Bool → Int → Int → List Int → Option (List Int) := (U7 k n).2.2
theorem Ef3 (k : Nat) (n : Nat) (a0 : List (List A1)) (v1 : Int) (xs2 : List Int) : g8 k (n + 1) a0 v1 xs2 = A35 k (Al0 k n) a0 v1 xs2 := rfl
theorem Ef4 (k : Nat) (n : Nat) (a0 : List (List A1)) (v1 : Int) (v3 : Bool) (v4 : Int) (xs2 : List Int) : Al0 k (n + 1) a0 v1 v3 v4 xs2 = A36 k (Al1 k n) (g8 k n) a0 v1 v3 v4 xs2 := rfl
theorem Ef5 (k : Nat) (n : Nat) (a0 : List (List A1)) (v1 : Int) (v5 : Bool) (v4 : Int) (v6 : Int) (xs2 : List Int) : Al1 k (n + 1) a0 v1 v5 v4 v6 xs2 = A37 k (Al1 k n) (Al0 k n) a0 v1 v5 v4 v6 xs2 := rfl
def C51 (k : Nat) (L0 : List (List A1) → Int → List Int → Option (List Int)) (a0 : List (List A1)) : Option (List Int) := (L0 a0 0 [])
def A73 (k : Nat) (a0 : List (List A1)) : Option (List Int) := C51 k (g8 k k) a0
end
noncomputable section
def Bi9 (k : Nat) (L0 : List (List A1) → Int → Int → Option Bool) (a0 : List (List A1)) (a1 : Int) (v1 : Int) : Option Bool := (br (decide (v1 < (a0.length : Int))) (gd (decide (0 ≤ v1)) (gd (decide (v1 < (a0.length : Int))) (bd (Ce2 k (rd [] a0 v1.toNat) a1) fun r1 => (gd (decide (0 < (a0.length : Int))) (bd (Ce2 k (rd [] a0 0) a1) fun r2 => (br (r1 != r2) (some false) (L0 a0 a1 (B5 (v1 + 1))))))))) (some true))
def W6 (k : Nat) : Nat → List (List A1) → Int → Int → Option Bool
 | 0, _, _, _ => none
 | n + 1, a0, a1, v1 => Bi9 k (W6 k n) a0 a1 v1
def Cq6 (k : Nat) (L0 : List (List A1) → Int → Int → Option Bool) (a0 : List (List A1)) (a1 : Int) : Option Bool := (L0 a0 a1 1)
def As4 (k : Nat) (a0 : List (List A1)) (a1 : Int) : Option Bool := Cq6 k (W6 k k) a0 a1
end
noncomputable section
def B43 (k : Nat) (L0 : List (List A1) → Int → List A1 → List Int → Option (List A1)) (a0 : List (List A1)) (v1 : Int) (xs2 : List A1) (r1 : List Int) : Option (List A1) := (br (decide (v1 < (r1.length : Int))) (gd (decide (0 ≤ v1)) (gd (decide (v1 < (r1.length : Int))) (bd (As4 k a0 (rd 0 r1 v1.toNat)) fun r2 => (br r2 (gd (decide (0 ≤ v1)) (gd (decide (v1 < (r1.length : Int))) (gd (decide (0 < (a0.length : Int))) (gd (decide (0 ≤ v1)) (gd (decide (v1 < (r1.length : Int))) (bd (Ce2 k (rd [] a0 0) (rd 0 r1 v1.toNat)) fun r3 => (gd (decide (xs2.length + ([((rd 0 r1 v1.toNat), r3, ())] : List A1).length ≤ A3)) (L0 a0 (B5 (v1 + 1)) (xs2 ++ ([((rd 0 r1 v1.toNat), r3, ())] : List A1)) r1)))))))) (L0 a0 (B5 (v1 + 1)) xs2 r1))))) (some xs2))
def t7 (k : Nat) : Nat → List (List A1) → Int → List A1 → List Int → Option (List A1)
 | 0, _, _, _, _ => none
 | n + 1, a0, v1, xs2, r1 => B43 k (t7 k n) a0 v1 xs2 r1
def Dk1 (k : Nat) (L0 : List (List A1) → Int → List A1 → List Int → Option (List A1)) (a0 : List (List A1)) : Option (List A1) := (bd (A73 k a0) fun r1 => (L0 a0 0 ([] : List A1) r1))
def Bo1 (k : Nat) (a0 : List (List A1)) : Option (List A1) := Dk1 k (t7 k k) a0
end
noncomputable section
def Cl5 (k : Nat) (L0 : List (List A1) → Int → List Int → List Int → Option (List Int)) (a0 : List (List A1)) (v1 : Int) (xs2 : List Int) (r1 : List Int) : Option (List Int) := (br (decide (v1 < (r1.length : Int))) (gd (decide (0 ≤ v1)) (gd (decide (v1 < (r1.length : Int))) (bd (As4 k a0 (rd 0 r1 v1.toNat)) fun r2 => (br (!r2) (gd (decide (0 ≤ v1)) (gd (decide (v1 < (r1.length : Int))) (gd (decide (xs2.length + [(rd 0 r1 v1.toNat)].length ≤ A3)) (L0 a0 (B5 (v1 + 1)) (xs2 ++ [(rd 0 r1 v1.toNat)]) r1)))) (L0 a0 (B5 (v1 + 1)) xs2 r1))))) (some xs2))
def Ah5 (k : Nat) : Nat → List (List A1) → Int → List Int → List Int → Option (List Int)
 | 0, _, _, _, _ => none
 | n + 1, a0, v1, xs2, r1 => Cl5 k (Ah5 k n) a0 v1 xs2 r1
def D91 (k : Nat) (L0 : List (List A1) → Int → List Int → List Int → Option (List Int)) (a0 : List (List A1)) : Option (List Int) := (bd (A73 k a0) fun r1 => (L0 a0 0 [] r1))
def Cq7 (k : Nat) (a0 : List (List A1)) : Option (List Int) := D91 k (Ah5 k k) a0
end
noncomputable section
def Cl6 (k : Nat) (L0 : List Int → Int → Int → Option Bool) (a0 : List Int) (a1 : Int) (v1 : Int) : Option Bool := (br (decide (v1 < (a0.length : Int))) (gd (decide (0 ≤ v1)) (gd (decide (v1 < (a0.length : Int))) (br ((rd 0 a0 v1.toNat) == a1) (some true) (L0 a0 a1 (B5 (v1 + 1)))))) (some false))
def Ah6 (k : Nat) : Nat → List Int → Int → Int → Option Bool
 | 0, _, _, _ => none
 | n + 1, a0, a1, v1 => Cl6 k (Ah6 k n) a0 a1 v1
def D92 (k : Nat) (L0 : List Int → Int → Int → Option Bool) (a0 : List Int) (a1 : Int) : Option Bool := (L0 a0 a1 0)
def Av3 (k : Nat) (a0 : List Int) (a1 : Int) : Option Bool := D92 k (Ah6 k k) a0 a1
end
noncomputable section
def B44 (k : Nat) (L0 : List Int → Int → Bool → Int → List Int → Option (List Int)) (a0 : List Int) (a1 : Int) (v1 : Bool) (v2 : Int) (xs3 : List Int) : Option (List Int) := (br (decide (v2 < (a0.length : Int))) (gd (decide (0 ≤ v2)) (gd (decide (v2 < (a0.length : Int))) (br (decide ((rd 0 a0 v2.toNat) ≥ a1)) (br (!v1) (gd (decide (xs3.length + [a1].length ≤ A3)) (gd (decide (0 ≤ v2)) (gd (decide (v2 < (a0.length : Int))) (br ((rd 0 a0 v2.toNat) != a1) (gd (decide (0 ≤ v2)) (gd (decide (v2 < (a0.length : Int))) (gd (decide ((xs3 ++ [a1]).length + [(rd 0 a0 v2.toNat)].length ≤ A3)) (L0 a0 a1 true (B5 (v2 + 1)) ((xs3 ++ [a1]) ++ [(rd 0 a0 v2.toNat)]))))) (L0 a0 a1 true (B5 (v2 + 1)) (xs3 ++ [a1])))))) (gd (decide (0 ≤ v2)) (gd (decide (v2 < (a0.length : Int))) (br ((rd 0 a0 v2.toNat) != a1) (gd (decide (0 ≤ v2)) (gd (decide (v2 < (a0.length : Int))) (gd (decide (xs3.length + [(rd 0 a0 v2.toNat)].length ≤ A3)) (L0 a0 a1 v1 (B5 (v2 + 1)) (xs3 ++ [(rd 0 a0 v2.toNat)]))))) (L0 a0 a1 v1 (B5 (v2 + 1)) xs3))))) (gd (decide (0 ≤ v2)) (gd (decide (v2 < (a0.length : Int))) (br ((rd 0 a0 v2.toNat) != a1) (gd (decide (0 ≤ v2)) (gd (decide (v2 < (a0.length : Int))) (gd (decide (xs3.length + [(rd 0 a0 v2.toNat)].length ≤ A3)) (L0 a0 a1 v1 (B5 (v2 + 1)) (xs3 ++ [(rd 0 a0 v2.toNat)]))))) (L0 a0 a1 v1 (B5 (v2 + 1)) xs3))))))) (br (!v1) (gd (decide (xs3.length + [a1].length ≤ A3)) (some (xs3 ++ [a1]))) (some xs3)))
def U8 (k : Nat) : Nat → List Int → Int → Bool → Int → List Int → Option (List Int)
 | 0, _, _, _, _, _ => none
 | n + 1, a0, a1, v1, v2, xs3 => B44 k (U8 k n) a0 a1 v1 v2 xs3
def Dk2 (k : Nat) (L0 : List Int → Int → Bool → Int → List Int → Option (List Int)) (a0 : List Int) (a1 : Int) : Option (List Int) := (L0 a0 a1 false 0 [])
def Bo2 (k : Nat) (a0 : List Int) (a1 : Int) : Option (List Int) := Dk2 k (U8 k k) a0 a1
end
noncomputable section
def Al2 (k : Nat) (L1 : List A0 → Nat → Int → List Int → List Int → (A0 × Bool) → Option (List Int)) (a0 : List A0) (u1 : Nat) (xs2 : List Int) (xs3 : List Int) : Option (List Int) := (br (decide ((((xs3.length - u1) : Nat) : Int) > 0)) (gd (decide (0 < (((xs3.length - u1) : Nat) : Int))) (bd (L7 k a0 (rd 0 xs3 (u1 + 0))) fun r1 => (gd (decide (1 ≤ (((xs3.length - u1) : Nat) : Int))) (L1 a0 (u1 + 1) 0 xs2 xs3 r1)))) (some xs2))
def Al3 (k : Nat) (L1 : List A0 → Nat → Int → List Int → List Int → (A0 × Bool) → Option (List Int)) (L0 : List A0 → Nat → List Int → List Int → Option (List Int)) (a0 : List A0) (u4 : Nat) (v5 : Int) (xs6 : List Int) (xs7 : List Int) (r1 : A0 × Bool) : Option (List Int) := (br (decide (v5 < (r1.1.2.2.2.2.2.2.2.1.length : Int))) (gd (decide (0 ≤ v5)) (gd (decide (v5 < (r1.1.2.2.2.2.2.2.2.1.length : Int))) (bd (L7 k a0 (rd 0 r1.1.2.2.2.2.2.2.2.1 v5.toNat)) fun r2 => (br r2.2 (gd (decide (0 ≤ v5)) (gd (decide (v5 < (r1.1.2.2.2.2.2.2.2.1.length : Int))) (bd (Av3 k xs6 (rd 0 r1.1.2.2.2.2.2.2.2.1 v5.toNat)) fun r3 => (br (!r3) (gd (decide (0 ≤ v5)) (gd (decide (v5 < (r1.1.2.2.2.2.2.2.2.1.length : Int))) (gd (decide (xs6.length + [(rd 0 r1.1.2.2.2.2.2.2.2.1 v5.toNat)].length ≤ A3)) (gd (decide (0 ≤ v5)) (gd (decide (v5 < (r1.1.2.2.2.2.2.2.2.1.length : Int))) (gd (decide ((xs7.drop u4).length + [(rd 0 r1.1.2.2.2.2.2.2.2.1 v5.toNat)].length ≤ A3)) (L1 a0 0 (B5 (v5 + 1)) (xs6 ++ [(rd 0 r1.1.2.2.2.2.2.2.2.1 v5.toNat)]) ((xs7.drop u4) ++ [(rd 0 r1.1.2.2.2.2.2.2.2.1 v5.toNat)]) r1))))))) (L1 a0 u4 (B5 (v5 + 1)) xs6 xs7 r1))))) (L1 a0 u4 (B5 (v5 + 1)) xs6 xs7 r1))))) (L0 a0 u4 xs6 xs7))
def t8 (k : Nat) : Nat → (List A0 → Nat → List Int → List Int → Option (List Int)) × (List A0 → Nat → Int → List Int → List Int → (A0 × Bool) → Option (List Int))
 | 0 => (fun _ _ _ _ => none, fun _ _ _ _ _ _ => none)
 | n + 1 => (Al2 k (t8 k n).2, Al3 k (t8 k n).2 (t8 k n).1)
def S9 (k : Nat) (n : Nat) : List A0 → Nat → List Int → List Int → Option (List Int) := (t8 k n).1
def T0 (k : Nat) (n : Nat) : List A0 → Nat → Int → List Int → List Int → (A0 × Bool) → Option (List Int) := (t8 k n).2
theorem Dk3 (k : Nat) (n : Nat) (a0 : List A0) (u1 : Nat) (xs2 : List Int) (xs3 : List Int) : S9 k (n + 1) a0 u1 xs2 xs3 = Al2 k (T0 k n) a0 u1 xs2 xs3 := rfl
theorem Dk4 (k : Nat) (n : Nat) (a0 : List A0) (u4 : Nat) (v5 : Int) (xs6 : List Int) (xs7 : List Int) (r1 : A0 × Bool) : T0 k (n + 1) a0 u4 v5 xs6 xs7 r1 = Al3 k (T0 k n) (S9 k n) a0 u4 v5 xs6 xs7 r1 := rfl
def Cg4 (k : Nat) (L0 : List A0 → Nat → List Int → List Int → Option (List Int)) (a0 : List A0) (a1 : Int) : Option (List Int) := (L0 a0 0 [] [a1])
def Aw9 (k : Nat) (a0 : List A0) (a1 : Int) : Option (List Int) := Cg4 k (S9 k k) a0 a1
end
noncomputable section
def Bj0 (k : Nat) (L0 : List Int → List Int → List Int → Int → Option Bool) (a0 : List Int) (a1 : List Int) (a2 : List Int) (v1 : Int) : Option Bool := (br (decide (v1 < (a0.length : Int))) (gd (decide (0 ≤ v1)) (gd (decide (v1 < (a0.length : Int))) (bd (Av3 k a1 (rd 0 a0 v1.toNat)) fun r1 => (br r1 (gd (decide (0 ≤ v1)) (gd (decide (v1 < (a0.length : Int))) (bd (Av3 k a2 (rd 0 a0 v1.toNat)) fun r2 => (br (!r2) (some false) (L0 a0 a1 a2 (B5 (v1 + 1))))))) (L0 a0 a1 a2 (B5 (v1 + 1))))))) (some true))
def S0 (k : Nat) : Nat → List Int → List Int → List Int → Int → Option Bool
 | 0, _, _, _, _ => none
 | n + 1, a0, a1, a2, v1 => Bj0 k (S0 k n) a0 a1 a2 v1
def Cq8 (k : Nat) (L0 : List Int → List Int → List Int → Int → Option Bool) (a0 : List Int) (a1 : List Int) (a2 : List Int) : Option Bool := (L0 a0 a1 a2 0)
def As5 (k : Nat) (a0 : List Int) (a1 : List Int) (a2 : List Int) : Option Bool := Cq8 k (S0 k k) a0 a1 a2
end
def u0 (k : Nat) (a0 : A0) : Option Bool := (br (a0.2.1 == 3) (some true) (br (a0.2.1 == 2) (br (a0.2.2.2.2.1 == 0) (some (a0.2.2.1 != a0.2.2.2.1)) (br (a0.2.2.2.2.1 == 3) (some (a0.2.2.1 != a0.2.2.2.1)) (some false))) (some false)))
def Bo3 (k : Nat) (a0 : List A0) (a1 : List A1) (a2 : A0) (a3 : A0) : Option Bool := (bd (u0 k a2) fun r1 => (bd (u0 k a3) fun r2 => (br (!(r1 == r2)) (bd (u0 k a2) fun r3 => (some r3)) (bd (U3 k a0 a1 a2.2.2.1) fun r4 => (bd (U3 k a0 a1 a3.2.2.1) fun r5 => (br (r4 != r5) (some (decide (r4 > r5))) (br (a2.2.2.2.2.2.2.2.2.1 != a3.2.2.2.2.2.2.2.2.1) (some (decide (a2.2.2.2.2.2.2.2.2.1 < a3.2.2.2.2.2.2.2.2.1))) (some (decide (a2.1 < a3.1))))))))))
noncomputable section
def Bt3 (k : Nat) (L3 : List A0 → List A1 → Int → List Int → List (List Int) → List Int → Option (List Int)) (a0 : List A0) (a1 : List A1) (xs2 : List Int) (xs4 : List (List Int)) (xs5 : List Int) : Option (List Int) := (br (decide ((xs5.length : Int) < (xs2.length : Int))) (L3 a0 a1 0 xs2 xs4 xs5) (some xs5))
def Bt4 (k : Nat) (L3 : List A0 → List A1 → Int → List Int → List (List Int) → List Int → Option (List Int)) (L4 : List A0 → List A1 → Int → List Int → List (List Int) → List Int → Int → Int → Int → Int → Int → List Int → ByteArray → List Int → Int → Option (List Int)) (a0 : List A0) (a1 : List A1) (v6 : Int) (xs2 : List Int) (xs4 : List (List Int)) (xs5 : List Int) : Option (List Int) := (br (decide (v6 < (xs2.length : Int))) (gd (decide (0 ≤ v6)) (gd (decide (v6 < (xs2.length : Int))) (bd (Av3 k xs5 (rd 0 xs2 v6.toNat)) fun r4 => (br r4 (L3 a0 a1 (B5 (v6 + 1)) xs2 xs4 xs5) (gd (decide (0 ≤ v6)) (gd (decide (v6 < (xs4.length : Int))) (bd (As5 k (rd [] xs4 v6.toNat) xs2 xs5) fun r5 => (br (!r5) (L3 a0 a1 (B5 (v6 + 1)) xs2 xs4 xs5) (gd (decide (0 ≤ v6)) (gd (decide (v6 < (xs2.length : Int))) (bd (L7 k a0 (rd 0 xs2 v6.toNat)) fun r6 => (L4 a0 a1 (B5 (v6 + 1)) xs2 xs4 xs5 r6.1.1 r6.1.2.1 r6.1.2.2.1 r6.1.2.2.2.1 r6.1.2.2.2.2.1 r6.1.2.2.2.2.2.1 r6.1.2.2.2.2.2.2.1 r6.1.2.2.2.2.2.2.2.1 r6.1.2.2.2.2.2.2.2.2.1)))))))))))) (some xs5))
def Bt5 (k : Nat) (L4 : List A0 → List A1 → Int → List Int → List (List Int) → List Int → Int → Int → Int → Int → Int → List Int → ByteArray → List Int → Int → Option (List Int)) (L2 : List A0 → List A1 → List Int → List (List Int) → List Int → Option (List Int)) (a0 : List A0) (a1 : List A1) (v7 : Int) (xs2 : List Int) (xs4 : List (List Int)) (xs5 : List Int) (v8 : Int) (v9 : Int) (v10 : Int) (v11 : Int) (v12 : Int) (v13 : List Int) (v14 : ByteArray) (v15 : List Int) (v16 : Int) : Option (List Int) := (br (decide (v7 < (xs2.length : Int))) (gd (decide (0 ≤ v7)) (gd (decide (v7 < (xs2.length : Int))) (bd (Av3 k xs5 (rd 0 xs2 v7.toNat)) fun r7 => (br r7 (L4 a0 a1 (B5 (v7 + 1)) xs2 xs4 xs5 v8 v9 v10 v11 v12 v13 v14 v15 v16) (gd (decide (0 ≤ v7)) (gd (decide (v7 < (xs4.length : Int))) (bd (As5 k (rd [] xs4 v7.toNat) xs2 xs5) fun r8 => (br (!r8) (L4 a0 a1 (B5 (v7 + 1)) xs2 xs4 xs5 v8 v9 v10 v11 v12 v13 v14 v15 v16) (gd (decide (0 ≤ v7)) (gd (decide (v7 < (xs2.length : Int))) (bd (L7 k a0 (rd 0 xs2 v7.toNat)) fun r9 => (bd (Bo3 k a0 a1 r9.1 (v8, v9, v10, v11, v12, v13, v14, v15, v16, ())) fun r10 => (br r10 (L4 a0 a1 (B5 (v7 + 1)) xs2 xs4 xs5 r9.1.1 r9.1.2.1 r9.1.2.2.1 r9.1.2.2.2.1 r9.1.2.2.2.2.1 r9.1.2.2.2.2.2.1 r9.1.2.2.2.2.2.2.1 r9.1.2.2.2.2.2.2.2.1 r9.1.2.2.2.2.2.2.2.2.1) (L4 a0 a1 (B5 (v7 + 1)) xs2 xs4 xs5 v8 v9 v10 v11 v12 v13 v14 v15 v16)))))))))))))) (gd (decide (xs5.length + [v8].length ≤ A3)) (L2 a0 a1 xs2 xs4 (xs5 ++ [v8]))))
def Cl7 (k : Nat) (L1 : List A0 → List A1 → Int → List Int → List (List Int) → Option (List Int)) (L2 : List A0 → List A1 → List Int → List (List Int) → List Int → Option (List Int)) (a0 : List A0) (a1 : List A1) (v3 : Int) (xs2 : List Int) (xs4 : List (List Int)) : Option (List Int) := (br (decide (v3 < (xs2.length : Int))) (gd (decide (0 ≤ v3)) (gd (decide (v3 < (xs2.length : Int))) (bd (Aw9 k a0 (rd 0 xs2 v3.toNat)) fun r3 => (gd (decide (xs4.length + [r3].length ≤ A3)) (L1 a0 a1 (B5 (v3 + 1)) xs2 (xs4 ++ [r3])))))) (L2 a0 a1 xs2 xs4 []))
def Cl8 (k : Nat) (L0 : List A0 → List A1 → List Int → Int → List Int → Option (List Int)) (L1 : List A0 → List A1 → Int → List Int → List (List Int) → Option (List Int)) (a0 : List A0) (a1 : List A1) (a2 : List Int) (v1 : Int) (xs2 : List Int) : Option (List Int) := (br (decide (v1 < (a2.length : Int))) (gd (decide (0 ≤ v1)) (gd (decide (v1 < (a2.length : Int))) (bd (L7 k a0 (rd 0 a2 v1.toNat)) fun r1 => (br r1.2 (gd (decide (0 ≤ v1)) (gd (decide (v1 < (a2.length : Int))) (bd (Bo2 k xs2 (rd 0 a2 v1.toNat)) fun r2 => (L0 a0 a1 a2 (B5 (v1 + 1)) r2)))) (L0 a0 a1 a2 (B5 (v1 + 1)) xs2))))) (L1 a0 a1 0 xs2 []))
def u5 (k : Nat) : Nat → (List A0 → List A1 → List Int → List (List Int) → List Int → Option (List Int)) × (List A0 → List A1 → Int → List Int → List (List Int) → List Int → Option (List Int)) × (List A0 → List A1 → Int → List Int → List (List Int) → List Int → Int → Int → Int → Int → Int → List Int → ByteArray → List Int → Int → Option (List Int))
 | 0 => (fun _ _ _ _ _ => none, fun _ _ _ _ _ _ => none, fun _ _ _ _ _ _ _ _ _ _ _ _ _ _ _ => none)
 | n + 1 => (Bt3 k (u5 k n).2.1, Bt4 k (u5 k n).2.1 (u5 k n).2.2, Bt5 k (u5 k n).2.2 (u5 k n).1)
def As6 (k : Nat) (n : Nat) : List A0 → List A1 → List Int → List (List Int) → List Int → Option (List Int) := (u5 k n).1
def As7 (k : Nat) (n : Nat) : List A0 → List A1 → Int → List Int → List (List Int) → List Int → Option (List Int) := (u5 k n).2.1
def As8 (k : Nat) (n : Nat) : List A0 → List A1 → Int → List Int → List (List Int) → List Int → Int → Int → Int → Int → Int → List Int → ByteArray → List Int → Int → Option (List Int) := (u5 k n).2.2
theorem Fq3 (k : Nat) (n : Nat) (a0 : List A0) (a1 : List A1) (xs2 : List Int) (xs4 : List (List Int)) (xs5 : List Int) : As6 k (n + 1) a0 a1 xs2 xs4 xs5 = Bt3 k (As7 k n) a0 a1 xs2 xs4 xs5 := rfl
theorem Fq4 (k : Nat) (n : Nat) (a0 : List A0) (a1 : List A1) (v6 : Int) (xs2 : List Int) (xs4 : List (List Int)) (xs5 : List Int) : As7 k (n + 1) a0 a1 v6 xs2 xs4 xs5 = Bt4 k (As7 k n) (As8 k n) a0 a1 v6 xs2 xs4 xs5 := rfl
theorem Fq5 (k : Nat) (n : Nat) (a0 : List A0) (a1 : List A1) (v7 : Int) (xs2 : List Int) (xs4 : List (List Int)) (xs5 : List Int) (v8 : Int) (v9 : Int) (v10 : Int) (v11 : Int) (v12 : Int) (v13 : List Int) (v14 : ByteArray) (v15 : List Int) (v16 : Int) : As8 k (n + 1) a0 a1 v7 xs2 xs4 xs5 v8 v9 v10 v11 v12 v13 v14 v15 v16 = Bt5 k (As8 k n) (As6 k n) a0 a1 v7 xs2 xs4 xs5 v8 v9 v10 v11 v12 v13 v14 v15 v16 := rfl
def As9 (k : Nat) : Nat → List A0 → List A1 → Int → List Int → List (List Int) → Option (List Int)
 | 0, _, _, _, _, _ => none
 | n + 1, a0, a1, v3, xs2, xs4 => Cl7 k (As9 k n) (As6 k n) a0 a1 v3 xs2 xs4
def Ah7 (k : Nat) : Nat → List A0 → List A1 → List Int → Int → List Int → Option (List Int)
 | 0, _, _, _, _, _ => none
 | n + 1, a0, a1, a2, v1, xs2 => Cl8 k (Ah7 k n) (As9 k n) a0 a1 a2 v1 xs2
def D93 (k : Nat) (L0 : List A0 → List A1 → List Int → Int → List Int → Option (List Int)) (a0 : List A0) (a1 : List A1) (a2 : List Int) : Option (List Int) := (L0 a0 a1 a2 0 [])
def Cq9 (k : Nat) (a0 : List A0) (a1 : List A1) (a2 : List Int) : Option (List Int) := D93 k (Ah7 k k) a0 a1 a2
end
noncomputable section
def Bt6 (k : Nat) (L2 : List A0 → Int → List A1 → List Int → Option (List A1)) (a0 : List A0) (v5 : Int) (r1 : List A1) (r5 : List Int) : Option (List A1) := (br (decide (v5 < (r5.length : Int))) (gd (decide (0 ≤ v5)) (gd (decide (v5 < (r5.length : Int))) (bd (L7 k a0 (rd 0 r5 v5.toNat)) fun r6 => (bd (As3 k a0 r1 r6.1) fun r7 => (br r7 (bd (A34 k r6.1) fun r8 => (br (r8 != 0) (bd (A34 k r6.1) fun r9 => (bd (D90 k r1 r9 r6.1.1) fun r10 => (L2 a0 (B5 (v5 + 1)) r10 r5))) (L2 a0 (B5 (v5 + 1)) r1 r5))) (L2 a0 (B5 (v5 + 1)) r1 r5)))))) (some r1))
def A38 (k : Nat) (L1 : List A0 → List (List A1) → Int → Int → List A1 → List Int → List Int → Option (List A1)) (L2 : List A0 → Int → List A1 → List Int → Option (List A1)) (a0 : List A0) (a1 : List (List A1)) (v1 : Int) (r1 : List A1) (r2 : List Int) (xs2 : List Int) : Option (List A1) := (br (decide (v1 < (a1.length : Int))) (L1 a0 a1 v1 0 r1 r2 xs2) (bd (Bo1 k a1) fun r4 => (bd (Cq9 k a0 r4 xs2) fun r5 => (L2 a0 0 r1 r5))))
def A39 (k : Nat) (L1 : List A0 → List (List A1) → Int → Int → List A1 → List Int → List Int → Option (List A1)) (L0 : List A0 → List (List A1) → Int → List A1 → List Int → List Int → Option (List A1)) (a0 : List A0) (a1 : List (List A1)) (v1 : Int) (v3 : Int) (r1 : List A1) (r2 : List Int) (xs4 : List Int) : Option (List A1) := (br (decide (v3 < (r2.length : Int))) (gd (decide (0 ≤ v1)) (gd (decide (v1 < (a1.length : Int))) (gd (decide (0 ≤ v3)) (gd (decide (v3 < (r2.length : Int))) (bd (Ce2 k (rd [] a1 v1.toNat) (rd 0 r2 v3.toNat)) fun r3 => (br (r3 != 0) (gd (decide (xs4.length + [r3].length ≤ A3)) (L1 a0 a1 v1 (B5 (v3 + 1)) r1 r2 (xs4 ++ [r3]))) (L1 a0 a1 v1 (B5 (v3 + 1)) r1 r2 xs4))))))) (L0 a0 a1 (B5 (v1 + 1)) r1 r2 xs4))
def g9 (k : Nat) : Nat → List A0 → Int → List A1 → List Int → Option (List A1)
 | 0, _, _, _, _ => none
 | n + 1, a0, v5, r1, r5 => Bt6 k (g9 k n) a0 v5 r1 r5
def Al4 (k : Nat) : Nat → (List A0 → List (List A1) → Int → List A1 → List Int → List Int → Option (List A1)) × (List A0 → List (List A1) → Int → Int → List A1 → List Int → List Int → Option (List A1))
 | 0 => (fun _ _ _ _ _ _ => none, fun _ _ _ _ _ _ _ => none)
 | n + 1 => (A38 k (Al4 k n).2 (g9 k n), A39 k (Al4 k n).2 (Al4 k n).1)
def i6 (k : Nat) (n : Nat) : List A0 → List (List A1) → Int → List A1 → List Int → List Int → Option (List A1) := (Al4 k n).1
def Al5 (k : Nat) (n : Nat) : List A0 → List (List A1) → Int → Int → List A1 → List Int → List Int → Option (List A1) := (Al4 k n).2
theorem Ef6 (k : Nat) (n : Nat) (a0 : List A0) (a1 : List (List A1)) (v1 : Int) (r1 : List A1) (r2 : List Int) (xs2 : List Int) : i6 k (n + 1) a0 a1 v1 r1 r2 xs2 = A38 k (Al5 k n) (g9 k n) a0 a1 v1 r1 r2 xs2 := rfl
theorem Ef7 (k : Nat) (n : Nat) (a0 : List A0) (a1 : List (List A1)) (v1 : Int) (v3 : Int) (r1 : List A1) (r2 : List Int) (xs4 : List Int) : Al5 k (n + 1) a0 a1 v1 v3 r1 r2 xs4 = A39 k (Al5 k n) (i6 k n) a0 a1 v1 v3 r1 r2 xs4 := rfl
def C52 (k : Nat) (L0 : List A0 → List (List A1) → Int → List A1 → List Int → List Int → Option (List A1)) (a0 : List A0) (a1 : List (List A1)) : Option (List A1) := (br ((a1.length : Int) == 0) (some ([] : List A1)) (br ((a1.length : Int) == 1) (gd (decide (0 < (a1.length : Int))) (gd (decide (([] : List A1).length + (rd [] a1 0).length ≤ A3)) (some (([] : List A1) ++ (rd [] a1 0))))) (bd (Bo1 k a1) fun r1 => (bd (Cq7 k a1) fun r2 => (L0 a0 a1 0 r1 r2 [])))))
def Bo4 (k : Nat) (a0 : List A0) (a1 : List (List A1)) : Option (List A1) := C52 k (i6 k k) a0 a1
end
noncomputable section
def A94 (k : Nat) (L0 : List Int → Int → A6 → List (List A1) → Option (List A1 × Bool)) (a1 : List Int) (v1 : Int) (a0 : A6) (xs2 : List (List A1)) : Option (List A1 × Bool) := (br (decide (v1 < (a1.length : Int))) (gd (decide (0 ≤ v1)) (gd (decide (v1 < (a1.length : Int))) (bd (A90 k a0 (rd 0 a1 v1.toNat)) fun r1 => (br (decide (r1 < 0)) (some (([] : List A1), false)) (br (decide (r1 ≥ (a0.2.1.length : Int))) (some (([] : List A1), false)) (gd (decide (0 ≤ r1)) (gd (decide (r1 < (a0.2.1.length : Int))) (gd (decide (xs2.length + [(rd [] a0.2.1 r1.toNat)].length ≤ A3)) (L0 a1 (B5 (v1 + 1)) a0 (xs2 ++ [(rd [] a0.2.1 r1.toNat)])))))))))) (bd (Bo4 k a0.1 xs2) fun r2 => (some (r2, true))))
def T1 (k : Nat) : Nat → List Int → Int → A6 → List (List A1) → Option (List A1 × Bool)
 | 0, _, _, _, _ => none
 | n + 1, a1, v1, a0, xs2 => A94 k (T1 k n) a1 v1 a0 xs2
def Cg5 (k : Nat) (L0 : List Int → Int → A6 → List (List A1) → Option (List A1 × Bool)) (a0 : A6) (a1 : List Int) : Option (List A1 × Bool) := (L0 a1 0 a0 [])
def M6 (k : Nat) (a0 : A6) (a1 : List Int) : Option (List A1 × Bool) := Cg5 k (T1 k k) a0 a1
end
def A95 (k : Nat) (a0 : A6) (a1 : A0) : Option (A6 × Bool) := (bd (M6 k a0 a1.2.2.2.2.2.2.2.1) fun r1 => (br (!r1.2) (some (([], [], [], ()), false)) (bd (I9 k a1) fun r2 => (br (!r2) (some (([], [], [], ()), false)) (bd (A90 k a0 a1.1) fun r3 => (br (decide (r3 ≥ 0)) (some (([], [], [], ()), false)) (bd (J0 k a0 a1.2.2.2.2.2.2.2.1) fun r4 => (br (a1.2.2.2.2.2.2.2.2.1 != r4) (some (([], [], [], ()), false)) (br (decide ((a0.1.length : Int) ≥ 40)) (some (([], [], [], ()), false)) (bd (As3 k a0.1 r1.1 a1) fun r5 => (br r5 (bd (A34 k a1) fun r6 => (br (r6 != 0) (bd (A34 k a1) fun r7 => (bd (D90 k r1.1 r7 a1.1) fun r8 => (gd (decide (([] : List A0).length + a0.1.length ≤ A3)) (gd (decide ((([] : List A0) ++ a0.1).length + ([a1] : List A0).length ≤ A3)) (gd (decide (([] : List (List A1)).length + a0.2.1.length ≤ A3)) (gd (decide ((([] : List (List A1)) ++ a0.2.1).length + [r8].length ≤ A3)) (gd (decide (([] : List Bool).length + a0.2.2.1.length ≤ A3)) (gd (decide ((([] : List Bool) ++ a0.2.2.1).length + [r5].length ≤ A3)) (some ((((([] : List A0) ++ a0.1) ++ ([a1] : List A0)), ((([] : List (List A1)) ++ a0.2.1) ++ [r8]), ((([] : List Bool) ++ a0.2.2.1) ++ [r5]), ()), true)))))))))) (gd (decide (([] : List A0).length + a0.1.length ≤ A3)) (gd (decide ((([] : List A0) ++ a0.1).length + ([a1] : List A0).length ≤ A3)) (gd (decide (([] : List (List A1)).length + a0.2.1.length ≤ A3)) (gd (decide ((([] : List (List A1)) ++ a0.2.1).length + [r1.1].length ≤ A3)) (gd (decide (([] : List Bool).length + a0.2.2.1.length ≤ A3)) (gd (decide ((([] : List Bool) ++ a0.2.2.1).length + [r5].length ≤ A3)) (some ((((([] : List A0) ++ a0.1) ++ ([a1] : List A0)), ((([] : List (List A1)) ++ a0.2.1) ++ [r1.1]), ((([] : List Bool) ++ a0.2.2.1) ++ [r5]), ()), true)))))))))) (gd (decide (([] : List A0).length + a0.1.length ≤ A3)) (gd (decide ((([] : List A0) ++ a0.1).length + ([a1] : List A0).length ≤ A3)) (gd (decide (([] : List (List A1)).length + a0.2.1.length ≤ A3)) (gd (decide ((([] : List (List A1)) ++ a0.2.1).length + [r1.1].length ≤ A3)) (gd (decide (([] : List Bool).length + a0.2.2.1.length ≤ A3)) (gd (decide ((([] : List Bool) ++ a0.2.2.1).length + [r5].length ≤ A3)) (some ((((([] : List A0) ++ a0.1) ++ ([a1] : List A0)), ((([] : List (List A1)) ++ a0.2.1) ++ [r1.1]), ((([] : List Bool) ++ a0.2.2.1) ++ [r5]), ()), true)))))))))))))))))))
noncomputable section
def S4 (k : Nat) (L0 : List Int → List Int → Int → Option Bool) (a0 : List Int) (a1 : List Int) (v1 : Int) : Option Bool := (br (decide (v1 < (a0.length : Int))) (gd (decide (0 ≤ v1)) (gd (decide (v1 < (a0.length : Int))) (gd (decide (0 ≤ v1)) (gd (decide (v1 < (a1.length : Int))) (br ((rd 0 a0 v1.toNat) != (rd 0 a1 v1.toNat)) (some false) (L0 a0 a1 (B5 (v1 + 1)))))))) (some true))
def H6 (k : Nat) : Nat → List Int → List Int → Int → Option Bool
 | 0, _, _, _ => none
 | n + 1, a0, a1, v1 => S4 k (H6 k n) a0 a1 v1
def Ag8 (k : Nat) (L0 : List Int → List Int → Int → Option Bool) (a0 : List Int) (a1 : List Int) : Option Bool := (br ((a0.length : Int) != (a1.length : Int)) (some false) (L0 a0 a1 0))
def M0 (k : Nat) (a0 : List Int) (a1 : List Int) : Option Bool := Ag8 k (H6 k k) a0 a1
end
def Ai9 (k : Nat) (a0 : A0) (a1 : A0) : Option Bool := (br (a0.1 == a1.1) (br (a0.2.1 == a1.2.1) (br (a0.2.2.1 == a1.2.2.1) (br (a0.2.2.2.1 == a1.2.2.2.1) (br (a0.2.2.2.2.1 == a1.2.2.2.2.1) (br (a0.2.2.2.2.2.2.1.toList == a1.2.2.2.2.2.2.1.toList) (br (a0.2.2.2.2.2.2.2.2.1 == a1.2.2.2.2.2.2.2.2.1) (bd (M0 k a0.2.2.2.2.2.1 a1.2.2.2.2.2.1) fun r1 => (br r1 (bd (M0 k a0.2.2.2.2.2.2.2.1 a1.2.2.2.2.2.2.2.1) fun r2 => (some r2)) (some false))) (some false)) (some false)) (some false)) (some false)) (some false)) (some false)) (some false))
noncomputable section
def p9 (k : Nat) (L0 : List A1 → List A1 → Int → Option Bool) (a0 : List A1) (a1 : List A1) (v1 : Int) : Option Bool := (br (decide (v1 < (a0.length : Int))) (gd (decide (0 ≤ v1)) (gd (decide (v1 < (a0.length : Int))) (gd (decide (0 ≤ v1)) (gd (decide (v1 < (a1.length : Int))) (br (!((rd I4 a0 v1.toNat).1 == (rd I4 a1 v1.toNat).1 && ((rd I4 a0 v1.toNat).2.1 == (rd I4 a1 v1.toNat).2.1 && true))) (some false) (L0 a0 a1 (B5 (v1 + 1)))))))) (some true))
def K9 (k : Nat) : Nat → List A1 → List A1 → Int → Option Bool
 | 0, _, _, _ => none
 | n + 1, a0, a1, v1 => p9 k (K9 k n) a0 a1 v1
def Bo5 (k : Nat) (L0 : List A1 → List A1 → Int → Option Bool) (a0 : List A1) (a1 : List A1) : Option Bool := (br ((a0.length : Int) != (a1.length : Int)) (some false) (L0 a0 a1 0))
def Z0 (k : Nat) (a0 : List A1) (a1 : List A1) : Option Bool := Bo5 k (K9 k k) a0 a1
end
noncomputable section
def A40 (k : Nat) (L2 : Int → A6 → A6 → Option Bool) (v3 : Int) (a0 : A6) (a1 : A6) : Option Bool := (br (decide (v3 < (a0.2.2.1.length : Int))) (gd (decide (0 ≤ v3)) (gd (decide (v3 < (a0.2.2.1.length : Int))) (gd (decide (0 ≤ v3)) (gd (decide (v3 < (a1.2.2.1.length : Int))) (br (!((rd false a0.2.2.1 v3.toNat) == (rd false a1.2.2.1 v3.toNat))) (some false) (L2 (B5 (v3 + 1)) a0 a1)))))) (some true))
def A41 (k : Nat) (L1 : Int → A6 → A6 → Option Bool) (L2 : Int → A6 → A6 → Option Bool) (v2 : Int) (a0 : A6) (a1 : A6) : Option Bool := (br (decide (v2 < (a0.2.1.length : Int))) (gd (decide (0 ≤ v2)) (gd (decide (v2 < (a0.2.1.length : Int))) (gd (decide (0 ≤ v2)) (gd (decide (v2 < (a1.2.1.length : Int))) (bd (Z0 k (rd [] a0.2.1 v2.toNat) (rd [] a1.2.1 v2.toNat)) fun r2 => (br (!r2) (some false) (L1 (B5 (v2 + 1)) a0 a1))))))) (L2 0 a0 a1))
def A42 (k : Nat) (L0 : Int → A6 → A6 → Option Bool) (L1 : Int → A6 → A6 → Option Bool) (v1 : Int) (a0 : A6) (a1 : A6) : Option Bool := (br (decide (v1 < (a0.1.length : Int))) (gd (decide (0 ≤ v1)) (gd (decide (v1 < (a0.1.length : Int))) (gd (decide (0 ≤ v1)) (gd (decide (v1 < (a1.1.length : Int))) (bd (Ai9 k (rd D2 a0.1 v1.toNat) (rd D2 a1.1 v1.toNat)) fun r1 => (br (!r1) (some false) (L0 (B5 (v1 + 1)) a0 a1))))))) (L1 0 a0 a1))
def Ab9 (k : Nat) : Nat → Int → A6 → A6 → Option Bool
 | 0, _, _, _ => none
 | n + 1, v3, a0, a1 => A40 k (Ab9 k n) v3 a0 a1
def Ac0 (k : Nat) : Nat → Int → A6 → A6 → Option Bool
 | 0, _, _, _ => none
 | n + 1, v2, a0, a1 => A41 k (Ac0 k n) (Ab9 k n) v2 a0 a1
def U9 (k : Nat) : Nat → Int → A6 → A6 → Option Bool
 | 0, _, _, _ => none
 | n + 1, v1, a0, a1 => A42 k (U9 k n) (Ac0 k n) v1 a0 a1
def C53 (k : Nat) (L0 : Int → A6 → A6 → Option Bool) (a0 : A6) (a1 : A6) : Option Bool := (br ((a0.1.length : Int) != (a1.1.length : Int)) (some false) (br ((a0.2.1.length : Int) != (a1.2.1.length : Int)) (some false) (br ((a0.2.2.1.length : Int) != (a1.2.2.1.length : Int)) (some false) (L0 0 a0 a1))))
def Bo6 (k : Nat) (a0 : A6) (a1 : A6) : Option Bool := C53 k (U9 k k) a0 a1
end
noncomputable section
def B45 (k : Nat) (L0 : Int → A6 → List A0 → List (List A1) → List Bool → Option Bool) (v1 : Int) (a0 : A6) (xs2 : List A0) (xs3 : List (List A1)) (xs4 : List Bool) : Option Bool := (br (decide (v1 < (a0.1.length : Int))) (gd (decide (0 ≤ v1)) (gd (decide (v1 < (a0.1.length : Int))) (bd (A95 k (xs2, xs3, xs4, ()) (rd D2 a0.1 v1.toNat)) fun r1 => (br (!r1.2) (some false) (L0 (B5 (v1 + 1)) a0 r1.1.1 r1.1.2.1 r1.1.2.2.1))))) (bd (Bo6 k (xs2, xs3, xs4, ()) a0) fun r2 => (some r2)))
def u6 (k : Nat) : Nat → Int → A6 → List A0 → List (List A1) → List Bool → Option Bool
 | 0, _, _, _, _, _ => none
 | n + 1, v1, a0, xs2, xs3, xs4 => B45 k (u6 k n) v1 a0 xs2 xs3 xs4
def Dk5 (k : Nat) (L0 : Int → A6 → List A0 → List (List A1) → List Bool → Option Bool) (a0 : A6) : Option Bool := (br (decide ((a0.1.length : Int) > 40)) (some false) (L0 0 a0 [] [] []))
def B46 (k : Nat) (a0 : A6) : Option Bool := Dk5 k (u6 k k) a0
end
noncomputable section
def B47 (k : Nat) (L0 : Int → A6 → List Int → Option (List Int)) (v1 : Int) (a0 : A6) (xs2 : List Int) : Option (List Int) := (br (decide (v1 < (a0.1.length : Int))) (gd (decide (0 ≤ v1)) (gd (decide (v1 < (a0.2.2.1.length : Int))) (br (rd false a0.2.2.1 v1.toNat) (gd (decide (0 ≤ v1)) (gd (decide (v1 < (a0.1.length : Int))) (ng ((rd D2 a0.1 v1.toNat).1 == (rd D2 a0.1 v1.toNat).1 && (2 : Int) == 0) (br ((Int.tmod (rd D2 a0.1 v1.toNat).1 2) == 0) (gd (decide (0 ≤ v1)) (gd (decide (v1 < (a0.1.length : Int))) (gd (decide (xs2.length + [(rd D2 a0.1 v1.toNat).1].length ≤ A3)) (L0 (B5 (v1 + 1)) a0 (xs2 ++ [(rd D2 a0.1 v1.toNat).1]))))) (L0 (B5 (v1 + 1)) a0 xs2))))) (L0 (B5 (v1 + 1)) a0 xs2)))) (some xs2))
def u7 (k : Nat) : Nat → Int → A6 → List Int → Option (List Int)
 | 0, _, _, _ => none
 | n + 1, v1, a0, xs2 => B47 k (u7 k n) v1 a0 xs2
def Dk6 (k : Nat) (L0 : Int → A6 → List Int → Option (List Int)) (a0 : A6) : Option (List Int) := (L0 0 a0 [])
def B48 (k : Nat) (a0 : A6) : Option (List Int) := Dk6 k (u7 k k) a0
end
noncomputable section
def Bg0 (k : Nat) (L1 : Int → C0 → List Int → Option Bool) (v2 : Int) (a0 : C0) (r4 : List Int) : Option Bool := (br (decide (v2 < (a0.2.2.1.length : Int))) (gd (decide (0 ≤ v2)) (gd (decide (v2 < (a0.2.2.1.length : Int))) (br ((rd H1 a0.2.2.1 v2.toNat).1 != (B5 (v2 + 1))) (some false) (bd (M0 k (rd H1 a0.2.2.1 v2.toNat).2.2.1 r4) fun r5 => (br (!r5) (some false) (bd (D9 k (rd H1 a0.2.2.1 v2.toNat).2.1 0 (r4.length : Int)) fun r6 => (br (!r6) (some false) (L1 (B5 (v2 + 1)) a0 r4)))))))) (some true))
def Bg1 (k : Nat) (L0 : Int → C0 → Option Bool) (L1 : Int → C0 → List Int → Option Bool) (v1 : Int) (a0 : C0) : Option Bool := (br (decide (v1 < (a0.1.length : Int))) (gd (decide (0 ≤ v1)) (gd (decide (v1 < (a0.1.length : Int))) (bd (D9 k (rd A8 a0.1 v1.toNat).1 1 1000000) fun r2 => (br (!r2) (some false) (bd (D9 k (rd A8 a0.1 v1.toNat).2.1 0 1000000) fun r3 => (br (!r3) (some false) (br (decide ((((rd A8 a0.1 v1.toNat).2.2.1.size : Nat) : Int) > 40)) (some false) (br ((rd A8 a0.1 v1.toNat).2.1 == 0) (br (!((rd A8 a0.1 v1.toNat).2.2.1.toList == (⟨#[]⟩ : ByteArray).toList)) (some false) (br (decide (v1 > 0)) (gd (decide (0 ≤ (B5 (v1 - 1)))) (gd (decide ((B5 (v1 - 1)) < (a0.1.length : Int))) (br (decide ((rd A8 a0.1 (B5 (v1 - 1)).toNat).1 ≥ (rd A8 a0.1 v1.toNat).1)) (some false) (L0 (B5 (v1 + 1)) a0)))) (L0 (B5 (v1 + 1)) a0))) (br (decide (v1 > 0)) (gd (decide (0 ≤ (B5 (v1 - 1)))) (gd (decide ((B5 (v1 - 1)) < (a0.1.length : Int))) (br (decide ((rd A8 a0.1 (B5 (v1 - 1)).toNat).1 ≥ (rd A8 a0.1 v1.toNat).1)) (some false) (L0 (B5 (v1 + 1)) a0)))) (L0 (B5 (v1 + 1)) a0)))))))))) (bd (B48 k a0.2.1) fun r4 => (L1 0 a0 r4)))
def u9 (k : Nat) : Nat → Int → C0 → List Int → Option Bool
 | 0, _, _, _ => none
 | n + 1, v2, a0, r4 => Bg0 k (u9 k n) v2 a0 r4
def N9 (k : Nat) : Nat → Int → C0 → Option Bool
 | 0, _, _ => none
 | n + 1, v1, a0 => Bg1 k (N9 k n) (u9 k n) v1 a0
def Dk7 (k : Nat) (L0 : Int → C0 → Option Bool) (a0 : C0) : Option Bool := (br (decide ((a0.1.length : Int) > 3)) (some false) (br ((a0.2.2.1.length : Int) != 2) (some false) (bd (B46 k a0.2.1) fun r1 => (br (!r1) (some false) (L0 0 a0)))))
def Al6 (k : Nat) (a0 : C0) : Option Bool := Dk7 k (N9 k k) a0
end
def W7 (k : Nat) (a0 : ByteArray) : Option ByteArray := (bd (L9 k (a0.size : Int)) fun r1 => (gd (decide (r1.size + a0.size ≤ A3)) (some (r1 ++ a0))))
def n7 (k : Nat) (a0 : Int) : Option ByteArray := (some (B6 [(IntKind.wrap .u8 a0)]))
noncomputable section
def Ac1 (k : Nat) (L0 : ByteArray → Int → A0 → Option ByteArray) (v1 : ByteArray) (v2 : Int) (a0 : A0) : Option ByteArray := (br (decide (v2 < (a0.2.2.2.2.2.1.length : Int))) (gd (decide (0 ≤ v2)) (gd (decide (v2 < (a0.2.2.2.2.2.1.length : Int))) (bd (n7 k (rd 0 a0.2.2.2.2.2.1 v2.toNat)) fun r6 => (gd (decide (v1.size + r6.size ≤ A3)) (L0 (v1 ++ r6) (B5 (v2 + 1)) a0))))) (bd (W7 k a0.2.2.2.2.2.2.1) fun r7 => (gd (decide (v1.size + r7.size ≤ A3)) (some (v1 ++ r7)))))
def O2 (k : Nat) : Nat → ByteArray → Int → A0 → Option ByteArray
 | 0, _, _, _ => none
 | n + 1, v1, v2, a0 => Ac1 k (O2 k n) v1 v2 a0
def A12 (k : Nat) (L0 : ByteArray → Int → A0 → Option ByteArray) (a0 : A0) : Option ByteArray := (bd (n7 k a0.2.1) fun r1 => (bd (n7 k a0.2.2.1) fun r2 => (gd (decide (r1.size + r2.size ≤ A3)) (bd (n7 k a0.2.2.2.1) fun r3 => (gd (decide ((r1 ++ r2).size + r3.size ≤ A3)) (bd (n7 k a0.2.2.2.2.1) fun r4 => (gd (decide (((r1 ++ r2) ++ r3).size + r4.size ≤ A3)) (bd (L9 k (a0.2.2.2.2.2.1.length : Int)) fun r5 => (gd (decide ((((r1 ++ r2) ++ r3) ++ r4).size + r5.size ≤ A3)) (L0 ((((r1 ++ r2) ++ r3) ++ r4) ++ r5) 0 a0))))))))))
def n8 (k : Nat) (a0 : A0) : Option ByteArray := A12 k (O2 k k) a0
end
noncomputable section
def Al7 (k : Nat) (L0 : ByteArray → Int → A0 → Option (ByteArray × Bool)) (v1 : ByteArray) (v2 : Int) (a0 : A0) : Option (ByteArray × Bool) := (br (decide (v2 < (a0.2.2.2.2.2.2.2.1.length : Int))) (gd (decide (0 ≤ v2)) (gd (decide (v2 < (a0.2.2.2.2.2.2.2.1.length : Int))) (bd (L9 k (rd 0 a0.2.2.2.2.2.2.2.1 v2.toNat)) fun r5 => (gd (decide (v1.size + r5.size ≤ A3)) (L0 (v1 ++ r5) (B5 (v2 + 1)) a0))))) (bd (L9 k a0.2.2.2.2.2.2.2.2.1) fun r6 => (gd (decide (v1.size + r6.size ≤ A3)) (some ((v1 ++ r6), true)))))
def T2 (k : Nat) : Nat → ByteArray → Int → A0 → Option (ByteArray × Bool)
 | 0, _, _, _ => none
 | n + 1, v1, v2, a0 => Al7 k (T2 k n) v1 v2 a0
def Cg6 (k : Nat) (L0 : ByteArray → Int → A0 → Option (ByteArray × Bool)) (a0 : A0) : Option (ByteArray × Bool) := (bd (I9 k a0) fun r1 => (br (!r1) (some ((⟨#[]⟩ : ByteArray), false)) (bd (L9 k a0.1) fun r2 => (bd (n8 k a0) fun r3 => (gd (decide (r2.size + r3.size ≤ A3)) (bd (L9 k (a0.2.2.2.2.2.2.2.1.length : Int)) fun r4 => (gd (decide ((r2 ++ r3).size + r4.size ≤ A3)) (L0 ((r2 ++ r3) ++ r4) 0 a0))))))))
def Ax0 (k : Nat) (a0 : A0) : Option (ByteArray × Bool) := Cg6 k (T2 k k) a0
end
noncomputable section
def Bj1 (k : Nat) (L2 : Int → C0 → List Int → Option (ByteArray × Bool)) (v5 : Int) (a0 : C0) (xs4 : List Int) : Option (ByteArray × Bool) := (br (decide (v5 < (a0.2.2.1.length : Int))) (gd (decide (0 ≤ v5)) (gd (decide (v5 < (a0.2.2.1.length : Int))) (bd (L9 k (rd H1 a0.2.2.1 v5.toNat).2.1) fun r9 => (gd (decide (xs4.length + (D3 r9).length ≤ A3)) (L2 (B5 (v5 + 1)) a0 (xs4 ++ (D3 r9))))))) (br (decide ((xs4.length : Int) > 20000)) (some ((⟨#[]⟩ : ByteArray), false)) (some ((B6 xs4), true))))
def Bj2 (k : Nat) (L1 : Int → C0 → List Int → Option (ByteArray × Bool)) (L2 : Int → C0 → List Int → Option (ByteArray × Bool)) (v3 : Int) (a0 : C0) (xs4 : List Int) : Option (ByteArray × Bool) := (br (decide (v3 < (a0.2.1.1.length : Int))) (gd (decide (0 ≤ v3)) (gd (decide (v3 < (a0.2.1.1.length : Int))) (bd (Ax0 k (rd D2 a0.2.1.1 v3.toNat)) fun r7 => (bd (W7 k r7.1) fun r8 => (gd (decide (xs4.length + (D3 r8).length ≤ A3)) (L1 (B5 (v3 + 1)) a0 (xs4 ++ (D3 r8)))))))) (L2 0 a0 xs4))
def Bj3 (k : Nat) (L0 : Int → C0 → List Int → Option (ByteArray × Bool)) (L1 : Int → C0 → List Int → Option (ByteArray × Bool)) (v1 : Int) (a0 : C0) (xs2 : List Int) : Option (ByteArray × Bool) := (br (decide (v1 < (a0.1.length : Int))) (gd (decide (0 ≤ v1)) (gd (decide (v1 < (a0.1.length : Int))) (bd (L9 k (rd A8 a0.1 v1.toNat).1) fun r3 => (bd (L9 k (rd A8 a0.1 v1.toNat).2.1) fun r4 => (gd (decide (r3.size + r4.size ≤ A3)) (bd (W7 k (rd A8 a0.1 v1.toNat).2.2.1) fun r5 => (gd (decide ((r3 ++ r4).size + r5.size ≤ A3)) (gd (decide (xs2.length + (D3 ((r3 ++ r4) ++ r5)).length ≤ A3)) (L0 (B5 (v1 + 1)) a0 (xs2 ++ (D3 ((r3 ++ r4) ++ r5)))))))))))) (bd (L9 k (a0.2.1.1.length : Int)) fun r6 => (gd (decide (xs2.length + (D3 r6).length ≤ A3)) (L1 0 a0 (xs2 ++ (D3 r6))))))
def n9 (k : Nat) : Nat → Int → C0 → List Int → Option (ByteArray × Bool)
 | 0, _, _, _ => none
 | n + 1, v5, a0, xs4 => Bj1 k (n9 k n) v5 a0 xs4
def o0 (k : Nat) : Nat → Int → C0 → List Int → Option (ByteArray × Bool)
 | 0, _, _, _ => none
 | n + 1, v3, a0, xs4 => Bj2 k (o0 k n) (n9 k n) v3 a0 xs4
def W8 (k : Nat) : Nat → Int → C0 → List Int → Option (ByteArray × Bool)
 | 0, _, _, _ => none
 | n + 1, v1, a0, xs2 => Bj3 k (W8 k n) (o0 k n) v1 a0 xs2
def Cr0 (k : Nat) (L0 : Int → C0 → List Int → Option (ByteArray × Bool)) (a0 : C0) : Option (ByteArray × Bool) := (bd (Al6 k a0) fun r1 => (br (!r1) (some ((⟨#[]⟩ : ByteArray), false)) (bd (L9 k (a0.1.length : Int)) fun r2 => (L0 0 a0 (D3 r2)))))
def Ah8 (k : Nat) (a0 : C0) : Option (ByteArray × Bool) := Cr0 k (W8 k k) a0
end
noncomputable section
def Cr1 (k : Nat) (L0 : Int → List J5 → Option C0) (v1 : Int) (xs2 : List J5) : Option C0 := (br (decide (v1 ≤ 2)) (gd (decide (xs2.length + ([(v1, 0, [], ())] : List J5).length ≤ A3)) (L0 (B5 (v1 + 1)) (xs2 ++ ([(v1, 0, [], ())] : List J5)))) (some ([], ([], [], [], ()), xs2, ())))
def A43 (k : Nat) : Nat → Int → List J5 → Option C0
 | 0, _, _ => none
 | n + 1, v1, xs2 => Cr1 k (A43 k n) v1 xs2
def C54 (k : Nat) (L0 : Int → List J5 → Option C0) : Option C0 := (L0 1 [])
def Bo7 (k : Nat) : Option C0 := C54 k (A43 k k)
end
def w5 (k : Nat) (a0 : Int) : Option Int := (br (decide (a0 < 10)) (some (IntKind.wrap .u8 (B5 (48 + a0)))) (some (IntKind.wrap .u8 (B5 ((B5 (97 + a0)) - 10)))))
noncomputable section
def Bt7 (k : Nat) (L0 : Int → Bool → ByteArray → Option ByteArray) (a0 : Int) (v1 : Bool) (v2 : ByteArray) : Option ByteArray := (br (a0 != 0) (ng (a0 == a0 && (10 : Int) == 0) (br (decide ((Int.tmod a0 10) < 0)) (bd (w5 k (B5 (0 - (Int.tmod a0 10)))) fun r1 => (gd (decide ((B6 [r1]).size + v2.size ≤ A3)) (ng (a0 == a0 && (10 : Int) == 0) (L0 (B5 (Int.tdiv a0 10)) v1 ((B6 [r1]) ++ v2))))) (bd (w5 k (Int.tmod a0 10)) fun r2 => (gd (decide ((B6 [r2]).size + v2.size ≤ A3)) (ng (a0 == a0 && (10 : Int) == 0) (L0 (B5 (Int.tdiv a0 10)) v1 ((B6 [r2]) ++ v2))))))) (br v1 (gd (decide ((⟨#[45]⟩ : ByteArray).size + v2.size ≤ A3)) (some ((⟨#[45]⟩ : ByteArray) ++ v2))) (some v2)))
def i7 (k : Nat) : Nat → Int → Bool → ByteArray → Option ByteArray
 | 0, _, _, _ => none
 | n + 1, a0, v1, v2 => Bt7 k (i7 k n) a0 v1 v2
def C55 (k : Nat) (L0 : Int → Bool → ByteArray → Option ByteArray) (a0 : Int) : Option ByteArray := (br (a0 == 0) (some (⟨#[48]⟩ : ByteArray)) (L0 a0 (decide (a0 < 0)) (⟨#[]⟩ : ByteArray)))
def Z1 (k : Nat) (a0 : Int) : Option ByteArray := C55 k (i7 k k) a0
end
def At0 (k : Nat) (a0 : A0) : Option Bool := (bd (Ai9 k a0 (0, 0, 0, 0, 0, [], ByteArray.empty, [], 0, ())) fun r1 => (some r1))
def Aj0 (k : Nat) (a0 : D1) : Option Bool := (bd (D9 k a0.1 1 5) fun r1 => (br (!r1) (some false) (bd (D9 k a0.2.1 0 1000000) fun r2 => (br (!r2) (some false) (bd (D9 k a0.2.2.1 0 1000000) fun r3 => (br (!r3) (some false) (br (a0.1 != 2) (br (a0.1 != 3) (bd (At0 k a0.2.2.2.1) fun r4 => (br (!r4) (some false) (br (a0.1 != 4) (br (a0.2.2.2.2.1 != 0) (some false) (br (a0.2.2.2.2.2.1 != 0) (some false) (br (a0.1 == 1) (br (a0.2.1 == 0) (some (a0.2.2.1 == 0)) (some false)) (br (a0.1 == 2) (bd (U2 k a0.2.2.2.1) fun r5 => (br r5 (br (a0.2.2.2.1.1 == 0) (br (a0.2.2.2.1.2.2.2.2.2.2.2.2.1 == 0) (some ((a0.2.2.2.1.2.2.2.2.2.2.2.1.length : Int) == 0)) (some false)) (some false)) (some false))) (br (a0.1 == 3) (bd (I9 k a0.2.2.2.1) fun r6 => (br r6 (ng (a0.2.2.2.1.1 == a0.2.2.2.1.1 && (2 : Int) == 0) (some ((Int.tmod a0.2.2.2.1.1 2) == 1))) (some false))) (br (a0.1 == 4) (bd (D9 k a0.2.2.2.2.1 1 2) fun r7 => (br r7 (bd (D9 k a0.2.2.2.2.2.1 0 1000000) fun r8 => (some r8)) (some false))) (some true))))))) (br (a0.1 == 1) (br (a0.2.1 == 0) (some (a0.2.2.1 == 0)) (some false)) (br (a0.1 == 2) (bd (U2 k a0.2.2.2.1) fun r9 => (br r9 (br (a0.2.2.2.1.1 == 0) (br (a0.2.2.2.1.2.2.2.2.2.2.2.2.1 == 0) (some ((a0.2.2.2.1.2.2.2.2.2.2.2.1.length : Int) == 0)) (some false)) (some false)) (some false))) (br (a0.1 == 3) (bd (I9 k a0.2.2.2.1) fun r10 => (br r10 (ng (a0.2.2.2.1.1 == a0.2.2.2.1.1 && (2 : Int) == 0) (some ((Int.tmod a0.2.2.2.1.1 2) == 1))) (some false))) (br (a0.1 == 4) (bd (D9 k a0.2.2.2.2.1 1 2) fun r11 => (br r11 (bd (D9 k a0.2.2.2.2.2.1 0 1000000) fun r12 => (some r12)) (some false))) (some true)))))))) (br (a0.1 != 4) (br (a0.2.2.2.2.1 != 0) (some false) (br (a0.2.2.2.2.2.1 != 0) (some false) (br (a0.1 == 1) (br (a0.2.1 == 0) (some (a0.2.2.1 == 0)) (some false)) (br (a0.1 == 2) (bd (U2 k a0.2.2.2.1) fun r13 => (br r13 (br (a0.2.2.2.1.1 == 0) (br (a0.2.2.2.1.2.2.2.2.2.2.2.2.1 == 0) (some ((a0.2.2.2.1.2.2.2.2.2.2.2.1.length : Int) == 0)) (some false)) (some false)) (some false))) (br (a0.1 == 3) (bd (I9 k a0.2.2.2.1) fun r14 => (br r14 (ng (a0.2.2.2.1.1 == a0.2.2.2.1.1 && (2 : Int) == 0) (some ((Int.tmod a0.2.2.2.1.1 2) == 1))) (some false))) (br (a0.1 == 4) (bd (D9 k a0.2.2.2.2.1 1 2) fun r15 => (br r15 (bd (D9 k a0.2.2.2.2.2.1 0 1000000) fun r16 => (some r16)) (some false))) (some true))))))) (br (a0.1 == 1) (br (a0.2.1 == 0) (some (a0.2.2.1 == 0)) (some false)) (br (a0.1 == 2) (bd (U2 k a0.2.2.2.1) fun r17 => (br r17 (br (a0.2.2.2.1.1 == 0) (br (a0.2.2.2.1.2.2.2.2.2.2.2.2.1 == 0) (some ((a0.2.2.2.1.2.2.2.2.2.2.2.1.length : Int) == 0)) (some false)) (some false)) (some false))) (br (a0.1 == 3) (bd (I9 k a0.2.2.2.1) fun r18 => (br r18 (ng (a0.2.2.2.1.1 == a0.2.2.2.1.1 && (2 : Int) == 0) (some ((Int.tmod a0.2.2.2.1.1 2) == 1))) (some false))) (br (a0.1 == 4) (bd (D9 k a0.2.2.2.2.1 1 2) fun r19 => (br r19 (bd (D9 k a0.2.2.2.2.2.1 0 1000000) fun r20 => (some r20)) (some false))) (some true))))))) (br (a0.1 != 4) (br (a0.2.2.2.2.1 != 0) (some false) (br (a0.2.2.2.2.2.1 != 0) (some false) (br (a0.1 == 1) (br (a0.2.1 == 0) (some (a0.2.2.1 == 0)) (some false)) (br (a0.1 == 2) (bd (U2 k a0.2.2.2.1) fun r21 => (br r21 (br (a0.2.2.2.1.1 == 0) (br (a0.2.2.2.1.2.2.2.2.2.2.2.2.1 == 0) (some ((a0.2.2.2.1.2.2.2.2.2.2.2.1.length : Int) == 0)) (some false)) (some false)) (some false))) (br (a0.1 == 3) (bd (I9 k a0.2.2.2.1) fun r22 => (br r22 (ng (a0.2.2.2.1.1 == a0.2.2.2.1.1 && (2 : Int) == 0) (some ((Int.tmod a0.2.2.2.1.1 2) == 1))) (some false))) (br (a0.1 == 4) (bd (D9 k a0.2.2.2.2.1 1 2) fun r23 => (br r23 (bd (D9 k a0.2.2.2.2.2.1 0 1000000) fun r24 => (some r24)) (some false))) (some true))))))) (br (a0.1 == 1) (br (a0.2.1 == 0) (some (a0.2.2.1 == 0)) (some false)) (br (a0.1 == 2) (bd (U2 k a0.2.2.2.1) fun r25 => (br r25 (br (a0.2.2.2.1.1 == 0) (br (a0.2.2.2.1.2.2.2.2.2.2.2.2.1 == 0) (some ((a0.2.2.2.1.2.2.2.2.2.2.2.1.length : Int) == 0)) (some false)) (some false)) (some false))) (br (a0.1 == 3) (bd (I9 k a0.2.2.2.1) fun r26 => (br r26 (ng (a0.2.2.2.1.1 == a0.2.2.2.1.1 && (2 : Int) == 0) (some ((Int.tmod a0.2.2.2.1.1 2) == 1))) (some false))) (br (a0.1 == 4) (bd (D9 k a0.2.2.2.2.1 1 2) fun r27 => (br r27 (bd (D9 k a0.2.2.2.2.2.1 0 1000000) fun r28 => (some r28)) (some false))) (some true)))))))))))))
def At1 (k : Nat) (a0 : A0) : Option A0 := (gd (decide (([] : List Int).length + a0.2.2.2.2.2.1.length ≤ A3)) (gd (decide (([] : List Int).length + a0.2.2.2.2.2.2.2.1.length ≤ A3)) (some (a0.1, a0.2.1, a0.2.2.1, a0.2.2.2.1, a0.2.2.2.2.1, (([] : List Int) ++ a0.2.2.2.2.2.1), a0.2.2.2.2.2.2.1, (([] : List Int) ++ a0.2.2.2.2.2.2.2.1), a0.2.2.2.2.2.2.2.2))))
noncomputable section
def At2 (k : Nat) (L0 : List A0 → Int → List A0 → Option (List A0)) (a0 : List A0) (v1 : Int) (xs2 : List A0) : Option (List A0) := (br (decide (v1 < (a0.length : Int))) (gd (decide (0 ≤ v1)) (gd (decide (v1 < (a0.length : Int))) (bd (At1 k (rd D2 a0 v1.toNat)) fun r1 => (gd (decide (xs2.length + ([r1] : List A0).length ≤ A3)) (L0 a0 (B5 (v1 + 1)) (xs2 ++ ([r1] : List A0))))))) (some xs2))
def O3 (k : Nat) : Nat → List A0 → Int → List A0 → Option (List A0)
 | 0, _, _, _ => none
 | n + 1, a0, v1, xs2 => At2 k (O3 k n) a0 v1 xs2
def B08 (k : Nat) (L0 : List A0 → Int → List A0 → Option (List A0)) (a0 : List A0) : Option (List A0) := (L0 a0 0 ([] : List A0))
def Ae4 (k : Nat) (a0 : List A0) : Option (List A0) := B08 k (O3 k k) a0
end
noncomputable section
def Bt8 (k : Nat) (L0 : Int → A6 → List A0 → List (List A1) → Option A6) (v1 : Int) (a0 : A6) (r1 : List A0) (xs2 : List (List A1)) : Option A6 := (br (decide (v1 < (a0.2.1.length : Int))) (gd (decide (0 ≤ v1)) (gd (decide (v1 < (a0.2.1.length : Int))) (gd (decide (([] : List A1).length + (rd [] a0.2.1 v1.toNat).length ≤ A3)) (gd (decide (xs2.length + [(([] : List A1) ++ (rd [] a0.2.1 v1.toNat))].length ≤ A3)) (L0 (B5 (v1 + 1)) a0 r1 (xs2 ++ [(([] : List A1) ++ (rd [] a0.2.1 v1.toNat))])))))) (some (r1, xs2, (([] : List Bool) ++ a0.2.2.1), ())))
def i8 (k : Nat) : Nat → Int → A6 → List A0 → List (List A1) → Option A6
 | 0, _, _, _, _ => none
 | n + 1, v1, a0, r1, xs2 => Bt8 k (i8 k n) v1 a0 r1 xs2
def C56 (k : Nat) (L0 : Int → A6 → List A0 → List (List A1) → Option A6) (a0 : A6) : Option A6 := (bd (Ae4 k a0.1) fun r1 => (gd (decide (([] : List Bool).length + a0.2.2.1.length ≤ A3)) (L0 0 a0 r1 [])))
def A74 (k : Nat) (a0 : A6) : Option A6 := C56 k (i8 k k) a0
end
noncomputable section
def Bt9 (k : Nat) (L0 : Int → C0 → A6 → List J5 → Option C0) (v1 : Int) (a0 : C0) (r1 : A6) (xs2 : List J5) : Option C0 := (br (decide (v1 < (a0.2.2.1.length : Int))) (gd (decide (0 ≤ v1)) (gd (decide (v1 < (a0.2.2.1.length : Int))) (gd (decide (([] : List Int).length + (rd H1 a0.2.2.1 v1.toNat).2.2.1.length ≤ A3)) (gd (decide (xs2.length + ([((rd H1 a0.2.2.1 v1.toNat).1, (rd H1 a0.2.2.1 v1.toNat).2.1, (([] : List Int) ++ (rd H1 a0.2.2.1 v1.toNat).2.2.1), ())] : List J5).length ≤ A3)) (L0 (B5 (v1 + 1)) a0 r1 (xs2 ++ ([((rd H1 a0.2.2.1 v1.toNat).1, (rd H1 a0.2.2.1 v1.toNat).2.1, (([] : List Int) ++ (rd H1 a0.2.2.1 v1.toNat).2.2.1), ())] : List J5))))))) (some ((([] : List D4) ++ a0.1), r1, xs2, ())))
def j0 (k : Nat) : Nat → Int → C0 → A6 → List J5 → Option C0
 | 0, _, _, _, _ => none
 | n + 1, v1, a0, r1, xs2 => Bt9 k (j0 k n) v1 a0 r1 xs2
def C57 (k : Nat) (L0 : Int → C0 → A6 → List J5 → Option C0) (a0 : C0) : Option C0 := (gd (decide (([] : List D4).length + a0.1.length ≤ A3)) (bd (A74 k a0.2.1) fun r1 => (L0 0 a0 r1 [])))
def Aj1 (k : Nat) (a0 : C0) : Option C0 := C57 k (j0 k k) a0
end
def At3 (k : Nat) (a0 : A6) (a1 : A0) : Option (A6 × Bool) := (br ((a0.1.length : Int) != (a0.2.1.length : Int)) (some (([], [], [], ()), false)) (br ((a0.1.length : Int) != (a0.2.2.1.length : Int)) (some (([], [], [], ()), false)) (bd (A95 k a0 a1) fun r1 => (bd (A74 k r1.1) fun r2 => (some (r2, r1.2))))))
noncomputable section
def Bg2 (k : Nat) (L1 : Int → Bool → Int → A6 → List Int → Option (List Int)) (v1 : Int) (a0 : A6) (xs2 : List Int) : Option (List Int) := (br (decide (v1 < (a0.1.length : Int))) (L1 v1 false 0 a0 xs2) (some xs2))
def Bg3 (k : Nat) (L1 : Int → Bool → Int → A6 → List Int → Option (List Int)) (L0 : Int → A6 → List Int → Option (List Int)) (v1 : Int) (v3 : Bool) (v4 : Int) (a0 : A6) (xs2 : List Int) : Option (List Int) := (br (decide (v4 < (a0.1.length : Int))) (br v3 (L1 v1 true (B5 (v4 + 1)) a0 xs2) (gd (decide (0 ≤ v4)) (gd (decide (v4 < (a0.1.length : Int))) (gd (decide (0 ≤ v1)) (gd (decide (v1 < (a0.1.length : Int))) (bd (Av3 k (rd D2 a0.1 v4.toNat).2.2.2.2.2.2.2.1 (rd D2 a0.1 v1.toNat).1) fun r1 => (L1 v1 r1 (B5 (v4 + 1)) a0 xs2))))))) (br (!v3) (gd (decide (0 ≤ v1)) (gd (decide (v1 < (a0.1.length : Int))) (bd (Bo2 k xs2 (rd D2 a0.1 v1.toNat).1) fun r2 => (L0 (B5 (v1 + 1)) a0 r2)))) (L0 (B5 (v1 + 1)) a0 xs2)))
def Ax1 (k : Nat) : Nat → (Int → A6 → List Int → Option (List Int)) × (Int → Bool → Int → A6 → List Int → Option (List Int))
 | 0 => (fun _ _ _ => none, fun _ _ _ _ _ => none)
 | n + 1 => (Bg2 k (Ax1 k n).2, Bg3 k (Ax1 k n).2 (Ax1 k n).1)
def w6 (k : Nat) (n : Nat) : Int → A6 → List Int → Option (List Int) := (Ax1 k n).1
def Ax2 (k : Nat) (n : Nat) : Int → Bool → Int → A6 → List Int → Option (List Int) := (Ax1 k n).2
theorem E15 (k : Nat) (n : Nat) (v1 : Int) (a0 : A6) (xs2 : List Int) : w6 k (n + 1) v1 a0 xs2 = Bg2 k (Ax2 k n) v1 a0 xs2 := rfl
theorem E16 (k : Nat) (n : Nat) (v1 : Int) (v3 : Bool) (v4 : Int) (a0 : A6) (xs2 : List Int) : Ax2 k (n + 1) v1 v3 v4 a0 xs2 = Bg3 k (Ax2 k n) (w6 k n) v1 v3 v4 a0 xs2 := rfl
def Dk8 (k : Nat) (L0 : Int → A6 → List Int → Option (List Int)) (a0 : A6) : Option (List Int) := (L0 0 a0 [])
def Al8 (k : Nat) (a0 : A6) : Option (List Int) := Dk8 k (w6 k k) a0
end
def Bo8 (k : Nat) (a0 : A6) : Option (List A1) := (bd (Al8 k a0) fun r1 => (bd (M6 k a0 r1) fun r2 => (some r2.1)))
noncomputable section
def Bu0 (k : Nat) (L0 : Int → A6 → List Int → List A1 → Option (List Int)) (v1 : Int) (a0 : A6) (xs2 : List Int) (r1 : List A1) : Option (List Int) := (br (decide (v1 ≤ 5)) (bd (Q5 k a0.1 r1 v1) fun r2 => (br (r2 == 2) (gd (decide (xs2.length + [v1].length ≤ A3)) (L0 (B5 (v1 + 1)) a0 (xs2 ++ [v1]) r1)) (L0 (B5 (v1 + 1)) a0 xs2 r1))) (some xs2))
def j1 (k : Nat) : Nat → Int → A6 → List Int → List A1 → Option (List Int)
 | 0, _, _, _, _ => none
 | n + 1, v1, a0, xs2, r1 => Bu0 k (j1 k n) v1 a0 xs2 r1
def C58 (k : Nat) (L0 : Int → A6 → List Int → List A1 → Option (List Int)) (a0 : A6) : Option (List Int) := (bd (Bo8 k a0) fun r1 => (L0 1 a0 [] r1))
def Bo9 (k : Nat) (a0 : A6) : Option (List Int) := C58 k (j1 k k) a0
end
def Cr2 (k : Nat) (a0 : A6) (a1 : Int) (a2 : A0) : Option A0 := (bd (At1 k a2) fun r1 => (bd (D9 k a1 0 1000000) fun r2 => (br r2 (br (a2.2.1 != 1) (bd (Al8 k a0) fun r3 => (br (decide ((B5 ((r3.length : Int) - 3)) < 0)) (gd (decide (0 ≤ (r3.length : Int))) (gd (decide (([] : List Int).length + (r3.drop 0).length ≤ A3)) (bd (J0 k a0 (([] : List Int) ++ (r3.drop 0))) fun r4 => (some ((B5 (2 * a1)), r1.2.1, r1.2.2.1, r1.2.2.2.1, r1.2.2.2.2.1, r1.2.2.2.2.2.1, r1.2.2.2.2.2.2.1, (([] : List Int) ++ (r3.drop 0)), r4, ()))))) (gd (decide (0 ≤ (B5 ((r3.length : Int) - 3)))) (gd (decide ((B5 ((r3.length : Int) - 3)) ≤ (r3.length : Int))) (gd (decide (([] : List Int).length + (r3.drop (B5 ((r3.length : Int) - 3)).toNat).length ≤ A3)) (bd (J0 k a0 (([] : List Int) ++ (r3.drop (B5 ((r3.length : Int) - 3)).toNat))) fun r5 => (some ((B5 (2 * a1)), r1.2.1, r1.2.2.1, r1.2.2.2.1, r1.2.2.2.2.1, r1.2.2.2.2.2.1, r1.2.2.2.2.2.2.1, (([] : List Int) ++ (r3.drop (B5 ((r3.length : Int) - 3)).toNat)), r5, ())))))))) (bd (J0 k a0 []) fun r6 => (some ((B5 (2 * a1)), r1.2.1, r1.2.2.1, r1.2.2.2.1, r1.2.2.2.2.1, r1.2.2.2.2.2.1, r1.2.2.2.2.2.2.1, [], r6, ())))) (br (a2.2.1 != 1) (bd (Al8 k a0) fun r7 => (br (decide ((B5 ((r7.length : Int) - 3)) < 0)) (gd (decide (0 ≤ (r7.length : Int))) (gd (decide (([] : List Int).length + (r7.drop 0).length ≤ A3)) (bd (J0 k a0 (([] : List Int) ++ (r7.drop 0))) fun r8 => (some (0, r1.2.1, r1.2.2.1, r1.2.2.2.1, r1.2.2.2.2.1, r1.2.2.2.2.2.1, r1.2.2.2.2.2.2.1, (([] : List Int) ++ (r7.drop 0)), r8, ()))))) (gd (decide (0 ≤ (B5 ((r7.length : Int) - 3)))) (gd (decide ((B5 ((r7.length : Int) - 3)) ≤ (r7.length : Int))) (gd (decide (([] : List Int).length + (r7.drop (B5 ((r7.length : Int) - 3)).toNat).length ≤ A3)) (bd (J0 k a0 (([] : List Int) ++ (r7.drop (B5 ((r7.length : Int) - 3)).toNat))) fun r9 => (some (0, r1.2.1, r1.2.2.1, r1.2.2.2.1, r1.2.2.2.2.1, r1.2.2.2.2.2.1, r1.2.2.2.2.2.2.1, (([] : List Int) ++ (r7.drop (B5 ((r7.length : Int) - 3)).toNat)), r9, ())))))))) (bd (J0 k a0 []) fun r10 => (some (0, r1.2.1, r1.2.2.1, r1.2.2.2.1, r1.2.2.2.2.1, r1.2.2.2.2.2.1, r1.2.2.2.2.2.2.1, [], r10, ())))))))
noncomputable section
def Bu1 (k : Nat) (L0 : Int → Int → List D4 → C0 → Option (C0 × ByteArray × Bool)) (a1 : Int) (v1 : Int) (xs2 : List D4) (r4 : C0) : Option (C0 × ByteArray × Bool) := (br (decide (v1 < (r4.1.length : Int))) (br (decide (v1 > 0)) (gd (decide (0 ≤ v1)) (gd (decide (v1 < (r4.1.length : Int))) (gd (decide (xs2.length + ([(rd A8 r4.1 v1.toNat)] : List D4).length ≤ A3)) (L0 a1 (B5 (v1 + 1)) (xs2 ++ ([(rd A8 r4.1 v1.toNat)] : List D4)) r4)))) (br (decide ((r4.1.length : Int) < 3)) (gd (decide (0 ≤ v1)) (gd (decide (v1 < (r4.1.length : Int))) (gd (decide (xs2.length + ([(rd A8 r4.1 v1.toNat)] : List D4).length ≤ A3)) (L0 a1 (B5 (v1 + 1)) (xs2 ++ ([(rd A8 r4.1 v1.toNat)] : List D4)) r4)))) (L0 a1 (B5 (v1 + 1)) xs2 r4))) (gd (decide (xs2.length + ([(a1, 0, ByteArray.empty, ())] : List D4).length ≤ A3)) (bd (Z1 k a1) fun r5 => (gd (decide ((⟨#[111, 112, 101, 110, 32]⟩ : ByteArray).size + r5.size ≤ A3)) (bd (Al6 k ((xs2 ++ ([(a1, 0, ByteArray.empty, ())] : List D4)), r4.2)) fun r6 => (br (!r6) (some (([], ([], [], [], ()), [], ()), (⟨#[]⟩ : ByteArray), false)) (bd (Aj1 k ((xs2 ++ ([(a1, 0, ByteArray.empty, ())] : List D4)), r4.2)) fun r7 => (some (r7, ((⟨#[111, 112, 101, 110, 32]⟩ : ByteArray) ++ r5), true)))))))))
def Ac2 (k : Nat) (L1 : Int → ByteArray → Int → D1 → List D4 → List A0 → List (List A1) → List Bool → List J5 → Option (C0 × ByteArray × Bool)) (L2 : Int → A0 → D1 → List D4 → Int → (A6 × Bool) → List J5 → Int → ByteArray → Option (C0 × ByteArray × Bool)) (L3 : ByteArray → Int → List Int → D1 → List D4 → Int → List A0 → List (List A1) → List Bool → List J5 → Int → ByteArray → Option (C0 × ByteArray × Bool)) (a1 : Int) (v3 : ByteArray) (v4 : Int) (a2 : D1) (xs5 : List D4) (xs6 : List A0) (xs7 : List (List A1)) (xs8 : List Bool) (xs9 : List J5) : Option (C0 × ByteArray × Bool) := (br (decide (v4 < (xs5.length : Int))) (gd (decide (0 ≤ v4)) (gd (decide (v4 < (xs5.length : Int))) (br ((rd A8 xs5 v4.toNat).1 == a2.2.1) (gd (decide (0 ≤ v4)) (gd (decide (v4 < (xs5.length : Int))) (br (decide (a2.2.2.1 > (B5 ((rd A8 xs5 v4.toNat).2.1 + 1)))) (L1 a1 (⟨#[103, 97, 112]⟩ : ByteArray) (B5 ((xs5.length : Int) + 1)) a2 xs5 xs6 xs7 xs8 xs9) (br (decide (a2.2.2.1 < (rd A8 xs5 v4.toNat).2.1)) (L1 a1 (⟨#[111, 108, 100]⟩ : ByteArray) (B5 ((xs5.length : Int) + 1)) a2 xs5 xs6 xs7 xs8 xs9) (br (a2.2.2.1 == 0) (L1 a1 (⟨#[111, 108, 100]⟩ : ByteArray) (B5 ((xs5.length : Int) + 1)) a2 xs5 xs6 xs7 xs8 xs9) (br (a2.2.2.1 == (rd A8 xs5 v4.toNat).2.1) (L1 a1 (rd A8 xs5 v4.toNat).2.2.1 (B5 ((xs5.length : Int) + 1)) a2 xs5 xs6 xs7 xs8 xs9) (br (a2.1 == 2) (bd (Cr2 k (xs6, xs7, xs8, ()) a1 a2.2.2.2.1) fun r8 => (bd (At3 k (xs6, xs7, xs8, ()) r8) fun r9 => (br (!r9.2) (gd (decide (0 ≤ v4)) (gd (decide (v4 < (xs5.length : Int))) (L1 a1 (⟨#[114, 111, 111, 109]⟩ : ByteArray) (B5 ((((xs5.set v4.toNat ((rd A8 xs5 v4.toNat).1, a2.2.2.1, (⟨#[114, 111, 111, 109]⟩ : ByteArray), ())).length : Nat) : Int) + 1)) a2 (xs5.set v4.toNat ((rd A8 xs5 v4.toNat).1, a2.2.2.1, (⟨#[114, 111, 111, 109]⟩ : ByteArray), ())) xs6 xs7 xs8 xs9))) (gd (decide (0 ≤ (B5 ((r9.1.2.2.1.length : Int) - 1)))) (gd (decide ((B5 ((r9.1.2.2.1.length : Int) - 1)) < (r9.1.2.2.1.length : Int))) (br (!(rd false r9.1.2.2.1 (B5 ((r9.1.2.2.1.length : Int) - 1)).toNat)) (gd (decide (0 ≤ v4)) (gd (decide (v4 < (xs5.length : Int))) (L1 a1 (⟨#[100, 101, 110, 105, 101, 100]⟩ : ByteArray) (B5 ((((xs5.set v4.toNat ((rd A8 xs5 v4.toNat).1, a2.2.2.1, (⟨#[100, 101, 110, 105, 101, 100]⟩ : ByteArray), ())).length : Nat) : Int) + 1)) a2 (xs5.set v4.toNat ((rd A8 xs5 v4.toNat).1, a2.2.2.1, (⟨#[100, 101, 110, 105, 101, 100]⟩ : ByteArray), ())) xs6 xs7 xs8 xs9))) (L2 0 r8 a2 xs5 v4 r9 xs9 a1 v3))))))) (br (a2.1 == 3) (bd (At3 k (xs6, xs7, xs8, ()) a2.2.2.2.1) fun r11 => (br (!r11.2) (gd (decide (0 ≤ v4)) (gd (decide (v4 < (xs5.length : Int))) (L1 a1 (⟨#[114, 111, 111, 109]⟩ : ByteArray) (B5 ((((xs5.set v4.toNat ((rd A8 xs5 v4.toNat).1, a2.2.2.1, (⟨#[114, 111, 111, 109]⟩ : ByteArray), ())).length : Nat) : Int) + 1)) a2 (xs5.set v4.toNat ((rd A8 xs5 v4.toNat).1, a2.2.2.1, (⟨#[114, 111, 111, 109]⟩ : ByteArray), ())) xs6 xs7 xs8 xs9))) (gd (decide (0 ≤ (B5 ((r11.1.2.2.1.length : Int) - 1)))) (gd (decide ((B5 ((r11.1.2.2.1.length : Int) - 1)) < (r11.1.2.2.1.length : Int))) (br (rd false r11.1.2.2.1 (B5 ((r11.1.2.2.1.length : Int) - 1)).toNat) (bd (Z1 k a2.2.2.2.1.1) fun r12 => (gd (decide ((⟨#[103, 111, 116, 32]⟩ : ByteArray).size + r12.size ≤ A3)) (gd (decide (0 ≤ v4)) (gd (decide (v4 < (xs5.length : Int))) (L1 a1 ((⟨#[103, 111, 116, 32]⟩ : ByteArray) ++ r12) (B5 ((((xs5.set v4.toNat ((rd A8 xs5 v4.toNat).1, a2.2.2.1, ((⟨#[103, 111, 116, 32]⟩ : ByteArray) ++ r12), ())).length : Nat) : Int) + 1)) a2 (xs5.set v4.toNat ((rd A8 xs5 v4.toNat).1, a2.2.2.1, ((⟨#[103, 111, 116, 32]⟩ : ByteArray) ++ r12), ())) r11.1.1 r11.1.2.1 r11.1.2.2.1 xs9))))) (bd (Z1 k a2.2.2.2.1.1) fun r13 => (gd (decide ((⟨#[107, 101, 112, 116, 32]⟩ : ByteArray).size + r13.size ≤ A3)) (gd (decide (0 ≤ v4)) (gd (decide (v4 < (xs5.length : Int))) (L1 a1 ((⟨#[107, 101, 112, 116, 32]⟩ : ByteArray) ++ r13) (B5 ((((xs5.set v4.toNat ((rd A8 xs5 v4.toNat).1, a2.2.2.1, ((⟨#[107, 101, 112, 116, 32]⟩ : ByteArray) ++ r13), ())).length : Nat) : Int) + 1)) a2 (xs5.set v4.toNat ((rd A8 xs5 v4.toNat).1, a2.2.2.1, ((⟨#[107, 101, 112, 116, 32]⟩ : ByteArray) ++ r13), ())) r11.1.1 r11.1.2.1 r11.1.2.2.1 xs9)))))))))) (br (a2.1 == 4) (gd (decide (0 ≤ (B5 (a2.2.2.2.2.1 - 1)))) (gd (decide ((B5 (a2.2.2.2.2.1 - 1)) < (xs9.length : Int))) (br (decide (a2.2.2.2.2.2.1 > (((rd H1 xs9 (B5 (a2.2.2.2.2.1 - 1)).toNat).2.2.1.length : Nat) : Int))) (br (decide ((((rd H1 xs9 (B5 (a2.2.2.2.2.1 - 1)).toNat).2.2.1.length : Nat) : Int) > (rd H1 xs9 (B5 (a2.2.2.2.2.1 - 1)).toNat).2.1)) (gd (decide (0 ≤ v4)) (gd (decide (v4 < (xs5.length : Int))) (L1 a1 (⟨#[97, 99, 107, 101, 100]⟩ : ByteArray) (B5 ((((xs5.set v4.toNat ((rd A8 xs5 v4.toNat).1, a2.2.2.1, (⟨#[97, 99, 107, 101, 100]⟩ : ByteArray), ())).length : Nat) : Int) + 1)) a2 (xs5.set v4.toNat ((rd A8 xs5 v4.toNat).1, a2.2.2.1, (⟨#[97, 99, 107, 101, 100]⟩ : ByteArray), ())) xs6 xs7 xs8 (xs9.set (B5 (a2.2.2.2.2.1 - 1)).toNat ((rd H1 xs9 (B5 (a2.2.2.2.2.1 - 1)).toNat).1, (((rd H1 xs9 (B5 (a2.2.2.2.2.1 - 1)).toNat).2.2.1.length : Nat) : Int), (rd H1 xs9 (B5 (a2.2.2.2.2.1 - 1)).toNat).2.2))))) (gd (decide (0 ≤ v4)) (gd (decide (v4 < (xs5.length : Int))) (L1 a1 (⟨#[97, 99, 107, 101, 100]⟩ : ByteArray) (B5 ((((xs5.set v4.toNat ((rd A8 xs5 v4.toNat).1, a2.2.2.1, (⟨#[97, 99, 107, 101, 100]⟩ : ByteArray), ())).length : Nat) : Int) + 1)) a2 (xs5.set v4.toNat ((rd A8 xs5 v4.toNat).1, a2.2.2.1, (⟨#[97, 99, 107, 101, 100]⟩ : ByteArray), ())) xs6 xs7 xs8 xs9)))) (br (decide (a2.2.2.2.2.2.1 > (rd H1 xs9 (B5 (a2.2.2.2.2.1 - 1)).toNat).2.1)) (gd (decide (0 ≤ v4)) (gd (decide (v4 < (xs5.length : Int))) (L1 a1 (⟨#[97, 99, 107, 101, 100]⟩ : ByteArray) (B5 ((((xs5.set v4.toNat ((rd A8 xs5 v4.toNat).1, a2.2.2.1, (⟨#[97, 99, 107, 101, 100]⟩ : ByteArray), ())).length : Nat) : Int) + 1)) a2 (xs5.set v4.toNat ((rd A8 xs5 v4.toNat).1, a2.2.2.1, (⟨#[97, 99, 107, 101, 100]⟩ : ByteArray), ())) xs6 xs7 xs8 (xs9.set (B5 (a2.2.2.2.2.1 - 1)).toNat ((rd H1 xs9 (B5 (a2.2.2.2.2.1 - 1)).toNat).1, a2.2.2.2.2.2.1, (rd H1 xs9 (B5 (a2.2.2.2.2.1 - 1)).toNat).2.2))))) (gd (decide (0 ≤ v4)) (gd (decide (v4 < (xs5.length : Int))) (L1 a1 (⟨#[97, 99, 107, 101, 100]⟩ : ByteArray) (B5 ((((xs5.set v4.toNat ((rd A8 xs5 v4.toNat).1, a2.2.2.1, (⟨#[97, 99, 107, 101, 100]⟩ : ByteArray), ())).length : Nat) : Int) + 1)) a2 (xs5.set v4.toNat ((rd A8 xs5 v4.toNat).1, a2.2.2.1, (⟨#[97, 99, 107, 101, 100]⟩ : ByteArray), ())) xs6 xs7 xs8 xs9))))))) (bd (Bo9 k (xs6, xs7, xs8, ())) fun r14 => (L3 (⟨#[105, 110]⟩ : ByteArray) 0 r14 a2 xs5 v4 xs6 xs7 xs8 xs9 a1 v3))))))))))) (L1 a1 v3 (B5 (v4 + 1)) a2 xs5 xs6 xs7 xs8 xs9)))) (bd (Al6 k (xs5, (xs6, xs7, xs8, ()), xs9, ())) fun r16 => (br (!r16) (some (([], ([], [], [], ()), [], ()), (⟨#[]⟩ : ByteArray), false)) (bd (Aj1 k (xs5, (xs6, xs7, xs8, ()), xs9, ())) fun r17 => (some (r17, v3, true))))))
def A44 (k : Nat) (L2 : Int → A0 → D1 → List D4 → Int → (A6 × Bool) → List J5 → Int → ByteArray → Option (C0 × ByteArray × Bool)) (L1 : Int → ByteArray → Int → D1 → List D4 → List A0 → List (List A1) → List Bool → List J5 → Option (C0 × ByteArray × Bool)) (v10 : Int) (r8 : A0) (a2 : D1) (xs5 : List D4) (v4 : Int) (r9 : A6 × Bool) (xs11 : List J5) (a1 : Int) (v3 : ByteArray) : Option (C0 × ByteArray × Bool) := (br (decide (v10 < (xs11.length : Int))) (gd (decide (0 ≤ v10)) (gd (decide (v10 < (xs11.length : Int))) (gd (decide (([] : List Int).length + (rd H1 xs11 v10.toNat).2.2.1.length ≤ A3)) (gd (decide ((([] : List Int) ++ (rd H1 xs11 v10.toNat).2.2.1).length + [r8.1].length ≤ A3)) (gd (decide (0 ≤ v10)) (gd (decide (v10 < (xs11.length : Int))) (L2 (B5 (v10 + 1)) r8 a2 xs5 v4 r9 (xs11.set v10.toNat ((rd H1 xs11 v10.toNat).1, (rd H1 xs11 v10.toNat).2.1, ((([] : List Int) ++ (rd H1 xs11 v10.toNat).2.2.1) ++ [r8.1]), ())) a1 v3))))))) (bd (Z1 k r8.1) fun r10 => (gd (decide ((⟨#[115, 101, 110, 116, 32]⟩ : ByteArray).size + r10.size ≤ A3)) (gd (decide (0 ≤ v4)) (gd (decide (v4 < (xs5.length : Int))) (L1 a1 ((⟨#[115, 101, 110, 116, 32]⟩ : ByteArray) ++ r10) (B5 ((((xs5.set v4.toNat ((rd A8 xs5 v4.toNat).1, a2.2.2.1, ((⟨#[115, 101, 110, 116, 32]⟩ : ByteArray) ++ r10), ())).length : Nat) : Int) + 1)) a2 (xs5.set v4.toNat ((rd A8 xs5 v4.toNat).1, a2.2.2.1, ((⟨#[115, 101, 110, 116, 32]⟩ : ByteArray) ++ r10), ())) r9.1.1 r9.1.2.1 r9.1.2.2.1 xs11))))))
def A45 (k : Nat) (L3 : ByteArray → Int → List Int → D1 → List D4 → Int → List A0 → List (List A1) → List Bool → List J5 → Int → ByteArray → Option (C0 × ByteArray × Bool)) (L1 : Int → ByteArray → Int → D1 → List D4 → List A0 → List (List A1) → List Bool → List J5 → Option (C0 × ByteArray × Bool)) (v12 : ByteArray) (v13 : Int) (r14 : List Int) (a2 : D1) (xs5 : List D4) (v4 : Int) (xs6 : List A0) (xs7 : List (List A1)) (xs8 : List Bool) (xs9 : List J5) (a1 : Int) (v3 : ByteArray) : Option (C0 × ByteArray × Bool) := (br (decide (v13 < (r14.length : Int))) (gd (decide (v12.size + (⟨#[32]⟩ : ByteArray).size ≤ A3)) (gd (decide (0 ≤ v13)) (gd (decide (v13 < (r14.length : Int))) (bd (Z1 k (rd 0 r14 v13.toNat)) fun r15 => (gd (decide ((v12 ++ (⟨#[32]⟩ : ByteArray)).size + r15.size ≤ A3)) (L3 ((v12 ++ (⟨#[32]⟩ : ByteArray)) ++ r15) (B5 (v13 + 1)) r14 a2 xs5 v4 xs6 xs7 xs8 xs9 a1 v3)))))) (gd (decide (0 ≤ v4)) (gd (decide (v4 < (xs5.length : Int))) (L1 a1 v12 (B5 ((((xs5.set v4.toNat ((rd A8 xs5 v4.toNat).1, a2.2.2.1, v12, ())).length : Nat) : Int) + 1)) a2 (xs5.set v4.toNat ((rd A8 xs5 v4.toNat).1, a2.2.2.1, v12, ())) xs6 xs7 xs8 xs9))))
def R5 (k : Nat) : Nat → Int → Int → List D4 → C0 → Option (C0 × ByteArray × Bool)
 | 0, _, _, _, _ => none
 | n + 1, a1, v1, xs2, r4 => Bu1 k (R5 k n) a1 v1 xs2 r4
def P0 (k : Nat) : Nat → (Int → ByteArray → Int → D1 → List D4 → List A0 → List (List A1) → List Bool → List J5 → Option (C0 × ByteArray × Bool)) × (Int → A0 → D1 → List D4 → Int → (A6 × Bool) → List J5 → Int → ByteArray → Option (C0 × ByteArray × Bool)) × (ByteArray → Int → List Int → D1 → List D4 → Int → List A0 → List (List A1) → List Bool → List J5 → Int → ByteArray → Option (C0 × ByteArray × Bool))
 | 0 => (fun _ _ _ _ _ _ _ _ _ => none, fun _ _ _ _ _ _ _ _ _ => none, fun _ _ _ _ _ _ _ _ _ _ _ _ => none)
 | n + 1 => (Ac2 k (P0 k n).1 (P0 k n).2.1 (P0 k n).2.2, A44 k (P0 k n).2.1 (P0 k n).1, A45 k (P0 k n).2.2 (P0 k n).1)
def H3 (k : Nat) (n : Nat) : Int → ByteArray → Int → D1 → List D4 → List A0 → List (List A1) → List Bool → List J5 → Option (C0 × ByteArray × Bool) := (P0 k n).1
def Ac3 (k : Nat) (n : Nat) : Int → A0 → D1 → List D4 → Int → (A6 × Bool) → List J5 → Int → ByteArray → Option (C0 × ByteArray × Bool) := (P0 k n).2.1
def Ac4 (k : Nat) (n : Nat) : ByteArray → Int → List Int → D1 → List D4 → Int → List A0 → List (List A1) → List Bool → List J5 → Int → ByteArray → Option (C0 × ByteArray × Bool) := (P0 k n).2.2
theorem Bu2 (k : Nat) (n : Nat) (a1 : Int) (v3 : ByteArray) (v4 : Int) (a2 : D1) (xs5 : List D4) (xs6 : List A0) (xs7 : List (List A1)) (xs8 : List Bool) (xs9 : List J5) : H3 k (n + 1) a1 v3 v4 a2 xs5 xs6 xs7 xs8 xs9 = Ac2 k (H3 k n) (Ac3 k n) (Ac4 k n) a1 v3 v4 a2 xs5 xs6 xs7 xs8 xs9 := rfl
theorem Ef8 (k : Nat) (n : Nat) (v10 : Int) (r8 : A0) (a2 : D1) (xs5 : List D4) (v4 : Int) (r9 : A6 × Bool) (xs11 : List J5) (a1 : Int) (v3 : ByteArray) : Ac3 k (n + 1) v10 r8 a2 xs5 v4 r9 xs11 a1 v3 = A44 k (Ac3 k n) (H3 k n) v10 r8 a2 xs5 v4 r9 xs11 a1 v3 := rfl
theorem Ef9 (k : Nat) (n : Nat) (v12 : ByteArray) (v13 : Int) (r14 : List Int) (a2 : D1) (xs5 : List D4) (v4 : Int) (xs6 : List A0) (xs7 : List (List A1)) (xs8 : List Bool) (xs9 : List J5) (a1 : Int) (v3 : ByteArray) : Ac4 k (n + 1) v12 v13 r14 a2 xs5 v4 xs6 xs7 xs8 xs9 a1 v3 = A45 k (Ac4 k n) (H3 k n) v12 v13 r14 a2 xs5 v4 xs6 xs7 xs8 xs9 a1 v3 := rfl
def C59 (k : Nat) (L0 : Int → Int → List D4 → C0 → Option (C0 × ByteArray × Bool)) (L1 : Int → ByteArray → Int → D1 → List D4 → List A0 → List (List A1) → List Bool → List J5 → Option (C0 × ByteArray × Bool)) (a0 : C0) (a1 : Int) (a2 : D1) : Option (C0 × ByteArray × Bool) := (bd (Al6 k a0) fun r1 => (br (!r1) (some (([], ([], [], [], ()), [], ()), (⟨#[]⟩ : ByteArray), false)) (bd (Aj0 k a2) fun r2 => (br (!r2) (some (([], ([], [], [], ()), [], ()), (⟨#[]⟩ : ByteArray), false)) (bd (D9 k a1 1 400000) fun r3 => (br (!r3) (some (([], ([], [], [], ()), [], ()), (⟨#[]⟩ : ByteArray), false)) (bd (Aj1 k a0) fun r4 => (br (a2.1 == 1) (L0 a1 0 ([] : List D4) r4) (L1 a1 (⟨#[110, 111, 110, 101]⟩ : ByteArray) 0 a2 r4.1 r4.2.1.1 r4.2.1.2.1 r4.2.1.2.2.1 r4.2.2.1)))))))))
def Bp0 (k : Nat) (a0 : C0) (a1 : Int) (a2 : D1) : Option (C0 × ByteArray × Bool) := C59 k (R5 k k) (H3 k k) a0 a1 a2
end
def N7 (k : Nat) (a0 : A9) (a1 : Int) : Option (Bool × A9 × Unit) := (bd (C7 k a0 a1) fun r1 => (some ((r1.1 == 0), r1.2.1, ())))
def R6 (k : Nat) (a0 : A9) (a1 : List Int) : Option (Int × A9 × Unit) := (bd (C7 k a0 (a1.length : Int)) fun r1 => (gd (decide (0 ≤ r1.1)) (gd (decide (r1.1 < (a1.length : Int))) (some ((rd 0 a1 r1.1.toNat), r1.2.1, ())))))
def A75 (k : Nat) (a0 : A9) (a1 : List ByteArray) : Option (ByteArray × A9 × Unit) := (bd (C7 k a0 (a1.length : Int)) fun r1 => (gd (decide (0 ≤ r1.1)) (gd (decide (r1.1 < (a1.length : Int))) (some ((rd ByteArray.empty a1 r1.1.toNat), r1.2.1, ())))))
noncomputable section
def A96 (k : Nat) (L0 : Int → List Int → Int → Int → (Int × A9 × Unit) → (Int × A9 × Unit) → List Int → Option (A0 × A9 × Unit)) (v1 : Int) (v2 : List Int) (v3 : Int) (v4 : Int) (r1 : Int × A9 × Unit) (r2 : Int × A9 × Unit) (xs5 : List Int) : Option (A0 × A9 × Unit) := (br (decide (v1 < 5)) (bd (R6 k (v2, v3, v4, ()) [0, 0, 50, 50, 60, 100]) fun r7 => (gd (decide (xs5.length + [r7.1].length ≤ A3)) (L0 (B5 (v1 + 1)) r7.2.1.1 r7.2.1.2.1 r7.2.1.2.2.1 r1 r2 (xs5 ++ [r7.1])))) (bd (N7 k (v2, v3, v4, ()) 2) fun r8 => (br r8.1 (gd (decide (0 < (xs5.length : Int))) (some ((0, r1.1, (B5 (1 + r2.1)), 0, 0, (xs5.set 0 100), ByteArray.empty, [], 0, ()), r8.2.1, ()))) (some ((0, r1.1, (B5 (1 + r2.1)), 0, 0, xs5, ByteArray.empty, [], 0, ()), r8.2.1, ())))))
def T3 (k : Nat) : Nat → Int → List Int → Int → Int → (Int × A9 × Unit) → (Int × A9 × Unit) → List Int → Option (A0 × A9 × Unit)
 | 0, _, _, _, _, _, _, _ => none
 | n + 1, v1, v2, v3, v4, r1, r2, xs5 => A96 k (T3 k n) v1 v2 v3 v4 r1 r2 xs5
def Cg7 (k : Nat) (L0 : Int → List Int → Int → Int → (Int × A9 × Unit) → (Int × A9 × Unit) → List Int → Option (A0 × A9 × Unit)) (a0 : A9) : Option (A0 × A9 × Unit) := (bd (R6 k a0 [2, 2, 2, 2, 3, 4, 5, 5, 5]) fun r1 => (bd (C7 k r1.2.1 3) fun r2 => (br (r1.1 == 2) (bd (C7 k r2.2.1 4) fun r3 => (bd (N7 k r3.2.1 2) fun r4 => (br r4.1 (bd (R6 k r4.2.1 [0, 1, 1, 2, 2, 2, 3]) fun r5 => (br ((B5 (1 + r2.1)) != (B5 (1 + r2.1))) (br (r5.1 == 2) (some ((0, r1.1, (B5 (1 + r2.1)), (B5 (1 + r2.1)), 1, [], ByteArray.empty, [], 0, ()), r5.2.1, ())) (some ((0, r1.1, (B5 (1 + r2.1)), (B5 (1 + r2.1)), r5.1, [], ByteArray.empty, [], 0, ()), r5.2.1, ()))) (some ((0, r1.1, (B5 (1 + r2.1)), (B5 (1 + r2.1)), r5.1, [], ByteArray.empty, [], 0, ()), r5.2.1, ())))) (bd (R6 k r4.2.1 [0, 1, 1, 2, 2, 2, 3]) fun r6 => (br ((B5 (1 + r3.1)) != (B5 (1 + r2.1))) (br (r6.1 == 2) (some ((0, r1.1, (B5 (1 + r2.1)), (B5 (1 + r3.1)), 1, [], ByteArray.empty, [], 0, ()), r6.2.1, ())) (some ((0, r1.1, (B5 (1 + r2.1)), (B5 (1 + r3.1)), r6.1, [], ByteArray.empty, [], 0, ()), r6.2.1, ()))) (some ((0, r1.1, (B5 (1 + r2.1)), (B5 (1 + r3.1)), r6.1, [], ByteArray.empty, [], 0, ()), r6.2.1, ()))))))) (br (r1.1 == 3) (L0 0 r2.2.1.1 r2.2.1.2.1 r2.2.1.2.2.1 r1 r2 []) (br (r1.1 == 4) (bd (A75 k r2.2.1 [(⟨#[]⟩ : ByteArray), (⟨#[97]⟩ : ByteArray), (⟨#[104, 101, 108, 108, 111]⟩ : ByteArray), (⟨#[98, 32, 99]⟩ : ByteArray)]) fun r9 => (some ((0, r1.1, (B5 (1 + r2.1)), 0, 0, [], r9.1, [], 0, ()), r9.2.1, ()))) (br (r1.1 == 5) (bd (A75 k r2.2.1 [(⟨#[]⟩ : ByteArray), (⟨#[97]⟩ : ByteArray), (⟨#[104, 101, 108, 108, 111]⟩ : ByteArray), (⟨#[98, 32, 99]⟩ : ByteArray)]) fun r10 => (some ((0, r1.1, (B5 (1 + r2.1)), 0, 0, [], r10.1, [], 0, ()), r10.2.1, ()))) (some ((0, r1.1, (B5 (1 + r2.1)), 0, 0, [], ByteArray.empty, [], 0, ()), r2.2.1, ()))))))))
def Aj2 (k : Nat) (a0 : A9) : Option (A0 × A9 × Unit) := Cg7 k (T3 k k) a0
end
noncomputable section
def Bu3 (k : Nat) (L1 : Int → Int → List Int → Int → Int → A6 → Int → Int → Int → Int → ByteArray → Int → List A1 → List Int → List Int → Option (A0 × A9 × Unit)) (a2 : Int) (v6 : Int) (v7 : List Int) (v8 : Int) (v9 : Int) (a1 : A6) (v10 : Int) (v11 : Int) (v12 : Int) (v13 : Int) (v14 : ByteArray) (r6 : Int) (xs15 : List A1) (xs16 : List Int) (xs17 : List Int) : Option (A0 × A9 × Unit) := (br (decide (v6 < 6)) (bd (As3 k a1.1 xs15 (a2, v10, v11, v12, v13, xs16, v14, xs17, r6, ())) fun r8 => (br (!r8) (bd (Aj2 k (v7, v8, v9, ())) fun r9 => (L1 a2 (B5 (v6 + 1)) r9.2.1.1 r9.2.1.2.1 r9.2.1.2.2.1 a1 r9.1.2.1 r9.1.2.2.1 r9.1.2.2.2.1 r9.1.2.2.2.2.1 r9.1.2.2.2.2.2.2.1 r6 xs15 r9.1.2.2.2.2.2.1 xs17)) (br ((a1.1.length : Int) == 1) (gd (decide (0 < (a1.1.length : Int))) (gd (decide (0 < (a1.1.length : Int))) (some ((a2, 2, (rd D2 a1.1 0).2.2.1, (rd D2 a1.1 0).2.2.1, 2, [], ByteArray.empty, xs17, r6, ()), (v7, v8, v9, ()), ())))) (some ((a2, v10, v11, v12, v13, xs16, v14, xs17, r6, ()), (v7, v8, v9, ()), ()))))) (br ((a1.1.length : Int) == 1) (gd (decide (0 < (a1.1.length : Int))) (gd (decide (0 < (a1.1.length : Int))) (some ((a2, 2, (rd D2 a1.1 0).2.2.1, (rd D2 a1.1 0).2.2.1, 2, [], ByteArray.empty, xs17, r6, ()), (v7, v8, v9, ()), ())))) (some ((a2, v10, v11, v12, v13, xs16, v14, xs17, r6, ()), (v7, v8, v9, ()), ()))))
def Bu4 (k : Nat) (L0 : Int → Int → List Int → Int → Int → A6 → (A0 × A9 × Unit) → List Int → List Int → Option (A0 × A9 × Unit)) (L1 : Int → Int → List Int → Int → Int → A6 → Int → Int → Int → Int → ByteArray → Int → List A1 → List Int → List Int → Option (A0 × A9 × Unit)) (a2 : Int) (v1 : Int) (v2 : List Int) (v3 : Int) (v4 : Int) (a1 : A6) (r1 : A0 × A9 × Unit) (r2 : List Int) (xs5 : List Int) : Option (A0 × A9 × Unit) := (br (decide (v1 < (r2.length : Int))) (br (decide ((xs5.length : Int) < 3)) (bd (N7 k (v2, v3, v4, ()) 2) fun r3 => (br r3.1 (gd (decide (0 ≤ v1)) (gd (decide (v1 < (r2.length : Int))) (gd (decide (xs5.length + [(rd 0 r2 v1.toNat)].length ≤ A3)) (L0 a2 (B5 (v1 + 1)) r3.2.1.1 r3.2.1.2.1 r3.2.1.2.2.1 a1 r1 r2 (xs5 ++ [(rd 0 r2 v1.toNat)]))))) (br ((B5 (v1 + 1)) == (r2.length : Int)) (br ((xs5.length : Int) == 0) (gd (decide (0 ≤ v1)) (gd (decide (v1 < (r2.length : Int))) (gd (decide (xs5.length + [(rd 0 r2 v1.toNat)].length ≤ A3)) (L0 a2 (B5 (v1 + 1)) r3.2.1.1 r3.2.1.2.1 r3.2.1.2.2.1 a1 r1 r2 (xs5 ++ [(rd 0 r2 v1.toNat)]))))) (L0 a2 (B5 (v1 + 1)) r3.2.1.1 r3.2.1.2.1 r3.2.1.2.2.1 a1 r1 r2 xs5)) (L0 a2 (B5 (v1 + 1)) r3.2.1.1 r3.2.1.2.1 r3.2.1.2.2.1 a1 r1 r2 xs5)))) (bd (N7 k (v2, v3, v4, ()) 4) fun r4 => (br r4.1 (bd (C7 k r4.2.1 (a1.1.length : Int)) fun r5 => (gd (decide (0 ≤ r5.1)) (gd (decide (r5.1 < (a1.1.length : Int))) (bd (J0 k a1 [(rd D2 a1.1 r5.1.toNat).1]) fun r6 => (bd (M6 k a1 [(rd D2 a1.1 r5.1.toNat).1]) fun r7 => (L1 a2 0 r5.2.1.1 r5.2.1.2.1 r5.2.1.2.2.1 a1 r1.1.2.1 r1.1.2.2.1 r1.1.2.2.2.1 r1.1.2.2.2.2.1 r1.1.2.2.2.2.2.2.1 r6 r7.1 r1.1.2.2.2.2.2.1 [(rd D2 a1.1 r5.1.toNat).1])))))) (bd (J0 k a1 xs5) fun r10 => (bd (M6 k a1 xs5) fun r11 => (L1 a2 0 r4.2.1.1 r4.2.1.2.1 r4.2.1.2.2.1 a1 r1.1.2.1 r1.1.2.2.1 r1.1.2.2.2.1 r1.1.2.2.2.2.1 r1.1.2.2.2.2.2.2.1 r10 r11.1 r1.1.2.2.2.2.2.1 xs5)))))) (bd (N7 k (v2, v3, v4, ()) 4) fun r12 => (br r12.1 (bd (C7 k r12.2.1 (a1.1.length : Int)) fun r13 => (gd (decide (0 ≤ r13.1)) (gd (decide (r13.1 < (a1.1.length : Int))) (bd (J0 k a1 [(rd D2 a1.1 r13.1.toNat).1]) fun r14 => (bd (M6 k a1 [(rd D2 a1.1 r13.1.toNat).1]) fun r15 => (L1 a2 0 r13.2.1.1 r13.2.1.2.1 r13.2.1.2.2.1 a1 r1.1.2.1 r1.1.2.2.1 r1.1.2.2.2.1 r1.1.2.2.2.2.1 r1.1.2.2.2.2.2.2.1 r14 r15.1 r1.1.2.2.2.2.2.1 [(rd D2 a1.1 r13.1.toNat).1])))))) (bd (J0 k a1 xs5) fun r16 => (bd (M6 k a1 xs5) fun r17 => (L1 a2 0 r12.2.1.1 r12.2.1.2.1 r12.2.1.2.2.1 a1 r1.1.2.1 r1.1.2.2.1 r1.1.2.2.2.1 r1.1.2.2.2.2.1 r1.1.2.2.2.2.2.2.1 r16 r17.1 r1.1.2.2.2.2.2.1 xs5))))))
def V0 (k : Nat) : Nat → Int → Int → List Int → Int → Int → A6 → Int → Int → Int → Int → ByteArray → Int → List A1 → List Int → List Int → Option (A0 × A9 × Unit)
 | 0, _, _, _, _, _, _, _, _, _, _, _, _, _, _, _ => none
 | n + 1, a2, v6, v7, v8, v9, a1, v10, v11, v12, v13, v14, r6, xs15, xs16, xs17 => Bu3 k (V0 k n) a2 v6 v7 v8 v9 a1 v10 v11 v12 v13 v14 r6 xs15 xs16 xs17
def V2 (k : Nat) : Nat → Int → Int → List Int → Int → Int → A6 → (A0 × A9 × Unit) → List Int → List Int → Option (A0 × A9 × Unit)
 | 0, _, _, _, _, _, _, _, _, _ => none
 | n + 1, a2, v1, v2, v3, v4, a1, r1, r2, xs5 => Bu4 k (V2 k n) (V0 k n) a2 v1 v2 v3 v4 a1 r1 r2 xs5
def C60 (k : Nat) (L0 : Int → Int → List Int → Int → Int → A6 → (A0 × A9 × Unit) → List Int → List Int → Option (A0 × A9 × Unit)) (a0 : A9) (a1 : A6) (a2 : Int) : Option (A0 × A9 × Unit) := (br ((a1.1.length : Int) == 0) (some ((a2, 1, 1, 0, 0, [], ByteArray.empty, [], 0, ()), a0, ())) (bd (Aj2 k a0) fun r1 => (bd (Al8 k a1) fun r2 => (L0 a2 0 r1.2.1.1 r1.2.1.2.1 r1.2.1.2.2.1 a1 r1 r2 []))))
def N8 (k : Nat) (a0 : A9) (a1 : A6) (a2 : Int) : Option (A0 × A9 × Unit) := C60 k (V2 k k) a0 a1 a2
end
noncomputable section
def A13 (k : Nat) (v1 : List Int) (v2 : Int) (v3 : Int) (a1 : C0) (v4 : Int) : Option (D1 × A9 × Unit) := (br (v4 != 1) (br (decide ((a1.1.length : Int) > 0)) (bd (C7 k (v1, v2, v3, ()) (a1.1.length : Int)) fun r4 => (gd (decide (0 ≤ r4.1)) (gd (decide (r4.1 < (a1.1.length : Int))) (bd (C7 k r4.2.1 10) fun r5 => (br (r5.1 == 0) (bd (C7 k r5.2.1 (B5 ((rd A8 a1.1 r4.1.toNat).2.1 + 3))) fun r6 => (br (v4 == 2) (bd (N8 k r6.2.1 a1.2.1 2) fun r7 => (some ((v4, (rd A8 a1.1 r4.1.toNat).1, r6.1, (0, r7.1.2.1, r7.1.2.2.1, r7.1.2.2.2.1, r7.1.2.2.2.2.1, r7.1.2.2.2.2.2.1, r7.1.2.2.2.2.2.2.1, [], 0, ()), 0, 0, ()), r7.2.1, ()))) (br (v4 == 3) (bd (C7 k r6.2.1 40) fun r8 => (bd (N8 k r8.2.1 a1.2.1 (B5 ((B5 (2 * r8.1)) + 1))) fun r9 => (bd (I9 k r9.1) fun r10 => (br (!r10) (bd (C7 k r9.2.1 40) fun r11 => (some ((v4, (rd A8 a1.1 r4.1.toNat).1, r6.1, ((B5 (101 + (B5 (2 * r11.1)))), r9.1.2), 0, 0, ()), r11.2.1, ()))) (some ((v4, (rd A8 a1.1 r4.1.toNat).1, r6.1, r9.1, 0, 0, ()), r9.2.1, ())))))) (br (v4 == 4) (bd (C7 k r6.2.1 2) fun r12 => (bd (C7 k r12.2.1 6) fun r13 => (some ((v4, (rd A8 a1.1 r4.1.toNat).1, r6.1, (0, 0, 0, 0, 0, [], ByteArray.empty, [], 0, ()), (B5 (1 + r12.1)), r13.1, ()), r13.2.1, ())))) (some ((v4, (rd A8 a1.1 r4.1.toNat).1, r6.1, (0, 0, 0, 0, 0, [], ByteArray.empty, [], 0, ()), 0, 0, ()), r6.2.1, ())))))) (br (r5.1 == 1) (bd (C7 k r5.2.1 12) fun r14 => (br (v4 == 2) (bd (N8 k r14.2.1 a1.2.1 2) fun r15 => (some ((v4, r14.1, (B5 ((rd A8 a1.1 r4.1.toNat).2.1 + 1)), (0, r15.1.2.1, r15.1.2.2.1, r15.1.2.2.2.1, r15.1.2.2.2.2.1, r15.1.2.2.2.2.2.1, r15.1.2.2.2.2.2.2.1, [], 0, ()), 0, 0, ()), r15.2.1, ()))) (br (v4 == 3) (bd (C7 k r14.2.1 40) fun r16 => (bd (N8 k r16.2.1 a1.2.1 (B5 ((B5 (2 * r16.1)) + 1))) fun r17 => (bd (I9 k r17.1) fun r18 => (br (!r18) (bd (C7 k r17.2.1 40) fun r19 => (some ((v4, r14.1, (B5 ((rd A8 a1.1 r4.1.toNat).2.1 + 1)), ((B5 (101 + (B5 (2 * r19.1)))), r17.1.2), 0, 0, ()), r19.2.1, ()))) (some ((v4, r14.1, (B5 ((rd A8 a1.1 r4.1.toNat).2.1 + 1)), r17.1, 0, 0, ()), r17.2.1, ())))))) (br (v4 == 4) (bd (C7 k r14.2.1 2) fun r20 => (bd (C7 k r20.2.1 6) fun r21 => (some ((v4, r14.1, (B5 ((rd A8 a1.1 r4.1.toNat).2.1 + 1)), (0, 0, 0, 0, 0, [], ByteArray.empty, [], 0, ()), (B5 (1 + r20.1)), r21.1, ()), r21.2.1, ())))) (some ((v4, r14.1, (B5 ((rd A8 a1.1 r4.1.toNat).2.1 + 1)), (0, 0, 0, 0, 0, [], ByteArray.empty, [], 0, ()), 0, 0, ()), r14.2.1, ())))))) (br (v4 == 2) (bd (N8 k r5.2.1 a1.2.1 2) fun r22 => (some ((v4, (rd A8 a1.1 r4.1.toNat).1, (B5 ((rd A8 a1.1 r4.1.toNat).2.1 + 1)), (0, r22.1.2.1, r22.1.2.2.1, r22.1.2.2.2.1, r22.1.2.2.2.2.1, r22.1.2.2.2.2.2.1, r22.1.2.2.2.2.2.2.1, [], 0, ()), 0, 0, ()), r22.2.1, ()))) (br (v4 == 3) (bd (C7 k r5.2.1 40) fun r23 => (bd (N8 k r23.2.1 a1.2.1 (B5 ((B5 (2 * r23.1)) + 1))) fun r24 => (bd (I9 k r24.1) fun r25 => (br (!r25) (bd (C7 k r24.2.1 40) fun r26 => (some ((v4, (rd A8 a1.1 r4.1.toNat).1, (B5 ((rd A8 a1.1 r4.1.toNat).2.1 + 1)), ((B5 (101 + (B5 (2 * r26.1)))), r24.1.2), 0, 0, ()), r26.2.1, ()))) (some ((v4, (rd A8 a1.1 r4.1.toNat).1, (B5 ((rd A8 a1.1 r4.1.toNat).2.1 + 1)), r24.1, 0, 0, ()), r24.2.1, ())))))) (br (v4 == 4) (bd (C7 k r5.2.1 2) fun r27 => (bd (C7 k r27.2.1 6) fun r28 => (some ((v4, (rd A8 a1.1 r4.1.toNat).1, (B5 ((rd A8 a1.1 r4.1.toNat).2.1 + 1)), (0, 0, 0, 0, 0, [], ByteArray.empty, [], 0, ()), (B5 (1 + r27.1)), r28.1, ()), r28.2.1, ())))) (some ((v4, (rd A8 a1.1 r4.1.toNat).1, (B5 ((rd A8 a1.1 r4.1.toNat).2.1 + 1)), (0, 0, 0, 0, 0, [], ByteArray.empty, [], 0, ()), 0, 0, ()), r5.2.1, ()))))))))))) (br (v4 == 2) (bd (N8 k (v1, v2, v3, ()) a1.2.1 2) fun r29 => (some ((v4, 0, 0, (0, r29.1.2.1, r29.1.2.2.1, r29.1.2.2.2.1, r29.1.2.2.2.2.1, r29.1.2.2.2.2.2.1, r29.1.2.2.2.2.2.2.1, [], 0, ()), 0, 0, ()), r29.2.1, ()))) (br (v4 == 3) (bd (C7 k (v1, v2, v3, ()) 40) fun r30 => (bd (N8 k r30.2.1 a1.2.1 (B5 ((B5 (2 * r30.1)) + 1))) fun r31 => (bd (I9 k r31.1) fun r32 => (br (!r32) (bd (C7 k r31.2.1 40) fun r33 => (some ((v4, 0, 0, ((B5 (101 + (B5 (2 * r33.1)))), r31.1.2), 0, 0, ()), r33.2.1, ()))) (some ((v4, 0, 0, r31.1, 0, 0, ()), r31.2.1, ())))))) (br (v4 == 4) (bd (C7 k (v1, v2, v3, ()) 2) fun r34 => (bd (C7 k r34.2.1 6) fun r35 => (some ((v4, 0, 0, (0, 0, 0, 0, 0, [], ByteArray.empty, [], 0, ()), (B5 (1 + r34.1)), r35.1, ()), r35.2.1, ())))) (some ((v4, 0, 0, (0, 0, 0, 0, 0, [], ByteArray.empty, [], 0, ()), 0, 0, ()), (v1, v2, v3, ()), ())))))) (br (v4 == 2) (bd (N8 k (v1, v2, v3, ()) a1.2.1 2) fun r36 => (some ((v4, 0, 0, (0, r36.1.2.1, r36.1.2.2.1, r36.1.2.2.2.1, r36.1.2.2.2.2.1, r36.1.2.2.2.2.2.1, r36.1.2.2.2.2.2.2.1, [], 0, ()), 0, 0, ()), r36.2.1, ()))) (br (v4 == 3) (bd (C7 k (v1, v2, v3, ()) 40) fun r37 => (bd (N8 k r37.2.1 a1.2.1 (B5 ((B5 (2 * r37.1)) + 1))) fun r38 => (bd (I9 k r38.1) fun r39 => (br (!r39) (bd (C7 k r38.2.1 40) fun r40 => (some ((v4, 0, 0, ((B5 (101 + (B5 (2 * r40.1)))), r38.1.2), 0, 0, ()), r40.2.1, ()))) (some ((v4, 0, 0, r38.1, 0, 0, ()), r38.2.1, ())))))) (br (v4 == 4) (bd (C7 k (v1, v2, v3, ()) 2) fun r41 => (bd (C7 k r41.2.1 6) fun r42 => (some ((v4, 0, 0, (0, 0, 0, 0, 0, [], ByteArray.empty, [], 0, ()), (B5 (1 + r41.1)), r42.1, ()), r42.2.1, ())))) (some ((v4, 0, 0, (0, 0, 0, 0, 0, [], ByteArray.empty, [], 0, ()), 0, 0, ()), (v1, v2, v3, ()), ()))))))
def I5 (k : Nat) : Nat → List Int → Int → Int → C0 → Int → Option (D1 × A9 × Unit)
 | 0, _, _, _, _, _ => none
 | n + 1, v1, v2, v3, a1, v4 => A13 k v1 v2 v3 a1 v4
def A97 (k : Nat) (L0 : List Int → Int → Int → C0 → Int → Option (D1 × A9 × Unit)) (a0 : A9) (a1 : C0) : Option (D1 × A9 × Unit) := (bd (R6 k a0 [1, 2, 2, 2, 2, 2, 2, 3, 3, 4, 5]) fun r1 => (br ((a1.1.length : Int) == 0) (bd (N7 k r1.2.1 8) fun r2 => (br (!r2.1) (br (decide ((a1.1.length : Int) > 0)) (bd (N7 k r2.2.1 3) fun r3 => (br (!r3.1) (L0 r3.2.1.1 r3.2.1.2.1 r3.2.1.2.2.1 a1 2) (L0 r3.2.1.1 r3.2.1.2.1 r3.2.1.2.2.1 a1 1))) (L0 r2.2.1.1 r2.2.1.2.1 r2.2.1.2.2.1 a1 1)) (br (r1.1 == 1) (br (decide ((a1.1.length : Int) > 0)) (bd (N7 k r2.2.1 3) fun r43 => (br (!r43.1) (L0 r43.2.1.1 r43.2.1.2.1 r43.2.1.2.2.1 a1 2) (L0 r43.2.1.1 r43.2.1.2.1 r43.2.1.2.2.1 a1 r1.1))) (L0 r2.2.1.1 r2.2.1.2.1 r2.2.1.2.2.1 a1 r1.1)) (L0 r2.2.1.1 r2.2.1.2.1 r2.2.1.2.2.1 a1 r1.1)))) (br (r1.1 == 1) (br (decide ((a1.1.length : Int) > 0)) (bd (N7 k r1.2.1 3) fun r44 => (br (!r44.1) (L0 r44.2.1.1 r44.2.1.2.1 r44.2.1.2.2.1 a1 2) (L0 r44.2.1.1 r44.2.1.2.1 r44.2.1.2.2.1 a1 r1.1))) (L0 r1.2.1.1 r1.2.1.2.1 r1.2.1.2.2.1 a1 r1.1)) (L0 r1.2.1.1 r1.2.1.2.1 r1.2.1.2.2.1 a1 r1.1))))
def Ac5 (k : Nat) (a0 : A9) (a1 : C0) : Option (D1 × A9 × Unit) := A97 k (I5 k k) a0 a1
end
noncomputable section
def Bu5 (k : Nat) (L0 : Int → Int → List Int → Int → Int → List D4 → List A0 → List (List A1) → List Bool → List J5 → Option (C0 × A9 × Unit)) (a1 : Int) (v1 : Int) (v2 : List Int) (v3 : Int) (v4 : Int) (xs5 : List D4) (xs6 : List A0) (xs7 : List (List A1)) (xs8 : List Bool) (xs9 : List J5) : Option (C0 × A9 × Unit) := (bd (C7 k (v2, v3, v4, ()) (B5 (a1 + 1))) fun r2 => (br (decide (v1 < r2.1)) (bd (Ac5 k r2.2.1 (xs5, (xs6, xs7, xs8, ()), xs9, ())) fun r3 => (bd (Bp0 k (xs5, (xs6, xs7, xs8, ()), xs9, ()) (B5 (v1 + 1)) r3.1) fun r4 => (br r4.2.2 (L0 a1 (B5 (v1 + 1)) r3.2.1.1 r3.2.1.2.1 r3.2.1.2.2.1 r4.1.1 r4.1.2.1.1 r4.1.2.1.2.1 r4.1.2.1.2.2.1 r4.1.2.2.1) (L0 a1 (B5 (v1 + 1)) r3.2.1.1 r3.2.1.2.1 r3.2.1.2.2.1 xs5 xs6 xs7 xs8 xs9)))) (some ((xs5, (xs6, xs7, xs8, ()), xs9, ()), r2.2.1, ()))))
def j2 (k : Nat) : Nat → Int → Int → List Int → Int → Int → List D4 → List A0 → List (List A1) → List Bool → List J5 → Option (C0 × A9 × Unit)
 | 0, _, _, _, _, _, _, _, _, _, _ => none
 | n + 1, a1, v1, v2, v3, v4, xs5, xs6, xs7, xs8, xs9 => Bu5 k (j2 k n) a1 v1 v2 v3 v4 xs5 xs6 xs7 xs8 xs9
def C61 (k : Nat) (L0 : Int → Int → List Int → Int → Int → List D4 → List A0 → List (List A1) → List Bool → List J5 → Option (C0 × A9 × Unit)) (a0 : A9) (a1 : Int) : Option (C0 × A9 × Unit) := (bd (Bo7 k) fun r1 => (L0 a1 0 a0.1 a0.2.1 a0.2.2.1 r1.1 r1.2.1.1 r1.2.1.2.1 r1.2.1.2.2.1 r1.2.2.1))
def A76 (k : Nat) (a0 : A9) (a1 : Int) : Option (C0 × A9 × Unit) := C61 k (j2 k k) a0 a1
end
noncomputable section
def Bu6 (k : Nat) (L0 : Int → List Int → Int → Int → List Int → Option (List Int × A9 × Unit)) (v1 : Int) (v2 : List Int) (v3 : Int) (v4 : Int) (xs5 : List Int) : Option (List Int × A9 × Unit) := (br (decide (v1 ≤ 4)) (bd (N7 k (v2, v3, v4, ()) 2) fun r1 => (br r1.1 (gd (decide (xs5.length + [v1].length ≤ A3)) (L0 (B5 (v1 + 1)) r1.2.1.1 r1.2.1.2.1 r1.2.1.2.2.1 (xs5 ++ [v1]))) (L0 (B5 (v1 + 1)) r1.2.1.1 r1.2.1.2.1 r1.2.1.2.2.1 xs5))) (br ((xs5.length : Int) == 0) (gd (decide (xs5.length + [1].length ≤ A3)) (some ((xs5 ++ [1]), (v2, v3, v4, ()), ()))) (some (xs5, (v2, v3, v4, ()), ()))))
def j3 (k : Nat) : Nat → Int → List Int → Int → Int → List Int → Option (List Int × A9 × Unit)
 | 0, _, _, _, _, _ => none
 | n + 1, v1, v2, v3, v4, xs5 => Bu6 k (j3 k n) v1 v2 v3 v4 xs5
def C62 (k : Nat) (L0 : Int → List Int → Int → Int → List Int → Option (List Int × A9 × Unit)) (a0 : A9) : Option (List Int × A9 × Unit) := (L0 1 a0.1 a0.2.1 a0.2.2.1 [])
def A77 (k : Nat) (a0 : A9) : Option (List Int × A9 × Unit) := C62 k (j3 k k) a0
end
noncomputable section
def A46 (k : Nat) (L0 : List Int → Int → Int → Int → Option Bool) (a0 : List Int) (a1 : Int) (a2 : Int) (v1 : Int) : Option Bool := (br (decide (v1 < (a0.length : Int))) (gd (decide (0 ≤ v1)) (gd (decide (v1 < (a0.length : Int))) (bd (D9 k (rd 0 a0 v1.toNat) a1 a2) fun r1 => (br (!r1) (some false) (br (decide (v1 > 0)) (gd (decide (0 ≤ (B5 (v1 - 1)))) (gd (decide ((B5 (v1 - 1)) < (a0.length : Int))) (gd (decide (0 ≤ v1)) (gd (decide (v1 < (a0.length : Int))) (br (decide ((rd 0 a0 (B5 (v1 - 1)).toNat) ≥ (rd 0 a0 v1.toNat))) (some false) (L0 a0 a1 a2 (B5 (v1 + 1)))))))) (L0 a0 a1 a2 (B5 (v1 + 1)))))))) (some true))
def V3 (k : Nat) : Nat → List Int → Int → Int → Int → Option Bool
 | 0, _, _, _, _ => none
 | n + 1, a0, a1, a2, v1 => A46 k (V3 k n) a0 a1 a2 v1
def C63 (k : Nat) (L0 : List Int → Int → Int → Int → Option Bool) (a0 : List Int) (a1 : Int) (a2 : Int) : Option Bool := (L0 a0 a1 a2 0)
def Cc9 (k : Nat) (a0 : List Int) (a1 : Int) (a2 : Int) : Option Bool := C63 k (V3 k k) a0 a1 a2
end
def B49 (k : Nat) (a0 : List Int) : Option Bool := (bd (D9 k (a0.length : Int) 1 4) fun r1 => (br r1 (bd (Cc9 k a0 1 4) fun r2 => (some r2)) (some false)))
noncomputable section
def Bj4 (k : Nat) (L0 : List Int → Int → List Int → Option (ByteArray × Bool)) (a0 : List Int) (v1 : Int) (xs2 : List Int) : Option (ByteArray × Bool) := (br (decide (v1 < (a0.length : Int))) (gd (decide (0 ≤ v1)) (gd (decide (v1 < (a0.length : Int))) (gd (decide (xs2.length + [(IntKind.wrap .u8 (rd 0 a0 v1.toNat))].length ≤ A3)) (L0 a0 (B5 (v1 + 1)) (xs2 ++ [(IntKind.wrap .u8 (rd 0 a0 v1.toNat))]))))) (some ((B6 xs2), true)))
def W9 (k : Nat) : Nat → List Int → Int → List Int → Option (ByteArray × Bool)
 | 0, _, _, _ => none
 | n + 1, a0, v1, xs2 => Bj4 k (W9 k n) a0 v1 xs2
def Cr3 (k : Nat) (L0 : List Int → Int → List Int → Option (ByteArray × Bool)) (a0 : List Int) : Option (ByteArray × Bool) := (bd (B49 k a0) fun r1 => (br (!r1) (some ((⟨#[]⟩ : ByteArray), false)) (L0 a0 0 [])))
def A98 (k : Nat) (a0 : List Int) : Option (ByteArray × Bool) := Cr3 k (W9 k k) a0
end
def Cd0 (k : Nat) (a0 : Int) : Option ByteArray := (some (B6 [(IntKind.wrap .u8 (Int.fdiv a0 (2 ^ 24))), (IntKind.wrap .u8 (Int.fdiv a0 (2 ^ 16))), (IntKind.wrap .u8 (Int.fdiv a0 (2 ^ 8))), (IntKind.wrap .u8 a0)]))
noncomputable section
def Al9 (k : Nat) (L1 : Int → ByteArray → Int → Int → Option Int) (a0 : Int) (a1 : ByteArray) (v1 : Int) : Option Int := (br (decide (v1 < (a1.size : Int))) (gd (decide (0 ≤ v1)) (gd (decide (v1 < (a1.size : Int))) (L1 (Gf7 .u32 a0 (IntKind.wrap .u32 (bt a1 v1.toNat))) a1 v1 0))) (some a0))
def Am0 (k : Nat) (L1 : Int → ByteArray → Int → Int → Option Int) (L0 : Int → ByteArray → Int → Option Int) (v2 : Int) (a1 : ByteArray) (v1 : Int) (v3 : Int) : Option Int := (br (decide (v3 < 8)) (ng (v2 == v2 && (2 : Int) == 0) (ng (v2 == v2 && (2 : Int) == 0) (br ((Int.tmod v2 2) == 1) (L1 (Gf7 .u32 (IntKind.wrap .u32 (Int.tdiv v2 2)) 3558460437) a1 v1 (B5 (v3 + 1))) (L1 (IntKind.wrap .u32 (Int.tdiv v2 2)) a1 v1 (B5 (v3 + 1)))))) (L0 v2 a1 (B5 (v1 + 1))))
def P1 (k : Nat) : Nat → (Int → ByteArray → Int → Option Int) × (Int → ByteArray → Int → Int → Option Int)
 | 0 => (fun _ _ _ => none, fun _ _ _ _ => none)
 | n + 1 => (Al9 k (P1 k n).2, Am0 k (P1 k n).2 (P1 k n).1)
def j4 (k : Nat) (n : Nat) : Int → ByteArray → Int → Option Int := (P1 k n).1
def Am1 (k : Nat) (n : Nat) : Int → ByteArray → Int → Int → Option Int := (P1 k n).2
theorem Eg0 (k : Nat) (n : Nat) (a0 : Int) (a1 : ByteArray) (v1 : Int) : j4 k (n + 1) a0 a1 v1 = Al9 k (Am1 k n) a0 a1 v1 := rfl
theorem Eg1 (k : Nat) (n : Nat) (v2 : Int) (a1 : ByteArray) (v1 : Int) (v3 : Int) : Am1 k (n + 1) v2 a1 v1 v3 = Am0 k (Am1 k n) (j4 k n) v2 a1 v1 v3 := rfl
def C64 (k : Nat) (L0 : Int → ByteArray → Int → Option Int) (a0 : Int) (a1 : ByteArray) : Option Int := (L0 a0 a1 0)
def Cd1 (k : Nat) (a0 : Int) (a1 : ByteArray) : Option Int := C64 k (j4 k k) a0 a1
end
def Bu7 (k : Nat) (a0 : ByteArray) : Option Int := (bd (Cd1 k 4294967295 a0) fun r1 => (some r1))
def B50 (k : Nat) (a0 : ByteArray) : Option (ByteArray × Bool) := (br (decide ((a0.size : Int) > 20000)) (some ((⟨#[]⟩ : ByteArray), false)) (bd (Bu7 k a0) fun r1 => (bd (Cd0 k r1) fun r2 => (gd (decide (a0.size + r2.size ≤ A3)) (some ((a0 ++ r2), true))))))
def A99 (k : Nat) (a0 : E5) : Option (ByteArray × Bool) := (bd (A98 k a0.2.2.1) fun r1 => (br (!r1.2) (some ((⟨#[]⟩ : ByteArray), false)) (bd (D9 k a0.1 0 1000000) fun r2 => (br (!r2) (some ((⟨#[]⟩ : ByteArray), false)) (bd (D9 k a0.2.1 0 100000) fun r3 => (br (!r3) (some ((⟨#[]⟩ : ByteArray), false)) (br (decide ((a0.2.2.2.1.size : Int) > 20000)) (some ((⟨#[]⟩ : ByteArray), false)) (bd (L9 k a0.1) fun r4 => (bd (L9 k a0.2.1) fun r5 => (gd (decide (r4.size + r5.size ≤ A3)) (bd (W7 k r1.1) fun r6 => (gd (decide ((r4 ++ r5).size + r6.size ≤ A3)) (bd (W7 k a0.2.2.2.1) fun r7 => (gd (decide (((r4 ++ r5) ++ r6).size + r7.size ≤ A3)) (br (decide ((B5 ((((((r4 ++ r5) ++ r6) ++ r7).size : Nat) : Int) + 4)) > 20000)) (some ((⟨#[]⟩ : ByteArray), false)) (bd (B50 k (((r4 ++ r5) ++ r6) ++ r7)) fun r8 => (some (r8.1, r8.2))))))))))))))))))
def At4 (k : Nat) (a0 : Int) : Option ByteArray := (bd (D9 k a0 0 1000000) fun r1 => (br (!r1) (some (⟨#[]⟩ : ByteArray)) (bd (Z1 k a0) fun r2 => (gd (decide ((⟨#[115]⟩ : ByteArray).size + r2.size ≤ A3)) (some ((⟨#[115]⟩ : ByteArray) ++ r2))))))
noncomputable section
def Ad7 (k : Nat) (L1 : Int → List Int → Int → Int → List B4 → Option (B9 × E5)) (v3 : Int) (a0 : List Int) (v4 : Int) (v1 : Int) (xs5 : List B4) : Option (B9 × E5) := (bd (C7 k (a0, v4, v1, ()) 3) fun r1 => (br (decide (v3 < r1.1)) (bd (A76 k r1.2.1 6) fun r2 => (bd (Ah8 k r2.1) fun r3 => (bd (C7 k r2.2.1 9) fun r4 => (bd (C7 k r4.2.1 5) fun r5 => (bd (A77 k r5.2.1) fun r6 => (bd (A99 k (r4.1, r5.1, r6.1, r3.1, ())) fun r7 => (bd (At4 k r4.1) fun r8 => (bd (G6 k (xs5, ()) (r8, r7.1, (r7.1.size : Int), ())) fun r9 => (L1 (B5 (v3 + 1)) r6.2.1.1 r6.2.1.2.1 r6.2.1.2.2.1 r9.1))))))))) (bd (A76 k r1.2.1 12) fun r10 => (bd (Ah8 k r10.1) fun r11 => (bd (C7 k r10.2.1 9) fun r12 => (bd (C7 k r12.2.1 5) fun r13 => (bd (A77 k r13.2.1) fun r14 => (some ((xs5, ()), ((B5 (9 + r12.1)), r13.1, r14.1, r11.1, ()))))))))))
def Ad8 (k : Nat) (L0 : List Int → Int → Int → Option (B9 × E5)) (L1 : Int → List Int → Int → Int → List B4 → Option (B9 × E5)) (a0 : List Int) (v1 : Int) (v2 : Int) : Option (B9 × E5) := (br (decide (v2 < (a0.length : Int))) (br (decide (v2 < 4000)) (gd (decide (0 ≤ v2)) (gd (decide (v2 < (a0.length : Int))) (L0 a0 (Fo7 .i64 (B5 ((B5 ((B5 (v1 * 131)) + (B5 (rd 0 a0 v2.toNat)))) + 7)) 1073741823) (B5 (v2 + 1))))) (L1 0 a0 0 v1 [])) (L1 0 a0 0 v1 []))
def K5 (k : Nat) : Nat → Int → List Int → Int → Int → List B4 → Option (B9 × E5)
 | 0, _, _, _, _, _ => none
 | n + 1, v3, a0, v4, v1, xs5 => Ad7 k (K5 k n) v3 a0 v4 v1 xs5
def K6 (k : Nat) : Nat → List Int → Int → Int → Option (B9 × E5)
 | 0, _, _, _ => none
 | n + 1, a0, v1, v2 => Ad8 k (K6 k n) (K5 k n) a0 v1 v2
def Ba0 (k : Nat) (L0 : List Int → Int → Int → Option (B9 × E5)) (a0 : List Int) : Option (B9 × E5) := (L0 a0 (B5 (13101 + (a0.length : Int))) 0)
def Z2 (k : Nat) (a0 : List Int) : Option (B9 × E5) := Ba0 k (K6 k k) a0
end
def Z3 (k : Nat) (a0 : Int) (a1 : Int) (a2 : Int) : Option Bool := (br (decide (a0 ≥ a1)) (some (decide (a0 ≤ a2))) (some false))
noncomputable section
def Bg4 (k : Nat) (L0 : List Int → Int → Option Bool) (a0 : List Int) (v1 : Int) : Option Bool := (br (decide (v1 < (a0.length : Int))) (gd (decide (0 ≤ v1)) (gd (decide (v1 < (a0.length : Int))) (bd (Z3 k (rd 0 a0 v1.toNat) 1 4) fun r1 => (br (!r1) (some false) (br (decide (v1 > 0)) (gd (decide (0 ≤ (B5 (v1 - 1)))) (gd (decide ((B5 (v1 - 1)) < (a0.length : Int))) (br (decide ((rd 0 a0 (B5 (v1 - 1)).toNat) ≥ (rd 0 a0 v1.toNat))) (some false) (L0 a0 (B5 (v1 + 1)))))) (L0 a0 (B5 (v1 + 1)))))))) (bd (Z3 k (a0.length : Int) 1 4) fun r2 => (some r2)))
def d9 (k : Nat) : Nat → List Int → Int → Option Bool
 | 0, _, _ => none
 | n + 1, a0, v1 => Bg4 k (d9 k n) a0 v1
def Dk9 (k : Nat) (L0 : List Int → Int → Option Bool) (a0 : List Int) : Option Bool := (L0 a0 0)
def Bp1 (k : Nat) (a0 : List Int) : Option Bool := Dk9 k (d9 k k) a0
end
noncomputable section
def Bj5 (k : Nat) (L0 : List Int → Int → List Int → Option (ByteArray × Bool)) (a0 : List Int) (v1 : Int) (xs2 : List Int) : Option (ByteArray × Bool) := (br (decide (v1 < (a0.length : Int))) (gd (decide (0 ≤ v1)) (gd (decide (v1 < (a0.length : Int))) (gd (decide (xs2.length + [(IntKind.wrap .u8 (rd 0 a0 v1.toNat))].length ≤ A3)) (L0 a0 (B5 (v1 + 1)) (xs2 ++ [(IntKind.wrap .u8 (rd 0 a0 v1.toNat))]))))) (some ((B6 xs2), true)))
def X0 (k : Nat) : Nat → List Int → Int → List Int → Option (ByteArray × Bool)
 | 0, _, _, _ => none
 | n + 1, a0, v1, xs2 => Bj5 k (X0 k n) a0 v1 xs2
def Cr4 (k : Nat) (L0 : List Int → Int → List Int → Option (ByteArray × Bool)) (a0 : List Int) : Option (ByteArray × Bool) := (bd (Bp1 k a0) fun r1 => (br (!r1) (some ((⟨#[]⟩ : ByteArray), false)) (L0 a0 0 [])))
def Ba1 (k : Nat) (a0 : List Int) : Option (ByteArray × Bool) := Cr4 k (X0 k k) a0
end
noncomputable section
def A47 (k : Nat) (L0 : Int → List Int → Option (ByteArray × Bool)) (a0 : Int) (xs1 : List Int) : Option (ByteArray × Bool) := (br (decide (a0 > 127)) (ng (a0 == a0 && (128 : Int) == 0) (gd (decide (xs1.length + [(IntKind.wrap .u8 (B5 ((Int.tmod a0 128) + 128)))].length ≤ A3)) (ng (a0 == a0 && (128 : Int) == 0) (L0 (B5 (Int.tdiv a0 128)) (xs1 ++ [(IntKind.wrap .u8 (B5 ((Int.tmod a0 128) + 128)))]))))) (gd (decide (xs1.length + [(IntKind.wrap .u8 a0)].length ≤ A3)) (some ((B6 (xs1 ++ [(IntKind.wrap .u8 a0)])), true))))
def j5 (k : Nat) : Nat → Int → List Int → Option (ByteArray × Bool)
 | 0, _, _ => none
 | n + 1, a0, xs1 => A47 k (j5 k n) a0 xs1
def Bg5 (k : Nat) (L0 : Int → List Int → Option (ByteArray × Bool)) (a0 : Int) : Option (ByteArray × Bool) := (bd (Z3 k a0 0 1000000000) fun r1 => (br (!r1) (some ((⟨#[]⟩ : ByteArray), false)) (L0 a0 [])))
def U4 (k : Nat) (a0 : Int) : Option (ByteArray × Bool) := Bg5 k (j5 k k) a0
end
noncomputable section
def Cd2 (k : Nat) (L0 : List Int → Int → List Int → Option (ByteArray × Bool)) (a0 : List Int) (v1 : Int) (xs2 : List Int) : Option (ByteArray × Bool) := (br (decide (v1 < (a0.length : Int))) (gd (decide (0 ≤ v1)) (gd (decide (v1 < (a0.length : Int))) (bd (U4 k (rd 0 a0 v1.toNat)) fun r1 => (br (!r1.2) (some ((⟨#[]⟩ : ByteArray), false)) (gd (decide (xs2.length + (D3 r1.1).length ≤ A3)) (L0 a0 (B5 (v1 + 1)) (xs2 ++ (D3 r1.1)))))))) (some ((B6 xs2), true)))
def At5 (k : Nat) : Nat → List Int → Int → List Int → Option (ByteArray × Bool)
 | 0, _, _, _ => none
 | n + 1, a0, v1, xs2 => Cd2 k (At5 k n) a0 v1 xs2
def Dl0 (k : Nat) (L0 : List Int → Int → List Int → Option (ByteArray × Bool)) (a0 : List Int) : Option (ByteArray × Bool) := (L0 a0 0 [])
def Cz8 (k : Nat) (a0 : List Int) : Option (ByteArray × Bool) := Dl0 k (At5 k k) a0
end
def w7 (k : Nat) (a0 : ByteArray) : Option (ByteArray × Bool) := (br (decide ((a0.size : Int) > 20000)) (some ((⟨#[]⟩ : ByteArray), false)) (bd (U4 k (a0.size : Int)) fun r1 => (gd (decide (r1.1.size + a0.size ≤ A3)) (some ((r1.1 ++ a0), true)))))
noncomputable section
def Bu8 (k : Nat) (L1 : Int → ByteArray → Int → Int → Option Int) (a0 : Int) (a1 : ByteArray) (v1 : Int) : Option Int := (br (decide (v1 < (a1.size : Int))) (gd (decide (0 ≤ v1)) (gd (decide (v1 < (a1.size : Int))) (L1 (Gf7 .u32 a0 (IntKind.wrap .u32 (bt a1 v1.toNat))) a1 v1 0))) (some a0))
def Bu9 (k : Nat) (L1 : Int → ByteArray → Int → Int → Option Int) (L0 : Int → ByteArray → Int → Option Int) (v2 : Int) (a1 : ByteArray) (v1 : Int) (v3 : Int) : Option Int := (br (decide (v3 < 8)) (ng (v2 == v2 && (2 : Int) == 0) (ng (v2 == v2 && (2 : Int) == 0) (br ((Int.tmod v2 2) == 1) (L1 (Gf7 .u32 (IntKind.wrap .u32 (Int.tdiv v2 2)) 3558460437) a1 v1 (B5 (v3 + 1))) (L1 (IntKind.wrap .u32 (Int.tdiv v2 2)) a1 v1 (B5 (v3 + 1)))))) (L0 v2 a1 (B5 (v1 + 1))))
def P2 (k : Nat) : Nat → (Int → ByteArray → Int → Option Int) × (Int → ByteArray → Int → Int → Option Int)
 | 0 => (fun _ _ _ => none, fun _ _ _ _ => none)
 | n + 1 => (Bu8 k (P2 k n).2, Bu9 k (P2 k n).2 (P2 k n).1)
def Bv0 (k : Nat) (n : Nat) : Int → ByteArray → Int → Option Int := (P2 k n).1
def Eg2 (k : Nat) (n : Nat) : Int → ByteArray → Int → Int → Option Int := (P2 k n).2
def C65 (k : Nat) (L0 : Int → ByteArray → Int → Option Int) (a0 : Int) (a1 : ByteArray) : Option Int := (L0 a0 a1 0)
def Cd3 (k : Nat) (a0 : Int) (a1 : ByteArray) : Option Int := C65 k (Bv0 k k) a0 a1
end
def Cr5 (k : Nat) (a0 : ByteArray) : Option Int := (bd (Cd3 k 4294967295 a0) fun r1 => (some r1))
def Bp2 (k : Nat) (a0 : ByteArray) : Option (ByteArray × Bool) := (br (decide ((a0.size : Int) > 20000)) (some ((⟨#[]⟩ : ByteArray), false)) (bd (Cr5 k a0) fun r1 => (gd (decide (a0.size + (B6 [(IntKind.wrap .u8 (Int.fdiv r1 (2 ^ 24))), (IntKind.wrap .u8 (Int.fdiv r1 (2 ^ 16))), (IntKind.wrap .u8 (Int.fdiv r1 (2 ^ 8))), (IntKind.wrap .u8 r1)]).size ≤ A3)) (some ((a0 ++ (B6 [(IntKind.wrap .u8 (Int.fdiv r1 (2 ^ 24))), (IntKind.wrap .u8 (Int.fdiv r1 (2 ^ 16))), (IntKind.wrap .u8 (Int.fdiv r1 (2 ^ 8))), (IntKind.wrap .u8 r1)])), true)))))
def Ah9 (k : Nat) (a0 : E5) : Option (ByteArray × Bool) := (bd (Ba1 k a0.2.2.1) fun r1 => (br (!r1.2) (some ((⟨#[]⟩ : ByteArray), false)) (bd (Z3 k a0.1 0 1000000) fun r2 => (br (!r2) (some ((⟨#[]⟩ : ByteArray), false)) (bd (Z3 k a0.2.1 0 100000) fun r3 => (br (!r3) (some ((⟨#[]⟩ : ByteArray), false)) (br (decide ((a0.2.2.2.1.size : Int) > 20000)) (some ((⟨#[]⟩ : ByteArray), false)) (bd (Cz8 k [a0.1, a0.2.1]) fun r4 => (bd (w7 k r1.1) fun r5 => (bd (w7 k a0.2.2.2.1) fun r6 => (gd (decide (r4.1.size + r5.1.size ≤ A3)) (gd (decide ((r4.1 ++ r5.1).size + r6.1.size ≤ A3)) (bd (Bp2 k ((r4.1 ++ r5.1) ++ r6.1)) fun r7 => (br (!r7.2) (some ((⟨#[]⟩ : ByteArray), false)) (br (decide ((r7.1.size : Int) > 20000)) (some ((⟨#[]⟩ : ByteArray), false)) (some (r7.1, true)))))))))))))))))
def Ba2 (k : Nat) (a0 : ByteArray) : Option (ByteArray × Bool) := (br (decide ((a0.size : Int) < 4)) (some ((⟨#[]⟩ : ByteArray), false)) (gd (decide (0 ≤ (B5 ((a0.size : Int) - 4)))) (gd (decide ((B5 ((a0.size : Int) - 4)) ≤ (a0.size : Int))) (bd (Bp2 k (a0.extract 0 (B5 ((a0.size : Int) - 4)).toNat)) fun r1 => (br (!r1.2) (some ((⟨#[]⟩ : ByteArray), false)) (br (!(r1.1.toList == a0.toList)) (some ((⟨#[]⟩ : ByteArray), false)) (some ((a0.extract 0 (B5 ((a0.size : Int) - 4)).toNat), true))))))))
noncomputable section
def Am2 (k : Nat) (L0 : ByteArray → Int → Int → Int → Option (Int × Int × Bool)) (a0 : ByteArray) (a1 : Int) (v1 : Int) (v2 : Int) : Option (Int × Int × Bool) := (br (decide (v2 < 5)) (br (decide ((B5 (a1 + v2)) < (a0.size : Int))) (gd (decide (0 ≤ (B5 (a1 + v2)))) (gd (decide ((B5 (a1 + v2)) < (a0.size : Int))) (ng ((B5 (bt a0 (B5 (a1 + v2)).toNat)) == (B5 (bt a0 (B5 (a1 + v2)).toNat)) && (128 : Int) == 0) (ng (decide ((B5 (7 * v2)) < 0)) (br (decide ((B5 (bt a0 (B5 (a1 + v2)).toNat)) < 128)) (bd (U4 k (B5 (v1 + (B5 ((Int.tmod (B5 (bt a0 (B5 (a1 + v2)).toNat)) 128) * 2 ^ (min (B5 (7 * v2)).toNat 64)))))) fun r2 => (br (!r2.2) (some (0, 0, false)) (br ((r2.1.size : Int) != (B5 (v2 + 1))) (some (0, 0, false)) (some ((B5 (v1 + (B5 ((Int.tmod (B5 (bt a0 (B5 (a1 + v2)).toNat)) 128) * 2 ^ (min (B5 (7 * v2)).toNat 64))))), (B5 ((B5 (a1 + v2)) + 1)), true))))) (L0 a0 a1 (B5 (v1 + (B5 ((Int.tmod (B5 (bt a0 (B5 (a1 + v2)).toNat)) 128) * 2 ^ (min (B5 (7 * v2)).toNat 64))))) (B5 (v2 + 1)))))))) (some (0, 0, false))) (some (0, 0, false)))
def P3 (k : Nat) : Nat → ByteArray → Int → Int → Int → Option (Int × Int × Bool)
 | 0, _, _, _, _ => none
 | n + 1, a0, a1, v1, v2 => Am2 k (P3 k n) a0 a1 v1 v2
def B51 (k : Nat) (L0 : ByteArray → Int → Int → Int → Option (Int × Int × Bool)) (a0 : ByteArray) (a1 : Int) : Option (Int × Int × Bool) := (bd (Z3 k a1 0 (a0.size : Int)) fun r1 => (br (!r1) (some (0, 0, false)) (L0 a0 a1 0 0)))
def At6 (k : Nat) (a0 : ByteArray) (a1 : Int) : Option (Int × Int × Bool) := B51 k (P3 k k) a0 a1
end
def Ac6 (k : Nat) (a0 : Ab7) : Option (Int × Ab7 × Unit) := (bd (At6 k a0.1 a0.2.1) fun r1 => (br a0.2.2.1 (some (0, (a0.1, a0.2.1, true, ()), ())) (br (!r1.2.2) (some (0, (a0.1, a0.2.1, true, ()), ())) (some (r1.1, (a0.1, r1.2.1, a0.2.2), ())))))
noncomputable section
def Bj6 (k : Nat) (L0 : ByteArray → Int → List Int → Option (List Int × Bool)) (a0 : ByteArray) (v1 : Int) (xs2 : List Int) : Option (List Int × Bool) := (br (decide (v1 < (a0.size : Int))) (gd (decide (0 ≤ v1)) (gd (decide (v1 < (a0.size : Int))) (gd (decide (xs2.length + [(B5 (bt a0 v1.toNat))].length ≤ A3)) (L0 a0 (B5 (v1 + 1)) (xs2 ++ [(B5 (bt a0 v1.toNat))]))))) (bd (Bp1 k xs2) fun r1 => (br (!r1) (some ([], false)) (some (xs2, true)))))
def X1 (k : Nat) : Nat → ByteArray → Int → List Int → Option (List Int × Bool)
 | 0, _, _, _ => none
 | n + 1, a0, v1, xs2 => Bj6 k (X1 k n) a0 v1 xs2
def Cr6 (k : Nat) (L0 : ByteArray → Int → List Int → Option (List Int × Bool)) (a0 : ByteArray) : Option (List Int × Bool) := (L0 a0 0 [])
def Ba3 (k : Nat) (a0 : ByteArray) : Option (List Int × Bool) := Cr6 k (X1 k k) a0
end
def Aj3 (k : Nat) (a0 : ByteArray) (a1 : Int) : Option (ByteArray × Int × Bool) := (bd (At6 k a0 a1) fun r1 => (br (!r1.2.2) (some ((⟨#[]⟩ : ByteArray), 0, false)) (br (decide (r1.1 > 20000)) (some ((⟨#[]⟩ : ByteArray), 0, false)) (br (decide (r1.1 > (B5 ((a0.size : Int) - r1.2.1)))) (some ((⟨#[]⟩ : ByteArray), 0, false)) (gd (decide (0 ≤ (B5 (r1.2.1 + r1.1)))) (gd (decide ((B5 (r1.2.1 + r1.1)) ≤ (a0.size : Int))) (gd (decide (0 ≤ r1.2.1)) (gd (decide (r1.2.1 ≤ (B5 (r1.2.1 + r1.1)))) (some ((a0.extract r1.2.1.toNat (B5 (r1.2.1 + r1.1)).toNat), (B5 (r1.2.1 + r1.1)), true))))))))))
def X2 (k : Nat) (a0 : Ab7) : Option (ByteArray × Ab7 × Unit) := (bd (Aj3 k a0.1 a0.2.1) fun r1 => (br a0.2.2.1 (some ((⟨#[]⟩ : ByteArray), (a0.1, a0.2.1, true, ()), ())) (br (!r1.2.2) (some ((⟨#[]⟩ : ByteArray), (a0.1, a0.2.1, true, ()), ())) (some (r1.1, (a0.1, r1.2.1, a0.2.2), ())))))
def Ai0 (k : Nat) (a0 : ByteArray) : Option (E5 × Bool) := (bd (Ba2 k a0) fun r1 => (br (!r1.2) (some ((0, 0, [], ByteArray.empty, ()), false)) (bd (Ac6 k (r1.1, 0, false, ())) fun r2 => (bd (Ac6 k r2.2.1) fun r3 => (bd (X2 k r3.2.1) fun r4 => (bd (Ba3 k r4.1) fun r5 => (bd (X2 k r4.2.1) fun r6 => (bd (Ah9 k (r2.1, r3.1, r5.1, r6.1, ())) fun r7 => (br r6.2.1.2.2.1 (some ((0, 0, [], ByteArray.empty, ()), false)) (br (!r7.2) (some ((0, 0, [], ByteArray.empty, ()), false)) (br (!(r7.1.toList == a0.toList)) (some ((0, 0, [], ByteArray.empty, ()), false)) (some ((r2.1, r3.1, r5.1, r6.1, ()), true)))))))))))))
noncomputable section
def Bj7 (k : Nat) (L0 : List Int → List Int → Int → Option Bool) (a0 : List Int) (a1 : List Int) (v1 : Int) : Option Bool := (br (decide (v1 < (a0.length : Int))) (gd (decide (0 ≤ v1)) (gd (decide (v1 < (a0.length : Int))) (gd (decide (0 ≤ v1)) (gd (decide (v1 < (a1.length : Int))) (br ((rd 0 a0 v1.toNat) != (rd 0 a1 v1.toNat)) (some false) (L0 a0 a1 (B5 (v1 + 1)))))))) (some true))
def X3 (k : Nat) : Nat → List Int → List Int → Int → Option Bool
 | 0, _, _, _ => none
 | n + 1, a0, a1, v1 => Bj7 k (X3 k n) a0 a1 v1
def Cr7 (k : Nat) (L0 : List Int → List Int → Int → Option Bool) (a0 : List Int) (a1 : List Int) : Option Bool := (br ((a0.length : Int) != (a1.length : Int)) (some false) (L0 a0 a1 0))
def Ba4 (k : Nat) (a0 : List Int) (a1 : List Int) : Option Bool := Cr7 k (X3 k k) a0 a1
end
def Bv1 (k : Nat) (a0 : Int) : Option ByteArray := D60 a0
def A78 (k : Nat) (a0 : Int) : Option ByteArray := (bd (Bv1 k a0) fun r1 => (some r1))
def w8 (k : Nat) (a0 : Int) : Option ByteArray := (bd (Z3 k a0 0 1000000) fun r1 => (br (!r1) (some (⟨#[]⟩ : ByteArray)) (bd (A78 k a0) fun r2 => (gd (decide ((⟨#[115]⟩ : ByteArray).size + r2.size ≤ A3)) (some ((⟨#[115]⟩ : ByteArray) ++ r2))))))
noncomputable section
def Bg6 (k : Nat) (L0 : B9 → Int → Option Bool) (a0 : B9) (v1 : Int) : Option Bool := (br (decide (v1 < (a0.1.length : Int))) (gd (decide (0 ≤ v1)) (gd (decide (v1 < (a0.1.length : Int))) (bd (Z3 k (((rd B0 a0.1 v1.toNat).1.size : Nat) : Int) 1 8) fun r1 => (br (!r1) (some false) (br (decide ((((rd B0 a0.1 v1.toNat).2.1.size : Nat) : Int) > 20000)) (some false) (bd (Z3 k (rd B0 a0.1 v1.toNat).2.2.1 0 (((rd B0 a0.1 v1.toNat).2.1.size : Nat) : Int)) fun r2 => (br (!r2) (some false) (br (decide (v1 > 0)) (gd (decide (0 ≤ (B5 (v1 - 1)))) (gd (decide ((B5 (v1 - 1)) < (a0.1.length : Int))) (br (!Op.bytesLess (rd B0 a0.1 (B5 (v1 - 1)).toNat).1.toList (rd B0 a0.1 v1.toNat).1.toList) (some false) (L0 a0 (B5 (v1 + 1)))))) (L0 a0 (B5 (v1 + 1))))))))))) (some (decide ((a0.1.length : Int) ≤ 30))))
def w9 (k : Nat) : Nat → B9 → Int → Option Bool
 | 0, _, _ => none
 | n + 1, a0, v1 => Bg6 k (w9 k n) a0 v1
def Dl1 (k : Nat) (L0 : B9 → Int → Option Bool) (a0 : B9) : Option Bool := (L0 a0 0)
def Bp3 (k : Nat) (a0 : B9) : Option Bool := Dl1 k (w9 k k) a0
end
noncomputable section
def Bg7 (k : Nat) (L0 : B9 → Int → ByteArray → Option Int) (a0 : B9) (v1 : Int) (a1 : ByteArray) : Option Int := (br (decide (v1 < (a0.1.length : Int))) (gd (decide (0 ≤ v1)) (gd (decide (v1 < (a0.1.length : Int))) (br ((rd B0 a0.1 v1.toNat).1.toList == a1.toList) (some v1) (L0 a0 (B5 (v1 + 1)) a1)))) (some (-1)))
def x9 (k : Nat) : Nat → B9 → Int → ByteArray → Option Int
 | 0, _, _, _ => none
 | n + 1, a0, v1, a1 => Bg7 k (x9 k n) a0 v1 a1
def Dl2 (k : Nat) (L0 : B9 → Int → ByteArray → Option Int) (a0 : B9) (a1 : ByteArray) : Option Int := (L0 a0 0 a1)
def B52 (k : Nat) (a0 : B9) (a1 : ByteArray) : Option Int := Dl2 k (x9 k k) a0 a1
end
def Bp4 (k : Nat) (a0 : B9) (a1 : ByteArray) : Option Bool := (bd (B52 k a0 a1) fun r1 => (some (decide (r1 ≥ 0))))
def J6 (k : Nat) (a0 : ByteArray) (a1 : ByteArray) : Option Bool := (br (decide ((a0.size : Int) ≥ (a1.size : Int))) (gd (decide (0 ≤ (a1.size : Int))) (gd (decide ((a1.size : Int) ≤ (a0.size : Int))) (some ((a0.extract 0 (a1.size : Int).toNat).toList == a1.toList)))) (some false))
def J7 (k : Nat) (a0 : ByteArray) (a1 : ByteArray) : Option (ByteArray × Bool) := (bd (J6 k a0 a1) fun r1 => (br (!r1) (some (a0, false)) (gd (decide (0 ≤ (a1.size : Int))) (gd (decide ((a1.size : Int) ≤ (a0.size : Int))) (some ((a0.extract (a1.size : Int).toNat a0.size), true))))))
def q7 (k : Nat) (a0 : ByteArray) (a1 : ByteArray) : Option (ByteArray × Bool) := (bd (J7 k a0 a1) fun r1 => (some (r1.1, r1.2)))
def Cg8 (k : Nat) (a0 : ByteArray) : Option (Int × Bool) := Gb9 a0
def X4 (k : Nat) (a0 : ByteArray) (a1 : ByteArray) (a2 : Int) : Option Int := (bd (q7 k a0 a1) fun r1 => (bd (Cg8 k r1.1) fun r2 => (br (!r1.2) (some (-1)) (br (!r2.2) (some (-1)) (br (decide (r2.1 > a2)) (some (-1)) (some r2.1))))))
noncomputable section
def Bj8 (k : Nat) (L1 : ByteArray → B9 → Int → List I3 → Option (List I3 × Bool)) (r4 : ByteArray) (a0 : B9) (v3 : Int) (xs4 : List I3) : Option (List I3 × Bool) := (br (decide (v3 < (a0.1.length : Int))) (gd (decide (0 ≤ v3)) (gd (decide (v3 < (a0.1.length : Int))) (bd (X4 k (rd B0 a0.1 v3.toNat).1 (⟨#[115]⟩ : ByteArray) 1000000) fun r5 => (br (decide (r5 ≥ 0)) (br (!((rd B0 a0.1 v3.toNat).1.toList == r4.toList)) (gd (decide (xs4.length + ([(4, (rd B0 a0.1 v3.toNat).1, ByteArray.empty, ByteArray.empty, ())] : List I3).length ≤ A3)) (L1 r4 a0 (B5 (v3 + 1)) (xs4 ++ ([(4, (rd B0 a0.1 v3.toNat).1, ByteArray.empty, ByteArray.empty, ())] : List I3)))) (L1 r4 a0 (B5 (v3 + 1)) xs4)) (L1 r4 a0 (B5 (v3 + 1)) xs4))))) (some (xs4, true)))
def Bj9 (k : Nat) (L0 : (ByteArray × Bool) → Int → B9 → E5 → List I3 → Option (List I3 × Bool)) (L1 : ByteArray → B9 → Int → List I3 → Option (List I3 × Bool)) (r1 : ByteArray × Bool) (v1 : Int) (a0 : B9) (a1 : E5) (xs2 : List I3) : Option (List I3 × Bool) := (br (decide (v1 < (r1.1.size : Int))) (gd (decide (0 ≤ (if (B5 (v1 + 60)) < (r1.1.size : Int) then (B5 (v1 + 60)) else (r1.1.size : Int)))) (gd (decide ((if (B5 (v1 + 60)) < (r1.1.size : Int) then (B5 (v1 + 60)) else (r1.1.size : Int)) ≤ (r1.1.size : Int))) (gd (decide (0 ≤ v1)) (gd (decide (v1 ≤ (if (B5 (v1 + 60)) < (r1.1.size : Int) then (B5 (v1 + 60)) else (r1.1.size : Int)))) (gd (decide (xs2.length + ([(1, (⟨#[115, 43]⟩ : ByteArray), (r1.1.extract v1.toNat (if (B5 (v1 + 60)) < (r1.1.size : Int) then (B5 (v1 + 60)) else (r1.1.size : Int)).toNat), ByteArray.empty, ())] : List I3).length ≤ A3)) (L0 r1 (B5 (v1 + 60)) a0 a1 (xs2 ++ ([(1, (⟨#[115, 43]⟩ : ByteArray), (r1.1.extract v1.toNat (if (B5 (v1 + 60)) < (r1.1.size : Int) then (B5 (v1 + 60)) else (r1.1.size : Int)).toNat), ByteArray.empty, ())] : List I3)))))))) (bd (w8 k a1.1) fun r4 => (gd (decide (xs2.length + ([(2, (⟨#[115, 43]⟩ : ByteArray), ByteArray.empty, ByteArray.empty, ()), (3, (⟨#[115, 43]⟩ : ByteArray), ByteArray.empty, r4, ())] : List I3).length ≤ A3)) (L1 r4 a0 0 (xs2 ++ ([(2, (⟨#[115, 43]⟩ : ByteArray), ByteArray.empty, ByteArray.empty, ()), (3, (⟨#[115, 43]⟩ : ByteArray), ByteArray.empty, r4, ())] : List I3))))))
def o6 (k : Nat) : Nat → ByteArray → B9 → Int → List I3 → Option (List I3 × Bool)
 | 0, _, _, _, _ => none
 | n + 1, r4, a0, v3, xs4 => Bj8 k (o6 k n) r4 a0 v3 xs4
def X5 (k : Nat) : Nat → (ByteArray × Bool) → Int → B9 → E5 → List I3 → Option (List I3 × Bool)
 | 0, _, _, _, _, _ => none
 | n + 1, r1, v1, a0, a1, xs2 => Bj9 k (X5 k n) (o6 k n) r1 v1 a0 a1 xs2
def Cr8 (k : Nat) (L0 : (ByteArray × Bool) → Int → B9 → E5 → List I3 → Option (List I3 × Bool)) (a0 : B9) (a1 : E5) : Option (List I3 × Bool) := (bd (Ah9 k a1) fun r1 => (br (!r1.2) (some ([], false)) (bd (Bp3 k a0) fun r2 => (br (!r2) (some ([], false)) (bd (Bp4 k a0 (⟨#[115, 43]⟩ : ByteArray)) fun r3 => (br r3 (gd (decide (([(4, (⟨#[115, 43]⟩ : ByteArray), ByteArray.empty, ByteArray.empty, ())] : List I3).length ≤ A3)) (L0 r1 0 a0 a1 ([(4, (⟨#[115, 43]⟩ : ByteArray), ByteArray.empty, ByteArray.empty, ())] : List I3))) (L0 r1 0 a0 a1 [])))))))
def Ba5 (k : Nat) (a0 : B9) (a1 : E5) : Option (List I3 × Bool) := Cr8 k (X5 k k) a0 a1
end
noncomputable section
def A14 (k : Nat) (L0 : Bool → B9 → Int → Int → Int → ByteArray → List Int → Option (E5 × Bool)) (v1 : Bool) (a0 : B9) (v2 : Int) (v3 : Int) (v4 : Int) (v5 : ByteArray) (xs6 : List Int) : Option (E5 × Bool) := (br (decide (v2 < (a0.1.length : Int))) (gd (decide (0 ≤ v2)) (gd (decide (v2 < (a0.1.length : Int))) (bd (X4 k (rd B0 a0.1 v2.toNat).1 (⟨#[115]⟩ : ByteArray) 1000000) fun r2 => (bd (Ai0 k (rd B0 a0.1 v2.toNat).2.1) fun r3 => (br (decide (r2 ≥ 0)) (br r3.2 (br (r3.1.1 == r2) (br (!v1) (L0 true a0 (B5 (v2 + 1)) r3.1.1 r3.1.2.1 r3.1.2.2.2.1 r3.1.2.2.1) (br (decide (r2 > v3)) (L0 true a0 (B5 (v2 + 1)) r3.1.1 r3.1.2.1 r3.1.2.2.2.1 r3.1.2.2.1) (L0 v1 a0 (B5 (v2 + 1)) v3 v4 v5 xs6))) (L0 v1 a0 (B5 (v2 + 1)) v3 v4 v5 xs6)) (L0 v1 a0 (B5 (v2 + 1)) v3 v4 v5 xs6)) (L0 v1 a0 (B5 (v2 + 1)) v3 v4 v5 xs6)))))) (some ((v3, v4, xs6, v5, ()), v1)))
def O0 (k : Nat) : Nat → Bool → B9 → Int → Int → Int → ByteArray → List Int → Option (E5 × Bool)
 | 0, _, _, _, _, _, _, _ => none
 | n + 1, v1, a0, v2, v3, v4, v5, xs6 => A14 k (O0 k n) v1 a0 v2 v3 v4 v5 xs6
def B53 (k : Nat) (L0 : Bool → B9 → Int → Int → Int → ByteArray → List Int → Option (E5 × Bool)) (a0 : B9) : Option (E5 × Bool) := (bd (Bp3 k a0) fun r1 => (br (!r1) (some ((0, 0, [], ByteArray.empty, ()), false)) (L0 false a0 0 0 0 ByteArray.empty [])))
def Ac7 (k : Nat) (a0 : B9) : Option (E5 × Bool) := B53 k (O0 k k) a0
end
noncomputable section
def Bk0 (k : Nat) (L0 : B9 → Int → (E5 × Bool) → List I3 → Option (List I3)) (a0 : B9) (v1 : Int) (r1 : E5 × Bool) (xs2 : List I3) : Option (List I3) := (br (decide (v1 < (a0.1.length : Int))) (gd (decide (0 ≤ v1)) (gd (decide (v1 < (a0.1.length : Int))) (bd (X4 k (rd B0 a0.1 v1.toNat).1 (⟨#[115]⟩ : ByteArray) 1000000) fun r2 => (br ((rd B0 a0.1 v1.toNat).1.toList == (⟨#[115, 43]⟩ : ByteArray).toList) (gd (decide (xs2.length + ([(4, (rd B0 a0.1 v1.toNat).1, ByteArray.empty, ByteArray.empty, ())] : List I3).length ≤ A3)) (L0 a0 (B5 (v1 + 1)) r1 (xs2 ++ ([(4, (rd B0 a0.1 v1.toNat).1, ByteArray.empty, ByteArray.empty, ())] : List I3)))) (br (decide (r2 ≥ 0)) (br (r2 != r1.1.1) (gd (decide (xs2.length + ([(4, (rd B0 a0.1 v1.toNat).1, ByteArray.empty, ByteArray.empty, ())] : List I3).length ≤ A3)) (L0 a0 (B5 (v1 + 1)) r1 (xs2 ++ ([(4, (rd B0 a0.1 v1.toNat).1, ByteArray.empty, ByteArray.empty, ())] : List I3)))) (L0 a0 (B5 (v1 + 1)) r1 xs2)) (L0 a0 (B5 (v1 + 1)) r1 xs2)))))) (some xs2))
def P4 (k : Nat) : Nat → B9 → Int → (E5 × Bool) → List I3 → Option (List I3)
 | 0, _, _, _, _ => none
 | n + 1, a0, v1, r1, xs2 => Bk0 k (P4 k n) a0 v1 r1 xs2
def Cr9 (k : Nat) (L0 : B9 → Int → (E5 × Bool) → List I3 → Option (List I3)) (a0 : B9) : Option (List I3) := (bd (Ac7 k a0) fun r1 => (br (!r1.2) (some []) (L0 a0 0 r1 [])))
def Ba6 (k : Nat) (a0 : B9) : Option (List I3) := Cr9 k (P4 k k) a0
end
def A79 (k : Nat) (a0 : List Int) : Option Bool := (bd (E14 k a0) fun r1 => (br r1 (some true) (bd (Z2 k a0) fun r2 => (bd (Ah9 k r2.2) fun r3 => (bd (Ai0 k r3.1) fun r4 => (br (!r3.2) (some false) (br (!r4.2) (some false) (br (r4.1.1 != r2.2.1) (some false) (br (r4.1.2.1 != r2.2.2.1) (some false) (br (!(r4.1.2.2.2.1.toList == r2.2.2.2.2.1.toList)) (some false) (bd (Ba4 k r4.1.2.2.1 r2.2.2.2.1) fun r5 => (br (!r5) (some false) (bd (Ba5 k r2.1 r2.2) fun r6 => (bd (B40 k r2.1 r6.1) fun r7 => (bd (Ac7 k r7.1) fun r8 => (br r6.2 (br r8.2 (br (r7.2 == (r6.1.length : Int)) (br (r8.1.1 == r2.2.1) (br (r8.1.2.2.2.1.toList == r2.2.2.2.2.1.toList) (bd (Ba6 k r7.1) fun r9 => (br ((r9.length : Int) == 0) (bd (w8 k r2.2.1) fun r10 => (some (!(r10.toList == (⟨#[]⟩ : ByteArray).toList)))) (some false))) (some false)) (some false)) (some false)) (some false)) (some false)))))))))))))))))
noncomputable section
end
noncomputable section
end
noncomputable section
end
noncomputable section
end
noncomputable section
def A48 (k : Nat) (L0 : ByteArray → Int → Int → Int → Int → Option (Int × Int × Bool)) (a0 : ByteArray) (a1 : Int) (v1 : Int) (v2 : Int) (v3 : Int) : Option (Int × Int × Bool) := (br (decide (v3 < (a0.size : Int))) (br (decide (v3 < (B5 (a1 + 5)))) (gd (decide (0 ≤ v3)) (gd (decide (v3 < (a0.size : Int))) (ng ((B5 (bt a0 v3.toNat)) == (B5 (bt a0 v3.toNat)) && (128 : Int) == 0) (gd (decide (0 ≤ v3)) (gd (decide (v3 < (a0.size : Int))) (br (decide ((bt a0 v3.toNat) < 128)) (br (decide ((B5 (v1 + (B5 ((Int.tmod (B5 (bt a0 v3.toNat)) 128) * v2)))) > 1000000000)) (some (0, 0, false)) (bd (L9 k (B5 (v1 + (B5 ((Int.tmod (B5 (bt a0 v3.toNat)) 128) * v2))))) fun r2 => (gd (decide (0 ≤ (B5 (v3 + 1)))) (gd (decide ((B5 (v3 + 1)) ≤ (a0.size : Int))) (gd (decide (0 ≤ a1)) (gd (decide (a1 ≤ (B5 (v3 + 1)))) (br (!(r2.toList == (a0.extract a1.toNat (B5 (v3 + 1)).toNat).toList)) (some (0, 0, false)) (some ((B5 (v1 + (B5 ((Int.tmod (B5 (bt a0 v3.toNat)) 128) * v2)))), (B5 (v3 + 1)), true))))))))) (L0 a0 a1 (B5 (v1 + (B5 ((Int.tmod (B5 (bt a0 v3.toNat)) 128) * v2)))) (B5 (v2 * 128)) (B5 (v3 + 1))))))))) (some (0, 0, false))) (some (0, 0, false)))
def V4 (k : Nat) : Nat → ByteArray → Int → Int → Int → Int → Option (Int × Int × Bool)
 | 0, _, _, _, _, _ => none
 | n + 1, a0, a1, v1, v2, v3 => A48 k (V4 k n) a0 a1 v1 v2 v3
def C66 (k : Nat) (L0 : ByteArray → Int → Int → Int → Int → Option (Int × Int × Bool)) (a0 : ByteArray) (a1 : Int) : Option (Int × Int × Bool) := (bd (D9 k a1 0 (a0.size : Int)) fun r1 => (br (!r1) (some (0, 0, false)) (L0 a0 a1 0 1 a1)))
def Cz9 (k : Nat) (a0 : ByteArray) (a1 : Int) : Option (Int × Int × Bool) := C66 k (V4 k k) a0 a1
end
def Gu4 (k : Nat) (a0 : Ab7) : Option (Int × Ab7 × Unit) := (bd (Cz9 k a0.1 a0.2.1) fun r1 => (br a0.2.2.1 (some (0, (a0.1, a0.2.1, true, ()), ())) (br (!r1.2.2) (some (0, (a0.1, a0.2.1, true, ()), ())) (some (r1.1, (a0.1, r1.2.1, a0.2.2), ())))))
noncomputable section
end
noncomputable section
end
end Go.Vm
end
section
namespace Go.Vm
open Go
def C00 (x : List Int) : Nat := x.length
def I0 (x : A0) : Nat := C00 x.2.2.2.2.2.1 + (x.2.2.2.2.2.2.1.size + (C00 x.2.2.2.2.2.2.2.1 + (0)))
def Aj4 (x : D1) : Nat := I0 x.2.2.2.1 + (0)
def Dg0 (x : D4) : Nat := x.2.2.1.size + (0)
def Dl3 (x : List D4) : Nat := x.length + (x.map Dg0).sum
def Am3 (x : List A0) : Nat := x.length + (x.map I0).sum
def A49 (x : List A1) : Nat := x.length
def B54 (x : List (List A1)) : Nat := x.length + (x.map A49).sum
def Cs0 (x : List Bool) : Nat := x.length
def Bk1 (x : A6) : Nat := Am3 x.1 + (B54 x.2.1 + (Cs0 x.2.2.1 + (0)))
def D94 (x : J5) : Nat := C00 x.2.2.1 + (0)
def Fq6 (x : List J5) : Nat := x.length + (x.map D94).sum
def Bv2 (x : C0) : Nat := Dl3 x.1 + (Bk1 x.2.1 + (Fq6 x.2.2.1 + (0)))
end Go.Vm
end
section
namespace Go.Vm
open Go
def X6 (a b c : Int) : Bool := decide (b ≤ a) && decide (a ≤ c)
theorem G8 (k : Nat) (a b c : Int) : D9 k a b c = some (X6 a b c) := by
 unfold D9 X6
 by_cases h : a ≥ b
 ·have : b ≤ a := h
  simp [h, this]
 ·have : ¬ b ≤ a := h
  simp [h, this]
theorem Ac8 (k : Nat) (a b c : Int) : Z3 k a b c = some (X6 a b c) := G8 k a b c
abbrev Aj5 (e : A0) : Int := e.2.1
abbrev Bv3 (e : A0) : Int := e.2.2.1
abbrev C67 (e : A0) : Int := e.2.2.2.1
abbrev Bg8 (e : A0) : Int := e.2.2.2.2.1
abbrev G0 (e : A0) : List Int := e.2.2.2.2.2.1
abbrev z6 (e : A0) : ByteArray := e.2.2.2.2.2.2.1
abbrev H7 (e : A0) : List Int := e.2.2.2.2.2.2.2.1
abbrev A15 (e : A0) : Int := e.2.2.2.2.2.2.2.2.1
def Fq7 (l : List Int) : Bool := Ah3 l.length (fun i => X6 (rd 0 l i) 0 100) && ((l.length : Int) == 5)
theorem Dl4 (l : List Int) (hs : l.length ≤ 1048576) : Ev (fun k => U5 k l) (Fq7 l) := by
 have h := Ef1 (l := fun k n i => S8 k n l (i : Int)) l.length (fun i => X6 (rd 0 l i) 0 100) ((l.length : Int) == 5) false (fun i hi => ⟨0, fun k _ n => by
  have e := C5 hi (by omega)
  simp only [S8, Ak9, hi, Int.ofNat_lt, Int.natCast_nonneg, decide_true, br_true, gd_true, Int.toNat_natCast, e, G8, bd_some, Ef0]⟩) ⟨0, fun k _ n => by simp [S8, Ak9]⟩
 refine h.congr_val (g := fun k => U5 k l) (fun k => rfl) ?_
 unfold Fq7
 cases Ah3 l.length (fun i => X6 (rd 0 l i) 0 100) <;> rfl
def Ce3 {α : Type} (l : List α) : Bool := (l.length : Int) == 0
theorem gt0 {α : Type} (l : List α) : decide ((l.length : Int) > 0) = !Ce3 l := by
 unfold Ce3
 cases l with
 | nil => rfl
 | cons x l => simp; omega
def E17 (e : A0) : Bool := bif Aj5 e == 3 then Fq7 (G0 e) else Ce3 (G0 e)
def Cl9 (e : A0) (i : Nat) : Bool := X6 (rd 0 (H7 e) i) 1 1000000 && !(rd 0 (H7 e) i == e.1) && (i == 0 || decide (rd 0 (H7 e) (i - 1) < rd 0 (H7 e) i))
def Fq8 (e : A0) : Bool := Ah3 (H7 e).length (Cl9 e) && (decide (((H7 e).length : Int) ≤ 3) && ((Aj5 e == 1) == Ce3 (H7 e)))
theorem Gi7 (e : A0) (hs : (H7 e).length ≤ 1048576) : Ev (fun k => Q9 k k 0 e) (Ah3 (H7 e).length (Cl9 e)) := by
 have h := Ef1 (l := fun k n i => Q9 k n (i : Int) e) (H7 e).length (Cl9 e) true false (fun i hi => ⟨0, fun k _ n => by
  have e1 := C5 hi (by omega)
  simp only [Q9, A32, hi, Int.ofNat_lt, Int.natCast_nonneg, decide_true, br_true, gd_true, Int.toNat_natCast, e1, G8, bd_some, Ef0, Cl9]
  cases X6 (rd 0 (H7 e) i) 1 1000000 <;> cases (rd 0 (H7 e) i == e.1) <;> simp
  cases i with
  | zero => simp
  | succ j =>
   have e2 := Cq3 (i := j + 1) (by omega) (by omega)
   have h3 : (j : Int) < (H7 e).length := by omega
   have h4 : (0 : Int) < ((j + 1 : Nat) : Int) := by omega
   simp only [e2, Nat.add_sub_cancel, h3, h4, decide_true, br_true, gd_true, Int.toNat_natCast, Int.natCast_nonneg]
   by_cases h5 : rd 0 (H7 e) (j + 1) ≤ rd 0 (H7 e) j
   ·simp [h5, Int.not_lt.2 h5]
   ·simp [h5, Int.not_le.1 h5]⟩) ⟨0, fun k _ n => by simp [Q9, A32]⟩
 refine h.congr_val (g := fun k => Q9 k k 0 e) (fun k => rfl) ?_
 cases Ah3 (H7 e).length (Cl9 e) <;> rfl
def emp (s : ByteArray) : Bool := s.toList == (⟨#[]⟩ : ByteArray).toList
def G67 (s : ByteArray) : Bool := decide ((s.size : Int) ≤ 24)
theorem E18 (s : ByteArray) : (emp s = true ∧ G67 s = true) ∨ emp s = false := by
 cases h : emp s with
 | false => exact .inr rfl
 | true =>
  refine .inl ⟨rfl, ?_⟩
  unfold emp at h
  rw [Y1] at h
  rw [of_decide_eq_true h]; rfl
theorem Gu5 (n : Int) : ((n == 1) = true ∧ (n == 2) = false ∧ (n == 3) = false ∧ (n == 4) = false ∧ (n == 5) = false ∧ X6 n 1 5 = true) ∨
  ((n == 1) = false ∧ (n == 2) = true ∧ (n == 3) = false ∧ (n == 4) = false ∧ (n == 5) = false ∧ X6 n 1 5 = true) ∨
  ((n == 1) = false ∧ (n == 2) = false ∧ (n == 3) = true ∧ (n == 4) = false ∧ (n == 5) = false ∧ X6 n 1 5 = true) ∨
  ((n == 1) = false ∧ (n == 2) = false ∧ (n == 3) = false ∧ (n == 4) = true ∧ (n == 5) = false ∧ X6 n 1 5 = true) ∨
  ((n == 1) = false ∧ (n == 2) = false ∧ (n == 3) = false ∧ (n == 4) = false ∧ (n == 5) = true ∧ X6 n 1 5 = true) ∨
  ((n == 1) = false ∧ (n == 2) = false ∧ (n == 3) = false ∧ (n == 4) = false ∧ (n == 5) = false ∧ X6 n 1 5 = false) := by
 simp only [X6, beq_eq_false_iff_ne, beq_iff_eq, Bool.and_eq_true, Bool.and_eq_false_iff, decide_eq_true_eq, decide_eq_false_iff_not, ne_eq]
 omega
def body (e : A0) : Bool := X6 (Aj5 e) 1 5 && X6 (Bv3 e) 1 5 && E17 e &&
 (bif Aj5 e == 2 then X6 (C67 e) 1 5 && X6 (Bg8 e) 0 3 && emp (z6 e) else (C67 e == 0) && (Bg8 e == 0) && G67 (z6 e) && (Aj5 e == 4 || Aj5 e == 5 || emp (z6 e)))
def N4 (e : A0) : Bool := body e && X6 e.1 1 1000000 && X6 (A15 e) 0 1000000 && Fq8 e
theorem Cs1 (e : A0) (hs : I0 e ≤ 1048576) : Ev (fun k => U2 k e) (body e) := by
 obtain ⟨K, hK⟩ := Dl4 (G0 e) (by unfold I0 C00 at hs; simp only [G0]; omega)
 refine ⟨K, fun k hk => ?_⟩
 have h1 := hK k hk
 have he : (e.2.2.2.2.2.2.1.toList == (⟨#[]⟩ : ByteArray).toList) = emp (z6 e) := rfl
 have hz : decide ((e.2.2.2.2.2.2.1.size : Int) ≤ 24) = G67 (z6 e) := rfl
 simp only [U2, G8, bd_some, he, hz, gt0, h1, body, E17, Aj5, bne]
 rcases E18 (z6 e) with ⟨g1, g2⟩ | g1 <;> simp only [g1]
 ·simp only [g2]
  rcases Gu5 e.2.1 with ⟨q1, q2, q3, q4, q5, q6⟩ | ⟨q1, q2, q3, q4, q5, q6⟩ | ⟨q1, q2, q3, q4, q5, q6⟩ | ⟨q1, q2, q3, q4, q5, q6⟩ | ⟨q1, q2, q3, q4, q5, q6⟩ | ⟨q1, q2, q3, q4, q5, q6⟩ <;> simp only [q1, q2, q3, q4, q5, q6] <;>
  (generalize X6 e.2.2.1 1 5 = x1; generalize X6 e.2.2.2.1 1 5 = x2; generalize X6 e.2.2.2.2.1 0 3 = x3; generalize (e.2.2.2.1 == 0) = x4; generalize (e.2.2.2.2.1 == 0) = x5; generalize Ce3 (G0 e) = x6; generalize Fq7 (G0 e) = x7; revert x1 x2 x3 x4 x5 x6 x7; decide)
 ·generalize G67 (z6 e) = x8
  rcases Gu5 e.2.1 with ⟨q1, q2, q3, q4, q5, q6⟩ | ⟨q1, q2, q3, q4, q5, q6⟩ | ⟨q1, q2, q3, q4, q5, q6⟩ | ⟨q1, q2, q3, q4, q5, q6⟩ | ⟨q1, q2, q3, q4, q5, q6⟩ | ⟨q1, q2, q3, q4, q5, q6⟩ <;> simp only [q1, q2, q3, q4, q5, q6] <;>
  (generalize X6 e.2.2.1 1 5 = x1; generalize X6 e.2.2.2.1 1 5 = x2; generalize X6 e.2.2.2.2.1 0 3 = x3; generalize (e.2.2.2.1 == 0) = x4; generalize (e.2.2.2.2.1 == 0) = x5; generalize Ce3 (G0 e) = x6; generalize Fq7 (G0 e) = x7; revert x1 x2 x3 x4 x5 x6 x7 x8; decide)
theorem Bv4 {e : A0} (h : I0 e ≤ 1048576) : (G0 e).length ≤ 1048576 ∧ (z6 e).size ≤ 1048576 ∧ (H7 e).length ≤ 1048576 := by
 unfold I0 C00 at h
 simp only [G0, z6, H7]
 omega
theorem Ac9 (e : A0) (hs : I0 e ≤ 1048576) : Ev (fun k => I9 k e) (N4 e) := by
 obtain ⟨a1, a2, a3⟩ := Bv4 hs
 obtain ⟨K, hK⟩ := Cs1 e hs
 obtain ⟨L, hL⟩ := Gi7 e a3
 refine ⟨max K L, fun k hk => ?_⟩
 have h1 := hK k (by omega)
 have h2 := hL k (by omega)
 have h3 : (((H7 e).length : Int) == 0) = Ce3 (H7 e) := rfl
 simp only [I9, B41, G8, bd_some, h1, h2, h3, Hg8, N4, Fq8]
 generalize body e = x1; generalize X6 e.1 1 1000000 = x2; generalize X6 e.2.2.2.2.2.2.2.2.1 0 1000000 = x3; generalize decide (((H7 e).length : Int) ≤ 3) = x4
 generalize ((Aj5 e == 1) == Ce3 (H7 e)) = x5; generalize Ah3 (H7 e).length (Cl9 e) = x6
 revert x1 x2 x3 x4 x5 x6; decide
theorem L5 (n : Int) (h0 : 0 ≤ n) (h1 : n ≤ 2147483648) : Ev (fun k => L9 k n) (G9 n) := by
 have h := Cq2 (l := fun k m (p : Int × List Int) => s9 k m p.1 p.2) (I := fun p => 0 ≤ p.1 ∧ (p.2.length : Int) + p.1 ≤ 2147483648) (m := fun p => p.1.toNat) (f := fun p => B6 (p.2 ++ varL p.1.toNat)) (fun p hp => by
  obtain ⟨m, xs⟩ := p
  obtain ⟨hm, hx⟩ := hp
  simp only at *
  by_cases h : m > 127
  ·obtain ⟨e1, e2, e3, e4⟩ := E13 h (by omega)
   refine .inr ⟨(Int.tdiv m 128, xs ++ [Int.tmod m 128 + 128]), ⟨e3, by simp; omega⟩, by simp only; omega, ?_, 0, fun k _ q => ?_⟩
   ·simp only; rw [E12 h]; simp
   ·simp only [s9, Bf8, decide_eq_true h, br_true, Hc8, ng_false, e1, e2]
    rw [A89 (by unfold A3; simp; omega)]
  ·refine .inl ⟨0, fun k _ q => ?_⟩
   simp only [s9, Bf8, decide_eq_false h, br_false, E11 hm (show m < 256 by omega), Dj3 hm h]
   rw [A89 (by unfold A3; simp; omega)]) (n, []) ⟨h0, by simpa using h1⟩
 obtain ⟨K, hK⟩ := h
 exact ⟨K, fun k hk => by simpa [L9, Cl4, G9] using hK k hk k hk⟩
def E19 (n : Int) : ByteArray × Bool := bif X6 n 0 1000000000 then (G9 n, true) else (⟨#[]⟩, false)
theorem Bv5 (n : Int) : Ev (fun k => U4 k n) (E19 n) := by
 cases hr : X6 n 0 1000000000 with
 | false => exact .of fun k => by simp [U4, Bg5, Ac8, E19, hr]
 | true =>
  have h0 : 0 ≤ n ∧ n ≤ 1000000000 := by simpa [X6] using hr
  obtain ⟨h0, h1⟩ := h0
  have h := Cq2 (l := fun k m (p : Int × List Int) => j5 k m p.1 p.2) (I := fun p => 0 ≤ p.1 ∧ (p.2.length : Int) + p.1 ≤ 2147483648) (m := fun p => p.1.toNat) (f := fun p => (B6 (p.2 ++ varL p.1.toNat), true)) (fun p hp => by
   obtain ⟨m, xs⟩ := p
   obtain ⟨hm, hx⟩ := hp
   simp only at *
   by_cases h : m > 127
   ·obtain ⟨e1, e2, e3, e4⟩ := E13 h (by omega)
    refine .inr ⟨(Int.tdiv m 128, xs ++ [Int.tmod m 128 + 128]), ⟨e3, by simp; omega⟩, by simp only; omega, ?_, 0, fun k _ q => ?_⟩
    ·simp only; rw [E12 h]; simp
    ·simp only [j5, A47, decide_eq_true h, br_true, Hc8, ng_false, e1, e2]
     rw [A89 (by unfold A3; simp; omega)]
   ·refine .inl ⟨0, fun k _ q => ?_⟩
    simp only [j5, A47, decide_eq_false h, br_false, E11 hm (show m < 256 by omega), Dj3 hm h]
    rw [A89 (by unfold A3; simp; omega)]) (n, []) ⟨h0, by simp; omega⟩
  obtain ⟨K, hK⟩ := h
  refine ⟨K, fun k hk => ?_⟩
  have h3 := hK k hk k hk
  simp only [List.nil_append] at h3
  simp only [U4, Bg5, Ac8, hr, bd_some, Bool.not_true, br_false, h3, E19, G9]
  rfl
theorem Eg3 {n : Int} (h0 : 0 ≤ n) (h1 : n ≤ 1000000000) : E19 n = (G9 n, true) := by
 have : X6 n 0 1000000000 = true := by simp [X6, h0, h1]
 rw [E19, this]; rfl
def B55 (e : A0) : ByteArray := B6 [IntKind.wrap .u8 e.2.1, IntKind.wrap .u8 e.2.2.1, IntKind.wrap .u8 e.2.2.2.1, IntKind.wrap .u8 e.2.2.2.2.1]
def Cg9 (l : List Int) : ByteArray := B6 (l.map fun n => IntKind.wrap .u8 n)
theorem Fq9 {l : List Int} {i : Nat} (h : i < l.length) : Cg9 (l.take (i + 1)) = Cg9 (l.take i) ++ B6 [IntKind.wrap .u8 l[i]] := by
 unfold Cg9
 rw [List.take_succ_eq_append_getElem h, List.map_append, Ab6]
 rfl
theorem Dl5 (l : List Int) : (Cg9 l).size = l.length := by unfold Cg9; rw [H5, List.length_map]
def J8 (t : ByteArray) : ByteArray := G9 (t.size : Int) ++ t
def D95 (e : A0) : ByteArray := B55 e ++ (G9 ((G0 e).length : Int) ++ Cg9 (G0 e)) ++ J8 (z6 e)
def Dl6 (e : A0) : ByteArray := G9 e.1 ++ D95 e ++ (G9 ((H7 e).length : Int) ++ Ce1 (H7 e)) ++ G9 (A15 e)
theorem Ae5 (t : ByteArray) (h : t.size ≤ 1048576) : Ev (fun k => W7 k t) (J8 t) := by
 unfold W7
 refine (L5 (t.size : Int) (by omega) (by omega)).bd (.of fun k => ?_)
 have := G3 (n := (t.size : Int)) (by omega)
 rw [A89 (by unfold A3; omega)]
 rfl
theorem C01 (e : A0) (hl : (G0 e).length ≤ 1000) (ht : (z6 e).size ≤ 20000) : Ev (fun k => n8 k e) (D95 e) := by
 obtain ⟨K, hK⟩ := Ae5 (z6 e) (by omega)
 obtain ⟨L, hL⟩ := L5 ((G0 e).length : Int) (by omega) (by omega)
 have hz := G3 (n := ((G0 e).length : Int)) (by omega)
 have hy := G3 (n := ((z6 e).size : Int)) (by omega)
 have h4 : (B55 e).size = 4 := by unfold B55; rw [H5]; rfl
 have sz : ∀ i, i ≤ (G0 e).length → (B55 e ++ (G9 ((G0 e).length : Int) ++ Cg9 ((G0 e).take i))).size ≤ 2000 := fun i hi => by
  rw [F8, F8, Dl5, List.length_take, h4]; omega
 have loop := Df7 (l := fun k m i => O2 k m (B55 e ++ (G9 ((G0 e).length : Int) ++ Cg9 ((G0 e).take i))) (i : Int) e) (G0 e).length (r := D95 e) (fun i hi => ⟨0, fun k _ m => by
  have e1 := C5 hi (by omega)
  have h1 := sz i (by omega)
  have h2 : (B6 [IntKind.wrap .u8 (G0 e)[i]]).size = 1 := H5 _
  simp only [O2, Ac1, hi, Int.ofNat_lt, Int.natCast_nonneg, decide_true, br_true, gd_true, Int.toNat_natCast, E8 hi, e1, n7, bd_some]
  rw [A89 (by unfold A3; omega), Fq9 hi]
  simp only [ByteArray.append_assoc]⟩) ⟨K, fun k hk m => by
  have h1 := hK k hk
  have h2 := sz (G0 e).length (by omega)
  have h3 : (J8 (z6 e)).size ≤ 30000 := by unfold J8; rw [F8]; omega
  simp only [O2, Ac1, Int.lt_irrefl, decide_false, br_false, h1, bd_some]
  rw [A89 (by unfold A3; omega), List.take_length]
  rfl⟩
 obtain ⟨M, hM⟩ := loop
 refine ⟨max L M, fun k hk => ?_⟩
 have h1 := hL k (by omega)
 have h2 := hM k (by omega)
 have g1 : ∀ n : Int, (B6 [IntKind.wrap .u8 n]).size = 1 := fun n => H5 _
 simp only [n8, A12, n7, bd_some, h1]
 rw [A89 (by unfold A3; simp only [g1]; omega), A89 (by unfold A3; simp only [F8, g1]; omega), A89 (by unfold A3; simp only [F8, g1]; omega), A89 (by unfold A3; simp only [F8, g1]; omega)]
 have e2 : ((((B6 [IntKind.wrap .u8 e.2.1] ++ B6 [IntKind.wrap .u8 e.2.2.1]) ++ B6 [IntKind.wrap .u8 e.2.2.2.1]) ++ B6 [IntKind.wrap .u8 e.2.2.2.2.1]) ++ G9 ((G0 e).length : Int)) = B55 e ++ (G9 ((G0 e).length : Int) ++ Cg9 ((G0 e).take 0)) := by
  have : Cg9 ((G0 e).take 0) = B6 [] := rfl
  rw [this, ← Hc7]
  simp only [← Ab6, B55]
  have : G9 ((G0 e).length : Int) ++ (⟨#[]⟩ : ByteArray) = G9 ((G0 e).length : Int) := by apply A11; simp
  rw [this]
  rfl
 rw [e2]
 exact h2
theorem G2 {a b c : Int} : X6 a b c = true ↔ b ≤ a ∧ a ≤ c := by simp [X6]
theorem E20 {α : Type} {l : List α} : Ce3 l = true ↔ l = [] := by
 unfold Ce3
 cases l with
 | nil => simp
 | cons x l => simp; omega
theorem Gi8 {e : A0} (h : E17 e = true) : (G0 e).length ≤ 5 ∧ (Aj5 e = 3 → (G0 e).length = 5) := by
 unfold E17 at h
 cases hk : (Aj5 e == 3) with
 | true =>
  rw [hk] at h
  simp only [cond_true, Fq7, Bool.and_eq_true, beq_iff_eq] at h
  omega
 | false =>
  rw [hk] at h
  simp only [cond_false] at h
  rw [E20.1 h]
  simp only [beq_eq_false_iff_ne] at hk
  exact ⟨by simp, fun h => absurd h hk⟩
theorem Bv6 {e : A0} (h : body e = true) : (1 ≤ Aj5 e ∧ Aj5 e ≤ 5) ∧ (1 ≤ Bv3 e ∧ Bv3 e ≤ 5) ∧ (G0 e).length ≤ 5 ∧ (z6 e).size ≤ 24 ∧ (0 ≤ C67 e ∧ C67 e ≤ 5) ∧ (0 ≤ Bg8 e ∧ Bg8 e ≤ 3) := by
 unfold body at h
 simp only [Bool.and_eq_true, G2] at h
 obtain ⟨⟨⟨h1, h2⟩, h3⟩, h4⟩ := h
 have h5 := (Gi8 h3).1
 cases hk : (Aj5 e == 2) with
 | true =>
  rw [hk] at h4
  simp only [cond_true, Bool.and_eq_true, G2] at h4
  obtain ⟨⟨h6, h7⟩, h8⟩ := h4
  rcases E18 (z6 e) with ⟨_, h9⟩ | h9
  ·have := of_decide_eq_true h9
   exact ⟨h1, h2, h5, by omega, by omega, by omega⟩
  ·rw [h8] at h9; cases h9
 | false =>
  rw [hk] at h4
  simp only [cond_false, Bool.and_eq_true, beq_iff_eq] at h4
  obtain ⟨⟨⟨h6, h7⟩, h8⟩, _⟩ := h4
  have := of_decide_eq_true h8
  exact ⟨h1, h2, h5, by omega, by omega, by omega⟩
theorem Ax3 {e : A0} (h : N4 e = true) : body e = true ∧ (1 ≤ e.1 ∧ e.1 ≤ 1000000) ∧ (0 ≤ A15 e ∧ A15 e ≤ 1000000) ∧ (H7 e).length ≤ 3 ∧ (∀ n ∈ H7 e, 1 ≤ n ∧ n ≤ 1000000) ∧ (Aj5 e = 1 ↔ H7 e = []) := by
 unfold N4 at h
 simp only [Bool.and_eq_true, G2] at h
 obtain ⟨⟨⟨h1, h2⟩, h3⟩, h4⟩ := h
 unfold Fq8 at h4
 simp only [Bool.and_eq_true, Ae3, decide_eq_true_eq] at h4
 obtain ⟨h5, h6, h7⟩ := h4
 refine ⟨h1, h2, h3, by omega, fun n hn => ?_, ?_⟩
 ·obtain ⟨i, hi, rfl⟩ := List.getElem_of_mem hn
  have := h5 i hi
  simp only [Cl9, Bool.and_eq_true, G2, E8 hi] at this
  exact this.1.1
 ·rw [← E20]
  cases hk : (Aj5 e == 1) <;> cases hl : Ce3 (H7 e) <;> rw [hk, hl] at h7 <;> simp at hk h7 ⊢ <;> exact hk
theorem C68 {e : A0} (h : N4 e = true) : (D95 e).size ≤ 100 ∧ (G9 e.1).size ≤ 5 ∧ (G9 (A15 e)).size ≤ 5 ∧ (G9 ((H7 e).length : Int)).size ≤ 5 ∧ (Ce1 (H7 e)).size ≤ 15 := by
 obtain ⟨hb, h1, h2, h3, h4, _⟩ := Ax3 h
 obtain ⟨_, _, h5, h6, _⟩ := Bv6 hb
 have a1 := G3 (n := ((G0 e).length : Int)) (by omega)
 have a2 := G3 (n := ((z6 e).size : Int)) (by omega)
 have a3 := Cz7 (l := H7 e) (fun n hn => by have := h4 n hn; omega)
 refine ⟨?_, G3 (by omega), G3 (by omega), G3 (by omega), by omega⟩
 unfold D95 J8 B55
 rw [F8, F8, F8, F8, Dl5, H5]
 simp only [List.length_cons, List.length_nil]
 omega
theorem Dl7 (e : A0) (hs : I0 e ≤ 1048576) : Ev (fun k => Ax0 k e) (bif N4 e then (Dl6 e, true) else (⟨#[]⟩, false)) := by
 cases ho : N4 e with
 | false => exact (Ac9 e hs).bd (by rw [ho]; exact .of fun k => rfl)
 | true =>
  obtain ⟨hb, h1, h2, h3, h4, _⟩ := Ax3 ho
  obtain ⟨_, _, h5, h6, _⟩ := Bv6 hb
  obtain ⟨z1, z2, z3, z4, z5⟩ := C68 ho
  refine (Ac9 e hs).bd ?_
  rw [ho]
  simp only [Bool.not_true, br_false]
  refine (L5 e.1 (by omega) (by omega)).bd ((C01 e (by omega) (by omega)).bd ?_)
  refine Ev.gdle (by unfold A3; omega) ?_
  refine (L5 ((H7 e).length : Int) (by omega) (by omega)).bd ?_
  refine Ev.gdle (by unfold A3; rw [F8]; omega) ?_
  have sz : ∀ i, i ≤ (H7 e).length → (Ce1 ((H7 e).take i)).size ≤ 15 := fun i hi => by
   have := Cz7 (l := (H7 e).take i) (fun n hn => by have := h4 n (List.mem_of_mem_take hn); omega)
   rw [List.length_take] at this; omega
  obtain ⟨K, hK⟩ := L5 (A15 e) (by omega) (by omega)
  have loop := Df7 (l := fun k m i => T2 k m (G9 e.1 ++ D95 e ++ (G9 ((H7 e).length : Int) ++ Ce1 ((H7 e).take i))) (i : Int) e) (H7 e).length (r := (Dl6 e, true)) (fun i hi => by
   have h7 := h4 _ (List.getElem_mem hi)
   obtain ⟨L, hL⟩ := L5 (H7 e)[i] (by omega) (by omega)
   refine ⟨L, fun k hk m => ?_⟩
   have h8 := hL k hk
   have h9 := sz i (by omega)
   have h10 := G3 (n := (H7 e)[i]) (by omega)
   have e1 := C5 hi (by omega)
   simp only [T2, Al7, hi, Int.ofNat_lt, Int.natCast_nonneg, decide_true, br_true, gd_true, Int.toNat_natCast, E8 hi, e1, h8, bd_some]
   rw [A89 (by unfold A3; simp only [F8]; omega), Gi6 hi]
   simp only [ByteArray.append_assoc]) ⟨K, fun k hk m => by
   have h8 := hK k hk
   have h9 := sz (H7 e).length (by omega)
   simp only [T2, Al7, Int.lt_irrefl, decide_false, br_false, h8, bd_some]
   rw [A89 (by unfold A3; simp only [F8]; omega), List.take_length]
   rfl⟩
  refine loop.congr fun k => ?_
  try simp only
  congr 1
  apply A11
  simp [Ce1, B6]
def Cm0 (a b : List Int) : Bool := ((a.length : Int) == (b.length : Int)) && Ah3 a.length (fun i => rd 0 a i == rd 0 b i)
theorem Bp5 (a b : List Int) (h : a.length ≤ 1048576) : Ev (fun k => M0 k a b) (Cm0 a b) := by
 by_cases hl : a.length = b.length
 ·have hl2 : (a.length : Int) = (b.length : Int) := by omega
  have loop := Ef1 (l := fun k n i => H6 k n a b (i : Int)) a.length (fun i => rd 0 a i == rd 0 b i) true false (fun i hi => ⟨0, fun k _ n => by
   have e := C5 hi (by omega)
   have hi2 : i < b.length := by omega
   simp only [H6, S4, hi, hi2, Int.ofNat_lt, Int.natCast_nonneg, decide_true, br_true, gd_true, Int.toNat_natCast, e, bne, Ef0]⟩) ⟨0, fun k _ n => by simp [H6, S4]⟩
  refine loop.congr_val (g := fun k => M0 k a b) (fun k => by simp only [M0, Ag8, bne, hl2, beq_self_eq_true, Bool.not_true, br_false]; rfl) ?_
  simp only [Cm0, hl2, beq_self_eq_true, Bool.true_and]
  cases Ah3 a.length (fun i => rd 0 a i == rd 0 b i) <;> rfl
 ·have hl2 : ((a.length : Int) == (b.length : Int)) = false := by simp; omega
  exact .of fun k => by simp only [M0, Ag8, bne, hl2, Bool.not_false, br_true, Cm0, Bool.false_and]
def Fr0 (a b : ByteArray) : Bool := a.toList == b.toList
def Bv7 (a b : A0) : Bool := (a.1 == b.1) && (Aj5 a == Aj5 b) && (Bv3 a == Bv3 b) && (C67 a == C67 b) && (Bg8 a == Bg8 b) && Fr0 (z6 a) (z6 b) && (A15 a == A15 b) && Cm0 (G0 a) (G0 b) && Cm0 (H7 a) (H7 b)
theorem Hd0 (b x : Bool) : br b (some x) (some false) = some (b && x) := by cases b <;> rfl
theorem Cs2 (a b : A0) (h : I0 a ≤ 1048576) : Ev (fun k => Ai9 k a b) (Bv7 a b) := by
 obtain ⟨a1, a2, a3⟩ := Bv4 h
 obtain ⟨K, hK⟩ := Bp5 (G0 a) (G0 b) a1
 obtain ⟨L, hL⟩ := Bp5 (H7 a) (H7 b) a3
 refine ⟨max K L, fun k hk => ?_⟩
 have h1 := hK k (by omega)
 have h2 := hL k (by omega)
 have h3 : (a.2.2.2.2.2.2.1.toList == b.2.2.2.2.2.2.1.toList) = Fr0 (z6 a) (z6 b) := rfl
 simp only [Ai9, h1, h2, h3, bd_some, Hd0, Bv7, Aj5, Bv3, C67, Bg8, A15, Bool.and_assoc]
abbrev Dw8 : A0 := (0, 0, 0, 0, 0, [], ByteArray.empty, [], 0, ())
def C02 (e : A0) : Bool := (e.1 == 0) && (A15 e == 0) && Ce3 (H7 e) && body e
def odd (n : Int) : Bool := Int.tmod n 2 == 1
def Q2 (x : D1) : Bool := X6 x.2.1 0 1000000 && X6 x.2.2.1 0 1000000 &&
 (bif x.1 == 1 then Bv7 x.2.2.2.1 Dw8 && (x.2.2.2.2.1 == 0) && (x.2.2.2.2.2.1 == 0) && (x.2.1 == 0) && (x.2.2.1 == 0)
 else bif x.1 == 2 then (x.2.2.2.2.1 == 0) && (x.2.2.2.2.2.1 == 0) && C02 x.2.2.2.1
 else bif x.1 == 3 then (x.2.2.2.2.1 == 0) && (x.2.2.2.2.2.1 == 0) && N4 x.2.2.2.1 && odd x.2.2.2.1.1
 else bif x.1 == 4 then Bv7 x.2.2.2.1 Dw8 && X6 x.2.2.2.2.1 1 2 && X6 x.2.2.2.2.2.1 0 1000000
 else bif x.1 == 5 then Bv7 x.2.2.2.1 Dw8 && (x.2.2.2.2.1 == 0) && (x.2.2.2.2.2.1 == 0) else false)
theorem Dl8 (x : D1) (h : Aj4 x ≤ 1048576) : Ev (fun k => Aj0 k x) (Q2 x) := by
 have hm : I0 x.2.2.2.1 ≤ 1048576 := by unfold Aj4 at h; omega
 obtain ⟨K1, h1⟩ := Cs2 x.2.2.2.1 Dw8 hm
 obtain ⟨K2, h2⟩ := Cs1 x.2.2.2.1 hm
 obtain ⟨K3, h3⟩ := Ac9 x.2.2.2.1 hm
 refine ⟨max K1 (max K2 K3), fun k hk => ?_⟩
 have g1 : At0 k x.2.2.2.1 = some (Bv7 x.2.2.2.1 Dw8) := by
  have g0 := h1 k (by omega)
  simp only [Dw8] at g0
  simp only [At0, g0, bd_some]
 have g2 := h2 k (by omega)
 have g3 := h3 k (by omega)
 have g4 : ((x.2.2.2.1.2.2.2.2.2.2.2.1.length : Int) == 0) = Ce3 (H7 x.2.2.2.1) := rfl
 have g5 : (Int.tmod x.2.2.2.1.1 2 == 1) = odd x.2.2.2.1.1 := rfl
 simp only [Aj0, G8, bd_some, g1, g2, g3, g4, g5, Q2, C02, bne, Gu1, ng_false, A15]
 generalize X6 x.2.1 0 1000000 = y1; generalize X6 x.2.2.1 0 1000000 = y2
 generalize Bv7 x.2.2.2.1 Dw8 = y3; generalize (x.2.2.2.2.1 == 0) = y4; generalize (x.2.2.2.2.2.1 == 0) = y5; generalize (x.2.1 == 0) = y6; generalize (x.2.2.1 == 0) = y7
 generalize body x.2.2.2.1 = y8; generalize (x.2.2.2.1.1 == 0) = y9; generalize (x.2.2.2.1.2.2.2.2.2.2.2.2.1 == 0) = y10; generalize Ce3 (H7 x.2.2.2.1) = y11
 generalize N4 x.2.2.2.1 = y12; generalize odd x.2.2.2.1.1 = y13; generalize X6 x.2.2.2.2.1 1 2 = y14; generalize X6 x.2.2.2.2.2.1 0 1000000 = y15
 rcases Gu5 x.1 with ⟨q1, q2, q3, q4, q5, q6⟩ | ⟨q1, q2, q3, q4, q5, q6⟩ | ⟨q1, q2, q3, q4, q5, q6⟩ | ⟨q1, q2, q3, q4, q5, q6⟩ | ⟨q1, q2, q3, q4, q5, q6⟩ | ⟨q1, q2, q3, q4, q5, q6⟩ <;> simp only [q1, q2, q3, q4, q5, q6] <;> clear q1 q2 q3 q4 q5 q6 <;> cases y1 <;> cases y2 <;> try rfl
 ·cases y3 <;> cases y4 <;> cases y5 <;> cases y6 <;> cases y7 <;> rfl
 ·cases y4 <;> cases y5 <;> cases y8 <;> cases y9 <;> cases y10 <;> cases y11 <;> rfl
 ·cases y4 <;> cases y5 <;> cases y12 <;> cases y13 <;> rfl
 ·cases y3 <;> cases y14 <;> cases y15 <;> rfl
 ·cases y3 <;> cases y4 <;> cases y5 <;> rfl
theorem Hd1 (s : ByteArray) : s ++ (⟨#[]⟩ : ByteArray) = s := by apply A11; simp
theorem D96 {e : A0} (h : N4 e = true) : (Dl6 e).size ≤ 1000 := by
 obtain ⟨z1, z2, z3, z4, z5⟩ := C68 h
 unfold Dl6
 rw [F8, F8, F8, F8]; omega
end Go.Vm
end
section
namespace Go.Vm
open Go
theorem Re.b1 {α R : Type} {g : Nat → Option α} {F : Nat → α → Option R} {P : α → Prop} {Q : R → Prop} (h : Re g P) (h2 : ∀ a, P a → Re (fun k => F k a) Q) : Re (fun k => Vm.bd (g k) (F k)) Q := Re.bd C6 h h2
theorem Re.b2 {α R : Type} {g : Nat → Option α} {F : Nat × Nat → α → Option R} {P : α → Prop} {Q : R → Prop} (h : Re g P) (h2 : ∀ a, P a → Re (fun x => F x a) Q) : Re (fun x : Nat × Nat => Vm.bd (g x.1) (F x)) Q := Re.bd (A71 C6) h h2
theorem Re.c1 {α R : Type} {g : Nat → Option α} {F : Nat → α → Option R} {v : α} {Q : R → Prop} (h : Ev g v) (h2 : Re (fun k => F k v) Q) : Re (fun k => Vm.bd (g k) (F k)) Q := Re.b1 (P := fun a => a = v) (Ev.re h rfl) fun a ha => by subst ha; exact h2
theorem Re.s1 {α R : Type} {g : Nat → Option α} {F : Nat → α → Option R} {v : α} {Q : R → Prop} (h : ∀ k, g k = some v) (h2 : Re (fun k => F k v) Q) : Re (fun k => Vm.bd (g k) (F k)) Q := Re.c1 (Ev.of h) h2
theorem Bg9 {a b : Int} (h : a ≠ b) : (a == b) = false := by simpa using h
theorem Re.s2 {α R : Type} {g : Nat → Option α} {F : Nat × Nat → α → Option R} {v : α} {Q : R → Prop} (h : ∀ k, g k = some v) (h2 : Re (fun x => F x v) Q) : Re (fun x : Nat × Nat => Vm.bd (g x.1) (F x)) Q := Re.b2 (P := fun a => a = v) (Ev.re (Ev.of h) rfl) fun a ha => by subst ha; exact h2
theorem Re.c2 {α R : Type} {g : Nat → Option α} {F : Nat × Nat → α → Option R} {v : α} {Q : R → Prop} (h : Ev g v) (h2 : Re (fun x => F x v) Q) : Re (fun x : Nat × Nat => Vm.bd (g x.1) (F x)) Q := Re.b2 (P := fun a => a = v) (Ev.re h rfl) fun a ha => by subst ha; exact h2
theorem Re.gdd {ι R : Type} [Fuel ι] {p : Prop} [Decidable p] {f : ι → Option R} {Q : R → Prop} (hp : p) (h : Re f Q) : Re (fun x => Vm.gd (decide p) (f x)) Q := Re.gd (decide_eq_true hp) h
theorem Re.brd {ι R : Type} [Fuel ι] {p : Prop} [Decidable p] {f g : ι → Option R} {Q : R → Prop} (h1 : p → Re f Q) (h2 : ¬ p → Re g Q) : Re (fun x => Vm.br (decide p) (f x) (g x)) Q := Re.br (fun h => h1 (of_decide_eq_true h)) (fun h => h2 (of_decide_eq_false h))
theorem Re.bre {ι R : Type} [Fuel ι] {a b : Int} {f g : ι → Option R} {Q : R → Prop} (h1 : a = b → Re f Q) (h2 : a ≠ b → Re g Q) : Re (fun x => Vm.br (a == b) (f x) (g x)) Q := Re.br (fun h => h1 (by simpa using h)) (fun h => h2 (by simpa using h))
theorem Re.brn {ι R : Type} [Fuel ι] {a b : Int} {f g : ι → Option R} {Q : R → Prop} (h1 : a ≠ b → Re f Q) (h2 : a = b → Re g Q) : Re (fun x => Vm.br (a != b) (f x) (g x)) Q := Re.br (fun h => h1 (by simpa using h)) (fun h => h2 (by simpa using h))
theorem Re.brb {ι R : Type} [Fuel ι] {b : Bool} {f g : ι → Option R} {Q : R → Prop} (h1 : Re f Q) (h2 : Re g Q) : Re (fun x => Vm.br b (f x) (g x)) Q := Re.br (fun _ => h1) (fun _ => h2)
theorem Re.wf {σ R : Type} {l : Nat → Nat → σ → Option R} {I : σ → Prop} (μ : σ → Nat × Nat) {Q : σ → R → Prop}
  (step : ∀ s, I s → (∀ s', I s' → ((μ s').1 < (μ s).1 ∨ ((μ s').1 = (μ s).1 ∧ (μ s').2 < (μ s).2)) → Re (fun x : Nat × Nat => l x.1 x.2 s') (Q s')) → Re (fun x : Nat × Nat => l x.1 (x.2 + 1) s) (Q s)) : ∀ s, I s → Re (fun x : Nat × Nat => l x.1 x.2 s) (Q s) := by
 have : ∀ a b s, (μ s).1 = a → (μ s).2 = b → I s → Re (fun x : Nat × Nat => l x.1 x.2 s) (Q s) := by
  intro a
  induction a using Nat.strongRecOn with
  | _ a iha =>
   intro b
   induction b using Nat.strongRecOn with
   | _ b ihb =>
    intro s h1 h2 hI
    obtain ⟨v, hv, K, hK⟩ := step s hI fun s' g1 g2 => by
     rcases g2 with g2 | ⟨g2, g3⟩
     ·exact iha (μ s').1 (by omega) (μ s').2 s' rfl rfl g1
     ·exact ihb (μ s').2 (by omega) s' (by omega) rfl g1
    refine ⟨v, hv, K + 1, fun x hx => ?_⟩
    obtain ⟨y, n⟩ := x
    obtain ⟨m, rfl⟩ : ∃ m, n = m + 1 := ⟨n - 1, by have := hx.2; simp only at this; omega⟩
    exact hK (y, m) ⟨Fuel.mono (Nat.le_succ K) hx.1, by have := hx.2; simp only at this ⊢; omega⟩
 exact fun s hI => this _ _ s rfl rfl hI
theorem Gd2 (a : Int) : 0 ≤ Fo7 .i64 a 255 ∧ Fo7 .i64 a 255 < 256 := by
 have h : (BitVec.ofInt 64 a &&& BitVec.ofInt 64 255).toNat ≤ 255 := by
  rw [BitVec.toNat_and]
  exact Nat.and_le_right
 have e : Fo7 .i64 a 255 = B5 (((BitVec.ofInt 64 a &&& BitVec.ofInt 64 255).toNat : Nat) : Int) := rfl
 rw [e, D8 (by omega) (by omega)]
 omega
def CurOk (c : A9) : Prop := 0 ≤ c.2.1 ∧ c.2.1 ≤ c.1.length ∧ c.1.length ≤ 1048576
theorem Cs3 (c : A9) (h : CurOk c) : Re (fun k => Ab8 k c) (fun r => (0 ≤ r.1 ∧ r.1 < 256) ∧ CurOk r.2.1) := by
 obtain ⟨h1, h2, h3⟩ := h
 refine Re.brd (fun h4 => ?_) (fun h4 => ?_)
 ·refine Re.gdd h1 (Re.gdd h4 (Re.ret ⟨Gd2 _, ?_⟩))
  have : B5 (c.2.1 + 1) = c.2.1 + 1 := D8 (by omega) (by omega)
  exact ⟨by simp only [this]; omega, by simp only [this]; omega, h3⟩
 ·exact Re.ret ⟨Gd2 _, h1, h2, h3⟩
def D97 (n : Int) (r : Int × A9 × Unit) : Prop := (0 ≤ r.1 ∧ (r.1 < n ∨ n ≤ 0 ∧ r.1 = 0)) ∧ CurOk r.2.1
theorem M7 (c : A9) (n : Int) (h : CurOk c) : Re (fun k => C7 k c n) (D97 n) := by
 refine Re.brd (fun h1 => Re.ret ⟨⟨Int.le_refl 0, .inr ⟨h1, rfl⟩⟩, h⟩) (fun h1 => ?_)
 refine Re.brd (fun h2 => ?_) (fun h2 => ?_)
 ·refine Re.b1 (Cs3 c h) fun r hr => ?_
  refine Re.ng (by simp; omega) (Re.ret ⟨⟨Int.tmod_nonneg _ hr.1.1, .inl (Int.tmod_lt_of_pos _ (by omega))⟩, hr.2⟩)
 ·refine Re.b1 (Cs3 c h) fun r2 hr2 => ?_
  refine Re.b1 (Cs3 _ hr2.2) fun r3 hr3 => ?_
  refine Re.b1 (Cs3 _ hr3.2) fun r4 hr4 => ?_
  refine Re.b1 (Cs3 _ hr4.2) fun r5 hr5 => ?_
  obtain ⟨⟨a1, a2⟩, _⟩ := hr2
  obtain ⟨⟨a3, a4⟩, _⟩ := hr3
  obtain ⟨⟨a5, a6⟩, _⟩ := hr4
  obtain ⟨⟨a7, a8⟩, _⟩ := hr5
  have e1 : B5 (r2.1 * 16777216) = r2.1 * 16777216 := D8 (by omega) (by omega)
  have e2 : B5 (r3.1 * 65536) = r3.1 * 65536 := D8 (by omega) (by omega)
  have e3 : B5 (r4.1 * 256) = r4.1 * 256 := D8 (by omega) (by omega)
  have e4 : B5 (r2.1 * 16777216 + r3.1 * 65536) = r2.1 * 16777216 + r3.1 * 65536 := D8 (by omega) (by omega)
  have e5 : B5 (r2.1 * 16777216 + r3.1 * 65536 + r4.1 * 256) = r2.1 * 16777216 + r3.1 * 65536 + r4.1 * 256 := D8 (by omega) (by omega)
  have e6 : B5 (r2.1 * 16777216 + r3.1 * 65536 + r4.1 * 256 + r5.1) = r2.1 * 16777216 + r3.1 * 65536 + r4.1 * 256 + r5.1 := D8 (by omega) (by omega)
  simp only [e1, e2, e3, e4, e5, e6]
  refine Re.ng (by simp; omega) (Re.ret ⟨⟨Int.tmod_nonneg _ (by omega), .inl (Int.tmod_lt_of_pos _ (by omega))⟩, ?_⟩)
  assumption
theorem Bh0 (c : A9) (n : Int) (h : CurOk c) : Re (fun k => N7 k c n) (fun r => CurOk r.2.1) :=
 Re.b1 (M7 c n h) fun r hr => Re.ret hr.2
theorem Ba7 (c : A9) (l : List Int) (h : CurOk c) (hl : l ≠ []) : Re (fun k => R6 k c l) (fun r => r.1 ∈ l ∧ CurOk r.2.1) := by
 refine Re.b1 (M7 c l.length h) fun r hr => ?_
 obtain ⟨⟨h1, h2⟩, h3⟩ := hr
 have hl : 0 < l.length := List.length_pos_iff.2 hl
 have h4 : r.1 < l.length := by omega
 refine Re.gdd h1 (Re.gdd h4 (Re.ret ⟨?_, h3⟩))
 rw [E8 (show r.1.toNat < l.length by omega)]
 exact List.getElem_mem _
theorem Gd3 (c : A9) (l : List ByteArray) (h : CurOk c) (hl : l ≠ []) : Re (fun k => A75 k c l) (fun r => r.1 ∈ l ∧ CurOk r.2.1) := by
 refine Re.b1 (M7 c l.length h) fun r hr => ?_
 obtain ⟨⟨h1, h2⟩, h3⟩ := hr
 have hl : 0 < l.length := List.length_pos_iff.2 hl
 have h4 : r.1 < l.length := by omega
 refine Re.gdd h1 (Re.gdd h4 (Re.ret ⟨?_, h3⟩))
 rw [E8 (show r.1.toNat < l.length by omega)]
 exact List.getElem_mem _
theorem CurOk.eta {c : A9} (h : CurOk c) : CurOk (c.1, c.2.1, c.2.2.1, ()) := h
def Gu6 (e : A0) : Prop := e.1 = 0 ∧ (e.2.1 = 2 ∨ e.2.1 = 3 ∨ e.2.1 = 4 ∨ e.2.1 = 5) ∧ (1 ≤ e.2.2.1 ∧ e.2.2.1 ≤ 3) ∧ (0 ≤ e.2.2.2.1 ∧ e.2.2.2.1 ≤ 4) ∧ (0 ≤ e.2.2.2.2.1 ∧ e.2.2.2.2.1 ≤ 3) ∧ (e.2.1 = 3 → e.2.2.2.2.2.1.length = 5) ∧ (e.2.1 ≠ 3 → e.2.2.2.2.2.1 = []) ∧ e.2.2.2.2.2.2.1.size ≤ 5 ∧ e.2.2.2.2.2.2.2.1 = [] ∧ e.2.2.2.2.2.2.2.2.1 = 0
theorem Hd2 {r : Int × A9 × Unit} (h : D97 3 r) : B5 (1 + r.1) = 1 + r.1 ∧ 1 ≤ 1 + r.1 ∧ 1 + r.1 ≤ 3 := by
 obtain ⟨⟨h1, h2⟩, _⟩ := h
 have : r.1 < 3 := by omega
 exact ⟨D8 (by omega) (by omega), by omega, by omega⟩
theorem D98 (c : A9) (h : CurOk c) : Re (fun k => Aj2 k c) (fun r => Gu6 r.1 ∧ CurOk r.2.1) := by
 refine Re.b1 (Ba7 c _ h (by simp)) fun r1 h1 => ?_
 refine Re.b1 (M7 _ 3 h1.2) fun r2 h2 => ?_
 obtain ⟨w, w1, w2⟩ := Hd2 h2
 have c2 := h2.2
 obtain ⟨hk, h1c⟩ := h1
 simp only [List.mem_cons, List.not_mem_nil, or_false] at hk
 refine Re.bre (fun o2 => ?_) (fun o2 => ?_)
 ·refine Re.b1 (M7 _ 4 c2) fun r3 h3 => ?_
  have e3 : B5 (1 + r3.1) = 1 + r3.1 := by obtain ⟨⟨q1, q2⟩, _⟩ := h3; exact D8 (by omega) (by omega)
  have b3 : 0 ≤ 1 + r3.1 ∧ 1 + r3.1 ≤ 4 := by obtain ⟨⟨q1, q2⟩, _⟩ := h3; omega
  refine Re.b1 (Bh0 _ 2 h3.2) fun r4 h4 => ?_
  rw [w, e3]
  refine Re.brb ?_ ?_
  ·refine Re.b1 (Ba7 _ _ h4 (List.cons_ne_nil _ _)) fun r5 h5 => ?_
   obtain ⟨g5, c5⟩ := h5
   simp only [List.mem_cons, List.not_mem_nil, or_false] at g5
   have m5 : 0 ≤ r5.1 ∧ r5.1 ≤ 3 := by omega
   refine Re.brb (Re.brb ?_ ?_) ?_ <;> exact Re.ret ⟨⟨rfl, .inl o2, ⟨w1, w2⟩, ⟨by simp only; omega, by simp only; omega⟩, by simp only; omega, fun h => absurd (o2.symm.trans h) (by decide), fun _ => rfl, by simp only; decide, rfl, rfl⟩, c5⟩
  ·refine Re.b1 (Ba7 _ _ h4 (List.cons_ne_nil _ _)) fun r5 h5 => ?_
   obtain ⟨g5, c5⟩ := h5
   simp only [List.mem_cons, List.not_mem_nil, or_false] at g5
   have m5 : 0 ≤ r5.1 ∧ r5.1 ≤ 3 := by omega
   refine Re.brb (Re.brb ?_ ?_) ?_ <;> exact Re.ret ⟨⟨rfl, .inl o2, ⟨w1, w2⟩, ⟨by simp only; omega, by simp only; omega⟩, by simp only; omega, fun h => absurd (o2.symm.trans h) (by decide), fun _ => rfl, by simp only; decide, rfl, rfl⟩, c5⟩
 refine Re.bre (fun o3 => ?_) (fun o3 => ?_)
 ·refine Re.enter (f := fun k n => T3 k n 0 r2.2.1.1 r2.2.1.2.1 r2.2.1.2.2.1 r1 r2 []) C6 ?_
  have := Re.loop (ι := Nat) (l := fun k n (s : Int × A9 × List Int) => T3 k n s.1 s.2.1.1 s.2.1.2.1 s.2.1.2.2.1 r1 r2 s.2.2) (I := fun s => s.1 = s.2.2.length ∧ s.2.2.length ≤ 5 ∧ CurOk s.2.1) (fun s => 5 - s.2.2.length) (Q := fun _ r => Gu6 r.1 ∧ CurOk r.2.1) (fun s hi ih => by
   obtain ⟨i, c, xs⟩ := s
   obtain ⟨hi1, hi2, hi3⟩ := hi
   simp only at hi1 hi2 hi3 ih ⊢
   simp only [T3, A96]
   refine Re.brd (fun q1 => ?_) (fun q1 => ?_)
   ·refine Re.b2 (Ba7 _ _ hi3.eta (List.cons_ne_nil _ _)) fun r7 h7 => ?_
    refine Re.gdd (by simp [A3]; omega) ?_
    have e : B5 (i + 1) = i + 1 := D8 (by omega) (by omega)
    rw [e]
    exact ih (i + 1, r7.2.1, xs ++ [r7.1]) ⟨by simp; omega, by simp; omega, h7.2⟩ (by simp; omega)
   ·refine Re.b2 (Bh0 _ 2 hi3.eta) fun r8 h8 => ?_
    rw [w]
    have hx : xs.length = 5 := by omega
    refine Re.brb (Re.gdd (by omega) (Re.ret ?_)) (Re.ret ?_)
    ·exact ⟨⟨rfl, .inr (.inl o3), ⟨w1, w2⟩, ⟨by simp only; omega, by simp only; omega⟩, by simp only; omega, fun _ => by simp only [List.length_set]; exact hx, fun h => absurd o3 h, by simp only; decide, rfl, rfl⟩, h8⟩
    ·exact ⟨⟨rfl, .inr (.inl o3), ⟨w1, w2⟩, ⟨by simp only; omega, by simp only; omega⟩, by simp only; omega, fun _ => hx, fun h => absurd o3 h, by simp only; decide, rfl, rfl⟩, h8⟩) (0, r2.2.1, []) ⟨rfl, by simp, c2⟩
  exact this
 rw [w]
 have hno : r1.1 ≠ 3 := o3
 refine Re.bre (fun o4 => ?_) (fun o4 => ?_)
 ·refine Re.b1 (Gd3 _ _ c2 (List.cons_ne_nil _ _)) fun r9 h9 => Re.ret ?_
  have hs : r9.1.size ≤ 5 := by
   have := h9.1
   simp only [List.mem_cons, List.not_mem_nil, or_false] at this
   rcases this with e | e | e | e <;> (rw [e]; decide)
  exact ⟨⟨rfl, .inr (.inr (.inl o4)), ⟨w1, w2⟩, ⟨by simp only; omega, by simp only; omega⟩, by simp only; omega, fun h => absurd h hno, fun _ => rfl, hs, rfl, rfl⟩, h9.2⟩
 have o5 : r1.1 = 5 := by omega
 refine Re.bre (fun _ => ?_) (fun h => absurd o5 h)
 refine Re.b1 (Gd3 _ _ c2 (List.cons_ne_nil _ _)) fun r9 h9 => Re.ret ?_
 have hs : r9.1.size ≤ 5 := by
  have := h9.1
  simp only [List.mem_cons, List.not_mem_nil, or_false] at this
  rcases this with e | e | e | e <;> (rw [e]; decide)
 exact ⟨⟨rfl, .inr (.inr (.inr o5)), ⟨w1, w2⟩, ⟨by simp only; omega, by simp only; omega⟩, by simp only; omega, fun h => absurd h hno, fun _ => rfl, hs, rfl, rfl⟩, h9.2⟩
end Go.Vm
end
section
namespace Go.Vm
open Go
def H2 (es : List A0) (id : Int) : A0 × Bool := ((es.find? fun e => e.1 == id).map fun e => (e, true)).getD (Dw8, false)
def atS (s : List A1) (key : Int) : Int := ((s.find? fun x => x.1 == key).map fun x => x.2.1).getD 0
theorem Z4 (es : List A0) (h : es.length ≤ 1048576) (id : Int) : Ev (fun k => L7 k es id) (H2 es id) := by
 have := Gd0 (l := fun k n i => g7 k n es id (i : Int)) es (fun e => e.1 == id) (fun e => (e, true)) (Dw8, false) (fun i hi => ⟨0, fun k _ n => by
  simp only [g7, A33, Int.ofNat_lt, hi, Int.natCast_nonneg, decide_true, br_true, gd_true, Int.toNat_natCast, E8, C5 hi (by omega)]⟩) ⟨0, fun k _ n => by
  simp only [g7, A33, Int.lt_irrefl, decide_false, br_false]⟩
 exact this
theorem A50 (s : List A1) (h : s.length ≤ 1048576) (key : Int) : Ev (fun k => Ce2 k s key) (atS s key) := by
 have := Gd0 (l := fun k n i => Bt1 k n s key (i : Int)) s (fun x => x.1 == key) (fun x => x.2.1) 0 (fun i hi => ⟨0, fun k _ n => by
  simp only [Bt1, Df9, Int.ofNat_lt, hi, Int.natCast_nonneg, decide_true, br_true, gd_true, Int.toNat_natCast, E8, C5 hi (by omega)]⟩) ⟨0, fun k _ n => by
  simp only [Bt1, Df9, Int.lt_irrefl, decide_false, br_false]⟩
 exact this
def Eg4 (es : List A0) (s : List A1) : Prop := es.length ≤ 1048576 ∧ s.length ≤ 1048576
def Eg5 (es : List A0) (s : List A1) (u : Int) : Int := bif (H2 es (atS s 1)).2 && ((H2 es (atS s 1)).1.2.1 == 1 && (H2 es (atS s 1)).1.2.2.1 == u) then 100 else 0
def Z5 (es : List A0) (s : List A1) (u : Int) : Int := bif X6 u 1 5 then (bif (H2 es (atS s 2)).2 && ((H2 es (atS s 2)).1.2.1 == 3 && (((H2 es (atS s 2)).1.2.2.2.2.2.1.length : Int) == 5)) then rd 0 (H2 es (atS s 2)).1.2.2.2.2.2.1 (u - 1).toNat else Eg5 es s u) else 0
theorem j6 (es : List A0) (s : List A1) (h : Eg4 es s) (u : Int) : Ev (fun k => U3 k es s u) (Z5 es s u) := by
 obtain ⟨h1, h2⟩ := h
 refine Re.eq (Re.s1 (G8 · _ _ _) ?_)
 unfold Z5
 cases hu : X6 u 1 5 with
 | false => exact Re.ret rfl
 | true =>
  have hr := G2.1 hu
  have tail : Re (fun k => bd (Ce2 k s 1) fun r4 => (bd (L7 k es r4) fun r5 => (br r5.2 (br (r5.1.2.1 == 1) (br (r5.1.2.2.1 == u) (some 100) (some 0)) (some 0)) (some (0 : Int))))) (fun v => v = Eg5 es s u) := by
   refine Re.c1 (A50 s h2 1) (Re.c1 (Z4 es h1 _) ?_)
   unfold Eg5
   cases (H2 es (atS s 1)).2 with
   | false => exact Re.ret rfl
   | true =>
    cases ((H2 es (atS s 1)).1.2.1 == 1) with
    | false => exact Re.ret rfl
    | true => cases ((H2 es (atS s 1)).1.2.2.1 == u) <;> exact Re.ret rfl
  refine Re.br (b := false) (fun h => by cases h) (fun _ => Re.c1 (A50 s h2 2) (Re.c1 (Z4 es h1 _) ?_))
  simp only [cond_true]
  cases hf : (H2 es (atS s 2)).2 with
  | false => exact tail
  | true =>
   cases hk : ((H2 es (atS s 2)).1.2.1 == 3) with
   | false => exact tail
   | true =>
    cases hl : (((H2 es (atS s 2)).1.2.2.2.2.2.1.length : Int) == 5) with
    | false => exact tail
    | true =>
     have hl5 : ((H2 es (atS s 2)).1.2.2.2.2.2.1.length : Int) = 5 := by simpa using hl
     have e1 : B5 (u - 1) = u - 1 := D8 (by omega) (by omega)
     simp only [e1, br_true, Bool.and_self, cond_true]
     exact Re.gdd (by omega) (Re.gdd (by omega) (Re.ret rfl))
def J9 (es : List A0) (s : List A1) (u : Int) : Int := bif X6 u 1 5 && ((H2 es (atS s (10 + u))).2 && ((H2 es (atS s (10 + u))).1.2.1 == 2 && (H2 es (atS s (10 + u))).1.2.2.2.1 == u)) then (H2 es (atS s (10 + u))).1.2.2.2.2.1 else 0
theorem S1 (es : List A0) (s : List A1) (h : Eg4 es s) (u : Int) : Ev (fun k => Q5 k es s u) (J9 es s u) := by
 obtain ⟨h1, h2⟩ := h
 refine Re.eq (Re.s1 (G8 · _ _ _) ?_)
 unfold J9
 cases hu : X6 u 1 5 with
 | false => exact Re.ret rfl
 | true =>
  have hr := G2.1 hu
  have e1 : B5 (10 + u) = 10 + u := D8 (by omega) (by omega)
  rw [e1]
  refine Re.br (b := false) (fun h => by cases h) (fun _ => Re.c1 (A50 s h2 _) (Re.c1 (Z4 es h1 _) ?_))
  cases hf : (H2 es (atS s (10 + u))).2 with
  | false => exact Re.ret rfl
  | true =>
   refine Re.br (b := false) (fun h => by cases h) (fun _ => ?_)
   refine Re.brn (fun q => Re.ret (by rw [Bg9 q]; rfl)) (fun q => ?_)
   rw [show ((H2 es (atS s (10 + u))).1.2.1 == 2) = true by simp [q]]
   refine Re.brn (fun q2 => Re.ret (by rw [Bg9 q2]; rfl)) (fun q2 => ?_)
   rw [show ((H2 es (atS s (10 + u))).1.2.2.2.1 == u) = true by simp [q2]]
   exact Re.ret rfl
def Dl9 (s : List A1) : Bool := Ah3 s.length fun i => !decide ((rd I4 s i).1 > 10)
theorem Dw9 (s : List A1) (h : s.length ≤ 1048576) : Ev (fun k => A91 k s) (Dl9 s) := by
 have := Ef1 (l := fun k n i => W5 k n s (i : Int)) s.length (fun i => !decide ((rd I4 s i).1 > 10)) true false (fun i hi => ⟨0, fun k _ n => by
  simp only [W5, Av2, Int.ofNat_lt, hi, Int.natCast_nonneg, decide_true, br_true, gd_true, Int.toNat_natCast, C5 hi (by omega), Ef0]⟩) ⟨0, fun k _ n => by
  simp only [W5, Av2, Int.lt_irrefl, decide_false, br_false]⟩
 exact this.congr_val (fun k => rfl) (by unfold Dl9; cases Ah3 s.length _ <;> rfl)
def Fr1 (es : List A0) (s : List A1) (e : A0) : Bool :=
 bif e.2.2.2.2.1 == 2 then J9 es s e.2.2.2.1 == 1 || (J9 es s e.2.2.2.1 == 2 || ((H2 es (atS s 1)).2 && ((H2 es (atS s 1)).1.2.2.1 == e.2.2.1 && Dl9 s)))
 else bif e.2.2.2.2.1 == 0 then J9 es s e.2.2.2.1 == 1 || J9 es s e.2.2.2.1 == 2 else false
theorem Eg6 (es : List A0) (s : List A1) (h : Eg4 es s) (e : A0) : Ev (fun k => Bn9 k es s e) (Fr1 es s e) := by
 refine Re.eq (Re.c1 (S1 es s h _) ?_)
 unfold Fr1
 cases e.2.2.2.2.1 == 2 with
 | true =>
  refine Re.c1 (A50 s h.2 1) (Re.c1 (Z4 es h.1 _) ?_)
  cases (H2 es (atS s 1)).2 with
  | true =>
   cases (H2 es (atS s 1)).1.2.2.1 == e.2.2.1 with
   | true =>
    refine Re.c1 (Dw9 s h.2) ?_
    cases J9 es s e.2.2.2.1 == 1 <;> cases J9 es s e.2.2.2.1 == 2 <;> exact Re.ret rfl
   | false => cases J9 es s e.2.2.2.1 == 1 <;> cases J9 es s e.2.2.2.1 == 2 <;> exact Re.ret rfl
  | false => cases J9 es s e.2.2.2.1 == 1 <;> cases J9 es s e.2.2.2.1 == 2 <;> exact Re.ret rfl
 | false =>
  cases e.2.2.2.2.1 == 0 with
  | true => cases J9 es s e.2.2.2.1 == 1 <;> exact Re.ret rfl
  | false => exact Re.ret rfl
def Gd4 (es : List A0) (s : List A1) (e : A0) : Bool :=
 J9 es s e.2.2.1 == 2 && (bif e.2.2.2.2.1 == 1 then J9 es s e.2.2.2.1 == 0
  else bif e.2.2.2.2.1 == 0 then (J9 es s e.2.2.2.1 == 1 || J9 es s e.2.2.2.1 == 2) && (decide (Z5 es s e.2.2.1 ≥ 50) && decide (Z5 es s e.2.2.1 > Z5 es s e.2.2.2.1))
  else bif e.2.2.2.2.1 == 3 then (J9 es s e.2.2.2.1 != 3) && (decide (Z5 es s e.2.2.1 ≥ 50) && decide (Z5 es s e.2.2.1 > Z5 es s e.2.2.2.1)) else false)
def Dm0 (es : List A0) (s : List A1) (e : A0) : Bool := bif e.2.2.2.1 == e.2.2.1 then Fr1 es s e else Gd4 es s e
theorem Dm1 (es : List A0) (s : List A1) (h : Eg4 es s) (e : A0) : Ev (fun k => Ai8 k es s e) (Dm0 es s e) := by
 refine Re.eq ?_
 simp only [Ai8]
 unfold Dm0
 cases e.2.2.2.1 == e.2.2.1 with
 | true => exact Re.c1 (Eg6 es s h e) (Re.ret rfl)
 | false =>
  unfold Gd4
  refine Re.c1 (S1 es s h _) (Re.c1 (j6 es s h _) ?_)
  cases decide (Z5 es s e.2.2.1 ≥ 50) with
  | true =>
   refine Re.c1 (j6 es s h _) (Re.c1 (S1 es s h _) ?_)
   refine Re.brn (fun q => Re.ret (by rw [Bg9 q]; rfl)) (fun q => ?_)
   rw [show (J9 es s e.2.2.1 == 2) = true by simp [q]]
   cases e.2.2.2.2.1 == 1 with
   | true => exact Re.ret rfl
   | false =>
    cases e.2.2.2.2.1 == 0 with
    | true => cases J9 es s e.2.2.2.1 == 1 <;> cases J9 es s e.2.2.2.1 == 2 <;> exact Re.ret rfl
    | false =>
     cases e.2.2.2.2.1 == 3 with
     | true => cases J9 es s e.2.2.2.1 != 3 <;> exact Re.ret rfl
     | false => exact Re.ret rfl
  | false =>
   refine Re.c1 (S1 es s h _) ?_
   refine Re.brn (fun q => Re.ret (by rw [Bg9 q]; rfl)) (fun q => ?_)
   rw [show (J9 es s e.2.2.1 == 2) = true by simp [q]]
   cases e.2.2.2.2.1 == 1 with
   | true => exact Re.ret rfl
   | false =>
    cases e.2.2.2.2.1 == 0 with
    | true => cases J9 es s e.2.2.2.1 == 1 <;> cases J9 es s e.2.2.2.1 == 2 <;> exact Re.ret rfl
    | false =>
     cases e.2.2.2.2.1 == 3 with
     | true => cases J9 es s e.2.2.2.1 != 3 <;> exact Re.ret rfl
     | false => exact Re.ret rfl
def Am4 (es : List A0) (s : List A1) (e : A0) (i : Nat) : Bool :=
 rd 0 e.2.2.2.2.2.1 i == Z5 es s ((i + 1 : Nat) : Int) || (!decide (rd 0 e.2.2.2.2.2.1 i > Z5 es s e.2.2.1) && (!decide (Z5 es s ((i + 1 : Nat) : Int) ≥ Z5 es s e.2.2.1) || ((i + 1 : Nat) : Int) == e.2.2.1))
def Eg7 (es : List A0) (s : List A1) (e : A0) : Bool := J9 es s e.2.2.1 == 2 && (!decide (Z5 es s e.2.2.1 < 50) && Ah3 5 (Am4 es s e))
theorem Dx0 (es : List A0) (s : List A1) (h : Eg4 es s) (e : A0) (hl : e.2.2.2.2.2.1.length = 5) : Ev (fun k => A92 k es s e) (Eg7 es s e) := by
 refine Re.eq (Re.c1 (j6 es s h _) (Re.c1 (S1 es s h _) ?_))
 unfold Eg7
 refine Re.brn (fun q => Re.ret (by rw [Bg9 q]; rfl)) (fun q => ?_)
 rw [show (J9 es s e.2.2.1 == 2) = true by simp [q]]
 refine Re.brd (fun q => Re.ret (by rw [decide_eq_true q]; rfl)) (fun q => ?_)
 rw [decide_eq_false q]
 have hev : ∀ u : Int, Ev (fun k => U3 k es s u) (Z5 es s u) := fun u => j6 es s h u
 refine Re.enter (f := fun k n => R9 k n es s (Z5 es s e.2.2.1) 1 e) C6 ?_
 have := Re.loop (ι := Nat) (l := fun k n (i : Nat) => R9 k n es s (Z5 es s e.2.2.1) ((i + 1 : Nat) : Int) e) (I := fun i => i ≤ 5 ∧ ∀ j, j < i → Am4 es s e j = true) (fun i => 5 - i) (Q := fun _ v => v = (true && (!false && Ah3 5 (Am4 es s e)))) (fun i hi ih => by
  simp only [R9, Bi8]
  refine Re.brd (fun q => ?_) (fun q => Re.ret ?_)
  ·have hi5 : i < 5 := by omega
   refine Re.c2 (hev _) ?_
   have e1 : B5 (((i + 1 : Nat) : Int) - 1) = (i : Int) := by rw [D8 (by omega) (by omega)]; omega
   have e2 : B5 (((i + 1 : Nat) : Int) + 1) = ((i + 1 + 1 : Nat) : Int) := by rw [D8 (by omega) (by omega)]; omega
   rw [e1, e2, Int.toNat_natCast]
   refine Re.gdd (by omega) (Re.gdd (by omega) ?_)
   have next : Am4 es s e i = true → Re (fun x : Nat × Nat => R9 x.1 x.2 es s (Z5 es s e.2.2.1) ((i + 1 + 1 : Nat) : Int) e) (fun v => v = (true && (!false && Ah3 5 (Am4 es s e)))) := fun g => ih (i + 1) ⟨by omega, fun j hj => by
    by_cases hj2 : j < i
    ·exact hi.2 j hj2
    ·have : j = i := by omega
     subst this; exact g⟩ (by omega)
   have no : Am4 es s e i = false → false = (true && (!false && Ah3 5 (Am4 es s e))) := fun g => by
    have : Ah3 5 (Am4 es s e) = false := by
     cases ha : Ah3 5 (Am4 es s e) with
     | false => rfl
     | true => rw [Ae3] at ha; rw [ha i hi5] at g; cases g
    rw [this]; rfl
   have hp : Am4 es s e i = (rd 0 e.2.2.2.2.2.1 i == Z5 es s ((i + 1 : Nat) : Int) || (!decide (rd 0 e.2.2.2.2.2.1 i > Z5 es s e.2.2.1) && (!decide (Z5 es s ((i + 1 : Nat) : Int) ≥ Z5 es s e.2.2.1) || ((i + 1 : Nat) : Int) == e.2.2.1))) := rfl
   refine Re.br (fun g => next (by rw [hp, g]; rfl)) (fun g => ?_)
   rw [g, Bool.false_or] at hp
   refine Re.br (fun g => Re.ret (no (by rw [hp, g]; rfl))) (fun g => ?_)
   rw [g, Bool.not_false, Bool.true_and] at hp
   refine Re.br (fun g => ?_) (fun g => next (by rw [hp, g]; rfl))
   rw [g, Bool.not_true, Bool.false_or] at hp
   exact Re.brn (fun g => Re.ret (no (by rw [hp, Bg9 g]))) (fun g => next (by rw [hp]; simp [g]))
  ·have : Ah3 5 (Am4 es s e) = true := Ae3.2 fun j hj => hi.2 j (by omega)
   rw [this]; rfl) 0 ⟨by omega, fun j hj => by omega⟩
 exact this
def Av4 (es : List A0) (s : List A1) (e : A0) : Bool :=
 N4 e && (bif e.2.1 == 1 then (s.length : Int) == 0 else (H2 es (atS s 1)).2 && ((H2 es (atS s 1)).1.2.1 == 1 && (bif e.2.1 == 2 then Dm0 es s e else bif e.2.1 == 3 then Eg7 es s e
  else bif e.2.1 == 4 then J9 es s e.2.2.1 == 2 && decide (Z5 es s e.2.2.1 ≥ 50) else J9 es s e.2.2.1 == 2)))
theorem E21 {e : A0} (h : N4 e = true) (h3 : e.2.1 = 3) : e.2.2.2.2.2.1.length = 5 := by
 have hb := (Ax3 h).1
 unfold body at hb
 simp only [Bool.and_eq_true] at hb
 have := hb.1.2
 unfold E17 Fq7 at this
 rw [show (Aj5 e == 3) = true by show (e.2.1 == 3) = true; rw [h3]; rfl] at this
 simp only [cond_true, Bool.and_eq_true, beq_iff_eq] at this
 have h5 : (((G0 e).length : Nat) : Int) = 5 := by first | exact this.1 | exact this.2
 show (G0 e).length = 5
 omega
theorem Bv8 (es : List A0) (s : List A1) (h : Eg4 es s) (e : A0) (hm : I0 e ≤ 1048576) : Ev (fun k => As3 k es s e) (Av4 es s e) := by
 refine Re.eq (Re.c1 (Ac9 e hm) ?_)
 unfold Av4
 cases ho : N4 e with
 | false => exact Re.ret rfl
 | true =>
  refine Re.br (b := false) (fun h => by cases h) (fun _ => ?_)
  refine Re.br (fun q => Re.ret (by rw [q]; rfl)) (fun q => ?_)
  rw [q]
  refine Re.c1 (A50 s h.2 1) (Re.c1 (Z4 es h.1 _) ?_)
  cases (H2 es (atS s 1)).2 with
  | false => exact Re.ret rfl
  | true =>
   refine Re.br (b := false) (fun h => by cases h) (fun _ => ?_)
   refine Re.brn (fun g => Re.ret (by rw [Bg9 g]; rfl)) (fun g => ?_)
   rw [show ((H2 es (atS s 1)).1.2.1 == 1) = true by simp [g]]
   refine Re.br (fun g => ?_) (fun g => ?_)
   ·rw [g]; exact Re.c1 (Dm1 es s h e) (Re.ret rfl)
   rw [g]
   refine Re.bre (fun g => ?_) (fun g => ?_)
   ·have h5 := E21 ho g
    rw [g]; exact Re.c1 (Dx0 es s h e h5) (Re.ret rfl)
   rw [Bg9 g]
   refine Re.br (fun g => ?_) (fun g => ?_)
   ·rw [g]
    refine Re.c1 (S1 es s h _) ?_
    cases J9 es s e.2.2.1 == 2 with
    | true => exact Re.c1 (j6 es s h _) (Re.ret rfl)
    | false => exact Re.ret rfl
   ·rw [g]
    exact Re.c1 (S1 es s h _) (Re.ret rfl)
def Ch0 (e : A0) : Int := bif e.2.1 == 1 then 1 else bif e.2.1 == 3 then 2 else bif e.2.1 == 4 then 3 else bif e.2.1 == 2 && X6 e.2.2.2.1 1 5 then 10 + e.2.2.2.1 else 0
theorem Bv9 (e : A0) (k : Nat) : A34 k e = some (Ch0 e) := by
 unfold A34 Ch0
 cases e.2.1 == 1 with
 | true => rfl
 | false =>
  cases e.2.1 == 3 with
  | true => rfl
  | false =>
   cases e.2.1 == 4 with
   | true => rfl
   | false =>
    cases e.2.1 == 2 with
    | false => rfl
    | true =>
     simp only [br_true, br_false, G8, bd_some]
     cases hu : X6 e.2.2.2.1 1 5 with
     | false => rfl
     | true =>
      have := G2.1 hu
      rw [br_true, D8 (by omega) (by omega)]
      rfl
end Go.Vm
end
section
namespace Go.Vm
open Go
theorem At7 (xs : List Int) (hx : xs.length ≤ 1048576) (y : Int) : Ev (fun k => Av3 k xs y) (decide (y ∈ xs)) := by
 refine Re.eq (Re.enter (f := fun k n => Ah6 k n xs y 0) C6 ?_)
 have := Re.loop (ι := Nat) (l := fun k n (i : Nat) => Ah6 k n xs y (i : Int)) (I := fun i => i ≤ xs.length ∧ ∀ j, j < i → rd 0 xs j ≠ y) (fun i => xs.length - i) (Q := fun _ r => r = decide (y ∈ xs)) (fun i hi ih => by
  simp only [Ah6, Cl6]
  refine Re.brd (fun h => ?_) (fun h => ?_)
  ·have hl : i < xs.length := by omega
   refine Re.gdd (by omega) (Re.gdd h ?_)
   rw [Int.toNat_natCast]
   refine Re.bre (fun e => Re.ret ?_) (fun e => ?_)
   ·exact (decide_eq_true (by rw [← e, E8 hl]; exact List.getElem_mem _)).symm
   ·rw [C5 hl (by omega)]
    refine ih (i + 1) ⟨by omega, fun j hj => ?_⟩ (by omega)
    by_cases q : j < i
    ·exact hi.2 j q
    ·have : j = i := by omega
     subst this; exact e
  ·refine Re.ret (decide_eq_false fun hm => ?_).symm
   obtain ⟨j, hj, e⟩ := List.getElem_of_mem hm
   exact absurd (by rw [E8 hj]; exact e) (hi.2 j (by omega))) 0 ⟨Nat.zero_le _, fun j hj => by omega⟩
 exact this
def e7 (y : Int) : List Int → Bool → List Int
 | [], d => if d then [] else [y]
 | x :: xs, d => if x ≥ y ∧ d = false then y :: (if x = y then e7 y xs true else x :: e7 y xs true) else (if x = y then e7 y xs d else x :: e7 y xs d)
def Fr2 (xs : List Int) (y : Int) : List Int := e7 y xs false
theorem Bw0 (y : Int) : ∀ (xs : List Int) (d : Bool), (e7 y xs d).length ≤ xs.length + 1
 | [], d => by unfold e7; split <;> simp
 | x :: xs, d => by
  have h1 := Bw0 y xs true
  have h2 := Bw0 y xs d
  have h3 : (e7 y xs true).length ≤ xs.length := by
   clear h1 h2
   induction xs with
   | nil => simp [e7]
   | cons z zs ih =>
    unfold e7
    rw [if_neg (by simp)]
    split <;> simp <;> omega
  unfold e7
  split
  ·split <;> simp <;> omega
  ·split <;> simp <;> omega
theorem E22 (xs : List Int) (y : Int) : (Fr2 xs y).length ≤ xs.length + 1 := Bw0 y xs false
theorem A80 (y : Int) : ∀ (xs : List Int) (d : Bool) (z : Int), z ∈ e7 y xs d ↔ (z ∈ xs ∧ z ≠ y) ∨ (d = false ∧ z = y)
 | [], d, z => by cases d <;> simp [e7]
 | x :: xs, d, z => by
  have h1 := A80 y xs true z
  have h2 := A80 y xs d z
  unfold e7
  by_cases hd : x ≥ y ∧ d = false
  ·rw [if_pos hd]
   by_cases hx : x = y
   ·rw [if_pos hx]
    simp only [List.mem_cons, h1, hd.2, hx]
    constructor
    ·rintro (h | h | h)
     ·exact .inr ⟨trivial, h⟩
     ·exact .inl ⟨.inr h.1, h.2⟩
     ·cases h.1
    ·rintro (h | h)
     ·rcases h.1 with h3 | h3
      ·exact .inl h3
      ·exact .inr (.inl ⟨h3, h.2⟩)
     ·exact .inl h.2
   ·rw [if_neg hx]
    simp only [List.mem_cons, h1, hd.2]
    constructor
    ·rintro (h | h | h | h)
     ·exact .inr ⟨trivial, h⟩
     ·subst h; exact .inl ⟨.inl rfl, hx⟩
     ·exact .inl ⟨.inr h.1, h.2⟩
     ·cases h.1
    ·rintro (h | h)
     ·rcases h.1 with h3 | h3
      ·exact .inr (.inl h3)
      ·exact .inr (.inr (.inl ⟨h3, h.2⟩))
     ·exact .inl h.2
  ·rw [if_neg hd]
   by_cases hx : x = y
   ·rw [if_pos hx, h2]
    simp only [List.mem_cons, hx]
    constructor
    ·rintro (h | h)
     ·exact .inl ⟨.inr h.1, h.2⟩
     ·exact .inr h
    ·rintro (h | h)
     ·rcases h.1 with h3 | h3
      ·exact absurd h3 h.2
      ·exact .inl ⟨h3, h.2⟩
     ·exact .inr h
   ·rw [if_neg hx]
    simp only [List.mem_cons, h2]
    constructor
    ·rintro (h | h | h)
     ·subst h; exact .inl ⟨.inl rfl, hx⟩
     ·exact .inl ⟨.inr h.1, h.2⟩
     ·exact .inr h
    ·rintro (h | h)
     ·rcases h.1 with h3 | h3
      ·exact .inl h3
      ·exact .inr (.inl ⟨h3, h.2⟩)
     ·exact .inr (.inr h)
theorem E23 {xs : List Int} {y z : Int} : z ∈ Fr2 xs y ↔ z ∈ xs ∨ z = y := by
 unfold Fr2
 rw [A80]
 by_cases h : z = y
 ·simp [h]
 ·simp [h]
theorem C69 (xs : List Int) (hx : xs.length ≤ 1048576) (y : Int) : Ev (fun k => Bo2 k xs y) (Fr2 xs y) := by
 refine Re.eq (Re.enter (f := fun k n => U8 k n xs y false 0 []) C6 ?_)
 have := Re.loop (ι := Nat) (l := fun k n (s : Nat × Bool × List Int) => U8 k n xs y s.2.1 (s.1 : Int) s.2.2) (I := fun s => s.1 ≤ xs.length ∧ s.2.2.length ≤ s.1 + (bif s.2.1 then 1 else 0)) (fun s => xs.length - s.1) (Q := fun s r => r = s.2.2 ++ e7 y (xs.drop s.1) s.2.1) (fun s hi ih => by
  obtain ⟨i, d, out⟩ := s
  obtain ⟨h1, h2⟩ := hi
  simp only at h1 h2 ih ⊢
  have h2' : out.length ≤ i + 1 := by cases d <;> simp at h2 <;> omega
  simp only [U8, B44]
  refine Re.brd (fun h => ?_) (fun h => ?_)
  ·have hl : i < xs.length := by omega
   have hdr : xs.drop i = rd 0 xs i :: xs.drop (i + 1) := by rw [E8 hl]; exact List.drop_eq_getElem_cons hl
   rw [hdr, C5 hl (by omega), Int.toNat_natCast]
   have m1 : ∀ a : Int, out.length + [a].length ≤ A3 := fun a => by simp [A3]; omega
   have m2 : ∀ a b : Int, (out ++ [a]).length + [b].length ≤ A3 := fun a b => by simp [A3]; omega
   refine Re.gdd (by omega) (Re.gdd h ?_)
   have plain : ¬ (rd 0 xs i ≥ y ∧ d = false) → Re (fun x : Nat × Nat => (br ((rd 0 xs i) != y) (gd (decide (0 ≤ (i : Int))) (gd (decide ((i : Int) < (xs.length : Int))) (gd (decide (out.length + [(rd 0 xs i)].length ≤ A3)) (U8 x.1 x.2 xs y d ((i + 1 : Nat) : Int) (out ++ [(rd 0 xs i)]))))) (U8 x.1 x.2 xs y d ((i + 1 : Nat) : Int) out))) (fun r => r = out ++ e7 y (rd 0 xs i :: xs.drop (i + 1)) d) := fun g => by
    refine Re.brn (fun q => ?_) (fun q => ?_)
    ·refine Re.gdd (by omega) (Re.gdd h (Re.gdd (m1 _) ?_))
     refine (ih (i + 1, d, out ++ [rd 0 xs i]) ⟨by simp only; omega, by cases d <;> simp at h2 ⊢ <;> omega⟩ (by simp only; omega)).mono fun r hr => ?_
     rw [hr, e7, if_neg g, if_neg q]; simp
    ·refine (ih (i + 1, d, out) ⟨by simp only; omega, by cases d <;> simp at h2 ⊢ <;> omega⟩ (by simp only; omega)).mono fun r hr => ?_
     rw [hr, e7, if_neg g, if_pos q]
   refine Re.brd (fun hge => ?_) (fun hge => Re.gdd (by omega) (Re.gdd h (plain fun g => hge g.1)))
   cases d with
   | true => exact Re.br (b := false) (fun h => by cases h) (fun _ => Re.gdd (by omega) (Re.gdd h (plain fun g => by cases g.2)))
   | false =>
    simp only [cond_false] at h2
    refine Re.br (b := true) (fun _ => ?_) (fun h => by cases h)
    refine Re.gdd (m1 _) (Re.gdd (by omega) (Re.gdd h ?_))
    refine Re.brn (fun q => ?_) (fun q => ?_)
    ·refine Re.gdd (by omega) (Re.gdd h (Re.gdd (m2 _ _) ?_))
     refine (ih (i + 1, true, (out ++ [y]) ++ [rd 0 xs i]) ⟨by simp only; omega, by simp; omega⟩ (by simp only; omega)).mono fun r hr => ?_
     rw [hr, e7, if_pos ⟨hge, rfl⟩, if_neg q]; simp
    ·refine (ih (i + 1, true, out ++ [y]) ⟨by simp only; omega, by simp; omega⟩ (by simp only; omega)).mono fun r hr => ?_
     rw [hr, e7, if_pos ⟨hge, rfl⟩, if_pos q]; simp
  ·have e : xs.drop i = [] := List.drop_eq_nil_of_le (by omega)
   rw [e]
   cases d with
   | true => exact Re.ret (by simp [e7])
   | false => exact Re.gdd (by simp [A3]; omega) (Re.ret (by simp [e7]))) (0, false, []) ⟨Nat.zero_le _, by simp⟩
 simpa [Fr2] using this
def Be6 (es : List A0) (id : Int) : Int := if es.findIdx (fun e => e.1 == id) < es.length then ((es.findIdx fun e => e.1 == id : Nat) : Int) else -1
theorem B56 (r : A6) (h : r.1.length ≤ 1048576) (id : Int) : Ev (fun k => A90 k r id) (Be6 r.1 id) := by
 have := Fq2 (l := fun k n i => t6 k n id (i : Int) r) r.1 (fun e => e.1 == id) (fun i => ((i : Nat) : Int)) (-1) (fun i hi => ⟨0, fun k _ n => by
  simp only [t6, Bf9, Int.ofNat_lt, hi, Int.natCast_nonneg, decide_true, br_true, gd_true, Int.toNat_natCast, E8, C5 hi (by omega)]⟩) ⟨0, fun k _ n => by
  simp only [t6, Bf9, Int.lt_irrefl, decide_false, br_false]⟩
 exact this
theorem D99 (es : List A0) (id : Int) : (Be6 es id = -1 ∧ ∀ e ∈ es, e.1 ≠ id) ∨ (∃ i : Nat, i < es.length ∧ Be6 es id = i ∧ (rd D2 es i).1 = id ∧ ∀ j, j < i → (rd D2 es j).1 ≠ id) := by
 unfold Be6
 by_cases h : es.findIdx (fun e => e.1 == id) < es.length
 ·rw [if_pos h]
  refine .inr ⟨_, h, rfl, ?_, fun j hj => ?_⟩
  ·rw [E8 h]
   have := List.findIdx_getElem (w := h)
   simpa using this
  ·have := List.not_of_lt_findIdx hj
   rw [E8 (Nat.lt_trans hj h)]
   simpa using this
 ·rw [if_neg h]
  refine .inl ⟨rfl, fun e he g => h ?_⟩
  exact List.findIdx_lt_length_of_exists ⟨e, he, by simp [g]⟩
def Ch1 (es : List A0) (m : Int) (p : Int) : Int := if Be6 es p ≥ 0 ∧ (rd D2 es (Be6 es p).toNat).2.2.2.2.2.2.2.2.1 > m then (rd D2 es (Be6 es p).toNat).2.2.2.2.2.2.2.2.1 else m
def Gd5 (es : List A0) (prev : List Int) : Int := prev.foldl (Ch1 es) (-1)
def Y3 (es : List A0) (prev : List Int) : Int := if Gd5 es prev > 1000000 then 1000001 else Gd5 es prev + 1
theorem At8 {α β : Type} (f : β → α → β) (d : α) (xs : List α) (b : β) {i : Nat} (h : i < xs.length) : (xs.take (i + 1)).foldl f b = f ((xs.take i).foldl f b) (rd d xs i) := by
 rw [List.take_add_one, List.getElem?_eq_getElem h, E8 h, List.foldl_append]
 rfl
theorem E24 (es : List A0) : ∀ (prev : List Int) (m : Int), m ≤ prev.foldl (Ch1 es) m
 | [], m => Int.le_refl m
 | p :: ps, m => by
  rw [List.foldl_cons]
  have : m ≤ Ch1 es m p := by unfold Ch1; split <;> omega
  exact Int.le_trans this (E24 es ps _)
theorem Ad0 (r : A6) (h : r.1.length ≤ 1048576) (prev : List Int) (hp : prev.length ≤ 1048576) : Ev (fun k => J0 k r prev) (Y3 r.1 prev) := by
 refine Re.eq (Re.enter (f := fun k n => g6 k n prev (-1) 0 r) C6 ?_)
 have := Re.loop (ι := Nat) (l := fun k n (i : Nat) => g6 k n prev ((prev.take i).foldl (Ch1 r.1) (-1)) (i : Int) r) (I := fun i => i ≤ prev.length) (fun i => prev.length - i) (Q := fun _ v => v = Y3 r.1 prev) (fun i hi ih => by
  simp only [g6, Bt0]
  refine Re.brd (fun q => ?_) (fun q => ?_)
  ·have hl : i < prev.length := by omega
   refine Re.gdd (by omega) (Re.gdd q ?_)
   rw [Int.toNat_natCast]
   refine Re.c2 (B56 r h _) ?_
   have hf := At8 (Ch1 r.1) 0 prev (-1) hl
   have next := ih (i + 1) (by omega) (by omega)
   rw [hf] at next
   rw [C5 hl (by omega)]
   generalize (prev.take i).foldl (Ch1 r.1) (-1) = m at next ⊢
   have hs := D99 r.1 (rd 0 prev i)
   refine Re.brd (fun g => ?_) (fun g => ?_)
   ·have hlt : Be6 r.1 (rd 0 prev i) < r.1.length := by
     rcases hs with ⟨e, _⟩ | ⟨j, hj, e, _⟩ <;> omega
    refine Re.gdd (by omega) (Re.gdd hlt ?_)
    refine Re.brd (fun g2 => Re.gdd (by omega) (Re.gdd hlt ?_)) (fun g2 => ?_)
    ·unfold Ch1 at next; rw [if_pos ⟨g, g2⟩] at next; exact next
    ·unfold Ch1 at next; rw [if_neg (fun x => g2 x.2)] at next; exact next
   ·unfold Ch1 at next; rw [if_neg (fun x => g x.1)] at next; exact next
  ·have e : prev.take i = prev := List.take_of_length_le (by omega)
   rw [e]
   have hge := E24 r.1 prev (-1)
   unfold Y3 Gd5
   refine Re.brd (fun g => Re.ret (by rw [if_pos g])) (fun g => Re.ret ?_)
   rw [if_neg g, D8 (by omega) (by omega)]) 0 (Nat.zero_le _)
 exact this
def named (es : List A0) (id : Int) : Bool := es.any fun f => decide (id ∈ f.2.2.2.2.2.2.2.1)
def Ad1 (es : List A0) (a : List Int) (e : A0) : List Int := bif named es e.1 then a else Fr2 a e.1
def z7 (es : List A0) : List Int := es.foldl (Ad1 es) []
theorem z8 (es : List A0) : ∀ (xs : List A0) (a : List Int), (xs.foldl (Ad1 es) a).length ≤ a.length + xs.length
 | [], a => by simp
 | x :: xs, a => by
  rw [List.foldl_cons]
  have h1 := z8 es xs (Ad1 es a x)
  have h2 : (Ad1 es a x).length ≤ a.length + 1 := by
   unfold Ad1
   have := E22 a x.1
   cases named es x.1 <;> simp <;> omega
  simp; omega
def Ha2 (es : List A0) : Prop := es.length ≤ 100000 ∧ ∀ i, i < es.length → (rd D2 es i).2.2.2.2.2.2.2.1.length ≤ 1048576
theorem B57 (r : A6) (h : Ha2 r.1) : Ev (fun k => Al8 k r) (z7 r.1) := by
 obtain ⟨h1, h2⟩ := h
 refine Re.eq (Re.enter (f := fun k n => w6 k n 0 r []) C6 ?_)
 have := Re.wf (l := fun k n (s : Nat ⊕ (Nat × Nat × Bool)) => match s with
   | .inl i => w6 k n (i : Int) r ((r.1.take i).foldl (Ad1 r.1) [])
   | .inr (i, j, b) => Ax2 k n (i : Int) b (j : Int) r ((r.1.take i).foldl (Ad1 r.1) []))
  (I := fun s => match s with
   | .inl i => i ≤ r.1.length
   | .inr (i, j, b) => i < r.1.length ∧ j ≤ r.1.length ∧ b = (r.1.take j).any fun f => decide ((rd D2 r.1 i).1 ∈ f.2.2.2.2.2.2.2.1))
  (fun s => match s with | .inl i => (r.1.length - i, 0) | .inr (i, j, _) => (r.1.length - (i + 1), r.1.length + 1 - j)) (Q := fun _ v => v = z7 r.1) (fun s hi ih => by
  rcases s with i | ⟨i, j, b⟩
  ·simp only at hi ih ⊢
   simp only [E15, Bg2]
   refine Re.brd (fun q => ?_) (fun q => Re.ret ?_)
   ·exact ih (.inr (i, 0, false)) ⟨by omega, Nat.zero_le _, by simp⟩ (.inl (by simp only; omega))
   ·rw [List.take_of_length_le (by omega)]; rfl
  ·obtain ⟨h3, h4, h5⟩ := hi
   simp only at ih ⊢
   have hlen := z8 r.1 (r.1.take i) []
   have hlen2 : ((r.1.take i).foldl (Ad1 r.1) []).length ≤ 100000 := by simp at hlen; omega
   have hf := At8 (Ad1 r.1) D2 r.1 [] h3
   simp only [E16, Bg3]
   refine Re.brd (fun q => ?_) (fun q => ?_)
   ·have hj : j < r.1.length := by omega
    have e1 : B5 ((j : Int) + 1) = ((j + 1 : Nat) : Int) := C5 hj (by omega)
    have ht : (r.1.take (j + 1)).any (fun f => decide ((rd D2 r.1 i).1 ∈ f.2.2.2.2.2.2.2.1)) = (b || decide ((rd D2 r.1 i).1 ∈ (rd D2 r.1 j).2.2.2.2.2.2.2.1)) := by
     rw [List.take_add_one, List.getElem?_eq_getElem hj, E8 hj, List.any_append, h5, E8 h3]
     simp
    have next := ih (.inr (i, j + 1, b || decide ((rd D2 r.1 i).1 ∈ (rd D2 r.1 j).2.2.2.2.2.2.2.1))) ⟨h3, by omega, ht.symm⟩ (.inr ⟨rfl, by simp only; omega⟩)
    rw [e1]
    cases b with
    | true =>
     rw [Bool.true_or] at next
     exact next
    | false =>
     refine Re.br (b := false) (fun h => by cases h) (fun _ => ?_)
     refine Re.gdd (by omega) (Re.gdd q (Re.gdd (by omega) (Re.gdd (by omega) ?_)))
     simp only [Int.toNat_natCast]
     refine Re.c2 (At7 _ (h2 j hj) _) ?_
     rw [Bool.false_or] at next
     exact next
   ·have ej : r.1.take j = r.1 := List.take_of_length_le (by omega)
    rw [ej] at h5
    have next := ih (.inl (i + 1)) (by simp only; omega) (.inr ⟨rfl, by simp only; omega⟩)
    simp only [hf] at next
    rw [C5 h3 (by omega)]
    have hn : named r.1 (rd D2 r.1 i).1 = b := h5.symm
    cases b with
    | true =>
     refine Re.br (b := false) (fun h => by cases h) (fun _ => ?_)
     unfold Ad1 at next
     rw [hn] at next
     exact next
    | false =>
     refine Re.br (b := true) (fun _ => ?_) (fun h => by cases h)
     refine Re.gdd (by omega) (Re.gdd (by omega) ?_)
     simp only [Int.toNat_natCast]
     refine Re.c2 (C69 _ (by omega) _) ?_
     unfold Ad1 at next
     rw [hn] at next
     exact next) (.inl 0) (Nat.zero_le _)
 exact this
end Go.Vm
end
section
namespace Go.Vm
open Go
noncomputable def eqd {α : Type} (a b : α) : Bool := @decide (a = b) (Classical.propDecidable _)
theorem Cs4 {α : Type} {a b : α} : eqd a b = true ↔ a = b := by unfold eqd; exact @decide_eq_true_iff _ (Classical.propDecidable _)
theorem Fr3 {α : Type} {a b : α} (h : a = b) : eqd a b = true := Cs4.2 h
theorem C03 {α : Type} {a b : α} (h : a ≠ b) : eqd a b = false := by
 cases e : eqd a b with
 | false => rfl
 | true => exact absurd (Cs4.1 e) h
end Go.Vm
end
section
namespace Go.Vm
open Go
theorem Gu8 (a b c : Int) : X6 a b c = decide (b ≤ a ∧ a ≤ c) := by unfold X6; rw [Bool.decide_and]
def E25 (k : Int) : Bool := X6 k 1 3 || X6 k 11 15
theorem E26 (k : Nat) (a : Int) : Bo0 k a = some (E25 a) := by
 unfold Bo0 E25
 rw [G8, G8]
 cases X6 a 1 3 <;> rfl
def StP (s : List A1) : Prop := s.length ≤ 8 ∧ ∀ i, i < s.length → E25 (rd I4 s i).1 = true ∧ (1 ≤ (rd I4 s i).2.1 ∧ (rd I4 s i).2.1 ≤ 1000000) ∧ (0 < i → (rd I4 s (i - 1)).1 < (rd I4 s i).1)
noncomputable def Ad2 (s : List A1) : Bool := @decide (StP s) (Classical.propDecidable _)
theorem B58 {s : List A1} : Ad2 s = true ↔ StP s := by unfold Ad2; exact @decide_eq_true_iff _ (Classical.propDecidable _)
theorem Bw1 {s : List A1} (h : ¬ StP s) : Ad2 s = false := by
 cases e : Ad2 s with
 | false => rfl
 | true => exact absurd (B58.1 e) h
theorem Cs5 (s : List A1) (h : s.length ≤ 4194304) : Ev (fun k => A72 k s) (Ad2 s) := by
 refine Re.eq ?_
 refine Re.brd (fun q => Re.ret (Bw1 fun hc => by have := hc.1; omega).symm) (fun q => ?_)
 refine Re.enter (f := fun k n => U6 k n s 0) C6 ?_
 have := Re.loop (ι := Nat) (l := fun k n (i : Nat) => U6 k n s (i : Int)) (I := fun i => i ≤ s.length ∧ ∀ j, j < i → E25 (rd I4 s j).1 = true ∧ (1 ≤ (rd I4 s j).2.1 ∧ (rd I4 s j).2.1 ≤ 1000000) ∧ (0 < j → (rd I4 s (j - 1)).1 < (rd I4 s j).1)) (fun i => s.length - i) (Q := fun _ v => v = Ad2 s) (fun i hi ih => by
  simp only [U6, Bt2]
  refine Re.brd (fun h1 => ?_) (fun h1 => Re.ret (B58.2 ⟨by omega, fun j hj => hi.2 j (by omega)⟩).symm)
  have hl : i < s.length := by omega
  refine Re.gdd (by omega) (Re.gdd h1 ?_)
  simp only [Int.toNat_natCast]
  refine Re.s2 (E26 · _) ?_
  refine Re.br (fun g => Re.ret (Bw1 fun hc => by have := (hc.2 i hl).1; rw [this] at g; cases g).symm) (fun g => ?_)
  have g1 : E25 (rd I4 s i).1 = true := by simpa using g
  refine Re.gdd (by omega) (Re.gdd h1 (Re.s2 (G8 · _ _ _) ?_))
  rw [Gu8]
  refine Re.br (fun g => Re.ret (Bw1 fun hc => by have := (hc.2 i hl).2.1; rw [decide_eq_true this] at g; cases g).symm) (fun g => ?_)
  have g2 : 1 ≤ (rd I4 s i).2.1 ∧ (rd I4 s i).2.1 ≤ 1000000 := by simpa using g
  rw [C5 hl (by omega)]
  have next : (0 < i → (rd I4 s (i - 1)).1 < (rd I4 s i).1) → Re (fun x : Nat × Nat => U6 x.1 x.2 s ((i + 1 : Nat) : Int)) (fun v => v = Ad2 s) := fun g3 => ih (i + 1) ⟨by omega, fun j hj => by
   by_cases q : j < i
   ·exact hi.2 j q
   ·have : j = i := by omega
    subst this; exact ⟨g1, g2, g3⟩⟩ (by omega)
  refine Re.brd (fun q => ?_) (fun q => next fun h => absurd (by omega) q)
  rw [Cq3 (by omega) (by omega)]
  refine Re.gdd (by omega) (Re.gdd (by omega) (Re.gdd (by omega) (Re.gdd h1 ?_)))
  simp only [Int.toNat_natCast]
  exact Re.brd (fun q => Re.ret (Bw1 fun hc => by have := (hc.2 i hl).2.2 (by omega); omega).symm) (fun q => next fun _ => by omega)) 0 ⟨Nat.zero_le _, fun j hj => by omega⟩
 exact this
def C04 (s : List A1) (key id : Int) : List A1 := s.filter (fun x => decide (x.1 < key)) ++ [(key, id, ())] ++ s.filter (fun x => decide (x.1 > key))
noncomputable def E27 (s : List A1) (key id : Int) : List A1 := bif Ad2 s && Ad2 (C04 s key id) then C04 s key id else s
theorem Ea0 {s : List A1} {i : Nat} (h : i < s.length) : s.take (i + 1) = s.take i ++ [rd I4 s i] := by
 rw [List.take_add_one, List.getElem?_eq_getElem h, E8 h]; rfl
theorem Cd4 {α : Type} (p : α → Bool) (s : List α) (i : Nat) : ((s.take i).filter p).length ≤ s.length :=
 Nat.le_trans (List.length_filter_le _ _) (by simp; omega)
theorem E28 (s : List A1) (h : s.length ≤ 1048576) (key id : Int) : Ev (fun k => D90 k s key id) (E27 s key id) := by
 refine Re.eq (Re.enter (f := fun k n => A93 k n s key id 0 []) C6 ?_)
 have := Re.wf (l := fun k n (st : Nat ⊕ Nat) => match st with
   | .inl i => A93 k n s key id (i : Int) ((s.take i).filter fun x => decide (x.1 < key))
   | .inr i => B42 k n s key (i : Int) ((s.filter fun x => decide (x.1 < key)) ++ [(key, id, ())] ++ ((s.take i).filter fun x => decide (x.1 > key))))
  (I := fun st => match st with | .inl i => i ≤ s.length | .inr i => i ≤ s.length)
  (fun st => match st with | .inl i => (1, s.length - i) | .inr i => (0, s.length - i)) (Q := fun _ v => v = E27 s key id) (fun st hi ih => by
  rcases st with i | i
  ·simp only at hi ih ⊢
   simp only [A93, Dk0]
   have hle := Cd4 (fun x : A1 => decide (x.1 < key)) s i
   refine Re.brd (fun q => ?_) (fun q => ?_)
   ·have hl : i < s.length := by omega
    refine Re.gdd (by omega) (Re.gdd q ?_)
    rw [C5 hl (by omega)]
    have next := ih (.inl (i + 1)) (by simp only; omega) (.inr ⟨rfl, by simp only; omega⟩)
    simp only [Ea0 hl, List.filter_append] at next
    simp only [Int.toNat_natCast]
    refine Re.brd (fun g => Re.gdd (by omega) (Re.gdd q (Re.gdd (by simp [A3]; omega) ?_))) (fun g => ?_)
    ·rw [List.filter_cons_of_pos (by simpa using g)] at next; exact next
    ·rw [List.filter_cons_of_neg (by simpa using g)] at next; simpa using next
   ·have e : s.take i = s := List.take_of_length_le (by omega)
    rw [e] at hle ⊢
    refine Re.gdd (by simp [A3]; omega) ?_
    have next := ih (.inr 0) (Nat.zero_le _) (.inl (by simp only; omega))
    simpa using next
  ·simp only at hi ih ⊢
   simp only [B42, Dj9]
   have hle := Cd4 (fun x : A1 => decide (x.1 > key)) s i
   have hle2 : (s.filter fun x : A1 => decide (x.1 < key)).length ≤ s.length := List.length_filter_le _ _
   refine Re.brd (fun q => ?_) (fun q => ?_)
   ·have hl : i < s.length := by omega
    refine Re.gdd (by omega) (Re.gdd q ?_)
    rw [C5 hl (by omega)]
    have next := ih (.inr (i + 1)) (by simp only; omega) (.inr ⟨rfl, by simp only; omega⟩)
    simp only [Ea0 hl, List.filter_append] at next
    simp only [Int.toNat_natCast]
    refine Re.brd (fun g => Re.gdd (by omega) (Re.gdd q (Re.gdd (by simp only [List.length_append, List.length_singleton]; unfold A3; omega) ?_))) (fun g => ?_)
    ·rw [List.filter_cons_of_pos (by simpa using g)] at next; simpa using next
    ·rw [List.filter_cons_of_neg (by simpa using g)] at next; simpa using next
   ·have e : s.take i = s := List.take_of_length_le (by omega)
    rw [e] at hle ⊢
    have eo : (s.filter fun x : A1 => decide (x.1 < key)) ++ [(key, id, ())] ++ (s.filter fun x => decide (x.1 > key)) = C04 s key id := rfl
    rw [eo]
    have hlo : (C04 s key id).length ≤ 4194304 := by rw [← eo]; simp only [List.length_append, List.length_singleton]; omega
    refine Re.c2 (Cs5 s (by omega)) ?_
    have hcopy : Re (fun _ : Nat × Nat => gd (decide (([] : List A1).length + s.length ≤ A3)) (some (([] : List A1) ++ s))) (fun v => v = s) := Re.gdd (by simp [A3]; omega) (Re.ret rfl)
    unfold E27
    cases Ad2 s with
    | false => exact hcopy
    | true =>
     refine Re.br (b := false) (fun h => by cases h) (fun _ => Re.c2 (Cs5 _ hlo) ?_)
     cases Ad2 (C04 s key id) with
     | false => exact hcopy
     | true => exact Re.ret rfl) (.inl 0) (Nat.zero_le _)
 simpa using this
theorem C70 {s : List A1} {key id : Int} {n : Nat} (h : s.length ≤ n) (h8 : 8 ≤ n) : (E27 s key id).length ≤ n := by
 unfold E27
 cases hq : Ad2 s && Ad2 (C04 s key id) with
 | false => exact h
 | true =>
  simp only [Bool.and_eq_true] at hq
  have := (B58.1 hq.2).1
  simp only [cond_true]; omega
def Gi9 (ss : List (List A1)) : Prop := ss.length ≤ 1048576 ∧ ∀ i, i < ss.length → (rd [] ss i).length ≤ 100000
def Hg9 (ss : List (List A1)) (k : Int) : Bool := ss.any fun s => s.any fun x => x.1 == k
def Ba8 (ss : List (List A1)) : Nat → List Int
 | 0 => []
 | k + 1 => bif Hg9 ss (k : Int) then Ba8 ss k ++ [(k : Int)] else Ba8 ss k
def Ad6 (ss : List (List A1)) : List Int := Ba8 ss 16
theorem o7 (ss : List (List A1)) : ∀ k, (Ba8 ss k).length ≤ k
 | 0 => Nat.le_refl 0
 | k + 1 => by
  have := o7 ss k
  unfold Ba8
  cases Hg9 ss (k : Int) <;> simp <;> omega
theorem Ch2 {α : Type} (p : α → Bool) (d : α) (xs : List α) {i : Nat} (h : i < xs.length) : (xs.take (i + 1)).any p = ((xs.take i).any p || p (rd d xs i)) := by
 rw [List.take_add_one, List.getElem?_eq_getElem h, E8 h, List.any_append]
 simp
theorem Cs6 (ss : List (List A1)) (h : Gi9 ss) : Ev (fun k => A73 k ss) (Ad6 ss) := by
 obtain ⟨h1, h2⟩ := h
 refine Re.eq (Re.enter (f := fun k n => g8 k n ss 0 []) C6 ?_)
 have := Re.wf (l := fun k n (st : Nat ⊕ (Nat × Nat × Bool) ⊕ (Nat × Nat × Nat × Bool)) => match st with
   | .inl q => g8 k n ss (q : Int) (Ba8 ss q)
   | .inr (.inl (q, i, b)) => Al0 k n ss (q : Int) b (i : Int) (Ba8 ss q)
   | .inr (.inr (q, i, j, b)) => Al1 k n ss (q : Int) b (i : Int) (j : Int) (Ba8 ss q))
  (I := fun st => match st with
   | .inl q => q ≤ 16
   | .inr (.inl (q, i, b)) => q ≤ 15 ∧ i ≤ ss.length ∧ b = (ss.take i).any fun s => s.any fun x => x.1 == (q : Int)
   | .inr (.inr (q, i, j, b)) => q ≤ 15 ∧ i < ss.length ∧ j ≤ (rd [] ss i).length ∧ b = ((ss.take i).any (fun s => s.any fun x => x.1 == (q : Int)) || ((rd [] ss i).take j).any fun x => x.1 == (q : Int)))
  (fun st => match st with
   | .inl q => ((16 - q) * (ss.length + 2), 0)
   | .inr (.inl (q, i, _)) => ((15 - q) * (ss.length + 2) + (ss.length - i) + 1, 0)
   | .inr (.inr (q, i, j, _)) => ((15 - q) * (ss.length + 2) + (ss.length - i), (rd [] ss i).length - j + 1)) (Q := fun _ v => v = Ad6 ss) (fun st hi ih => by
  rcases st with q | ⟨q, i, b⟩ | ⟨q, i, j, b⟩
  ·simp only at hi ih ⊢
   simp only [Ef3, A35]
   refine Re.brd (fun g => ?_) (fun g => Re.ret ?_)
   ·refine ih (.inr (.inl (q, 0, false))) ⟨by omega, Nat.zero_le _, by simp⟩ (.inl ?_)
    simp only
    have : (16 - q) * (ss.length + 2) = (15 - q) * (ss.length + 2) + (ss.length + 2) := by rw [show 16 - q = (15 - q) + 1 by omega, Nat.succ_mul]
    omega
   ·rw [show q = 16 by omega]; rfl
  ·obtain ⟨g1, g2, g3⟩ := hi
   simp only at ih ⊢
   simp only [Ef4, A36]
   have hk := o7 ss q
   refine Re.brd (fun g => ?_) (fun g => ?_)
   ·exact ih (.inr (.inr (q, i, 0, b))) ⟨g1, by omega, Nat.zero_le _, by simp [g3]⟩ (.inl (by simp only; omega))
   ·have ei : ss.take i = ss := List.take_of_length_le (by omega)
    rw [ei] at g3
    have next := ih (.inl (q + 1)) (by simp only; omega) (.inl (by
     simp only
     rw [show 16 - (q + 1) = 15 - q by omega]; omega))
    have ek : Ba8 ss (q + 1) = bif b then Ba8 ss q ++ [(q : Int)] else Ba8 ss q := by rw [g3]; rfl
    have ew : B5 ((q : Int) + 1) = ((q + 1 : Nat) : Int) := by rw [D8 (by omega) (by omega)]; rfl
    rw [ew]
    simp only [ek] at next
    cases b with
    | true => exact Re.br (b := true) (fun _ => Re.gdd (by simp [A3]; omega) next) (fun h => by cases h)
    | false => exact Re.br (b := false) (fun h => by cases h) (fun _ => next)
  ·obtain ⟨g1, g2, g3, g4⟩ := hi
   simp only at ih ⊢
   simp only [Ef5, A37]
   refine Re.gdd (by omega) (Re.gdd (by omega) ?_)
   simp only [Int.toNat_natCast]
   have hsz := h2 i g2
   refine Re.brd (fun g => ?_) (fun g => ?_)
   ·have hj : j < (rd [] ss i).length := by omega
    have ew : B5 ((j : Int) + 1) = ((j + 1 : Nat) : Int) := C5 hj (by omega)
    have et := Ch2 (fun x : A1 => x.1 == (q : Int)) I4 (rd [] ss i) hj
    have next := ih (.inr (.inr (q, i, j + 1, b || ((rd I4 (rd [] ss i) j).1 == (q : Int))))) ⟨g1, g2, by omega, by rw [et, g4, Bool.or_assoc]⟩ (.inr ⟨rfl, by simp only; omega⟩)
    rw [ew]
    cases b with
    | true =>
     rw [Bool.true_or] at next
     exact Re.br (b := true) (fun _ => next) (fun h => by cases h)
    | false =>
     rw [Bool.false_or] at next
     exact Re.br (b := false) (fun h => by cases h) (fun _ => Re.gdd (by omega) (Re.gdd (by omega) (Re.gdd (by omega) (Re.gdd g next))))
   ·have ej : (rd [] ss i).take j = rd [] ss i := List.take_of_length_le (by omega)
    rw [ej] at g4
    rw [C5 g2 (by omega)]
    exact ih (.inr (.inl (q, i + 1, b))) ⟨g1, by omega, by rw [Ch2 (fun s : List A1 => s.any fun x => x.1 == (q : Int)) [] ss g2]; exact g4⟩ (.inr ⟨by simp only; omega, by simp only; omega⟩)) (.inl 0) (Nat.zero_le _)
 exact this
def B09 (ss : List (List A1)) (key : Int) : Bool := (List.range' 1 (ss.length - 1)).all fun i => atS (rd [] ss i) key == atS (rd [] ss 0) key
theorem Ch3 (ss : List (List A1)) (h : Gi9 ss) (key : Int) : Ev (fun k => As4 k ss key) (B09 ss key) := by
 obtain ⟨h1, h2⟩ := h
 refine Re.eq (Re.enter (f := fun k n => W6 k n ss key 1) C6 ?_)
 have := Re.loop (ι := Nat) (l := fun k n (i : Nat) => W6 k n ss key (i : Int)) (I := fun i => 1 ≤ i ∧ (∀ j, 1 ≤ j → j < i → j < ss.length → (atS (rd [] ss j) key == atS (rd [] ss 0) key) = true)) (fun i => ss.length - i) (Q := fun _ v => v = B09 ss key) (fun i hi ih => by
  simp only [W6, Bi9]
  refine Re.brd (fun g => ?_) (fun g => Re.ret ?_)
  ·have hl : i < ss.length := by omega
   refine Re.gdd (by omega) (Re.gdd g ?_)
   simp only [Int.toNat_natCast]
   refine Re.c2 (A50 _ (by have := h2 i hl; omega) _) (Re.gdd (by omega) (Re.c2 (A50 _ (by have := h2 0 (by omega); omega) _) ?_))
   refine Re.brn (fun q => Re.ret ?_) (fun q => ?_)
   ·unfold B09
    rw [eq_comm, List.all_eq_false]
    exact ⟨i, by rw [List.mem_range'_1]; omega, by simp [q]⟩
   ·rw [C5 hl (by omega)]
    exact ih (i + 1) ⟨by omega, fun j hj1 hj2 hj3 => by
     by_cases q2 : j < i
     ·exact hi.2 j hj1 q2 hj3
     ·have : j = i := by omega
      subst this; simp [q]⟩ (by omega)
  ·unfold B09
   rw [eq_comm, List.all_eq_true]
   intro j hj
   rw [List.mem_range'_1] at hj
   exact hi.2 j hj.1 (by omega) (by omega)) 1 ⟨Nat.le_refl 1, fun j h1 h2 => by omega⟩
 exact this
def Q3 (ss : List (List A1)) : List A1 := ((Ad6 ss).filter (B09 ss)).map fun k => (k, atS (rd [] ss 0) k, ())
def C05 (ss : List (List A1)) : List Int := (Ad6 ss).filter fun k => !B09 ss k
theorem B59 {s : List Int} {i : Nat} (h : i < s.length) : s.take (i + 1) = s.take i ++ [rd 0 s i] := by
 rw [List.take_add_one, List.getElem?_eq_getElem h, E8 h]; rfl
theorem C71 (ss : List (List A1)) (h : Gi9 ss) (hne : 0 < ss.length) : Ev (fun k => Bo1 k ss) (Q3 ss) := by
 refine Re.eq (Re.c1 (Cs6 ss h) ?_)
 have hk : (Ad6 ss).length ≤ 16 := o7 ss 16
 refine Re.enter (f := fun k n => t7 k n ss 0 [] (Ad6 ss)) C6 ?_
 have := Re.loop (ι := Nat) (l := fun k n (i : Nat) => t7 k n ss (i : Int) ((((Ad6 ss).take i).filter (B09 ss)).map fun k => (k, atS (rd [] ss 0) k, ())) (Ad6 ss)) (I := fun i => i ≤ (Ad6 ss).length) (fun i => (Ad6 ss).length - i) (Q := fun _ v => v = Q3 ss) (fun i hi ih => by
  have hle := Cd4 (B09 ss) (Ad6 ss) i
  simp only [t7, B43]
  refine Re.brd (fun g => ?_) (fun g => Re.ret (by rw [List.take_of_length_le (by omega)]; rfl))
  have hl : i < (Ad6 ss).length := by omega
  have next := ih (i + 1) (by omega) (by omega)
  rw [B59 hl, List.filter_append, List.map_append] at next
  refine Re.gdd (by omega) (Re.gdd g ?_)
  simp only [Int.toNat_natCast]
  rw [C5 hl (by omega)]
  refine Re.c2 (Ch3 ss h _) ?_
  cases ha : B09 ss (rd 0 (Ad6 ss) i) with
  | true =>
   rw [List.filter_cons_of_pos ha] at next
   refine Re.br (b := true) (fun _ => ?_) (fun h => by cases h)
   refine Re.gdd (by omega) (Re.gdd g (Re.gdd (by omega) (Re.gdd (by omega) (Re.gdd g ?_))))
   refine Re.c2 (A50 _ (by have := h.2 0 hne; omega) _) (Re.gdd (by simp only [List.length_map, List.length_singleton]; unfold A3; omega) ?_)
   simpa using next
  | false =>
   rw [List.filter_cons_of_neg (by simp [ha])] at next
   refine Re.br (b := false) (fun h => by cases h) (fun _ => ?_)
   simpa using next) 0 (Nat.zero_le _)
 simpa using this
theorem Fr4 (ss : List (List A1)) (h : Gi9 ss) : Ev (fun k => Cq7 k ss) (C05 ss) := by
 refine Re.eq (Re.c1 (Cs6 ss h) ?_)
 have hk : (Ad6 ss).length ≤ 16 := o7 ss 16
 refine Re.enter (f := fun k n => Ah5 k n ss 0 [] (Ad6 ss)) C6 ?_
 have := Re.loop (ι := Nat) (l := fun k n (i : Nat) => Ah5 k n ss (i : Int) (((Ad6 ss).take i).filter fun k => !B09 ss k) (Ad6 ss)) (I := fun i => i ≤ (Ad6 ss).length) (fun i => (Ad6 ss).length - i) (Q := fun _ v => v = C05 ss) (fun i hi ih => by
  have hle := Cd4 (fun k => !B09 ss k) (Ad6 ss) i
  simp only [Ah5, Cl5]
  refine Re.brd (fun g => ?_) (fun g => Re.ret (by rw [List.take_of_length_le (by omega)]; rfl))
  have hl : i < (Ad6 ss).length := by omega
  have next := ih (i + 1) (by omega) (by omega)
  rw [B59 hl, List.filter_append] at next
  refine Re.gdd (by omega) (Re.gdd g ?_)
  simp only [Int.toNat_natCast]
  rw [C5 hl (by omega)]
  refine Re.c2 (Ch3 ss h _) ?_
  cases ha : B09 ss (rd 0 (Ad6 ss) i) with
  | false =>
   rw [List.filter_cons_of_pos (by simp [ha])] at next
   refine Re.br (b := true) (fun _ => ?_) (fun h => by cases h)
   exact Re.gdd (by omega) (Re.gdd g (Re.gdd (by simp only [List.length_singleton]; unfold A3; omega) next))
  | true =>
   rw [List.filter_cons_of_neg (by simp [ha])] at next
   refine Re.br (b := false) (fun h => by cases h) (fun _ => ?_)
   simpa using next) 0 (Nat.zero_le _)
 simpa using this
end Go.Vm
end
section
namespace Go.Vm
open Go
def Dm2 (e : A0) : Bool := e.2.1 == 3 || (e.2.1 == 2 && ((e.2.2.2.2.1 == 0 || e.2.2.2.2.1 == 3) && e.2.2.1 != e.2.2.2.1))
theorem Bk2 (k : Nat) (e : A0) : u0 k e = some (Dm2 e) := by
 unfold u0 Dm2
 cases e.2.1 == 3 <;> cases e.2.1 == 2 <;> cases e.2.2.2.2.1 == 0 <;> cases e.2.2.2.2.1 == 3 <;> rfl
def Cs7 (es : List A0) (s : List A1) (a b : A0) : Bool :=
 bif Dm2 a == Dm2 b then (if Z5 es s a.2.2.1 = Z5 es s b.2.2.1 then (if a.2.2.2.2.2.2.2.2.1 = b.2.2.2.2.2.2.2.2.1 then decide (a.1 < b.1) else decide (a.2.2.2.2.2.2.2.2.1 < b.2.2.2.2.2.2.2.2.1)) else decide (Z5 es s a.2.2.1 > Z5 es s b.2.2.1)) else Dm2 a
theorem Eg8 (es : List A0) (s : List A1) (h : Eg4 es s) (a b : A0) : Ev (fun k => Bo3 k es s a b) (Cs7 es s a b) := by
 refine Re.eq (Re.s1 (Bk2 · _) (Re.s1 (Bk2 · _) ?_))
 unfold Cs7
 cases Dm2 a == Dm2 b with
 | false => exact Re.br (b := true) (fun _ => Re.s1 (Bk2 · _) (Re.ret rfl)) (fun h => by cases h)
 | true =>
  refine Re.br (b := false) (fun h => by cases h) (fun _ => Re.c1 (j6 es s h _) (Re.c1 (j6 es s h _) ?_))
  refine Re.brn (fun q => Re.ret (by simp [q])) (fun q => ?_)
  exact Re.brn (fun q2 => Re.ret (by simp [q, q2])) (fun q2 => Re.ret (by simp [q, q2]))
def ready (ahead left out : List Int) : Bool := ahead.all fun x => !decide (x ∈ left) || decide (x ∈ out)
theorem Ch4 (ahead left out : List Int) (h1 : ahead.length ≤ 1048576) (h2 : left.length ≤ 1048576) (h3 : out.length ≤ 1048576) : Ev (fun k => As5 k ahead left out) (ready ahead left out) := by
 refine Re.eq (Re.enter (f := fun k n => S0 k n ahead left out 0) C6 ?_)
 have := Re.loop (ι := Nat) (l := fun k n (i : Nat) => S0 k n ahead left out (i : Int)) (I := fun i => i ≤ ahead.length ∧ ∀ j, j < i → (rd 0 ahead j ∈ left → rd 0 ahead j ∈ out)) (fun i => ahead.length - i) (Q := fun _ v => v = ready ahead left out) (fun i hi ih => by
  simp only [S0, Bj0]
  refine Re.brd (fun g => ?_) (fun g => Re.ret ?_)
  ·have hl : i < ahead.length := by omega
   refine Re.gdd (by omega) (Re.gdd g ?_)
   simp only [Int.toNat_natCast]
   rw [C5 hl (by omega)]
   have next : (rd 0 ahead i ∈ left → rd 0 ahead i ∈ out) → Re (fun x : Nat × Nat => S0 x.1 x.2 ahead left out ((i + 1 : Nat) : Int)) (fun v => v = ready ahead left out) := fun q => ih (i + 1) ⟨by omega, fun j hj => by
    by_cases q2 : j < i
    ·exact hi.2 j q2
    ·have : j = i := by omega
     subst this; exact q⟩ (by omega)
   refine Re.c2 (At7 left h2 _) ?_
   refine Re.brd (fun q => ?_) (fun q => next fun h => absurd h q)
   refine Re.gdd (by omega) (Re.gdd g (Re.c2 (At7 out h3 _) ?_))
   refine Re.br (fun q2 => Re.ret ?_) (fun q2 => next fun _ => by simpa using q2)
   unfold ready
   rw [eq_comm, List.all_eq_false]
   refine ⟨rd 0 ahead i, by rw [E8 hl]; exact List.getElem_mem _, ?_⟩
   have q3 : ¬ rd 0 ahead i ∈ out := by simpa using q2
   simp [q, q3]
  ·unfold ready
   rw [eq_comm, List.all_eq_true]
   intro x hx
   obtain ⟨j, hj, rfl⟩ := List.getElem_of_mem hx
   have := hi.2 j (by omega)
   rw [E8 hj] at this
   by_cases q : ahead[j] ∈ left
   ·simp [q, this q]
   ·simp [q]) 0 ⟨Nat.zero_le _, fun j hj => by omega⟩
 exact this
def found (es : List A0) (x : Int) : Prop := (H2 es x).2 = true
def M8 (es : List A0) (x : Int) : List Int := (H2 es x).1.2.2.2.2.2.2.2.1
inductive Anc (es : List A0) (id : Int) : Int → Prop where
 | one {x : Int} : x ∈ M8 es id → found es x → Anc es id x
 | more {x y : Int} : Anc es id y → x ∈ M8 es y → found es x → Anc es id x
theorem C06 {es : List A0} {x : Int} (h : found es x) : x ∈ es.map fun e => e.1 := by
 unfold found H2 at h
 cases hf : es.find? fun e => e.1 == x with
 | none => rw [hf] at h; cases h
 | some e =>
  have h1 := List.find?_some hf
  have h2 := List.mem_of_find?_eq_some hf
  exact List.mem_map.2 ⟨e, h2, by simpa using h1⟩
theorem Cs8 {α : Type} [DecidableEq α] : ∀ (l m : List α), l.Nodup → (∀ x ∈ l, x ∈ m) → l.length ≤ m.length
 | [], m, _, _ => Nat.zero_le _
 | a :: l, m, hn, hs => by
  have ha : a ∈ m := hs a (List.mem_cons_self ..)
  rw [List.nodup_cons] at hn
  have := Cs8 l (m.erase a) hn.2 fun x hx => (List.mem_erase_of_ne (fun e => by subst e; exact hn.1 hx)).2 (hs x (List.mem_cons_of_mem _ hx))
  rw [List.length_erase_of_mem ha] at this
  have : 0 < m.length := List.length_pos_of_mem ha
  simp; omega
def AncL (es : List A0) (id : Int) (r : List Int) : Prop := r.Nodup ∧ ∀ x, x ∈ r ↔ Anc es id x
structure BInv (es : List A0) (id : Int) (out todo : List Int) (cur : Option (Int × Nat)) : Prop where
 nd : out.Nodup
 an : ∀ x ∈ out, found es x ∧ Anc es id x
 td : ∀ y ∈ todo, y = id ∨ y ∈ out
 cl : ∀ z, (z = id ∨ z ∈ out) → z ∈ todo ∨ (∃ j, cur = some (z, j) ∧ ∀ x ∈ (M8 es z).take j, found es x → x ∈ out) ∨ (∀ x ∈ M8 es z, found es x → x ∈ out)
theorem BInv.len {es : List A0} {id : Int} {out todo : List Int} {cur : Option (Int × Nat)} (h : BInv es id out todo cur) : out.length ≤ es.length := by
 have := Cs8 out (es.map fun e => e.1) h.nd fun x hx => C06 (h.an x hx).1
 simpa using this
theorem Dm3 (es : List A0) (h : es.length ≤ 100000) (hp : ∀ y, (M8 es y).length ≤ 1048576) (id : Int) : Re (fun k => Aw9 k es id) (AncL es id) := by
 refine Re.enter (f := fun k n => S9 k n es 0 [] [id]) C6 ?_
 have := Re.wf (l := fun k n (st : (Nat × List Int × List Int) ⊕ (Nat × Nat × List Int × List Int × Int)) => match st with
   | .inl (u, out, td) => S9 k n es u out td
   | .inr (u, j, out, td, y) => T0 k n es u (j : Int) out td (H2 es y))
  (I := fun st => match st with
   | .inl (u, out, td) => BInv es id out (td.drop u) none ∧ td.length ≤ 1000000 + u ∧ u ≤ td.length ∧ (td.drop u).length ≤ out.length + 1
   | .inr (u, j, out, td, y) => BInv es id out (td.drop u) (some (y, j)) ∧ (y = id ∨ y ∈ out) ∧ j ≤ (M8 es y).length ∧ (td.drop u).length ≤ out.length + 1 ∧ u ≤ td.length)
  (fun st => match st with
   | .inl (u, out, td) => (2 * (es.length - out.length) + (td.drop u).length, 0)
   | .inr (u, j, out, td, y) => (2 * (es.length - out.length) + (td.drop u).length, (M8 es y).length - j + 1)) (Q := fun _ r => AncL es id r) (fun st hi ih => by
  rcases st with ⟨u, out, td⟩ | ⟨u, j, out, td, y⟩
  ·obtain ⟨hB, h1, h2, h3⟩ := hi
   simp only at ih ⊢
   simp only [Dk3, Al2]
   refine Re.brd (fun g => ?_) (fun g => Re.ret ?_)
   ·have hu : u < td.length := by omega
    have hd : td.drop u = rd 0 td u :: td.drop (u + 1) := by rw [E8 hu]; exact List.drop_eq_getElem_cons hu
    refine Re.gdd (by omega) ?_
    rw [Nat.add_zero]
    refine Re.c2 (Z4 es (by omega) _) (Re.gdd (by omega) ?_)
    have hy := hB.td (rd 0 td u) (by rw [hd]; exact List.mem_cons_self ..)
    refine ih (.inr (u + 1, 0, out, td, rd 0 td u)) ⟨⟨hB.nd, hB.an, fun z hz => hB.td z (by rw [hd]; exact List.mem_cons_of_mem _ hz), fun z hz => ?_⟩, hy, Nat.zero_le _, by rw [hd] at h3; simp at h3 ⊢; omega, by omega⟩ (.inl ?_)
    ·rcases hB.cl z hz with h4 | ⟨j, h4, _⟩ | h4
     ·rw [hd] at h4
      rcases List.mem_cons.1 h4 with h5 | h5
      ·exact .inr (.inl ⟨0, by rw [h5], fun x hx => by simp at hx⟩)
      ·exact .inl h5
     ·cases h4
     ·exact .inr (.inr h4)
    ·simp only [hd, List.length_cons]
     omega
   ·have e : td.drop u = [] := List.drop_eq_nil_of_le (by omega)
    rw [e] at hB
    refine ⟨hB.nd, fun x => ⟨fun hx => (hB.an x hx).2, fun hx => ?_⟩⟩
    have closed : ∀ z, (z = id ∨ z ∈ out) → ∀ x ∈ M8 es z, found es x → x ∈ out := fun z hz => by
     rcases hB.cl z hz with h4 | ⟨j, h4, _⟩ | h4
     ·simp at h4
     ·cases h4
     ·exact h4
    induction hx with
    | one h4 h5 => exact closed id (.inl rfl) _ h4 h5
    | more _ h4 h5 ih2 => exact closed _ (.inr ih2) _ h4 h5
  ·obtain ⟨hB, h1, h2, h3, hu⟩ := hi
   simp only at ih ⊢
   have hlen := hB.len
   have hpl := hp y
   have hpe : (H2 es y).1.2.2.2.2.2.2.2.1 = M8 es y := rfl
   simp only [Dk4, Al3, hpe]
   refine Re.brd (fun g => ?_) (fun g => ?_)
   ·have hj : j < (M8 es y).length := by omega
    refine Re.gdd (by omega) (Re.gdd g ?_)
    simp only [Int.toNat_natCast]
    rw [C5 hj (by omega)]
    have step : ∀ out2 td2 u2, BInv es id out2 (td2.drop u2) (some (y, j + 1)) → (y = id ∨ y ∈ out2) → (td2.drop u2).length ≤ out2.length + 1 → u2 ≤ td2.length → (2 * (es.length - out2.length) + (td2.drop u2).length ≤ 2 * (es.length - out.length) + (td.drop u).length) →
      Re (fun x : Nat × Nat => T0 x.1 x.2 es u2 ((j + 1 : Nat) : Int) out2 td2 (H2 es y)) (AncL es id) := fun out2 td2 u2 b1 b2 b3 b5 b4 => by
     refine ih (.inr (u2, j + 1, out2, td2, y)) ⟨b1, b2, by omega, b3, b5⟩ ?_
     simp only
     omega
    have tk := B59 hj
    have same : (found es (rd 0 (M8 es y) j) → rd 0 (M8 es y) j ∈ out) → Re (fun x : Nat × Nat => T0 x.1 x.2 es u ((j + 1 : Nat) : Int) out td (H2 es y)) (AncL es id) := fun hin =>
     step out td u ⟨hB.nd, hB.an, hB.td, fun z hz => by
      rcases hB.cl z hz with h4 | ⟨j', h4, h5⟩ | h4
      ·exact .inl h4
      ·cases h4
       refine .inr (.inl ⟨j + 1, rfl, fun x hx hf => ?_⟩)
       rw [tk] at hx
       rcases List.mem_append.1 hx with hx | hx
       ·exact h5 x hx hf
       ·simp at hx; subst hx; exact hin hf
      ·exact .inr (.inr h4)⟩ h1 h3 hu (Nat.le_refl _)
    refine Re.c2 (Z4 es (by omega) _) ?_
    cases hf : (H2 es (rd 0 (M8 es y) j)).2 with
    | false => exact Re.br (b := false) (fun h => by cases h) (fun _ => same fun h => by unfold found at h; rw [hf] at h; cases h)
    | true =>
     refine Re.br (b := true) (fun _ => ?_) (fun h => by cases h)
     refine Re.gdd (by omega) (Re.gdd g (Re.c2 (At7 out (by omega) _) ?_))
     refine Re.br (fun q => ?_) (fun q => same fun _ => by simpa using q)
     have hno : rd 0 (M8 es y) j ∉ out := by simpa using q
     have hanc : Anc es id (rd 0 (M8 es y) j) := by
      have hm : rd 0 (M8 es y) j ∈ M8 es y := by rw [E8 hj]; exact List.getElem_mem _
      rcases h1 with h1 | h1
      ·subst h1; exact .one hm hf
      ·exact .more (hB.an y h1).2 hm hf
     refine Re.gdd (by omega) (Re.gdd g (Re.gdd (by simp only [List.length_singleton]; unfold A3; omega) (Re.gdd (by omega) (Re.gdd g (Re.gdd (by simp only [List.length_singleton]; unfold A3; omega) ?_)))))
     have nB : BInv es id (out ++ [rd 0 (M8 es y) j]) ((td.drop u ++ [rd 0 (M8 es y) j]).drop 0) (some (y, j + 1)) := by
      refine ⟨List.nodup_append.2 ⟨hB.nd, by simp, fun a ha b hb => by simp at hb; subst hb; exact fun e => hno (e ▸ ha)⟩, fun x hx => ?_, fun z hz => ?_, fun z hz => ?_⟩
      ·rcases List.mem_append.1 hx with hx | hx
       ·exact hB.an x hx
       ·simp at hx; subst hx; exact ⟨hf, hanc⟩
      ·rw [List.drop_zero] at hz
       rcases List.mem_append.1 hz with hz | hz
       ·exact Or.imp_right (fun h => List.mem_append_left _ h) (hB.td z hz)
       ·exact .inr (List.mem_append_right _ hz)
      ·rw [List.drop_zero]
       by_cases hz2 : z = id ∨ z ∈ out
       ·rcases hB.cl z hz2 with h4 | ⟨j', h4, h5⟩ | h4
        ·exact .inl (List.mem_append_left _ h4)
        ·cases h4
         refine .inr (.inl ⟨j + 1, rfl, fun x hx hf2 => ?_⟩)
         rw [tk] at hx
         rcases List.mem_append.1 hx with hx | hx
         ·exact List.mem_append_left _ (h5 x hx hf2)
         ·exact List.mem_append_right _ hx
        ·exact .inr (.inr fun x hx hf2 => List.mem_append_left _ (h4 x hx hf2))
       ·rcases hz with hz | hz
        ·exact absurd (.inl hz) hz2
        ·rcases List.mem_append.1 hz with hz | hz
         ·exact absurd (.inr hz) hz2
         ·exact .inl (List.mem_append_right _ hz)
     have nl := nB.len
     refine step _ _ 0 nB (Or.imp_right (fun h => List.mem_append_left _ h) h1) ?_ (Nat.zero_le _) ?_
     ·simp only [List.drop_zero, List.length_append, List.length_singleton]; omega
     ·simp only [List.drop_zero, List.length_append, List.length_singleton] at nl ⊢; omega
   ·have ej : (M8 es y).take j = M8 es y := List.take_of_length_le (by omega)
    refine ih (.inl (u, out, td)) ⟨⟨hB.nd, hB.an, hB.td, fun z hz => ?_⟩, by simp at h3; omega, hu, h3⟩ (.inr ⟨rfl, by simp only; omega⟩)
    ·rcases hB.cl z hz with h4 | ⟨j', h4, h5⟩ | h4
     ·exact .inl h4
     ·cases h4
      rw [ej] at h5
      exact .inr (.inr h5)
     ·exact .inr (.inr h4)) (.inl (0, [], [id])) ⟨⟨by simp, fun x hx => by simp at hx, fun y hy => by simp at hy; exact .inl hy, fun z hz => .inl (by rcases hz with h | h; simp [h]; simp at h)⟩, by simp, by simp, by simp⟩
 exact this
end Go.Vm
end
section
namespace Go.Vm
open Go
theorem Anc.found {es : List A0} {id x : Int} (h : Anc es id x) : found es x := by cases h <;> assumption
theorem AncL.len {es : List A0} {id : Int} {r : List Int} (h : AncL es id r) : r.length ≤ es.length := by
 have := Cs8 r (es.map fun e => e.1) h.1 fun x hx => C06 ((h.2 x).1 hx).found
 simpa using this
def Ae6 (es : List A0) (a : List Int) (x : Int) : List Int := bif (H2 es x).2 then Fr2 a x else a
def Ba9 (es : List A0) (ids : List Int) : List Int := ids.foldl (Ae6 es) []
noncomputable def Dm4 (es : List A0) (L out : List Int) (x : Int) : Bool := @decide (∀ y, Anc es x y → y ∈ L → y ∈ out) (Classical.propDecidable _)
theorem E29 {es : List A0} {L out : List Int} {x : Int} {r : List Int} (h : AncL es x r) : ready r L out = Dm4 es L out x := by
 rw [Bool.eq_iff_iff]
 unfold ready Dm4
 rw [List.all_eq_true, @decide_eq_true_iff _ (Classical.propDecidable _)]
 constructor
 ·intro g y hy hl
  have := g y ((h.2 y).2 hy)
  simp [hl] at this
  exact this
 ·intro g y hy
  by_cases hl : y ∈ L
  ·simp [hl, g y ((h.2 y).1 hy) hl]
  ·simp [hl]
noncomputable def Dm5 (es : List A0) (L out : List Int) (x : Int) : Bool := !decide (x ∈ out) && Dm4 es L out x
noncomputable def l6 (es : List A0) (s : List A1) (L out : List Int) (b : Option A0) (x : Int) : Option A0 :=
 bif Dm5 es L out x then (match b with | none => some (H2 es x).1 | some b0 => bif Cs7 es s (H2 es x).1 b0 then some (H2 es x).1 else some b0) else b
noncomputable def pick (es : List A0) (s : List A1) (L out : List Int) : Option A0 := L.foldl (l6 es s L out) none
noncomputable def Ag9 (es : List A0) (s : List A1) (L : List Int) : Nat → List Int → List Int
 | 0, out => out
 | f + 1, out => match pick es s L out with
  | none => out
  | some b => Ag9 es s L f (out ++ [b.1])
noncomputable def B60 (es : List A0) (s : List A1) (ids : List Int) : List Int := Ag9 es s (Ba9 es ids) (Ba9 es ids).length []
theorem Eg9 (es : List A0) (s : List A1) (h : Eg4 es s) (h1 : es.length ≤ 100000) (L : List Int) (hL : L.length ≤ 100000) (as : List (List Int)) (ha : as.length = L.length) (hA : ∀ i, i < L.length → AncL es (rd 0 L i) (rd [] as i)) :
  Re (fun x : Nat × Nat => As6 x.1 x.2 es s L as []) (fun r => r = Ag9 es s L L.length []) := by
 have := Re.wf (l := fun k n (st : List Int ⊕ (Nat × List Int) ⊕ (Nat × List Int × A0)) => match st with
   | .inl out => As6 k n es s L as out
   | .inr (.inl (i, out)) => As7 k n es s (i : Int) L as out
   | .inr (.inr (i, out, b)) => As8 k n es s (i : Int) L as out b.1 b.2.1 b.2.2.1 b.2.2.2.1 b.2.2.2.2.1 b.2.2.2.2.2.1 b.2.2.2.2.2.2.1 b.2.2.2.2.2.2.2.1 b.2.2.2.2.2.2.2.2.1)
  (I := fun st => match st with
   | .inl out => out.length ≤ L.length
   | .inr (.inl (i, out)) => out.length < L.length ∧ i ≤ L.length ∧ (L.take i).foldl (l6 es s L out) none = none
   | .inr (.inr (i, out, b)) => out.length < L.length ∧ i ≤ L.length ∧ (L.take i).foldl (l6 es s L out) none = some b)
  (fun st => match st with
   | .inl out => (L.length - out.length, L.length + 2)
   | .inr (.inl (i, out)) => (L.length - out.length, L.length - i + 1)
   | .inr (.inr (i, out, b)) => (L.length - out.length, L.length - i + 1))
  (Q := fun st r => match st with
   | .inl out => r = Ag9 es s L (L.length - out.length) out
   | .inr (.inl (i, out)) => r = Ag9 es s L (L.length - out.length) out
   | .inr (.inr (i, out, b)) => r = Ag9 es s L (L.length - out.length) out) (fun st hi ih => by
  rcases st with out | ⟨i, out⟩ | ⟨i, out, b⟩
  ·simp only at hi ih ⊢
   simp only [Fq3, Bt3]
   refine Re.brd (fun g => ?_) (fun g => Re.ret ?_)
   ·exact ih (.inr (.inl (0, out))) ⟨by omega, Nat.zero_le _, rfl⟩ (.inr ⟨rfl, by simp only; omega⟩)
   ·rw [show L.length - out.length = 0 by omega]; rfl
  ·obtain ⟨g1, g2, g3⟩ := hi
   simp only at ih ⊢
   simp only [Fq4, Bt4]
   refine Re.brd (fun g => ?_) (fun g => Re.ret ?_)
   ·have hl : i < L.length := by omega
    have hf := At8 (l6 es s L out) 0 L none hl
    rw [g3] at hf
    refine Re.gdd (by omega) (Re.gdd g ?_)
    simp only [Int.toNat_natCast]
    rw [C5 hl (by omega)]
    have same : Dm5 es L out (rd 0 L i) = false → Re (fun x : Nat × Nat => As7 x.1 x.2 es s ((i + 1 : Nat) : Int) L as out) (fun r => r = Ag9 es s L (L.length - out.length) out) := fun q =>
     ih (.inr (.inl (i + 1, out))) ⟨g1, by omega, by rw [hf]; unfold l6; rw [q]; rfl⟩ (.inr ⟨rfl, by simp only; omega⟩)
    refine Re.c2 (At7 out (by omega) _) ?_
    refine Re.brd (fun q => same (by unfold Dm5; rw [decide_eq_true q]; rfl)) (fun q => ?_)
    have hc : Dm5 es L out (rd 0 L i) = Dm4 es L out (rd 0 L i) := by unfold Dm5; rw [decide_eq_false q]; rfl
    refine Re.gdd (by omega) (Re.gdd (by omega) ?_)
    have hal := (hA i hl).len
    refine Re.c2 (Ch4 _ _ _ (by omega) (by omega) (by omega)) ?_
    rw [E29 (hA i hl), ← hc]
    refine Re.br (fun q2 => same (by simpa using q2)) (fun q2 => ?_)
    refine Re.gdd (by omega) (Re.gdd g (Re.c2 (Z4 es h.1 _) ?_))
    exact ih (.inr (.inr (i + 1, out, (H2 es (rd 0 L i)).1))) ⟨g1, by omega, by rw [hf]; unfold l6; rw [show Dm5 es L out (rd 0 L i) = true by simpa using q2]; rfl⟩ (.inr ⟨rfl, by simp only; omega⟩)
   ·rw [List.take_of_length_le (by omega)] at g3
    obtain ⟨f, hf⟩ : ∃ f, L.length - out.length = f + 1 := ⟨L.length - out.length - 1, by omega⟩
    rw [hf]
    unfold Ag9 pick
    rw [g3]
  ·obtain ⟨g1, g2, g3⟩ := hi
   simp only at ih ⊢
   simp only [Fq5, Bt5]
   refine Re.brd (fun g => ?_) (fun g => ?_)
   ·have hl : i < L.length := by omega
    have hf := At8 (l6 es s L out) 0 L none hl
    rw [g3] at hf
    refine Re.gdd (by omega) (Re.gdd g ?_)
    simp only [Int.toNat_natCast]
    rw [C5 hl (by omega)]
    have next : ∀ b2, l6 es s L out (some b) (rd 0 L i) = some b2 → Re (fun x : Nat × Nat => As8 x.1 x.2 es s ((i + 1 : Nat) : Int) L as out b2.1 b2.2.1 b2.2.2.1 b2.2.2.2.1 b2.2.2.2.2.1 b2.2.2.2.2.2.1 b2.2.2.2.2.2.2.1 b2.2.2.2.2.2.2.2.1 b2.2.2.2.2.2.2.2.2.1) (fun r => r = Ag9 es s L (L.length - out.length) out) := fun b2 q =>
     ih (.inr (.inr (i + 1, out, b2))) ⟨g1, by omega, by rw [hf, q]⟩ (.inr ⟨rfl, by simp only; omega⟩)
    refine Re.c2 (At7 out (by omega) _) ?_
    refine Re.brd (fun q => next b (by unfold l6 Dm5; rw [decide_eq_true q]; rfl)) (fun q => ?_)
    have hc : Dm5 es L out (rd 0 L i) = Dm4 es L out (rd 0 L i) := by unfold Dm5; rw [decide_eq_false q]; rfl
    refine Re.gdd (by omega) (Re.gdd (by omega) ?_)
    have hal := (hA i hl).len
    refine Re.c2 (Ch4 _ _ _ (by omega) (by omega) (by omega)) ?_
    rw [E29 (hA i hl), ← hc]
    refine Re.br (fun q2 => next b (by unfold l6; rw [show Dm5 es L out (rd 0 L i) = false by simpa using q2]; rfl)) (fun q2 => ?_)
    have q3 : Dm5 es L out (rd 0 L i) = true := by simpa using q2
    refine Re.gdd (by omega) (Re.gdd g (Re.c2 (Z4 es h.1 _) (Re.c2 (Eg8 es s h _ _) ?_)))
    refine Re.br (fun q4 => next _ ?_) (fun q4 => next b ?_)
    ·unfold l6; rw [q3]; simp only [cond_true]
     have e : Cs7 es s (H2 es (rd 0 L i)).1 b = true := q4
     rw [e]; rfl
    ·unfold l6; rw [q3]; simp only [cond_true]
     have e : Cs7 es s (H2 es (rd 0 L i)).1 b = false := q4
     rw [e]; rfl
   ·rw [List.take_of_length_le (by omega)] at g3
    refine Re.gdd (by simp only [List.length_singleton]; unfold A3; omega) ?_
    have next := ih (.inl (out ++ [b.1])) (by simp; omega) (.inl (by simp; omega))
    refine next.mono fun r hr => ?_
    simp only at hr
    obtain ⟨f, hf⟩ : ∃ f, L.length - out.length = f + 1 := ⟨L.length - out.length - 1, by omega⟩
    rw [hr, hf]
    have e : L.length - (out ++ [b.1]).length = f := by simp; omega
    rw [e]
    conv => rhs; unfold Ag9 pick; rw [g3]) (.inl []) (Nat.zero_le _)
 simpa using this
theorem B61 (y : Int) : ∀ (xs : List Int) (d : Bool), xs.Nodup → (e7 y xs d).Nodup
 | [], d, _ => by cases d <;> simp [e7]
 | x :: xs, d, h => by
  have hx := List.nodup_cons.1 h
  have h1 := B61 y xs true hx.2
  have h2 := B61 y xs d hx.2
  unfold e7
  by_cases q : x ≥ y ∧ d = false
  ·rw [if_pos q]
   have hy : y ∉ e7 y xs true := fun hm => by rw [A80] at hm; simp at hm
   by_cases q2 : x = y
   ·rw [if_pos q2]; exact List.nodup_cons.2 ⟨hy, h1⟩
   ·rw [if_neg q2]
    refine List.nodup_cons.2 ⟨?_, List.nodup_cons.2 ⟨fun hm => ?_, h1⟩⟩
    ·intro hm
     rcases List.mem_cons.1 hm with e | e
     ·exact q2 e.symm
     ·exact hy e
    ·rw [A80] at hm; simp at hm; exact hx.1 hm.1
  ·rw [if_neg q]
   by_cases q2 : x = y
   ·rw [if_pos q2]; exact h2
   ·rw [if_neg q2]
    refine List.nodup_cons.2 ⟨fun hm => ?_, h2⟩
    rw [A80] at hm
    rcases hm with hm | hm
    ·exact hx.1 hm.1
    ·exact q2 hm.2
theorem Fr5 (es : List A0) (ids : List Int) : (Ba9 es ids).Nodup ∧ ∀ x, x ∈ Ba9 es ids ↔ x ∈ ids ∧ found es x := by
 have : ∀ (xs a : List Int), a.Nodup → (xs.foldl (Ae6 es) a).Nodup ∧ ∀ x, x ∈ xs.foldl (Ae6 es) a ↔ x ∈ a ∨ (x ∈ xs ∧ found es x) := by
  intro xs
  induction xs with
  | nil => intro a h; exact ⟨h, fun x => by simp⟩
  | cons y ys ih =>
   intro a h
   rw [List.foldl_cons]
   have h1 : (Ae6 es a y).Nodup := by
    unfold Ae6
    cases (H2 es y).2 with
    | false => exact h
    | true => exact B61 y a false h
   obtain ⟨g1, g2⟩ := ih _ h1
   refine ⟨g1, fun x => ?_⟩
   rw [g2]
   unfold Ae6 found
   cases hf : (H2 es y).2 with
   | false =>
    simp only [cond_false, List.mem_cons]
    constructor
    ·rintro (q | ⟨q, q2⟩)
     ·exact .inl q
     ·exact .inr ⟨.inr q, q2⟩
    ·rintro (q | ⟨q | q, q2⟩)
     ·exact .inl q
     ·subst q; rw [hf] at q2; cases q2
     ·exact .inr ⟨q, q2⟩
   | true =>
    simp only [cond_true, E23, List.mem_cons]
    constructor
    ·rintro ((q | q) | ⟨q, q2⟩)
     ·exact .inl q
     ·exact .inr ⟨.inl q, by rw [q]; exact hf⟩
     ·exact .inr ⟨.inr q, q2⟩
    ·rintro (q | ⟨q | q, q2⟩)
     ·exact .inl (.inl q)
     ·exact .inl (.inr q)
     ·exact .inr ⟨q, q2⟩
 obtain ⟨h1, h2⟩ := this ids [] (by simp)
 exact ⟨h1, fun x => by rw [Ba9, h2]; simp⟩
theorem Dm6 (es : List A0) (ids : List Int) : (Ba9 es ids).length ≤ es.length := by
 obtain ⟨h1, h2⟩ := Fr5 es ids
 have := Cs8 _ (es.map fun e => e.1) h1 fun x hx => C06 ((h2 x).1 hx).2
 simpa using this
theorem Fr6 (es : List A0) (s : List A1) (h : Eg4 es s) (h1 : es.length ≤ 100000) (hp : ∀ y, (M8 es y).length ≤ 1048576) (ids : List Int) (hi : ids.length ≤ 20000000) : Ev (fun k => Cq9 k es s ids) (B60 es s ids) := by
 refine Re.eq (Re.enter (f := fun k n => Ah7 k n es s ids 0 []) C6 ?_)
 have hLl : (Ba9 es ids).length ≤ 100000 := Nat.le_trans (Dm6 es ids) h1
 have two : Re (fun x : Nat × Nat => As9 x.1 x.2 es s 0 (Ba9 es ids) []) (fun r => r = B60 es s ids) := by
  have := Re.loop (ι := Nat) (l := fun k n (as : List (List Int)) => As9 k n es s (as.length : Int) (Ba9 es ids) as) (I := fun as => as.length ≤ (Ba9 es ids).length ∧ ∀ i, i < as.length → AncL es (rd 0 (Ba9 es ids) i) (rd [] as i)) (fun as => (Ba9 es ids).length - as.length) (Q := fun _ r => r = B60 es s ids) (fun as hi ih => by
   obtain ⟨g1, g2⟩ := hi
   simp only [As9, Cl7]
   refine Re.brd (fun g => ?_) (fun g => ?_)
   ·have hl : as.length < (Ba9 es ids).length := by omega
    refine Re.gdd (by omega) (Re.gdd g ?_)
    simp only [Int.toNat_natCast]
    rw [C5 hl (by omega)]
    refine Re.b2 (Dm3 es h1 hp _) fun r3 h3 => Re.gdd (by simp only [List.length_singleton]; unfold A3; omega) ?_
    have := ih (as ++ [r3]) ⟨by simp; omega, fun i hi => by
     by_cases q : i < as.length
     ·have e : rd [] (as ++ [r3]) i = rd [] as i := by simp [rd, List.getElem?_append_left q]
      rw [e]; exact g2 i q
     ·have e0 : i = as.length := by simp at hi; omega
      subst e0
      have e : rd [] (as ++ [r3]) as.length = r3 := by simp [rd]
      rw [e]; exact h3⟩ (by simp; omega)
    simpa using this
   ·exact Eg9 es s h h1 _ hLl as (by omega) fun i hi => g2 i (by omega)) [] ⟨Nat.zero_le _, fun i hi => by simp at hi⟩
  simpa using this
 have := Re.loop (ι := Nat) (l := fun k n (i : Nat) => Ah7 k n es s ids (i : Int) ((ids.take i).foldl (Ae6 es) [])) (I := fun i => i ≤ ids.length) (fun i => ids.length - i) (Q := fun _ r => r = B60 es s ids) (fun i hi2 ih => by
  simp only [Ah7, Cl8]
  refine Re.brd (fun g => ?_) (fun g => ?_)
  ·have hl : i < ids.length := by omega
   have next := ih (i + 1) (by omega) (by omega)
   rw [At8 (Ae6 es) 0 ids [] hl] at next
   have hlen2 : ((ids.take i).foldl (Ae6 es) []).length ≤ 1048576 := Nat.le_trans (Dm6 es (ids.take i)) (by omega)
   refine Re.gdd (by omega) (Re.gdd g ?_)
   simp only [Int.toNat_natCast]
   rw [C5 hl (by omega)]
   refine Re.c2 (Z4 es h.1 _) ?_
   unfold Ae6 at next ⊢
   refine Re.br (fun q => ?_) (fun q => ?_)
   ·rw [q] at next
    exact Re.gdd (by omega) (Re.gdd g (Re.c2 (C69 _ hlen2 _) next))
   ·rw [q] at next; exact next
  ·rw [List.take_of_length_le (by omega)]
   exact two) 0 (Nat.zero_le _)
 exact this
end Go.Vm
end
section
namespace Go.Vm
open Go
theorem B62 (es : List A0) (s : List A1) (L : List Int) : ∀ (f : Nat) (out : List Int), (Ag9 es s L f out).length ≤ out.length + f
 | 0, out => Nat.le_refl _
 | f + 1, out => by
  unfold Ag9
  split
  ·omega
  ·rename_i b hb
   have := B62 es s L f (out ++ [b.1])
   simp at this; omega
def Ch5 (s : List A1) (ks : List Int) : List Int := (ks.map (atS s)).filter fun x => x != 0
def B63 (ss : List (List A1)) (ks : List Int) : List Int := ss.flatMap fun s => Ch5 s ks
theorem Cs9 (s : List A1) (ks : List Int) : (Ch5 s ks).length ≤ ks.length := by
 unfold Ch5
 exact Nat.le_trans (List.length_filter_le _ _) (by simp)
theorem B64 (ks : List Int) : ∀ ss : List (List A1), (B63 ss ks).length ≤ ss.length * ks.length
 | [] => by simp [B63]
 | s :: ss => by
  have h1 := Cs9 s ks
  have h2 := B64 ks ss
  have e : B63 (s :: ss) ks = Ch5 s ks ++ B63 ss ks := by simp [B63]
  rw [e, List.length_append, List.length_cons, Nat.succ_mul]
  omega
noncomputable def Am5 (es : List A0) (now : List A1) (x : Int) : List A1 := bif Av4 es now (H2 es x).1 && Ch0 (H2 es x).1 != 0 then E27 now (Ch0 (H2 es x).1) (H2 es x).1.1 else now
noncomputable def B65 (es : List A0) (ss : List (List A1)) : List A1 :=
 if ss.length = 0 then [] else if ss.length = 1 then rd [] ss 0 else (B60 es (Q3 ss) (B63 ss (C05 ss))).foldl (Am5 es) (Q3 ss)
def EvS (es : List A0) : Prop := es.length ≤ 100000 ∧ (∀ y, (M8 es y).length ≤ 1048576) ∧ ∀ y, I0 (H2 es y).1 ≤ 1048576
def StsB (ss : List (List A1)) : Prop := ss.length ≤ 1048576 ∧ ∀ i, i < ss.length → (rd [] ss i).length ≤ 16
theorem StsB.s {ss : List (List A1)} (h : StsB ss) : Gi9 ss := ⟨by have := h.1; omega, fun i hi => by have := h.2 i hi; omega⟩
theorem B66 (ss : List (List A1)) : (Q3 ss).length ≤ 16 := by
 unfold Q3
 have := o7 ss 16
 rw [List.length_map]
 exact Nat.le_trans (List.length_filter_le _ _) this
theorem Dm7 {es : List A0} {now : List A1} (h : now.length ≤ 16) (x : Int) : (Am5 es now x).length ≤ 16 := by
 unfold Am5
 cases Av4 es now (H2 es x).1 && Ch0 (H2 es x).1 != 0 with
 | true => exact C70 h (by omega)
 | false => exact h
theorem Bb0 {es : List A0} : ∀ (xs : List Int) {now : List A1}, now.length ≤ 16 → (xs.foldl (Am5 es) now).length ≤ 16
 | [], _, h => h
 | x :: xs, _, h => by rw [List.foldl_cons]; exact Bb0 xs (Dm7 h x)
theorem C07 {es : List A0} {ss : List (List A1)} (h : StsB ss) : (B65 es ss).length ≤ 16 := by
 unfold B65
 split
 ·exact Nat.zero_le _
 ·split
  ·rename_i h1; exact h.2 0 (by omega)
  ·exact Bb0 _ (B66 ss)
theorem Gj0 {ss : List (List A1)} {i : Nat} (h : i < ss.length) (ks : List Int) : B63 (ss.take (i + 1)) ks = B63 (ss.take i) ks ++ Ch5 (rd [] ss i) ks := by
 unfold B63
 rw [List.take_add_one, List.getElem?_eq_getElem h, E8 h, List.flatMap_append]
 simp
theorem Fr7 {s : List A1} {ks : List Int} {j : Nat} (h : j < ks.length) : Ch5 s (ks.take (j + 1)) = Ch5 s (ks.take j) ++ (if atS s (rd 0 ks j) = 0 then [] else [atS s (rd 0 ks j)]) := by
 unfold Ch5
 rw [B59 h, List.map_append, List.filter_append]
 congr 1
 by_cases q : atS s (rd 0 ks j) = 0
 ·simp [q]
 ·simp [q]
theorem Dx1 (es : List A0) (hE : EvS es) (ss : List (List A1)) (hS : StsB ss) : Ev (fun k => Bo4 k es ss) (B65 es ss) := by
 obtain ⟨e1, e2, e3⟩ := hE
 obtain ⟨s1, s2⟩ := hS
 refine Re.eq ?_
 unfold B65
 refine Re.bre (fun q => Re.ret (by rw [if_pos (by omega)])) (fun q => ?_)
 rw [if_neg (by omega)]
 refine Re.bre (fun q1 => ?_) (fun q1 => ?_)
 ·rw [if_pos (by omega)]
  have := s2 0 (by omega)
  exact Re.gdd (by omega) (Re.gdd (by simp [A3]; omega) (Re.ret rfl))
 rw [if_neg (by omega)]
 have hSS : Gi9 ss := StsB.s ⟨s1, s2⟩
 refine Re.c1 (C71 ss hSS (by omega)) (Re.c1 (Fr4 ss hSS) ?_)
 have hkl : (C05 ss).length ≤ 16 := by
  unfold C05
  have := o7 ss 16
  exact Nat.le_trans (List.length_filter_le _ _) this
 have hal := B66 ss
 generalize hks : C05 ss = ks at hkl ⊢
 have hil := B64 ks ss
 have hmul : ss.length * ks.length ≤ 16777216 := Nat.le_trans (Nat.mul_le_mul s1 hkl) (by omega)
 have last : ∀ order : List Int, order.length ≤ 1000000 → Re (fun x : Nat × Nat => g9 x.1 x.2 es 0 (Q3 ss) order) (fun v => v = order.foldl (Am5 es) (Q3 ss)) := by
  intro order ho
  have := Re.loop (ι := Nat) (l := fun k n (i : Nat) => g9 k n es (i : Int) ((order.take i).foldl (Am5 es) (Q3 ss)) order) (I := fun i => i ≤ order.length) (fun i => order.length - i) (Q := fun _ v => v = order.foldl (Am5 es) (Q3 ss)) (fun i hi ih => by
   simp only [g9, Bt6]
   refine Re.brd (fun g => ?_) (fun g => Re.ret (by rw [List.take_of_length_le (by omega)]))
   have hl : i < order.length := by omega
   have next := ih (i + 1) (by omega) (by omega)
   rw [At8 (Am5 es) 0 order (Q3 ss) hl] at next
   have hnow := Bb0 (es := es) (order.take i) hal
   generalize (order.take i).foldl (Am5 es) (Q3 ss) = now at next hnow ⊢
   refine Re.gdd (by omega) (Re.gdd g ?_)
   simp only [Int.toNat_natCast]
   rw [C5 hl (by omega)]
   refine Re.c2 (Z4 es (by omega) _) (Re.c2 (Bv8 es now ⟨by omega, by omega⟩ _ (e3 _)) ?_)
   unfold Am5 at next
   refine Re.br (fun q => ?_) (fun q => ?_)
   ·rw [q, Bool.true_and] at next
    refine Re.s2 (Bv9 _ ·) ?_
    refine Re.br (fun q2 => ?_) (fun q2 => ?_)
    ·rw [q2] at next
     exact Re.s2 (Bv9 _ ·) (Re.c2 (E28 now (by omega) _ _) next)
    ·rw [q2] at next; exact next
   ·rw [q, Bool.false_and] at next; exact next) 0 (Nat.zero_le _)
  exact this
 refine Re.enter (f := fun k n => i6 k n es ss 0 (Q3 ss) ks []) C6 ?_
 have := Re.wf (l := fun k n (st : Nat ⊕ (Nat × Nat)) => match st with
   | .inl i => i6 k n es ss (i : Int) (Q3 ss) ks (B63 (ss.take i) ks)
   | .inr (i, j) => Al5 k n es ss (i : Int) (j : Int) (Q3 ss) ks (B63 (ss.take i) ks ++ Ch5 (rd [] ss i) (ks.take j)))
  (I := fun st => match st with | .inl i => i ≤ ss.length | .inr (i, j) => i < ss.length ∧ j ≤ ks.length)
  (fun st => match st with | .inl i => (ss.length - i, 0) | .inr (i, j) => (ss.length - (i + 1), ks.length - j + 1)) (Q := fun _ v => v = (B60 es (Q3 ss) (B63 ss ks)).foldl (Am5 es) (Q3 ss)) (fun st hi ih => by
  rcases st with i | ⟨i, j⟩
  ·simp only at hi ih ⊢
   simp only [Ef6, A38]
   refine Re.brd (fun g => ?_) (fun g => ?_)
   ·have := ih (.inr (i, 0)) ⟨by omega, Nat.zero_le _⟩ (.inl (by simp only; omega))
    simpa [Ch5] using this
   ·rw [List.take_of_length_le (by omega)]
    refine Re.c2 (C71 ss hSS (by omega)) (Re.c2 (Fr6 es (Q3 ss) ⟨by omega, by omega⟩ e1 e2 _ (by omega)) ?_)
    have hlen : (B60 es (Q3 ss) (B63 ss ks)).length ≤ 1000000 := by
     unfold B60
     have h1 := B62 es (Q3 ss) (Ba9 es (B63 ss ks)) (Ba9 es (B63 ss ks)).length []
     have h3 := Dm6 es (B63 ss ks)
     simp at h1; omega
    exact last _ hlen
  ·obtain ⟨g1, g2⟩ := hi
   simp only at ih ⊢
   simp only [Ef7, A39]
   have hl1 := B64 ks (ss.take i)
   have hl2 : (ss.take i).length * ks.length ≤ 16777216 := Nat.le_trans (Nat.mul_le_mul (show (ss.take i).length ≤ 1048576 by simp; omega) hkl) (by omega)
   have hl3 := Cs9 (rd [] ss i) (ks.take j)
   have hl4 : (ks.take j).length ≤ 16 := by simp; omega
   refine Re.brd (fun g => ?_) (fun g => ?_)
   ·have hj : j < ks.length := by omega
    have next := ih (.inr (i, j + 1)) ⟨g1, by omega⟩ (.inr ⟨rfl, by simp only; omega⟩)
    simp only [Fr7 hj] at next
    refine Re.gdd (by omega) (Re.gdd (by omega) (Re.gdd (by omega) (Re.gdd g ?_)))
    simp only [Int.toNat_natCast]
    rw [C5 hj (by omega)]
    refine Re.c2 (A50 _ (by have := s2 i g1; omega) _) ?_
    refine Re.brn (fun q => ?_) (fun q => ?_)
    ·rw [if_neg q] at next
     refine Re.gdd (by simp only [List.length_append, List.length_singleton]; unfold A3; omega) ?_
     simpa using next
    ·rw [if_pos q] at next
     simpa using next
   ·have ej : ks.take j = ks := List.take_of_length_le (by omega)
    have next := ih (.inl (i + 1)) (by simp only; omega) (.inr ⟨rfl, by simp only; omega⟩)
    simp only [Gj0 g1] at next
    rw [ej, C5 g1 (by omega)]
    exact next) (.inl 0) (Nat.zero_le _)
 simpa [B63] using this
end Go.Vm
end
