/- What the functions compute. -/
import Derived.Test.YtcbpoomhabigeaaGreatDoorZt2
set_option linter.all false
section
namespace Go.Vm
open Go
abbrev B1 : Type := ByteArray × ByteArray × Int × Unit
def A4 : B1 := (ByteArray.empty, ByteArray.empty, 0, ())
abbrev B3 : Type := List B1 × Unit
abbrev K7 : Type := ByteArray × Int × Bool × Unit
abbrev D9 : Type := Int × Int × ByteArray × Unit
def A9 : D9 := (0, 0, ByteArray.empty, ())
abbrev Et1 : Type := Int × Int × List D9 × Unit
abbrev I4 : Type := Int × ByteArray × ByteArray × ByteArray × Unit
def Hs2 : I4 := (0, ByteArray.empty, ByteArray.empty, ByteArray.empty, ())
abbrev B0 : Type := List Int × Int × Int × Unit
abbrev A0 : Type := Int × Int × Int × Int × Int × List Int × ByteArray × List Int × Int × Unit
def D3 : A0 := (0, 0, 0, 0, 0, [], ByteArray.empty, [], 0, ())
abbrev D2 : Type := Int × Int × Int × A0 × Int × Int × Unit
abbrev K8 : Type := Int × Int × List Int × Unit
def H8 : K8 := (0, 0, [], ())
abbrev A1 : Type := Int × Int × Unit
def J2 : A1 := (0, 0, ())
abbrev A8 : Type := List A0 × List (List A1) × List Bool × Unit
abbrev C2 : Type := List D9 × A8 × List K8 × Unit
abbrev D8 : Type := Int × Int × List Int × ByteArray × Unit
def Fh3 (k : Nat) (a0 : List Int) : Option Bool := (some (decide ((a0.length : Int) > 1048576)))
def E9 (k : Nat) (a0 : Int) (a1 : Int) (a2 : Int) : Option Bool := (br (decide (a0 ≥ a1)) (some (decide (a0 ≤ a2))) (some false))
def S5 (k : Nat) (a0 : ByteArray) : Option Bool := (bd (E9 k (a0.size : Int) 1 8) fun r1 => (some r1))
noncomputable section
def Bk0 (k : Nat) (L0 : Int → B3 → Option Bool) (v1 : Int) (a0 : B3) : Option Bool := (br (decide (v1 < (a0.1.length : Int))) (gd (decide (0 ≤ v1)) (gd (decide (v1 < (a0.1.length : Int))) (bd (S5 k (rd A4 a0.1 v1.toNat).1) fun r1 => (br (!r1) (some false) (br (decide ((((rd A4 a0.1 v1.toNat).2.1.size : Nat) : Int) > 20000)) (some false) (bd (E9 k (rd A4 a0.1 v1.toNat).2.2.1 0 (((rd A4 a0.1 v1.toNat).2.1.size : Nat) : Int)) fun r2 => (br (!r2) (some false) (br (decide (v1 > 0)) (gd (decide (0 ≤ (B4 (v1 - 1)))) (gd (decide ((B4 (v1 - 1)) < (a0.1.length : Int))) (br (!Op.bytesLess (rd A4 a0.1 (B4 (v1 - 1)).toNat).1.toList (rd A4 a0.1 v1.toNat).1.toList) (some false) (L0 (B4 (v1 + 1)) a0)))) (L0 (B4 (v1 + 1)) a0))))))))) (some true))
def j4 (k : Nat) : Nat → Int → B3 → Option Bool
 | 0, _, _ => none
 | n + 1, v1, a0 => Bk0 k (j4 k n) v1 a0
def Du2 (k : Nat) (L0 : Int → B3 → Option Bool) (a0 : B3) : Option Bool := (br (decide ((a0.1.length : Int) > 30)) (some false) (L0 0 a0))
def F7 (k : Nat) (a0 : B3) : Option Bool := Du2 k (j4 k k) a0
end
noncomputable section
def Bk1 (k : Nat) (L1 : Int → B3 → B1 → List B1 → Option B3) (v3 : Int) (a0 : B3) (a1 : B1) (xs4 : List B1) : Option B3 := (br (decide (v3 < (a0.1.length : Int))) (gd (decide (0 ≤ v3)) (gd (decide (v3 < (a0.1.length : Int))) (br (!(Op.bytesLess (rd A4 a0.1 v3.toNat).1.toList a1.1.toList || (rd A4 a0.1 v3.toNat).1.toList == a1.1.toList)) (gd (decide (0 ≤ v3)) (gd (decide (v3 < (a0.1.length : Int))) (gd (decide (xs4.length + ([(rd A4 a0.1 v3.toNat)] : List B1).length ≤ A3)) (L1 (B4 (v3 + 1)) a0 a1 (xs4 ++ ([(rd A4 a0.1 v3.toNat)] : List B1)))))) (L1 (B4 (v3 + 1)) a0 a1 xs4)))) (some (xs4, ())))
def Bk2 (k : Nat) (L0 : Int → B3 → B1 → List B1 → Option B3) (L1 : Int → B3 → B1 → List B1 → Option B3) (v1 : Int) (a0 : B3) (a1 : B1) (xs2 : List B1) : Option B3 := (br (decide (v1 < (a0.1.length : Int))) (gd (decide (0 ≤ v1)) (gd (decide (v1 < (a0.1.length : Int))) (br (Op.bytesLess (rd A4 a0.1 v1.toNat).1.toList a1.1.toList) (gd (decide (0 ≤ v1)) (gd (decide (v1 < (a0.1.length : Int))) (gd (decide (xs2.length + ([(rd A4 a0.1 v1.toNat)] : List B1).length ≤ A3)) (L0 (B4 (v1 + 1)) a0 a1 (xs2 ++ ([(rd A4 a0.1 v1.toNat)] : List B1)))))) (L0 (B4 (v1 + 1)) a0 a1 xs2)))) (gd (decide (xs2.length + ([a1] : List B1).length ≤ A3)) (L1 0 a0 a1 (xs2 ++ ([a1] : List B1)))))
def Al9 (k : Nat) : Nat → Int → B3 → B1 → List B1 → Option B3
 | 0, _, _, _, _ => none
 | n + 1, v3, a0, a1, xs4 => Bk1 k (Al9 k n) v3 a0 a1 xs4
def Aa4 (k : Nat) : Nat → Int → B3 → B1 → List B1 → Option B3
 | 0, _, _, _, _ => none
 | n + 1, v1, a0, a1, xs2 => Bk2 k (Aa4 k n) (Al9 k n) v1 a0 a1 xs2
def Du3 (k : Nat) (L0 : Int → B3 → B1 → List B1 → Option B3) (a0 : B3) (a1 : B1) : Option B3 := (L0 0 a0 a1 [])
def G9 (k : Nat) (a0 : B3) (a1 : B1) : Option B3 := Du3 k (Aa4 k k) a0 a1
end
noncomputable section
def By8 (k : Nat) (L0 : ByteArray → Int → B3 → Option Int) (a1 : ByteArray) (v1 : Int) (a0 : B3) : Option Int := (br (decide (v1 < (a0.1.length : Int))) (gd (decide (0 ≤ v1)) (gd (decide (v1 < (a0.1.length : Int))) (br ((rd A4 a0.1 v1.toNat).1.toList == a1.toList) (some v1) (L0 a1 (B4 (v1 + 1)) a0)))) (some (-1)))
def Ak6 (k : Nat) : Nat → ByteArray → Int → B3 → Option Int
 | 0, _, _, _ => none
 | n + 1, a1, v1, a0 => By8 k (Ak6 k n) a1 v1 a0
def Em4 (k : Nat) (L0 : ByteArray → Int → B3 → Option Int) (a0 : B3) (a1 : ByteArray) : Option Int := (L0 a1 0 a0)
def Bk3 (k : Nat) (a0 : B3) (a1 : ByteArray) : Option Int := Em4 k (Ak6 k k) a0 a1
end
noncomputable section
def Aj8 (k : Nat) (L0 : ByteArray → Int → B3 → List B1 → Option B3) (a1 : ByteArray) (v1 : Int) (a0 : B3) (xs2 : List B1) : Option B3 := (br (decide (v1 < (a0.1.length : Int))) (gd (decide (0 ≤ v1)) (gd (decide (v1 < (a0.1.length : Int))) (br (!((rd A4 a0.1 v1.toNat).1.toList == a1.toList)) (gd (decide (0 ≤ v1)) (gd (decide (v1 < (a0.1.length : Int))) (gd (decide (xs2.length + ([(rd A4 a0.1 v1.toNat)] : List B1).length ≤ A3)) (L0 a1 (B4 (v1 + 1)) a0 (xs2 ++ ([(rd A4 a0.1 v1.toNat)] : List B1)))))) (L0 a1 (B4 (v1 + 1)) a0 xs2)))) (some (xs2, ())))
def S8 (k : Nat) : Nat → ByteArray → Int → B3 → List B1 → Option B3
 | 0, _, _, _, _ => none
 | n + 1, a1, v1, a0, xs2 => Aj8 k (S8 k n) a1 v1 a0 xs2
def Ca6 (k : Nat) (L0 : ByteArray → Int → B3 → List B1 → Option B3) (a0 : B3) (a1 : ByteArray) : Option B3 := (L0 a1 0 a0 [])
def G1 (k : Nat) (a0 : B3) (a1 : ByteArray) : Option B3 := Ca6 k (S8 k k) a0 a1
end
def b9 (k : Nat) (a0 : B3) (a1 : I4) : Option (B3 × Bool) := (bd (F7 k a0) fun r1 => (br (!r1) (some (([], ()), false)) (bd (S5 k a1.2.1) fun r2 => (br (!r2) (some (([], ()), false)) (br (a1.1 != 3) (br (!(a1.2.2.2.1.toList == (⟨#[]⟩ : ByteArray).toList)) (some (([], ()), false)) (br (a1.1 != 1) (br (!(a1.2.2.1.toList == (⟨#[]⟩ : ByteArray).toList)) (some (([], ()), false)) (bd (Bk3 k a0 a1.2.1) fun r3 => (br (decide (r3 ≥ 0)) (gd (decide (0 ≤ r3)) (gd (decide (r3 < (a0.1.length : Int))) (br (a1.1 == 1) (gd (decide ((rd A4 a0.1 r3.toNat).2.1.size + a1.2.2.1.size ≤ A3)) (bd (G9 k a0 ((rd A4 a0.1 r3.toNat).1, ((rd A4 a0.1 r3.toNat).2.1 ++ a1.2.2.1), (rd A4 a0.1 r3.toNat).2.2)) fun r4 => (bd (F7 k r4) fun r5 => (br (!r5) (some (([], ()), false)) (some (r4, true)))))) (br (decide (r3 < 0)) (some (([], ()), false)) (br (a1.1 == 2) (bd (G9 k a0 ((rd A4 a0.1 r3.toNat).1, (rd A4 a0.1 r3.toNat).2.1, (((rd A4 a0.1 r3.toNat).2.1.size : Nat) : Int), ())) fun r6 => (bd (F7 k r6) fun r7 => (br (!r7) (some (([], ()), false)) (some (r6, true))))) (br (a1.1 == 3) (br (decide ((rd A4 a0.1 r3.toNat).2.2.1 < (((rd A4 a0.1 r3.toNat).2.1.size : Nat) : Int))) (some (([], ()), false)) (br (a1.2.2.2.1.toList == a1.2.1.toList) (some (([], ()), false)) (bd (S5 k a1.2.2.2.1) fun r8 => (br (!r8) (some (([], ()), false)) (bd (G1 k a0 a1.2.1) fun r9 => (bd (G9 k r9 (a1.2.2.2.1, (rd A4 a0.1 r3.toNat).2)) fun r10 => (bd (F7 k r10) fun r11 => (br (!r11) (some (([], ()), false)) (some (r10, true)))))))))) (br (a1.1 == 4) (bd (G1 k a0 a1.2.1) fun r12 => (bd (F7 k r12) fun r13 => (br (!r13) (some (([], ()), false)) (some (r12, true))))) (some (([], ()), false))))))))) (br (a1.1 == 1) (gd (decide (ByteArray.empty.size + a1.2.2.1.size ≤ A3)) (bd (G9 k a0 (a1.2.1, (ByteArray.empty ++ a1.2.2.1), 0, ())) fun r14 => (bd (F7 k r14) fun r15 => (br (!r15) (some (([], ()), false)) (some (r14, true)))))) (br (decide (r3 < 0)) (some (([], ()), false)) (br (a1.1 == 2) (bd (G9 k a0 (a1.2.1, ByteArray.empty, (ByteArray.empty.size : Int), ())) fun r16 => (bd (F7 k r16) fun r17 => (br (!r17) (some (([], ()), false)) (some (r16, true))))) (br (a1.1 == 3) (br (decide (0 < (ByteArray.empty.size : Int))) (some (([], ()), false)) (br (a1.2.2.2.1.toList == a1.2.1.toList) (some (([], ()), false)) (bd (S5 k a1.2.2.2.1) fun r18 => (br (!r18) (some (([], ()), false)) (bd (G1 k a0 a1.2.1) fun r19 => (bd (G9 k r19 (a1.2.2.2.1, ByteArray.empty, 0, ())) fun r20 => (bd (F7 k r20) fun r21 => (br (!r21) (some (([], ()), false)) (some (r20, true)))))))))) (br (a1.1 == 4) (bd (G1 k a0 a1.2.1) fun r22 => (bd (F7 k r22) fun r23 => (br (!r23) (some (([], ()), false)) (some (r22, true))))) (some (([], ()), false)))))))))) (bd (Bk3 k a0 a1.2.1) fun r24 => (br (decide (r24 ≥ 0)) (gd (decide (0 ≤ r24)) (gd (decide (r24 < (a0.1.length : Int))) (br (a1.1 == 1) (gd (decide ((rd A4 a0.1 r24.toNat).2.1.size + a1.2.2.1.size ≤ A3)) (bd (G9 k a0 ((rd A4 a0.1 r24.toNat).1, ((rd A4 a0.1 r24.toNat).2.1 ++ a1.2.2.1), (rd A4 a0.1 r24.toNat).2.2)) fun r25 => (bd (F7 k r25) fun r26 => (br (!r26) (some (([], ()), false)) (some (r25, true)))))) (br (decide (r24 < 0)) (some (([], ()), false)) (br (a1.1 == 2) (bd (G9 k a0 ((rd A4 a0.1 r24.toNat).1, (rd A4 a0.1 r24.toNat).2.1, (((rd A4 a0.1 r24.toNat).2.1.size : Nat) : Int), ())) fun r27 => (bd (F7 k r27) fun r28 => (br (!r28) (some (([], ()), false)) (some (r27, true))))) (br (a1.1 == 3) (br (decide ((rd A4 a0.1 r24.toNat).2.2.1 < (((rd A4 a0.1 r24.toNat).2.1.size : Nat) : Int))) (some (([], ()), false)) (br (a1.2.2.2.1.toList == a1.2.1.toList) (some (([], ()), false)) (bd (S5 k a1.2.2.2.1) fun r29 => (br (!r29) (some (([], ()), false)) (bd (G1 k a0 a1.2.1) fun r30 => (bd (G9 k r30 (a1.2.2.2.1, (rd A4 a0.1 r24.toNat).2)) fun r31 => (bd (F7 k r31) fun r32 => (br (!r32) (some (([], ()), false)) (some (r31, true)))))))))) (br (a1.1 == 4) (bd (G1 k a0 a1.2.1) fun r33 => (bd (F7 k r33) fun r34 => (br (!r34) (some (([], ()), false)) (some (r33, true))))) (some (([], ()), false))))))))) (br (a1.1 == 1) (gd (decide (ByteArray.empty.size + a1.2.2.1.size ≤ A3)) (bd (G9 k a0 (a1.2.1, (ByteArray.empty ++ a1.2.2.1), 0, ())) fun r35 => (bd (F7 k r35) fun r36 => (br (!r36) (some (([], ()), false)) (some (r35, true)))))) (br (decide (r24 < 0)) (some (([], ()), false)) (br (a1.1 == 2) (bd (G9 k a0 (a1.2.1, ByteArray.empty, (ByteArray.empty.size : Int), ())) fun r37 => (bd (F7 k r37) fun r38 => (br (!r38) (some (([], ()), false)) (some (r37, true))))) (br (a1.1 == 3) (br (decide (0 < (ByteArray.empty.size : Int))) (some (([], ()), false)) (br (a1.2.2.2.1.toList == a1.2.1.toList) (some (([], ()), false)) (bd (S5 k a1.2.2.2.1) fun r39 => (br (!r39) (some (([], ()), false)) (bd (G1 k a0 a1.2.1) fun r40 => (bd (G9 k r40 (a1.2.2.2.1, ByteArray.empty, 0, ())) fun r41 => (bd (F7 k r41) fun r42 => (br (!r42) (some (([], ()), false)) (some (r41, true)))))))))) (br (a1.1 == 4) (bd (G1 k a0 a1.2.1) fun r43 => (bd (F7 k r43) fun r44 => (br (!r44) (some (([], ()), false)) (some (r43, true))))) (some (([], ()), false))))))))))) (br (a1.1 != 1) (br (!(a1.2.2.1.toList == (⟨#[]⟩ : ByteArray).toList)) (some (([], ()), false)) (bd (Bk3 k a0 a1.2.1) fun r45 => (br (decide (r45 ≥ 0)) (gd (decide (0 ≤ r45)) (gd (decide (r45 < (a0.1.length : Int))) (br (a1.1 == 1) (gd (decide ((rd A4 a0.1 r45.toNat).2.1.size + a1.2.2.1.size ≤ A3)) (bd (G9 k a0 ((rd A4 a0.1 r45.toNat).1, ((rd A4 a0.1 r45.toNat).2.1 ++ a1.2.2.1), (rd A4 a0.1 r45.toNat).2.2)) fun r46 => (bd (F7 k r46) fun r47 => (br (!r47) (some (([], ()), false)) (some (r46, true)))))) (br (decide (r45 < 0)) (some (([], ()), false)) (br (a1.1 == 2) (bd (G9 k a0 ((rd A4 a0.1 r45.toNat).1, (rd A4 a0.1 r45.toNat).2.1, (((rd A4 a0.1 r45.toNat).2.1.size : Nat) : Int), ())) fun r48 => (bd (F7 k r48) fun r49 => (br (!r49) (some (([], ()), false)) (some (r48, true))))) (br (a1.1 == 3) (br (decide ((rd A4 a0.1 r45.toNat).2.2.1 < (((rd A4 a0.1 r45.toNat).2.1.size : Nat) : Int))) (some (([], ()), false)) (br (a1.2.2.2.1.toList == a1.2.1.toList) (some (([], ()), false)) (bd (S5 k a1.2.2.2.1) fun r50 => (br (!r50) (some (([], ()), false)) (bd (G1 k a0 a1.2.1) fun r51 => (bd (G9 k r51 (a1.2.2.2.1, (rd A4 a0.1 r45.toNat).2)) fun r52 => (bd (F7 k r52) fun r53 => (br (!r53) (some (([], ()), false)) (some (r52, true)))))))))) (br (a1.1 == 4) (bd (G1 k a0 a1.2.1) fun r54 => (bd (F7 k r54) fun r55 => (br (!r55) (some (([], ()), false)) (some (r54, true))))) (some (([], ()), false))))))))) (br (a1.1 == 1) (gd (decide (ByteArray.empty.size + a1.2.2.1.size ≤ A3)) (bd (G9 k a0 (a1.2.1, (ByteArray.empty ++ a1.2.2.1), 0, ())) fun r56 => (bd (F7 k r56) fun r57 => (br (!r57) (some (([], ()), false)) (some (r56, true)))))) (br (decide (r45 < 0)) (some (([], ()), false)) (br (a1.1 == 2) (bd (G9 k a0 (a1.2.1, ByteArray.empty, (ByteArray.empty.size : Int), ())) fun r58 => (bd (F7 k r58) fun r59 => (br (!r59) (some (([], ()), false)) (some (r58, true))))) (br (a1.1 == 3) (br (decide (0 < (ByteArray.empty.size : Int))) (some (([], ()), false)) (br (a1.2.2.2.1.toList == a1.2.1.toList) (some (([], ()), false)) (bd (S5 k a1.2.2.2.1) fun r60 => (br (!r60) (some (([], ()), false)) (bd (G1 k a0 a1.2.1) fun r61 => (bd (G9 k r61 (a1.2.2.2.1, ByteArray.empty, 0, ())) fun r62 => (bd (F7 k r62) fun r63 => (br (!r63) (some (([], ()), false)) (some (r62, true)))))))))) (br (a1.1 == 4) (bd (G1 k a0 a1.2.1) fun r64 => (bd (F7 k r64) fun r65 => (br (!r65) (some (([], ()), false)) (some (r64, true))))) (some (([], ()), false)))))))))) (bd (Bk3 k a0 a1.2.1) fun r66 => (br (decide (r66 ≥ 0)) (gd (decide (0 ≤ r66)) (gd (decide (r66 < (a0.1.length : Int))) (br (a1.1 == 1) (gd (decide ((rd A4 a0.1 r66.toNat).2.1.size + a1.2.2.1.size ≤ A3)) (bd (G9 k a0 ((rd A4 a0.1 r66.toNat).1, ((rd A4 a0.1 r66.toNat).2.1 ++ a1.2.2.1), (rd A4 a0.1 r66.toNat).2.2)) fun r67 => (bd (F7 k r67) fun r68 => (br (!r68) (some (([], ()), false)) (some (r67, true)))))) (br (decide (r66 < 0)) (some (([], ()), false)) (br (a1.1 == 2) (bd (G9 k a0 ((rd A4 a0.1 r66.toNat).1, (rd A4 a0.1 r66.toNat).2.1, (((rd A4 a0.1 r66.toNat).2.1.size : Nat) : Int), ())) fun r69 => (bd (F7 k r69) fun r70 => (br (!r70) (some (([], ()), false)) (some (r69, true))))) (br (a1.1 == 3) (br (decide ((rd A4 a0.1 r66.toNat).2.2.1 < (((rd A4 a0.1 r66.toNat).2.1.size : Nat) : Int))) (some (([], ()), false)) (br (a1.2.2.2.1.toList == a1.2.1.toList) (some (([], ()), false)) (bd (S5 k a1.2.2.2.1) fun r71 => (br (!r71) (some (([], ()), false)) (bd (G1 k a0 a1.2.1) fun r72 => (bd (G9 k r72 (a1.2.2.2.1, (rd A4 a0.1 r66.toNat).2)) fun r73 => (bd (F7 k r73) fun r74 => (br (!r74) (some (([], ()), false)) (some (r73, true)))))))))) (br (a1.1 == 4) (bd (G1 k a0 a1.2.1) fun r75 => (bd (F7 k r75) fun r76 => (br (!r76) (some (([], ()), false)) (some (r75, true))))) (some (([], ()), false))))))))) (br (a1.1 == 1) (gd (decide (ByteArray.empty.size + a1.2.2.1.size ≤ A3)) (bd (G9 k a0 (a1.2.1, (ByteArray.empty ++ a1.2.2.1), 0, ())) fun r77 => (bd (F7 k r77) fun r78 => (br (!r78) (some (([], ()), false)) (some (r77, true)))))) (br (decide (r66 < 0)) (some (([], ()), false)) (br (a1.1 == 2) (bd (G9 k a0 (a1.2.1, ByteArray.empty, (ByteArray.empty.size : Int), ())) fun r79 => (bd (F7 k r79) fun r80 => (br (!r80) (some (([], ()), false)) (some (r79, true))))) (br (a1.1 == 3) (br (decide (0 < (ByteArray.empty.size : Int))) (some (([], ()), false)) (br (a1.2.2.2.1.toList == a1.2.1.toList) (some (([], ()), false)) (bd (S5 k a1.2.2.2.1) fun r81 => (br (!r81) (some (([], ()), false)) (bd (G1 k a0 a1.2.1) fun r82 => (bd (G9 k r82 (a1.2.2.2.1, ByteArray.empty, 0, ())) fun r83 => (bd (F7 k r83) fun r84 => (br (!r84) (some (([], ()), false)) (some (r83, true)))))))))) (br (a1.1 == 4) (bd (G1 k a0 a1.2.1) fun r85 => (bd (F7 k r85) fun r86 => (br (!r86) (some (([], ()), false)) (some (r85, true))))) (some (([], ()), false)))))))))))))))
noncomputable section
def Bk4 (k : Nat) (L0 : List I4 → Int → List B1 → Option (B3 × Int)) (a1 : List I4) (v1 : Int) (xs2 : List B1) : Option (B3 × Int) := (br (decide (v1 < (a1.length : Int))) (gd (decide (0 ≤ v1)) (gd (decide (v1 < (a1.length : Int))) (bd (b9 k (xs2, ()) (rd Hs2 a1 v1.toNat)) fun r1 => (br (!r1.2) (some ((xs2, ()), v1)) (L0 a1 (B4 (v1 + 1)) r1.1.1))))) (some ((xs2, ()), (a1.length : Int))))
def j5 (k : Nat) : Nat → List I4 → Int → List B1 → Option (B3 × Int)
 | 0, _, _, _ => none
 | n + 1, a1, v1, xs2 => Bk4 k (j5 k n) a1 v1 xs2
def Du4 (k : Nat) (L0 : List I4 → Int → List B1 → Option (B3 × Int)) (a0 : B3) (a1 : List I4) : Option (B3 × Int) := (gd (decide (([] : List B1).length + a0.1.length ≤ A3)) (L0 a1 0 (([] : List B1) ++ a0.1)))
def H0 (k : Nat) (a0 : B3) (a1 : List I4) : Option (B3 × Int) := Du4 k (j5 k k) a0 a1
end
def W6 (k : Nat) (a0 : B0) : Option (Int × B0 × Unit) := (br (decide (a0.2.1 < (a0.1.length : Int))) (gd (decide (0 ≤ a0.2.1)) (gd (decide (a0.2.1 < (a0.1.length : Int))) (some ((Fc8 .i64 (B4 ((Fc8 .i64 (Gx4 .i64 (Int.fdiv (B4 ((B4 (a0.2.2.1 * 6364136223846793005)) + 1442695040888963407)) (2 ^ 33)) (Int.fdiv (B4 ((B4 (a0.2.2.1 * 6364136223846793005)) + 1442695040888963407)) (2 ^ 45))) 255) + (B4 (rd 0 a0.1 a0.2.1.toNat)))) 255), (a0.1, (B4 (a0.2.1 + 1)), (B4 ((B4 (a0.2.2.1 * 6364136223846793005)) + 1442695040888963407)), ()), ())))) (some ((Fc8 .i64 (Gx4 .i64 (Int.fdiv (B4 ((B4 (a0.2.2.1 * 6364136223846793005)) + 1442695040888963407)) (2 ^ 33)) (Int.fdiv (B4 ((B4 (a0.2.2.1 * 6364136223846793005)) + 1442695040888963407)) (2 ^ 45))) 255), (a0.1, a0.2.1, (B4 ((B4 (a0.2.2.1 * 6364136223846793005)) + 1442695040888963407)), ()), ())))
def D0 (k : Nat) (a0 : B0) (a1 : Int) : Option (Int × B0 × Unit) := (br (decide (a1 ≤ 0)) (some (0, a0, ())) (br (decide (a1 ≤ 256)) (bd (W6 k a0) fun r1 => (ng (r1.1 == r1.1 && (a1 : Int) == 0) (some ((Int.tmod r1.1 a1), r1.2.1, ())))) (bd (W6 k a0) fun r2 => (bd (W6 k r2.2.1) fun r3 => (bd (W6 k r3.2.1) fun r4 => (bd (W6 k r4.2.1) fun r5 => (ng ((B4 ((B4 ((B4 ((B4 (r2.1 * 16777216)) + (B4 (r3.1 * 65536)))) + (B4 (r4.1 * 256)))) + r5.1)) == (B4 ((B4 ((B4 ((B4 (r2.1 * 16777216)) + (B4 (r3.1 * 65536)))) + (B4 (r4.1 * 256)))) + r5.1)) && (a1 : Int) == 0) (some ((Int.tmod (B4 ((B4 ((B4 ((B4 (r2.1 * 16777216)) + (B4 (r3.1 * 65536)))) + (B4 (r4.1 * 256)))) + r5.1)) a1), r5.2.1, ())))))))))
noncomputable section
def Bk5 (k : Nat) (L0 : Int → List Int → Option ByteArray) (a0 : Int) (xs1 : List Int) : Option ByteArray := (br (decide (a0 > 127)) (ng (a0 == a0 && (128 : Int) == 0) (gd (decide (xs1.length + [(IntKind.wrap .u8 (B4 ((Int.tmod a0 128) + 128)))].length ≤ A3)) (ng (a0 == a0 && (128 : Int) == 0) (L0 (B4 (Int.tdiv a0 128)) (xs1 ++ [(IntKind.wrap .u8 (B4 ((Int.tmod a0 128) + 128)))]))))) (gd (decide (xs1.length + [(IntKind.wrap .u8 a0)].length ≤ A3)) (some (C0 (xs1 ++ [(IntKind.wrap .u8 a0)])))))
def Aa5 (k : Nat) : Nat → Int → List Int → Option ByteArray
 | 0, _, _ => none
 | n + 1, a0, xs1 => Bk5 k (Aa5 k n) a0 xs1
def Ct6 (k : Nat) (L0 : Int → List Int → Option ByteArray) (a0 : Int) : Option ByteArray := (L0 a0 [])
def N0 (k : Nat) (a0 : Int) : Option ByteArray := Ct6 k (Aa5 k k) a0
end
noncomputable section
def Ao1 (k : Nat) (L0 : List Int → Int → Option Bool) (a0 : List Int) (v1 : Int) : Option Bool := (br (decide (v1 < (a0.length : Int))) (gd (decide (0 ≤ v1)) (gd (decide (v1 < (a0.length : Int))) (bd (E9 k (rd 0 a0 v1.toNat) 0 100) fun r1 => (br (!r1) (some false) (L0 a0 (B4 (v1 + 1))))))) (some ((a0.length : Int) == 5)))
def V2 (k : Nat) : Nat → List Int → Int → Option Bool
 | 0, _, _ => none
 | n + 1, a0, v1 => Ao1 k (V2 k n) a0 v1
def Cn8 (k : Nat) (L0 : List Int → Int → Option Bool) (a0 : List Int) : Option Bool := (L0 a0 0)
def X1 (k : Nat) (a0 : List Int) : Option Bool := Cn8 k (V2 k k) a0
end
def W7 (k : Nat) (a0 : A0) : Option Bool := (bd (E9 k a0.2.1 1 5) fun r1 => (br (!r1) (some false) (bd (E9 k a0.2.2.1 1 5) fun r2 => (br (!r2) (some false) (br (a0.2.1 == 2) (bd (E9 k a0.2.2.2.1 1 5) fun r3 => (br (!r3) (some false) (bd (E9 k a0.2.2.2.2.1 0 3) fun r4 => (br (!r4) (some false) (br (a0.2.1 != 2) (br (a0.2.2.2.1 != 0) (some false) (br (a0.2.2.2.2.1 != 0) (some false) (br (a0.2.1 == 3) (bd (X1 k a0.2.2.2.2.2.1) fun r5 => (br (!r5) (some false) (br (a0.2.1 != 3) (br (decide ((a0.2.2.2.2.2.1.length : Int) > 0)) (some false) (br (a0.2.1 == 4) (some (decide ((a0.2.2.2.2.2.2.1.size : Int) ≤ 24))) (br (a0.2.1 == 5) (some (decide ((a0.2.2.2.2.2.2.1.size : Int) ≤ 24))) (some (a0.2.2.2.2.2.2.1.toList == (⟨#[]⟩ : ByteArray).toList))))) (br (a0.2.1 == 4) (some (decide ((a0.2.2.2.2.2.2.1.size : Int) ≤ 24))) (br (a0.2.1 == 5) (some (decide ((a0.2.2.2.2.2.2.1.size : Int) ≤ 24))) (some (a0.2.2.2.2.2.2.1.toList == (⟨#[]⟩ : ByteArray).toList))))))) (br (a0.2.1 != 3) (br (decide ((a0.2.2.2.2.2.1.length : Int) > 0)) (some false) (br (a0.2.1 == 4) (some (decide ((a0.2.2.2.2.2.2.1.size : Int) ≤ 24))) (br (a0.2.1 == 5) (some (decide ((a0.2.2.2.2.2.2.1.size : Int) ≤ 24))) (some (a0.2.2.2.2.2.2.1.toList == (⟨#[]⟩ : ByteArray).toList))))) (br (a0.2.1 == 4) (some (decide ((a0.2.2.2.2.2.2.1.size : Int) ≤ 24))) (br (a0.2.1 == 5) (some (decide ((a0.2.2.2.2.2.2.1.size : Int) ≤ 24))) (some (a0.2.2.2.2.2.2.1.toList == (⟨#[]⟩ : ByteArray).toList)))))))) (br (a0.2.1 == 3) (bd (X1 k a0.2.2.2.2.2.1) fun r6 => (br (!r6) (some false) (br (a0.2.1 != 3) (br (decide ((a0.2.2.2.2.2.1.length : Int) > 0)) (some false) (br (a0.2.1 == 4) (some (decide ((a0.2.2.2.2.2.2.1.size : Int) ≤ 24))) (br (a0.2.1 == 5) (some (decide ((a0.2.2.2.2.2.2.1.size : Int) ≤ 24))) (some (a0.2.2.2.2.2.2.1.toList == (⟨#[]⟩ : ByteArray).toList))))) (br (a0.2.1 == 4) (some (decide ((a0.2.2.2.2.2.2.1.size : Int) ≤ 24))) (br (a0.2.1 == 5) (some (decide ((a0.2.2.2.2.2.2.1.size : Int) ≤ 24))) (some (a0.2.2.2.2.2.2.1.toList == (⟨#[]⟩ : ByteArray).toList))))))) (br (a0.2.1 != 3) (br (decide ((a0.2.2.2.2.2.1.length : Int) > 0)) (some false) (br (a0.2.1 == 4) (some (decide ((a0.2.2.2.2.2.2.1.size : Int) ≤ 24))) (br (a0.2.1 == 5) (some (decide ((a0.2.2.2.2.2.2.1.size : Int) ≤ 24))) (some (a0.2.2.2.2.2.2.1.toList == (⟨#[]⟩ : ByteArray).toList))))) (br (a0.2.1 == 4) (some (decide ((a0.2.2.2.2.2.2.1.size : Int) ≤ 24))) (br (a0.2.1 == 5) (some (decide ((a0.2.2.2.2.2.2.1.size : Int) ≤ 24))) (some (a0.2.2.2.2.2.2.1.toList == (⟨#[]⟩ : ByteArray).toList))))))))))) (br (a0.2.1 != 2) (br (a0.2.2.2.1 != 0) (some false) (br (a0.2.2.2.2.1 != 0) (some false) (br (a0.2.1 == 3) (bd (X1 k a0.2.2.2.2.2.1) fun r7 => (br (!r7) (some false) (br (a0.2.1 != 3) (br (decide ((a0.2.2.2.2.2.1.length : Int) > 0)) (some false) (br (a0.2.1 == 4) (some (decide ((a0.2.2.2.2.2.2.1.size : Int) ≤ 24))) (br (a0.2.1 == 5) (some (decide ((a0.2.2.2.2.2.2.1.size : Int) ≤ 24))) (some (a0.2.2.2.2.2.2.1.toList == (⟨#[]⟩ : ByteArray).toList))))) (br (a0.2.1 == 4) (some (decide ((a0.2.2.2.2.2.2.1.size : Int) ≤ 24))) (br (a0.2.1 == 5) (some (decide ((a0.2.2.2.2.2.2.1.size : Int) ≤ 24))) (some (a0.2.2.2.2.2.2.1.toList == (⟨#[]⟩ : ByteArray).toList))))))) (br (a0.2.1 != 3) (br (decide ((a0.2.2.2.2.2.1.length : Int) > 0)) (some false) (br (a0.2.1 == 4) (some (decide ((a0.2.2.2.2.2.2.1.size : Int) ≤ 24))) (br (a0.2.1 == 5) (some (decide ((a0.2.2.2.2.2.2.1.size : Int) ≤ 24))) (some (a0.2.2.2.2.2.2.1.toList == (⟨#[]⟩ : ByteArray).toList))))) (br (a0.2.1 == 4) (some (decide ((a0.2.2.2.2.2.2.1.size : Int) ≤ 24))) (br (a0.2.1 == 5) (some (decide ((a0.2.2.2.2.2.2.1.size : Int) ≤ 24))) (some (a0.2.2.2.2.2.2.1.toList == (⟨#[]⟩ : ByteArray).toList)))))))) (br (a0.2.1 == 3) (bd (X1 k a0.2.2.2.2.2.1) fun r8 => (br (!r8) (some false) (br (a0.2.1 != 3) (br (decide ((a0.2.2.2.2.2.1.length : Int) > 0)) (some false) (br (a0.2.1 == 4) (some (decide ((a0.2.2.2.2.2.2.1.size : Int) ≤ 24))) (br (a0.2.1 == 5) (some (decide ((a0.2.2.2.2.2.2.1.size : Int) ≤ 24))) (some (a0.2.2.2.2.2.2.1.toList == (⟨#[]⟩ : ByteArray).toList))))) (br (a0.2.1 == 4) (some (decide ((a0.2.2.2.2.2.2.1.size : Int) ≤ 24))) (br (a0.2.1 == 5) (some (decide ((a0.2.2.2.2.2.2.1.size : Int) ≤ 24))) (some (a0.2.2.2.2.2.2.1.toList == (⟨#[]⟩ : ByteArray).toList))))))) (br (a0.2.1 != 3) (br (decide ((a0.2.2.2.2.2.1.length : Int) > 0)) (some false) (br (a0.2.1 == 4) (some (decide ((a0.2.2.2.2.2.2.1.size : Int) ≤ 24))) (br (a0.2.1 == 5) (some (decide ((a0.2.2.2.2.2.2.1.size : Int) ≤ 24))) (some (a0.2.2.2.2.2.2.1.toList == (⟨#[]⟩ : ByteArray).toList))))) (br (a0.2.1 == 4) (some (decide ((a0.2.2.2.2.2.2.1.size : Int) ≤ 24))) (br (a0.2.1 == 5) (some (decide ((a0.2.2.2.2.2.2.1.size : Int) ≤ 24))) (some (a0.2.2.2.2.2.2.1.toList == (⟨#[]⟩ : ByteArray).toList))))))))))))
noncomputable section
def A77 (k : Nat) (L0 : Int → A0 → Option Bool) (v1 : Int) (a0 : A0) : Option Bool := (br (decide (v1 < (a0.2.2.2.2.2.2.2.1.length : Int))) (gd (decide (0 ≤ v1)) (gd (decide (v1 < (a0.2.2.2.2.2.2.2.1.length : Int))) (bd (E9 k (rd 0 a0.2.2.2.2.2.2.2.1 v1.toNat) 1 1000000) fun r4 => (br (!r4) (some false) (gd (decide (0 ≤ v1)) (gd (decide (v1 < (a0.2.2.2.2.2.2.2.1.length : Int))) (br ((rd 0 a0.2.2.2.2.2.2.2.1 v1.toNat) == a0.1) (some false) (br (decide (v1 > 0)) (gd (decide (0 ≤ (B4 (v1 - 1)))) (gd (decide ((B4 (v1 - 1)) < (a0.2.2.2.2.2.2.2.1.length : Int))) (gd (decide (0 ≤ v1)) (gd (decide (v1 < (a0.2.2.2.2.2.2.2.1.length : Int))) (br (decide ((rd 0 a0.2.2.2.2.2.2.2.1 (B4 (v1 - 1)).toNat) ≥ (rd 0 a0.2.2.2.2.2.2.2.1 v1.toNat))) (some false) (L0 (B4 (v1 + 1)) a0)))))) (L0 (B4 (v1 + 1)) a0))))))))) (some true))
def T7 (k : Nat) : Nat → Int → A0 → Option Bool
 | 0, _, _ => none
 | n + 1, v1, a0 => A77 k (T7 k n) v1 a0
def Ca7 (k : Nat) (L0 : Int → A0 → Option Bool) (a0 : A0) : Option Bool := (bd (W7 k a0) fun r1 => (br (!r1) (some false) (bd (E9 k a0.1 1 1000000) fun r2 => (br (!r2) (some false) (bd (E9 k a0.2.2.2.2.2.2.2.2.1 0 1000000) fun r3 => (br (!r3) (some false) (br (decide ((a0.2.2.2.2.2.2.2.1.length : Int) > 3)) (some false) (br (!((a0.2.1 == 1) == ((a0.2.2.2.2.2.2.2.1.length : Int) == 0))) (some false) (L0 0 a0)))))))))
def J8 (k : Nat) (a0 : A0) : Option Bool := Ca7 k (T7 k k) a0
end
noncomputable section
def Bk6 (k : Nat) (L0 : Int → Int → A8 → Option Int) (a1 : Int) (v1 : Int) (a0 : A8) : Option Int := (br (decide (v1 < (a0.1.length : Int))) (gd (decide (0 ≤ v1)) (gd (decide (v1 < (a0.1.length : Int))) (br ((rd D3 a0.1 v1.toNat).1 == a1) (some v1) (L0 a1 (B4 (v1 + 1)) a0)))) (some (-1)))
def Aa6 (k : Nat) : Nat → Int → Int → A8 → Option Int
 | 0, _, _, _ => none
 | n + 1, a1, v1, a0 => Bk6 k (Aa6 k n) a1 v1 a0
def Du5 (k : Nat) (L0 : Int → Int → A8 → Option Int) (a0 : A8) (a1 : Int) : Option Int := (L0 a1 0 a0)
def Bd6 (k : Nat) (a0 : A8) (a1 : Int) : Option Int := Du5 k (Aa6 k k) a0 a1
end
noncomputable section
def By9 (k : Nat) (L0 : List Int → Int → Int → A8 → Option Int) (a1 : List Int) (v1 : Int) (v2 : Int) (a0 : A8) : Option Int := (br (decide (v2 < (a1.length : Int))) (gd (decide (0 ≤ v2)) (gd (decide (v2 < (a1.length : Int))) (bd (Bd6 k a0 (rd 0 a1 v2.toNat)) fun r1 => (br (decide (r1 ≥ 0)) (gd (decide (0 ≤ r1)) (gd (decide (r1 < (a0.1.length : Int))) (br (decide ((rd D3 a0.1 r1.toNat).2.2.2.2.2.2.2.2.1 > v1)) (gd (decide (0 ≤ r1)) (gd (decide (r1 < (a0.1.length : Int))) (L0 a1 (rd D3 a0.1 r1.toNat).2.2.2.2.2.2.2.2.1 (B4 (v2 + 1)) a0))) (L0 a1 v1 (B4 (v2 + 1)) a0)))) (L0 a1 v1 (B4 (v2 + 1)) a0))))) (br (decide (v1 > 1000000)) (some 1000001) (some (B4 (v1 + 1)))))
def l7 (k : Nat) : Nat → List Int → Int → Int → A8 → Option Int
 | 0, _, _, _, _ => none
 | n + 1, a1, v1, v2, a0 => By9 k (l7 k n) a1 v1 v2 a0
def De2 (k : Nat) (L0 : List Int → Int → Int → A8 → Option Int) (a0 : A8) (a1 : List Int) : Option Int := (L0 a1 (-1) 0 a0)
def J9 (k : Nat) (a0 : A8) (a1 : List Int) : Option Int := De2 k (l7 k k) a0 a1
end
noncomputable section
def A78 (k : Nat) (L0 : List A0 → Int → Int → Option (A0 × Bool)) (a0 : List A0) (a1 : Int) (v1 : Int) : Option (A0 × Bool) := (br (decide (v1 < (a0.length : Int))) (gd (decide (0 ≤ v1)) (gd (decide (v1 < (a0.length : Int))) (br ((rd D3 a0 v1.toNat).1 == a1) (gd (decide (0 ≤ v1)) (gd (decide (v1 < (a0.length : Int))) (some ((rd D3 a0 v1.toNat), true)))) (L0 a0 a1 (B4 (v1 + 1)))))) (some ((0, 0, 0, 0, 0, [], ByteArray.empty, [], 0, ()), false)))
def l8 (k : Nat) : Nat → List A0 → Int → Int → Option (A0 × Bool)
 | 0, _, _, _ => none
 | n + 1, a0, a1, v1 => A78 k (l8 k n) a0 a1 v1
def De3 (k : Nat) (L0 : List A0 → Int → Int → Option (A0 × Bool)) (a0 : List A0) (a1 : Int) : Option (A0 × Bool) := (L0 a0 a1 0)
def M9 (k : Nat) (a0 : List A0) (a1 : Int) : Option (A0 × Bool) := De3 k (l8 k k) a0 a1
end
noncomputable section
def Dq5 (k : Nat) (L0 : List A1 → Int → Int → Option Int) (a0 : List A1) (a1 : Int) (v1 : Int) : Option Int := (br (decide (v1 < (a0.length : Int))) (gd (decide (0 ≤ v1)) (gd (decide (v1 < (a0.length : Int))) (br ((rd J2 a0 v1.toNat).1 == a1) (gd (decide (0 ≤ v1)) (gd (decide (v1 < (a0.length : Int))) (some (rd J2 a0 v1.toNat).2.1))) (L0 a0 a1 (B4 (v1 + 1)))))) (some 0))
def Bz0 (k : Nat) : Nat → List A1 → Int → Int → Option Int
 | 0, _, _, _ => none
 | n + 1, a0, a1, v1 => Dq5 k (Bz0 k n) a0 a1 v1
def Hc2 (k : Nat) (L0 : List A1 → Int → Int → Option Int) (a0 : List A1) (a1 : Int) : Option Int := (L0 a0 a1 0)
def Cl6 (k : Nat) (a0 : List A1) (a1 : Int) : Option Int := Hc2 k (Bz0 k k) a0 a1
end
def S9 (k : Nat) (a0 : List A0) (a1 : List A1) (a2 : Int) : Option Int := (bd (E9 k a2 1 5) fun r1 => (br (!r1) (some 0) (bd (Cl6 k a1 (B4 (10 + a2))) fun r2 => (bd (M9 k a0 r2) fun r3 => (br (!r3.2) (some 0) (br (r3.1.2.1 != 2) (some 0) (br (r3.1.2.2.2.1 != a2) (some 0) (some r3.1.2.2.2.2.1))))))))
def W8 (k : Nat) (a0 : List A0) (a1 : List A1) (a2 : Int) : Option Int := (bd (E9 k a2 1 5) fun r1 => (br (!r1) (some 0) (bd (Cl6 k a1 2) fun r2 => (bd (M9 k a0 r2) fun r3 => (br r3.2 (br (r3.1.2.1 == 3) (br ((r3.1.2.2.2.2.2.1.length : Int) == 5) (gd (decide (0 ≤ (B4 (a2 - 1)))) (gd (decide ((B4 (a2 - 1)) < (r3.1.2.2.2.2.2.1.length : Int))) (some (rd 0 r3.1.2.2.2.2.2.1 (B4 (a2 - 1)).toNat)))) (bd (Cl6 k a1 1) fun r4 => (bd (M9 k a0 r4) fun r5 => (br r5.2 (br (r5.1.2.1 == 1) (br (r5.1.2.2.1 == a2) (some 100) (some 0)) (some 0)) (some 0))))) (bd (Cl6 k a1 1) fun r6 => (bd (M9 k a0 r6) fun r7 => (br r7.2 (br (r7.1.2.1 == 1) (br (r7.1.2.2.1 == a2) (some 100) (some 0)) (some 0)) (some 0))))) (bd (Cl6 k a1 1) fun r8 => (bd (M9 k a0 r8) fun r9 => (br r9.2 (br (r9.1.2.1 == 1) (br (r9.1.2.2.1 == a2) (some 100) (some 0)) (some 0)) (some 0)))))))))
noncomputable section
def Az3 (k : Nat) (L0 : List A1 → Int → Option Bool) (a0 : List A1) (v1 : Int) : Option Bool := (br (decide (v1 < (a0.length : Int))) (gd (decide (0 ≤ v1)) (gd (decide (v1 < (a0.length : Int))) (br (decide ((rd J2 a0 v1.toNat).1 > 10)) (some false) (L0 a0 (B4 (v1 + 1)))))) (some true))
def Y6 (k : Nat) : Nat → List A1 → Int → Option Bool
 | 0, _, _ => none
 | n + 1, a0, v1 => Az3 k (Y6 k n) a0 v1
def Cz1 (k : Nat) (L0 : List A1 → Int → Option Bool) (a0 : List A1) : Option Bool := (L0 a0 0)
def Bd7 (k : Nat) (a0 : List A1) : Option Bool := Cz1 k (Y6 k k) a0
end
def Bt0 (k : Nat) (a0 : List A0) (a1 : List A1) (a2 : A0) : Option Bool := (bd (S9 k a0 a1 a2.2.2.2.1) fun r1 => (br (a2.2.2.2.2.1 == 2) (bd (Cl6 k a1 1) fun r2 => (bd (M9 k a0 r2) fun r3 => (br r3.2 (br (r3.1.2.2.1 == a2.2.2.1) (bd (Bd7 k a1) fun r4 => (br (r1 == 1) (some true) (br (r1 == 2) (some true) (some r4)))) (br (r1 == 1) (some true) (br (r1 == 2) (some true) (some false)))) (br (r1 == 1) (some true) (br (r1 == 2) (some true) (some false)))))) (br (a2.2.2.2.2.1 == 0) (br (r1 == 1) (some true) (some (r1 == 2))) (some false))))
def Am0 (k : Nat) (a0 : List A0) (a1 : List A1) (a2 : A0) : Option Bool := (br (a2.2.2.2.1 == a2.2.2.1) (bd (Bt0 k a0 a1 a2) fun r1 => (some r1)) (bd (S9 k a0 a1 a2.2.2.2.1) fun r2 => (bd (W8 k a0 a1 a2.2.2.1) fun r3 => (br (decide (r3 ≥ 50)) (bd (W8 k a0 a1 a2.2.2.2.1) fun r4 => (bd (S9 k a0 a1 a2.2.2.1) fun r5 => (br (r5 != 2) (some false) (br (a2.2.2.2.2.1 == 1) (some (r2 == 0)) (br (a2.2.2.2.2.1 == 0) (br (r2 == 1) (some (decide (r3 > r4))) (br (r2 == 2) (some (decide (r3 > r4))) (some false))) (br (a2.2.2.2.2.1 == 3) (br (r2 != 3) (some (decide (r3 > r4))) (some false)) (some false))))))) (bd (S9 k a0 a1 a2.2.2.1) fun r6 => (br (r6 != 2) (some false) (br (a2.2.2.2.2.1 == 1) (some (r2 == 0)) (br (a2.2.2.2.2.1 == 0) (br (r2 == 1) (some false) (br (r2 == 2) (some false) (some false))) (br (a2.2.2.2.2.1 == 3) (br (r2 != 3) (some false) (some false)) (some false))))))))))
noncomputable section
def Bn9 (k : Nat) (L0 : List A0 → List A1 → Int → Int → A0 → Option Bool) (a0 : List A0) (a1 : List A1) (r1 : Int) (v1 : Int) (a2 : A0) : Option Bool := (br (decide (v1 ≤ 5)) (bd (W8 k a0 a1 v1) fun r3 => (gd (decide (0 ≤ (B4 (v1 - 1)))) (gd (decide ((B4 (v1 - 1)) < (a2.2.2.2.2.2.1.length : Int))) (br ((rd 0 a2.2.2.2.2.2.1 (B4 (v1 - 1)).toNat) == r3) (L0 a0 a1 r1 (B4 (v1 + 1)) a2) (br (decide ((rd 0 a2.2.2.2.2.2.1 (B4 (v1 - 1)).toNat) > r1)) (some false) (br (decide (r3 ≥ r1)) (br (v1 != a2.2.2.1) (some false) (L0 a0 a1 r1 (B4 (v1 + 1)) a2)) (L0 a0 a1 r1 (B4 (v1 + 1)) a2))))))) (some true))
def U4 (k : Nat) : Nat → List A0 → List A1 → Int → Int → A0 → Option Bool
 | 0, _, _, _, _, _ => none
 | n + 1, a0, a1, r1, v1, a2 => Bn9 k (U4 k n) a0 a1 r1 v1 a2
def Cz2 (k : Nat) (L0 : List A0 → List A1 → Int → Int → A0 → Option Bool) (a0 : List A0) (a1 : List A1) (a2 : A0) : Option Bool := (bd (W8 k a0 a1 a2.2.2.1) fun r1 => (bd (S9 k a0 a1 a2.2.2.1) fun r2 => (br (r2 != 2) (some false) (br (decide (r1 < 50)) (some false) (L0 a0 a1 r1 1 a2)))))
def Bd8 (k : Nat) (a0 : List A0) (a1 : List A1) (a2 : A0) : Option Bool := Cz2 k (U4 k k) a0 a1 a2
end
def Av5 (k : Nat) (a0 : List A0) (a1 : List A1) (a2 : A0) : Option Bool := (bd (J8 k a2) fun r1 => (br (!r1) (some false) (br (a2.2.1 == 1) (some ((a1.length : Int) == 0)) (bd (Cl6 k a1 1) fun r2 => (bd (M9 k a0 r2) fun r3 => (br (!r3.2) (some false) (br (r3.1.2.1 != 1) (some false) (br (a2.2.1 == 2) (bd (Am0 k a0 a1 a2) fun r4 => (some r4)) (br (a2.2.1 == 3) (bd (Bd8 k a0 a1 a2) fun r5 => (some r5)) (br (a2.2.1 == 4) (bd (S9 k a0 a1 a2.2.2.1) fun r6 => (br (r6 == 2) (bd (W8 k a0 a1 a2.2.2.1) fun r7 => (some (decide (r7 ≥ 50)))) (some false))) (bd (S9 k a0 a1 a2.2.2.1) fun r8 => (some (r8 == 2)))))))))))))
def A79 (k : Nat) (a0 : A0) : Option Int := (br (a0.2.1 == 1) (some 1) (br (a0.2.1 == 3) (some 2) (br (a0.2.1 == 4) (some 3) (br (a0.2.1 == 2) (bd (E9 k a0.2.2.2.1 1 5) fun r1 => (br r1 (some (B4 (10 + a0.2.2.2.1))) (some 0))) (some 0)))))
def Bt1 (k : Nat) (a0 : Int) : Option Bool := (bd (E9 k a0 1 3) fun r1 => (br r1 (some true) (bd (E9 k a0 11 15) fun r2 => (some r2))))
noncomputable section
def Bz1 (k : Nat) (L0 : List A1 → Int → Option Bool) (a0 : List A1) (v1 : Int) : Option Bool := (br (decide (v1 < (a0.length : Int))) (gd (decide (0 ≤ v1)) (gd (decide (v1 < (a0.length : Int))) (bd (Bt1 k (rd J2 a0 v1.toNat).1) fun r1 => (br (!r1) (some false) (gd (decide (0 ≤ v1)) (gd (decide (v1 < (a0.length : Int))) (bd (E9 k (rd J2 a0 v1.toNat).2.1 1 1000000) fun r2 => (br (!r2) (some false) (br (decide (v1 > 0)) (gd (decide (0 ≤ (B4 (v1 - 1)))) (gd (decide ((B4 (v1 - 1)) < (a0.length : Int))) (gd (decide (0 ≤ v1)) (gd (decide (v1 < (a0.length : Int))) (br (decide ((rd J2 a0 (B4 (v1 - 1)).toNat).1 ≥ (rd J2 a0 v1.toNat).1)) (some false) (L0 a0 (B4 (v1 + 1)))))))) (L0 a0 (B4 (v1 + 1)))))))))))) (some true))
def X2 (k : Nat) : Nat → List A1 → Int → Option Bool
 | 0, _, _ => none
 | n + 1, a0, v1 => Bz1 k (X2 k n) a0 v1
def De4 (k : Nat) (L0 : List A1 → Int → Option Bool) (a0 : List A1) : Option Bool := (br (decide ((a0.length : Int) > 8)) (some false) (L0 a0 0))
def Bb8 (k : Nat) (a0 : List A1) : Option Bool := De4 k (X2 k k) a0
end
noncomputable section
def Du6 (k : Nat) (L1 : List A1 → Int → Int → List A1 → Option (List A1)) (a0 : List A1) (a1 : Int) (v3 : Int) (xs4 : List A1) : Option (List A1) := (br (decide (v3 < (a0.length : Int))) (gd (decide (0 ≤ v3)) (gd (decide (v3 < (a0.length : Int))) (br (decide ((rd J2 a0 v3.toNat).1 > a1)) (gd (decide (0 ≤ v3)) (gd (decide (v3 < (a0.length : Int))) (gd (decide (xs4.length + ([(rd J2 a0 v3.toNat)] : List A1).length ≤ A3)) (L1 a0 a1 (B4 (v3 + 1)) (xs4 ++ ([(rd J2 a0 v3.toNat)] : List A1)))))) (L1 a0 a1 (B4 (v3 + 1)) xs4)))) (bd (Bb8 k a0) fun r1 => (br (!r1) (gd (decide (([] : List A1).length + a0.length ≤ A3)) (some (([] : List A1) ++ a0))) (bd (Bb8 k xs4) fun r2 => (br (!r2) (gd (decide (([] : List A1).length + a0.length ≤ A3)) (some (([] : List A1) ++ a0))) (some xs4))))))
def Du7 (k : Nat) (L0 : List A1 → Int → Int → Int → List A1 → Option (List A1)) (L1 : List A1 → Int → Int → List A1 → Option (List A1)) (a0 : List A1) (a1 : Int) (a2 : Int) (v1 : Int) (xs2 : List A1) : Option (List A1) := (br (decide (v1 < (a0.length : Int))) (gd (decide (0 ≤ v1)) (gd (decide (v1 < (a0.length : Int))) (br (decide ((rd J2 a0 v1.toNat).1 < a1)) (gd (decide (0 ≤ v1)) (gd (decide (v1 < (a0.length : Int))) (gd (decide (xs2.length + ([(rd J2 a0 v1.toNat)] : List A1).length ≤ A3)) (L0 a0 a1 a2 (B4 (v1 + 1)) (xs2 ++ ([(rd J2 a0 v1.toNat)] : List A1)))))) (L0 a0 a1 a2 (B4 (v1 + 1)) xs2)))) (gd (decide (xs2.length + ([(a1, a2, ())] : List A1).length ≤ A3)) (L1 a0 a1 0 (xs2 ++ ([(a1, a2, ())] : List A1)))))
def Ca8 (k : Nat) : Nat → List A1 → Int → Int → List A1 → Option (List A1)
 | 0, _, _, _, _ => none
 | n + 1, a0, a1, v3, xs4 => Du6 k (Ca8 k n) a0 a1 v3 xs4
def Bd9 (k : Nat) : Nat → List A1 → Int → Int → Int → List A1 → Option (List A1)
 | 0, _, _, _, _, _ => none
 | n + 1, a0, a1, a2, v1, xs2 => Du7 k (Bd9 k n) (Ca8 k n) a0 a1 a2 v1 xs2
def Gu8 (k : Nat) (L0 : List A1 → Int → Int → Int → List A1 → Option (List A1)) (a0 : List A1) (a1 : Int) (a2 : Int) : Option (List A1) := (L0 a0 a1 a2 0 ([] : List A1))
def Em5 (k : Nat) (a0 : List A1) (a1 : Int) (a2 : Int) : Option (List A1) := Gu8 k (Bd9 k k) a0 a1 a2
end
noncomputable section
def A80 (k : Nat) (L1 : List (List A1) → Int → Bool → Int → List Int → Option (List Int)) (a0 : List (List A1)) (v1 : Int) (xs2 : List Int) : Option (List Int) := (br (decide (v1 ≤ 15)) (L1 a0 v1 false 0 xs2) (some xs2))
def A81 (k : Nat) (L2 : List (List A1) → Int → Bool → Int → Int → List Int → Option (List Int)) (L0 : List (List A1) → Int → List Int → Option (List Int)) (a0 : List (List A1)) (v1 : Int) (v3 : Bool) (v4 : Int) (xs2 : List Int) : Option (List Int) := (br (decide (v4 < (a0.length : Int))) (L2 a0 v1 v3 v4 0 xs2) (br v3 (gd (decide (xs2.length + [v1].length ≤ A3)) (L0 a0 (B4 (v1 + 1)) (xs2 ++ [v1]))) (L0 a0 (B4 (v1 + 1)) xs2)))
def A82 (k : Nat) (L2 : List (List A1) → Int → Bool → Int → Int → List Int → Option (List Int)) (L1 : List (List A1) → Int → Bool → Int → List Int → Option (List Int)) (a0 : List (List A1)) (v1 : Int) (v5 : Bool) (v4 : Int) (v6 : Int) (xs2 : List Int) : Option (List Int) := (gd (decide (0 ≤ v4)) (gd (decide (v4 < (a0.length : Int))) (br (decide (v6 < (((rd [] a0 v4.toNat).length : Nat) : Int))) (br v5 (L2 a0 v1 true v4 (B4 (v6 + 1)) xs2) (gd (decide (0 ≤ v4)) (gd (decide (v4 < (a0.length : Int))) (gd (decide (0 ≤ v6)) (gd (decide (v6 < (((rd [] a0 v4.toNat).length : Nat) : Int))) (L2 a0 v1 ((rd J2 (rd [] a0 v4.toNat) v6.toNat).1 == v1) v4 (B4 (v6 + 1)) xs2)))))) (L1 a0 v1 v5 (B4 (v4 + 1)) xs2))))
def X3 (k : Nat) : Nat → (List (List A1) → Int → List Int → Option (List Int)) × (List (List A1) → Int → Bool → Int → List Int → Option (List Int)) × (List (List A1) → Int → Bool → Int → Int → List Int → Option (List Int))
 | 0 => (fun _ _ _ => none, fun _ _ _ _ _ => none, fun _ _ _ _ _ _ => none)
 | n + 1 => (A80 k (X3 k n).2.1, A81 k (X3 k n).2.2 (X3 k n).1, A82 k (X3 k n).2.2 (X3 k n).2.1)
def l9 (k : Nat) (n : Nat) : List (List A1) → Int → List Int → Option (List Int) := (X3 k n).1
def Ao2 (k : Nat) (n : Nat) : List (List A1) → Int → Bool → Int → List Int → Option (List Int) := (X3 k n).2.1
def Ao3 (k : Nat) (n : Nat) : List (List A1) → Int → Bool → Int → Int → List Int → Option (List Int) := (X3 k n).2.2
theorem Et2 (k : Nat) (n : Nat) (a0 : List (List A1)) (v1 : Int) (xs2 : List Int) : l9 k (n + 1) a0 v1 xs2 = A80 k (Ao2 k n) a0 v1 xs2 := rfl
theorem Et3 (k : Nat) (n : Nat) (a0 : List (List A1)) (v1 : Int) (v3 : Bool) (v4 : Int) (xs2 : List Int) : Ao2 k (n + 1) a0 v1 v3 v4 xs2 = A81 k (Ao3 k n) (l9 k n) a0 v1 v3 v4 xs2 := rfl
theorem Et4 (k : Nat) (n : Nat) (a0 : List (List A1)) (v1 : Int) (v5 : Bool) (v4 : Int) (v6 : Int) (xs2 : List Int) : Ao3 k (n + 1) a0 v1 v5 v4 v6 xs2 = A82 k (Ao3 k n) (Ao2 k n) a0 v1 v5 v4 v6 xs2 := rfl
def De5 (k : Nat) (L0 : List (List A1) → Int → List Int → Option (List Int)) (a0 : List (List A1)) : Option (List Int) := (L0 a0 0 [])
def Bb9 (k : Nat) (a0 : List (List A1)) : Option (List Int) := De5 k (l9 k k) a0
end
noncomputable section
def Bo0 (k : Nat) (L0 : List (List A1) → Int → Int → Option Bool) (a0 : List (List A1)) (a1 : Int) (v1 : Int) : Option Bool := (br (decide (v1 < (a0.length : Int))) (gd (decide (0 ≤ v1)) (gd (decide (v1 < (a0.length : Int))) (bd (Cl6 k (rd [] a0 v1.toNat) a1) fun r1 => (gd (decide (0 < (a0.length : Int))) (bd (Cl6 k (rd [] a0 0) a1) fun r2 => (br (r1 != r2) (some false) (L0 a0 a1 (B4 (v1 + 1))))))))) (some true))
def Y7 (k : Nat) : Nat → List (List A1) → Int → Int → Option Bool
 | 0, _, _, _ => none
 | n + 1, a0, a1, v1 => Bo0 k (Y7 k n) a0 a1 v1
def Cz3 (k : Nat) (L0 : List (List A1) → Int → Int → Option Bool) (a0 : List (List A1)) (a1 : Int) : Option Bool := (L0 a0 a1 1)
def Av6 (k : Nat) (a0 : List (List A1)) (a1 : Int) : Option Bool := Cz3 k (Y7 k k) a0 a1
end
noncomputable section
def Ca9 (k : Nat) (L0 : List (List A1) → Int → List A1 → List Int → Option (List A1)) (a0 : List (List A1)) (v1 : Int) (xs2 : List A1) (r1 : List Int) : Option (List A1) := (br (decide (v1 < (r1.length : Int))) (gd (decide (0 ≤ v1)) (gd (decide (v1 < (r1.length : Int))) (bd (Av6 k a0 (rd 0 r1 v1.toNat)) fun r2 => (br r2 (gd (decide (0 ≤ v1)) (gd (decide (v1 < (r1.length : Int))) (gd (decide (0 < (a0.length : Int))) (gd (decide (0 ≤ v1)) (gd (decide (v1 < (r1.length : Int))) (bd (Cl6 k (rd [] a0 0) (rd 0 r1 v1.toNat)) fun r3 => (gd (decide (xs2.length + ([((rd 0 r1 v1.toNat), r3, ())] : List A1).length ≤ A3)) (L0 a0 (B4 (v1 + 1)) (xs2 ++ ([((rd 0 r1 v1.toNat), r3, ())] : List A1)) r1)))))))) (L0 a0 (B4 (v1 + 1)) xs2 r1))))) (some xs2))
def Aa7 (k : Nat) : Nat → List (List A1) → Int → List A1 → List Int → Option (List A1)
 | 0, _, _, _, _ => none
 | n + 1, a0, v1, xs2, r1 => Ca9 k (Aa7 k n) a0 v1 xs2 r1
def Du8 (k : Nat) (L0 : List (List A1) → Int → List A1 → List Int → Option (List A1)) (a0 : List (List A1)) : Option (List A1) := (bd (Bb9 k a0) fun r1 => (L0 a0 0 ([] : List A1) r1))
def Bt2 (k : Nat) (a0 : List (List A1)) : Option (List A1) := Du8 k (Aa7 k k) a0
end
noncomputable section
def Ct7 (k : Nat) (L0 : List (List A1) → Int → List Int → List Int → Option (List Int)) (a0 : List (List A1)) (v1 : Int) (xs2 : List Int) (r1 : List Int) : Option (List Int) := (br (decide (v1 < (r1.length : Int))) (gd (decide (0 ≤ v1)) (gd (decide (v1 < (r1.length : Int))) (bd (Av6 k a0 (rd 0 r1 v1.toNat)) fun r2 => (br (!r2) (gd (decide (0 ≤ v1)) (gd (decide (v1 < (r1.length : Int))) (gd (decide (xs2.length + [(rd 0 r1 v1.toNat)].length ≤ A3)) (L0 a0 (B4 (v1 + 1)) (xs2 ++ [(rd 0 r1 v1.toNat)]) r1)))) (L0 a0 (B4 (v1 + 1)) xs2 r1))))) (some xs2))
def Ak7 (k : Nat) : Nat → List (List A1) → Int → List Int → List Int → Option (List Int)
 | 0, _, _, _, _ => none
 | n + 1, a0, v1, xs2, r1 => Ct7 k (Ak7 k n) a0 v1 xs2 r1
def Em6 (k : Nat) (L0 : List (List A1) → Int → List Int → List Int → Option (List Int)) (a0 : List (List A1)) : Option (List Int) := (bd (Bb9 k a0) fun r1 => (L0 a0 0 [] r1))
def Cz4 (k : Nat) (a0 : List (List A1)) : Option (List Int) := Em6 k (Ak7 k k) a0
end
noncomputable section
def Ct8 (k : Nat) (L0 : List Int → Int → Int → Option Bool) (a0 : List Int) (a1 : Int) (v1 : Int) : Option Bool := (br (decide (v1 < (a0.length : Int))) (gd (decide (0 ≤ v1)) (gd (decide (v1 < (a0.length : Int))) (br ((rd 0 a0 v1.toNat) == a1) (some true) (L0 a0 a1 (B4 (v1 + 1)))))) (some false))
def Ak8 (k : Nat) : Nat → List Int → Int → Int → Option Bool
 | 0, _, _, _ => none
 | n + 1, a0, a1, v1 => Ct8 k (Ak8 k n) a0 a1 v1
def Em7 (k : Nat) (L0 : List Int → Int → Int → Option Bool) (a0 : List Int) (a1 : Int) : Option Bool := (L0 a0 a1 0)
def Az4 (k : Nat) (a0 : List Int) (a1 : Int) : Option Bool := Em7 k (Ak8 k k) a0 a1
end
noncomputable section
def Cb0 (k : Nat) (L0 : List Int → Int → Bool → Int → List Int → Option (List Int)) (a0 : List Int) (a1 : Int) (v1 : Bool) (v2 : Int) (xs3 : List Int) : Option (List Int) := (br (decide (v2 < (a0.length : Int))) (gd (decide (0 ≤ v2)) (gd (decide (v2 < (a0.length : Int))) (br (decide ((rd 0 a0 v2.toNat) ≥ a1)) (br (!v1) (gd (decide (xs3.length + [a1].length ≤ A3)) (gd (decide (0 ≤ v2)) (gd (decide (v2 < (a0.length : Int))) (br ((rd 0 a0 v2.toNat) != a1) (gd (decide (0 ≤ v2)) (gd (decide (v2 < (a0.length : Int))) (gd (decide ((xs3 ++ [a1]).length + [(rd 0 a0 v2.toNat)].length ≤ A3)) (L0 a0 a1 true (B4 (v2 + 1)) ((xs3 ++ [a1]) ++ [(rd 0 a0 v2.toNat)]))))) (L0 a0 a1 true (B4 (v2 + 1)) (xs3 ++ [a1])))))) (gd (decide (0 ≤ v2)) (gd (decide (v2 < (a0.length : Int))) (br ((rd 0 a0 v2.toNat) != a1) (gd (decide (0 ≤ v2)) (gd (decide (v2 < (a0.length : Int))) (gd (decide (xs3.length + [(rd 0 a0 v2.toNat)].length ≤ A3)) (L0 a0 a1 v1 (B4 (v2 + 1)) (xs3 ++ [(rd 0 a0 v2.toNat)]))))) (L0 a0 a1 v1 (B4 (v2 + 1)) xs3))))) (gd (decide (0 ≤ v2)) (gd (decide (v2 < (a0.length : Int))) (br ((rd 0 a0 v2.toNat) != a1) (gd (decide (0 ≤ v2)) (gd (decide (v2 < (a0.length : Int))) (gd (decide (xs3.length + [(rd 0 a0 v2.toNat)].length ≤ A3)) (L0 a0 a1 v1 (B4 (v2 + 1)) (xs3 ++ [(rd 0 a0 v2.toNat)]))))) (L0 a0 a1 v1 (B4 (v2 + 1)) xs3))))))) (br (!v1) (gd (decide (xs3.length + [a1].length ≤ A3)) (some (xs3 ++ [a1]))) (some xs3)))
def X4 (k : Nat) : Nat → List Int → Int → Bool → Int → List Int → Option (List Int)
 | 0, _, _, _, _, _ => none
 | n + 1, a0, a1, v1, v2, xs3 => Cb0 k (X4 k n) a0 a1 v1 v2 xs3
def Du9 (k : Nat) (L0 : List Int → Int → Bool → Int → List Int → Option (List Int)) (a0 : List Int) (a1 : Int) : Option (List Int) := (L0 a0 a1 false 0 [])
def Bt3 (k : Nat) (a0 : List Int) (a1 : Int) : Option (List Int) := Du9 k (X4 k k) a0 a1
end
noncomputable section
def Ao4 (k : Nat) (L1 : List A0 → Nat → Int → List Int → List Int → (A0 × Bool) → Option (List Int)) (a0 : List A0) (u1 : Nat) (xs2 : List Int) (xs3 : List Int) : Option (List Int) := (br (decide ((((xs3.length - u1) : Nat) : Int) > 0)) (gd (decide (0 < (((xs3.length - u1) : Nat) : Int))) (bd (M9 k a0 (rd 0 xs3 (u1 + 0))) fun r1 => (gd (decide (1 ≤ (((xs3.length - u1) : Nat) : Int))) (L1 a0 (u1 + 1) 0 xs2 xs3 r1)))) (some xs2))
def Ao5 (k : Nat) (L1 : List A0 → Nat → Int → List Int → List Int → (A0 × Bool) → Option (List Int)) (L0 : List A0 → Nat → List Int → List Int → Option (List Int)) (a0 : List A0) (u4 : Nat) (v5 : Int) (xs6 : List Int) (xs7 : List Int) (r1 : A0 × Bool) : Option (List Int) := (br (decide (v5 < (r1.1.2.2.2.2.2.2.2.1.length : Int))) (gd (decide (0 ≤ v5)) (gd (decide (v5 < (r1.1.2.2.2.2.2.2.2.1.length : Int))) (bd (M9 k a0 (rd 0 r1.1.2.2.2.2.2.2.2.1 v5.toNat)) fun r2 => (br r2.2 (gd (decide (0 ≤ v5)) (gd (decide (v5 < (r1.1.2.2.2.2.2.2.2.1.length : Int))) (bd (Az4 k xs6 (rd 0 r1.1.2.2.2.2.2.2.2.1 v5.toNat)) fun r3 => (br (!r3) (gd (decide (0 ≤ v5)) (gd (decide (v5 < (r1.1.2.2.2.2.2.2.2.1.length : Int))) (gd (decide (xs6.length + [(rd 0 r1.1.2.2.2.2.2.2.2.1 v5.toNat)].length ≤ A3)) (gd (decide (0 ≤ v5)) (gd (decide (v5 < (r1.1.2.2.2.2.2.2.2.1.length : Int))) (gd (decide ((xs7.drop u4).length + [(rd 0 r1.1.2.2.2.2.2.2.2.1 v5.toNat)].length ≤ A3)) (L1 a0 0 (B4 (v5 + 1)) (xs6 ++ [(rd 0 r1.1.2.2.2.2.2.2.2.1 v5.toNat)]) ((xs7.drop u4) ++ [(rd 0 r1.1.2.2.2.2.2.2.2.1 v5.toNat)]) r1))))))) (L1 a0 u4 (B4 (v5 + 1)) xs6 xs7 r1))))) (L1 a0 u4 (B4 (v5 + 1)) xs6 xs7 r1))))) (L0 a0 u4 xs6 xs7))
def Aa8 (k : Nat) : Nat → (List A0 → Nat → List Int → List Int → Option (List Int)) × (List A0 → Nat → Int → List Int → List Int → (A0 × Bool) → Option (List Int))
 | 0 => (fun _ _ _ _ => none, fun _ _ _ _ _ _ => none)
 | n + 1 => (Ao4 k (Aa8 k n).2, Ao5 k (Aa8 k n).2 (Aa8 k n).1)
def V3 (k : Nat) (n : Nat) : List A0 → Nat → List Int → List Int → Option (List Int) := (Aa8 k n).1
def V4 (k : Nat) (n : Nat) : List A0 → Nat → Int → List Int → List Int → (A0 × Bool) → Option (List Int) := (Aa8 k n).2
theorem Dv0 (k : Nat) (n : Nat) (a0 : List A0) (u1 : Nat) (xs2 : List Int) (xs3 : List Int) : V3 k (n + 1) a0 u1 xs2 xs3 = Ao4 k (V4 k n) a0 u1 xs2 xs3 := rfl
theorem Dv1 (k : Nat) (n : Nat) (a0 : List A0) (u4 : Nat) (v5 : Int) (xs6 : List Int) (xs7 : List Int) (r1 : A0 × Bool) : V4 k (n + 1) a0 u4 v5 xs6 xs7 r1 = Ao5 k (V4 k n) (V3 k n) a0 u4 v5 xs6 xs7 r1 := rfl
def Cn9 (k : Nat) (L0 : List A0 → Nat → List Int → List Int → Option (List Int)) (a0 : List A0) (a1 : Int) : Option (List Int) := (L0 a0 0 [] [a1])
def A10 (k : Nat) (a0 : List A0) (a1 : Int) : Option (List Int) := Cn9 k (V3 k k) a0 a1
end
noncomputable section
def Bo1 (k : Nat) (L0 : List Int → List Int → List Int → Int → Option Bool) (a0 : List Int) (a1 : List Int) (a2 : List Int) (v1 : Int) : Option Bool := (br (decide (v1 < (a0.length : Int))) (gd (decide (0 ≤ v1)) (gd (decide (v1 < (a0.length : Int))) (bd (Az4 k a1 (rd 0 a0 v1.toNat)) fun r1 => (br r1 (gd (decide (0 ≤ v1)) (gd (decide (v1 < (a0.length : Int))) (bd (Az4 k a2 (rd 0 a0 v1.toNat)) fun r2 => (br (!r2) (some false) (L0 a0 a1 a2 (B4 (v1 + 1))))))) (L0 a0 a1 a2 (B4 (v1 + 1))))))) (some true))
def U5 (k : Nat) : Nat → List Int → List Int → List Int → Int → Option Bool
 | 0, _, _, _, _ => none
 | n + 1, a0, a1, a2, v1 => Bo1 k (U5 k n) a0 a1 a2 v1
def Cz5 (k : Nat) (L0 : List Int → List Int → List Int → Int → Option Bool) (a0 : List Int) (a1 : List Int) (a2 : List Int) : Option Bool := (L0 a0 a1 a2 0)
def Av7 (k : Nat) (a0 : List Int) (a1 : List Int) (a2 : List Int) : Option Bool := Cz5 k (U5 k k) a0 a1 a2
end
def Aa9 (k : Nat) (a0 : A0) : Option Bool := (br (a0.2.1 == 3) (some true) (br (a0.2.1 == 2) (br (a0.2.2.2.2.1 == 0) (some (a0.2.2.1 != a0.2.2.2.1)) (br (a0.2.2.2.2.1 == 3) (some (a0.2.2.1 != a0.2.2.2.1)) (some false))) (some false)))
def Bt4 (k : Nat) (a0 : List A0) (a1 : List A1) (a2 : A0) (a3 : A0) : Option Bool := (bd (Aa9 k a2) fun r1 => (bd (Aa9 k a3) fun r2 => (br (!(r1 == r2)) (bd (Aa9 k a2) fun r3 => (some r3)) (bd (W8 k a0 a1 a2.2.2.1) fun r4 => (bd (W8 k a0 a1 a3.2.2.1) fun r5 => (br (r4 != r5) (some (decide (r4 > r5))) (br (a2.2.2.2.2.2.2.2.2.1 != a3.2.2.2.2.2.2.2.2.1) (some (decide (a2.2.2.2.2.2.2.2.2.1 < a3.2.2.2.2.2.2.2.2.1))) (some (decide (a2.1 < a3.1))))))))))
noncomputable section
def Bz2 (k : Nat) (L3 : List A0 → List A1 → Int → List Int → List (List Int) → List Int → Option (List Int)) (a0 : List A0) (a1 : List A1) (xs2 : List Int) (xs4 : List (List Int)) (xs5 : List Int) : Option (List Int) := (br (decide ((xs5.length : Int) < (xs2.length : Int))) (L3 a0 a1 0 xs2 xs4 xs5) (some xs5))
def Bz3 (k : Nat) (L3 : List A0 → List A1 → Int → List Int → List (List Int) → List Int → Option (List Int)) (L4 : List A0 → List A1 → Int → List Int → List (List Int) → List Int → Int → Int → Int → Int → Int → List Int → ByteArray → List Int → Int → Option (List Int)) (a0 : List A0) (a1 : List A1) (v6 : Int) (xs2 : List Int) (xs4 : List (List Int)) (xs5 : List Int) : Option (List Int) := (br (decide (v6 < (xs2.length : Int))) (gd (decide (0 ≤ v6)) (gd (decide (v6 < (xs2.length : Int))) (bd (Az4 k xs5 (rd 0 xs2 v6.toNat)) fun r4 => (br r4 (L3 a0 a1 (B4 (v6 + 1)) xs2 xs4 xs5) (gd (decide (0 ≤ v6)) (gd (decide (v6 < (xs4.length : Int))) (bd (Av7 k (rd [] xs4 v6.toNat) xs2 xs5) fun r5 => (br (!r5) (L3 a0 a1 (B4 (v6 + 1)) xs2 xs4 xs5) (gd (decide (0 ≤ v6)) (gd (decide (v6 < (xs2.length : Int))) (bd (M9 k a0 (rd 0 xs2 v6.toNat)) fun r6 => (L4 a0 a1 (B4 (v6 + 1)) xs2 xs4 xs5 r6.1.1 r6.1.2.1 r6.1.2.2.1 r6.1.2.2.2.1 r6.1.2.2.2.2.1 r6.1.2.2.2.2.2.1 r6.1.2.2.2.2.2.2.1 r6.1.2.2.2.2.2.2.2.1 r6.1.2.2.2.2.2.2.2.2.1)))))))))))) (some xs5))
def Bz4 (k : Nat) (L4 : List A0 → List A1 → Int → List Int → List (List Int) → List Int → Int → Int → Int → Int → Int → List Int → ByteArray → List Int → Int → Option (List Int)) (L2 : List A0 → List A1 → List Int → List (List Int) → List Int → Option (List Int)) (a0 : List A0) (a1 : List A1) (v7 : Int) (xs2 : List Int) (xs4 : List (List Int)) (xs5 : List Int) (v8 : Int) (v9 : Int) (v10 : Int) (v11 : Int) (v12 : Int) (v13 : List Int) (v14 : ByteArray) (v15 : List Int) (v16 : Int) : Option (List Int) := (br (decide (v7 < (xs2.length : Int))) (gd (decide (0 ≤ v7)) (gd (decide (v7 < (xs2.length : Int))) (bd (Az4 k xs5 (rd 0 xs2 v7.toNat)) fun r7 => (br r7 (L4 a0 a1 (B4 (v7 + 1)) xs2 xs4 xs5 v8 v9 v10 v11 v12 v13 v14 v15 v16) (gd (decide (0 ≤ v7)) (gd (decide (v7 < (xs4.length : Int))) (bd (Av7 k (rd [] xs4 v7.toNat) xs2 xs5) fun r8 => (br (!r8) (L4 a0 a1 (B4 (v7 + 1)) xs2 xs4 xs5 v8 v9 v10 v11 v12 v13 v14 v15 v16) (gd (decide (0 ≤ v7)) (gd (decide (v7 < (xs2.length : Int))) (bd (M9 k a0 (rd 0 xs2 v7.toNat)) fun r9 => (bd (Bt4 k a0 a1 r9.1 (v8, v9, v10, v11, v12, v13, v14, v15, v16, ())) fun r10 => (br r10 (L4 a0 a1 (B4 (v7 + 1)) xs2 xs4 xs5 r9.1.1 r9.1.2.1 r9.1.2.2.1 r9.1.2.2.2.1 r9.1.2.2.2.2.1 r9.1.2.2.2.2.2.1 r9.1.2.2.2.2.2.2.1 r9.1.2.2.2.2.2.2.2.1 r9.1.2.2.2.2.2.2.2.2.1) (L4 a0 a1 (B4 (v7 + 1)) xs2 xs4 xs5 v8 v9 v10 v11 v12 v13 v14 v15 v16)))))))))))))) (gd (decide (xs5.length + [v8].length ≤ A3)) (L2 a0 a1 xs2 xs4 (xs5 ++ [v8]))))
def Ct9 (k : Nat) (L1 : List A0 → List A1 → Int → List Int → List (List Int) → Option (List Int)) (L2 : List A0 → List A1 → List Int → List (List Int) → List Int → Option (List Int)) (a0 : List A0) (a1 : List A1) (v3 : Int) (xs2 : List Int) (xs4 : List (List Int)) : Option (List Int) := (br (decide (v3 < (xs2.length : Int))) (gd (decide (0 ≤ v3)) (gd (decide (v3 < (xs2.length : Int))) (bd (A10 k a0 (rd 0 xs2 v3.toNat)) fun r3 => (gd (decide (xs4.length + [r3].length ≤ A3)) (L1 a0 a1 (B4 (v3 + 1)) xs2 (xs4 ++ [r3])))))) (L2 a0 a1 xs2 xs4 []))
def Cu0 (k : Nat) (L0 : List A0 → List A1 → List Int → Int → List Int → Option (List Int)) (L1 : List A0 → List A1 → Int → List Int → List (List Int) → Option (List Int)) (a0 : List A0) (a1 : List A1) (a2 : List Int) (v1 : Int) (xs2 : List Int) : Option (List Int) := (br (decide (v1 < (a2.length : Int))) (gd (decide (0 ≤ v1)) (gd (decide (v1 < (a2.length : Int))) (bd (M9 k a0 (rd 0 a2 v1.toNat)) fun r1 => (br r1.2 (gd (decide (0 ≤ v1)) (gd (decide (v1 < (a2.length : Int))) (bd (Bt3 k xs2 (rd 0 a2 v1.toNat)) fun r2 => (L0 a0 a1 a2 (B4 (v1 + 1)) r2)))) (L0 a0 a1 a2 (B4 (v1 + 1)) xs2))))) (L1 a0 a1 0 xs2 []))
def Ab0 (k : Nat) : Nat → (List A0 → List A1 → List Int → List (List Int) → List Int → Option (List Int)) × (List A0 → List A1 → Int → List Int → List (List Int) → List Int → Option (List Int)) × (List A0 → List A1 → Int → List Int → List (List Int) → List Int → Int → Int → Int → Int → Int → List Int → ByteArray → List Int → Int → Option (List Int))
 | 0 => (fun _ _ _ _ _ => none, fun _ _ _ _ _ _ => none, fun _ _ _ _ _ _ _ _ _ _ _ _ _ _ _ => none)
 | n + 1 => (Bz2 k (Ab0 k n).2.1, Bz3 k (Ab0 k n).2.1 (Ab0 k n).2.2, Bz4 k (Ab0 k n).2.2 (Ab0 k n).1)
def Av8 (k : Nat) (n : Nat) : List A0 → List A1 → List Int → List (List Int) → List Int → Option (List Int) := (Ab0 k n).1
def Av9 (k : Nat) (n : Nat) : List A0 → List A1 → Int → List Int → List (List Int) → List Int → Option (List Int) := (Ab0 k n).2.1
def Aw0 (k : Nat) (n : Nat) : List A0 → List A1 → Int → List Int → List (List Int) → List Int → Int → Int → Int → Int → Int → List Int → ByteArray → List Int → Int → Option (List Int) := (Ab0 k n).2.2
theorem F67 (k : Nat) (n : Nat) (a0 : List A0) (a1 : List A1) (xs2 : List Int) (xs4 : List (List Int)) (xs5 : List Int) : Av8 k (n + 1) a0 a1 xs2 xs4 xs5 = Bz2 k (Av9 k n) a0 a1 xs2 xs4 xs5 := rfl
theorem F68 (k : Nat) (n : Nat) (a0 : List A0) (a1 : List A1) (v6 : Int) (xs2 : List Int) (xs4 : List (List Int)) (xs5 : List Int) : Av9 k (n + 1) a0 a1 v6 xs2 xs4 xs5 = Bz3 k (Av9 k n) (Aw0 k n) a0 a1 v6 xs2 xs4 xs5 := rfl
theorem F69 (k : Nat) (n : Nat) (a0 : List A0) (a1 : List A1) (v7 : Int) (xs2 : List Int) (xs4 : List (List Int)) (xs5 : List Int) (v8 : Int) (v9 : Int) (v10 : Int) (v11 : Int) (v12 : Int) (v13 : List Int) (v14 : ByteArray) (v15 : List Int) (v16 : Int) : Aw0 k (n + 1) a0 a1 v7 xs2 xs4 xs5 v8 v9 v10 v11 v12 v13 v14 v15 v16 = Bz4 k (Aw0 k n) (Av8 k n) a0 a1 v7 xs2 xs4 xs5 v8 v9 v10 v11 v12 v13 v14 v15 v16 := rfl
def Aw1 (k : Nat) : Nat → List A0 → List A1 → Int → List Int → List (List Int) → Option (List Int)
 | 0, _, _, _, _, _ => none
 | n + 1, a0, a1, v3, xs2, xs4 => Ct9 k (Aw1 k n) (Av8 k n) a0 a1 v3 xs2 xs4
def Ak9 (k : Nat) : Nat → List A0 → List A1 → List Int → Int → List Int → Option (List Int)
 | 0, _, _, _, _, _ => none
 | n + 1, a0, a1, a2, v1, xs2 => Cu0 k (Ak9 k n) (Aw1 k n) a0 a1 a2 v1 xs2
def Em8 (k : Nat) (L0 : List A0 → List A1 → List Int → Int → List Int → Option (List Int)) (a0 : List A0) (a1 : List A1) (a2 : List Int) : Option (List Int) := (L0 a0 a1 a2 0 [])
def Cz6 (k : Nat) (a0 : List A0) (a1 : List A1) (a2 : List Int) : Option (List Int) := Em8 k (Ak9 k k) a0 a1 a2
end
noncomputable section
def Bz5 (k : Nat) (L2 : List A0 → Int → List A1 → List Int → Option (List A1)) (a0 : List A0) (v5 : Int) (r1 : List A1) (r5 : List Int) : Option (List A1) := (br (decide (v5 < (r5.length : Int))) (gd (decide (0 ≤ v5)) (gd (decide (v5 < (r5.length : Int))) (bd (M9 k a0 (rd 0 r5 v5.toNat)) fun r6 => (bd (Av5 k a0 r1 r6.1) fun r7 => (br r7 (bd (A79 k r6.1) fun r8 => (br (r8 != 0) (bd (A79 k r6.1) fun r9 => (bd (Em5 k r1 r9 r6.1.1) fun r10 => (L2 a0 (B4 (v5 + 1)) r10 r5))) (L2 a0 (B4 (v5 + 1)) r1 r5))) (L2 a0 (B4 (v5 + 1)) r1 r5)))))) (some r1))
def A83 (k : Nat) (L1 : List A0 → List (List A1) → Int → Int → List A1 → List Int → List Int → Option (List A1)) (L2 : List A0 → Int → List A1 → List Int → Option (List A1)) (a0 : List A0) (a1 : List (List A1)) (v1 : Int) (r1 : List A1) (r2 : List Int) (xs2 : List Int) : Option (List A1) := (br (decide (v1 < (a1.length : Int))) (L1 a0 a1 v1 0 r1 r2 xs2) (bd (Bt2 k a1) fun r4 => (bd (Cz6 k a0 r4 xs2) fun r5 => (L2 a0 0 r1 r5))))
def A84 (k : Nat) (L1 : List A0 → List (List A1) → Int → Int → List A1 → List Int → List Int → Option (List A1)) (L0 : List A0 → List (List A1) → Int → List A1 → List Int → List Int → Option (List A1)) (a0 : List A0) (a1 : List (List A1)) (v1 : Int) (v3 : Int) (r1 : List A1) (r2 : List Int) (xs4 : List Int) : Option (List A1) := (br (decide (v3 < (r2.length : Int))) (gd (decide (0 ≤ v1)) (gd (decide (v1 < (a1.length : Int))) (gd (decide (0 ≤ v3)) (gd (decide (v3 < (r2.length : Int))) (bd (Cl6 k (rd [] a1 v1.toNat) (rd 0 r2 v3.toNat)) fun r3 => (br (r3 != 0) (gd (decide (xs4.length + [r3].length ≤ A3)) (L1 a0 a1 v1 (B4 (v3 + 1)) r1 r2 (xs4 ++ [r3]))) (L1 a0 a1 v1 (B4 (v3 + 1)) r1 r2 xs4))))))) (L0 a0 a1 (B4 (v1 + 1)) r1 r2 xs4))
def m6 (k : Nat) : Nat → List A0 → Int → List A1 → List Int → Option (List A1)
 | 0, _, _, _, _ => none
 | n + 1, a0, v5, r1, r5 => Bz5 k (m6 k n) a0 v5 r1 r5
def Ao6 (k : Nat) : Nat → (List A0 → List (List A1) → Int → List A1 → List Int → List Int → Option (List A1)) × (List A0 → List (List A1) → Int → Int → List A1 → List Int → List Int → Option (List A1))
 | 0 => (fun _ _ _ _ _ _ => none, fun _ _ _ _ _ _ _ => none)
 | n + 1 => (A83 k (Ao6 k n).2 (m6 k n), A84 k (Ao6 k n).2 (Ao6 k n).1)
def m7 (k : Nat) (n : Nat) : List A0 → List (List A1) → Int → List A1 → List Int → List Int → Option (List A1) := (Ao6 k n).1
def Ao7 (k : Nat) (n : Nat) : List A0 → List (List A1) → Int → Int → List A1 → List Int → List Int → Option (List A1) := (Ao6 k n).2
theorem Et5 (k : Nat) (n : Nat) (a0 : List A0) (a1 : List (List A1)) (v1 : Int) (r1 : List A1) (r2 : List Int) (xs2 : List Int) : m7 k (n + 1) a0 a1 v1 r1 r2 xs2 = A83 k (Ao7 k n) (m6 k n) a0 a1 v1 r1 r2 xs2 := rfl
theorem Et6 (k : Nat) (n : Nat) (a0 : List A0) (a1 : List (List A1)) (v1 : Int) (v3 : Int) (r1 : List A1) (r2 : List Int) (xs4 : List Int) : Ao7 k (n + 1) a0 a1 v1 v3 r1 r2 xs4 = A84 k (Ao7 k n) (m7 k n) a0 a1 v1 v3 r1 r2 xs4 := rfl
def De6 (k : Nat) (L0 : List A0 → List (List A1) → Int → List A1 → List Int → List Int → Option (List A1)) (a0 : List A0) (a1 : List (List A1)) : Option (List A1) := (br ((a1.length : Int) == 0) (some ([] : List A1)) (br ((a1.length : Int) == 1) (gd (decide (0 < (a1.length : Int))) (gd (decide (([] : List A1).length + (rd [] a1 0).length ≤ A3)) (some (([] : List A1) ++ (rd [] a1 0))))) (bd (Bt2 k a1) fun r1 => (bd (Cz4 k a1) fun r2 => (L0 a0 a1 0 r1 r2 [])))))
def Bt5 (k : Nat) (a0 : List A0) (a1 : List (List A1)) : Option (List A1) := De6 k (m7 k k) a0 a1
end
noncomputable section
def Be0 (k : Nat) (L0 : List Int → Int → A8 → List (List A1) → Option (List A1 × Bool)) (a1 : List Int) (v1 : Int) (a0 : A8) (xs2 : List (List A1)) : Option (List A1 × Bool) := (br (decide (v1 < (a1.length : Int))) (gd (decide (0 ≤ v1)) (gd (decide (v1 < (a1.length : Int))) (bd (Bd6 k a0 (rd 0 a1 v1.toNat)) fun r1 => (br (decide (r1 < 0)) (some (([] : List A1), false)) (br (decide (r1 ≥ (a0.2.1.length : Int))) (some (([] : List A1), false)) (gd (decide (0 ≤ r1)) (gd (decide (r1 < (a0.2.1.length : Int))) (gd (decide (xs2.length + [(rd [] a0.2.1 r1.toNat)].length ≤ A3)) (L0 a1 (B4 (v1 + 1)) a0 (xs2 ++ [(rd [] a0.2.1 r1.toNat)])))))))))) (bd (Bt5 k a0.1 xs2) fun r2 => (some (r2, true))))
def V5 (k : Nat) : Nat → List Int → Int → A8 → List (List A1) → Option (List A1 × Bool)
 | 0, _, _, _, _ => none
 | n + 1, a1, v1, a0, xs2 => Be0 k (V5 k n) a1 v1 a0 xs2
def Co0 (k : Nat) (L0 : List Int → Int → A8 → List (List A1) → Option (List A1 × Bool)) (a0 : A8) (a1 : List Int) : Option (List A1 × Bool) := (L0 a1 0 a0 [])
def N8 (k : Nat) (a0 : A8) (a1 : List Int) : Option (List A1 × Bool) := Co0 k (V5 k k) a0 a1
end
def Be1 (k : Nat) (a0 : A8) (a1 : A0) : Option (A8 × Bool) := (bd (N8 k a0 a1.2.2.2.2.2.2.2.1) fun r1 => (br (!r1.2) (some (([], [], [], ()), false)) (bd (J8 k a1) fun r2 => (br (!r2) (some (([], [], [], ()), false)) (bd (Bd6 k a0 a1.1) fun r3 => (br (decide (r3 ≥ 0)) (some (([], [], [], ()), false)) (bd (J9 k a0 a1.2.2.2.2.2.2.2.1) fun r4 => (br (a1.2.2.2.2.2.2.2.2.1 != r4) (some (([], [], [], ()), false)) (br (decide ((a0.1.length : Int) ≥ 40)) (some (([], [], [], ()), false)) (bd (Av5 k a0.1 r1.1 a1) fun r5 => (br r5 (bd (A79 k a1) fun r6 => (br (r6 != 0) (bd (A79 k a1) fun r7 => (bd (Em5 k r1.1 r7 a1.1) fun r8 => (gd (decide (([] : List A0).length + a0.1.length ≤ A3)) (gd (decide ((([] : List A0) ++ a0.1).length + ([a1] : List A0).length ≤ A3)) (gd (decide (([] : List (List A1)).length + a0.2.1.length ≤ A3)) (gd (decide ((([] : List (List A1)) ++ a0.2.1).length + [r8].length ≤ A3)) (gd (decide (([] : List Bool).length + a0.2.2.1.length ≤ A3)) (gd (decide ((([] : List Bool) ++ a0.2.2.1).length + [r5].length ≤ A3)) (some ((((([] : List A0) ++ a0.1) ++ ([a1] : List A0)), ((([] : List (List A1)) ++ a0.2.1) ++ [r8]), ((([] : List Bool) ++ a0.2.2.1) ++ [r5]), ()), true)))))))))) (gd (decide (([] : List A0).length + a0.1.length ≤ A3)) (gd (decide ((([] : List A0) ++ a0.1).length + ([a1] : List A0).length ≤ A3)) (gd (decide (([] : List (List A1)).length + a0.2.1.length ≤ A3)) (gd (decide ((([] : List (List A1)) ++ a0.2.1).length + [r1.1].length ≤ A3)) (gd (decide (([] : List Bool).length + a0.2.2.1.length ≤ A3)) (gd (decide ((([] : List Bool) ++ a0.2.2.1).length + [r5].length ≤ A3)) (some ((((([] : List A0) ++ a0.1) ++ ([a1] : List A0)), ((([] : List (List A1)) ++ a0.2.1) ++ [r1.1]), ((([] : List Bool) ++ a0.2.2.1) ++ [r5]), ()), true)))))))))) (gd (decide (([] : List A0).length + a0.1.length ≤ A3)) (gd (decide ((([] : List A0) ++ a0.1).length + ([a1] : List A0).length ≤ A3)) (gd (decide (([] : List (List A1)).length + a0.2.1.length ≤ A3)) (gd (decide ((([] : List (List A1)) ++ a0.2.1).length + [r1.1].length ≤ A3)) (gd (decide (([] : List Bool).length + a0.2.2.1.length ≤ A3)) (gd (decide ((([] : List Bool) ++ a0.2.2.1).length + [r5].length ≤ A3)) (some ((((([] : List A0) ++ a0.1) ++ ([a1] : List A0)), ((([] : List (List A1)) ++ a0.2.1) ++ [r1.1]), ((([] : List Bool) ++ a0.2.2.1) ++ [r5]), ()), true)))))))))))))))))))
noncomputable section
def U9 (k : Nat) (L0 : List Int → List Int → Int → Option Bool) (a0 : List Int) (a1 : List Int) (v1 : Int) : Option Bool := (br (decide (v1 < (a0.length : Int))) (gd (decide (0 ≤ v1)) (gd (decide (v1 < (a0.length : Int))) (gd (decide (0 ≤ v1)) (gd (decide (v1 < (a1.length : Int))) (br ((rd 0 a0 v1.toNat) != (rd 0 a1 v1.toNat)) (some false) (L0 a0 a1 (B4 (v1 + 1)))))))) (some true))
def I2 (k : Nat) : Nat → List Int → List Int → Int → Option Bool
 | 0, _, _, _ => none
 | n + 1, a0, a1, v1 => U9 k (I2 k n) a0 a1 v1
def Aj9 (k : Nat) (L0 : List Int → List Int → Int → Option Bool) (a0 : List Int) (a1 : List Int) : Option Bool := (br ((a0.length : Int) != (a1.length : Int)) (some false) (L0 a0 a1 0))
def N1 (k : Nat) (a0 : List Int) (a1 : List Int) : Option Bool := Aj9 k (I2 k k) a0 a1
end
def Am1 (k : Nat) (a0 : A0) (a1 : A0) : Option Bool := (br (a0.1 == a1.1) (br (a0.2.1 == a1.2.1) (br (a0.2.2.1 == a1.2.2.1) (br (a0.2.2.2.1 == a1.2.2.2.1) (br (a0.2.2.2.2.1 == a1.2.2.2.2.1) (br (a0.2.2.2.2.2.2.1.toList == a1.2.2.2.2.2.2.1.toList) (br (a0.2.2.2.2.2.2.2.2.1 == a1.2.2.2.2.2.2.2.2.1) (bd (N1 k a0.2.2.2.2.2.1 a1.2.2.2.2.2.1) fun r1 => (br r1 (bd (N1 k a0.2.2.2.2.2.2.2.1 a1.2.2.2.2.2.2.2.1) fun r2 => (some r2)) (some false))) (some false)) (some false)) (some false)) (some false)) (some false)) (some false)) (some false))
noncomputable section
def z8 (k : Nat) (L0 : List A1 → List A1 → Int → Option Bool) (a0 : List A1) (a1 : List A1) (v1 : Int) : Option Bool := (br (decide (v1 < (a0.length : Int))) (gd (decide (0 ≤ v1)) (gd (decide (v1 < (a0.length : Int))) (gd (decide (0 ≤ v1)) (gd (decide (v1 < (a1.length : Int))) (br (!((rd J2 a0 v1.toNat).1 == (rd J2 a1 v1.toNat).1 && ((rd J2 a0 v1.toNat).2.1 == (rd J2 a1 v1.toNat).2.1 && true))) (some false) (L0 a0 a1 (B4 (v1 + 1)))))))) (some true))
def M4 (k : Nat) : Nat → List A1 → List A1 → Int → Option Bool
 | 0, _, _, _ => none
 | n + 1, a0, a1, v1 => z8 k (M4 k n) a0 a1 v1
def Bt6 (k : Nat) (L0 : List A1 → List A1 → Int → Option Bool) (a0 : List A1) (a1 : List A1) : Option Bool := (br ((a0.length : Int) != (a1.length : Int)) (some false) (L0 a0 a1 0))
def f9 (k : Nat) (a0 : List A1) (a1 : List A1) : Option Bool := Bt6 k (M4 k k) a0 a1
end
noncomputable section
def A85 (k : Nat) (L2 : Int → A8 → A8 → Option Bool) (v3 : Int) (a0 : A8) (a1 : A8) : Option Bool := (br (decide (v3 < (a0.2.2.1.length : Int))) (gd (decide (0 ≤ v3)) (gd (decide (v3 < (a0.2.2.1.length : Int))) (gd (decide (0 ≤ v3)) (gd (decide (v3 < (a1.2.2.1.length : Int))) (br (!((rd false a0.2.2.1 v3.toNat) == (rd false a1.2.2.1 v3.toNat))) (some false) (L2 (B4 (v3 + 1)) a0 a1)))))) (some true))
def A86 (k : Nat) (L1 : Int → A8 → A8 → Option Bool) (L2 : Int → A8 → A8 → Option Bool) (v2 : Int) (a0 : A8) (a1 : A8) : Option Bool := (br (decide (v2 < (a0.2.1.length : Int))) (gd (decide (0 ≤ v2)) (gd (decide (v2 < (a0.2.1.length : Int))) (gd (decide (0 ≤ v2)) (gd (decide (v2 < (a1.2.1.length : Int))) (bd (f9 k (rd [] a0.2.1 v2.toNat) (rd [] a1.2.1 v2.toNat)) fun r2 => (br (!r2) (some false) (L1 (B4 (v2 + 1)) a0 a1))))))) (L2 0 a0 a1))
def A87 (k : Nat) (L0 : Int → A8 → A8 → Option Bool) (L1 : Int → A8 → A8 → Option Bool) (v1 : Int) (a0 : A8) (a1 : A8) : Option Bool := (br (decide (v1 < (a0.1.length : Int))) (gd (decide (0 ≤ v1)) (gd (decide (v1 < (a0.1.length : Int))) (gd (decide (0 ≤ v1)) (gd (decide (v1 < (a1.1.length : Int))) (bd (Am1 k (rd D3 a0.1 v1.toNat) (rd D3 a1.1 v1.toNat)) fun r1 => (br (!r1) (some false) (L0 (B4 (v1 + 1)) a0 a1))))))) (L1 0 a0 a1))
def Ae3 (k : Nat) : Nat → Int → A8 → A8 → Option Bool
 | 0, _, _, _ => none
 | n + 1, v3, a0, a1 => A85 k (Ae3 k n) v3 a0 a1
def Ae4 (k : Nat) : Nat → Int → A8 → A8 → Option Bool
 | 0, _, _, _ => none
 | n + 1, v2, a0, a1 => A86 k (Ae4 k n) (Ae3 k n) v2 a0 a1
def X5 (k : Nat) : Nat → Int → A8 → A8 → Option Bool
 | 0, _, _, _ => none
 | n + 1, v1, a0, a1 => A87 k (X5 k n) (Ae4 k n) v1 a0 a1
def De7 (k : Nat) (L0 : Int → A8 → A8 → Option Bool) (a0 : A8) (a1 : A8) : Option Bool := (br ((a0.1.length : Int) != (a1.1.length : Int)) (some false) (br ((a0.2.1.length : Int) != (a1.2.1.length : Int)) (some false) (br ((a0.2.2.1.length : Int) != (a1.2.2.1.length : Int)) (some false) (L0 0 a0 a1))))
def Bt7 (k : Nat) (a0 : A8) (a1 : A8) : Option Bool := De7 k (X5 k k) a0 a1
end
noncomputable section
def Cb1 (k : Nat) (L0 : Int → A8 → List A0 → List (List A1) → List Bool → Option Bool) (v1 : Int) (a0 : A8) (xs2 : List A0) (xs3 : List (List A1)) (xs4 : List Bool) : Option Bool := (br (decide (v1 < (a0.1.length : Int))) (gd (decide (0 ≤ v1)) (gd (decide (v1 < (a0.1.length : Int))) (bd (Be1 k (xs2, xs3, xs4, ()) (rd D3 a0.1 v1.toNat)) fun r1 => (br (!r1.2) (some false) (L0 (B4 (v1 + 1)) a0 r1.1.1 r1.1.2.1 r1.1.2.2.1))))) (bd (Bt7 k (xs2, xs3, xs4, ()) a0) fun r2 => (some r2)))
def Ab1 (k : Nat) : Nat → Int → A8 → List A0 → List (List A1) → List Bool → Option Bool
 | 0, _, _, _, _, _ => none
 | n + 1, v1, a0, xs2, xs3, xs4 => Cb1 k (Ab1 k n) v1 a0 xs2 xs3 xs4
def Dv2 (k : Nat) (L0 : Int → A8 → List A0 → List (List A1) → List Bool → Option Bool) (a0 : A8) : Option Bool := (br (decide ((a0.1.length : Int) > 40)) (some false) (L0 0 a0 [] [] []))
def Cb2 (k : Nat) (a0 : A8) : Option Bool := Dv2 k (Ab1 k k) a0
end
noncomputable section
def Cb3 (k : Nat) (L0 : Int → A8 → List Int → Option (List Int)) (v1 : Int) (a0 : A8) (xs2 : List Int) : Option (List Int) := (br (decide (v1 < (a0.1.length : Int))) (gd (decide (0 ≤ v1)) (gd (decide (v1 < (a0.2.2.1.length : Int))) (br (rd false a0.2.2.1 v1.toNat) (gd (decide (0 ≤ v1)) (gd (decide (v1 < (a0.1.length : Int))) (ng ((rd D3 a0.1 v1.toNat).1 == (rd D3 a0.1 v1.toNat).1 && (2 : Int) == 0) (br ((Int.tmod (rd D3 a0.1 v1.toNat).1 2) == 0) (gd (decide (0 ≤ v1)) (gd (decide (v1 < (a0.1.length : Int))) (gd (decide (xs2.length + [(rd D3 a0.1 v1.toNat).1].length ≤ A3)) (L0 (B4 (v1 + 1)) a0 (xs2 ++ [(rd D3 a0.1 v1.toNat).1]))))) (L0 (B4 (v1 + 1)) a0 xs2))))) (L0 (B4 (v1 + 1)) a0 xs2)))) (some xs2))
def Ab2 (k : Nat) : Nat → Int → A8 → List Int → Option (List Int)
 | 0, _, _, _ => none
 | n + 1, v1, a0, xs2 => Cb3 k (Ab2 k n) v1 a0 xs2
def Dv3 (k : Nat) (L0 : Int → A8 → List Int → Option (List Int)) (a0 : A8) : Option (List Int) := (L0 0 a0 [])
def Cb4 (k : Nat) (a0 : A8) : Option (List Int) := Dv3 k (Ab2 k k) a0
end
noncomputable section
def Bk7 (k : Nat) (L1 : Int → C2 → List Int → Option Bool) (v2 : Int) (a0 : C2) (r4 : List Int) : Option Bool := (br (decide (v2 < (a0.2.2.1.length : Int))) (gd (decide (0 ≤ v2)) (gd (decide (v2 < (a0.2.2.1.length : Int))) (br ((rd H8 a0.2.2.1 v2.toNat).1 != (B4 (v2 + 1))) (some false) (bd (N1 k (rd H8 a0.2.2.1 v2.toNat).2.2.1 r4) fun r5 => (br (!r5) (some false) (bd (E9 k (rd H8 a0.2.2.1 v2.toNat).2.1 0 (r4.length : Int)) fun r6 => (br (!r6) (some false) (L1 (B4 (v2 + 1)) a0 r4)))))))) (some true))
def Bk8 (k : Nat) (L0 : Int → C2 → Option Bool) (L1 : Int → C2 → List Int → Option Bool) (v1 : Int) (a0 : C2) : Option Bool := (br (decide (v1 < (a0.1.length : Int))) (gd (decide (0 ≤ v1)) (gd (decide (v1 < (a0.1.length : Int))) (bd (E9 k (rd A9 a0.1 v1.toNat).1 1 1000000) fun r2 => (br (!r2) (some false) (bd (E9 k (rd A9 a0.1 v1.toNat).2.1 0 1000000) fun r3 => (br (!r3) (some false) (br (decide ((((rd A9 a0.1 v1.toNat).2.2.1.size : Nat) : Int) > 40)) (some false) (br ((rd A9 a0.1 v1.toNat).2.1 == 0) (br (!((rd A9 a0.1 v1.toNat).2.2.1.toList == (⟨#[]⟩ : ByteArray).toList)) (some false) (br (decide (v1 > 0)) (gd (decide (0 ≤ (B4 (v1 - 1)))) (gd (decide ((B4 (v1 - 1)) < (a0.1.length : Int))) (br (decide ((rd A9 a0.1 (B4 (v1 - 1)).toNat).1 ≥ (rd A9 a0.1 v1.toNat).1)) (some false) (L0 (B4 (v1 + 1)) a0)))) (L0 (B4 (v1 + 1)) a0))) (br (decide (v1 > 0)) (gd (decide (0 ≤ (B4 (v1 - 1)))) (gd (decide ((B4 (v1 - 1)) < (a0.1.length : Int))) (br (decide ((rd A9 a0.1 (B4 (v1 - 1)).toNat).1 ≥ (rd A9 a0.1 v1.toNat).1)) (some false) (L0 (B4 (v1 + 1)) a0)))) (L0 (B4 (v1 + 1)) a0)))))))))) (bd (Cb4 k a0.2.1) fun r4 => (L1 0 a0 r4)))
def Ab3 (k : Nat) : Nat → Int → C2 → List Int → Option Bool
 | 0, _, _, _ => none
 | n + 1, v2, a0, r4 => Bk7 k (Ab3 k n) v2 a0 r4
def P0 (k : Nat) : Nat → Int → C2 → Option Bool
 | 0, _, _ => none
 | n + 1, v1, a0 => Bk8 k (P0 k n) (Ab3 k n) v1 a0
def Dv4 (k : Nat) (L0 : Int → C2 → Option Bool) (a0 : C2) : Option Bool := (br (decide ((a0.1.length : Int) > 3)) (some false) (br ((a0.2.2.1.length : Int) != 2) (some false) (bd (Cb2 k a0.2.1) fun r1 => (br (!r1) (some false) (L0 0 a0)))))
def Ao8 (k : Nat) (a0 : C2) : Option Bool := Dv4 k (P0 k k) a0
end
def Y8 (k : Nat) (a0 : ByteArray) : Option ByteArray := (bd (N0 k (a0.size : Int)) fun r1 => (gd (decide (r1.size + a0.size ≤ A3)) (some (r1 ++ a0))))
def u0 (k : Nat) (a0 : Int) : Option ByteArray := (some (C0 [(IntKind.wrap .u8 a0)]))
noncomputable section
def Ae5 (k : Nat) (L0 : ByteArray → Int → A0 → Option ByteArray) (v1 : ByteArray) (v2 : Int) (a0 : A0) : Option ByteArray := (br (decide (v2 < (a0.2.2.2.2.2.1.length : Int))) (gd (decide (0 ≤ v2)) (gd (decide (v2 < (a0.2.2.2.2.2.1.length : Int))) (bd (u0 k (rd 0 a0.2.2.2.2.2.1 v2.toNat)) fun r6 => (gd (decide (v1.size + r6.size ≤ A3)) (L0 (v1 ++ r6) (B4 (v2 + 1)) a0))))) (bd (Y8 k a0.2.2.2.2.2.2.1) fun r7 => (gd (decide (v1.size + r7.size ≤ A3)) (some (v1 ++ r7)))))
def P8 (k : Nat) : Nat → ByteArray → Int → A0 → Option ByteArray
 | 0, _, _, _ => none
 | n + 1, v1, v2, a0 => Ae5 k (P8 k n) v1 v2 a0
def A56 (k : Nat) (L0 : ByteArray → Int → A0 → Option ByteArray) (a0 : A0) : Option ByteArray := (bd (u0 k a0.2.1) fun r1 => (bd (u0 k a0.2.2.1) fun r2 => (gd (decide (r1.size + r2.size ≤ A3)) (bd (u0 k a0.2.2.2.1) fun r3 => (gd (decide ((r1 ++ r2).size + r3.size ≤ A3)) (bd (u0 k a0.2.2.2.2.1) fun r4 => (gd (decide (((r1 ++ r2) ++ r3).size + r4.size ≤ A3)) (bd (N0 k (a0.2.2.2.2.2.1.length : Int)) fun r5 => (gd (decide ((((r1 ++ r2) ++ r3) ++ r4).size + r5.size ≤ A3)) (L0 ((((r1 ++ r2) ++ r3) ++ r4) ++ r5) 0 a0))))))))))
def u5 (k : Nat) (a0 : A0) : Option ByteArray := A56 k (P8 k k) a0
end
noncomputable section
def Ao9 (k : Nat) (L0 : ByteArray → Int → A0 → Option (ByteArray × Bool)) (v1 : ByteArray) (v2 : Int) (a0 : A0) : Option (ByteArray × Bool) := (br (decide (v2 < (a0.2.2.2.2.2.2.2.1.length : Int))) (gd (decide (0 ≤ v2)) (gd (decide (v2 < (a0.2.2.2.2.2.2.2.1.length : Int))) (bd (N0 k (rd 0 a0.2.2.2.2.2.2.2.1 v2.toNat)) fun r5 => (gd (decide (v1.size + r5.size ≤ A3)) (L0 (v1 ++ r5) (B4 (v2 + 1)) a0))))) (bd (N0 k a0.2.2.2.2.2.2.2.2.1) fun r6 => (gd (decide (v1.size + r6.size ≤ A3)) (some ((v1 ++ r6), true)))))
def V6 (k : Nat) : Nat → ByteArray → Int → A0 → Option (ByteArray × Bool)
 | 0, _, _, _ => none
 | n + 1, v1, v2, a0 => Ao9 k (V6 k n) v1 v2 a0
def Co1 (k : Nat) (L0 : ByteArray → Int → A0 → Option (ByteArray × Bool)) (a0 : A0) : Option (ByteArray × Bool) := (bd (J8 k a0) fun r1 => (br (!r1) (some ((⟨#[]⟩ : ByteArray), false)) (bd (N0 k a0.1) fun r2 => (bd (u5 k a0) fun r3 => (gd (decide (r2.size + r3.size ≤ A3)) (bd (N0 k (a0.2.2.2.2.2.2.2.1.length : Int)) fun r4 => (gd (decide ((r2 ++ r3).size + r4.size ≤ A3)) (L0 ((r2 ++ r3) ++ r4) 0 a0))))))))
def A11 (k : Nat) (a0 : A0) : Option (ByteArray × Bool) := Co1 k (V6 k k) a0
end
noncomputable section
def Bo2 (k : Nat) (L2 : Int → C2 → List Int → Option (ByteArray × Bool)) (v5 : Int) (a0 : C2) (xs4 : List Int) : Option (ByteArray × Bool) := (br (decide (v5 < (a0.2.2.1.length : Int))) (gd (decide (0 ≤ v5)) (gd (decide (v5 < (a0.2.2.1.length : Int))) (bd (N0 k (rd H8 a0.2.2.1 v5.toNat).2.1) fun r9 => (gd (decide (xs4.length + (D4 r9).length ≤ A3)) (L2 (B4 (v5 + 1)) a0 (xs4 ++ (D4 r9))))))) (br (decide ((xs4.length : Int) > 20000)) (some ((⟨#[]⟩ : ByteArray), false)) (some ((C0 xs4), true))))
def Bo3 (k : Nat) (L1 : Int → C2 → List Int → Option (ByteArray × Bool)) (L2 : Int → C2 → List Int → Option (ByteArray × Bool)) (v3 : Int) (a0 : C2) (xs4 : List Int) : Option (ByteArray × Bool) := (br (decide (v3 < (a0.2.1.1.length : Int))) (gd (decide (0 ≤ v3)) (gd (decide (v3 < (a0.2.1.1.length : Int))) (bd (A11 k (rd D3 a0.2.1.1 v3.toNat)) fun r7 => (bd (Y8 k r7.1) fun r8 => (gd (decide (xs4.length + (D4 r8).length ≤ A3)) (L1 (B4 (v3 + 1)) a0 (xs4 ++ (D4 r8)))))))) (L2 0 a0 xs4))
def Bo4 (k : Nat) (L0 : Int → C2 → List Int → Option (ByteArray × Bool)) (L1 : Int → C2 → List Int → Option (ByteArray × Bool)) (v1 : Int) (a0 : C2) (xs2 : List Int) : Option (ByteArray × Bool) := (br (decide (v1 < (a0.1.length : Int))) (gd (decide (0 ≤ v1)) (gd (decide (v1 < (a0.1.length : Int))) (bd (N0 k (rd A9 a0.1 v1.toNat).1) fun r3 => (bd (N0 k (rd A9 a0.1 v1.toNat).2.1) fun r4 => (gd (decide (r3.size + r4.size ≤ A3)) (bd (Y8 k (rd A9 a0.1 v1.toNat).2.2.1) fun r5 => (gd (decide ((r3 ++ r4).size + r5.size ≤ A3)) (gd (decide (xs2.length + (D4 ((r3 ++ r4) ++ r5)).length ≤ A3)) (L0 (B4 (v1 + 1)) a0 (xs2 ++ (D4 ((r3 ++ r4) ++ r5)))))))))))) (bd (N0 k (a0.2.1.1.length : Int)) fun r6 => (gd (decide (xs2.length + (D4 r6).length ≤ A3)) (L1 0 a0 (xs2 ++ (D4 r6))))))
def u6 (k : Nat) : Nat → Int → C2 → List Int → Option (ByteArray × Bool)
 | 0, _, _, _ => none
 | n + 1, v5, a0, xs4 => Bo2 k (u6 k n) v5 a0 xs4
def u7 (k : Nat) : Nat → Int → C2 → List Int → Option (ByteArray × Bool)
 | 0, _, _, _ => none
 | n + 1, v3, a0, xs4 => Bo3 k (u7 k n) (u6 k n) v3 a0 xs4
def Y9 (k : Nat) : Nat → Int → C2 → List Int → Option (ByteArray × Bool)
 | 0, _, _, _ => none
 | n + 1, v1, a0, xs2 => Bo4 k (Y9 k n) (u7 k n) v1 a0 xs2
def Cz7 (k : Nat) (L0 : Int → C2 → List Int → Option (ByteArray × Bool)) (a0 : C2) : Option (ByteArray × Bool) := (bd (Ao8 k a0) fun r1 => (br (!r1) (some ((⟨#[]⟩ : ByteArray), false)) (bd (N0 k (a0.1.length : Int)) fun r2 => (L0 0 a0 (D4 r2)))))
def Al0 (k : Nat) (a0 : C2) : Option (ByteArray × Bool) := Cz7 k (Y9 k k) a0
end
noncomputable section
def Cz8 (k : Nat) (L0 : Int → List K8 → Option C2) (v1 : Int) (xs2 : List K8) : Option C2 := (br (decide (v1 ≤ 2)) (gd (decide (xs2.length + ([(v1, 0, [], ())] : List K8).length ≤ A3)) (L0 (B4 (v1 + 1)) (xs2 ++ ([(v1, 0, [], ())] : List K8)))) (some ([], ([], [], [], ()), xs2, ())))
def A88 (k : Nat) : Nat → Int → List K8 → Option C2
 | 0, _, _ => none
 | n + 1, v1, xs2 => Cz8 k (A88 k n) v1 xs2
def De8 (k : Nat) (L0 : Int → List K8 → Option C2) : Option C2 := (L0 1 [])
def Bt8 (k : Nat) : Option C2 := De8 k (A88 k k)
end
def Ab4 (k : Nat) (a0 : Int) : Option Int := (br (decide (a0 < 10)) (some (IntKind.wrap .u8 (B4 (48 + a0)))) (some (IntKind.wrap .u8 (B4 ((B4 (97 + a0)) - 10)))))
noncomputable section
def Bz6 (k : Nat) (L0 : Int → Bool → ByteArray → Option ByteArray) (a0 : Int) (v1 : Bool) (v2 : ByteArray) : Option ByteArray := (br (a0 != 0) (ng (a0 == a0 && (10 : Int) == 0) (br (decide ((Int.tmod a0 10) < 0)) (bd (Ab4 k (B4 (0 - (Int.tmod a0 10)))) fun r1 => (gd (decide ((C0 [r1]).size + v2.size ≤ A3)) (ng (a0 == a0 && (10 : Int) == 0) (L0 (B4 (Int.tdiv a0 10)) v1 ((C0 [r1]) ++ v2))))) (bd (Ab4 k (Int.tmod a0 10)) fun r2 => (gd (decide ((C0 [r2]).size + v2.size ≤ A3)) (ng (a0 == a0 && (10 : Int) == 0) (L0 (B4 (Int.tdiv a0 10)) v1 ((C0 [r2]) ++ v2))))))) (br v1 (gd (decide ((⟨#[45]⟩ : ByteArray).size + v2.size ≤ A3)) (some ((⟨#[45]⟩ : ByteArray) ++ v2))) (some v2)))
def m8 (k : Nat) : Nat → Int → Bool → ByteArray → Option ByteArray
 | 0, _, _, _ => none
 | n + 1, a0, v1, v2 => Bz6 k (m8 k n) a0 v1 v2
def De9 (k : Nat) (L0 : Int → Bool → ByteArray → Option ByteArray) (a0 : Int) : Option ByteArray := (br (a0 == 0) (some (⟨#[48]⟩ : ByteArray)) (L0 a0 (decide (a0 < 0)) (⟨#[]⟩ : ByteArray)))
def W9 (k : Nat) (a0 : Int) : Option ByteArray := De9 k (m8 k k) a0
end
def Aw2 (k : Nat) (a0 : A0) : Option Bool := (bd (Am1 k a0 (0, 0, 0, 0, 0, [], ByteArray.empty, [], 0, ())) fun r1 => (some r1))
def Am2 (k : Nat) (a0 : D2) : Option Bool := (bd (E9 k a0.1 1 5) fun r1 => (br (!r1) (some false) (bd (E9 k a0.2.1 0 1000000) fun r2 => (br (!r2) (some false) (bd (E9 k a0.2.2.1 0 1000000) fun r3 => (br (!r3) (some false) (br (a0.1 != 2) (br (a0.1 != 3) (bd (Aw2 k a0.2.2.2.1) fun r4 => (br (!r4) (some false) (br (a0.1 != 4) (br (a0.2.2.2.2.1 != 0) (some false) (br (a0.2.2.2.2.2.1 != 0) (some false) (br (a0.1 == 1) (br (a0.2.1 == 0) (some (a0.2.2.1 == 0)) (some false)) (br (a0.1 == 2) (bd (W7 k a0.2.2.2.1) fun r5 => (br r5 (br (a0.2.2.2.1.1 == 0) (br (a0.2.2.2.1.2.2.2.2.2.2.2.2.1 == 0) (some ((a0.2.2.2.1.2.2.2.2.2.2.2.1.length : Int) == 0)) (some false)) (some false)) (some false))) (br (a0.1 == 3) (bd (J8 k a0.2.2.2.1) fun r6 => (br r6 (ng (a0.2.2.2.1.1 == a0.2.2.2.1.1 && (2 : Int) == 0) (some ((Int.tmod a0.2.2.2.1.1 2) == 1))) (some false))) (br (a0.1 == 4) (bd (E9 k a0.2.2.2.2.1 1 2) fun r7 => (br r7 (bd (E9 k a0.2.2.2.2.2.1 0 1000000) fun r8 => (some r8)) (some false))) (some true))))))) (br (a0.1 == 1) (br (a0.2.1 == 0) (some (a0.2.2.1 == 0)) (some false)) (br (a0.1 == 2) (bd (W7 k a0.2.2.2.1) fun r9 => (br r9 (br (a0.2.2.2.1.1 == 0) (br (a0.2.2.2.1.2.2.2.2.2.2.2.2.1 == 0) (some ((a0.2.2.2.1.2.2.2.2.2.2.2.1.length : Int) == 0)) (some false)) (some false)) (some false))) (br (a0.1 == 3) (bd (J8 k a0.2.2.2.1) fun r10 => (br r10 (ng (a0.2.2.2.1.1 == a0.2.2.2.1.1 && (2 : Int) == 0) (some ((Int.tmod a0.2.2.2.1.1 2) == 1))) (some false))) (br (a0.1 == 4) (bd (E9 k a0.2.2.2.2.1 1 2) fun r11 => (br r11 (bd (E9 k a0.2.2.2.2.2.1 0 1000000) fun r12 => (some r12)) (some false))) (some true)))))))) (br (a0.1 != 4) (br (a0.2.2.2.2.1 != 0) (some false) (br (a0.2.2.2.2.2.1 != 0) (some false) (br (a0.1 == 1) (br (a0.2.1 == 0) (some (a0.2.2.1 == 0)) (some false)) (br (a0.1 == 2) (bd (W7 k a0.2.2.2.1) fun r13 => (br r13 (br (a0.2.2.2.1.1 == 0) (br (a0.2.2.2.1.2.2.2.2.2.2.2.2.1 == 0) (some ((a0.2.2.2.1.2.2.2.2.2.2.2.1.length : Int) == 0)) (some false)) (some false)) (some false))) (br (a0.1 == 3) (bd (J8 k a0.2.2.2.1) fun r14 => (br r14 (ng (a0.2.2.2.1.1 == a0.2.2.2.1.1 && (2 : Int) == 0) (some ((Int.tmod a0.2.2.2.1.1 2) == 1))) (some false))) (br (a0.1 == 4) (bd (E9 k a0.2.2.2.2.1 1 2) fun r15 => (br r15 (bd (E9 k a0.2.2.2.2.2.1 0 1000000) fun r16 => (some r16)) (some false))) (some true))))))) (br (a0.1 == 1) (br (a0.2.1 == 0) (some (a0.2.2.1 == 0)) (some false)) (br (a0.1 == 2) (bd (W7 k a0.2.2.2.1) fun r17 => (br r17 (br (a0.2.2.2.1.1 == 0) (br (a0.2.2.2.1.2.2.2.2.2.2.2.2.1 == 0) (some ((a0.2.2.2.1.2.2.2.2.2.2.2.1.length : Int) == 0)) (some false)) (some false)) (some false))) (br (a0.1 == 3) (bd (J8 k a0.2.2.2.1) fun r18 => (br r18 (ng (a0.2.2.2.1.1 == a0.2.2.2.1.1 && (2 : Int) == 0) (some ((Int.tmod a0.2.2.2.1.1 2) == 1))) (some false))) (br (a0.1 == 4) (bd (E9 k a0.2.2.2.2.1 1 2) fun r19 => (br r19 (bd (E9 k a0.2.2.2.2.2.1 0 1000000) fun r20 => (some r20)) (some false))) (some true))))))) (br (a0.1 != 4) (br (a0.2.2.2.2.1 != 0) (some false) (br (a0.2.2.2.2.2.1 != 0) (some false) (br (a0.1 == 1) (br (a0.2.1 == 0) (some (a0.2.2.1 == 0)) (some false)) (br (a0.1 == 2) (bd (W7 k a0.2.2.2.1) fun r21 => (br r21 (br (a0.2.2.2.1.1 == 0) (br (a0.2.2.2.1.2.2.2.2.2.2.2.2.1 == 0) (some ((a0.2.2.2.1.2.2.2.2.2.2.2.1.length : Int) == 0)) (some false)) (some false)) (some false))) (br (a0.1 == 3) (bd (J8 k a0.2.2.2.1) fun r22 => (br r22 (ng (a0.2.2.2.1.1 == a0.2.2.2.1.1 && (2 : Int) == 0) (some ((Int.tmod a0.2.2.2.1.1 2) == 1))) (some false))) (br (a0.1 == 4) (bd (E9 k a0.2.2.2.2.1 1 2) fun r23 => (br r23 (bd (E9 k a0.2.2.2.2.2.1 0 1000000) fun r24 => (some r24)) (some false))) (some true))))))) (br (a0.1 == 1) (br (a0.2.1 == 0) (some (a0.2.2.1 == 0)) (some false)) (br (a0.1 == 2) (bd (W7 k a0.2.2.2.1) fun r25 => (br r25 (br (a0.2.2.2.1.1 == 0) (br (a0.2.2.2.1.2.2.2.2.2.2.2.2.1 == 0) (some ((a0.2.2.2.1.2.2.2.2.2.2.2.1.length : Int) == 0)) (some false)) (some false)) (some false))) (br (a0.1 == 3) (bd (J8 k a0.2.2.2.1) fun r26 => (br r26 (ng (a0.2.2.2.1.1 == a0.2.2.2.1.1 && (2 : Int) == 0) (some ((Int.tmod a0.2.2.2.1.1 2) == 1))) (some false))) (br (a0.1 == 4) (bd (E9 k a0.2.2.2.2.1 1 2) fun r27 => (br r27 (bd (E9 k a0.2.2.2.2.2.1 0 1000000) fun r28 => (some r28)) (some false))) (some true)))))))))))))
def Aw3 (k : Nat) (a0 : A0) : Option A0 := (gd (decide (([] : List Int).length + a0.2.2.2.2.2.1.length ≤ A3)) (gd (decide (([] : List Int).length + a0.2.2.2.2.2.2.2.1.length ≤ A3)) (some (a0.1, a0.2.1, a0.2.2.1, a0.2.2.2.1, a0.2.2.2.2.1, (([] : List Int) ++ a0.2.2.2.2.2.1), a0.2.2.2.2.2.2.1, (([] : List Int) ++ a0.2.2.2.2.2.2.2.1), a0.2.2.2.2.2.2.2.2))))
noncomputable section
def Aw4 (k : Nat) (L0 : List A0 → Int → List A0 → Option (List A0)) (a0 : List A0) (v1 : Int) (xs2 : List A0) : Option (List A0) := (br (decide (v1 < (a0.length : Int))) (gd (decide (0 ≤ v1)) (gd (decide (v1 < (a0.length : Int))) (bd (Aw3 k (rd D3 a0 v1.toNat)) fun r1 => (gd (decide (xs2.length + ([r1] : List A0).length ≤ A3)) (L0 a0 (B4 (v1 + 1)) (xs2 ++ ([r1] : List A0))))))) (some xs2))
def P9 (k : Nat) : Nat → List A0 → Int → List A0 → Option (List A0)
 | 0, _, _, _ => none
 | n + 1, a0, v1, xs2 => Aw4 k (P9 k n) a0 v1 xs2
def B70 (k : Nat) (L0 : List A0 → Int → List A0 → Option (List A0)) (a0 : List A0) : Option (List A0) := (L0 a0 0 ([] : List A0))
def Ah3 (k : Nat) (a0 : List A0) : Option (List A0) := B70 k (P9 k k) a0
end
noncomputable section
def Bz7 (k : Nat) (L0 : Int → A8 → List A0 → List (List A1) → Option A8) (v1 : Int) (a0 : A8) (r1 : List A0) (xs2 : List (List A1)) : Option A8 := (br (decide (v1 < (a0.2.1.length : Int))) (gd (decide (0 ≤ v1)) (gd (decide (v1 < (a0.2.1.length : Int))) (gd (decide (([] : List A1).length + (rd [] a0.2.1 v1.toNat).length ≤ A3)) (gd (decide (xs2.length + [(([] : List A1) ++ (rd [] a0.2.1 v1.toNat))].length ≤ A3)) (L0 (B4 (v1 + 1)) a0 r1 (xs2 ++ [(([] : List A1) ++ (rd [] a0.2.1 v1.toNat))])))))) (some (r1, xs2, (([] : List Bool) ++ a0.2.2.1), ())))
def m9 (k : Nat) : Nat → Int → A8 → List A0 → List (List A1) → Option A8
 | 0, _, _, _, _ => none
 | n + 1, v1, a0, r1, xs2 => Bz7 k (m9 k n) v1 a0 r1 xs2
def Df0 (k : Nat) (L0 : Int → A8 → List A0 → List (List A1) → Option A8) (a0 : A8) : Option A8 := (bd (Ah3 k a0.1) fun r1 => (gd (decide (([] : List Bool).length + a0.2.2.1.length ≤ A3)) (L0 0 a0 r1 [])))
def Bc0 (k : Nat) (a0 : A8) : Option A8 := Df0 k (m9 k k) a0
end
noncomputable section
def Bz8 (k : Nat) (L0 : Int → C2 → A8 → List K8 → Option C2) (v1 : Int) (a0 : C2) (r1 : A8) (xs2 : List K8) : Option C2 := (br (decide (v1 < (a0.2.2.1.length : Int))) (gd (decide (0 ≤ v1)) (gd (decide (v1 < (a0.2.2.1.length : Int))) (gd (decide (([] : List Int).length + (rd H8 a0.2.2.1 v1.toNat).2.2.1.length ≤ A3)) (gd (decide (xs2.length + ([((rd H8 a0.2.2.1 v1.toNat).1, (rd H8 a0.2.2.1 v1.toNat).2.1, (([] : List Int) ++ (rd H8 a0.2.2.1 v1.toNat).2.2.1), ())] : List K8).length ≤ A3)) (L0 (B4 (v1 + 1)) a0 r1 (xs2 ++ ([((rd H8 a0.2.2.1 v1.toNat).1, (rd H8 a0.2.2.1 v1.toNat).2.1, (([] : List Int) ++ (rd H8 a0.2.2.1 v1.toNat).2.2.1), ())] : List K8))))))) (some ((([] : List D9) ++ a0.1), r1, xs2, ())))
def n6 (k : Nat) : Nat → Int → C2 → A8 → List K8 → Option C2
 | 0, _, _, _, _ => none
 | n + 1, v1, a0, r1, xs2 => Bz8 k (n6 k n) v1 a0 r1 xs2
def Df1 (k : Nat) (L0 : Int → C2 → A8 → List K8 → Option C2) (a0 : C2) : Option C2 := (gd (decide (([] : List D9).length + a0.1.length ≤ A3)) (bd (Bc0 k a0.2.1) fun r1 => (L0 0 a0 r1 [])))
def Am3 (k : Nat) (a0 : C2) : Option C2 := Df1 k (n6 k k) a0
end
def Aw5 (k : Nat) (a0 : A8) (a1 : A0) : Option (A8 × Bool) := (br ((a0.1.length : Int) != (a0.2.1.length : Int)) (some (([], [], [], ()), false)) (br ((a0.1.length : Int) != (a0.2.2.1.length : Int)) (some (([], [], [], ()), false)) (bd (Be1 k a0 a1) fun r1 => (bd (Bc0 k r1.1) fun r2 => (some (r2, r1.2))))))
noncomputable section
def Bk9 (k : Nat) (L1 : Int → Bool → Int → A8 → List Int → Option (List Int)) (v1 : Int) (a0 : A8) (xs2 : List Int) : Option (List Int) := (br (decide (v1 < (a0.1.length : Int))) (L1 v1 false 0 a0 xs2) (some xs2))
def Bl0 (k : Nat) (L1 : Int → Bool → Int → A8 → List Int → Option (List Int)) (L0 : Int → A8 → List Int → Option (List Int)) (v1 : Int) (v3 : Bool) (v4 : Int) (a0 : A8) (xs2 : List Int) : Option (List Int) := (br (decide (v4 < (a0.1.length : Int))) (br v3 (L1 v1 true (B4 (v4 + 1)) a0 xs2) (gd (decide (0 ≤ v4)) (gd (decide (v4 < (a0.1.length : Int))) (gd (decide (0 ≤ v1)) (gd (decide (v1 < (a0.1.length : Int))) (bd (Az4 k (rd D3 a0.1 v4.toNat).2.2.2.2.2.2.2.1 (rd D3 a0.1 v1.toNat).1) fun r1 => (L1 v1 r1 (B4 (v4 + 1)) a0 xs2))))))) (br (!v3) (gd (decide (0 ≤ v1)) (gd (decide (v1 < (a0.1.length : Int))) (bd (Bt3 k xs2 (rd D3 a0.1 v1.toNat).1) fun r2 => (L0 (B4 (v1 + 1)) a0 r2)))) (L0 (B4 (v1 + 1)) a0 xs2)))
def A12 (k : Nat) : Nat → (Int → A8 → List Int → Option (List Int)) × (Int → Bool → Int → A8 → List Int → Option (List Int))
 | 0 => (fun _ _ _ => none, fun _ _ _ _ _ => none)
 | n + 1 => (Bk9 k (A12 k n).2, Bl0 k (A12 k n).2 (A12 k n).1)
def Ab5 (k : Nat) (n : Nat) : Int → A8 → List Int → Option (List Int) := (A12 k n).1
def A13 (k : Nat) (n : Nat) : Int → Bool → Int → A8 → List Int → Option (List Int) := (A12 k n).2
theorem Fh4 (k : Nat) (n : Nat) (v1 : Int) (a0 : A8) (xs2 : List Int) : Ab5 k (n + 1) v1 a0 xs2 = Bk9 k (A13 k n) v1 a0 xs2 := rfl
theorem Fh5 (k : Nat) (n : Nat) (v1 : Int) (v3 : Bool) (v4 : Int) (a0 : A8) (xs2 : List Int) : A13 k (n + 1) v1 v3 v4 a0 xs2 = Bl0 k (A13 k n) (Ab5 k n) v1 v3 v4 a0 xs2 := rfl
def Dv5 (k : Nat) (L0 : Int → A8 → List Int → Option (List Int)) (a0 : A8) : Option (List Int) := (L0 0 a0 [])
def Ap0 (k : Nat) (a0 : A8) : Option (List Int) := Dv5 k (Ab5 k k) a0
end
def Bt9 (k : Nat) (a0 : A8) : Option (List A1) := (bd (Ap0 k a0) fun r1 => (bd (N8 k a0 r1) fun r2 => (some r2.1)))
noncomputable section
def Bz9 (k : Nat) (L0 : Int → A8 → List Int → List A1 → Option (List Int)) (v1 : Int) (a0 : A8) (xs2 : List Int) (r1 : List A1) : Option (List Int) := (br (decide (v1 ≤ 5)) (bd (S9 k a0.1 r1 v1) fun r2 => (br (r2 == 2) (gd (decide (xs2.length + [v1].length ≤ A3)) (L0 (B4 (v1 + 1)) a0 (xs2 ++ [v1]) r1)) (L0 (B4 (v1 + 1)) a0 xs2 r1))) (some xs2))
def n7 (k : Nat) : Nat → Int → A8 → List Int → List A1 → Option (List Int)
 | 0, _, _, _, _ => none
 | n + 1, v1, a0, xs2, r1 => Bz9 k (n7 k n) v1 a0 xs2 r1
def Df2 (k : Nat) (L0 : Int → A8 → List Int → List A1 → Option (List Int)) (a0 : A8) : Option (List Int) := (bd (Bt9 k a0) fun r1 => (L0 1 a0 [] r1))
def Bu0 (k : Nat) (a0 : A8) : Option (List Int) := Df2 k (n7 k k) a0
end
def Cz9 (k : Nat) (a0 : A8) (a1 : Int) (a2 : A0) : Option A0 := (bd (Aw3 k a2) fun r1 => (bd (E9 k a1 0 1000000) fun r2 => (br r2 (br (a2.2.1 != 1) (bd (Ap0 k a0) fun r3 => (br (decide ((B4 ((r3.length : Int) - 3)) < 0)) (gd (decide (0 ≤ (r3.length : Int))) (gd (decide (([] : List Int).length + (r3.drop 0).length ≤ A3)) (bd (J9 k a0 (([] : List Int) ++ (r3.drop 0))) fun r4 => (some ((B4 (2 * a1)), r1.2.1, r1.2.2.1, r1.2.2.2.1, r1.2.2.2.2.1, r1.2.2.2.2.2.1, r1.2.2.2.2.2.2.1, (([] : List Int) ++ (r3.drop 0)), r4, ()))))) (gd (decide (0 ≤ (B4 ((r3.length : Int) - 3)))) (gd (decide ((B4 ((r3.length : Int) - 3)) ≤ (r3.length : Int))) (gd (decide (([] : List Int).length + (r3.drop (B4 ((r3.length : Int) - 3)).toNat).length ≤ A3)) (bd (J9 k a0 (([] : List Int) ++ (r3.drop (B4 ((r3.length : Int) - 3)).toNat))) fun r5 => (some ((B4 (2 * a1)), r1.2.1, r1.2.2.1, r1.2.2.2.1, r1.2.2.2.2.1, r1.2.2.2.2.2.1, r1.2.2.2.2.2.2.1, (([] : List Int) ++ (r3.drop (B4 ((r3.length : Int) - 3)).toNat)), r5, ())))))))) (bd (J9 k a0 []) fun r6 => (some ((B4 (2 * a1)), r1.2.1, r1.2.2.1, r1.2.2.2.1, r1.2.2.2.2.1, r1.2.2.2.2.2.1, r1.2.2.2.2.2.2.1, [], r6, ())))) (br (a2.2.1 != 1) (bd (Ap0 k a0) fun r7 => (br (decide ((B4 ((r7.length : Int) - 3)) < 0)) (gd (decide (0 ≤ (r7.length : Int))) (gd (decide (([] : List Int).length + (r7.drop 0).length ≤ A3)) (bd (J9 k a0 (([] : List Int) ++ (r7.drop 0))) fun r8 => (some (0, r1.2.1, r1.2.2.1, r1.2.2.2.1, r1.2.2.2.2.1, r1.2.2.2.2.2.1, r1.2.2.2.2.2.2.1, (([] : List Int) ++ (r7.drop 0)), r8, ()))))) (gd (decide (0 ≤ (B4 ((r7.length : Int) - 3)))) (gd (decide ((B4 ((r7.length : Int) - 3)) ≤ (r7.length : Int))) (gd (decide (([] : List Int).length + (r7.drop (B4 ((r7.length : Int) - 3)).toNat).length ≤ A3)) (bd (J9 k a0 (([] : List Int) ++ (r7.drop (B4 ((r7.length : Int) - 3)).toNat))) fun r9 => (some (0, r1.2.1, r1.2.2.1, r1.2.2.2.1, r1.2.2.2.2.1, r1.2.2.2.2.2.1, r1.2.2.2.2.2.2.1, (([] : List Int) ++ (r7.drop (B4 ((r7.length : Int) - 3)).toNat)), r9, ())))))))) (bd (J9 k a0 []) fun r10 => (some (0, r1.2.1, r1.2.2.1, r1.2.2.2.1, r1.2.2.2.2.1, r1.2.2.2.2.2.1, r1.2.2.2.2.2.2.1, [], r10, ())))))))
noncomputable section
def B00 (k : Nat) (L0 : Int → Int → List D9 → C2 → Option (C2 × ByteArray × Bool)) (a1 : Int) (v1 : Int) (xs2 : List D9) (r4 : C2) : Option (C2 × ByteArray × Bool) := (br (decide (v1 < (r4.1.length : Int))) (br (decide (v1 > 0)) (gd (decide (0 ≤ v1)) (gd (decide (v1 < (r4.1.length : Int))) (gd (decide (xs2.length + ([(rd A9 r4.1 v1.toNat)] : List D9).length ≤ A3)) (L0 a1 (B4 (v1 + 1)) (xs2 ++ ([(rd A9 r4.1 v1.toNat)] : List D9)) r4)))) (br (decide ((r4.1.length : Int) < 3)) (gd (decide (0 ≤ v1)) (gd (decide (v1 < (r4.1.length : Int))) (gd (decide (xs2.length + ([(rd A9 r4.1 v1.toNat)] : List D9).length ≤ A3)) (L0 a1 (B4 (v1 + 1)) (xs2 ++ ([(rd A9 r4.1 v1.toNat)] : List D9)) r4)))) (L0 a1 (B4 (v1 + 1)) xs2 r4))) (gd (decide (xs2.length + ([(a1, 0, ByteArray.empty, ())] : List D9).length ≤ A3)) (bd (W9 k a1) fun r5 => (gd (decide ((⟨#[111, 112, 101, 110, 32]⟩ : ByteArray).size + r5.size ≤ A3)) (bd (Ao8 k ((xs2 ++ ([(a1, 0, ByteArray.empty, ())] : List D9)), r4.2)) fun r6 => (br (!r6) (some (([], ([], [], [], ()), [], ()), (⟨#[]⟩ : ByteArray), false)) (bd (Am3 k ((xs2 ++ ([(a1, 0, ByteArray.empty, ())] : List D9)), r4.2)) fun r7 => (some (r7, ((⟨#[111, 112, 101, 110, 32]⟩ : ByteArray) ++ r5), true)))))))))
def Ae6 (k : Nat) (L1 : Int → ByteArray → Int → D2 → List D9 → List A0 → List (List A1) → List Bool → List K8 → Option (C2 × ByteArray × Bool)) (L2 : Int → A0 → D2 → List D9 → Int → (A8 × Bool) → List K8 → Int → ByteArray → Option (C2 × ByteArray × Bool)) (L3 : ByteArray → Int → List Int → D2 → List D9 → Int → List A0 → List (List A1) → List Bool → List K8 → Int → ByteArray → Option (C2 × ByteArray × Bool)) (a1 : Int) (v3 : ByteArray) (v4 : Int) (a2 : D2) (xs5 : List D9) (xs6 : List A0) (xs7 : List (List A1)) (xs8 : List Bool) (xs9 : List K8) : Option (C2 × ByteArray × Bool) := (br (decide (v4 < (xs5.length : Int))) (gd (decide (0 ≤ v4)) (gd (decide (v4 < (xs5.length : Int))) (br ((rd A9 xs5 v4.toNat).1 == a2.2.1) (gd (decide (0 ≤ v4)) (gd (decide (v4 < (xs5.length : Int))) (br (decide (a2.2.2.1 > (B4 ((rd A9 xs5 v4.toNat).2.1 + 1)))) (L1 a1 (⟨#[103, 97, 112]⟩ : ByteArray) (B4 ((xs5.length : Int) + 1)) a2 xs5 xs6 xs7 xs8 xs9) (br (decide (a2.2.2.1 < (rd A9 xs5 v4.toNat).2.1)) (L1 a1 (⟨#[111, 108, 100]⟩ : ByteArray) (B4 ((xs5.length : Int) + 1)) a2 xs5 xs6 xs7 xs8 xs9) (br (a2.2.2.1 == 0) (L1 a1 (⟨#[111, 108, 100]⟩ : ByteArray) (B4 ((xs5.length : Int) + 1)) a2 xs5 xs6 xs7 xs8 xs9) (br (a2.2.2.1 == (rd A9 xs5 v4.toNat).2.1) (L1 a1 (rd A9 xs5 v4.toNat).2.2.1 (B4 ((xs5.length : Int) + 1)) a2 xs5 xs6 xs7 xs8 xs9) (br (a2.1 == 2) (bd (Cz9 k (xs6, xs7, xs8, ()) a1 a2.2.2.2.1) fun r8 => (bd (Aw5 k (xs6, xs7, xs8, ()) r8) fun r9 => (br (!r9.2) (gd (decide (0 ≤ v4)) (gd (decide (v4 < (xs5.length : Int))) (L1 a1 (⟨#[114, 111, 111, 109]⟩ : ByteArray) (B4 ((((xs5.set v4.toNat ((rd A9 xs5 v4.toNat).1, a2.2.2.1, (⟨#[114, 111, 111, 109]⟩ : ByteArray), ())).length : Nat) : Int) + 1)) a2 (xs5.set v4.toNat ((rd A9 xs5 v4.toNat).1, a2.2.2.1, (⟨#[114, 111, 111, 109]⟩ : ByteArray), ())) xs6 xs7 xs8 xs9))) (gd (decide (0 ≤ (B4 ((r9.1.2.2.1.length : Int) - 1)))) (gd (decide ((B4 ((r9.1.2.2.1.length : Int) - 1)) < (r9.1.2.2.1.length : Int))) (br (!(rd false r9.1.2.2.1 (B4 ((r9.1.2.2.1.length : Int) - 1)).toNat)) (gd (decide (0 ≤ v4)) (gd (decide (v4 < (xs5.length : Int))) (L1 a1 (⟨#[100, 101, 110, 105, 101, 100]⟩ : ByteArray) (B4 ((((xs5.set v4.toNat ((rd A9 xs5 v4.toNat).1, a2.2.2.1, (⟨#[100, 101, 110, 105, 101, 100]⟩ : ByteArray), ())).length : Nat) : Int) + 1)) a2 (xs5.set v4.toNat ((rd A9 xs5 v4.toNat).1, a2.2.2.1, (⟨#[100, 101, 110, 105, 101, 100]⟩ : ByteArray), ())) xs6 xs7 xs8 xs9))) (L2 0 r8 a2 xs5 v4 r9 xs9 a1 v3))))))) (br (a2.1 == 3) (bd (Aw5 k (xs6, xs7, xs8, ()) a2.2.2.2.1) fun r11 => (br (!r11.2) (gd (decide (0 ≤ v4)) (gd (decide (v4 < (xs5.length : Int))) (L1 a1 (⟨#[114, 111, 111, 109]⟩ : ByteArray) (B4 ((((xs5.set v4.toNat ((rd A9 xs5 v4.toNat).1, a2.2.2.1, (⟨#[114, 111, 111, 109]⟩ : ByteArray), ())).length : Nat) : Int) + 1)) a2 (xs5.set v4.toNat ((rd A9 xs5 v4.toNat).1, a2.2.2.1, (⟨#[114, 111, 111, 109]⟩ : ByteArray), ())) xs6 xs7 xs8 xs9))) (gd (decide (0 ≤ (B4 ((r11.1.2.2.1.length : Int) - 1)))) (gd (decide ((B4 ((r11.1.2.2.1.length : Int) - 1)) < (r11.1.2.2.1.length : Int))) (br (rd false r11.1.2.2.1 (B4 ((r11.1.2.2.1.length : Int) - 1)).toNat) (bd (W9 k a2.2.2.2.1.1) fun r12 => (gd (decide ((⟨#[103, 111, 116, 32]⟩ : ByteArray).size + r12.size ≤ A3)) (gd (decide (0 ≤ v4)) (gd (decide (v4 < (xs5.length : Int))) (L1 a1 ((⟨#[103, 111, 116, 32]⟩ : ByteArray) ++ r12) (B4 ((((xs5.set v4.toNat ((rd A9 xs5 v4.toNat).1, a2.2.2.1, ((⟨#[103, 111, 116, 32]⟩ : ByteArray) ++ r12), ())).length : Nat) : Int) + 1)) a2 (xs5.set v4.toNat ((rd A9 xs5 v4.toNat).1, a2.2.2.1, ((⟨#[103, 111, 116, 32]⟩ : ByteArray) ++ r12), ())) r11.1.1 r11.1.2.1 r11.1.2.2.1 xs9))))) (bd (W9 k a2.2.2.2.1.1) fun r13 => (gd (decide ((⟨#[107, 101, 112, 116, 32]⟩ : ByteArray).size + r13.size ≤ A3)) (gd (decide (0 ≤ v4)) (gd (decide (v4 < (xs5.length : Int))) (L1 a1 ((⟨#[107, 101, 112, 116, 32]⟩ : ByteArray) ++ r13) (B4 ((((xs5.set v4.toNat ((rd A9 xs5 v4.toNat).1, a2.2.2.1, ((⟨#[107, 101, 112, 116, 32]⟩ : ByteArray) ++ r13), ())).length : Nat) : Int) + 1)) a2 (xs5.set v4.toNat ((rd A9 xs5 v4.toNat).1, a2.2.2.1, ((⟨#[107, 101, 112, 116, 32]⟩ : ByteArray) ++ r13), ())) r11.1.1 r11.1.2.1 r11.1.2.2.1 xs9)))))))))) (br (a2.1 == 4) (gd (decide (0 ≤ (B4 (a2.2.2.2.2.1 - 1)))) (gd (decide ((B4 (a2.2.2.2.2.1 - 1)) < (xs9.length : Int))) (br (decide (a2.2.2.2.2.2.1 > (((rd H8 xs9 (B4 (a2.2.2.2.2.1 - 1)).toNat).2.2.1.length : Nat) : Int))) (br (decide ((((rd H8 xs9 (B4 (a2.2.2.2.2.1 - 1)).toNat).2.2.1.length : Nat) : Int) > (rd H8 xs9 (B4 (a2.2.2.2.2.1 - 1)).toNat).2.1)) (gd (decide (0 ≤ v4)) (gd (decide (v4 < (xs5.length : Int))) (L1 a1 (⟨#[97, 99, 107, 101, 100]⟩ : ByteArray) (B4 ((((xs5.set v4.toNat ((rd A9 xs5 v4.toNat).1, a2.2.2.1, (⟨#[97, 99, 107, 101, 100]⟩ : ByteArray), ())).length : Nat) : Int) + 1)) a2 (xs5.set v4.toNat ((rd A9 xs5 v4.toNat).1, a2.2.2.1, (⟨#[97, 99, 107, 101, 100]⟩ : ByteArray), ())) xs6 xs7 xs8 (xs9.set (B4 (a2.2.2.2.2.1 - 1)).toNat ((rd H8 xs9 (B4 (a2.2.2.2.2.1 - 1)).toNat).1, (((rd H8 xs9 (B4 (a2.2.2.2.2.1 - 1)).toNat).2.2.1.length : Nat) : Int), (rd H8 xs9 (B4 (a2.2.2.2.2.1 - 1)).toNat).2.2))))) (gd (decide (0 ≤ v4)) (gd (decide (v4 < (xs5.length : Int))) (L1 a1 (⟨#[97, 99, 107, 101, 100]⟩ : ByteArray) (B4 ((((xs5.set v4.toNat ((rd A9 xs5 v4.toNat).1, a2.2.2.1, (⟨#[97, 99, 107, 101, 100]⟩ : ByteArray), ())).length : Nat) : Int) + 1)) a2 (xs5.set v4.toNat ((rd A9 xs5 v4.toNat).1, a2.2.2.1, (⟨#[97, 99, 107, 101, 100]⟩ : ByteArray), ())) xs6 xs7 xs8 xs9)))) (br (decide (a2.2.2.2.2.2.1 > (rd H8 xs9 (B4 (a2.2.2.2.2.1 - 1)).toNat).2.1)) (gd (decide (0 ≤ v4)) (gd (decide (v4 < (xs5.length : Int))) (L1 a1 (⟨#[97, 99, 107, 101, 100]⟩ : ByteArray) (B4 ((((xs5.set v4.toNat ((rd A9 xs5 v4.toNat).1, a2.2.2.1, (⟨#[97, 99, 107, 101, 100]⟩ : ByteArray), ())).length : Nat) : Int) + 1)) a2 (xs5.set v4.toNat ((rd A9 xs5 v4.toNat).1, a2.2.2.1, (⟨#[97, 99, 107, 101, 100]⟩ : ByteArray), ())) xs6 xs7 xs8 (xs9.set (B4 (a2.2.2.2.2.1 - 1)).toNat ((rd H8 xs9 (B4 (a2.2.2.2.2.1 - 1)).toNat).1, a2.2.2.2.2.2.1, (rd H8 xs9 (B4 (a2.2.2.2.2.1 - 1)).toNat).2.2))))) (gd (decide (0 ≤ v4)) (gd (decide (v4 < (xs5.length : Int))) (L1 a1 (⟨#[97, 99, 107, 101, 100]⟩ : ByteArray) (B4 ((((xs5.set v4.toNat ((rd A9 xs5 v4.toNat).1, a2.2.2.1, (⟨#[97, 99, 107, 101, 100]⟩ : ByteArray), ())).length : Nat) : Int) + 1)) a2 (xs5.set v4.toNat ((rd A9 xs5 v4.toNat).1, a2.2.2.1, (⟨#[97, 99, 107, 101, 100]⟩ : ByteArray), ())) xs6 xs7 xs8 xs9))))))) (bd (Bu0 k (xs6, xs7, xs8, ())) fun r14 => (L3 (⟨#[105, 110]⟩ : ByteArray) 0 r14 a2 xs5 v4 xs6 xs7 xs8 xs9 a1 v3))))))))))) (L1 a1 v3 (B4 (v4 + 1)) a2 xs5 xs6 xs7 xs8 xs9)))) (bd (Ao8 k (xs5, (xs6, xs7, xs8, ()), xs9, ())) fun r16 => (br (!r16) (some (([], ([], [], [], ()), [], ()), (⟨#[]⟩ : ByteArray), false)) (bd (Am3 k (xs5, (xs6, xs7, xs8, ()), xs9, ())) fun r17 => (some (r17, v3, true))))))
def A89 (k : Nat) (L2 : Int → A0 → D2 → List D9 → Int → (A8 × Bool) → List K8 → Int → ByteArray → Option (C2 × ByteArray × Bool)) (L1 : Int → ByteArray → Int → D2 → List D9 → List A0 → List (List A1) → List Bool → List K8 → Option (C2 × ByteArray × Bool)) (v10 : Int) (r8 : A0) (a2 : D2) (xs5 : List D9) (v4 : Int) (r9 : A8 × Bool) (xs11 : List K8) (a1 : Int) (v3 : ByteArray) : Option (C2 × ByteArray × Bool) := (br (decide (v10 < (xs11.length : Int))) (gd (decide (0 ≤ v10)) (gd (decide (v10 < (xs11.length : Int))) (gd (decide (([] : List Int).length + (rd H8 xs11 v10.toNat).2.2.1.length ≤ A3)) (gd (decide ((([] : List Int) ++ (rd H8 xs11 v10.toNat).2.2.1).length + [r8.1].length ≤ A3)) (gd (decide (0 ≤ v10)) (gd (decide (v10 < (xs11.length : Int))) (L2 (B4 (v10 + 1)) r8 a2 xs5 v4 r9 (xs11.set v10.toNat ((rd H8 xs11 v10.toNat).1, (rd H8 xs11 v10.toNat).2.1, ((([] : List Int) ++ (rd H8 xs11 v10.toNat).2.2.1) ++ [r8.1]), ())) a1 v3))))))) (bd (W9 k r8.1) fun r10 => (gd (decide ((⟨#[115, 101, 110, 116, 32]⟩ : ByteArray).size + r10.size ≤ A3)) (gd (decide (0 ≤ v4)) (gd (decide (v4 < (xs5.length : Int))) (L1 a1 ((⟨#[115, 101, 110, 116, 32]⟩ : ByteArray) ++ r10) (B4 ((((xs5.set v4.toNat ((rd A9 xs5 v4.toNat).1, a2.2.2.1, ((⟨#[115, 101, 110, 116, 32]⟩ : ByteArray) ++ r10), ())).length : Nat) : Int) + 1)) a2 (xs5.set v4.toNat ((rd A9 xs5 v4.toNat).1, a2.2.2.1, ((⟨#[115, 101, 110, 116, 32]⟩ : ByteArray) ++ r10), ())) r9.1.1 r9.1.2.1 r9.1.2.2.1 xs11))))))
def A90 (k : Nat) (L3 : ByteArray → Int → List Int → D2 → List D9 → Int → List A0 → List (List A1) → List Bool → List K8 → Int → ByteArray → Option (C2 × ByteArray × Bool)) (L1 : Int → ByteArray → Int → D2 → List D9 → List A0 → List (List A1) → List Bool → List K8 → Option (C2 × ByteArray × Bool)) (v12 : ByteArray) (v13 : Int) (r14 : List Int) (a2 : D2) (xs5 : List D9) (v4 : Int) (xs6 : List A0) (xs7 : List (List A1)) (xs8 : List Bool) (xs9 : List K8) (a1 : Int) (v3 : ByteArray) : Option (C2 × ByteArray × Bool) := (br (decide (v13 < (r14.length : Int))) (gd (decide (v12.size + (⟨#[32]⟩ : ByteArray).size ≤ A3)) (gd (decide (0 ≤ v13)) (gd (decide (v13 < (r14.length : Int))) (bd (W9 k (rd 0 r14 v13.toNat)) fun r15 => (gd (decide ((v12 ++ (⟨#[32]⟩ : ByteArray)).size + r15.size ≤ A3)) (L3 ((v12 ++ (⟨#[32]⟩ : ByteArray)) ++ r15) (B4 (v13 + 1)) r14 a2 xs5 v4 xs6 xs7 xs8 xs9 a1 v3)))))) (gd (decide (0 ≤ v4)) (gd (decide (v4 < (xs5.length : Int))) (L1 a1 v12 (B4 ((((xs5.set v4.toNat ((rd A9 xs5 v4.toNat).1, a2.2.2.1, v12, ())).length : Nat) : Int) + 1)) a2 (xs5.set v4.toNat ((rd A9 xs5 v4.toNat).1, a2.2.2.1, v12, ())) xs6 xs7 xs8 xs9))))
def T8 (k : Nat) : Nat → Int → Int → List D9 → C2 → Option (C2 × ByteArray × Bool)
 | 0, _, _, _, _ => none
 | n + 1, a1, v1, xs2, r4 => B00 k (T8 k n) a1 v1 xs2 r4
def Q7 (k : Nat) : Nat → (Int → ByteArray → Int → D2 → List D9 → List A0 → List (List A1) → List Bool → List K8 → Option (C2 × ByteArray × Bool)) × (Int → A0 → D2 → List D9 → Int → (A8 × Bool) → List K8 → Int → ByteArray → Option (C2 × ByteArray × Bool)) × (ByteArray → Int → List Int → D2 → List D9 → Int → List A0 → List (List A1) → List Bool → List K8 → Int → ByteArray → Option (C2 × ByteArray × Bool))
 | 0 => (fun _ _ _ _ _ _ _ _ _ => none, fun _ _ _ _ _ _ _ _ _ => none, fun _ _ _ _ _ _ _ _ _ _ _ _ => none)
 | n + 1 => (Ae6 k (Q7 k n).1 (Q7 k n).2.1 (Q7 k n).2.2, A89 k (Q7 k n).2.1 (Q7 k n).1, A90 k (Q7 k n).2.2 (Q7 k n).1)
def I0 (k : Nat) (n : Nat) : Int → ByteArray → Int → D2 → List D9 → List A0 → List (List A1) → List Bool → List K8 → Option (C2 × ByteArray × Bool) := (Q7 k n).1
def Ae7 (k : Nat) (n : Nat) : Int → A0 → D2 → List D9 → Int → (A8 × Bool) → List K8 → Int → ByteArray → Option (C2 × ByteArray × Bool) := (Q7 k n).2.1
def Ae8 (k : Nat) (n : Nat) : ByteArray → Int → List Int → D2 → List D9 → Int → List A0 → List (List A1) → List Bool → List K8 → Int → ByteArray → Option (C2 × ByteArray × Bool) := (Q7 k n).2.2
theorem B01 (k : Nat) (n : Nat) (a1 : Int) (v3 : ByteArray) (v4 : Int) (a2 : D2) (xs5 : List D9) (xs6 : List A0) (xs7 : List (List A1)) (xs8 : List Bool) (xs9 : List K8) : I0 k (n + 1) a1 v3 v4 a2 xs5 xs6 xs7 xs8 xs9 = Ae6 k (I0 k n) (Ae7 k n) (Ae8 k n) a1 v3 v4 a2 xs5 xs6 xs7 xs8 xs9 := rfl
theorem Et7 (k : Nat) (n : Nat) (v10 : Int) (r8 : A0) (a2 : D2) (xs5 : List D9) (v4 : Int) (r9 : A8 × Bool) (xs11 : List K8) (a1 : Int) (v3 : ByteArray) : Ae7 k (n + 1) v10 r8 a2 xs5 v4 r9 xs11 a1 v3 = A89 k (Ae7 k n) (I0 k n) v10 r8 a2 xs5 v4 r9 xs11 a1 v3 := rfl
theorem Et8 (k : Nat) (n : Nat) (v12 : ByteArray) (v13 : Int) (r14 : List Int) (a2 : D2) (xs5 : List D9) (v4 : Int) (xs6 : List A0) (xs7 : List (List A1)) (xs8 : List Bool) (xs9 : List K8) (a1 : Int) (v3 : ByteArray) : Ae8 k (n + 1) v12 v13 r14 a2 xs5 v4 xs6 xs7 xs8 xs9 a1 v3 = A90 k (Ae8 k n) (I0 k n) v12 v13 r14 a2 xs5 v4 xs6 xs7 xs8 xs9 a1 v3 := rfl
def Df3 (k : Nat) (L0 : Int → Int → List D9 → C2 → Option (C2 × ByteArray × Bool)) (L1 : Int → ByteArray → Int → D2 → List D9 → List A0 → List (List A1) → List Bool → List K8 → Option (C2 × ByteArray × Bool)) (a0 : C2) (a1 : Int) (a2 : D2) : Option (C2 × ByteArray × Bool) := (bd (Ao8 k a0) fun r1 => (br (!r1) (some (([], ([], [], [], ()), [], ()), (⟨#[]⟩ : ByteArray), false)) (bd (Am2 k a2) fun r2 => (br (!r2) (some (([], ([], [], [], ()), [], ()), (⟨#[]⟩ : ByteArray), false)) (bd (E9 k a1 1 400000) fun r3 => (br (!r3) (some (([], ([], [], [], ()), [], ()), (⟨#[]⟩ : ByteArray), false)) (bd (Am3 k a0) fun r4 => (br (a2.1 == 1) (L0 a1 0 ([] : List D9) r4) (L1 a1 (⟨#[110, 111, 110, 101]⟩ : ByteArray) 0 a2 r4.1 r4.2.1.1 r4.2.1.2.1 r4.2.1.2.2.1 r4.2.2.1)))))))))
def Bu1 (k : Nat) (a0 : C2) (a1 : Int) (a2 : D2) : Option (C2 × ByteArray × Bool) := Df3 k (T8 k k) (I0 k k) a0 a1 a2
end
def O8 (k : Nat) (a0 : B0) (a1 : Int) : Option (Bool × B0 × Unit) := (bd (D0 k a0 a1) fun r1 => (some ((r1.1 == 0), r1.2.1, ())))
def T9 (k : Nat) (a0 : B0) (a1 : List Int) : Option (Int × B0 × Unit) := (bd (D0 k a0 (a1.length : Int)) fun r1 => (gd (decide (0 ≤ r1.1)) (gd (decide (r1.1 < (a1.length : Int))) (some ((rd 0 a1 r1.1.toNat), r1.2.1, ())))))
def Bc1 (k : Nat) (a0 : B0) (a1 : List ByteArray) : Option (ByteArray × B0 × Unit) := (bd (D0 k a0 (a1.length : Int)) fun r1 => (gd (decide (0 ≤ r1.1)) (gd (decide (r1.1 < (a1.length : Int))) (some ((rd ByteArray.empty a1 r1.1.toNat), r1.2.1, ())))))
noncomputable section
def Be2 (k : Nat) (L0 : Int → List Int → Int → Int → (Int × B0 × Unit) → (Int × B0 × Unit) → List Int → Option (A0 × B0 × Unit)) (v1 : Int) (v2 : List Int) (v3 : Int) (v4 : Int) (r1 : Int × B0 × Unit) (r2 : Int × B0 × Unit) (xs5 : List Int) : Option (A0 × B0 × Unit) := (br (decide (v1 < 5)) (bd (T9 k (v2, v3, v4, ()) [0, 0, 50, 50, 60, 100]) fun r7 => (gd (decide (xs5.length + [r7.1].length ≤ A3)) (L0 (B4 (v1 + 1)) r7.2.1.1 r7.2.1.2.1 r7.2.1.2.2.1 r1 r2 (xs5 ++ [r7.1])))) (bd (O8 k (v2, v3, v4, ()) 2) fun r8 => (br r8.1 (gd (decide (0 < (xs5.length : Int))) (some ((0, r1.1, (B4 (1 + r2.1)), 0, 0, (xs5.set 0 100), ByteArray.empty, [], 0, ()), r8.2.1, ()))) (some ((0, r1.1, (B4 (1 + r2.1)), 0, 0, xs5, ByteArray.empty, [], 0, ()), r8.2.1, ())))))
def V7 (k : Nat) : Nat → Int → List Int → Int → Int → (Int × B0 × Unit) → (Int × B0 × Unit) → List Int → Option (A0 × B0 × Unit)
 | 0, _, _, _, _, _, _, _ => none
 | n + 1, v1, v2, v3, v4, r1, r2, xs5 => Be2 k (V7 k n) v1 v2 v3 v4 r1 r2 xs5
def Co2 (k : Nat) (L0 : Int → List Int → Int → Int → (Int × B0 × Unit) → (Int × B0 × Unit) → List Int → Option (A0 × B0 × Unit)) (a0 : B0) : Option (A0 × B0 × Unit) := (bd (T9 k a0 [2, 2, 2, 2, 3, 4, 5, 5, 5]) fun r1 => (bd (D0 k r1.2.1 3) fun r2 => (br (r1.1 == 2) (bd (D0 k r2.2.1 4) fun r3 => (bd (O8 k r3.2.1 2) fun r4 => (br r4.1 (bd (T9 k r4.2.1 [0, 1, 1, 2, 2, 2, 3]) fun r5 => (br ((B4 (1 + r2.1)) != (B4 (1 + r2.1))) (br (r5.1 == 2) (some ((0, r1.1, (B4 (1 + r2.1)), (B4 (1 + r2.1)), 1, [], ByteArray.empty, [], 0, ()), r5.2.1, ())) (some ((0, r1.1, (B4 (1 + r2.1)), (B4 (1 + r2.1)), r5.1, [], ByteArray.empty, [], 0, ()), r5.2.1, ()))) (some ((0, r1.1, (B4 (1 + r2.1)), (B4 (1 + r2.1)), r5.1, [], ByteArray.empty, [], 0, ()), r5.2.1, ())))) (bd (T9 k r4.2.1 [0, 1, 1, 2, 2, 2, 3]) fun r6 => (br ((B4 (1 + r3.1)) != (B4 (1 + r2.1))) (br (r6.1 == 2) (some ((0, r1.1, (B4 (1 + r2.1)), (B4 (1 + r3.1)), 1, [], ByteArray.empty, [], 0, ()), r6.2.1, ())) (some ((0, r1.1, (B4 (1 + r2.1)), (B4 (1 + r3.1)), r6.1, [], ByteArray.empty, [], 0, ()), r6.2.1, ()))) (some ((0, r1.1, (B4 (1 + r2.1)), (B4 (1 + r3.1)), r6.1, [], ByteArray.empty, [], 0, ()), r6.2.1, ()))))))) (br (r1.1 == 3) (L0 0 r2.2.1.1 r2.2.1.2.1 r2.2.1.2.2.1 r1 r2 []) (br (r1.1 == 4) (bd (Bc1 k r2.2.1 [(⟨#[]⟩ : ByteArray), (⟨#[97]⟩ : ByteArray), (⟨#[104, 101, 108, 108, 111]⟩ : ByteArray), (⟨#[98, 32, 99]⟩ : ByteArray)]) fun r9 => (some ((0, r1.1, (B4 (1 + r2.1)), 0, 0, [], r9.1, [], 0, ()), r9.2.1, ()))) (br (r1.1 == 5) (bd (Bc1 k r2.2.1 [(⟨#[]⟩ : ByteArray), (⟨#[97]⟩ : ByteArray), (⟨#[104, 101, 108, 108, 111]⟩ : ByteArray), (⟨#[98, 32, 99]⟩ : ByteArray)]) fun r10 => (some ((0, r1.1, (B4 (1 + r2.1)), 0, 0, [], r10.1, [], 0, ()), r10.2.1, ()))) (some ((0, r1.1, (B4 (1 + r2.1)), 0, 0, [], ByteArray.empty, [], 0, ()), r2.2.1, ()))))))))
def Am4 (k : Nat) (a0 : B0) : Option (A0 × B0 × Unit) := Co2 k (V7 k k) a0
end
noncomputable section
def B02 (k : Nat) (L1 : Int → Int → List Int → Int → Int → A8 → Int → Int → Int → Int → ByteArray → Int → List A1 → List Int → List Int → Option (A0 × B0 × Unit)) (a2 : Int) (v6 : Int) (v7 : List Int) (v8 : Int) (v9 : Int) (a1 : A8) (v10 : Int) (v11 : Int) (v12 : Int) (v13 : Int) (v14 : ByteArray) (r6 : Int) (xs15 : List A1) (xs16 : List Int) (xs17 : List Int) : Option (A0 × B0 × Unit) := (br (decide (v6 < 6)) (bd (Av5 k a1.1 xs15 (a2, v10, v11, v12, v13, xs16, v14, xs17, r6, ())) fun r8 => (br (!r8) (bd (Am4 k (v7, v8, v9, ())) fun r9 => (L1 a2 (B4 (v6 + 1)) r9.2.1.1 r9.2.1.2.1 r9.2.1.2.2.1 a1 r9.1.2.1 r9.1.2.2.1 r9.1.2.2.2.1 r9.1.2.2.2.2.1 r9.1.2.2.2.2.2.2.1 r6 xs15 r9.1.2.2.2.2.2.1 xs17)) (br ((a1.1.length : Int) == 1) (gd (decide (0 < (a1.1.length : Int))) (gd (decide (0 < (a1.1.length : Int))) (some ((a2, 2, (rd D3 a1.1 0).2.2.1, (rd D3 a1.1 0).2.2.1, 2, [], ByteArray.empty, xs17, r6, ()), (v7, v8, v9, ()), ())))) (some ((a2, v10, v11, v12, v13, xs16, v14, xs17, r6, ()), (v7, v8, v9, ()), ()))))) (br ((a1.1.length : Int) == 1) (gd (decide (0 < (a1.1.length : Int))) (gd (decide (0 < (a1.1.length : Int))) (some ((a2, 2, (rd D3 a1.1 0).2.2.1, (rd D3 a1.1 0).2.2.1, 2, [], ByteArray.empty, xs17, r6, ()), (v7, v8, v9, ()), ())))) (some ((a2, v10, v11, v12, v13, xs16, v14, xs17, r6, ()), (v7, v8, v9, ()), ()))))
def B03 (k : Nat) (L0 : Int → Int → List Int → Int → Int → A8 → (A0 × B0 × Unit) → List Int → List Int → Option (A0 × B0 × Unit)) (L1 : Int → Int → List Int → Int → Int → A8 → Int → Int → Int → Int → ByteArray → Int → List A1 → List Int → List Int → Option (A0 × B0 × Unit)) (a2 : Int) (v1 : Int) (v2 : List Int) (v3 : Int) (v4 : Int) (a1 : A8) (r1 : A0 × B0 × Unit) (r2 : List Int) (xs5 : List Int) : Option (A0 × B0 × Unit) := (br (decide (v1 < (r2.length : Int))) (br (decide ((xs5.length : Int) < 3)) (bd (O8 k (v2, v3, v4, ()) 2) fun r3 => (br r3.1 (gd (decide (0 ≤ v1)) (gd (decide (v1 < (r2.length : Int))) (gd (decide (xs5.length + [(rd 0 r2 v1.toNat)].length ≤ A3)) (L0 a2 (B4 (v1 + 1)) r3.2.1.1 r3.2.1.2.1 r3.2.1.2.2.1 a1 r1 r2 (xs5 ++ [(rd 0 r2 v1.toNat)]))))) (br ((B4 (v1 + 1)) == (r2.length : Int)) (br ((xs5.length : Int) == 0) (gd (decide (0 ≤ v1)) (gd (decide (v1 < (r2.length : Int))) (gd (decide (xs5.length + [(rd 0 r2 v1.toNat)].length ≤ A3)) (L0 a2 (B4 (v1 + 1)) r3.2.1.1 r3.2.1.2.1 r3.2.1.2.2.1 a1 r1 r2 (xs5 ++ [(rd 0 r2 v1.toNat)]))))) (L0 a2 (B4 (v1 + 1)) r3.2.1.1 r3.2.1.2.1 r3.2.1.2.2.1 a1 r1 r2 xs5)) (L0 a2 (B4 (v1 + 1)) r3.2.1.1 r3.2.1.2.1 r3.2.1.2.2.1 a1 r1 r2 xs5)))) (bd (O8 k (v2, v3, v4, ()) 4) fun r4 => (br r4.1 (bd (D0 k r4.2.1 (a1.1.length : Int)) fun r5 => (gd (decide (0 ≤ r5.1)) (gd (decide (r5.1 < (a1.1.length : Int))) (bd (J9 k a1 [(rd D3 a1.1 r5.1.toNat).1]) fun r6 => (bd (N8 k a1 [(rd D3 a1.1 r5.1.toNat).1]) fun r7 => (L1 a2 0 r5.2.1.1 r5.2.1.2.1 r5.2.1.2.2.1 a1 r1.1.2.1 r1.1.2.2.1 r1.1.2.2.2.1 r1.1.2.2.2.2.1 r1.1.2.2.2.2.2.2.1 r6 r7.1 r1.1.2.2.2.2.2.1 [(rd D3 a1.1 r5.1.toNat).1])))))) (bd (J9 k a1 xs5) fun r10 => (bd (N8 k a1 xs5) fun r11 => (L1 a2 0 r4.2.1.1 r4.2.1.2.1 r4.2.1.2.2.1 a1 r1.1.2.1 r1.1.2.2.1 r1.1.2.2.2.1 r1.1.2.2.2.2.1 r1.1.2.2.2.2.2.2.1 r10 r11.1 r1.1.2.2.2.2.2.1 xs5)))))) (bd (O8 k (v2, v3, v4, ()) 4) fun r12 => (br r12.1 (bd (D0 k r12.2.1 (a1.1.length : Int)) fun r13 => (gd (decide (0 ≤ r13.1)) (gd (decide (r13.1 < (a1.1.length : Int))) (bd (J9 k a1 [(rd D3 a1.1 r13.1.toNat).1]) fun r14 => (bd (N8 k a1 [(rd D3 a1.1 r13.1.toNat).1]) fun r15 => (L1 a2 0 r13.2.1.1 r13.2.1.2.1 r13.2.1.2.2.1 a1 r1.1.2.1 r1.1.2.2.1 r1.1.2.2.2.1 r1.1.2.2.2.2.1 r1.1.2.2.2.2.2.2.1 r14 r15.1 r1.1.2.2.2.2.2.1 [(rd D3 a1.1 r13.1.toNat).1])))))) (bd (J9 k a1 xs5) fun r16 => (bd (N8 k a1 xs5) fun r17 => (L1 a2 0 r12.2.1.1 r12.2.1.2.1 r12.2.1.2.2.1 a1 r1.1.2.1 r1.1.2.2.1 r1.1.2.2.2.1 r1.1.2.2.2.2.1 r1.1.2.2.2.2.2.2.1 r16 r17.1 r1.1.2.2.2.2.2.1 xs5))))))
def X6 (k : Nat) : Nat → Int → Int → List Int → Int → Int → A8 → Int → Int → Int → Int → ByteArray → Int → List A1 → List Int → List Int → Option (A0 × B0 × Unit)
 | 0, _, _, _, _, _, _, _, _, _, _, _, _, _, _, _ => none
 | n + 1, a2, v6, v7, v8, v9, a1, v10, v11, v12, v13, v14, r6, xs15, xs16, xs17 => B02 k (X6 k n) a2 v6 v7 v8 v9 a1 v10 v11 v12 v13 v14 r6 xs15 xs16 xs17
def X7 (k : Nat) : Nat → Int → Int → List Int → Int → Int → A8 → (A0 × B0 × Unit) → List Int → List Int → Option (A0 × B0 × Unit)
 | 0, _, _, _, _, _, _, _, _, _ => none
 | n + 1, a2, v1, v2, v3, v4, a1, r1, r2, xs5 => B03 k (X7 k n) (X6 k n) a2 v1 v2 v3 v4 a1 r1 r2 xs5
def Df4 (k : Nat) (L0 : Int → Int → List Int → Int → Int → A8 → (A0 × B0 × Unit) → List Int → List Int → Option (A0 × B0 × Unit)) (a0 : B0) (a1 : A8) (a2 : Int) : Option (A0 × B0 × Unit) := (br ((a1.1.length : Int) == 0) (some ((a2, 1, 1, 0, 0, [], ByteArray.empty, [], 0, ()), a0, ())) (bd (Am4 k a0) fun r1 => (bd (Ap0 k a1) fun r2 => (L0 a2 0 r1.2.1.1 r1.2.1.2.1 r1.2.1.2.2.1 a1 r1 r2 []))))
def O9 (k : Nat) (a0 : B0) (a1 : A8) (a2 : Int) : Option (A0 × B0 × Unit) := Df4 k (X7 k k) a0 a1 a2
end
noncomputable section
def A57 (k : Nat) (v1 : List Int) (v2 : Int) (v3 : Int) (a1 : C2) (v4 : Int) : Option (D2 × B0 × Unit) := (br (v4 != 1) (br (decide ((a1.1.length : Int) > 0)) (bd (D0 k (v1, v2, v3, ()) (a1.1.length : Int)) fun r4 => (gd (decide (0 ≤ r4.1)) (gd (decide (r4.1 < (a1.1.length : Int))) (bd (D0 k r4.2.1 10) fun r5 => (br (r5.1 == 0) (bd (D0 k r5.2.1 (B4 ((rd A9 a1.1 r4.1.toNat).2.1 + 3))) fun r6 => (br (v4 == 2) (bd (O9 k r6.2.1 a1.2.1 2) fun r7 => (some ((v4, (rd A9 a1.1 r4.1.toNat).1, r6.1, (0, r7.1.2.1, r7.1.2.2.1, r7.1.2.2.2.1, r7.1.2.2.2.2.1, r7.1.2.2.2.2.2.1, r7.1.2.2.2.2.2.2.1, [], 0, ()), 0, 0, ()), r7.2.1, ()))) (br (v4 == 3) (bd (D0 k r6.2.1 40) fun r8 => (bd (O9 k r8.2.1 a1.2.1 (B4 ((B4 (2 * r8.1)) + 1))) fun r9 => (bd (J8 k r9.1) fun r10 => (br (!r10) (bd (D0 k r9.2.1 40) fun r11 => (some ((v4, (rd A9 a1.1 r4.1.toNat).1, r6.1, ((B4 (101 + (B4 (2 * r11.1)))), r9.1.2), 0, 0, ()), r11.2.1, ()))) (some ((v4, (rd A9 a1.1 r4.1.toNat).1, r6.1, r9.1, 0, 0, ()), r9.2.1, ())))))) (br (v4 == 4) (bd (D0 k r6.2.1 2) fun r12 => (bd (D0 k r12.2.1 6) fun r13 => (some ((v4, (rd A9 a1.1 r4.1.toNat).1, r6.1, (0, 0, 0, 0, 0, [], ByteArray.empty, [], 0, ()), (B4 (1 + r12.1)), r13.1, ()), r13.2.1, ())))) (some ((v4, (rd A9 a1.1 r4.1.toNat).1, r6.1, (0, 0, 0, 0, 0, [], ByteArray.empty, [], 0, ()), 0, 0, ()), r6.2.1, ())))))) (br (r5.1 == 1) (bd (D0 k r5.2.1 12) fun r14 => (br (v4 == 2) (bd (O9 k r14.2.1 a1.2.1 2) fun r15 => (some ((v4, r14.1, (B4 ((rd A9 a1.1 r4.1.toNat).2.1 + 1)), (0, r15.1.2.1, r15.1.2.2.1, r15.1.2.2.2.1, r15.1.2.2.2.2.1, r15.1.2.2.2.2.2.1, r15.1.2.2.2.2.2.2.1, [], 0, ()), 0, 0, ()), r15.2.1, ()))) (br (v4 == 3) (bd (D0 k r14.2.1 40) fun r16 => (bd (O9 k r16.2.1 a1.2.1 (B4 ((B4 (2 * r16.1)) + 1))) fun r17 => (bd (J8 k r17.1) fun r18 => (br (!r18) (bd (D0 k r17.2.1 40) fun r19 => (some ((v4, r14.1, (B4 ((rd A9 a1.1 r4.1.toNat).2.1 + 1)), ((B4 (101 + (B4 (2 * r19.1)))), r17.1.2), 0, 0, ()), r19.2.1, ()))) (some ((v4, r14.1, (B4 ((rd A9 a1.1 r4.1.toNat).2.1 + 1)), r17.1, 0, 0, ()), r17.2.1, ())))))) (br (v4 == 4) (bd (D0 k r14.2.1 2) fun r20 => (bd (D0 k r20.2.1 6) fun r21 => (some ((v4, r14.1, (B4 ((rd A9 a1.1 r4.1.toNat).2.1 + 1)), (0, 0, 0, 0, 0, [], ByteArray.empty, [], 0, ()), (B4 (1 + r20.1)), r21.1, ()), r21.2.1, ())))) (some ((v4, r14.1, (B4 ((rd A9 a1.1 r4.1.toNat).2.1 + 1)), (0, 0, 0, 0, 0, [], ByteArray.empty, [], 0, ()), 0, 0, ()), r14.2.1, ())))))) (br (v4 == 2) (bd (O9 k r5.2.1 a1.2.1 2) fun r22 => (some ((v4, (rd A9 a1.1 r4.1.toNat).1, (B4 ((rd A9 a1.1 r4.1.toNat).2.1 + 1)), (0, r22.1.2.1, r22.1.2.2.1, r22.1.2.2.2.1, r22.1.2.2.2.2.1, r22.1.2.2.2.2.2.1, r22.1.2.2.2.2.2.2.1, [], 0, ()), 0, 0, ()), r22.2.1, ()))) (br (v4 == 3) (bd (D0 k r5.2.1 40) fun r23 => (bd (O9 k r23.2.1 a1.2.1 (B4 ((B4 (2 * r23.1)) + 1))) fun r24 => (bd (J8 k r24.1) fun r25 => (br (!r25) (bd (D0 k r24.2.1 40) fun r26 => (some ((v4, (rd A9 a1.1 r4.1.toNat).1, (B4 ((rd A9 a1.1 r4.1.toNat).2.1 + 1)), ((B4 (101 + (B4 (2 * r26.1)))), r24.1.2), 0, 0, ()), r26.2.1, ()))) (some ((v4, (rd A9 a1.1 r4.1.toNat).1, (B4 ((rd A9 a1.1 r4.1.toNat).2.1 + 1)), r24.1, 0, 0, ()), r24.2.1, ())))))) (br (v4 == 4) (bd (D0 k r5.2.1 2) fun r27 => (bd (D0 k r27.2.1 6) fun r28 => (some ((v4, (rd A9 a1.1 r4.1.toNat).1, (B4 ((rd A9 a1.1 r4.1.toNat).2.1 + 1)), (0, 0, 0, 0, 0, [], ByteArray.empty, [], 0, ()), (B4 (1 + r27.1)), r28.1, ()), r28.2.1, ())))) (some ((v4, (rd A9 a1.1 r4.1.toNat).1, (B4 ((rd A9 a1.1 r4.1.toNat).2.1 + 1)), (0, 0, 0, 0, 0, [], ByteArray.empty, [], 0, ()), 0, 0, ()), r5.2.1, ()))))))))))) (br (v4 == 2) (bd (O9 k (v1, v2, v3, ()) a1.2.1 2) fun r29 => (some ((v4, 0, 0, (0, r29.1.2.1, r29.1.2.2.1, r29.1.2.2.2.1, r29.1.2.2.2.2.1, r29.1.2.2.2.2.2.1, r29.1.2.2.2.2.2.2.1, [], 0, ()), 0, 0, ()), r29.2.1, ()))) (br (v4 == 3) (bd (D0 k (v1, v2, v3, ()) 40) fun r30 => (bd (O9 k r30.2.1 a1.2.1 (B4 ((B4 (2 * r30.1)) + 1))) fun r31 => (bd (J8 k r31.1) fun r32 => (br (!r32) (bd (D0 k r31.2.1 40) fun r33 => (some ((v4, 0, 0, ((B4 (101 + (B4 (2 * r33.1)))), r31.1.2), 0, 0, ()), r33.2.1, ()))) (some ((v4, 0, 0, r31.1, 0, 0, ()), r31.2.1, ())))))) (br (v4 == 4) (bd (D0 k (v1, v2, v3, ()) 2) fun r34 => (bd (D0 k r34.2.1 6) fun r35 => (some ((v4, 0, 0, (0, 0, 0, 0, 0, [], ByteArray.empty, [], 0, ()), (B4 (1 + r34.1)), r35.1, ()), r35.2.1, ())))) (some ((v4, 0, 0, (0, 0, 0, 0, 0, [], ByteArray.empty, [], 0, ()), 0, 0, ()), (v1, v2, v3, ()), ())))))) (br (v4 == 2) (bd (O9 k (v1, v2, v3, ()) a1.2.1 2) fun r36 => (some ((v4, 0, 0, (0, r36.1.2.1, r36.1.2.2.1, r36.1.2.2.2.1, r36.1.2.2.2.2.1, r36.1.2.2.2.2.2.1, r36.1.2.2.2.2.2.2.1, [], 0, ()), 0, 0, ()), r36.2.1, ()))) (br (v4 == 3) (bd (D0 k (v1, v2, v3, ()) 40) fun r37 => (bd (O9 k r37.2.1 a1.2.1 (B4 ((B4 (2 * r37.1)) + 1))) fun r38 => (bd (J8 k r38.1) fun r39 => (br (!r39) (bd (D0 k r38.2.1 40) fun r40 => (some ((v4, 0, 0, ((B4 (101 + (B4 (2 * r40.1)))), r38.1.2), 0, 0, ()), r40.2.1, ()))) (some ((v4, 0, 0, r38.1, 0, 0, ()), r38.2.1, ())))))) (br (v4 == 4) (bd (D0 k (v1, v2, v3, ()) 2) fun r41 => (bd (D0 k r41.2.1 6) fun r42 => (some ((v4, 0, 0, (0, 0, 0, 0, 0, [], ByteArray.empty, [], 0, ()), (B4 (1 + r41.1)), r42.1, ()), r42.2.1, ())))) (some ((v4, 0, 0, (0, 0, 0, 0, 0, [], ByteArray.empty, [], 0, ()), 0, 0, ()), (v1, v2, v3, ()), ()))))))
def J3 (k : Nat) : Nat → List Int → Int → Int → C2 → Int → Option (D2 × B0 × Unit)
 | 0, _, _, _, _, _ => none
 | n + 1, v1, v2, v3, a1, v4 => A57 k v1 v2 v3 a1 v4
def Be3 (k : Nat) (L0 : List Int → Int → Int → C2 → Int → Option (D2 × B0 × Unit)) (a0 : B0) (a1 : C2) : Option (D2 × B0 × Unit) := (bd (T9 k a0 [1, 2, 2, 2, 2, 2, 2, 3, 3, 4, 5]) fun r1 => (br ((a1.1.length : Int) == 0) (bd (O8 k r1.2.1 8) fun r2 => (br (!r2.1) (br (decide ((a1.1.length : Int) > 0)) (bd (O8 k r2.2.1 3) fun r3 => (br (!r3.1) (L0 r3.2.1.1 r3.2.1.2.1 r3.2.1.2.2.1 a1 2) (L0 r3.2.1.1 r3.2.1.2.1 r3.2.1.2.2.1 a1 1))) (L0 r2.2.1.1 r2.2.1.2.1 r2.2.1.2.2.1 a1 1)) (br (r1.1 == 1) (br (decide ((a1.1.length : Int) > 0)) (bd (O8 k r2.2.1 3) fun r43 => (br (!r43.1) (L0 r43.2.1.1 r43.2.1.2.1 r43.2.1.2.2.1 a1 2) (L0 r43.2.1.1 r43.2.1.2.1 r43.2.1.2.2.1 a1 r1.1))) (L0 r2.2.1.1 r2.2.1.2.1 r2.2.1.2.2.1 a1 r1.1)) (L0 r2.2.1.1 r2.2.1.2.1 r2.2.1.2.2.1 a1 r1.1)))) (br (r1.1 == 1) (br (decide ((a1.1.length : Int) > 0)) (bd (O8 k r1.2.1 3) fun r44 => (br (!r44.1) (L0 r44.2.1.1 r44.2.1.2.1 r44.2.1.2.2.1 a1 2) (L0 r44.2.1.1 r44.2.1.2.1 r44.2.1.2.2.1 a1 r1.1))) (L0 r1.2.1.1 r1.2.1.2.1 r1.2.1.2.2.1 a1 r1.1)) (L0 r1.2.1.1 r1.2.1.2.1 r1.2.1.2.2.1 a1 r1.1))))
def Ae9 (k : Nat) (a0 : B0) (a1 : C2) : Option (D2 × B0 × Unit) := Be3 k (J3 k k) a0 a1
end
noncomputable section
def B04 (k : Nat) (L0 : Int → Int → List Int → Int → Int → List D9 → List A0 → List (List A1) → List Bool → List K8 → Option (C2 × B0 × Unit)) (a1 : Int) (v1 : Int) (v2 : List Int) (v3 : Int) (v4 : Int) (xs5 : List D9) (xs6 : List A0) (xs7 : List (List A1)) (xs8 : List Bool) (xs9 : List K8) : Option (C2 × B0 × Unit) := (bd (D0 k (v2, v3, v4, ()) (B4 (a1 + 1))) fun r2 => (br (decide (v1 < r2.1)) (bd (Ae9 k r2.2.1 (xs5, (xs6, xs7, xs8, ()), xs9, ())) fun r3 => (bd (Bu1 k (xs5, (xs6, xs7, xs8, ()), xs9, ()) (B4 (v1 + 1)) r3.1) fun r4 => (br r4.2.2 (L0 a1 (B4 (v1 + 1)) r3.2.1.1 r3.2.1.2.1 r3.2.1.2.2.1 r4.1.1 r4.1.2.1.1 r4.1.2.1.2.1 r4.1.2.1.2.2.1 r4.1.2.2.1) (L0 a1 (B4 (v1 + 1)) r3.2.1.1 r3.2.1.2.1 r3.2.1.2.2.1 xs5 xs6 xs7 xs8 xs9)))) (some ((xs5, (xs6, xs7, xs8, ()), xs9, ()), r2.2.1, ()))))
def n8 (k : Nat) : Nat → Int → Int → List Int → Int → Int → List D9 → List A0 → List (List A1) → List Bool → List K8 → Option (C2 × B0 × Unit)
 | 0, _, _, _, _, _, _, _, _, _, _ => none
 | n + 1, a1, v1, v2, v3, v4, xs5, xs6, xs7, xs8, xs9 => B04 k (n8 k n) a1 v1 v2 v3 v4 xs5 xs6 xs7 xs8 xs9
def Df5 (k : Nat) (L0 : Int → Int → List Int → Int → Int → List D9 → List A0 → List (List A1) → List Bool → List K8 → Option (C2 × B0 × Unit)) (a0 : B0) (a1 : Int) : Option (C2 × B0 × Unit) := (bd (Bt8 k) fun r1 => (L0 a1 0 a0.1 a0.2.1 a0.2.2.1 r1.1 r1.2.1.1 r1.2.1.2.1 r1.2.1.2.2.1 r1.2.2.1))
def Bc2 (k : Nat) (a0 : B0) (a1 : Int) : Option (C2 × B0 × Unit) := Df5 k (n8 k k) a0 a1
end
noncomputable section
def B05 (k : Nat) (L0 : Int → List Int → Int → Int → List Int → Option (List Int × B0 × Unit)) (v1 : Int) (v2 : List Int) (v3 : Int) (v4 : Int) (xs5 : List Int) : Option (List Int × B0 × Unit) := (br (decide (v1 ≤ 4)) (bd (O8 k (v2, v3, v4, ()) 2) fun r1 => (br r1.1 (gd (decide (xs5.length + [v1].length ≤ A3)) (L0 (B4 (v1 + 1)) r1.2.1.1 r1.2.1.2.1 r1.2.1.2.2.1 (xs5 ++ [v1]))) (L0 (B4 (v1 + 1)) r1.2.1.1 r1.2.1.2.1 r1.2.1.2.2.1 xs5))) (br ((xs5.length : Int) == 0) (gd (decide (xs5.length + [1].length ≤ A3)) (some ((xs5 ++ [1]), (v2, v3, v4, ()), ()))) (some (xs5, (v2, v3, v4, ()), ()))))
def n9 (k : Nat) : Nat → Int → List Int → Int → Int → List Int → Option (List Int × B0 × Unit)
 | 0, _, _, _, _, _ => none
 | n + 1, v1, v2, v3, v4, xs5 => B05 k (n9 k n) v1 v2 v3 v4 xs5
def Df6 (k : Nat) (L0 : Int → List Int → Int → Int → List Int → Option (List Int × B0 × Unit)) (a0 : B0) : Option (List Int × B0 × Unit) := (L0 1 a0.1 a0.2.1 a0.2.2.1 [])
def Bc3 (k : Nat) (a0 : B0) : Option (List Int × B0 × Unit) := Df6 k (n9 k k) a0
end
noncomputable section
def A91 (k : Nat) (L0 : List Int → Int → Int → Int → Option Bool) (a0 : List Int) (a1 : Int) (a2 : Int) (v1 : Int) : Option Bool := (br (decide (v1 < (a0.length : Int))) (gd (decide (0 ≤ v1)) (gd (decide (v1 < (a0.length : Int))) (bd (E9 k (rd 0 a0 v1.toNat) a1 a2) fun r1 => (br (!r1) (some false) (br (decide (v1 > 0)) (gd (decide (0 ≤ (B4 (v1 - 1)))) (gd (decide ((B4 (v1 - 1)) < (a0.length : Int))) (gd (decide (0 ≤ v1)) (gd (decide (v1 < (a0.length : Int))) (br (decide ((rd 0 a0 (B4 (v1 - 1)).toNat) ≥ (rd 0 a0 v1.toNat))) (some false) (L0 a0 a1 a2 (B4 (v1 + 1)))))))) (L0 a0 a1 a2 (B4 (v1 + 1)))))))) (some true))
def X8 (k : Nat) : Nat → List Int → Int → Int → Int → Option Bool
 | 0, _, _, _, _ => none
 | n + 1, a0, a1, a2, v1 => A91 k (X8 k n) a0 a1 a2 v1
def Df7 (k : Nat) (L0 : List Int → Int → Int → Int → Option Bool) (a0 : List Int) (a1 : Int) (a2 : Int) : Option Bool := (L0 a0 a1 a2 0)
def Ck3 (k : Nat) (a0 : List Int) (a1 : Int) (a2 : Int) : Option Bool := Df7 k (X8 k k) a0 a1 a2
end
def A14 (k : Nat) (a0 : List Int) : Option Bool := (bd (E9 k (a0.length : Int) 1 4) fun r1 => (br r1 (bd (Ck3 k a0 1 4) fun r2 => (some r2)) (some false)))
noncomputable section
def Bo5 (k : Nat) (L0 : List Int → Int → List Int → Option (ByteArray × Bool)) (a0 : List Int) (v1 : Int) (xs2 : List Int) : Option (ByteArray × Bool) := (br (decide (v1 < (a0.length : Int))) (gd (decide (0 ≤ v1)) (gd (decide (v1 < (a0.length : Int))) (gd (decide (xs2.length + [(IntKind.wrap .u8 (rd 0 a0 v1.toNat))].length ≤ A3)) (L0 a0 (B4 (v1 + 1)) (xs2 ++ [(IntKind.wrap .u8 (rd 0 a0 v1.toNat))]))))) (some ((C0 xs2), true)))
def Z0 (k : Nat) : Nat → List Int → Int → List Int → Option (ByteArray × Bool)
 | 0, _, _, _ => none
 | n + 1, a0, v1, xs2 => Bo5 k (Z0 k n) a0 v1 xs2
def C00 (k : Nat) (L0 : List Int → Int → List Int → Option (ByteArray × Bool)) (a0 : List Int) : Option (ByteArray × Bool) := (bd (A14 k a0) fun r1 => (br (!r1) (some ((⟨#[]⟩ : ByteArray), false)) (L0 a0 0 [])))
def Be4 (k : Nat) (a0 : List Int) : Option (ByteArray × Bool) := C00 k (Z0 k k) a0
end
def Bu2 (k : Nat) (a0 : Int) : Option ByteArray := (some (C0 [(IntKind.wrap .u8 (Int.fdiv a0 (2 ^ 24))), (IntKind.wrap .u8 (Int.fdiv a0 (2 ^ 16))), (IntKind.wrap .u8 (Int.fdiv a0 (2 ^ 8))), (IntKind.wrap .u8 a0)]))
noncomputable section
def Ap1 (k : Nat) (L1 : Int → ByteArray → Int → Int → Option Int) (a0 : Int) (a1 : ByteArray) (v1 : Int) : Option Int := (br (decide (v1 < (a1.size : Int))) (gd (decide (0 ≤ v1)) (gd (decide (v1 < (a1.size : Int))) (L1 (Gx4 .u32 a0 (IntKind.wrap .u32 (bt a1 v1.toNat))) a1 v1 0))) (some a0))
def Ap2 (k : Nat) (L1 : Int → ByteArray → Int → Int → Option Int) (L0 : Int → ByteArray → Int → Option Int) (v2 : Int) (a1 : ByteArray) (v1 : Int) (v3 : Int) : Option Int := (br (decide (v3 < 8)) (ng (v2 == v2 && (2 : Int) == 0) (ng (v2 == v2 && (2 : Int) == 0) (br ((Int.tmod v2 2) == 1) (L1 (Gx4 .u32 (IntKind.wrap .u32 (Int.tdiv v2 2)) 3558460437) a1 v1 (B4 (v3 + 1))) (L1 (IntKind.wrap .u32 (Int.tdiv v2 2)) a1 v1 (B4 (v3 + 1)))))) (L0 v2 a1 (B4 (v1 + 1))))
def Q8 (k : Nat) : Nat → (Int → ByteArray → Int → Option Int) × (Int → ByteArray → Int → Int → Option Int)
 | 0 => (fun _ _ _ => none, fun _ _ _ _ => none)
 | n + 1 => (Ap1 k (Q8 k n).2, Ap2 k (Q8 k n).2 (Q8 k n).1)
def o0 (k : Nat) (n : Nat) : Int → ByteArray → Int → Option Int := (Q8 k n).1
def Ap3 (k : Nat) (n : Nat) : Int → ByteArray → Int → Int → Option Int := (Q8 k n).2
theorem Et9 (k : Nat) (n : Nat) (a0 : Int) (a1 : ByteArray) (v1 : Int) : o0 k (n + 1) a0 a1 v1 = Ap1 k (Ap3 k n) a0 a1 v1 := rfl
theorem Eu0 (k : Nat) (n : Nat) (v2 : Int) (a1 : ByteArray) (v1 : Int) (v3 : Int) : Ap3 k (n + 1) v2 a1 v1 v3 = Ap2 k (Ap3 k n) (o0 k n) v2 a1 v1 v3 := rfl
def Df8 (k : Nat) (L0 : Int → ByteArray → Int → Option Int) (a0 : Int) (a1 : ByteArray) : Option Int := (L0 a0 a1 0)
def Ck4 (k : Nat) (a0 : Int) (a1 : ByteArray) : Option Int := Df8 k (o0 k k) a0 a1
end
def Bl1 (k : Nat) (a0 : ByteArray) : Option Int := (bd (Ck4 k 4294967295 a0) fun r1 => (some r1))
def Cb5 (k : Nat) (a0 : ByteArray) : Option (ByteArray × Bool) := (br (decide ((a0.size : Int) > 20000)) (some ((⟨#[]⟩ : ByteArray), false)) (bd (Bl1 k a0) fun r1 => (bd (Bu2 k r1) fun r2 => (gd (decide (a0.size + r2.size ≤ A3)) (some ((a0 ++ r2), true))))))
def Aw6 (k : Nat) (a0 : D8) : Option (ByteArray × Bool) := (bd (Be4 k a0.2.2.1) fun r1 => (br (!r1.2) (some ((⟨#[]⟩ : ByteArray), false)) (bd (E9 k a0.1 0 1000000) fun r2 => (br (!r2) (some ((⟨#[]⟩ : ByteArray), false)) (bd (E9 k a0.2.1 0 100000) fun r3 => (br (!r3) (some ((⟨#[]⟩ : ByteArray), false)) (br (decide ((a0.2.2.2.1.size : Int) > 20000)) (some ((⟨#[]⟩ : ByteArray), false)) (bd (N0 k a0.1) fun r4 => (bd (N0 k a0.2.1) fun r5 => (gd (decide (r4.size + r5.size ≤ A3)) (bd (Y8 k r1.1) fun r6 => (gd (decide ((r4 ++ r5).size + r6.size ≤ A3)) (bd (Y8 k a0.2.2.2.1) fun r7 => (gd (decide (((r4 ++ r5) ++ r6).size + r7.size ≤ A3)) (br (decide ((B4 ((((((r4 ++ r5) ++ r6) ++ r7).size : Nat) : Int) + 4)) > 20000)) (some ((⟨#[]⟩ : ByteArray), false)) (bd (Cb5 k (((r4 ++ r5) ++ r6) ++ r7)) fun r8 => (some (r8.1, r8.2))))))))))))))))))
def Al1 (k : Nat) (a0 : Int) : Option ByteArray := (bd (E9 k a0 0 1000000) fun r1 => (br (!r1) (some (⟨#[]⟩ : ByteArray)) (bd (W9 k a0) fun r2 => (gd (decide ((⟨#[115]⟩ : ByteArray).size + r2.size ≤ A3)) (some ((⟨#[115]⟩ : ByteArray) ++ r2))))))
noncomputable section
def Ag4 (k : Nat) (L1 : Int → List Int → Int → Int → List B1 → Option (B3 × D8)) (v3 : Int) (a0 : List Int) (v4 : Int) (v1 : Int) (xs5 : List B1) : Option (B3 × D8) := (bd (D0 k (a0, v4, v1, ()) 3) fun r1 => (br (decide (v3 < r1.1)) (bd (Bc2 k r1.2.1 6) fun r2 => (bd (Al0 k r2.1) fun r3 => (bd (D0 k r2.2.1 9) fun r4 => (bd (D0 k r4.2.1 5) fun r5 => (bd (Bc3 k r5.2.1) fun r6 => (bd (Aw6 k (r4.1, r5.1, r6.1, r3.1, ())) fun r7 => (bd (Al1 k r4.1) fun r8 => (bd (G9 k (xs5, ()) (r8, r7.1, (r7.1.size : Int), ())) fun r9 => (L1 (B4 (v3 + 1)) r6.2.1.1 r6.2.1.2.1 r6.2.1.2.2.1 r9.1))))))))) (bd (Bc2 k r1.2.1 12) fun r10 => (bd (Al0 k r10.1) fun r11 => (bd (D0 k r10.2.1 9) fun r12 => (bd (D0 k r12.2.1 5) fun r13 => (bd (Bc3 k r13.2.1) fun r14 => (some ((xs5, ()), ((B4 (9 + r12.1)), r13.1, r14.1, r11.1, ()))))))))))
def Ag5 (k : Nat) (L0 : List Int → Int → Int → Option (B3 × D8)) (L1 : Int → List Int → Int → Int → List B1 → Option (B3 × D8)) (a0 : List Int) (v1 : Int) (v2 : Int) : Option (B3 × D8) := (br (decide (v2 < (a0.length : Int))) (br (decide (v2 < 4000)) (gd (decide (0 ≤ v2)) (gd (decide (v2 < (a0.length : Int))) (L0 a0 (Fc8 .i64 (B4 ((B4 ((B4 (v1 * 131)) + (B4 (rd 0 a0 v2.toNat)))) + 7)) 1073741823) (B4 (v2 + 1))))) (L1 0 a0 0 v1 [])) (L1 0 a0 0 v1 []))
def M0 (k : Nat) : Nat → Int → List Int → Int → Int → List B1 → Option (B3 × D8)
 | 0, _, _, _, _, _ => none
 | n + 1, v3, a0, v4, v1, xs5 => Ag4 k (M0 k n) v3 a0 v4 v1 xs5
def M1 (k : Nat) : Nat → List Int → Int → Int → Option (B3 × D8)
 | 0, _, _, _ => none
 | n + 1, a0, v1, v2 => Ag5 k (M1 k n) (M0 k n) a0 v1 v2
def Be5 (k : Nat) (L0 : List Int → Int → Int → Option (B3 × D8)) (a0 : List Int) : Option (B3 × D8) := (L0 a0 (B4 (13101 + (a0.length : Int))) 0)
def g6 (k : Nat) (a0 : List Int) : Option (B3 × D8) := Be5 k (M1 k k) a0
end
def g7 (k : Nat) (a0 : Int) (a1 : Int) (a2 : Int) : Option Bool := (br (decide (a0 ≥ a1)) (some (decide (a0 ≤ a2))) (some false))
noncomputable section
def Bl2 (k : Nat) (L0 : List Int → Int → Option Bool) (a0 : List Int) (v1 : Int) : Option Bool := (br (decide (v1 < (a0.length : Int))) (gd (decide (0 ≤ v1)) (gd (decide (v1 < (a0.length : Int))) (bd (g7 k (rd 0 a0 v1.toNat) 1 4) fun r1 => (br (!r1) (some false) (br (decide (v1 > 0)) (gd (decide (0 ≤ (B4 (v1 - 1)))) (gd (decide ((B4 (v1 - 1)) < (a0.length : Int))) (br (decide ((rd 0 a0 (B4 (v1 - 1)).toNat) ≥ (rd 0 a0 v1.toNat))) (some false) (L0 a0 (B4 (v1 + 1)))))) (L0 a0 (B4 (v1 + 1)))))))) (bd (g7 k (a0.length : Int) 1 4) fun r2 => (some r2)))
def j6 (k : Nat) : Nat → List Int → Int → Option Bool
 | 0, _, _ => none
 | n + 1, a0, v1 => Bl2 k (j6 k n) a0 v1
def Dv6 (k : Nat) (L0 : List Int → Int → Option Bool) (a0 : List Int) : Option Bool := (L0 a0 0)
def Bu3 (k : Nat) (a0 : List Int) : Option Bool := Dv6 k (j6 k k) a0
end
noncomputable section
def Bo6 (k : Nat) (L0 : List Int → Int → List Int → Option (ByteArray × Bool)) (a0 : List Int) (v1 : Int) (xs2 : List Int) : Option (ByteArray × Bool) := (br (decide (v1 < (a0.length : Int))) (gd (decide (0 ≤ v1)) (gd (decide (v1 < (a0.length : Int))) (gd (decide (xs2.length + [(IntKind.wrap .u8 (rd 0 a0 v1.toNat))].length ≤ A3)) (L0 a0 (B4 (v1 + 1)) (xs2 ++ [(IntKind.wrap .u8 (rd 0 a0 v1.toNat))]))))) (some ((C0 xs2), true)))
def Z1 (k : Nat) : Nat → List Int → Int → List Int → Option (ByteArray × Bool)
 | 0, _, _, _ => none
 | n + 1, a0, v1, xs2 => Bo6 k (Z1 k n) a0 v1 xs2
def C01 (k : Nat) (L0 : List Int → Int → List Int → Option (ByteArray × Bool)) (a0 : List Int) : Option (ByteArray × Bool) := (bd (Bu3 k a0) fun r1 => (br (!r1) (some ((⟨#[]⟩ : ByteArray), false)) (L0 a0 0 [])))
def Be6 (k : Nat) (a0 : List Int) : Option (ByteArray × Bool) := C01 k (Z1 k k) a0
end
noncomputable section
def A92 (k : Nat) (L0 : Int → List Int → Option (ByteArray × Bool)) (a0 : Int) (xs1 : List Int) : Option (ByteArray × Bool) := (br (decide (a0 > 127)) (ng (a0 == a0 && (128 : Int) == 0) (gd (decide (xs1.length + [(IntKind.wrap .u8 (B4 ((Int.tmod a0 128) + 128)))].length ≤ A3)) (ng (a0 == a0 && (128 : Int) == 0) (L0 (B4 (Int.tdiv a0 128)) (xs1 ++ [(IntKind.wrap .u8 (B4 ((Int.tmod a0 128) + 128)))]))))) (gd (decide (xs1.length + [(IntKind.wrap .u8 a0)].length ≤ A3)) (some ((C0 (xs1 ++ [(IntKind.wrap .u8 a0)])), true))))
def o6 (k : Nat) : Nat → Int → List Int → Option (ByteArray × Bool)
 | 0, _, _ => none
 | n + 1, a0, xs1 => A92 k (o6 k n) a0 xs1
def Bl3 (k : Nat) (L0 : Int → List Int → Option (ByteArray × Bool)) (a0 : Int) : Option (ByteArray × Bool) := (bd (g7 k a0 0 1000000000) fun r1 => (br (!r1) (some ((⟨#[]⟩ : ByteArray), false)) (L0 a0 [])))
def X0 (k : Nat) (a0 : Int) : Option (ByteArray × Bool) := Bl3 k (o6 k k) a0
end
noncomputable section
def Ck5 (k : Nat) (L0 : List Int → Int → List Int → Option (ByteArray × Bool)) (a0 : List Int) (v1 : Int) (xs2 : List Int) : Option (ByteArray × Bool) := (br (decide (v1 < (a0.length : Int))) (gd (decide (0 ≤ v1)) (gd (decide (v1 < (a0.length : Int))) (bd (X0 k (rd 0 a0 v1.toNat)) fun r1 => (br (!r1.2) (some ((⟨#[]⟩ : ByteArray), false)) (gd (decide (xs2.length + (D4 r1.1).length ≤ A3)) (L0 a0 (B4 (v1 + 1)) (xs2 ++ (D4 r1.1)))))))) (some ((C0 xs2), true)))
def Aw7 (k : Nat) : Nat → List Int → Int → List Int → Option (ByteArray × Bool)
 | 0, _, _, _ => none
 | n + 1, a0, v1, xs2 => Ck5 k (Aw7 k n) a0 v1 xs2
def Dv7 (k : Nat) (L0 : List Int → Int → List Int → Option (ByteArray × Bool)) (a0 : List Int) : Option (ByteArray × Bool) := (L0 a0 0 [])
def C89 (k : Nat) (a0 : List Int) : Option (ByteArray × Bool) := Dv7 k (Aw7 k k) a0
end
def Ab6 (k : Nat) (a0 : ByteArray) : Option (ByteArray × Bool) := (br (decide ((a0.size : Int) > 20000)) (some ((⟨#[]⟩ : ByteArray), false)) (bd (X0 k (a0.size : Int)) fun r1 => (gd (decide (r1.1.size + a0.size ≤ A3)) (some ((r1.1 ++ a0), true)))))
noncomputable section
def B06 (k : Nat) (L1 : Int → ByteArray → Int → Int → Option Int) (a0 : Int) (a1 : ByteArray) (v1 : Int) : Option Int := (br (decide (v1 < (a1.size : Int))) (gd (decide (0 ≤ v1)) (gd (decide (v1 < (a1.size : Int))) (L1 (Gx4 .u32 a0 (IntKind.wrap .u32 (bt a1 v1.toNat))) a1 v1 0))) (some a0))
def B07 (k : Nat) (L1 : Int → ByteArray → Int → Int → Option Int) (L0 : Int → ByteArray → Int → Option Int) (v2 : Int) (a1 : ByteArray) (v1 : Int) (v3 : Int) : Option Int := (br (decide (v3 < 8)) (ng (v2 == v2 && (2 : Int) == 0) (ng (v2 == v2 && (2 : Int) == 0) (br ((Int.tmod v2 2) == 1) (L1 (Gx4 .u32 (IntKind.wrap .u32 (Int.tdiv v2 2)) 3558460437) a1 v1 (B4 (v3 + 1))) (L1 (IntKind.wrap .u32 (Int.tdiv v2 2)) a1 v1 (B4 (v3 + 1)))))) (L0 v2 a1 (B4 (v1 + 1))))
def Q9 (k : Nat) : Nat → (Int → ByteArray → Int → Option Int) × (Int → ByteArray → Int → Int → Option Int)
 | 0 => (fun _ _ _ => none, fun _ _ _ _ => none)
 | n + 1 => (B06 k (Q9 k n).2, B07 k (Q9 k n).2 (Q9 k n).1)
def B08 (k : Nat) (n : Nat) : Int → ByteArray → Int → Option Int := (Q9 k n).1
def Eu1 (k : Nat) (n : Nat) : Int → ByteArray → Int → Int → Option Int := (Q9 k n).2
def Df9 (k : Nat) (L0 : Int → ByteArray → Int → Option Int) (a0 : Int) (a1 : ByteArray) : Option Int := (L0 a0 a1 0)
def Ck6 (k : Nat) (a0 : Int) (a1 : ByteArray) : Option Int := Df9 k (B08 k k) a0 a1
end
def C02 (k : Nat) (a0 : ByteArray) : Option Int := (bd (Ck6 k 4294967295 a0) fun r1 => (some r1))
def Bu4 (k : Nat) (a0 : ByteArray) : Option (ByteArray × Bool) := (br (decide ((a0.size : Int) > 20000)) (some ((⟨#[]⟩ : ByteArray), false)) (bd (C02 k a0) fun r1 => (gd (decide (a0.size + (C0 [(IntKind.wrap .u8 (Int.fdiv r1 (2 ^ 24))), (IntKind.wrap .u8 (Int.fdiv r1 (2 ^ 16))), (IntKind.wrap .u8 (Int.fdiv r1 (2 ^ 8))), (IntKind.wrap .u8 r1)]).size ≤ A3)) (some ((a0 ++ (C0 [(IntKind.wrap .u8 (Int.fdiv r1 (2 ^ 24))), (IntKind.wrap .u8 (Int.fdiv r1 (2 ^ 16))), (IntKind.wrap .u8 (Int.fdiv r1 (2 ^ 8))), (IntKind.wrap .u8 r1)])), true)))))
def Aw8 (k : Nat) (a0 : D8) : Option (ByteArray × Bool) := (bd (Be6 k a0.2.2.1) fun r1 => (br (!r1.2) (some ((⟨#[]⟩ : ByteArray), false)) (bd (g7 k a0.1 0 1000000) fun r2 => (br (!r2) (some ((⟨#[]⟩ : ByteArray), false)) (bd (g7 k a0.2.1 0 100000) fun r3 => (br (!r3) (some ((⟨#[]⟩ : ByteArray), false)) (br (decide ((a0.2.2.2.1.size : Int) > 20000)) (some ((⟨#[]⟩ : ByteArray), false)) (bd (C89 k [a0.1, a0.2.1]) fun r4 => (bd (Ab6 k r1.1) fun r5 => (bd (Ab6 k a0.2.2.2.1) fun r6 => (gd (decide (r4.1.size + r5.1.size ≤ A3)) (gd (decide ((r4.1 ++ r5.1).size + r6.1.size ≤ A3)) (bd (Bu4 k ((r4.1 ++ r5.1) ++ r6.1)) fun r7 => (br (!r7.2) (some ((⟨#[]⟩ : ByteArray), false)) (br (decide ((r7.1.size : Int) > 20000)) (some ((⟨#[]⟩ : ByteArray), false)) (some (r7.1, true)))))))))))))))))
def Be7 (k : Nat) (a0 : ByteArray) : Option (ByteArray × Bool) := (br (decide ((a0.size : Int) < 4)) (some ((⟨#[]⟩ : ByteArray), false)) (gd (decide (0 ≤ (B4 ((a0.size : Int) - 4)))) (gd (decide ((B4 ((a0.size : Int) - 4)) ≤ (a0.size : Int))) (bd (Bu4 k (a0.extract 0 (B4 ((a0.size : Int) - 4)).toNat)) fun r1 => (br (!r1.2) (some ((⟨#[]⟩ : ByteArray), false)) (br (!(r1.1.toList == a0.toList)) (some ((⟨#[]⟩ : ByteArray), false)) (some ((a0.extract 0 (B4 ((a0.size : Int) - 4)).toNat), true))))))))
noncomputable section
def Ap4 (k : Nat) (L0 : ByteArray → Int → Int → Int → Option (Int × Int × Bool)) (a0 : ByteArray) (a1 : Int) (v1 : Int) (v2 : Int) : Option (Int × Int × Bool) := (br (decide (v2 < 5)) (br (decide ((B4 (a1 + v2)) < (a0.size : Int))) (gd (decide (0 ≤ (B4 (a1 + v2)))) (gd (decide ((B4 (a1 + v2)) < (a0.size : Int))) (ng ((B4 (bt a0 (B4 (a1 + v2)).toNat)) == (B4 (bt a0 (B4 (a1 + v2)).toNat)) && (128 : Int) == 0) (ng (decide ((B4 (7 * v2)) < 0)) (br (decide ((B4 (bt a0 (B4 (a1 + v2)).toNat)) < 128)) (bd (X0 k (B4 (v1 + (B4 ((Int.tmod (B4 (bt a0 (B4 (a1 + v2)).toNat)) 128) * 2 ^ (min (B4 (7 * v2)).toNat 64)))))) fun r2 => (br (!r2.2) (some (0, 0, false)) (br ((r2.1.size : Int) != (B4 (v2 + 1))) (some (0, 0, false)) (some ((B4 (v1 + (B4 ((Int.tmod (B4 (bt a0 (B4 (a1 + v2)).toNat)) 128) * 2 ^ (min (B4 (7 * v2)).toNat 64))))), (B4 ((B4 (a1 + v2)) + 1)), true))))) (L0 a0 a1 (B4 (v1 + (B4 ((Int.tmod (B4 (bt a0 (B4 (a1 + v2)).toNat)) 128) * 2 ^ (min (B4 (7 * v2)).toNat 64))))) (B4 (v2 + 1)))))))) (some (0, 0, false))) (some (0, 0, false)))
def R5 (k : Nat) : Nat → ByteArray → Int → Int → Int → Option (Int × Int × Bool)
 | 0, _, _, _, _ => none
 | n + 1, a0, a1, v1, v2 => Ap4 k (R5 k n) a0 a1 v1 v2
def Cb6 (k : Nat) (L0 : ByteArray → Int → Int → Int → Option (Int × Int × Bool)) (a0 : ByteArray) (a1 : Int) : Option (Int × Int × Bool) := (bd (g7 k a1 0 (a0.size : Int)) fun r1 => (br (!r1) (some (0, 0, false)) (L0 a0 a1 0 0)))
def Aw9 (k : Nat) (a0 : ByteArray) (a1 : Int) : Option (Int × Int × Bool) := Cb6 k (R5 k k) a0 a1
end
def Af0 (k : Nat) (a0 : K7) : Option (Int × K7 × Unit) := (bd (Aw9 k a0.1 a0.2.1) fun r1 => (br a0.2.2.1 (some (0, (a0.1, a0.2.1, true, ()), ())) (br (!r1.2.2) (some (0, (a0.1, a0.2.1, true, ()), ())) (some (r1.1, (a0.1, r1.2.1, a0.2.2), ())))))
noncomputable section
def Bo7 (k : Nat) (L0 : ByteArray → Int → List Int → Option (List Int × Bool)) (a0 : ByteArray) (v1 : Int) (xs2 : List Int) : Option (List Int × Bool) := (br (decide (v1 < (a0.size : Int))) (gd (decide (0 ≤ v1)) (gd (decide (v1 < (a0.size : Int))) (gd (decide (xs2.length + [(B4 (bt a0 v1.toNat))].length ≤ A3)) (L0 a0 (B4 (v1 + 1)) (xs2 ++ [(B4 (bt a0 v1.toNat))]))))) (bd (Bu3 k xs2) fun r1 => (br (!r1) (some ([], false)) (some (xs2, true)))))
def Z2 (k : Nat) : Nat → ByteArray → Int → List Int → Option (List Int × Bool)
 | 0, _, _, _ => none
 | n + 1, a0, v1, xs2 => Bo7 k (Z2 k n) a0 v1 xs2
def C03 (k : Nat) (L0 : ByteArray → Int → List Int → Option (List Int × Bool)) (a0 : ByteArray) : Option (List Int × Bool) := (L0 a0 0 [])
def Be8 (k : Nat) (a0 : ByteArray) : Option (List Int × Bool) := C03 k (Z2 k k) a0
end
def Am5 (k : Nat) (a0 : ByteArray) (a1 : Int) : Option (ByteArray × Int × Bool) := (bd (Aw9 k a0 a1) fun r1 => (br (!r1.2.2) (some ((⟨#[]⟩ : ByteArray), 0, false)) (br (decide (r1.1 > 20000)) (some ((⟨#[]⟩ : ByteArray), 0, false)) (br (decide (r1.1 > (B4 ((a0.size : Int) - r1.2.1)))) (some ((⟨#[]⟩ : ByteArray), 0, false)) (gd (decide (0 ≤ (B4 (r1.2.1 + r1.1)))) (gd (decide ((B4 (r1.2.1 + r1.1)) ≤ (a0.size : Int))) (gd (decide (0 ≤ r1.2.1)) (gd (decide (r1.2.1 ≤ (B4 (r1.2.1 + r1.1)))) (some ((a0.extract r1.2.1.toNat (B4 (r1.2.1 + r1.1)).toNat), (B4 (r1.2.1 + r1.1)), true))))))))))
def Z3 (k : Nat) (a0 : K7) : Option (ByteArray × K7 × Unit) := (bd (Am5 k a0.1 a0.2.1) fun r1 => (br a0.2.2.1 (some ((⟨#[]⟩ : ByteArray), (a0.1, a0.2.1, true, ()), ())) (br (!r1.2.2) (some ((⟨#[]⟩ : ByteArray), (a0.1, a0.2.1, true, ()), ())) (some (r1.1, (a0.1, r1.2.1, a0.2.2), ())))))
def Ax0 (k : Nat) (a0 : ByteArray) : Option (D8 × Bool) := (bd (Be7 k a0) fun r1 => (br (!r1.2) (some ((0, 0, [], ByteArray.empty, ()), false)) (bd (Af0 k (r1.1, 0, false, ())) fun r2 => (bd (Af0 k r2.2.1) fun r3 => (bd (Z3 k r3.2.1) fun r4 => (bd (Be8 k r4.1) fun r5 => (bd (Z3 k r4.2.1) fun r6 => (bd (Aw8 k (r2.1, r3.1, r5.1, r6.1, ())) fun r7 => (br r6.2.1.2.2.1 (some ((0, 0, [], ByteArray.empty, ()), false)) (br (!r7.2) (some ((0, 0, [], ByteArray.empty, ()), false)) (br (!(r7.1.toList == a0.toList)) (some ((0, 0, [], ByteArray.empty, ()), false)) (some ((r2.1, r3.1, r5.1, r6.1, ()), true)))))))))))))
noncomputable section
end
def B09 (k : Nat) (a0 : Int) : Option ByteArray := Ej5 a0
def Bc4 (k : Nat) (a0 : Int) : Option ByteArray := (bd (B09 k a0) fun r1 => (some r1))
def Ax1 (k : Nat) (a0 : Int) : Option ByteArray := (bd (g7 k a0 0 1000000) fun r1 => (br (!r1) (some (⟨#[]⟩ : ByteArray)) (bd (Bc4 k a0) fun r2 => (gd (decide ((⟨#[115]⟩ : ByteArray).size + r2.size ≤ A3)) (some ((⟨#[115]⟩ : ByteArray) ++ r2))))))
noncomputable section
def Bl4 (k : Nat) (L0 : B3 → Int → Option Bool) (a0 : B3) (v1 : Int) : Option Bool := (br (decide (v1 < (a0.1.length : Int))) (gd (decide (0 ≤ v1)) (gd (decide (v1 < (a0.1.length : Int))) (bd (g7 k (((rd A4 a0.1 v1.toNat).1.size : Nat) : Int) 1 8) fun r1 => (br (!r1) (some false) (br (decide ((((rd A4 a0.1 v1.toNat).2.1.size : Nat) : Int) > 20000)) (some false) (bd (g7 k (rd A4 a0.1 v1.toNat).2.2.1 0 (((rd A4 a0.1 v1.toNat).2.1.size : Nat) : Int)) fun r2 => (br (!r2) (some false) (br (decide (v1 > 0)) (gd (decide (0 ≤ (B4 (v1 - 1)))) (gd (decide ((B4 (v1 - 1)) < (a0.1.length : Int))) (br (!Op.bytesLess (rd A4 a0.1 (B4 (v1 - 1)).toNat).1.toList (rd A4 a0.1 v1.toNat).1.toList) (some false) (L0 a0 (B4 (v1 + 1)))))) (L0 a0 (B4 (v1 + 1))))))))))) (some (decide ((a0.1.length : Int) ≤ 30))))
def Ab7 (k : Nat) : Nat → B3 → Int → Option Bool
 | 0, _, _ => none
 | n + 1, a0, v1 => Bl4 k (Ab7 k n) a0 v1
def Dv8 (k : Nat) (L0 : B3 → Int → Option Bool) (a0 : B3) : Option Bool := (L0 a0 0)
def Bu5 (k : Nat) (a0 : B3) : Option Bool := Dv8 k (Ab7 k k) a0
end
noncomputable section
def Bl5 (k : Nat) (L0 : B3 → Int → ByteArray → Option Int) (a0 : B3) (v1 : Int) (a1 : ByteArray) : Option Int := (br (decide (v1 < (a0.1.length : Int))) (gd (decide (0 ≤ v1)) (gd (decide (v1 < (a0.1.length : Int))) (br ((rd A4 a0.1 v1.toNat).1.toList == a1.toList) (some v1) (L0 a0 (B4 (v1 + 1)) a1)))) (some (-1)))
def Ab8 (k : Nat) : Nat → B3 → Int → ByteArray → Option Int
 | 0, _, _, _ => none
 | n + 1, a0, v1, a1 => Bl5 k (Ab8 k n) a0 v1 a1
def Dv9 (k : Nat) (L0 : B3 → Int → ByteArray → Option Int) (a0 : B3) (a1 : ByteArray) : Option Int := (L0 a0 0 a1)
def Cb7 (k : Nat) (a0 : B3) (a1 : ByteArray) : Option Int := Dv9 k (Ab8 k k) a0 a1
end
def Bu6 (k : Nat) (a0 : B3) (a1 : ByteArray) : Option Bool := (bd (Cb7 k a0 a1) fun r1 => (some (decide (r1 ≥ 0))))
def K9 (k : Nat) (a0 : ByteArray) (a1 : ByteArray) : Option Bool := (br (decide ((a0.size : Int) ≥ (a1.size : Int))) (gd (decide (0 ≤ (a1.size : Int))) (gd (decide ((a1.size : Int) ≤ (a0.size : Int))) (some ((a0.extract 0 (a1.size : Int).toNat).toList == a1.toList)))) (some false))
def L5 (k : Nat) (a0 : ByteArray) (a1 : ByteArray) : Option (ByteArray × Bool) := (bd (K9 k a0 a1) fun r1 => (br (!r1) (some (a0, false)) (gd (decide (0 ≤ (a1.size : Int))) (gd (decide ((a1.size : Int) ≤ (a0.size : Int))) (some ((a0.extract (a1.size : Int).toNat a0.size), true))))))
def Aa0 (k : Nat) (a0 : ByteArray) (a1 : ByteArray) : Option (ByteArray × Bool) := (bd (L5 k a0 a1) fun r1 => (some (r1.1, r1.2)))
def Co3 (k : Nat) (a0 : ByteArray) : Option (Int × Bool) := Gt6 a0
def Z4 (k : Nat) (a0 : ByteArray) (a1 : ByteArray) (a2 : Int) : Option Int := (bd (Aa0 k a0 a1) fun r1 => (bd (Co3 k r1.1) fun r2 => (br (!r1.2) (some (-1)) (br (!r2.2) (some (-1)) (br (decide (r2.1 > a2)) (some (-1)) (some r2.1))))))
noncomputable section
def Bo8 (k : Nat) (L1 : ByteArray → B3 → Int → List I4 → Option (List I4 × Bool)) (r4 : ByteArray) (a0 : B3) (v3 : Int) (xs4 : List I4) : Option (List I4 × Bool) := (br (decide (v3 < (a0.1.length : Int))) (gd (decide (0 ≤ v3)) (gd (decide (v3 < (a0.1.length : Int))) (bd (Z4 k (rd A4 a0.1 v3.toNat).1 (⟨#[115]⟩ : ByteArray) 1000000) fun r5 => (br (decide (r5 ≥ 0)) (br (!((rd A4 a0.1 v3.toNat).1.toList == r4.toList)) (gd (decide (xs4.length + ([(4, (rd A4 a0.1 v3.toNat).1, ByteArray.empty, ByteArray.empty, ())] : List I4).length ≤ A3)) (L1 r4 a0 (B4 (v3 + 1)) (xs4 ++ ([(4, (rd A4 a0.1 v3.toNat).1, ByteArray.empty, ByteArray.empty, ())] : List I4)))) (L1 r4 a0 (B4 (v3 + 1)) xs4)) (L1 r4 a0 (B4 (v3 + 1)) xs4))))) (some (xs4, true)))
def Bo9 (k : Nat) (L0 : (ByteArray × Bool) → Int → B3 → D8 → List I4 → Option (List I4 × Bool)) (L1 : ByteArray → B3 → Int → List I4 → Option (List I4 × Bool)) (r1 : ByteArray × Bool) (v1 : Int) (a0 : B3) (a1 : D8) (xs2 : List I4) : Option (List I4 × Bool) := (br (decide (v1 < (r1.1.size : Int))) (gd (decide (0 ≤ (if (B4 (v1 + 60)) < (r1.1.size : Int) then (B4 (v1 + 60)) else (r1.1.size : Int)))) (gd (decide ((if (B4 (v1 + 60)) < (r1.1.size : Int) then (B4 (v1 + 60)) else (r1.1.size : Int)) ≤ (r1.1.size : Int))) (gd (decide (0 ≤ v1)) (gd (decide (v1 ≤ (if (B4 (v1 + 60)) < (r1.1.size : Int) then (B4 (v1 + 60)) else (r1.1.size : Int)))) (gd (decide (xs2.length + ([(1, (⟨#[115, 43]⟩ : ByteArray), (r1.1.extract v1.toNat (if (B4 (v1 + 60)) < (r1.1.size : Int) then (B4 (v1 + 60)) else (r1.1.size : Int)).toNat), ByteArray.empty, ())] : List I4).length ≤ A3)) (L0 r1 (B4 (v1 + 60)) a0 a1 (xs2 ++ ([(1, (⟨#[115, 43]⟩ : ByteArray), (r1.1.extract v1.toNat (if (B4 (v1 + 60)) < (r1.1.size : Int) then (B4 (v1 + 60)) else (r1.1.size : Int)).toNat), ByteArray.empty, ())] : List I4)))))))) (bd (Ax1 k a1.1) fun r4 => (gd (decide (xs2.length + ([(2, (⟨#[115, 43]⟩ : ByteArray), ByteArray.empty, ByteArray.empty, ()), (3, (⟨#[115, 43]⟩ : ByteArray), ByteArray.empty, r4, ())] : List I4).length ≤ A3)) (L1 r4 a0 0 (xs2 ++ ([(2, (⟨#[115, 43]⟩ : ByteArray), ByteArray.empty, ByteArray.empty, ()), (3, (⟨#[115, 43]⟩ : ByteArray), ByteArray.empty, r4, ())] : List I4))))))
def u9 (k : Nat) : Nat → ByteArray → B3 → Int → List I4 → Option (List I4 × Bool)
 | 0, _, _, _, _ => none
 | n + 1, r4, a0, v3, xs4 => Bo8 k (u9 k n) r4 a0 v3 xs4
def Z5 (k : Nat) : Nat → (ByteArray × Bool) → Int → B3 → D8 → List I4 → Option (List I4 × Bool)
 | 0, _, _, _, _, _ => none
 | n + 1, r1, v1, a0, a1, xs2 => Bo9 k (Z5 k n) (u9 k n) r1 v1 a0 a1 xs2
def C04 (k : Nat) (L0 : (ByteArray × Bool) → Int → B3 → D8 → List I4 → Option (List I4 × Bool)) (a0 : B3) (a1 : D8) : Option (List I4 × Bool) := (bd (Aw8 k a1) fun r1 => (br (!r1.2) (some ([], false)) (bd (Bu5 k a0) fun r2 => (br (!r2) (some ([], false)) (bd (Bu6 k a0 (⟨#[115, 43]⟩ : ByteArray)) fun r3 => (br r3 (gd (decide (([(4, (⟨#[115, 43]⟩ : ByteArray), ByteArray.empty, ByteArray.empty, ())] : List I4).length ≤ A3)) (L0 r1 0 a0 a1 ([(4, (⟨#[115, 43]⟩ : ByteArray), ByteArray.empty, ByteArray.empty, ())] : List I4))) (L0 r1 0 a0 a1 [])))))))
def Ab9 (k : Nat) (a0 : B3) (a1 : D8) : Option (List I4 × Bool) := C04 k (Z5 k k) a0 a1
end
noncomputable section
def A58 (k : Nat) (L0 : Bool → B3 → Int → Int → Int → ByteArray → List Int → Option (D8 × Bool)) (v1 : Bool) (a0 : B3) (v2 : Int) (v3 : Int) (v4 : Int) (v5 : ByteArray) (xs6 : List Int) : Option (D8 × Bool) := (br (decide (v2 < (a0.1.length : Int))) (gd (decide (0 ≤ v2)) (gd (decide (v2 < (a0.1.length : Int))) (bd (Z4 k (rd A4 a0.1 v2.toNat).1 (⟨#[115]⟩ : ByteArray) 1000000) fun r2 => (bd (Ax0 k (rd A4 a0.1 v2.toNat).2.1) fun r3 => (br (decide (r2 ≥ 0)) (br r3.2 (br (r3.1.1 == r2) (br (!v1) (L0 true a0 (B4 (v2 + 1)) r3.1.1 r3.1.2.1 r3.1.2.2.2.1 r3.1.2.2.1) (br (decide (r2 > v3)) (L0 true a0 (B4 (v2 + 1)) r3.1.1 r3.1.2.1 r3.1.2.2.2.1 r3.1.2.2.1) (L0 v1 a0 (B4 (v2 + 1)) v3 v4 v5 xs6))) (L0 v1 a0 (B4 (v2 + 1)) v3 v4 v5 xs6)) (L0 v1 a0 (B4 (v2 + 1)) v3 v4 v5 xs6)) (L0 v1 a0 (B4 (v2 + 1)) v3 v4 v5 xs6)))))) (some ((v3, v4, xs6, v5, ()), v1)))
def P1 (k : Nat) : Nat → Bool → B3 → Int → Int → Int → ByteArray → List Int → Option (D8 × Bool)
 | 0, _, _, _, _, _, _, _ => none
 | n + 1, v1, a0, v2, v3, v4, v5, xs6 => A58 k (P1 k n) v1 a0 v2 v3 v4 v5 xs6
def Cb8 (k : Nat) (L0 : Bool → B3 → Int → Int → Int → ByteArray → List Int → Option (D8 × Bool)) (a0 : B3) : Option (D8 × Bool) := (bd (Bu5 k a0) fun r1 => (br (!r1) (some ((0, 0, [], ByteArray.empty, ()), false)) (L0 false a0 0 0 0 ByteArray.empty [])))
def U0 (k : Nat) (a0 : B3) : Option (D8 × Bool) := Cb8 k (P1 k k) a0
end
noncomputable section
def Bp0 (k : Nat) (L0 : B3 → Int → (D8 × Bool) → List I4 → Option (List I4)) (a0 : B3) (v1 : Int) (r1 : D8 × Bool) (xs2 : List I4) : Option (List I4) := (br (decide (v1 < (a0.1.length : Int))) (gd (decide (0 ≤ v1)) (gd (decide (v1 < (a0.1.length : Int))) (bd (Z4 k (rd A4 a0.1 v1.toNat).1 (⟨#[115]⟩ : ByteArray) 1000000) fun r2 => (br ((rd A4 a0.1 v1.toNat).1.toList == (⟨#[115, 43]⟩ : ByteArray).toList) (gd (decide (xs2.length + ([(4, (rd A4 a0.1 v1.toNat).1, ByteArray.empty, ByteArray.empty, ())] : List I4).length ≤ A3)) (L0 a0 (B4 (v1 + 1)) r1 (xs2 ++ ([(4, (rd A4 a0.1 v1.toNat).1, ByteArray.empty, ByteArray.empty, ())] : List I4)))) (br (decide (r2 ≥ 0)) (br (r2 != r1.1.1) (gd (decide (xs2.length + ([(4, (rd A4 a0.1 v1.toNat).1, ByteArray.empty, ByteArray.empty, ())] : List I4).length ≤ A3)) (L0 a0 (B4 (v1 + 1)) r1 (xs2 ++ ([(4, (rd A4 a0.1 v1.toNat).1, ByteArray.empty, ByteArray.empty, ())] : List I4)))) (L0 a0 (B4 (v1 + 1)) r1 xs2)) (L0 a0 (B4 (v1 + 1)) r1 xs2)))))) (some xs2))
def R6 (k : Nat) : Nat → B3 → Int → (D8 × Bool) → List I4 → Option (List I4)
 | 0, _, _, _, _ => none
 | n + 1, a0, v1, r1, xs2 => Bp0 k (R6 k n) a0 v1 r1 xs2
def C05 (k : Nat) (L0 : B3 → Int → (D8 × Bool) → List I4 → Option (List I4)) (a0 : B3) : Option (List I4) := (bd (U0 k a0) fun r1 => (br (!r1.2) (some []) (L0 a0 0 r1 [])))
def C4 (k : Nat) (a0 : B3) : Option (List I4) := C05 k (R6 k k) a0
end
noncomputable section
def A59 (k : Nat) (L1 : Int → List Int → Int → Int → List Int → Option (List Int)) (v3 : Int) (v4 : List Int) (v5 : Int) (v6 : Int) (xs7 : List Int) : Option (List Int) := (br (decide (v3 < 12)) (bd (D0 k (v4, v5, v6, ()) 10000) fun r2 => (gd (decide (xs7.length + [r2.1].length ≤ A3)) (L1 (B4 (v3 + 1)) r2.2.1.1 r2.2.1.2.1 r2.2.1.2.2.1 (xs7 ++ [r2.1])))) (some xs7))
def A60 (k : Nat) (L0 : List Int → Int → Int → Option (List Int)) (L1 : Int → List Int → Int → Int → List Int → Option (List Int)) (a0 : List Int) (v1 : Int) (v2 : Int) : Option (List Int) := (br (decide (v2 < (a0.length : Int))) (br (decide (v2 < 4000)) (gd (decide (0 ≤ v2)) (gd (decide (v2 < (a0.length : Int))) (L0 a0 (Fc8 .i64 (B4 ((B4 ((B4 (v1 * 131)) + (B4 (rd 0 a0 v2.toNat)))) + 7)) 1073741823) (B4 (v2 + 1))))) (bd (W6 k (a0, 0, v1, ())) fun r1 => (L1 0 r1.2.1.1 r1.2.1.2.1 r1.2.1.2.2.1 []))) (bd (W6 k (a0, 0, v1, ())) fun r3 => (L1 0 r3.2.1.1 r3.2.1.2.1 r3.2.1.2.2.1 [])))
def T0 (k : Nat) : Nat → Int → List Int → Int → Int → List Int → Option (List Int)
 | 0, _, _, _, _, _ => none
 | n + 1, v3, v4, v5, v6, xs7 => A59 k (T0 k n) v3 v4 v5 v6 xs7
def T1 (k : Nat) : Nat → List Int → Int → Int → Option (List Int)
 | 0, _, _, _ => none
 | n + 1, a0, v1, v2 => A60 k (T1 k n) (T0 k n) a0 v1 v2
def Cb9 (k : Nat) (L0 : List Int → Int → Int → Option (List Int)) (a0 : List Int) : Option (List Int) := (L0 a0 (B4 (13101 + (a0.length : Int))) 0)
def X9 (k : Nat) (a0 : List Int) : Option (List Int) := Cb9 k (T1 k k) a0
end
noncomputable section
def Bp1 (k : Nat) (L0 : List Int → Int → B3 → List B1 → Option (B3 × Bool)) (a1 : List Int) (v1 : Int) (a0 : B3) (xs2 : List B1) : Option (B3 × Bool) := (br (decide (v1 < (a0.1.length : Int))) (gd (decide (0 ≤ v1)) (gd (decide (v1 < (a0.1.length : Int))) (br (decide (v1 < (a1.length : Int))) (gd (decide (0 ≤ v1)) (gd (decide (v1 < (a1.length : Int))) (br (decide ((rd 0 a1 v1.toNat) > (((rd A4 a0.1 v1.toNat).2.1.size : Nat) : Int))) (br (decide ((((rd A4 a0.1 v1.toNat).2.1.size : Nat) : Int) < (rd A4 a0.1 v1.toNat).2.2.1)) (gd (decide (0 ≤ (rd A4 a0.1 v1.toNat).2.2.1)) (gd (decide ((rd A4 a0.1 v1.toNat).2.2.1 ≤ (((rd A4 a0.1 v1.toNat).2.1.size : Nat) : Int))) (gd (decide (xs2.length + ([((rd A4 a0.1 v1.toNat).1, ((rd A4 a0.1 v1.toNat).2.1.extract 0 (rd A4 a0.1 v1.toNat).2.2.1.toNat), (rd A4 a0.1 v1.toNat).2.2)] : List B1).length ≤ A3)) (L0 a1 (B4 (v1 + 1)) a0 (xs2 ++ ([((rd A4 a0.1 v1.toNat).1, ((rd A4 a0.1 v1.toNat).2.1.extract 0 (rd A4 a0.1 v1.toNat).2.2.1.toNat), (rd A4 a0.1 v1.toNat).2.2)] : List B1)))))) (gd (decide (0 ≤ (((rd A4 a0.1 v1.toNat).2.1.size : Nat) : Int))) (gd (decide ((((rd A4 a0.1 v1.toNat).2.1.size : Nat) : Int) ≤ (((rd A4 a0.1 v1.toNat).2.1.size : Nat) : Int))) (gd (decide (xs2.length + ([((rd A4 a0.1 v1.toNat).1, ((rd A4 a0.1 v1.toNat).2.1.extract 0 (((rd A4 a0.1 v1.toNat).2.1.size : Nat) : Int).toNat), (((rd A4 a0.1 v1.toNat).2.1.size : Nat) : Int), ())] : List B1).length ≤ A3)) (L0 a1 (B4 (v1 + 1)) a0 (xs2 ++ ([((rd A4 a0.1 v1.toNat).1, ((rd A4 a0.1 v1.toNat).2.1.extract 0 (((rd A4 a0.1 v1.toNat).2.1.size : Nat) : Int).toNat), (((rd A4 a0.1 v1.toNat).2.1.size : Nat) : Int), ())] : List B1))))))) (br (decide ((rd 0 a1 v1.toNat) < (rd A4 a0.1 v1.toNat).2.2.1)) (gd (decide (0 ≤ (rd A4 a0.1 v1.toNat).2.2.1)) (gd (decide ((rd A4 a0.1 v1.toNat).2.2.1 ≤ (((rd A4 a0.1 v1.toNat).2.1.size : Nat) : Int))) (gd (decide (xs2.length + ([((rd A4 a0.1 v1.toNat).1, ((rd A4 a0.1 v1.toNat).2.1.extract 0 (rd A4 a0.1 v1.toNat).2.2.1.toNat), (rd A4 a0.1 v1.toNat).2.2)] : List B1).length ≤ A3)) (L0 a1 (B4 (v1 + 1)) a0 (xs2 ++ ([((rd A4 a0.1 v1.toNat).1, ((rd A4 a0.1 v1.toNat).2.1.extract 0 (rd A4 a0.1 v1.toNat).2.2.1.toNat), (rd A4 a0.1 v1.toNat).2.2)] : List B1)))))) (gd (decide (0 ≤ (rd 0 a1 v1.toNat))) (gd (decide ((rd 0 a1 v1.toNat) ≤ (((rd A4 a0.1 v1.toNat).2.1.size : Nat) : Int))) (gd (decide (xs2.length + ([((rd A4 a0.1 v1.toNat).1, ((rd A4 a0.1 v1.toNat).2.1.extract 0 (rd 0 a1 v1.toNat).toNat), (rd 0 a1 v1.toNat), ())] : List B1).length ≤ A3)) (L0 a1 (B4 (v1 + 1)) a0 (xs2 ++ ([((rd A4 a0.1 v1.toNat).1, ((rd A4 a0.1 v1.toNat).2.1.extract 0 (rd 0 a1 v1.toNat).toNat), (rd 0 a1 v1.toNat), ())] : List B1)))))))))) (br (decide (0 > (((rd A4 a0.1 v1.toNat).2.1.size : Nat) : Int))) (br (decide ((((rd A4 a0.1 v1.toNat).2.1.size : Nat) : Int) < (rd A4 a0.1 v1.toNat).2.2.1)) (gd (decide (0 ≤ (rd A4 a0.1 v1.toNat).2.2.1)) (gd (decide ((rd A4 a0.1 v1.toNat).2.2.1 ≤ (((rd A4 a0.1 v1.toNat).2.1.size : Nat) : Int))) (gd (decide (xs2.length + ([((rd A4 a0.1 v1.toNat).1, ((rd A4 a0.1 v1.toNat).2.1.extract 0 (rd A4 a0.1 v1.toNat).2.2.1.toNat), (rd A4 a0.1 v1.toNat).2.2)] : List B1).length ≤ A3)) (L0 a1 (B4 (v1 + 1)) a0 (xs2 ++ ([((rd A4 a0.1 v1.toNat).1, ((rd A4 a0.1 v1.toNat).2.1.extract 0 (rd A4 a0.1 v1.toNat).2.2.1.toNat), (rd A4 a0.1 v1.toNat).2.2)] : List B1)))))) (gd (decide (0 ≤ (((rd A4 a0.1 v1.toNat).2.1.size : Nat) : Int))) (gd (decide ((((rd A4 a0.1 v1.toNat).2.1.size : Nat) : Int) ≤ (((rd A4 a0.1 v1.toNat).2.1.size : Nat) : Int))) (gd (decide (xs2.length + ([((rd A4 a0.1 v1.toNat).1, ((rd A4 a0.1 v1.toNat).2.1.extract 0 (((rd A4 a0.1 v1.toNat).2.1.size : Nat) : Int).toNat), (((rd A4 a0.1 v1.toNat).2.1.size : Nat) : Int), ())] : List B1).length ≤ A3)) (L0 a1 (B4 (v1 + 1)) a0 (xs2 ++ ([((rd A4 a0.1 v1.toNat).1, ((rd A4 a0.1 v1.toNat).2.1.extract 0 (((rd A4 a0.1 v1.toNat).2.1.size : Nat) : Int).toNat), (((rd A4 a0.1 v1.toNat).2.1.size : Nat) : Int), ())] : List B1))))))) (br (decide (0 < (rd A4 a0.1 v1.toNat).2.2.1)) (gd (decide (0 ≤ (rd A4 a0.1 v1.toNat).2.2.1)) (gd (decide ((rd A4 a0.1 v1.toNat).2.2.1 ≤ (((rd A4 a0.1 v1.toNat).2.1.size : Nat) : Int))) (gd (decide (xs2.length + ([((rd A4 a0.1 v1.toNat).1, ((rd A4 a0.1 v1.toNat).2.1.extract 0 (rd A4 a0.1 v1.toNat).2.2.1.toNat), (rd A4 a0.1 v1.toNat).2.2)] : List B1).length ≤ A3)) (L0 a1 (B4 (v1 + 1)) a0 (xs2 ++ ([((rd A4 a0.1 v1.toNat).1, ((rd A4 a0.1 v1.toNat).2.1.extract 0 (rd A4 a0.1 v1.toNat).2.2.1.toNat), (rd A4 a0.1 v1.toNat).2.2)] : List B1)))))) (gd (decide (0 ≤ (((rd A4 a0.1 v1.toNat).2.1.size : Nat) : Int))) (gd (decide (xs2.length + ([((rd A4 a0.1 v1.toNat).1, ((rd A4 a0.1 v1.toNat).2.1.extract 0 0), 0, ())] : List B1).length ≤ A3)) (L0 a1 (B4 (v1 + 1)) a0 (xs2 ++ ([((rd A4 a0.1 v1.toNat).1, ((rd A4 a0.1 v1.toNat).2.1.extract 0 0), 0, ())] : List B1)))))))))) (some ((xs2, ()), true)))
def U6 (k : Nat) : Nat → List Int → Int → B3 → List B1 → Option (B3 × Bool)
 | 0, _, _, _, _ => none
 | n + 1, a1, v1, a0, xs2 => Bp1 k (U6 k n) a1 v1 a0 xs2
def C06 (k : Nat) (L0 : List Int → Int → B3 → List B1 → Option (B3 × Bool)) (a0 : B3) (a1 : List Int) : Option (B3 × Bool) := (bd (F7 k a0) fun r1 => (br (!r1) (some (([], ()), false)) (L0 a1 0 a0 [])))
def Be9 (k : Nat) (a0 : B3) (a1 : List Int) : Option (B3 × Bool) := C06 k (U6 k k) a0 a1
end
def Am6 (k : Nat) (a0 : B3) (a1 : List I4) (a2 : Int) (a3 : List Int) : Option (B3 × Bool) := (bd (E9 k a2 0 (a1.length : Int)) fun r1 => (br (!r1) (some (([], ()), false)) (gd (decide (0 ≤ a2)) (gd (decide (a2 ≤ (a1.length : Int))) (bd (H0 k a0 (a1.take a2.toNat)) fun r2 => (br (decide (r2.2 < a2)) (some (([], ()), false)) (bd (Be9 k r2.1 a3) fun r3 => (some (r3.1, r3.2)))))))))
noncomputable section
def Cu1 (k : Nat) (L0 : List Int → Int → List Int → Option (List Int)) (a0 : List Int) (v1 : Int) (xs2 : List Int) : Option (List Int) := (br (decide (v1 < 6)) (gd (decide (0 ≤ v1)) (gd (decide (v1 < (a0.length : Int))) (ng ((rd 0 a0 v1.toNat) == (rd 0 a0 v1.toNat) && (300 : Int) == 0) (gd (decide (xs2.length + [(Int.tmod (rd 0 a0 v1.toNat) 300)].length ≤ A3)) (L0 a0 (B4 (v1 + 1)) (xs2 ++ [(Int.tmod (rd 0 a0 v1.toNat) 300)])))))) (some xs2))
def Al2 (k : Nat) : Nat → List Int → Int → List Int → Option (List Int)
 | 0, _, _, _ => none
 | n + 1, a0, v1, xs2 => Cu1 k (Al2 k n) a0 v1 xs2
def Em9 (k : Nat) (L0 : List Int → Int → List Int → Option (List Int)) (a0 : List Int) : Option (List Int) := (L0 a0 0 [])
def Bl6 (k : Nat) (a0 : List Int) : Option (List Int) := Em9 k (Al2 k k) a0
end
noncomputable section
def Bu7 (k : Nat) (L0 : ByteArray → Int → Int → Option (Int × Bool)) (a0 : ByteArray) (v1 : Int) (v2 : Int) : Option (Int × Bool) := (br (decide (v2 < (a0.size : Int))) (gd (decide (0 ≤ v2)) (gd (decide (v2 < (a0.size : Int))) (br (decide ((bt a0 v2.toNat) < 48)) (some (0, false)) (gd (decide (0 ≤ v2)) (gd (decide (v2 < (a0.size : Int))) (br (decide ((bt a0 v2.toNat) > 57)) (some (0, false)) (gd (decide (0 ≤ v2)) (gd (decide (v2 < (a0.size : Int))) (L0 a0 (B4 ((B4 ((B4 (10 * v1)) + (B4 (bt a0 v2.toNat)))) - 48)) (B4 (v2 + 1))))))))))) (br (decide (v1 > 1000000000)) (some (0, false)) (bd (W9 k v1) fun r1 => (br (!(r1.toList == a0.toList)) (some (0, false)) (some (v1, true))))))
def Af1 (k : Nat) : Nat → ByteArray → Int → Int → Option (Int × Bool)
 | 0, _, _, _ => none
 | n + 1, a0, v1, v2 => Bu7 k (Af1 k n) a0 v1 v2
def B71 (k : Nat) (L0 : ByteArray → Int → Int → Option (Int × Bool)) (a0 : ByteArray) : Option (Int × Bool) := (br (decide ((a0.size : Int) > 10)) (some (0, false)) (L0 a0 0 0))
def Az5 (k : Nat) (a0 : ByteArray) : Option (Int × Bool) := B71 k (Af1 k k) a0
end
def Ac0 (k : Nat) (a0 : ByteArray) : Option Int := (br (decide ((a0.size : Int) < 2)) (some (-1)) (gd (decide (1 ≤ (a0.size : Int))) (bd (Az5 k (a0.extract 1 a0.size)) fun r1 => (br (!r1.2) (some (-1)) (bd (Al1 k r1.1) fun r2 => (br (!(r2.toList == a0.toList)) (some (-1)) (some r1.1)))))))
def Ax2 (k : Nat) (a0 : ByteArray) : Option (ByteArray × Bool) := (br (decide ((B4 ((a0.size : Int) - 4)) < 0)) (some ((⟨#[]⟩ : ByteArray), false)) (br (decide ((B4 ((a0.size : Int) - 4)) > 20000)) (some ((⟨#[]⟩ : ByteArray), false)) (gd (decide (0 ≤ (B4 ((a0.size : Int) - 4)))) (gd (decide ((B4 ((a0.size : Int) - 4)) ≤ (a0.size : Int))) (gd (decide (0 ≤ (B4 ((a0.size : Int) - 4)))) (gd (decide ((B4 ((a0.size : Int) - 4)) ≤ (a0.size : Int))) (bd (Bl1 k (a0.extract 0 (B4 ((a0.size : Int) - 4)).toNat)) fun r1 => (bd (Bu2 k r1) fun r2 => (br (!((a0.extract (B4 ((a0.size : Int) - 4)).toNat a0.size).toList == r2.toList)) (some ((⟨#[]⟩ : ByteArray), false)) (gd (decide (0 ≤ (B4 ((a0.size : Int) - 4)))) (gd (decide ((B4 ((a0.size : Int) - 4)) ≤ (a0.size : Int))) (some ((a0.extract 0 (B4 ((a0.size : Int) - 4)).toNat), true)))))))))))))
noncomputable section
def Ap5 (k : Nat) (L0 : ByteArray → Int → Int → Int → Int → Option (Int × Int × Bool)) (a0 : ByteArray) (a1 : Int) (v1 : Int) (v2 : Int) (v3 : Int) : Option (Int × Int × Bool) := (br (decide (v3 < (a0.size : Int))) (br (decide (v3 < (B4 (a1 + 5)))) (gd (decide (0 ≤ v3)) (gd (decide (v3 < (a0.size : Int))) (ng ((B4 (bt a0 v3.toNat)) == (B4 (bt a0 v3.toNat)) && (128 : Int) == 0) (gd (decide (0 ≤ v3)) (gd (decide (v3 < (a0.size : Int))) (br (decide ((bt a0 v3.toNat) < 128)) (br (decide ((B4 (v1 + (B4 ((Int.tmod (B4 (bt a0 v3.toNat)) 128) * v2)))) > 1000000000)) (some (0, 0, false)) (bd (N0 k (B4 (v1 + (B4 ((Int.tmod (B4 (bt a0 v3.toNat)) 128) * v2))))) fun r2 => (gd (decide (0 ≤ (B4 (v3 + 1)))) (gd (decide ((B4 (v3 + 1)) ≤ (a0.size : Int))) (gd (decide (0 ≤ a1)) (gd (decide (a1 ≤ (B4 (v3 + 1)))) (br (!(r2.toList == (a0.extract a1.toNat (B4 (v3 + 1)).toNat).toList)) (some (0, 0, false)) (some ((B4 (v1 + (B4 ((Int.tmod (B4 (bt a0 v3.toNat)) 128) * v2)))), (B4 (v3 + 1)), true))))))))) (L0 a0 a1 (B4 (v1 + (B4 ((Int.tmod (B4 (bt a0 v3.toNat)) 128) * v2)))) (B4 (v2 * 128)) (B4 (v3 + 1))))))))) (some (0, 0, false))) (some (0, 0, false)))
def R7 (k : Nat) : Nat → ByteArray → Int → Int → Int → Int → Option (Int × Int × Bool)
 | 0, _, _, _, _, _ => none
 | n + 1, a0, a1, v1, v2, v3 => Ap5 k (R7 k n) a0 a1 v1 v2 v3
def Cc0 (k : Nat) (L0 : ByteArray → Int → Int → Int → Int → Option (Int × Int × Bool)) (a0 : ByteArray) (a1 : Int) : Option (Int × Int × Bool) := (bd (E9 k a1 0 (a0.size : Int)) fun r1 => (br (!r1) (some (0, 0, false)) (L0 a0 a1 0 1 a1)))
def Bc5 (k : Nat) (a0 : ByteArray) (a1 : Int) : Option (Int × Int × Bool) := Cc0 k (R7 k k) a0 a1
end
def Bf0 (k : Nat) (a0 : K7) : Option (Int × K7 × Unit) := (bd (Bc5 k a0.1 a0.2.1) fun r1 => (br a0.2.2.1 (some (0, (a0.1, a0.2.1, true, ()), ())) (br (!r1.2.2) (some (0, (a0.1, a0.2.1, true, ()), ())) (some (r1.1, (a0.1, r1.2.1, a0.2.2), ())))))
noncomputable section
def Bp2 (k : Nat) (L0 : ByteArray → Int → List Int → Option (List Int × Bool)) (a0 : ByteArray) (v1 : Int) (xs2 : List Int) : Option (List Int × Bool) := (br (decide (v1 < (a0.size : Int))) (br (decide (v1 ≤ 4)) (gd (decide (0 ≤ v1)) (gd (decide (v1 < (a0.size : Int))) (gd (decide (xs2.length + [(B4 (bt a0 v1.toNat))].length ≤ A3)) (L0 a0 (B4 (v1 + 1)) (xs2 ++ [(B4 (bt a0 v1.toNat))]))))) (br ((xs2.length : Int) != (a0.size : Int)) (some ([], false)) (bd (A14 k xs2) fun r1 => (br (!r1) (some ([], false)) (some (xs2, true)))))) (br ((xs2.length : Int) != (a0.size : Int)) (some ([], false)) (bd (A14 k xs2) fun r2 => (br (!r2) (some ([], false)) (some (xs2, true))))))
def Z6 (k : Nat) : Nat → ByteArray → Int → List Int → Option (List Int × Bool)
 | 0, _, _, _ => none
 | n + 1, a0, v1, xs2 => Bp2 k (Z6 k n) a0 v1 xs2
def C07 (k : Nat) (L0 : ByteArray → Int → List Int → Option (List Int × Bool)) (a0 : ByteArray) : Option (List Int × Bool) := (L0 a0 0 [])
def Bf1 (k : Nat) (a0 : ByteArray) : Option (List Int × Bool) := C07 k (Z6 k k) a0
end
def Ax3 (k : Nat) (a0 : K7) (a1 : Int) : Option (ByteArray × K7 × Unit) := (br a0.2.2.1 (some ((⟨#[]⟩ : ByteArray), (a0.1, a0.2.1, true, ()), ())) (br (decide (a1 > (B4 ((a0.1.size : Int) - a0.2.1)))) (some ((⟨#[]⟩ : ByteArray), (a0.1, a0.2.1, true, ()), ())) (gd (decide (0 ≤ (B4 (a0.2.1 + a1)))) (gd (decide ((B4 (a0.2.1 + a1)) ≤ (a0.1.size : Int))) (gd (decide (0 ≤ (B4 ((B4 (a0.2.1 + a1)) - a1)))) (gd (decide ((B4 ((B4 (a0.2.1 + a1)) - a1)) ≤ (B4 (a0.2.1 + a1)))) (some ((a0.1.extract (B4 ((B4 (a0.2.1 + a1)) - a1)).toNat (B4 (a0.2.1 + a1)).toNat), (a0.1, (B4 (a0.2.1 + a1)), a0.2.2), ()))))))))
def V8 (k : Nat) (a0 : K7) : Option (ByteArray × K7 × Unit) := (bd (Bf0 k a0) fun r1 => (bd (Ax3 k r1.2.1 r1.1) fun r2 => (some (r2.1, r2.2.1, ()))))
def Ax4 (k : Nat) (a0 : ByteArray) : Option (D8 × Bool) := (bd (Ax2 k a0) fun r1 => (bd (Bf0 k (r1.1, 0, (!r1.2), ())) fun r2 => (bd (Bf0 k r2.2.1) fun r3 => (bd (V8 k r3.2.1) fun r4 => (bd (Bf1 k r4.1) fun r5 => (bd (V8 k r4.2.1) fun r6 => (bd (Aw6 k (r2.1, r3.1, r5.1, r6.1, ())) fun r7 => (br r6.2.1.2.2.1 (some ((0, 0, [], ByteArray.empty, ()), false)) (br (!r7.2) (some ((0, 0, [], ByteArray.empty, ()), false)) (br (!(r7.1.toList == a0.toList)) (some ((0, 0, [], ByteArray.empty, ()), false)) (some ((r2.1, r3.1, r5.1, r6.1, ()), true))))))))))))
noncomputable section
def A61 (k : Nat) (L0 : Int → B3 → Int → Int → ByteArray → List Int → Option (D8 × Bool)) (v1 : Int) (a0 : B3) (v2 : Int) (v3 : Int) (v4 : ByteArray) (xs5 : List Int) : Option (D8 × Bool) := (br (decide (v1 < (a0.1.length : Int))) (bd (F7 k a0) fun r1 => (br r1 (gd (decide (0 ≤ v1)) (gd (decide (v1 < (a0.1.length : Int))) (bd (Ac0 k (rd A4 a0.1 v1.toNat).1) fun r2 => (gd (decide (0 ≤ v1)) (gd (decide (v1 < (a0.1.length : Int))) (bd (Ax4 k (rd A4 a0.1 v1.toNat).2.1) fun r3 => (br (decide (r2 ≥ 0)) (br r3.2 (br (r3.1.1 == r2) (br (decide (r2 > v2)) (L0 (B4 (v1 + 1)) a0 r3.1.1 r3.1.2.1 r3.1.2.2.2.1 r3.1.2.2.1) (L0 (B4 (v1 + 1)) a0 v2 v3 v4 xs5)) (L0 (B4 (v1 + 1)) a0 v2 v3 v4 xs5)) (L0 (B4 (v1 + 1)) a0 v2 v3 v4 xs5)) (L0 (B4 (v1 + 1)) a0 v2 v3 v4 xs5)))))))) (br (decide (v2 < 0)) (some ((0, 0, [], ByteArray.empty, ()), false)) (some ((v2, v3, xs5, v4, ()), true))))) (br (decide (v2 < 0)) (some ((0, 0, [], ByteArray.empty, ()), false)) (some ((v2, v3, xs5, v4, ()), true))))
def P2 (k : Nat) : Nat → Int → B3 → Int → Int → ByteArray → List Int → Option (D8 × Bool)
 | 0, _, _, _, _, _, _ => none
 | n + 1, v1, a0, v2, v3, v4, xs5 => A61 k (P2 k n) v1 a0 v2 v3 v4 xs5
def Cc1 (k : Nat) (L0 : Int → B3 → Int → Int → ByteArray → List Int → Option (D8 × Bool)) (a0 : B3) : Option (D8 × Bool) := (L0 0 a0 (-1) 0 ByteArray.empty [])
def D6 (k : Nat) (a0 : B3) : Option (D8 × Bool) := Cc1 k (P2 k k) a0
end
def Af2 (k : Nat) (a0 : List Int) : Option Bool := (bd (Fh3 k a0) fun r1 => (br r1 (some true) (bd (g6 k a0) fun r2 => (bd (D6 k r2.1) fun r3 => (br r3.2 (br (decide (r3.1.1 ≥ r2.2.1)) (bd (Ab9 k r2.1 ((B4 (r3.1.1 + 1)), r2.2.2)) fun r4 => (bd (X9 k a0) fun r5 => (gd (decide (11 < (r5.length : Int))) (ng ((rd 0 r5 11) == (rd 0 r5 11) && ((B4 ((r4.1.length : Int) + 1)) : Int) == 0) (bd (Bl6 k r5) fun r6 => (bd (Am6 k r2.1 r4.1 (Int.tmod (rd 0 r5 11) (B4 ((r4.1.length : Int) + 1))) r6) fun r7 => (bd (U0 k r7.1) fun r8 => (br (!r4.2) (some false) (br (!r7.2) (some false) (br (decide ((r4.1.length : Int) < 3)) (some false) (br r3.2 (br (!r8.2) (some false) (br r8.2 (br (r8.1.1 == (B4 (r3.1.1 + 1))) (br (!(r8.1.2.2.2.1.toList == r2.2.2.2.2.1.toList)) (br r3.2 (br (r8.1.1 == r3.1.1) (br (!(r8.1.2.2.2.1.toList == r3.1.2.2.2.1.toList)) (some false) (bd (C4 k r7.1) fun r9 => (bd (H0 k r7.1 r9) fun r10 => (bd (D6 k r10.1) fun r11 => (bd (C4 k r7.1) fun r12 => (br (r10.2 == (r12.length : Int)) (br (r11.2 == r8.2) (some (r11.1.1 == r8.1.1)) (some false)) (some false))))))) (some false)) (some false)) (bd (C4 k r7.1) fun r13 => (bd (H0 k r7.1 r13) fun r14 => (bd (D6 k r14.1) fun r15 => (bd (C4 k r7.1) fun r16 => (br (r14.2 == (r16.length : Int)) (br (r15.2 == r8.2) (some (r15.1.1 == r8.1.1)) (some false)) (some false))))))) (br r3.2 (br (r8.1.1 == r3.1.1) (br (!(r8.1.2.2.2.1.toList == r3.1.2.2.2.1.toList)) (some false) (bd (C4 k r7.1) fun r17 => (bd (H0 k r7.1 r17) fun r18 => (bd (D6 k r18.1) fun r19 => (bd (C4 k r7.1) fun r20 => (br (r18.2 == (r20.length : Int)) (br (r19.2 == r8.2) (some (r19.1.1 == r8.1.1)) (some false)) (some false))))))) (some false)) (some false))) (bd (C4 k r7.1) fun r21 => (bd (H0 k r7.1 r21) fun r22 => (bd (D6 k r22.1) fun r23 => (bd (C4 k r7.1) fun r24 => (br (r22.2 == (r24.length : Int)) (br (r23.2 == r8.2) (some (r23.1.1 == r8.1.1)) (some false)) (some false)))))))) (br r8.2 (br (r8.1.1 == (B4 (r3.1.1 + 1))) (br (!(r8.1.2.2.2.1.toList == r2.2.2.2.2.1.toList)) (br r3.2 (br (r8.1.1 == r3.1.1) (br (!(r8.1.2.2.2.1.toList == r3.1.2.2.2.1.toList)) (some false) (bd (C4 k r7.1) fun r25 => (bd (H0 k r7.1 r25) fun r26 => (bd (D6 k r26.1) fun r27 => (bd (C4 k r7.1) fun r28 => (br (r26.2 == (r28.length : Int)) (br (r27.2 == r8.2) (some (r27.1.1 == r8.1.1)) (some false)) (some false))))))) (some false)) (some false)) (bd (C4 k r7.1) fun r29 => (bd (H0 k r7.1 r29) fun r30 => (bd (D6 k r30.1) fun r31 => (bd (C4 k r7.1) fun r32 => (br (r30.2 == (r32.length : Int)) (br (r31.2 == r8.2) (some (r31.1.1 == r8.1.1)) (some false)) (some false))))))) (br r3.2 (br (r8.1.1 == r3.1.1) (br (!(r8.1.2.2.2.1.toList == r3.1.2.2.2.1.toList)) (some false) (bd (C4 k r7.1) fun r33 => (bd (H0 k r7.1 r33) fun r34 => (bd (D6 k r34.1) fun r35 => (bd (C4 k r7.1) fun r36 => (br (r34.2 == (r36.length : Int)) (br (r35.2 == r8.2) (some (r35.1.1 == r8.1.1)) (some false)) (some false))))))) (some false)) (some false))) (bd (C4 k r7.1) fun r37 => (bd (H0 k r7.1 r37) fun r38 => (bd (D6 k r38.1) fun r39 => (bd (C4 k r7.1) fun r40 => (br (r38.2 == (r40.length : Int)) (br (r39.2 == r8.2) (some (r39.1.1 == r8.1.1)) (some false)) (some false)))))))))))))))))) (bd (Ab9 k r2.1 r2.2) fun r41 => (bd (X9 k a0) fun r42 => (gd (decide (11 < (r42.length : Int))) (ng ((rd 0 r42 11) == (rd 0 r42 11) && ((B4 ((r41.1.length : Int) + 1)) : Int) == 0) (bd (Bl6 k r42) fun r43 => (bd (Am6 k r2.1 r41.1 (Int.tmod (rd 0 r42 11) (B4 ((r41.1.length : Int) + 1))) r43) fun r44 => (bd (U0 k r44.1) fun r45 => (br (!r41.2) (some false) (br (!r44.2) (some false) (br (decide ((r41.1.length : Int) < 3)) (some false) (br r3.2 (br (!r45.2) (some false) (br r45.2 (br (r45.1.1 == r2.2.1) (br (!(r45.1.2.2.2.1.toList == r2.2.2.2.2.1.toList)) (br r3.2 (br (r45.1.1 == r3.1.1) (br (!(r45.1.2.2.2.1.toList == r3.1.2.2.2.1.toList)) (some false) (bd (C4 k r44.1) fun r46 => (bd (H0 k r44.1 r46) fun r47 => (bd (D6 k r47.1) fun r48 => (bd (C4 k r44.1) fun r49 => (br (r47.2 == (r49.length : Int)) (br (r48.2 == r45.2) (some (r48.1.1 == r45.1.1)) (some false)) (some false))))))) (some false)) (some false)) (bd (C4 k r44.1) fun r50 => (bd (H0 k r44.1 r50) fun r51 => (bd (D6 k r51.1) fun r52 => (bd (C4 k r44.1) fun r53 => (br (r51.2 == (r53.length : Int)) (br (r52.2 == r45.2) (some (r52.1.1 == r45.1.1)) (some false)) (some false))))))) (br r3.2 (br (r45.1.1 == r3.1.1) (br (!(r45.1.2.2.2.1.toList == r3.1.2.2.2.1.toList)) (some false) (bd (C4 k r44.1) fun r54 => (bd (H0 k r44.1 r54) fun r55 => (bd (D6 k r55.1) fun r56 => (bd (C4 k r44.1) fun r57 => (br (r55.2 == (r57.length : Int)) (br (r56.2 == r45.2) (some (r56.1.1 == r45.1.1)) (some false)) (some false))))))) (some false)) (some false))) (bd (C4 k r44.1) fun r58 => (bd (H0 k r44.1 r58) fun r59 => (bd (D6 k r59.1) fun r60 => (bd (C4 k r44.1) fun r61 => (br (r59.2 == (r61.length : Int)) (br (r60.2 == r45.2) (some (r60.1.1 == r45.1.1)) (some false)) (some false)))))))) (br r45.2 (br (r45.1.1 == r2.2.1) (br (!(r45.1.2.2.2.1.toList == r2.2.2.2.2.1.toList)) (br r3.2 (br (r45.1.1 == r3.1.1) (br (!(r45.1.2.2.2.1.toList == r3.1.2.2.2.1.toList)) (some false) (bd (C4 k r44.1) fun r62 => (bd (H0 k r44.1 r62) fun r63 => (bd (D6 k r63.1) fun r64 => (bd (C4 k r44.1) fun r65 => (br (r63.2 == (r65.length : Int)) (br (r64.2 == r45.2) (some (r64.1.1 == r45.1.1)) (some false)) (some false))))))) (some false)) (some false)) (bd (C4 k r44.1) fun r66 => (bd (H0 k r44.1 r66) fun r67 => (bd (D6 k r67.1) fun r68 => (bd (C4 k r44.1) fun r69 => (br (r67.2 == (r69.length : Int)) (br (r68.2 == r45.2) (some (r68.1.1 == r45.1.1)) (some false)) (some false))))))) (br r3.2 (br (r45.1.1 == r3.1.1) (br (!(r45.1.2.2.2.1.toList == r3.1.2.2.2.1.toList)) (some false) (bd (C4 k r44.1) fun r70 => (bd (H0 k r44.1 r70) fun r71 => (bd (D6 k r71.1) fun r72 => (bd (C4 k r44.1) fun r73 => (br (r71.2 == (r73.length : Int)) (br (r72.2 == r45.2) (some (r72.1.1 == r45.1.1)) (some false)) (some false))))))) (some false)) (some false))) (bd (C4 k r44.1) fun r74 => (bd (H0 k r44.1 r74) fun r75 => (bd (D6 k r75.1) fun r76 => (bd (C4 k r44.1) fun r77 => (br (r75.2 == (r77.length : Int)) (br (r76.2 == r45.2) (some (r76.1.1 == r45.1.1)) (some false)) (some false))))))))))))))))))) (bd (Ab9 k r2.1 r2.2) fun r78 => (bd (X9 k a0) fun r79 => (gd (decide (11 < (r79.length : Int))) (ng ((rd 0 r79 11) == (rd 0 r79 11) && ((B4 ((r78.1.length : Int) + 1)) : Int) == 0) (bd (Bl6 k r79) fun r80 => (bd (Am6 k r2.1 r78.1 (Int.tmod (rd 0 r79 11) (B4 ((r78.1.length : Int) + 1))) r80) fun r81 => (bd (U0 k r81.1) fun r82 => (br (!r78.2) (some false) (br (!r81.2) (some false) (br (decide ((r78.1.length : Int) < 3)) (some false) (br r3.2 (br (!r82.2) (some false) (br r82.2 (br (r82.1.1 == r2.2.1) (br (!(r82.1.2.2.2.1.toList == r2.2.2.2.2.1.toList)) (br r3.2 (br (r82.1.1 == r3.1.1) (br (!(r82.1.2.2.2.1.toList == r3.1.2.2.2.1.toList)) (some false) (bd (C4 k r81.1) fun r83 => (bd (H0 k r81.1 r83) fun r84 => (bd (D6 k r84.1) fun r85 => (bd (C4 k r81.1) fun r86 => (br (r84.2 == (r86.length : Int)) (br (r85.2 == r82.2) (some (r85.1.1 == r82.1.1)) (some false)) (some false))))))) (some false)) (some false)) (bd (C4 k r81.1) fun r87 => (bd (H0 k r81.1 r87) fun r88 => (bd (D6 k r88.1) fun r89 => (bd (C4 k r81.1) fun r90 => (br (r88.2 == (r90.length : Int)) (br (r89.2 == r82.2) (some (r89.1.1 == r82.1.1)) (some false)) (some false))))))) (br r3.2 (br (r82.1.1 == r3.1.1) (br (!(r82.1.2.2.2.1.toList == r3.1.2.2.2.1.toList)) (some false) (bd (C4 k r81.1) fun r91 => (bd (H0 k r81.1 r91) fun r92 => (bd (D6 k r92.1) fun r93 => (bd (C4 k r81.1) fun r94 => (br (r92.2 == (r94.length : Int)) (br (r93.2 == r82.2) (some (r93.1.1 == r82.1.1)) (some false)) (some false))))))) (some false)) (some false))) (bd (C4 k r81.1) fun r95 => (bd (H0 k r81.1 r95) fun r96 => (bd (D6 k r96.1) fun r97 => (bd (C4 k r81.1) fun r98 => (br (r96.2 == (r98.length : Int)) (br (r97.2 == r82.2) (some (r97.1.1 == r82.1.1)) (some false)) (some false)))))))) (br r82.2 (br (r82.1.1 == r2.2.1) (br (!(r82.1.2.2.2.1.toList == r2.2.2.2.2.1.toList)) (br r3.2 (br (r82.1.1 == r3.1.1) (br (!(r82.1.2.2.2.1.toList == r3.1.2.2.2.1.toList)) (some false) (bd (C4 k r81.1) fun r99 => (bd (H0 k r81.1 r99) fun r100 => (bd (D6 k r100.1) fun r101 => (bd (C4 k r81.1) fun r102 => (br (r100.2 == (r102.length : Int)) (br (r101.2 == r82.2) (some (r101.1.1 == r82.1.1)) (some false)) (some false))))))) (some false)) (some false)) (bd (C4 k r81.1) fun r103 => (bd (H0 k r81.1 r103) fun r104 => (bd (D6 k r104.1) fun r105 => (bd (C4 k r81.1) fun r106 => (br (r104.2 == (r106.length : Int)) (br (r105.2 == r82.2) (some (r105.1.1 == r82.1.1)) (some false)) (some false))))))) (br r3.2 (br (r82.1.1 == r3.1.1) (br (!(r82.1.2.2.2.1.toList == r3.1.2.2.2.1.toList)) (some false) (bd (C4 k r81.1) fun r107 => (bd (H0 k r81.1 r107) fun r108 => (bd (D6 k r108.1) fun r109 => (bd (C4 k r81.1) fun r110 => (br (r108.2 == (r110.length : Int)) (br (r109.2 == r82.2) (some (r109.1.1 == r82.1.1)) (some false)) (some false))))))) (some false)) (some false))) (bd (C4 k r81.1) fun r111 => (bd (H0 k r81.1 r111) fun r112 => (bd (D6 k r112.1) fun r113 => (bd (C4 k r81.1) fun r114 => (br (r112.2 == (r114.length : Int)) (br (r113.2 == r82.2) (some (r113.1.1 == r82.1.1)) (some false)) (some false)))))))))))))))))))))))
end Go.Vm
end
section
namespace Go.Vm
open Go
def C90 (x : List Int) : Nat := x.length
def I8 (x : A0) : Nat := C90 x.2.2.2.2.2.1 + (x.2.2.2.2.2.2.1.size + (C90 x.2.2.2.2.2.2.2.1 + (0)))
def Am7 (x : D2) : Nat := I8 x.2.2.2.1 + (0)
def Dq6 (x : D9) : Nat := x.2.2.1.size + (0)
def Dw0 (x : List D9) : Nat := x.length + (x.map Dq6).sum
def Ap6 (x : List A0) : Nat := x.length + (x.map I8).sum
def A93 (x : List A1) : Nat := x.length
def Cc2 (x : List (List A1)) : Nat := x.length + (x.map A93).sum
def C08 (x : List Bool) : Nat := x.length
def Bp3 (x : A8) : Nat := Ap6 x.1 + (Cc2 x.2.1 + (C08 x.2.2.1 + (0)))
def En0 (x : K8) : Nat := C90 x.2.2.1 + (0)
def F70 (x : List K8) : Nat := x.length + (x.map En0).sum
def B10 (x : C2) : Nat := Dw0 x.1 + (Bp3 x.2.1 + (F70 x.2.2.1 + (0)))
end Go.Vm
end
section
namespace Go.Vm
open Go
def Z7 (a b c : Int) : Bool := decide (b ≤ a) && decide (a ≤ c)
theorem H1 (k : Nat) (a b c : Int) : E9 k a b c = some (Z7 a b c) := by
 unfold E9 Z7
 by_cases h : a ≥ b
 ·have : b ≤ a := h
  simp [h, this]
 ·have : ¬ b ≤ a := h
  simp [h, this]
theorem Af3 (k : Nat) (a b c : Int) : g7 k a b c = some (Z7 a b c) := H1 k a b c
abbrev Am8 (e : A0) : Int := e.2.1
abbrev B11 (e : A0) : Int := e.2.2.1
abbrev Dg0 (e : A0) : Int := e.2.2.2.1
abbrev Bl7 (e : A0) : Int := e.2.2.2.2.1
abbrev G2 (e : A0) : List Int := e.2.2.2.2.2.1
abbrev Ac1 (e : A0) : ByteArray := e.2.2.2.2.2.2.1
abbrev I3 (e : A0) : List Int := e.2.2.2.2.2.2.2.1
abbrev A62 (e : A0) : Int := e.2.2.2.2.2.2.2.2.1
def F71 (l : List Int) : Bool := Ak5 l.length (fun i => Z7 (rd 0 l i) 0 100) && ((l.length : Int) == 5)
theorem Dw1 (l : List Int) (hs : l.length ≤ 1048576) : Ev (fun k => X1 k l) (F71 l) := by
 have h := Et0 (l := fun k n i => V2 k n l (i : Int)) l.length (fun i => Z7 (rd 0 l i) 0 100) ((l.length : Int) == 5) false (fun i hi => ⟨0, fun k _ n => by
  have e := C9 hi (by omega)
  simp only [V2, Ao1, hi, Int.ofNat_lt, Int.natCast_nonneg, decide_true, br_true, gd_true, Int.toNat_natCast, e, H1, bd_some, Es9]⟩) ⟨0, fun k _ n => by simp [V2, Ao1]⟩
 refine h.congr_val (g := fun k => X1 k l) (fun k => rfl) ?_
 unfold F71
 cases Ak5 l.length (fun i => Z7 (rd 0 l i) 0 100) <;> rfl
def Cl7 {α : Type} (l : List α) : Bool := (l.length : Int) == 0
theorem gt0 {α : Type} (l : List α) : decide ((l.length : Int) > 0) = !Cl7 l := by
 unfold Cl7
 cases l with
 | nil => rfl
 | cons x l => simp; omega
def Fh6 (e : A0) : Bool := bif Am8 e == 3 then F71 (G2 e) else Cl7 (G2 e)
def Cu2 (e : A0) (i : Nat) : Bool := Z7 (rd 0 (I3 e) i) 1 1000000 && !(rd 0 (I3 e) i == e.1) && (i == 0 || decide (rd 0 (I3 e) (i - 1) < rd 0 (I3 e) i))
def F72 (e : A0) : Bool := Ak5 (I3 e).length (Cu2 e) && (decide (((I3 e).length : Int) ≤ 3) && ((Am8 e == 1) == Cl7 (I3 e)))
theorem G04 (e : A0) (hs : (I3 e).length ≤ 1048576) : Ev (fun k => T7 k k 0 e) (Ak5 (I3 e).length (Cu2 e)) := by
 have h := Et0 (l := fun k n i => T7 k n (i : Int) e) (I3 e).length (Cu2 e) true false (fun i hi => ⟨0, fun k _ n => by
  have e1 := C9 hi (by omega)
  simp only [T7, A77, hi, Int.ofNat_lt, Int.natCast_nonneg, decide_true, br_true, gd_true, Int.toNat_natCast, e1, H1, bd_some, Es9, Cu2]
  cases Z7 (rd 0 (I3 e) i) 1 1000000 <;> cases (rd 0 (I3 e) i == e.1) <;> simp
  cases i with
  | zero => simp
  | succ j =>
   have e2 := Cz0 (i := j + 1) (by omega) (by omega)
   have h3 : (j : Int) < (I3 e).length := by omega
   have h4 : (0 : Int) < ((j + 1 : Nat) : Int) := by omega
   simp only [e2, Nat.add_sub_cancel, h3, h4, decide_true, br_true, gd_true, Int.toNat_natCast, Int.natCast_nonneg]
   by_cases h5 : rd 0 (I3 e) (j + 1) ≤ rd 0 (I3 e) j
   ·simp [h5, Int.not_lt.2 h5]
   ·simp [h5, Int.not_le.1 h5]⟩) ⟨0, fun k _ n => by simp [T7, A77]⟩
 refine h.congr_val (g := fun k => T7 k k 0 e) (fun k => rfl) ?_
 cases Ak5 (I3 e).length (Cu2 e) <;> rfl
def emp (s : ByteArray) : Bool := s.toList == (⟨#[]⟩ : ByteArray).toList
def Ho9 (s : ByteArray) : Bool := decide ((s.size : Int) ≤ 24)
theorem Fh7 (s : ByteArray) : (emp s = true ∧ Ho9 s = true) ∨ emp s = false := by
 cases h : emp s with
 | false => exact .inr rfl
 | true =>
  refine .inl ⟨rfl, ?_⟩
  unfold emp at h
  rw [l6] at h
  rw [of_decide_eq_true h]; rfl
theorem Hc3 (n : Int) : ((n == 1) = true ∧ (n == 2) = false ∧ (n == 3) = false ∧ (n == 4) = false ∧ (n == 5) = false ∧ Z7 n 1 5 = true) ∨
  ((n == 1) = false ∧ (n == 2) = true ∧ (n == 3) = false ∧ (n == 4) = false ∧ (n == 5) = false ∧ Z7 n 1 5 = true) ∨
  ((n == 1) = false ∧ (n == 2) = false ∧ (n == 3) = true ∧ (n == 4) = false ∧ (n == 5) = false ∧ Z7 n 1 5 = true) ∨
  ((n == 1) = false ∧ (n == 2) = false ∧ (n == 3) = false ∧ (n == 4) = true ∧ (n == 5) = false ∧ Z7 n 1 5 = true) ∨
  ((n == 1) = false ∧ (n == 2) = false ∧ (n == 3) = false ∧ (n == 4) = false ∧ (n == 5) = true ∧ Z7 n 1 5 = true) ∨
  ((n == 1) = false ∧ (n == 2) = false ∧ (n == 3) = false ∧ (n == 4) = false ∧ (n == 5) = false ∧ Z7 n 1 5 = false) := by
 simp only [Z7, beq_eq_false_iff_ne, beq_iff_eq, Bool.and_eq_true, Bool.and_eq_false_iff, decide_eq_true_eq, decide_eq_false_iff_not, ne_eq]
 omega
def body (e : A0) : Bool := Z7 (Am8 e) 1 5 && Z7 (B11 e) 1 5 && Fh6 e &&
 (bif Am8 e == 2 then Z7 (Dg0 e) 1 5 && Z7 (Bl7 e) 0 3 && emp (Ac1 e) else (Dg0 e == 0) && (Bl7 e == 0) && Ho9 (Ac1 e) && (Am8 e == 4 || Am8 e == 5 || emp (Ac1 e)))
def O5 (e : A0) : Bool := body e && Z7 e.1 1 1000000 && Z7 (A62 e) 0 1000000 && F72 e
theorem C09 (e : A0) (hs : I8 e ≤ 1048576) : Ev (fun k => W7 k e) (body e) := by
 obtain ⟨K, hK⟩ := Dw1 (G2 e) (by unfold I8 C90 at hs; simp only [G2]; omega)
 refine ⟨K, fun k hk => ?_⟩
 have h1 := hK k hk
 have he : (e.2.2.2.2.2.2.1.toList == (⟨#[]⟩ : ByteArray).toList) = emp (Ac1 e) := rfl
 have hz : decide ((e.2.2.2.2.2.2.1.size : Int) ≤ 24) = Ho9 (Ac1 e) := rfl
 simp only [W7, H1, bd_some, he, hz, gt0, h1, body, Fh6, Am8, bne]
 rcases Fh7 (Ac1 e) with ⟨g1, g2⟩ | g1 <;> simp only [g1]
 ·simp only [g2]
  rcases Hc3 e.2.1 with ⟨q1, q2, q3, q4, q5, q6⟩ | ⟨q1, q2, q3, q4, q5, q6⟩ | ⟨q1, q2, q3, q4, q5, q6⟩ | ⟨q1, q2, q3, q4, q5, q6⟩ | ⟨q1, q2, q3, q4, q5, q6⟩ | ⟨q1, q2, q3, q4, q5, q6⟩ <;> simp only [q1, q2, q3, q4, q5, q6] <;>
  (generalize Z7 e.2.2.1 1 5 = x1; generalize Z7 e.2.2.2.1 1 5 = x2; generalize Z7 e.2.2.2.2.1 0 3 = x3; generalize (e.2.2.2.1 == 0) = x4; generalize (e.2.2.2.2.1 == 0) = x5; generalize Cl7 (G2 e) = x6; generalize F71 (G2 e) = x7; revert x1 x2 x3 x4 x5 x6 x7; decide)
 ·generalize Ho9 (Ac1 e) = x8
  rcases Hc3 e.2.1 with ⟨q1, q2, q3, q4, q5, q6⟩ | ⟨q1, q2, q3, q4, q5, q6⟩ | ⟨q1, q2, q3, q4, q5, q6⟩ | ⟨q1, q2, q3, q4, q5, q6⟩ | ⟨q1, q2, q3, q4, q5, q6⟩ | ⟨q1, q2, q3, q4, q5, q6⟩ <;> simp only [q1, q2, q3, q4, q5, q6] <;>
  (generalize Z7 e.2.2.1 1 5 = x1; generalize Z7 e.2.2.2.1 1 5 = x2; generalize Z7 e.2.2.2.2.1 0 3 = x3; generalize (e.2.2.2.1 == 0) = x4; generalize (e.2.2.2.2.1 == 0) = x5; generalize Cl7 (G2 e) = x6; generalize F71 (G2 e) = x7; revert x1 x2 x3 x4 x5 x6 x7 x8; decide)
theorem B12 {e : A0} (h : I8 e ≤ 1048576) : (G2 e).length ≤ 1048576 ∧ (Ac1 e).size ≤ 1048576 ∧ (I3 e).length ≤ 1048576 := by
 unfold I8 C90 at h
 simp only [G2, Ac1, I3]
 omega
theorem Af4 (e : A0) (hs : I8 e ≤ 1048576) : Ev (fun k => J8 k e) (O5 e) := by
 obtain ⟨a1, a2, a3⟩ := B12 hs
 obtain ⟨K, hK⟩ := C09 e hs
 obtain ⟨L, hL⟩ := G04 e a3
 refine ⟨max K L, fun k hk => ?_⟩
 have h1 := hK k (by omega)
 have h2 := hL k (by omega)
 have h3 : (((I3 e).length : Int) == 0) = Cl7 (I3 e) := rfl
 simp only [J8, Ca7, H1, bd_some, h1, h2, h3, Hy7, O5, F72]
 generalize body e = x1; generalize Z7 e.1 1 1000000 = x2; generalize Z7 e.2.2.2.2.2.2.2.2.1 0 1000000 = x3; generalize decide (((I3 e).length : Int) ≤ 3) = x4
 generalize ((Am8 e == 1) == Cl7 (I3 e)) = x5; generalize Ak5 (I3 e).length (Cu2 e) = x6
 revert x1 x2 x3 x4 x5 x6; decide
theorem M5 (n : Int) (h0 : 0 ≤ n) (h1 : n ≤ 2147483648) : Ev (fun k => N0 k n) (H5 n) := by
 have h := Cy9 (l := fun k m (p : Int × List Int) => Aa5 k m p.1 p.2) (I := fun p => 0 ≤ p.1 ∧ (p.2.length : Int) + p.1 ≤ 2147483648) (m := fun p => p.1.toNat) (f := fun p => C0 (p.2 ++ varL p.1.toNat)) (fun p hp => by
  obtain ⟨m, xs⟩ := p
  obtain ⟨hm, hx⟩ := hp
  simp only at *
  by_cases h : m > 127
  ·obtain ⟨e1, e2, e3, e4⟩ := Fh2 h (by omega)
   refine .inr ⟨(Int.tdiv m 128, xs ++ [Int.tmod m 128 + 128]), ⟨e3, by simp; omega⟩, by simp only; omega, ?_, 0, fun k _ q => ?_⟩
   ·simp only; rw [Fh1 h]; simp
   ·simp only [Aa5, Bk5, decide_eq_true h, br_true, Hu8, ng_false, e1, e2]
    rw [Bd5 (by unfold A3; simp; omega)]
  ·refine .inl ⟨0, fun k _ q => ?_⟩
   simp only [Aa5, Bk5, decide_eq_false h, br_false, Fh0 hm (show m < 256 by omega), Du0 hm h]
   rw [Bd5 (by unfold A3; simp; omega)]) (n, []) ⟨h0, by simpa using h1⟩
 obtain ⟨K, hK⟩ := h
 exact ⟨K, fun k hk => by simpa [N0, Ct6, H5] using hK k hk k hk⟩
def Fh8 (n : Int) : ByteArray × Bool := bif Z7 n 0 1000000000 then (H5 n, true) else (⟨#[]⟩, false)
theorem B13 (n : Int) : Ev (fun k => X0 k n) (Fh8 n) := by
 cases hr : Z7 n 0 1000000000 with
 | false => exact .of fun k => by simp [X0, Bl3, Af3, Fh8, hr]
 | true =>
  have h0 : 0 ≤ n ∧ n ≤ 1000000000 := by simpa [Z7] using hr
  obtain ⟨h0, h1⟩ := h0
  have h := Cy9 (l := fun k m (p : Int × List Int) => o6 k m p.1 p.2) (I := fun p => 0 ≤ p.1 ∧ (p.2.length : Int) + p.1 ≤ 2147483648) (m := fun p => p.1.toNat) (f := fun p => (C0 (p.2 ++ varL p.1.toNat), true)) (fun p hp => by
   obtain ⟨m, xs⟩ := p
   obtain ⟨hm, hx⟩ := hp
   simp only at *
   by_cases h : m > 127
   ·obtain ⟨e1, e2, e3, e4⟩ := Fh2 h (by omega)
    refine .inr ⟨(Int.tdiv m 128, xs ++ [Int.tmod m 128 + 128]), ⟨e3, by simp; omega⟩, by simp only; omega, ?_, 0, fun k _ q => ?_⟩
    ·simp only; rw [Fh1 h]; simp
    ·simp only [o6, A92, decide_eq_true h, br_true, Hu8, ng_false, e1, e2]
     rw [Bd5 (by unfold A3; simp; omega)]
   ·refine .inl ⟨0, fun k _ q => ?_⟩
    simp only [o6, A92, decide_eq_false h, br_false, Fh0 hm (show m < 256 by omega), Du0 hm h]
    rw [Bd5 (by unfold A3; simp; omega)]) (n, []) ⟨h0, by simp; omega⟩
  obtain ⟨K, hK⟩ := h
  refine ⟨K, fun k hk => ?_⟩
  have h3 := hK k hk k hk
  simp only [List.nil_append] at h3
  simp only [X0, Bl3, Af3, hr, bd_some, Bool.not_true, br_false, h3, Fh8, H5]
  rfl
theorem Eu2 {n : Int} (h0 : 0 ≤ n) (h1 : n ≤ 1000000000) : Fh8 n = (H5 n, true) := by
 have : Z7 n 0 1000000000 = true := by simp [Z7, h0, h1]
 rw [Fh8, this]; rfl
def Cc3 (e : A0) : ByteArray := C0 [IntKind.wrap .u8 e.2.1, IntKind.wrap .u8 e.2.2.1, IntKind.wrap .u8 e.2.2.2.1, IntKind.wrap .u8 e.2.2.2.2.1]
def Co4 (l : List Int) : ByteArray := C0 (l.map fun n => IntKind.wrap .u8 n)
theorem F73 {l : List Int} {i : Nat} (h : i < l.length) : Co4 (l.take (i + 1)) = Co4 (l.take i) ++ C0 [IntKind.wrap .u8 l[i]] := by
 unfold Co4
 rw [List.take_succ_eq_append_getElem h, List.map_append, Ae2]
 rfl
theorem Dw2 (l : List Int) : (Co4 l).size = l.length := by unfold Co4; rw [H4, List.length_map]
def I9 (t : ByteArray) : ByteArray := H5 (t.size : Int) ++ t
def En1 (e : A0) : ByteArray := Cc3 e ++ (H5 ((G2 e).length : Int) ++ Co4 (G2 e)) ++ I9 (Ac1 e)
def Dw3 (e : A0) : ByteArray := H5 e.1 ++ En1 e ++ (H5 ((I3 e).length : Int) ++ Cl5 (I3 e)) ++ H5 (A62 e)
theorem Ah4 (t : ByteArray) (h : t.size ≤ 1048576) : Ev (fun k => Y8 k t) (I9 t) := by
 unfold Y8
 refine (M5 (t.size : Int) (by omega) (by omega)).bd (.of fun k => ?_)
 have := G6 (n := (t.size : Int)) (by omega)
 rw [Bd5 (by unfold A3; omega)]
 rfl
theorem C91 (e : A0) (hl : (G2 e).length ≤ 1000) (ht : (Ac1 e).size ≤ 20000) : Ev (fun k => u5 k e) (En1 e) := by
 obtain ⟨K, hK⟩ := Ah4 (Ac1 e) (by omega)
 obtain ⟨L, hL⟩ := M5 ((G2 e).length : Int) (by omega) (by omega)
 have hz := G6 (n := ((G2 e).length : Int)) (by omega)
 have hy := G6 (n := ((Ac1 e).size : Int)) (by omega)
 have h4 : (Cc3 e).size = 4 := by unfold Cc3; rw [H4]; rfl
 have sz : ∀ i, i ≤ (G2 e).length → (Cc3 e ++ (H5 ((G2 e).length : Int) ++ Co4 ((G2 e).take i))).size ≤ 2000 := fun i hi => by
  rw [G0, G0, Dw2, List.length_take, h4]; omega
 have loop := Dq3 (l := fun k m i => P8 k m (Cc3 e ++ (H5 ((G2 e).length : Int) ++ Co4 ((G2 e).take i))) (i : Int) e) (G2 e).length (r := En1 e) (fun i hi => ⟨0, fun k _ m => by
  have e1 := C9 hi (by omega)
  have h1 := sz i (by omega)
  have h2 : (C0 [IntKind.wrap .u8 (G2 e)[i]]).size = 1 := H4 _
  simp only [P8, Ae5, hi, Int.ofNat_lt, Int.natCast_nonneg, decide_true, br_true, gd_true, Int.toNat_natCast, E8 hi, e1, u0, bd_some]
  rw [Bd5 (by unfold A3; omega), F73 hi]
  simp only [ByteArray.append_assoc]⟩) ⟨K, fun k hk m => by
  have h1 := hK k hk
  have h2 := sz (G2 e).length (by omega)
  have h3 : (I9 (Ac1 e)).size ≤ 30000 := by unfold I9; rw [G0]; omega
  simp only [P8, Ae5, Int.lt_irrefl, decide_false, br_false, h1, bd_some]
  rw [Bd5 (by unfold A3; omega), List.take_length]
  rfl⟩
 obtain ⟨M, hM⟩ := loop
 refine ⟨max L M, fun k hk => ?_⟩
 have h1 := hL k (by omega)
 have h2 := hM k (by omega)
 have g1 : ∀ n : Int, (C0 [IntKind.wrap .u8 n]).size = 1 := fun n => H4 _
 simp only [u5, A56, u0, bd_some, h1]
 rw [Bd5 (by unfold A3; simp only [g1]; omega), Bd5 (by unfold A3; simp only [G0, g1]; omega), Bd5 (by unfold A3; simp only [G0, g1]; omega), Bd5 (by unfold A3; simp only [G0, g1]; omega)]
 have e2 : ((((C0 [IntKind.wrap .u8 e.2.1] ++ C0 [IntKind.wrap .u8 e.2.2.1]) ++ C0 [IntKind.wrap .u8 e.2.2.2.1]) ++ C0 [IntKind.wrap .u8 e.2.2.2.2.1]) ++ H5 ((G2 e).length : Int)) = Cc3 e ++ (H5 ((G2 e).length : Int) ++ Co4 ((G2 e).take 0)) := by
  have : Co4 ((G2 e).take 0) = C0 [] := rfl
  rw [this, ← Hu7]
  simp only [← Ae2, Cc3]
  have : H5 ((G2 e).length : Int) ++ (⟨#[]⟩ : ByteArray) = H5 ((G2 e).length : Int) := by apply A55; simp
  rw [this]
  rfl
 rw [e2]
 exact h2
theorem G4 {a b c : Int} : Z7 a b c = true ↔ b ≤ a ∧ a ≤ c := by simp [Z7]
theorem Fh9 {α : Type} {l : List α} : Cl7 l = true ↔ l = [] := by
 unfold Cl7
 cases l with
 | nil => simp
 | cons x l => simp; omega
theorem G05 {e : A0} (h : Fh6 e = true) : (G2 e).length ≤ 5 ∧ (Am8 e = 3 → (G2 e).length = 5) := by
 unfold Fh6 at h
 cases hk : (Am8 e == 3) with
 | true =>
  rw [hk] at h
  simp only [cond_true, F71, Bool.and_eq_true, beq_iff_eq] at h
  omega
 | false =>
  rw [hk] at h
  simp only [cond_false] at h
  rw [Fh9.1 h]
  simp only [beq_eq_false_iff_ne] at hk
  exact ⟨by simp, fun h => absurd h hk⟩
theorem B14 {e : A0} (h : body e = true) : (1 ≤ Am8 e ∧ Am8 e ≤ 5) ∧ (1 ≤ B11 e ∧ B11 e ≤ 5) ∧ (G2 e).length ≤ 5 ∧ (Ac1 e).size ≤ 24 ∧ (0 ≤ Dg0 e ∧ Dg0 e ≤ 5) ∧ (0 ≤ Bl7 e ∧ Bl7 e ≤ 3) := by
 unfold body at h
 simp only [Bool.and_eq_true, G4] at h
 obtain ⟨⟨⟨h1, h2⟩, h3⟩, h4⟩ := h
 have h5 := (G05 h3).1
 cases hk : (Am8 e == 2) with
 | true =>
  rw [hk] at h4
  simp only [cond_true, Bool.and_eq_true, G4] at h4
  obtain ⟨⟨h6, h7⟩, h8⟩ := h4
  rcases Fh7 (Ac1 e) with ⟨_, h9⟩ | h9
  ·have := of_decide_eq_true h9
   exact ⟨h1, h2, h5, by omega, by omega, by omega⟩
  ·rw [h8] at h9; cases h9
 | false =>
  rw [hk] at h4
  simp only [cond_false, Bool.and_eq_true, beq_iff_eq] at h4
  obtain ⟨⟨⟨h6, h7⟩, h8⟩, _⟩ := h4
  have := of_decide_eq_true h8
  exact ⟨h1, h2, h5, by omega, by omega, by omega⟩
theorem A15 {e : A0} (h : O5 e = true) : body e = true ∧ (1 ≤ e.1 ∧ e.1 ≤ 1000000) ∧ (0 ≤ A62 e ∧ A62 e ≤ 1000000) ∧ (I3 e).length ≤ 3 ∧ (∀ n ∈ I3 e, 1 ≤ n ∧ n ≤ 1000000) ∧ (Am8 e = 1 ↔ I3 e = []) := by
 unfold O5 at h
 simp only [Bool.and_eq_true, G4] at h
 obtain ⟨⟨⟨h1, h2⟩, h3⟩, h4⟩ := h
 unfold F72 at h4
 simp only [Bool.and_eq_true, Ah2, decide_eq_true_eq] at h4
 obtain ⟨h5, h6, h7⟩ := h4
 refine ⟨h1, h2, h3, by omega, fun n hn => ?_, ?_⟩
 ·obtain ⟨i, hi, rfl⟩ := List.getElem_of_mem hn
  have := h5 i hi
  simp only [Cu2, Bool.and_eq_true, G4, E8 hi] at this
  exact this.1.1
 ·rw [← Fh9]
  cases hk : (Am8 e == 1) <;> cases hl : Cl7 (I3 e) <;> rw [hk, hl] at h7 <;> simp at hk h7 ⊢ <;> exact hk
theorem Dg1 {e : A0} (h : O5 e = true) : (En1 e).size ≤ 100 ∧ (H5 e.1).size ≤ 5 ∧ (H5 (A62 e)).size ≤ 5 ∧ (H5 ((I3 e).length : Int)).size ≤ 5 ∧ (Cl5 (I3 e)).size ≤ 15 := by
 obtain ⟨hb, h1, h2, h3, h4, _⟩ := A15 h
 obtain ⟨_, _, h5, h6, _⟩ := B14 hb
 have a1 := G6 (n := ((G2 e).length : Int)) (by omega)
 have a2 := G6 (n := ((Ac1 e).size : Int)) (by omega)
 have a3 := C88 (l := I3 e) (fun n hn => by have := h4 n hn; omega)
 refine ⟨?_, G6 (by omega), G6 (by omega), G6 (by omega), by omega⟩
 unfold En1 I9 Cc3
 rw [G0, G0, G0, G0, Dw2, H4]
 simp only [List.length_cons, List.length_nil]
 omega
theorem Dw4 (e : A0) (hs : I8 e ≤ 1048576) : Ev (fun k => A11 k e) (bif O5 e then (Dw3 e, true) else (⟨#[]⟩, false)) := by
 cases ho : O5 e with
 | false => exact (Af4 e hs).bd (by rw [ho]; exact .of fun k => rfl)
 | true =>
  obtain ⟨hb, h1, h2, h3, h4, _⟩ := A15 ho
  obtain ⟨_, _, h5, h6, _⟩ := B14 hb
  obtain ⟨z1, z2, z3, z4, z5⟩ := Dg1 ho
  refine (Af4 e hs).bd ?_
  rw [ho]
  simp only [Bool.not_true, br_false]
  refine (M5 e.1 (by omega) (by omega)).bd ((C91 e (by omega) (by omega)).bd ?_)
  refine Ev.gdle (by unfold A3; omega) ?_
  refine (M5 ((I3 e).length : Int) (by omega) (by omega)).bd ?_
  refine Ev.gdle (by unfold A3; rw [G0]; omega) ?_
  have sz : ∀ i, i ≤ (I3 e).length → (Cl5 ((I3 e).take i)).size ≤ 15 := fun i hi => by
   have := C88 (l := (I3 e).take i) (fun n hn => by have := h4 n (List.mem_of_mem_take hn); omega)
   rw [List.length_take] at this; omega
  obtain ⟨K, hK⟩ := M5 (A62 e) (by omega) (by omega)
  have loop := Dq3 (l := fun k m i => V6 k m (H5 e.1 ++ En1 e ++ (H5 ((I3 e).length : Int) ++ Cl5 ((I3 e).take i))) (i : Int) e) (I3 e).length (r := (Dw3 e, true)) (fun i hi => by
   have h7 := h4 _ (List.getElem_mem hi)
   obtain ⟨L, hL⟩ := M5 (I3 e)[i] (by omega) (by omega)
   refine ⟨L, fun k hk m => ?_⟩
   have h8 := hL k hk
   have h9 := sz i (by omega)
   have h10 := G6 (n := (I3 e)[i]) (by omega)
   have e1 := C9 hi (by omega)
   simp only [V6, Ao9, hi, Int.ofNat_lt, Int.natCast_nonneg, decide_true, br_true, gd_true, Int.toNat_natCast, E8 hi, e1, h8, bd_some]
   rw [Bd5 (by unfold A3; simp only [G0]; omega), G03 hi]
   simp only [ByteArray.append_assoc]) ⟨K, fun k hk m => by
   have h8 := hK k hk
   have h9 := sz (I3 e).length (by omega)
   simp only [V6, Ao9, Int.lt_irrefl, decide_false, br_false, h8, bd_some]
   rw [Bd5 (by unfold A3; simp only [G0]; omega), List.take_length]
   rfl⟩
  refine loop.congr fun k => ?_
  try simp only
  congr 1
  apply A55
  simp [Cl5, C0]
def Cu3 (a b : List Int) : Bool := ((a.length : Int) == (b.length : Int)) && Ak5 a.length (fun i => rd 0 a i == rd 0 b i)
theorem Bu8 (a b : List Int) (h : a.length ≤ 1048576) : Ev (fun k => N1 k a b) (Cu3 a b) := by
 by_cases hl : a.length = b.length
 ·have hl2 : (a.length : Int) = (b.length : Int) := by omega
  have loop := Et0 (l := fun k n i => I2 k n a b (i : Int)) a.length (fun i => rd 0 a i == rd 0 b i) true false (fun i hi => ⟨0, fun k _ n => by
   have e := C9 hi (by omega)
   have hi2 : i < b.length := by omega
   simp only [I2, U9, hi, hi2, Int.ofNat_lt, Int.natCast_nonneg, decide_true, br_true, gd_true, Int.toNat_natCast, e, bne, Es9]⟩) ⟨0, fun k _ n => by simp [I2, U9]⟩
  refine loop.congr_val (g := fun k => N1 k a b) (fun k => by simp only [N1, Aj9, bne, hl2, beq_self_eq_true, Bool.not_true, br_false]; rfl) ?_
  simp only [Cu3, hl2, beq_self_eq_true, Bool.true_and]
  cases Ak5 a.length (fun i => rd 0 a i == rd 0 b i) <;> rfl
 ·have hl2 : ((a.length : Int) == (b.length : Int)) = false := by simp; omega
  exact .of fun k => by simp only [N1, Aj9, bne, hl2, Bool.not_false, br_true, Cu3, Bool.false_and]
def F74 (a b : ByteArray) : Bool := a.toList == b.toList
def B15 (a b : A0) : Bool := (a.1 == b.1) && (Am8 a == Am8 b) && (B11 a == B11 b) && (Dg0 a == Dg0 b) && (Bl7 a == Bl7 b) && F74 (Ac1 a) (Ac1 b) && (A62 a == A62 b) && Cu3 (G2 a) (G2 b) && Cu3 (I3 a) (I3 b)
theorem Hv0 (b x : Bool) : br b (some x) (some false) = some (b && x) := by cases b <;> rfl
theorem C10 (a b : A0) (h : I8 a ≤ 1048576) : Ev (fun k => Am1 k a b) (B15 a b) := by
 obtain ⟨a1, a2, a3⟩ := B12 h
 obtain ⟨K, hK⟩ := Bu8 (G2 a) (G2 b) a1
 obtain ⟨L, hL⟩ := Bu8 (I3 a) (I3 b) a3
 refine ⟨max K L, fun k hk => ?_⟩
 have h1 := hK k (by omega)
 have h2 := hL k (by omega)
 have h3 : (a.2.2.2.2.2.2.1.toList == b.2.2.2.2.2.2.1.toList) = F74 (Ac1 a) (Ac1 b) := rfl
 simp only [Am1, h1, h2, h3, bd_some, Hv0, B15, Am8, B11, Dg0, Bl7, A62, Bool.and_assoc]
abbrev D96 : A0 := (0, 0, 0, 0, 0, [], ByteArray.empty, [], 0, ())
def C92 (e : A0) : Bool := (e.1 == 0) && (A62 e == 0) && Cl7 (I3 e) && body e
def odd (n : Int) : Bool := Int.tmod n 2 == 1
def S6 (x : D2) : Bool := Z7 x.2.1 0 1000000 && Z7 x.2.2.1 0 1000000 &&
 (bif x.1 == 1 then B15 x.2.2.2.1 D96 && (x.2.2.2.2.1 == 0) && (x.2.2.2.2.2.1 == 0) && (x.2.1 == 0) && (x.2.2.1 == 0)
 else bif x.1 == 2 then (x.2.2.2.2.1 == 0) && (x.2.2.2.2.2.1 == 0) && C92 x.2.2.2.1
 else bif x.1 == 3 then (x.2.2.2.2.1 == 0) && (x.2.2.2.2.2.1 == 0) && O5 x.2.2.2.1 && odd x.2.2.2.1.1
 else bif x.1 == 4 then B15 x.2.2.2.1 D96 && Z7 x.2.2.2.2.1 1 2 && Z7 x.2.2.2.2.2.1 0 1000000
 else bif x.1 == 5 then B15 x.2.2.2.1 D96 && (x.2.2.2.2.1 == 0) && (x.2.2.2.2.2.1 == 0) else false)
theorem Dw5 (x : D2) (h : Am7 x ≤ 1048576) : Ev (fun k => Am2 k x) (S6 x) := by
 have hm : I8 x.2.2.2.1 ≤ 1048576 := by unfold Am7 at h; omega
 obtain ⟨K1, h1⟩ := C10 x.2.2.2.1 D96 hm
 obtain ⟨K2, h2⟩ := C09 x.2.2.2.1 hm
 obtain ⟨K3, h3⟩ := Af4 x.2.2.2.1 hm
 refine ⟨max K1 (max K2 K3), fun k hk => ?_⟩
 have g1 : Aw2 k x.2.2.2.1 = some (B15 x.2.2.2.1 D96) := by
  have g0 := h1 k (by omega)
  simp only [D96] at g0
  simp only [Aw2, g0, bd_some]
 have g2 := h2 k (by omega)
 have g3 := h3 k (by omega)
 have g4 : ((x.2.2.2.1.2.2.2.2.2.2.2.1.length : Int) == 0) = Cl7 (I3 x.2.2.2.1) := rfl
 have g5 : (Int.tmod x.2.2.2.1.1 2 == 1) = odd x.2.2.2.1.1 := rfl
 simp only [Am2, H1, bd_some, g1, g2, g3, g4, g5, S6, C92, bne, Hc0, ng_false, A62]
 generalize Z7 x.2.1 0 1000000 = y1; generalize Z7 x.2.2.1 0 1000000 = y2
 generalize B15 x.2.2.2.1 D96 = y3; generalize (x.2.2.2.2.1 == 0) = y4; generalize (x.2.2.2.2.2.1 == 0) = y5; generalize (x.2.1 == 0) = y6; generalize (x.2.2.1 == 0) = y7
 generalize body x.2.2.2.1 = y8; generalize (x.2.2.2.1.1 == 0) = y9; generalize (x.2.2.2.1.2.2.2.2.2.2.2.2.1 == 0) = y10; generalize Cl7 (I3 x.2.2.2.1) = y11
 generalize O5 x.2.2.2.1 = y12; generalize odd x.2.2.2.1.1 = y13; generalize Z7 x.2.2.2.2.1 1 2 = y14; generalize Z7 x.2.2.2.2.2.1 0 1000000 = y15
 rcases Hc3 x.1 with ⟨q1, q2, q3, q4, q5, q6⟩ | ⟨q1, q2, q3, q4, q5, q6⟩ | ⟨q1, q2, q3, q4, q5, q6⟩ | ⟨q1, q2, q3, q4, q5, q6⟩ | ⟨q1, q2, q3, q4, q5, q6⟩ | ⟨q1, q2, q3, q4, q5, q6⟩ <;> simp only [q1, q2, q3, q4, q5, q6] <;> clear q1 q2 q3 q4 q5 q6 <;> cases y1 <;> cases y2 <;> try rfl
 ·cases y3 <;> cases y4 <;> cases y5 <;> cases y6 <;> cases y7 <;> rfl
 ·cases y4 <;> cases y5 <;> cases y8 <;> cases y9 <;> cases y10 <;> cases y11 <;> rfl
 ·cases y4 <;> cases y5 <;> cases y12 <;> cases y13 <;> rfl
 ·cases y3 <;> cases y14 <;> cases y15 <;> rfl
 ·cases y3 <;> cases y4 <;> cases y5 <;> rfl
theorem Hv1 (s : ByteArray) : s ++ (⟨#[]⟩ : ByteArray) = s := by apply A55; simp
theorem En2 {e : A0} (h : O5 e = true) : (Dw3 e).size ≤ 1000 := by
 obtain ⟨z1, z2, z3, z4, z5⟩ := Dg1 h
 unfold Dw3
 rw [G0, G0, G0, G0]; omega
end Go.Vm
end
section
namespace Go.Vm
open Go
theorem Re.b1 {α R : Type} {g : Nat → Option α} {F : Nat → α → Option R} {P : α → Prop} {Q : R → Prop} (h : Re g P) (h2 : ∀ a, P a → Re (fun k => F k a) Q) : Re (fun k => Vm.bd (g k) (F k)) Q := Re.bd C6 h h2
theorem Re.b2 {α R : Type} {g : Nat → Option α} {F : Nat × Nat → α → Option R} {P : α → Prop} {Q : R → Prop} (h : Re g P) (h2 : ∀ a, P a → Re (fun x => F x a) Q) : Re (fun x : Nat × Nat => Vm.bd (g x.1) (F x)) Q := Re.bd (Bb7 C6) h h2
theorem Re.c1 {α R : Type} {g : Nat → Option α} {F : Nat → α → Option R} {v : α} {Q : R → Prop} (h : Ev g v) (h2 : Re (fun k => F k v) Q) : Re (fun k => Vm.bd (g k) (F k)) Q := Re.b1 (P := fun a => a = v) (Ev.re h rfl) fun a ha => by subst ha; exact h2
theorem Re.s1 {α R : Type} {g : Nat → Option α} {F : Nat → α → Option R} {v : α} {Q : R → Prop} (h : ∀ k, g k = some v) (h2 : Re (fun k => F k v) Q) : Re (fun k => Vm.bd (g k) (F k)) Q := Re.c1 (Ev.of h) h2
theorem Bl8 {a b : Int} (h : a ≠ b) : (a == b) = false := by simpa using h
theorem Re.s2 {α R : Type} {g : Nat → Option α} {F : Nat × Nat → α → Option R} {v : α} {Q : R → Prop} (h : ∀ k, g k = some v) (h2 : Re (fun x => F x v) Q) : Re (fun x : Nat × Nat => Vm.bd (g x.1) (F x)) Q := Re.b2 (P := fun a => a = v) (Ev.re (Ev.of h) rfl) fun a ha => by subst ha; exact h2
theorem Re.c2 {α R : Type} {g : Nat → Option α} {F : Nat × Nat → α → Option R} {v : α} {Q : R → Prop} (h : Ev g v) (h2 : Re (fun x => F x v) Q) : Re (fun x : Nat × Nat => Vm.bd (g x.1) (F x)) Q := Re.b2 (P := fun a => a = v) (Ev.re h rfl) fun a ha => by subst ha; exact h2
theorem Re.gdd {ι R : Type} [Fuel ι] {p : Prop} [Decidable p] {f : ι → Option R} {Q : R → Prop} (hp : p) (h : Re f Q) : Re (fun x => Vm.gd (decide p) (f x)) Q := Re.gd (decide_eq_true hp) h
theorem Re.brd {ι R : Type} [Fuel ι] {p : Prop} [Decidable p] {f g : ι → Option R} {Q : R → Prop} (h1 : p → Re f Q) (h2 : ¬ p → Re g Q) : Re (fun x => Vm.br (decide p) (f x) (g x)) Q := Re.br (fun h => h1 (of_decide_eq_true h)) (fun h => h2 (of_decide_eq_false h))
theorem Re.bre {ι R : Type} [Fuel ι] {a b : Int} {f g : ι → Option R} {Q : R → Prop} (h1 : a = b → Re f Q) (h2 : a ≠ b → Re g Q) : Re (fun x => Vm.br (a == b) (f x) (g x)) Q := Re.br (fun h => h1 (by simpa using h)) (fun h => h2 (by simpa using h))
theorem Re.brn {ι R : Type} [Fuel ι] {a b : Int} {f g : ι → Option R} {Q : R → Prop} (h1 : a ≠ b → Re f Q) (h2 : a = b → Re g Q) : Re (fun x => Vm.br (a != b) (f x) (g x)) Q := Re.br (fun h => h1 (by simpa using h)) (fun h => h2 (by simpa using h))
theorem Re.brb {ι R : Type} [Fuel ι] {b : Bool} {f g : ι → Option R} {Q : R → Prop} (h1 : Re f Q) (h2 : Re g Q) : Re (fun x => Vm.br b (f x) (g x)) Q := Re.br (fun _ => h1) (fun _ => h2)
theorem Re.wf {σ R : Type} {l : Nat → Nat → σ → Option R} {I : σ → Prop} (μ : σ → Nat × Nat) {Q : σ → R → Prop}
  (step : ∀ s, I s → (∀ s', I s' → ((μ s').1 < (μ s).1 ∨ ((μ s').1 = (μ s).1 ∧ (μ s').2 < (μ s).2)) → Re (fun x : Nat × Nat => l x.1 x.2 s') (Q s')) → Re (fun x : Nat × Nat => l x.1 (x.2 + 1) s) (Q s)) : ∀ s, I s → Re (fun x : Nat × Nat => l x.1 x.2 s) (Q s) := by
 have : ∀ a b s, (μ s).1 = a → (μ s).2 = b → I s → Re (fun x : Nat × Nat => l x.1 x.2 s) (Q s) := by
  intro a
  induction a using Nat.strongRecOn with
  | _ a iha =>
   intro b
   induction b using Nat.strongRecOn with
   | _ b ihb =>
    intro s h1 h2 hI
    obtain ⟨v, hv, K, hK⟩ := step s hI fun s' g1 g2 => by
     rcases g2 with g2 | ⟨g2, g3⟩
     ·exact iha (μ s').1 (by omega) (μ s').2 s' rfl rfl g1
     ·exact ihb (μ s').2 (by omega) s' (by omega) rfl g1
    refine ⟨v, hv, K + 1, fun x hx => ?_⟩
    obtain ⟨y, n⟩ := x
    obtain ⟨m, rfl⟩ : ∃ m, n = m + 1 := ⟨n - 1, by have := hx.2; simp only at this; omega⟩
    exact hK (y, m) ⟨Fuel.mono (Nat.le_succ K) hx.1, by have := hx.2; simp only at this ⊢; omega⟩
 exact fun s hI => this _ _ s rfl rfl hI
theorem Gu9 (a : Int) : 0 ≤ Fc8 .i64 a 255 ∧ Fc8 .i64 a 255 < 256 := by
 have h : (BitVec.ofInt 64 a &&& BitVec.ofInt 64 255).toNat ≤ 255 := by
  rw [BitVec.toNat_and]
  exact Nat.and_le_right
 have e : Fc8 .i64 a 255 = B4 (((BitVec.ofInt 64 a &&& BitVec.ofInt 64 255).toNat : Nat) : Int) := rfl
 rw [e, D7 (by omega) (by omega)]
 omega
def CurOk (c : B0) : Prop := 0 ≤ c.2.1 ∧ c.2.1 ≤ c.1.length ∧ c.1.length ≤ 1048576
theorem B16 (c : B0) (h : CurOk c) : Re (fun k => W6 k c) (fun r => (0 ≤ r.1 ∧ r.1 < 256) ∧ CurOk r.2.1) := by
 obtain ⟨h1, h2, h3⟩ := h
 refine Re.brd (fun h4 => ?_) (fun h4 => ?_)
 ·refine Re.gdd h1 (Re.gdd h4 (Re.ret ⟨Gu9 _, ?_⟩))
  have : B4 (c.2.1 + 1) = c.2.1 + 1 := D7 (by omega) (by omega)
  exact ⟨by simp only [this]; omega, by simp only [this]; omega, h3⟩
 ·exact Re.ret ⟨Gu9 _, h1, h2, h3⟩
def En3 (n : Int) (r : Int × B0 × Unit) : Prop := (0 ≤ r.1 ∧ (r.1 < n ∨ n ≤ 0 ∧ r.1 = 0)) ∧ CurOk r.2.1
theorem N2 (c : B0) (n : Int) (h : CurOk c) : Re (fun k => D0 k c n) (En3 n) := by
 refine Re.brd (fun h1 => Re.ret ⟨⟨Int.le_refl 0, .inr ⟨h1, rfl⟩⟩, h⟩) (fun h1 => ?_)
 refine Re.brd (fun h2 => ?_) (fun h2 => ?_)
 ·refine Re.b1 (B16 c h) fun r hr => ?_
  refine Re.ng (by simp; omega) (Re.ret ⟨⟨Int.tmod_nonneg _ hr.1.1, .inl (Int.tmod_lt_of_pos _ (by omega))⟩, hr.2⟩)
 ·refine Re.b1 (B16 c h) fun r2 hr2 => ?_
  refine Re.b1 (B16 _ hr2.2) fun r3 hr3 => ?_
  refine Re.b1 (B16 _ hr3.2) fun r4 hr4 => ?_
  refine Re.b1 (B16 _ hr4.2) fun r5 hr5 => ?_
  obtain ⟨⟨a1, a2⟩, _⟩ := hr2
  obtain ⟨⟨a3, a4⟩, _⟩ := hr3
  obtain ⟨⟨a5, a6⟩, _⟩ := hr4
  obtain ⟨⟨a7, a8⟩, _⟩ := hr5
  have e1 : B4 (r2.1 * 16777216) = r2.1 * 16777216 := D7 (by omega) (by omega)
  have e2 : B4 (r3.1 * 65536) = r3.1 * 65536 := D7 (by omega) (by omega)
  have e3 : B4 (r4.1 * 256) = r4.1 * 256 := D7 (by omega) (by omega)
  have e4 : B4 (r2.1 * 16777216 + r3.1 * 65536) = r2.1 * 16777216 + r3.1 * 65536 := D7 (by omega) (by omega)
  have e5 : B4 (r2.1 * 16777216 + r3.1 * 65536 + r4.1 * 256) = r2.1 * 16777216 + r3.1 * 65536 + r4.1 * 256 := D7 (by omega) (by omega)
  have e6 : B4 (r2.1 * 16777216 + r3.1 * 65536 + r4.1 * 256 + r5.1) = r2.1 * 16777216 + r3.1 * 65536 + r4.1 * 256 + r5.1 := D7 (by omega) (by omega)
  simp only [e1, e2, e3, e4, e5, e6]
  refine Re.ng (by simp; omega) (Re.ret ⟨⟨Int.tmod_nonneg _ (by omega), .inl (Int.tmod_lt_of_pos _ (by omega))⟩, ?_⟩)
  assumption
theorem Bl9 (c : B0) (n : Int) (h : CurOk c) : Re (fun k => O8 k c n) (fun r => CurOk r.2.1) :=
 Re.b1 (N2 c n h) fun r hr => Re.ret hr.2
theorem Bf2 (c : B0) (l : List Int) (h : CurOk c) (hl : l ≠ []) : Re (fun k => T9 k c l) (fun r => r.1 ∈ l ∧ CurOk r.2.1) := by
 refine Re.b1 (N2 c l.length h) fun r hr => ?_
 obtain ⟨⟨h1, h2⟩, h3⟩ := hr
 have hl : 0 < l.length := List.length_pos_iff.2 hl
 have h4 : r.1 < l.length := by omega
 refine Re.gdd h1 (Re.gdd h4 (Re.ret ⟨?_, h3⟩))
 rw [E8 (show r.1.toNat < l.length by omega)]
 exact List.getElem_mem _
theorem Gv0 (c : B0) (l : List ByteArray) (h : CurOk c) (hl : l ≠ []) : Re (fun k => Bc1 k c l) (fun r => r.1 ∈ l ∧ CurOk r.2.1) := by
 refine Re.b1 (N2 c l.length h) fun r hr => ?_
 obtain ⟨⟨h1, h2⟩, h3⟩ := hr
 have hl : 0 < l.length := List.length_pos_iff.2 hl
 have h4 : r.1 < l.length := by omega
 refine Re.gdd h1 (Re.gdd h4 (Re.ret ⟨?_, h3⟩))
 rw [E8 (show r.1.toNat < l.length by omega)]
 exact List.getElem_mem _
theorem CurOk.eta {c : B0} (h : CurOk c) : CurOk (c.1, c.2.1, c.2.2.1, ()) := h
def Hc4 (e : A0) : Prop := e.1 = 0 ∧ (e.2.1 = 2 ∨ e.2.1 = 3 ∨ e.2.1 = 4 ∨ e.2.1 = 5) ∧ (1 ≤ e.2.2.1 ∧ e.2.2.1 ≤ 3) ∧ (0 ≤ e.2.2.2.1 ∧ e.2.2.2.1 ≤ 4) ∧ (0 ≤ e.2.2.2.2.1 ∧ e.2.2.2.2.1 ≤ 3) ∧ (e.2.1 = 3 → e.2.2.2.2.2.1.length = 5) ∧ (e.2.1 ≠ 3 → e.2.2.2.2.2.1 = []) ∧ e.2.2.2.2.2.2.1.size ≤ 5 ∧ e.2.2.2.2.2.2.2.1 = [] ∧ e.2.2.2.2.2.2.2.2.1 = 0
theorem Hv2 {r : Int × B0 × Unit} (h : En3 3 r) : B4 (1 + r.1) = 1 + r.1 ∧ 1 ≤ 1 + r.1 ∧ 1 + r.1 ≤ 3 := by
 obtain ⟨⟨h1, h2⟩, _⟩ := h
 have : r.1 < 3 := by omega
 exact ⟨D7 (by omega) (by omega), by omega, by omega⟩
theorem En4 (c : B0) (h : CurOk c) : Re (fun k => Am4 k c) (fun r => Hc4 r.1 ∧ CurOk r.2.1) := by
 refine Re.b1 (Bf2 c _ h (by simp)) fun r1 h1 => ?_
 refine Re.b1 (N2 _ 3 h1.2) fun r2 h2 => ?_
 obtain ⟨w, w1, w2⟩ := Hv2 h2
 have c2 := h2.2
 obtain ⟨hk, h1c⟩ := h1
 simp only [List.mem_cons, List.not_mem_nil, or_false] at hk
 refine Re.bre (fun o2 => ?_) (fun o2 => ?_)
 ·refine Re.b1 (N2 _ 4 c2) fun r3 h3 => ?_
  have e3 : B4 (1 + r3.1) = 1 + r3.1 := by obtain ⟨⟨q1, q2⟩, _⟩ := h3; exact D7 (by omega) (by omega)
  have b3 : 0 ≤ 1 + r3.1 ∧ 1 + r3.1 ≤ 4 := by obtain ⟨⟨q1, q2⟩, _⟩ := h3; omega
  refine Re.b1 (Bl9 _ 2 h3.2) fun r4 h4 => ?_
  rw [w, e3]
  refine Re.brb ?_ ?_
  ·refine Re.b1 (Bf2 _ _ h4 (List.cons_ne_nil _ _)) fun r5 h5 => ?_
   obtain ⟨g5, c5⟩ := h5
   simp only [List.mem_cons, List.not_mem_nil, or_false] at g5
   have m5 : 0 ≤ r5.1 ∧ r5.1 ≤ 3 := by omega
   refine Re.brb (Re.brb ?_ ?_) ?_ <;> exact Re.ret ⟨⟨rfl, .inl o2, ⟨w1, w2⟩, ⟨by simp only; omega, by simp only; omega⟩, by simp only; omega, fun h => absurd (o2.symm.trans h) (by decide), fun _ => rfl, by simp only; decide, rfl, rfl⟩, c5⟩
  ·refine Re.b1 (Bf2 _ _ h4 (List.cons_ne_nil _ _)) fun r5 h5 => ?_
   obtain ⟨g5, c5⟩ := h5
   simp only [List.mem_cons, List.not_mem_nil, or_false] at g5
   have m5 : 0 ≤ r5.1 ∧ r5.1 ≤ 3 := by omega
   refine Re.brb (Re.brb ?_ ?_) ?_ <;> exact Re.ret ⟨⟨rfl, .inl o2, ⟨w1, w2⟩, ⟨by simp only; omega, by simp only; omega⟩, by simp only; omega, fun h => absurd (o2.symm.trans h) (by decide), fun _ => rfl, by simp only; decide, rfl, rfl⟩, c5⟩
 refine Re.bre (fun o3 => ?_) (fun o3 => ?_)
 ·refine Re.enter (f := fun k n => V7 k n 0 r2.2.1.1 r2.2.1.2.1 r2.2.1.2.2.1 r1 r2 []) C6 ?_
  have := Re.loop (ι := Nat) (l := fun k n (s : Int × B0 × List Int) => V7 k n s.1 s.2.1.1 s.2.1.2.1 s.2.1.2.2.1 r1 r2 s.2.2) (I := fun s => s.1 = s.2.2.length ∧ s.2.2.length ≤ 5 ∧ CurOk s.2.1) (fun s => 5 - s.2.2.length) (Q := fun _ r => Hc4 r.1 ∧ CurOk r.2.1) (fun s hi ih => by
   obtain ⟨i, c, xs⟩ := s
   obtain ⟨hi1, hi2, hi3⟩ := hi
   simp only at hi1 hi2 hi3 ih ⊢
   simp only [V7, Be2]
   refine Re.brd (fun q1 => ?_) (fun q1 => ?_)
   ·refine Re.b2 (Bf2 _ _ hi3.eta (List.cons_ne_nil _ _)) fun r7 h7 => ?_
    refine Re.gdd (by simp [A3]; omega) ?_
    have e : B4 (i + 1) = i + 1 := D7 (by omega) (by omega)
    rw [e]
    exact ih (i + 1, r7.2.1, xs ++ [r7.1]) ⟨by simp; omega, by simp; omega, h7.2⟩ (by simp; omega)
   ·refine Re.b2 (Bl9 _ 2 hi3.eta) fun r8 h8 => ?_
    rw [w]
    have hx : xs.length = 5 := by omega
    refine Re.brb (Re.gdd (by omega) (Re.ret ?_)) (Re.ret ?_)
    ·exact ⟨⟨rfl, .inr (.inl o3), ⟨w1, w2⟩, ⟨by simp only; omega, by simp only; omega⟩, by simp only; omega, fun _ => by simp only [List.length_set]; exact hx, fun h => absurd o3 h, by simp only; decide, rfl, rfl⟩, h8⟩
    ·exact ⟨⟨rfl, .inr (.inl o3), ⟨w1, w2⟩, ⟨by simp only; omega, by simp only; omega⟩, by simp only; omega, fun _ => hx, fun h => absurd o3 h, by simp only; decide, rfl, rfl⟩, h8⟩) (0, r2.2.1, []) ⟨rfl, by simp, c2⟩
  exact this
 rw [w]
 have hno : r1.1 ≠ 3 := o3
 refine Re.bre (fun o4 => ?_) (fun o4 => ?_)
 ·refine Re.b1 (Gv0 _ _ c2 (List.cons_ne_nil _ _)) fun r9 h9 => Re.ret ?_
  have hs : r9.1.size ≤ 5 := by
   have := h9.1
   simp only [List.mem_cons, List.not_mem_nil, or_false] at this
   rcases this with e | e | e | e <;> (rw [e]; decide)
  exact ⟨⟨rfl, .inr (.inr (.inl o4)), ⟨w1, w2⟩, ⟨by simp only; omega, by simp only; omega⟩, by simp only; omega, fun h => absurd h hno, fun _ => rfl, hs, rfl, rfl⟩, h9.2⟩
 have o5 : r1.1 = 5 := by omega
 refine Re.bre (fun _ => ?_) (fun h => absurd o5 h)
 refine Re.b1 (Gv0 _ _ c2 (List.cons_ne_nil _ _)) fun r9 h9 => Re.ret ?_
 have hs : r9.1.size ≤ 5 := by
  have := h9.1
  simp only [List.mem_cons, List.not_mem_nil, or_false] at this
  rcases this with e | e | e | e <;> (rw [e]; decide)
 exact ⟨⟨rfl, .inr (.inr (.inr o5)), ⟨w1, w2⟩, ⟨by simp only; omega, by simp only; omega⟩, by simp only; omega, fun h => absurd h hno, fun _ => rfl, hs, rfl, rfl⟩, h9.2⟩
end Go.Vm
end
section
namespace Go.Vm
open Go
def H9 (es : List A0) (id : Int) : A0 × Bool := ((es.find? fun e => e.1 == id).map fun e => (e, true)).getD (D96, false)
def atS (s : List A1) (key : Int) : Int := ((s.find? fun x => x.1 == key).map fun x => x.2.1).getD 0
theorem g8 (es : List A0) (h : es.length ≤ 1048576) (id : Int) : Ev (fun k => M9 k es id) (H9 es id) := by
 have := Gu7 (l := fun k n i => l8 k n es id (i : Int)) es (fun e => e.1 == id) (fun e => (e, true)) (D96, false) (fun i hi => ⟨0, fun k _ n => by
  simp only [l8, A78, Int.ofNat_lt, hi, Int.natCast_nonneg, decide_true, br_true, gd_true, Int.toNat_natCast, E8, C9 hi (by omega)]⟩) ⟨0, fun k _ n => by
  simp only [l8, A78, Int.lt_irrefl, decide_false, br_false]⟩
 exact this
theorem A94 (s : List A1) (h : s.length ≤ 1048576) (key : Int) : Ev (fun k => Cl6 k s key) (atS s key) := by
 have := Gu7 (l := fun k n i => Bz0 k n s key (i : Int)) s (fun x => x.1 == key) (fun x => x.2.1) 0 (fun i hi => ⟨0, fun k _ n => by
  simp only [Bz0, Dq5, Int.ofNat_lt, hi, Int.natCast_nonneg, decide_true, br_true, gd_true, Int.toNat_natCast, E8, C9 hi (by omega)]⟩) ⟨0, fun k _ n => by
  simp only [Bz0, Dq5, Int.lt_irrefl, decide_false, br_false]⟩
 exact this
def Eu3 (es : List A0) (s : List A1) : Prop := es.length ≤ 1048576 ∧ s.length ≤ 1048576
def Eu4 (es : List A0) (s : List A1) (u : Int) : Int := bif (H9 es (atS s 1)).2 && ((H9 es (atS s 1)).1.2.1 == 1 && (H9 es (atS s 1)).1.2.2.1 == u) then 100 else 0
def g9 (es : List A0) (s : List A1) (u : Int) : Int := bif Z7 u 1 5 then (bif (H9 es (atS s 2)).2 && ((H9 es (atS s 2)).1.2.1 == 3 && (((H9 es (atS s 2)).1.2.2.2.2.2.1.length : Int) == 5)) then rd 0 (H9 es (atS s 2)).1.2.2.2.2.2.1 (u - 1).toNat else Eu4 es s u) else 0
theorem o7 (es : List A0) (s : List A1) (h : Eu3 es s) (u : Int) : Ev (fun k => W8 k es s u) (g9 es s u) := by
 obtain ⟨h1, h2⟩ := h
 refine Re.eq (Re.s1 (H1 · _ _ _) ?_)
 unfold g9
 cases hu : Z7 u 1 5 with
 | false => exact Re.ret rfl
 | true =>
  have hr := G4.1 hu
  have tail : Re (fun k => bd (Cl6 k s 1) fun r4 => (bd (M9 k es r4) fun r5 => (br r5.2 (br (r5.1.2.1 == 1) (br (r5.1.2.2.1 == u) (some 100) (some 0)) (some 0)) (some (0 : Int))))) (fun v => v = Eu4 es s u) := by
   refine Re.c1 (A94 s h2 1) (Re.c1 (g8 es h1 _) ?_)
   unfold Eu4
   cases (H9 es (atS s 1)).2 with
   | false => exact Re.ret rfl
   | true =>
    cases ((H9 es (atS s 1)).1.2.1 == 1) with
    | false => exact Re.ret rfl
    | true => cases ((H9 es (atS s 1)).1.2.2.1 == u) <;> exact Re.ret rfl
  refine Re.br (b := false) (fun h => by cases h) (fun _ => Re.c1 (A94 s h2 2) (Re.c1 (g8 es h1 _) ?_))
  simp only [cond_true]
  cases hf : (H9 es (atS s 2)).2 with
  | false => exact tail
  | true =>
   cases hk : ((H9 es (atS s 2)).1.2.1 == 3) with
   | false => exact tail
   | true =>
    cases hl : (((H9 es (atS s 2)).1.2.2.2.2.2.1.length : Int) == 5) with
    | false => exact tail
    | true =>
     have hl5 : ((H9 es (atS s 2)).1.2.2.2.2.2.1.length : Int) = 5 := by simpa using hl
     have e1 : B4 (u - 1) = u - 1 := D7 (by omega) (by omega)
     simp only [e1, br_true, Bool.and_self, cond_true]
     exact Re.gdd (by omega) (Re.gdd (by omega) (Re.ret rfl))
def L6 (es : List A0) (s : List A1) (u : Int) : Int := bif Z7 u 1 5 && ((H9 es (atS s (10 + u))).2 && ((H9 es (atS s (10 + u))).1.2.1 == 2 && (H9 es (atS s (10 + u))).1.2.2.2.1 == u)) then (H9 es (atS s (10 + u))).1.2.2.2.2.1 else 0
theorem U7 (es : List A0) (s : List A1) (h : Eu3 es s) (u : Int) : Ev (fun k => S9 k es s u) (L6 es s u) := by
 obtain ⟨h1, h2⟩ := h
 refine Re.eq (Re.s1 (H1 · _ _ _) ?_)
 unfold L6
 cases hu : Z7 u 1 5 with
 | false => exact Re.ret rfl
 | true =>
  have hr := G4.1 hu
  have e1 : B4 (10 + u) = 10 + u := D7 (by omega) (by omega)
  rw [e1]
  refine Re.br (b := false) (fun h => by cases h) (fun _ => Re.c1 (A94 s h2 _) (Re.c1 (g8 es h1 _) ?_))
  cases hf : (H9 es (atS s (10 + u))).2 with
  | false => exact Re.ret rfl
  | true =>
   refine Re.br (b := false) (fun h => by cases h) (fun _ => ?_)
   refine Re.brn (fun q => Re.ret (by rw [Bl8 q]; rfl)) (fun q => ?_)
   rw [show ((H9 es (atS s (10 + u))).1.2.1 == 2) = true by simp [q]]
   refine Re.brn (fun q2 => Re.ret (by rw [Bl8 q2]; rfl)) (fun q2 => ?_)
   rw [show ((H9 es (atS s (10 + u))).1.2.2.2.1 == u) = true by simp [q2]]
   exact Re.ret rfl
def Dw6 (s : List A1) : Bool := Ak5 s.length fun i => !decide ((rd J2 s i).1 > 10)
theorem D97 (s : List A1) (h : s.length ≤ 1048576) : Ev (fun k => Bd7 k s) (Dw6 s) := by
 have := Et0 (l := fun k n i => Y6 k n s (i : Int)) s.length (fun i => !decide ((rd J2 s i).1 > 10)) true false (fun i hi => ⟨0, fun k _ n => by
  simp only [Y6, Az3, Int.ofNat_lt, hi, Int.natCast_nonneg, decide_true, br_true, gd_true, Int.toNat_natCast, C9 hi (by omega), Es9]⟩) ⟨0, fun k _ n => by
  simp only [Y6, Az3, Int.lt_irrefl, decide_false, br_false]⟩
 exact this.congr_val (fun k => rfl) (by unfold Dw6; cases Ak5 s.length _ <;> rfl)
def F75 (es : List A0) (s : List A1) (e : A0) : Bool :=
 bif e.2.2.2.2.1 == 2 then L6 es s e.2.2.2.1 == 1 || (L6 es s e.2.2.2.1 == 2 || ((H9 es (atS s 1)).2 && ((H9 es (atS s 1)).1.2.2.1 == e.2.2.1 && Dw6 s)))
 else bif e.2.2.2.2.1 == 0 then L6 es s e.2.2.2.1 == 1 || L6 es s e.2.2.2.1 == 2 else false
theorem Eu5 (es : List A0) (s : List A1) (h : Eu3 es s) (e : A0) : Ev (fun k => Bt0 k es s e) (F75 es s e) := by
 refine Re.eq (Re.c1 (U7 es s h _) ?_)
 unfold F75
 cases e.2.2.2.2.1 == 2 with
 | true =>
  refine Re.c1 (A94 s h.2 1) (Re.c1 (g8 es h.1 _) ?_)
  cases (H9 es (atS s 1)).2 with
  | true =>
   cases (H9 es (atS s 1)).1.2.2.1 == e.2.2.1 with
   | true =>
    refine Re.c1 (D97 s h.2) ?_
    cases L6 es s e.2.2.2.1 == 1 <;> cases L6 es s e.2.2.2.1 == 2 <;> exact Re.ret rfl
   | false => cases L6 es s e.2.2.2.1 == 1 <;> cases L6 es s e.2.2.2.1 == 2 <;> exact Re.ret rfl
  | false => cases L6 es s e.2.2.2.1 == 1 <;> cases L6 es s e.2.2.2.1 == 2 <;> exact Re.ret rfl
 | false =>
  cases e.2.2.2.2.1 == 0 with
  | true => cases L6 es s e.2.2.2.1 == 1 <;> exact Re.ret rfl
  | false => exact Re.ret rfl
def Gv1 (es : List A0) (s : List A1) (e : A0) : Bool :=
 L6 es s e.2.2.1 == 2 && (bif e.2.2.2.2.1 == 1 then L6 es s e.2.2.2.1 == 0
  else bif e.2.2.2.2.1 == 0 then (L6 es s e.2.2.2.1 == 1 || L6 es s e.2.2.2.1 == 2) && (decide (g9 es s e.2.2.1 ≥ 50) && decide (g9 es s e.2.2.1 > g9 es s e.2.2.2.1))
  else bif e.2.2.2.2.1 == 3 then (L6 es s e.2.2.2.1 != 3) && (decide (g9 es s e.2.2.1 ≥ 50) && decide (g9 es s e.2.2.1 > g9 es s e.2.2.2.1)) else false)
def Dw7 (es : List A0) (s : List A1) (e : A0) : Bool := bif e.2.2.2.1 == e.2.2.1 then F75 es s e else Gv1 es s e
theorem Dw8 (es : List A0) (s : List A1) (h : Eu3 es s) (e : A0) : Ev (fun k => Am0 k es s e) (Dw7 es s e) := by
 refine Re.eq ?_
 simp only [Am0]
 unfold Dw7
 cases e.2.2.2.1 == e.2.2.1 with
 | true => exact Re.c1 (Eu5 es s h e) (Re.ret rfl)
 | false =>
  unfold Gv1
  refine Re.c1 (U7 es s h _) (Re.c1 (o7 es s h _) ?_)
  cases decide (g9 es s e.2.2.1 ≥ 50) with
  | true =>
   refine Re.c1 (o7 es s h _) (Re.c1 (U7 es s h _) ?_)
   refine Re.brn (fun q => Re.ret (by rw [Bl8 q]; rfl)) (fun q => ?_)
   rw [show (L6 es s e.2.2.1 == 2) = true by simp [q]]
   cases e.2.2.2.2.1 == 1 with
   | true => exact Re.ret rfl
   | false =>
    cases e.2.2.2.2.1 == 0 with
    | true => cases L6 es s e.2.2.2.1 == 1 <;> cases L6 es s e.2.2.2.1 == 2 <;> exact Re.ret rfl
    | false =>
     cases e.2.2.2.2.1 == 3 with
     | true => cases L6 es s e.2.2.2.1 != 3 <;> exact Re.ret rfl
     | false => exact Re.ret rfl
  | false =>
   refine Re.c1 (U7 es s h _) ?_
   refine Re.brn (fun q => Re.ret (by rw [Bl8 q]; rfl)) (fun q => ?_)
   rw [show (L6 es s e.2.2.1 == 2) = true by simp [q]]
   cases e.2.2.2.2.1 == 1 with
   | true => exact Re.ret rfl
   | false =>
    cases e.2.2.2.2.1 == 0 with
    | true => cases L6 es s e.2.2.2.1 == 1 <;> cases L6 es s e.2.2.2.1 == 2 <;> exact Re.ret rfl
    | false =>
     cases e.2.2.2.2.1 == 3 with
     | true => cases L6 es s e.2.2.2.1 != 3 <;> exact Re.ret rfl
     | false => exact Re.ret rfl
def Ap7 (es : List A0) (s : List A1) (e : A0) (i : Nat) : Bool :=
 rd 0 e.2.2.2.2.2.1 i == g9 es s ((i + 1 : Nat) : Int) || (!decide (rd 0 e.2.2.2.2.2.1 i > g9 es s e.2.2.1) && (!decide (g9 es s ((i + 1 : Nat) : Int) ≥ g9 es s e.2.2.1) || ((i + 1 : Nat) : Int) == e.2.2.1))
def Eu6 (es : List A0) (s : List A1) (e : A0) : Bool := L6 es s e.2.2.1 == 2 && (!decide (g9 es s e.2.2.1 < 50) && Ak5 5 (Ap7 es s e))
theorem D98 (es : List A0) (s : List A1) (h : Eu3 es s) (e : A0) (hl : e.2.2.2.2.2.1.length = 5) : Ev (fun k => Bd8 k es s e) (Eu6 es s e) := by
 refine Re.eq (Re.c1 (o7 es s h _) (Re.c1 (U7 es s h _) ?_))
 unfold Eu6
 refine Re.brn (fun q => Re.ret (by rw [Bl8 q]; rfl)) (fun q => ?_)
 rw [show (L6 es s e.2.2.1 == 2) = true by simp [q]]
 refine Re.brd (fun q => Re.ret (by rw [decide_eq_true q]; rfl)) (fun q => ?_)
 rw [decide_eq_false q]
 have hev : ∀ u : Int, Ev (fun k => W8 k es s u) (g9 es s u) := fun u => o7 es s h u
 refine Re.enter (f := fun k n => U4 k n es s (g9 es s e.2.2.1) 1 e) C6 ?_
 have := Re.loop (ι := Nat) (l := fun k n (i : Nat) => U4 k n es s (g9 es s e.2.2.1) ((i + 1 : Nat) : Int) e) (I := fun i => i ≤ 5 ∧ ∀ j, j < i → Ap7 es s e j = true) (fun i => 5 - i) (Q := fun _ v => v = (true && (!false && Ak5 5 (Ap7 es s e)))) (fun i hi ih => by
  simp only [U4, Bn9]
  refine Re.brd (fun q => ?_) (fun q => Re.ret ?_)
  ·have hi5 : i < 5 := by omega
   refine Re.c2 (hev _) ?_
   have e1 : B4 (((i + 1 : Nat) : Int) - 1) = (i : Int) := by rw [D7 (by omega) (by omega)]; omega
   have e2 : B4 (((i + 1 : Nat) : Int) + 1) = ((i + 1 + 1 : Nat) : Int) := by rw [D7 (by omega) (by omega)]; omega
   rw [e1, e2, Int.toNat_natCast]
   refine Re.gdd (by omega) (Re.gdd (by omega) ?_)
   have next : Ap7 es s e i = true → Re (fun x : Nat × Nat => U4 x.1 x.2 es s (g9 es s e.2.2.1) ((i + 1 + 1 : Nat) : Int) e) (fun v => v = (true && (!false && Ak5 5 (Ap7 es s e)))) := fun g => ih (i + 1) ⟨by omega, fun j hj => by
    by_cases hj2 : j < i
    ·exact hi.2 j hj2
    ·have : j = i := by omega
     subst this; exact g⟩ (by omega)
   have no : Ap7 es s e i = false → false = (true && (!false && Ak5 5 (Ap7 es s e))) := fun g => by
    have : Ak5 5 (Ap7 es s e) = false := by
     cases ha : Ak5 5 (Ap7 es s e) with
     | false => rfl
     | true => rw [Ah2] at ha; rw [ha i hi5] at g; cases g
    rw [this]; rfl
   have hp : Ap7 es s e i = (rd 0 e.2.2.2.2.2.1 i == g9 es s ((i + 1 : Nat) : Int) || (!decide (rd 0 e.2.2.2.2.2.1 i > g9 es s e.2.2.1) && (!decide (g9 es s ((i + 1 : Nat) : Int) ≥ g9 es s e.2.2.1) || ((i + 1 : Nat) : Int) == e.2.2.1))) := rfl
   refine Re.br (fun g => next (by rw [hp, g]; rfl)) (fun g => ?_)
   rw [g, Bool.false_or] at hp
   refine Re.br (fun g => Re.ret (no (by rw [hp, g]; rfl))) (fun g => ?_)
   rw [g, Bool.not_false, Bool.true_and] at hp
   refine Re.br (fun g => ?_) (fun g => next (by rw [hp, g]; rfl))
   rw [g, Bool.not_true, Bool.false_or] at hp
   exact Re.brn (fun g => Re.ret (no (by rw [hp, Bl8 g]))) (fun g => next (by rw [hp]; simp [g]))
  ·have : Ak5 5 (Ap7 es s e) = true := Ah2.2 fun j hj => hi.2 j (by omega)
   rw [this]; rfl) 0 ⟨by omega, fun j hj => by omega⟩
 exact this
def Az6 (es : List A0) (s : List A1) (e : A0) : Bool :=
 O5 e && (bif e.2.1 == 1 then (s.length : Int) == 0 else (H9 es (atS s 1)).2 && ((H9 es (atS s 1)).1.2.1 == 1 && (bif e.2.1 == 2 then Dw7 es s e else bif e.2.1 == 3 then Eu6 es s e
  else bif e.2.1 == 4 then L6 es s e.2.2.1 == 2 && decide (g9 es s e.2.2.1 ≥ 50) else L6 es s e.2.2.1 == 2)))
theorem Fi0 {e : A0} (h : O5 e = true) (h3 : e.2.1 = 3) : e.2.2.2.2.2.1.length = 5 := by
 have hb := (A15 h).1
 unfold body at hb
 simp only [Bool.and_eq_true] at hb
 have := hb.1.2
 unfold Fh6 F71 at this
 rw [show (Am8 e == 3) = true by show (e.2.1 == 3) = true; rw [h3]; rfl] at this
 simp only [cond_true, Bool.and_eq_true, beq_iff_eq] at this
 have h5 : (((G2 e).length : Nat) : Int) = 5 := by first | exact this.1 | exact this.2
 show (G2 e).length = 5
 omega
theorem B17 (es : List A0) (s : List A1) (h : Eu3 es s) (e : A0) (hm : I8 e ≤ 1048576) : Ev (fun k => Av5 k es s e) (Az6 es s e) := by
 refine Re.eq (Re.c1 (Af4 e hm) ?_)
 unfold Az6
 cases ho : O5 e with
 | false => exact Re.ret rfl
 | true =>
  refine Re.br (b := false) (fun h => by cases h) (fun _ => ?_)
  refine Re.br (fun q => Re.ret (by rw [q]; rfl)) (fun q => ?_)
  rw [q]
  refine Re.c1 (A94 s h.2 1) (Re.c1 (g8 es h.1 _) ?_)
  cases (H9 es (atS s 1)).2 with
  | false => exact Re.ret rfl
  | true =>
   refine Re.br (b := false) (fun h => by cases h) (fun _ => ?_)
   refine Re.brn (fun g => Re.ret (by rw [Bl8 g]; rfl)) (fun g => ?_)
   rw [show ((H9 es (atS s 1)).1.2.1 == 1) = true by simp [g]]
   refine Re.br (fun g => ?_) (fun g => ?_)
   ·rw [g]; exact Re.c1 (Dw8 es s h e) (Re.ret rfl)
   rw [g]
   refine Re.bre (fun g => ?_) (fun g => ?_)
   ·have h5 := Fi0 ho g
    rw [g]; exact Re.c1 (D98 es s h e h5) (Re.ret rfl)
   rw [Bl8 g]
   refine Re.br (fun g => ?_) (fun g => ?_)
   ·rw [g]
    refine Re.c1 (U7 es s h _) ?_
    cases L6 es s e.2.2.1 == 2 with
    | true => exact Re.c1 (o7 es s h _) (Re.ret rfl)
    | false => exact Re.ret rfl
   ·rw [g]
    exact Re.c1 (U7 es s h _) (Re.ret rfl)
def Co5 (e : A0) : Int := bif e.2.1 == 1 then 1 else bif e.2.1 == 3 then 2 else bif e.2.1 == 4 then 3 else bif e.2.1 == 2 && Z7 e.2.2.2.1 1 5 then 10 + e.2.2.2.1 else 0
theorem B18 (e : A0) (k : Nat) : A79 k e = some (Co5 e) := by
 unfold A79 Co5
 cases e.2.1 == 1 with
 | true => rfl
 | false =>
  cases e.2.1 == 3 with
  | true => rfl
  | false =>
   cases e.2.1 == 4 with
   | true => rfl
   | false =>
    cases e.2.1 == 2 with
    | false => rfl
    | true =>
     simp only [br_true, br_false, H1, bd_some]
     cases hu : Z7 e.2.2.2.1 1 5 with
     | false => rfl
     | true =>
      have := G4.1 hu
      rw [br_true, D7 (by omega) (by omega)]
      rfl
end Go.Vm
end
section
namespace Go.Vm
open Go
theorem Ax5 (xs : List Int) (hx : xs.length ≤ 1048576) (y : Int) : Ev (fun k => Az4 k xs y) (decide (y ∈ xs)) := by
 refine Re.eq (Re.enter (f := fun k n => Ak8 k n xs y 0) C6 ?_)
 have := Re.loop (ι := Nat) (l := fun k n (i : Nat) => Ak8 k n xs y (i : Int)) (I := fun i => i ≤ xs.length ∧ ∀ j, j < i → rd 0 xs j ≠ y) (fun i => xs.length - i) (Q := fun _ r => r = decide (y ∈ xs)) (fun i hi ih => by
  simp only [Ak8, Ct8]
  refine Re.brd (fun h => ?_) (fun h => ?_)
  ·have hl : i < xs.length := by omega
   refine Re.gdd (by omega) (Re.gdd h ?_)
   rw [Int.toNat_natCast]
   refine Re.bre (fun e => Re.ret ?_) (fun e => ?_)
   ·exact (decide_eq_true (by rw [← e, E8 hl]; exact List.getElem_mem _)).symm
   ·rw [C9 hl (by omega)]
    refine ih (i + 1) ⟨by omega, fun j hj => ?_⟩ (by omega)
    by_cases q : j < i
    ·exact hi.2 j q
    ·have : j = i := by omega
     subst this; exact e
  ·refine Re.ret (decide_eq_false fun hm => ?_).symm
   obtain ⟨j, hj, e⟩ := List.getElem_of_mem hm
   exact absurd (by rw [E8 hj]; exact e) (hi.2 j (by omega))) 0 ⟨Nat.zero_le _, fun j hj => by omega⟩
 exact this
def j7 (y : Int) : List Int → Bool → List Int
 | [], d => if d then [] else [y]
 | x :: xs, d => if x ≥ y ∧ d = false then y :: (if x = y then j7 y xs true else x :: j7 y xs true) else (if x = y then j7 y xs d else x :: j7 y xs d)
def F76 (xs : List Int) (y : Int) : List Int := j7 y xs false
theorem B19 (y : Int) : ∀ (xs : List Int) (d : Bool), (j7 y xs d).length ≤ xs.length + 1
 | [], d => by unfold j7; split <;> simp
 | x :: xs, d => by
  have h1 := B19 y xs true
  have h2 := B19 y xs d
  have h3 : (j7 y xs true).length ≤ xs.length := by
   clear h1 h2
   induction xs with
   | nil => simp [j7]
   | cons z zs ih =>
    unfold j7
    rw [if_neg (by simp)]
    split <;> simp <;> omega
  unfold j7
  split
  ·split <;> simp <;> omega
  ·split <;> simp <;> omega
theorem Fi1 (xs : List Int) (y : Int) : (F76 xs y).length ≤ xs.length + 1 := B19 y xs false
theorem Bc6 (y : Int) : ∀ (xs : List Int) (d : Bool) (z : Int), z ∈ j7 y xs d ↔ (z ∈ xs ∧ z ≠ y) ∨ (d = false ∧ z = y)
 | [], d, z => by cases d <;> simp [j7]
 | x :: xs, d, z => by
  have h1 := Bc6 y xs true z
  have h2 := Bc6 y xs d z
  unfold j7
  by_cases hd : x ≥ y ∧ d = false
  ·rw [if_pos hd]
   by_cases hx : x = y
   ·rw [if_pos hx]
    simp only [List.mem_cons, h1, hd.2, hx]
    constructor
    ·rintro (h | h | h)
     ·exact .inr ⟨trivial, h⟩
     ·exact .inl ⟨.inr h.1, h.2⟩
     ·cases h.1
    ·rintro (h | h)
     ·rcases h.1 with h3 | h3
      ·exact .inl h3
      ·exact .inr (.inl ⟨h3, h.2⟩)
     ·exact .inl h.2
   ·rw [if_neg hx]
    simp only [List.mem_cons, h1, hd.2]
    constructor
    ·rintro (h | h | h | h)
     ·exact .inr ⟨trivial, h⟩
     ·subst h; exact .inl ⟨.inl rfl, hx⟩
     ·exact .inl ⟨.inr h.1, h.2⟩
     ·cases h.1
    ·rintro (h | h)
     ·rcases h.1 with h3 | h3
      ·exact .inr (.inl h3)
      ·exact .inr (.inr (.inl ⟨h3, h.2⟩))
     ·exact .inl h.2
  ·rw [if_neg hd]
   by_cases hx : x = y
   ·rw [if_pos hx, h2]
    simp only [List.mem_cons, hx]
    constructor
    ·rintro (h | h)
     ·exact .inl ⟨.inr h.1, h.2⟩
     ·exact .inr h
    ·rintro (h | h)
     ·rcases h.1 with h3 | h3
      ·exact absurd h3 h.2
      ·exact .inl ⟨h3, h.2⟩
     ·exact .inr h
   ·rw [if_neg hx]
    simp only [List.mem_cons, h2]
    constructor
    ·rintro (h | h | h)
     ·subst h; exact .inl ⟨.inl rfl, hx⟩
     ·exact .inl ⟨.inr h.1, h.2⟩
     ·exact .inr h
    ·rintro (h | h)
     ·rcases h.1 with h3 | h3
      ·exact .inl h3
      ·exact .inr (.inl ⟨h3, h.2⟩)
     ·exact .inr (.inr h)
theorem Fi2 {xs : List Int} {y z : Int} : z ∈ F76 xs y ↔ z ∈ xs ∨ z = y := by
 unfold F76
 rw [Bc6]
 by_cases h : z = y
 ·simp [h]
 ·simp [h]
theorem Dg2 (xs : List Int) (hx : xs.length ≤ 1048576) (y : Int) : Ev (fun k => Bt3 k xs y) (F76 xs y) := by
 refine Re.eq (Re.enter (f := fun k n => X4 k n xs y false 0 []) C6 ?_)
 have := Re.loop (ι := Nat) (l := fun k n (s : Nat × Bool × List Int) => X4 k n xs y s.2.1 (s.1 : Int) s.2.2) (I := fun s => s.1 ≤ xs.length ∧ s.2.2.length ≤ s.1 + (bif s.2.1 then 1 else 0)) (fun s => xs.length - s.1) (Q := fun s r => r = s.2.2 ++ j7 y (xs.drop s.1) s.2.1) (fun s hi ih => by
  obtain ⟨i, d, out⟩ := s
  obtain ⟨h1, h2⟩ := hi
  simp only at h1 h2 ih ⊢
  have h2' : out.length ≤ i + 1 := by cases d <;> simp at h2 <;> omega
  simp only [X4, Cb0]
  refine Re.brd (fun h => ?_) (fun h => ?_)
  ·have hl : i < xs.length := by omega
   have hdr : xs.drop i = rd 0 xs i :: xs.drop (i + 1) := by rw [E8 hl]; exact List.drop_eq_getElem_cons hl
   rw [hdr, C9 hl (by omega), Int.toNat_natCast]
   have m1 : ∀ a : Int, out.length + [a].length ≤ A3 := fun a => by simp [A3]; omega
   have m2 : ∀ a b : Int, (out ++ [a]).length + [b].length ≤ A3 := fun a b => by simp [A3]; omega
   refine Re.gdd (by omega) (Re.gdd h ?_)
   have plain : ¬ (rd 0 xs i ≥ y ∧ d = false) → Re (fun x : Nat × Nat => (br ((rd 0 xs i) != y) (gd (decide (0 ≤ (i : Int))) (gd (decide ((i : Int) < (xs.length : Int))) (gd (decide (out.length + [(rd 0 xs i)].length ≤ A3)) (X4 x.1 x.2 xs y d ((i + 1 : Nat) : Int) (out ++ [(rd 0 xs i)]))))) (X4 x.1 x.2 xs y d ((i + 1 : Nat) : Int) out))) (fun r => r = out ++ j7 y (rd 0 xs i :: xs.drop (i + 1)) d) := fun g => by
    refine Re.brn (fun q => ?_) (fun q => ?_)
    ·refine Re.gdd (by omega) (Re.gdd h (Re.gdd (m1 _) ?_))
     refine (ih (i + 1, d, out ++ [rd 0 xs i]) ⟨by simp only; omega, by cases d <;> simp at h2 ⊢ <;> omega⟩ (by simp only; omega)).mono fun r hr => ?_
     rw [hr, j7, if_neg g, if_neg q]; simp
    ·refine (ih (i + 1, d, out) ⟨by simp only; omega, by cases d <;> simp at h2 ⊢ <;> omega⟩ (by simp only; omega)).mono fun r hr => ?_
     rw [hr, j7, if_neg g, if_pos q]
   refine Re.brd (fun hge => ?_) (fun hge => Re.gdd (by omega) (Re.gdd h (plain fun g => hge g.1)))
   cases d with
   | true => exact Re.br (b := false) (fun h => by cases h) (fun _ => Re.gdd (by omega) (Re.gdd h (plain fun g => by cases g.2)))
   | false =>
    simp only [cond_false] at h2
    refine Re.br (b := true) (fun _ => ?_) (fun h => by cases h)
    refine Re.gdd (m1 _) (Re.gdd (by omega) (Re.gdd h ?_))
    refine Re.brn (fun q => ?_) (fun q => ?_)
    ·refine Re.gdd (by omega) (Re.gdd h (Re.gdd (m2 _ _) ?_))
     refine (ih (i + 1, true, (out ++ [y]) ++ [rd 0 xs i]) ⟨by simp only; omega, by simp; omega⟩ (by simp only; omega)).mono fun r hr => ?_
     rw [hr, j7, if_pos ⟨hge, rfl⟩, if_neg q]; simp
    ·refine (ih (i + 1, true, out ++ [y]) ⟨by simp only; omega, by simp; omega⟩ (by simp only; omega)).mono fun r hr => ?_
     rw [hr, j7, if_pos ⟨hge, rfl⟩, if_pos q]; simp
  ·have e : xs.drop i = [] := List.drop_eq_nil_of_le (by omega)
   rw [e]
   cases d with
   | true => exact Re.ret (by simp [j7])
   | false => exact Re.gdd (by simp [A3]; omega) (Re.ret (by simp [j7]))) (0, false, []) ⟨Nat.zero_le _, by simp⟩
 simpa [F76] using this
def Bj3 (es : List A0) (id : Int) : Int := if es.findIdx (fun e => e.1 == id) < es.length then ((es.findIdx fun e => e.1 == id : Nat) : Int) else -1
theorem Cc4 (r : A8) (h : r.1.length ≤ 1048576) (id : Int) : Ev (fun k => Bd6 k r id) (Bj3 r.1 id) := by
 have := F66 (l := fun k n i => Aa6 k n id (i : Int) r) r.1 (fun e => e.1 == id) (fun i => ((i : Nat) : Int)) (-1) (fun i hi => ⟨0, fun k _ n => by
  simp only [Aa6, Bk6, Int.ofNat_lt, hi, Int.natCast_nonneg, decide_true, br_true, gd_true, Int.toNat_natCast, E8, C9 hi (by omega)]⟩) ⟨0, fun k _ n => by
  simp only [Aa6, Bk6, Int.lt_irrefl, decide_false, br_false]⟩
 exact this
theorem En5 (es : List A0) (id : Int) : (Bj3 es id = -1 ∧ ∀ e ∈ es, e.1 ≠ id) ∨ (∃ i : Nat, i < es.length ∧ Bj3 es id = i ∧ (rd D3 es i).1 = id ∧ ∀ j, j < i → (rd D3 es j).1 ≠ id) := by
 unfold Bj3
 by_cases h : es.findIdx (fun e => e.1 == id) < es.length
 ·rw [if_pos h]
  refine .inr ⟨_, h, rfl, ?_, fun j hj => ?_⟩
  ·rw [E8 h]
   have := List.findIdx_getElem (w := h)
   simpa using this
  ·have := List.not_of_lt_findIdx hj
   rw [E8 (Nat.lt_trans hj h)]
   simpa using this
 ·rw [if_neg h]
  refine .inl ⟨rfl, fun e he g => h ?_⟩
  exact List.findIdx_lt_length_of_exists ⟨e, he, by simp [g]⟩
def Co6 (es : List A0) (m : Int) (p : Int) : Int := if Bj3 es p ≥ 0 ∧ (rd D3 es (Bj3 es p).toNat).2.2.2.2.2.2.2.2.1 > m then (rd D3 es (Bj3 es p).toNat).2.2.2.2.2.2.2.2.1 else m
def Gv2 (es : List A0) (prev : List Int) : Int := prev.foldl (Co6 es) (-1)
def c7 (es : List A0) (prev : List Int) : Int := if Gv2 es prev > 1000000 then 1000001 else Gv2 es prev + 1
theorem Ax6 {α β : Type} (f : β → α → β) (d : α) (xs : List α) (b : β) {i : Nat} (h : i < xs.length) : (xs.take (i + 1)).foldl f b = f ((xs.take i).foldl f b) (rd d xs i) := by
 rw [List.take_add_one, List.getElem?_eq_getElem h, E8 h, List.foldl_append]
 rfl
theorem Fi3 (es : List A0) : ∀ (prev : List Int) (m : Int), m ≤ prev.foldl (Co6 es) m
 | [], m => Int.le_refl m
 | p :: ps, m => by
  rw [List.foldl_cons]
  have : m ≤ Co6 es m p := by unfold Co6; split <;> omega
  exact Int.le_trans this (Fi3 es ps _)
theorem Af5 (r : A8) (h : r.1.length ≤ 1048576) (prev : List Int) (hp : prev.length ≤ 1048576) : Ev (fun k => J9 k r prev) (c7 r.1 prev) := by
 refine Re.eq (Re.enter (f := fun k n => l7 k n prev (-1) 0 r) C6 ?_)
 have := Re.loop (ι := Nat) (l := fun k n (i : Nat) => l7 k n prev ((prev.take i).foldl (Co6 r.1) (-1)) (i : Int) r) (I := fun i => i ≤ prev.length) (fun i => prev.length - i) (Q := fun _ v => v = c7 r.1 prev) (fun i hi ih => by
  simp only [l7, By9]
  refine Re.brd (fun q => ?_) (fun q => ?_)
  ·have hl : i < prev.length := by omega
   refine Re.gdd (by omega) (Re.gdd q ?_)
   rw [Int.toNat_natCast]
   refine Re.c2 (Cc4 r h _) ?_
   have hf := Ax6 (Co6 r.1) 0 prev (-1) hl
   have next := ih (i + 1) (by omega) (by omega)
   rw [hf] at next
   rw [C9 hl (by omega)]
   generalize (prev.take i).foldl (Co6 r.1) (-1) = m at next ⊢
   have hs := En5 r.1 (rd 0 prev i)
   refine Re.brd (fun g => ?_) (fun g => ?_)
   ·have hlt : Bj3 r.1 (rd 0 prev i) < r.1.length := by
     rcases hs with ⟨e, _⟩ | ⟨j, hj, e, _⟩ <;> omega
    refine Re.gdd (by omega) (Re.gdd hlt ?_)
    refine Re.brd (fun g2 => Re.gdd (by omega) (Re.gdd hlt ?_)) (fun g2 => ?_)
    ·unfold Co6 at next; rw [if_pos ⟨g, g2⟩] at next; exact next
    ·unfold Co6 at next; rw [if_neg (fun x => g2 x.2)] at next; exact next
   ·unfold Co6 at next; rw [if_neg (fun x => g x.1)] at next; exact next
  ·have e : prev.take i = prev := List.take_of_length_le (by omega)
   rw [e]
   have hge := Fi3 r.1 prev (-1)
   unfold c7 Gv2
   refine Re.brd (fun g => Re.ret (by rw [if_pos g])) (fun g => Re.ret ?_)
   rw [if_neg g, D7 (by omega) (by omega)]) 0 (Nat.zero_le _)
 exact this
def named (es : List A0) (id : Int) : Bool := es.any fun f => decide (id ∈ f.2.2.2.2.2.2.2.1)
def Af6 (es : List A0) (a : List Int) (e : A0) : List Int := bif named es e.1 then a else F76 a e.1
def Ac2 (es : List A0) : List Int := es.foldl (Af6 es) []
theorem Ac3 (es : List A0) : ∀ (xs : List A0) (a : List Int), (xs.foldl (Af6 es) a).length ≤ a.length + xs.length
 | [], a => by simp
 | x :: xs, a => by
  rw [List.foldl_cons]
  have h1 := Ac3 es xs (Af6 es a x)
  have h2 : (Af6 es a x).length ≤ a.length + 1 := by
   unfold Af6
   have := Fi1 a x.1
   cases named es x.1 <;> simp <;> omega
  simp; omega
def Hs3 (es : List A0) : Prop := es.length ≤ 100000 ∧ ∀ i, i < es.length → (rd D3 es i).2.2.2.2.2.2.2.1.length ≤ 1048576
theorem Cc5 (r : A8) (h : Hs3 r.1) : Ev (fun k => Ap0 k r) (Ac2 r.1) := by
 obtain ⟨h1, h2⟩ := h
 refine Re.eq (Re.enter (f := fun k n => Ab5 k n 0 r []) C6 ?_)
 have := Re.wf (l := fun k n (s : Nat ⊕ (Nat × Nat × Bool)) => match s with
   | .inl i => Ab5 k n (i : Int) r ((r.1.take i).foldl (Af6 r.1) [])
   | .inr (i, j, b) => A13 k n (i : Int) b (j : Int) r ((r.1.take i).foldl (Af6 r.1) []))
  (I := fun s => match s with
   | .inl i => i ≤ r.1.length
   | .inr (i, j, b) => i < r.1.length ∧ j ≤ r.1.length ∧ b = (r.1.take j).any fun f => decide ((rd D3 r.1 i).1 ∈ f.2.2.2.2.2.2.2.1))
  (fun s => match s with | .inl i => (r.1.length - i, 0) | .inr (i, j, _) => (r.1.length - (i + 1), r.1.length + 1 - j)) (Q := fun _ v => v = Ac2 r.1) (fun s hi ih => by
  rcases s with i | ⟨i, j, b⟩
  ·simp only at hi ih ⊢
   simp only [Fh4, Bk9]
   refine Re.brd (fun q => ?_) (fun q => Re.ret ?_)
   ·exact ih (.inr (i, 0, false)) ⟨by omega, Nat.zero_le _, by simp⟩ (.inl (by simp only; omega))
   ·rw [List.take_of_length_le (by omega)]; rfl
  ·obtain ⟨h3, h4, h5⟩ := hi
   simp only at ih ⊢
   have ab := Ac3 r.1 (r.1.take i) []
   have hlen2 : ((r.1.take i).foldl (Af6 r.1) []).length ≤ 100000 := by simp at ab; omega
   have hf := Ax6 (Af6 r.1) D3 r.1 [] h3
   simp only [Fh5, Bl0]
   refine Re.brd (fun q => ?_) (fun q => ?_)
   ·have hj : j < r.1.length := by omega
    have e1 : B4 ((j : Int) + 1) = ((j + 1 : Nat) : Int) := C9 hj (by omega)
    have ht : (r.1.take (j + 1)).any (fun f => decide ((rd D3 r.1 i).1 ∈ f.2.2.2.2.2.2.2.1)) = (b || decide ((rd D3 r.1 i).1 ∈ (rd D3 r.1 j).2.2.2.2.2.2.2.1)) := by
     rw [List.take_add_one, List.getElem?_eq_getElem hj, E8 hj, List.any_append, h5, E8 h3]
     simp
    have next := ih (.inr (i, j + 1, b || decide ((rd D3 r.1 i).1 ∈ (rd D3 r.1 j).2.2.2.2.2.2.2.1))) ⟨h3, by omega, ht.symm⟩ (.inr ⟨rfl, by simp only; omega⟩)
    rw [e1]
    cases b with
    | true =>
     rw [Bool.true_or] at next
     exact next
    | false =>
     refine Re.br (b := false) (fun h => by cases h) (fun _ => ?_)
     refine Re.gdd (by omega) (Re.gdd q (Re.gdd (by omega) (Re.gdd (by omega) ?_)))
     simp only [Int.toNat_natCast]
     refine Re.c2 (Ax5 _ (h2 j hj) _) ?_
     rw [Bool.false_or] at next
     exact next
   ·have ej : r.1.take j = r.1 := List.take_of_length_le (by omega)
    rw [ej] at h5
    have next := ih (.inl (i + 1)) (by simp only; omega) (.inr ⟨rfl, by simp only; omega⟩)
    simp only [hf] at next
    rw [C9 h3 (by omega)]
    have hn : named r.1 (rd D3 r.1 i).1 = b := h5.symm
    cases b with
    | true =>
     refine Re.br (b := false) (fun h => by cases h) (fun _ => ?_)
     unfold Af6 at next
     rw [hn] at next
     exact next
    | false =>
     refine Re.br (b := true) (fun _ => ?_) (fun h => by cases h)
     refine Re.gdd (by omega) (Re.gdd (by omega) ?_)
     simp only [Int.toNat_natCast]
     refine Re.c2 (Dg2 _ (by omega) _) ?_
     unfold Af6 at next
     rw [hn] at next
     exact next) (.inl 0) (Nat.zero_le _)
 exact this
end Go.Vm
end
section
namespace Go.Vm
open Go
noncomputable def eqd {α : Type} (a b : α) : Bool := @decide (a = b) (Classical.propDecidable _)
theorem C11 {α : Type} {a b : α} : eqd a b = true ↔ a = b := by unfold eqd; exact @decide_eq_true_iff _ (Classical.propDecidable _)
theorem F77 {α : Type} {a b : α} (h : a = b) : eqd a b = true := C11.2 h
theorem C93 {α : Type} {a b : α} (h : a ≠ b) : eqd a b = false := by
 cases e : eqd a b with
 | false => rfl
 | true => exact absurd (C11.1 e) h
end Go.Vm
end
section
namespace Go.Vm
open Go
theorem Hc6 (a b c : Int) : Z7 a b c = decide (b ≤ a ∧ a ≤ c) := by unfold Z7; rw [Bool.decide_and]
def Fi4 (k : Int) : Bool := Z7 k 1 3 || Z7 k 11 15
theorem Fi5 (k : Nat) (a : Int) : Bt1 k a = some (Fi4 a) := by
 unfold Bt1 Fi4
 rw [H1, H1]
 cases Z7 a 1 3 <;> rfl
def StP (s : List A1) : Prop := s.length ≤ 8 ∧ ∀ i, i < s.length → Fi4 (rd J2 s i).1 = true ∧ (1 ≤ (rd J2 s i).2.1 ∧ (rd J2 s i).2.1 ≤ 1000000) ∧ (0 < i → (rd J2 s (i - 1)).1 < (rd J2 s i).1)
noncomputable def Af7 (s : List A1) : Bool := @decide (StP s) (Classical.propDecidable _)
theorem Cc6 {s : List A1} : Af7 s = true ↔ StP s := by unfold Af7; exact @decide_eq_true_iff _ (Classical.propDecidable _)
theorem B20 {s : List A1} (h : ¬ StP s) : Af7 s = false := by
 cases e : Af7 s with
 | false => rfl
 | true => exact absurd (Cc6.1 e) h
theorem C12 (s : List A1) (h : s.length ≤ 4194304) : Ev (fun k => Bb8 k s) (Af7 s) := by
 refine Re.eq ?_
 refine Re.brd (fun q => Re.ret (B20 fun hc => by have := hc.1; omega).symm) (fun q => ?_)
 refine Re.enter (f := fun k n => X2 k n s 0) C6 ?_
 have := Re.loop (ι := Nat) (l := fun k n (i : Nat) => X2 k n s (i : Int)) (I := fun i => i ≤ s.length ∧ ∀ j, j < i → Fi4 (rd J2 s j).1 = true ∧ (1 ≤ (rd J2 s j).2.1 ∧ (rd J2 s j).2.1 ≤ 1000000) ∧ (0 < j → (rd J2 s (j - 1)).1 < (rd J2 s j).1)) (fun i => s.length - i) (Q := fun _ v => v = Af7 s) (fun i hi ih => by
  simp only [X2, Bz1]
  refine Re.brd (fun h1 => ?_) (fun h1 => Re.ret (Cc6.2 ⟨by omega, fun j hj => hi.2 j (by omega)⟩).symm)
  have hl : i < s.length := by omega
  refine Re.gdd (by omega) (Re.gdd h1 ?_)
  simp only [Int.toNat_natCast]
  refine Re.s2 (Fi5 · _) ?_
  refine Re.br (fun g => Re.ret (B20 fun hc => by have := (hc.2 i hl).1; rw [this] at g; cases g).symm) (fun g => ?_)
  have g1 : Fi4 (rd J2 s i).1 = true := by simpa using g
  refine Re.gdd (by omega) (Re.gdd h1 (Re.s2 (H1 · _ _ _) ?_))
  rw [Hc6]
  refine Re.br (fun g => Re.ret (B20 fun hc => by have := (hc.2 i hl).2.1; rw [decide_eq_true this] at g; cases g).symm) (fun g => ?_)
  have g2 : 1 ≤ (rd J2 s i).2.1 ∧ (rd J2 s i).2.1 ≤ 1000000 := by simpa using g
  rw [C9 hl (by omega)]
  have next : (0 < i → (rd J2 s (i - 1)).1 < (rd J2 s i).1) → Re (fun x : Nat × Nat => X2 x.1 x.2 s ((i + 1 : Nat) : Int)) (fun v => v = Af7 s) := fun g3 => ih (i + 1) ⟨by omega, fun j hj => by
   by_cases q : j < i
   ·exact hi.2 j q
   ·have : j = i := by omega
    subst this; exact ⟨g1, g2, g3⟩⟩ (by omega)
  refine Re.brd (fun q => ?_) (fun q => next fun h => absurd (by omega) q)
  rw [Cz0 (by omega) (by omega)]
  refine Re.gdd (by omega) (Re.gdd (by omega) (Re.gdd (by omega) (Re.gdd h1 ?_)))
  simp only [Int.toNat_natCast]
  exact Re.brd (fun q => Re.ret (B20 fun hc => by have := (hc.2 i hl).2.2 (by omega); omega).symm) (fun q => next fun _ => by omega)) 0 ⟨Nat.zero_le _, fun j hj => by omega⟩
 exact this
def C94 (s : List A1) (key id : Int) : List A1 := s.filter (fun x => decide (x.1 < key)) ++ [(key, id, ())] ++ s.filter (fun x => decide (x.1 > key))
noncomputable def Fi6 (s : List A1) (key id : Int) : List A1 := bif Af7 s && Af7 (C94 s key id) then C94 s key id else s
theorem En6 {s : List A1} {i : Nat} (h : i < s.length) : s.take (i + 1) = s.take i ++ [rd J2 s i] := by
 rw [List.take_add_one, List.getElem?_eq_getElem h, E8 h]; rfl
theorem Ck7 {α : Type} (p : α → Bool) (s : List α) (i : Nat) : ((s.take i).filter p).length ≤ s.length :=
 Nat.le_trans (List.length_filter_le _ _) (by simp; omega)
theorem Fi7 (s : List A1) (h : s.length ≤ 1048576) (key id : Int) : Ev (fun k => Em5 k s key id) (Fi6 s key id) := by
 refine Re.eq (Re.enter (f := fun k n => Bd9 k n s key id 0 []) C6 ?_)
 have := Re.wf (l := fun k n (st : Nat ⊕ Nat) => match st with
   | .inl i => Bd9 k n s key id (i : Int) ((s.take i).filter fun x => decide (x.1 < key))
   | .inr i => Ca8 k n s key (i : Int) ((s.filter fun x => decide (x.1 < key)) ++ [(key, id, ())] ++ ((s.take i).filter fun x => decide (x.1 > key))))
  (I := fun st => match st with | .inl i => i ≤ s.length | .inr i => i ≤ s.length)
  (fun st => match st with | .inl i => (1, s.length - i) | .inr i => (0, s.length - i)) (Q := fun _ v => v = Fi6 s key id) (fun st hi ih => by
  rcases st with i | i
  ·simp only at hi ih ⊢
   simp only [Bd9, Du7]
   have hle := Ck7 (fun x : A1 => decide (x.1 < key)) s i
   refine Re.brd (fun q => ?_) (fun q => ?_)
   ·have hl : i < s.length := by omega
    refine Re.gdd (by omega) (Re.gdd q ?_)
    rw [C9 hl (by omega)]
    have next := ih (.inl (i + 1)) (by simp only; omega) (.inr ⟨rfl, by simp only; omega⟩)
    simp only [En6 hl, List.filter_append] at next
    simp only [Int.toNat_natCast]
    refine Re.brd (fun g => Re.gdd (by omega) (Re.gdd q (Re.gdd (by simp [A3]; omega) ?_))) (fun g => ?_)
    ·rw [List.filter_cons_of_pos (by simpa using g)] at next; exact next
    ·rw [List.filter_cons_of_neg (by simpa using g)] at next; simpa using next
   ·have e : s.take i = s := List.take_of_length_le (by omega)
    rw [e] at hle ⊢
    refine Re.gdd (by simp [A3]; omega) ?_
    have next := ih (.inr 0) (Nat.zero_le _) (.inl (by simp only; omega))
    simpa using next
  ·simp only at hi ih ⊢
   simp only [Ca8, Du6]
   have hle := Ck7 (fun x : A1 => decide (x.1 > key)) s i
   have hle2 : (s.filter fun x : A1 => decide (x.1 < key)).length ≤ s.length := List.length_filter_le _ _
   refine Re.brd (fun q => ?_) (fun q => ?_)
   ·have hl : i < s.length := by omega
    refine Re.gdd (by omega) (Re.gdd q ?_)
    rw [C9 hl (by omega)]
    have next := ih (.inr (i + 1)) (by simp only; omega) (.inr ⟨rfl, by simp only; omega⟩)
    simp only [En6 hl, List.filter_append] at next
    simp only [Int.toNat_natCast]
    refine Re.brd (fun g => Re.gdd (by omega) (Re.gdd q (Re.gdd (by simp only [List.length_append, List.length_singleton]; unfold A3; omega) ?_))) (fun g => ?_)
    ·rw [List.filter_cons_of_pos (by simpa using g)] at next; simpa using next
    ·rw [List.filter_cons_of_neg (by simpa using g)] at next; simpa using next
   ·have e : s.take i = s := List.take_of_length_le (by omega)
    rw [e] at hle ⊢
    have eo : (s.filter fun x : A1 => decide (x.1 < key)) ++ [(key, id, ())] ++ (s.filter fun x => decide (x.1 > key)) = C94 s key id := rfl
    rw [eo]
    have hlo : (C94 s key id).length ≤ 4194304 := by rw [← eo]; simp only [List.length_append, List.length_singleton]; omega
    refine Re.c2 (C12 s (by omega)) ?_
    have hcopy : Re (fun _ : Nat × Nat => gd (decide (([] : List A1).length + s.length ≤ A3)) (some (([] : List A1) ++ s))) (fun v => v = s) := Re.gdd (by simp [A3]; omega) (Re.ret rfl)
    unfold Fi6
    cases Af7 s with
    | false => exact hcopy
    | true =>
     refine Re.br (b := false) (fun h => by cases h) (fun _ => Re.c2 (C12 _ hlo) ?_)
     cases Af7 (C94 s key id) with
     | false => exact hcopy
     | true => exact Re.ret rfl) (.inl 0) (Nat.zero_le _)
 simpa using this
theorem Dg3 {s : List A1} {key id : Int} {n : Nat} (h : s.length ≤ n) (h8 : 8 ≤ n) : (Fi6 s key id).length ≤ n := by
 unfold Fi6
 cases hq : Af7 s && Af7 (C94 s key id) with
 | false => exact h
 | true =>
  simp only [Bool.and_eq_true] at hq
  have := (Cc6.1 hq.2).1
  simp only [cond_true]; omega
def G06 (ss : List (List A1)) : Prop := ss.length ≤ 1048576 ∧ ∀ i, i < ss.length → (rd [] ss i).length ≤ 100000
def Hy8 (ss : List (List A1)) (k : Int) : Bool := ss.any fun s => s.any fun x => x.1 == k
def Bf3 (ss : List (List A1)) : Nat → List Int
 | 0 => []
 | k + 1 => bif Hy8 ss (k : Int) then Bf3 ss k ++ [(k : Int)] else Bf3 ss k
def Ag2 (ss : List (List A1)) : List Int := Bf3 ss 16
theorem w5 (ss : List (List A1)) : ∀ k, (Bf3 ss k).length ≤ k
 | 0 => Nat.le_refl 0
 | k + 1 => by
  have := w5 ss k
  unfold Bf3
  cases Hy8 ss (k : Int) <;> simp <;> omega
theorem Co7 {α : Type} (p : α → Bool) (d : α) (xs : List α) {i : Nat} (h : i < xs.length) : (xs.take (i + 1)).any p = ((xs.take i).any p || p (rd d xs i)) := by
 rw [List.take_add_one, List.getElem?_eq_getElem h, E8 h, List.any_append]
 simp
theorem C13 (ss : List (List A1)) (h : G06 ss) : Ev (fun k => Bb9 k ss) (Ag2 ss) := by
 obtain ⟨h1, h2⟩ := h
 refine Re.eq (Re.enter (f := fun k n => l9 k n ss 0 []) C6 ?_)
 have := Re.wf (l := fun k n (st : Nat ⊕ (Nat × Nat × Bool) ⊕ (Nat × Nat × Nat × Bool)) => match st with
   | .inl q => l9 k n ss (q : Int) (Bf3 ss q)
   | .inr (.inl (q, i, b)) => Ao2 k n ss (q : Int) b (i : Int) (Bf3 ss q)
   | .inr (.inr (q, i, j, b)) => Ao3 k n ss (q : Int) b (i : Int) (j : Int) (Bf3 ss q))
  (I := fun st => match st with
   | .inl q => q ≤ 16
   | .inr (.inl (q, i, b)) => q ≤ 15 ∧ i ≤ ss.length ∧ b = (ss.take i).any fun s => s.any fun x => x.1 == (q : Int)
   | .inr (.inr (q, i, j, b)) => q ≤ 15 ∧ i < ss.length ∧ j ≤ (rd [] ss i).length ∧ b = ((ss.take i).any (fun s => s.any fun x => x.1 == (q : Int)) || ((rd [] ss i).take j).any fun x => x.1 == (q : Int)))
  (fun st => match st with
   | .inl q => ((16 - q) * (ss.length + 2), 0)
   | .inr (.inl (q, i, _)) => ((15 - q) * (ss.length + 2) + (ss.length - i) + 1, 0)
   | .inr (.inr (q, i, j, _)) => ((15 - q) * (ss.length + 2) + (ss.length - i), (rd [] ss i).length - j + 1)) (Q := fun _ v => v = Ag2 ss) (fun st hi ih => by
  rcases st with q | ⟨q, i, b⟩ | ⟨q, i, j, b⟩
  ·simp only at hi ih ⊢
   simp only [Et2, A80]
   refine Re.brd (fun g => ?_) (fun g => Re.ret ?_)
   ·refine ih (.inr (.inl (q, 0, false))) ⟨by omega, Nat.zero_le _, by simp⟩ (.inl ?_)
    simp only
    have : (16 - q) * (ss.length + 2) = (15 - q) * (ss.length + 2) + (ss.length + 2) := by rw [show 16 - q = (15 - q) + 1 by omega, Nat.succ_mul]
    omega
   ·rw [show q = 16 by omega]; rfl
  ·obtain ⟨g1, g2, g3⟩ := hi
   simp only at ih ⊢
   simp only [Et3, A81]
   have hk := w5 ss q
   refine Re.brd (fun g => ?_) (fun g => ?_)
   ·exact ih (.inr (.inr (q, i, 0, b))) ⟨g1, by omega, Nat.zero_le _, by simp [g3]⟩ (.inl (by simp only; omega))
   ·have ei : ss.take i = ss := List.take_of_length_le (by omega)
    rw [ei] at g3
    have next := ih (.inl (q + 1)) (by simp only; omega) (.inl (by
     simp only
     rw [show 16 - (q + 1) = 15 - q by omega]; omega))
    have ek : Bf3 ss (q + 1) = bif b then Bf3 ss q ++ [(q : Int)] else Bf3 ss q := by rw [g3]; rfl
    have ew : B4 ((q : Int) + 1) = ((q + 1 : Nat) : Int) := by rw [D7 (by omega) (by omega)]; rfl
    rw [ew]
    simp only [ek] at next
    cases b with
    | true => exact Re.br (b := true) (fun _ => Re.gdd (by simp [A3]; omega) next) (fun h => by cases h)
    | false => exact Re.br (b := false) (fun h => by cases h) (fun _ => next)
  ·obtain ⟨g1, g2, g3, g4⟩ := hi
   simp only at ih ⊢
   simp only [Et4, A82]
   refine Re.gdd (by omega) (Re.gdd (by omega) ?_)
   simp only [Int.toNat_natCast]
   have hsz := h2 i g2
   refine Re.brd (fun g => ?_) (fun g => ?_)
   ·have hj : j < (rd [] ss i).length := by omega
    have ew : B4 ((j : Int) + 1) = ((j + 1 : Nat) : Int) := C9 hj (by omega)
    have et := Co7 (fun x : A1 => x.1 == (q : Int)) J2 (rd [] ss i) hj
    have next := ih (.inr (.inr (q, i, j + 1, b || ((rd J2 (rd [] ss i) j).1 == (q : Int))))) ⟨g1, g2, by omega, by rw [et, g4, Bool.or_assoc]⟩ (.inr ⟨rfl, by simp only; omega⟩)
    rw [ew]
    cases b with
    | true =>
     rw [Bool.true_or] at next
     exact Re.br (b := true) (fun _ => next) (fun h => by cases h)
    | false =>
     rw [Bool.false_or] at next
     exact Re.br (b := false) (fun h => by cases h) (fun _ => Re.gdd (by omega) (Re.gdd (by omega) (Re.gdd (by omega) (Re.gdd g next))))
   ·have ej : (rd [] ss i).take j = rd [] ss i := List.take_of_length_le (by omega)
    rw [ej] at g4
    rw [C9 g2 (by omega)]
    exact ih (.inr (.inl (q, i + 1, b))) ⟨g1, by omega, by rw [Co7 (fun s : List A1 => s.any fun x => x.1 == (q : Int)) [] ss g2]; exact g4⟩ (.inr ⟨by simp only; omega, by simp only; omega⟩)) (.inl 0) (Nat.zero_le _)
 exact this
def B72 (ss : List (List A1)) (key : Int) : Bool := (List.range' 1 (ss.length - 1)).all fun i => atS (rd [] ss i) key == atS (rd [] ss 0) key
theorem Co8 (ss : List (List A1)) (h : G06 ss) (key : Int) : Ev (fun k => Av6 k ss key) (B72 ss key) := by
 obtain ⟨h1, h2⟩ := h
 refine Re.eq (Re.enter (f := fun k n => Y7 k n ss key 1) C6 ?_)
 have := Re.loop (ι := Nat) (l := fun k n (i : Nat) => Y7 k n ss key (i : Int)) (I := fun i => 1 ≤ i ∧ (∀ j, 1 ≤ j → j < i → j < ss.length → (atS (rd [] ss j) key == atS (rd [] ss 0) key) = true)) (fun i => ss.length - i) (Q := fun _ v => v = B72 ss key) (fun i hi ih => by
  simp only [Y7, Bo0]
  refine Re.brd (fun g => ?_) (fun g => Re.ret ?_)
  ·have hl : i < ss.length := by omega
   refine Re.gdd (by omega) (Re.gdd g ?_)
   simp only [Int.toNat_natCast]
   refine Re.c2 (A94 _ (by have := h2 i hl; omega) _) (Re.gdd (by omega) (Re.c2 (A94 _ (by have := h2 0 (by omega); omega) _) ?_))
   refine Re.brn (fun q => Re.ret ?_) (fun q => ?_)
   ·unfold B72
    rw [eq_comm, List.all_eq_false]
    exact ⟨i, by rw [List.mem_range'_1]; omega, by simp [q]⟩
   ·rw [C9 hl (by omega)]
    exact ih (i + 1) ⟨by omega, fun j hj1 hj2 hj3 => by
     by_cases q2 : j < i
     ·exact hi.2 j hj1 q2 hj3
     ·have : j = i := by omega
      subst this; simp [q]⟩ (by omega)
  ·unfold B72
   rw [eq_comm, List.all_eq_true]
   intro j hj
   rw [List.mem_range'_1] at hj
   exact hi.2 j hj.1 (by omega) (by omega)) 1 ⟨Nat.le_refl 1, fun j h1 h2 => by omega⟩
 exact this
def S7 (ss : List (List A1)) : List A1 := ((Ag2 ss).filter (B72 ss)).map fun k => (k, atS (rd [] ss 0) k, ())
def C95 (ss : List (List A1)) : List Int := (Ag2 ss).filter fun k => !B72 ss k
theorem Cc7 {s : List Int} {i : Nat} (h : i < s.length) : s.take (i + 1) = s.take i ++ [rd 0 s i] := by
 rw [List.take_add_one, List.getElem?_eq_getElem h, E8 h]; rfl
theorem Dg4 (ss : List (List A1)) (h : G06 ss) (hne : 0 < ss.length) : Ev (fun k => Bt2 k ss) (S7 ss) := by
 refine Re.eq (Re.c1 (C13 ss h) ?_)
 have hk : (Ag2 ss).length ≤ 16 := w5 ss 16
 refine Re.enter (f := fun k n => Aa7 k n ss 0 [] (Ag2 ss)) C6 ?_
 have := Re.loop (ι := Nat) (l := fun k n (i : Nat) => Aa7 k n ss (i : Int) ((((Ag2 ss).take i).filter (B72 ss)).map fun k => (k, atS (rd [] ss 0) k, ())) (Ag2 ss)) (I := fun i => i ≤ (Ag2 ss).length) (fun i => (Ag2 ss).length - i) (Q := fun _ v => v = S7 ss) (fun i hi ih => by
  have hle := Ck7 (B72 ss) (Ag2 ss) i
  simp only [Aa7, Ca9]
  refine Re.brd (fun g => ?_) (fun g => Re.ret (by rw [List.take_of_length_le (by omega)]; rfl))
  have hl : i < (Ag2 ss).length := by omega
  have next := ih (i + 1) (by omega) (by omega)
  rw [Cc7 hl, List.filter_append, List.map_append] at next
  refine Re.gdd (by omega) (Re.gdd g ?_)
  simp only [Int.toNat_natCast]
  rw [C9 hl (by omega)]
  refine Re.c2 (Co8 ss h _) ?_
  cases ha : B72 ss (rd 0 (Ag2 ss) i) with
  | true =>
   rw [List.filter_cons_of_pos ha] at next
   refine Re.br (b := true) (fun _ => ?_) (fun h => by cases h)
   refine Re.gdd (by omega) (Re.gdd g (Re.gdd (by omega) (Re.gdd (by omega) (Re.gdd g ?_))))
   refine Re.c2 (A94 _ (by have := h.2 0 hne; omega) _) (Re.gdd (by simp only [List.length_map, List.length_singleton]; unfold A3; omega) ?_)
   simpa using next
  | false =>
   rw [List.filter_cons_of_neg (by simp [ha])] at next
   refine Re.br (b := false) (fun h => by cases h) (fun _ => ?_)
   simpa using next) 0 (Nat.zero_le _)
 simpa using this
theorem F78 (ss : List (List A1)) (h : G06 ss) : Ev (fun k => Cz4 k ss) (C95 ss) := by
 refine Re.eq (Re.c1 (C13 ss h) ?_)
 have hk : (Ag2 ss).length ≤ 16 := w5 ss 16
 refine Re.enter (f := fun k n => Ak7 k n ss 0 [] (Ag2 ss)) C6 ?_
 have := Re.loop (ι := Nat) (l := fun k n (i : Nat) => Ak7 k n ss (i : Int) (((Ag2 ss).take i).filter fun k => !B72 ss k) (Ag2 ss)) (I := fun i => i ≤ (Ag2 ss).length) (fun i => (Ag2 ss).length - i) (Q := fun _ v => v = C95 ss) (fun i hi ih => by
  have hle := Ck7 (fun k => !B72 ss k) (Ag2 ss) i
  simp only [Ak7, Ct7]
  refine Re.brd (fun g => ?_) (fun g => Re.ret (by rw [List.take_of_length_le (by omega)]; rfl))
  have hl : i < (Ag2 ss).length := by omega
  have next := ih (i + 1) (by omega) (by omega)
  rw [Cc7 hl, List.filter_append] at next
  refine Re.gdd (by omega) (Re.gdd g ?_)
  simp only [Int.toNat_natCast]
  rw [C9 hl (by omega)]
  refine Re.c2 (Co8 ss h _) ?_
  cases ha : B72 ss (rd 0 (Ag2 ss) i) with
  | false =>
   rw [List.filter_cons_of_pos (by simp [ha])] at next
   refine Re.br (b := true) (fun _ => ?_) (fun h => by cases h)
   exact Re.gdd (by omega) (Re.gdd g (Re.gdd (by simp only [List.length_singleton]; unfold A3; omega) next))
  | true =>
   rw [List.filter_cons_of_neg (by simp [ha])] at next
   refine Re.br (b := false) (fun h => by cases h) (fun _ => ?_)
   simpa using next) 0 (Nat.zero_le _)
 simpa using this
end Go.Vm
end
section
namespace Go.Vm
open Go
def Dw9 (e : A0) : Bool := e.2.1 == 3 || (e.2.1 == 2 && ((e.2.2.2.2.1 == 0 || e.2.2.2.2.1 == 3) && e.2.2.1 != e.2.2.2.1))
theorem Bp4 (k : Nat) (e : A0) : Aa9 k e = some (Dw9 e) := by
 unfold Aa9 Dw9
 cases e.2.1 == 3 <;> cases e.2.1 == 2 <;> cases e.2.2.2.2.1 == 0 <;> cases e.2.2.2.2.1 == 3 <;> rfl
def C14 (es : List A0) (s : List A1) (a b : A0) : Bool :=
 bif Dw9 a == Dw9 b then (if g9 es s a.2.2.1 = g9 es s b.2.2.1 then (if a.2.2.2.2.2.2.2.2.1 = b.2.2.2.2.2.2.2.2.1 then decide (a.1 < b.1) else decide (a.2.2.2.2.2.2.2.2.1 < b.2.2.2.2.2.2.2.2.1)) else decide (g9 es s a.2.2.1 > g9 es s b.2.2.1)) else Dw9 a
theorem Eu7 (es : List A0) (s : List A1) (h : Eu3 es s) (a b : A0) : Ev (fun k => Bt4 k es s a b) (C14 es s a b) := by
 refine Re.eq (Re.s1 (Bp4 · _) (Re.s1 (Bp4 · _) ?_))
 unfold C14
 cases Dw9 a == Dw9 b with
 | false => exact Re.br (b := true) (fun _ => Re.s1 (Bp4 · _) (Re.ret rfl)) (fun h => by cases h)
 | true =>
  refine Re.br (b := false) (fun h => by cases h) (fun _ => Re.c1 (o7 es s h _) (Re.c1 (o7 es s h _) ?_))
  refine Re.brn (fun q => Re.ret (by simp [q])) (fun q => ?_)
  exact Re.brn (fun q2 => Re.ret (by simp [q, q2])) (fun q2 => Re.ret (by simp [q, q2]))
def ready (ahead left out : List Int) : Bool := ahead.all fun x => !decide (x ∈ left) || decide (x ∈ out)
theorem Co9 (ahead left out : List Int) (h1 : ahead.length ≤ 1048576) (h2 : left.length ≤ 1048576) (h3 : out.length ≤ 1048576) : Ev (fun k => Av7 k ahead left out) (ready ahead left out) := by
 refine Re.eq (Re.enter (f := fun k n => U5 k n ahead left out 0) C6 ?_)
 have := Re.loop (ι := Nat) (l := fun k n (i : Nat) => U5 k n ahead left out (i : Int)) (I := fun i => i ≤ ahead.length ∧ ∀ j, j < i → (rd 0 ahead j ∈ left → rd 0 ahead j ∈ out)) (fun i => ahead.length - i) (Q := fun _ v => v = ready ahead left out) (fun i hi ih => by
  simp only [U5, Bo1]
  refine Re.brd (fun g => ?_) (fun g => Re.ret ?_)
  ·have hl : i < ahead.length := by omega
   refine Re.gdd (by omega) (Re.gdd g ?_)
   simp only [Int.toNat_natCast]
   rw [C9 hl (by omega)]
   have next : (rd 0 ahead i ∈ left → rd 0 ahead i ∈ out) → Re (fun x : Nat × Nat => U5 x.1 x.2 ahead left out ((i + 1 : Nat) : Int)) (fun v => v = ready ahead left out) := fun q => ih (i + 1) ⟨by omega, fun j hj => by
    by_cases q2 : j < i
    ·exact hi.2 j q2
    ·have : j = i := by omega
     subst this; exact q⟩ (by omega)
   refine Re.c2 (Ax5 left h2 _) ?_
   refine Re.brd (fun q => ?_) (fun q => next fun h => absurd h q)
   refine Re.gdd (by omega) (Re.gdd g (Re.c2 (Ax5 out h3 _) ?_))
   refine Re.br (fun q2 => Re.ret ?_) (fun q2 => next fun _ => by simpa using q2)
   unfold ready
   rw [eq_comm, List.all_eq_false]
   refine ⟨rd 0 ahead i, by rw [E8 hl]; exact List.getElem_mem _, ?_⟩
   have q3 : ¬ rd 0 ahead i ∈ out := by simpa using q2
   simp [q, q3]
  ·unfold ready
   rw [eq_comm, List.all_eq_true]
   intro x hx
   obtain ⟨j, hj, rfl⟩ := List.getElem_of_mem hx
   have := hi.2 j (by omega)
   rw [E8 hj] at this
   by_cases q : ahead[j] ∈ left
   ·simp [q, this q]
   ·simp [q]) 0 ⟨Nat.zero_le _, fun j hj => by omega⟩
 exact this
def found (es : List A0) (x : Int) : Prop := (H9 es x).2 = true
def O0 (es : List A0) (x : Int) : List Int := (H9 es x).1.2.2.2.2.2.2.2.1
inductive Anc (es : List A0) (id : Int) : Int → Prop where
 | one {x : Int} : x ∈ O0 es id → found es x → Anc es id x
 | more {x y : Int} : Anc es id y → x ∈ O0 es y → found es x → Anc es id x
theorem C96 {es : List A0} {x : Int} (h : found es x) : x ∈ es.map fun e => e.1 := by
 unfold found H9 at h
 cases hf : es.find? fun e => e.1 == x with
 | none => rw [hf] at h; cases h
 | some e =>
  have h1 := List.find?_some hf
  have h2 := List.mem_of_find?_eq_some hf
  exact List.mem_map.2 ⟨e, h2, by simpa using h1⟩
theorem C15 {α : Type} [DecidableEq α] : ∀ (l m : List α), l.Nodup → (∀ x ∈ l, x ∈ m) → l.length ≤ m.length
 | [], m, _, _ => Nat.zero_le _
 | a :: l, m, hn, hs => by
  have ha : a ∈ m := hs a (List.mem_cons_self ..)
  rw [List.nodup_cons] at hn
  have := C15 l (m.erase a) hn.2 fun x hx => (List.mem_erase_of_ne (fun e => by subst e; exact hn.1 hx)).2 (hs x (List.mem_cons_of_mem _ hx))
  rw [List.length_erase_of_mem ha] at this
  have : 0 < m.length := List.length_pos_of_mem ha
  simp; omega
def AncL (es : List A0) (id : Int) (r : List Int) : Prop := r.Nodup ∧ ∀ x, x ∈ r ↔ Anc es id x
structure BInv (es : List A0) (id : Int) (out todo : List Int) (cur : Option (Int × Nat)) : Prop where
 nd : out.Nodup
 an : ∀ x ∈ out, found es x ∧ Anc es id x
 td : ∀ y ∈ todo, y = id ∨ y ∈ out
 cl : ∀ z, (z = id ∨ z ∈ out) → z ∈ todo ∨ (∃ j, cur = some (z, j) ∧ ∀ x ∈ (O0 es z).take j, found es x → x ∈ out) ∨ (∀ x ∈ O0 es z, found es x → x ∈ out)
theorem BInv.len {es : List A0} {id : Int} {out todo : List Int} {cur : Option (Int × Nat)} (h : BInv es id out todo cur) : out.length ≤ es.length := by
 have := C15 out (es.map fun e => e.1) h.nd fun x hx => C96 (h.an x hx).1
 simpa using this
theorem Dx0 (es : List A0) (h : es.length ≤ 100000) (hp : ∀ y, (O0 es y).length ≤ 1048576) (id : Int) : Re (fun k => A10 k es id) (AncL es id) := by
 refine Re.enter (f := fun k n => V3 k n es 0 [] [id]) C6 ?_
 have := Re.wf (l := fun k n (st : (Nat × List Int × List Int) ⊕ (Nat × Nat × List Int × List Int × Int)) => match st with
   | .inl (u, out, td) => V3 k n es u out td
   | .inr (u, j, out, td, y) => V4 k n es u (j : Int) out td (H9 es y))
  (I := fun st => match st with
   | .inl (u, out, td) => BInv es id out (td.drop u) none ∧ td.length ≤ 1000000 + u ∧ u ≤ td.length ∧ (td.drop u).length ≤ out.length + 1
   | .inr (u, j, out, td, y) => BInv es id out (td.drop u) (some (y, j)) ∧ (y = id ∨ y ∈ out) ∧ j ≤ (O0 es y).length ∧ (td.drop u).length ≤ out.length + 1 ∧ u ≤ td.length)
  (fun st => match st with
   | .inl (u, out, td) => (2 * (es.length - out.length) + (td.drop u).length, 0)
   | .inr (u, j, out, td, y) => (2 * (es.length - out.length) + (td.drop u).length, (O0 es y).length - j + 1)) (Q := fun _ r => AncL es id r) (fun st hi ih => by
  rcases st with ⟨u, out, td⟩ | ⟨u, j, out, td, y⟩
  ·obtain ⟨hB, h1, h2, h3⟩ := hi
   simp only at ih ⊢
   simp only [Dv0, Ao4]
   refine Re.brd (fun g => ?_) (fun g => Re.ret ?_)
   ·have hu : u < td.length := by omega
    have hd : td.drop u = rd 0 td u :: td.drop (u + 1) := by rw [E8 hu]; exact List.drop_eq_getElem_cons hu
    refine Re.gdd (by omega) ?_
    rw [Nat.add_zero]
    refine Re.c2 (g8 es (by omega) _) (Re.gdd (by omega) ?_)
    have hy := hB.td (rd 0 td u) (by rw [hd]; exact List.mem_cons_self ..)
    refine ih (.inr (u + 1, 0, out, td, rd 0 td u)) ⟨⟨hB.nd, hB.an, fun z hz => hB.td z (by rw [hd]; exact List.mem_cons_of_mem _ hz), fun z hz => ?_⟩, hy, Nat.zero_le _, by rw [hd] at h3; simp at h3 ⊢; omega, by omega⟩ (.inl ?_)
    ·rcases hB.cl z hz with h4 | ⟨j, h4, _⟩ | h4
     ·rw [hd] at h4
      rcases List.mem_cons.1 h4 with h5 | h5
      ·exact .inr (.inl ⟨0, by rw [h5], fun x hx => by simp at hx⟩)
      ·exact .inl h5
     ·cases h4
     ·exact .inr (.inr h4)
    ·simp only [hd, List.length_cons]
     omega
   ·have e : td.drop u = [] := List.drop_eq_nil_of_le (by omega)
    rw [e] at hB
    refine ⟨hB.nd, fun x => ⟨fun hx => (hB.an x hx).2, fun hx => ?_⟩⟩
    have closed : ∀ z, (z = id ∨ z ∈ out) → ∀ x ∈ O0 es z, found es x → x ∈ out := fun z hz => by
     rcases hB.cl z hz with h4 | ⟨j, h4, _⟩ | h4
     ·simp at h4
     ·cases h4
     ·exact h4
    induction hx with
    | one h4 h5 => exact closed id (.inl rfl) _ h4 h5
    | more _ h4 h5 ih2 => exact closed _ (.inr ih2) _ h4 h5
  ·obtain ⟨hB, h1, h2, h3, hu⟩ := hi
   simp only at ih ⊢
   have ab := hB.len
   have hpl := hp y
   have hpe : (H9 es y).1.2.2.2.2.2.2.2.1 = O0 es y := rfl
   simp only [Dv1, Ao5, hpe]
   refine Re.brd (fun g => ?_) (fun g => ?_)
   ·have hj : j < (O0 es y).length := by omega
    refine Re.gdd (by omega) (Re.gdd g ?_)
    simp only [Int.toNat_natCast]
    rw [C9 hj (by omega)]
    have step : ∀ out2 td2 u2, BInv es id out2 (td2.drop u2) (some (y, j + 1)) → (y = id ∨ y ∈ out2) → (td2.drop u2).length ≤ out2.length + 1 → u2 ≤ td2.length → (2 * (es.length - out2.length) + (td2.drop u2).length ≤ 2 * (es.length - out.length) + (td.drop u).length) →
      Re (fun x : Nat × Nat => V4 x.1 x.2 es u2 ((j + 1 : Nat) : Int) out2 td2 (H9 es y)) (AncL es id) := fun out2 td2 u2 b1 b2 b3 b5 b4 => by
     refine ih (.inr (u2, j + 1, out2, td2, y)) ⟨b1, b2, by omega, b3, b5⟩ ?_
     simp only
     omega
    have tk := Cc7 hj
    have same : (found es (rd 0 (O0 es y) j) → rd 0 (O0 es y) j ∈ out) → Re (fun x : Nat × Nat => V4 x.1 x.2 es u ((j + 1 : Nat) : Int) out td (H9 es y)) (AncL es id) := fun hin =>
     step out td u ⟨hB.nd, hB.an, hB.td, fun z hz => by
      rcases hB.cl z hz with h4 | ⟨j', h4, h5⟩ | h4
      ·exact .inl h4
      ·cases h4
       refine .inr (.inl ⟨j + 1, rfl, fun x hx hf => ?_⟩)
       rw [tk] at hx
       rcases List.mem_append.1 hx with hx | hx
       ·exact h5 x hx hf
       ·simp at hx; subst hx; exact hin hf
      ·exact .inr (.inr h4)⟩ h1 h3 hu (Nat.le_refl _)
    refine Re.c2 (g8 es (by omega) _) ?_
    cases hf : (H9 es (rd 0 (O0 es y) j)).2 with
    | false => exact Re.br (b := false) (fun h => by cases h) (fun _ => same fun h => by unfold found at h; rw [hf] at h; cases h)
    | true =>
     refine Re.br (b := true) (fun _ => ?_) (fun h => by cases h)
     refine Re.gdd (by omega) (Re.gdd g (Re.c2 (Ax5 out (by omega) _) ?_))
     refine Re.br (fun q => ?_) (fun q => same fun _ => by simpa using q)
     have hno : rd 0 (O0 es y) j ∉ out := by simpa using q
     have hanc : Anc es id (rd 0 (O0 es y) j) := by
      have hm : rd 0 (O0 es y) j ∈ O0 es y := by rw [E8 hj]; exact List.getElem_mem _
      rcases h1 with h1 | h1
      ·subst h1; exact .one hm hf
      ·exact .more (hB.an y h1).2 hm hf
     refine Re.gdd (by omega) (Re.gdd g (Re.gdd (by simp only [List.length_singleton]; unfold A3; omega) (Re.gdd (by omega) (Re.gdd g (Re.gdd (by simp only [List.length_singleton]; unfold A3; omega) ?_)))))
     have nB : BInv es id (out ++ [rd 0 (O0 es y) j]) ((td.drop u ++ [rd 0 (O0 es y) j]).drop 0) (some (y, j + 1)) := by
      refine ⟨List.nodup_append.2 ⟨hB.nd, by simp, fun a ha b hb => by simp at hb; subst hb; exact fun e => hno (e ▸ ha)⟩, fun x hx => ?_, fun z hz => ?_, fun z hz => ?_⟩
      ·rcases List.mem_append.1 hx with hx | hx
       ·exact hB.an x hx
       ·simp at hx; subst hx; exact ⟨hf, hanc⟩
      ·rw [List.drop_zero] at hz
       rcases List.mem_append.1 hz with hz | hz
       ·exact Or.imp_right (fun h => List.mem_append_left _ h) (hB.td z hz)
       ·exact .inr (List.mem_append_right _ hz)
      ·rw [List.drop_zero]
       by_cases hz2 : z = id ∨ z ∈ out
       ·rcases hB.cl z hz2 with h4 | ⟨j', h4, h5⟩ | h4
        ·exact .inl (List.mem_append_left _ h4)
        ·cases h4
         refine .inr (.inl ⟨j + 1, rfl, fun x hx hf2 => ?_⟩)
         rw [tk] at hx
         rcases List.mem_append.1 hx with hx | hx
         ·exact List.mem_append_left _ (h5 x hx hf2)
         ·exact List.mem_append_right _ hx
        ·exact .inr (.inr fun x hx hf2 => List.mem_append_left _ (h4 x hx hf2))
       ·rcases hz with hz | hz
        ·exact absurd (.inl hz) hz2
        ·rcases List.mem_append.1 hz with hz | hz
         ·exact absurd (.inr hz) hz2
         ·exact .inl (List.mem_append_right _ hz)
     have nl := nB.len
     refine step _ _ 0 nB (Or.imp_right (fun h => List.mem_append_left _ h) h1) ?_ (Nat.zero_le _) ?_
     ·simp only [List.drop_zero, List.length_append, List.length_singleton]; omega
     ·simp only [List.drop_zero, List.length_append, List.length_singleton] at nl ⊢; omega
   ·have ej : (O0 es y).take j = O0 es y := List.take_of_length_le (by omega)
    refine ih (.inl (u, out, td)) ⟨⟨hB.nd, hB.an, hB.td, fun z hz => ?_⟩, by simp at h3; omega, hu, h3⟩ (.inr ⟨rfl, by simp only; omega⟩)
    ·rcases hB.cl z hz with h4 | ⟨j', h4, h5⟩ | h4
     ·exact .inl h4
     ·cases h4
      rw [ej] at h5
      exact .inr (.inr h5)
     ·exact .inr (.inr h4)) (.inl (0, [], [id])) ⟨⟨by simp, fun x hx => by simp at hx, fun y hy => by simp at hy; exact .inl hy, fun z hz => .inl (by rcases hz with h | h; simp [h]; simp at h)⟩, by simp, by simp, by simp⟩
 exact this
end Go.Vm
end
section
namespace Go.Vm
open Go
theorem Anc.found {es : List A0} {id x : Int} (h : Anc es id x) : found es x := by cases h <;> assumption
theorem AncL.len {es : List A0} {id : Int} {r : List Int} (h : AncL es id r) : r.length ≤ es.length := by
 have := C15 r (es.map fun e => e.1) h.1 fun x hx => C96 ((h.2 x).1 hx).found
 simpa using this
def Ah5 (es : List A0) (a : List Int) (x : Int) : List Int := bif (H9 es x).2 then F76 a x else a
def Bf4 (es : List A0) (ids : List Int) : List Int := ids.foldl (Ah5 es) []
noncomputable def Dx1 (es : List A0) (L out : List Int) (x : Int) : Bool := @decide (∀ y, Anc es x y → y ∈ L → y ∈ out) (Classical.propDecidable _)
theorem Fi8 {es : List A0} {L out : List Int} {x : Int} {r : List Int} (h : AncL es x r) : ready r L out = Dx1 es L out x := by
 rw [Bool.eq_iff_iff]
 unfold ready Dx1
 rw [List.all_eq_true, @decide_eq_true_iff _ (Classical.propDecidable _)]
 constructor
 ·intro g y hy hl
  have := g y ((h.2 y).2 hy)
  simp [hl] at this
  exact this
 ·intro g y hy
  by_cases hl : y ∈ L
  ·simp [hl, g y ((h.2 y).1 hy) hl]
  ·simp [hl]
noncomputable def Dx2 (es : List A0) (L out : List Int) (x : Int) : Bool := !decide (x ∈ out) && Dx1 es L out x
noncomputable def p7 (es : List A0) (s : List A1) (L out : List Int) (b : Option A0) (x : Int) : Option A0 :=
 bif Dx2 es L out x then (match b with | none => some (H9 es x).1 | some b0 => bif C14 es s (H9 es x).1 b0 then some (H9 es x).1 else some b0) else b
noncomputable def pick (es : List A0) (s : List A1) (L out : List Int) : Option A0 := L.foldl (p7 es s L out) none
noncomputable def Ak0 (es : List A0) (s : List A1) (L : List Int) : Nat → List Int → List Int
 | 0, out => out
 | f + 1, out => match pick es s L out with
  | none => out
  | some b => Ak0 es s L f (out ++ [b.1])
noncomputable def Cc8 (es : List A0) (s : List A1) (ids : List Int) : List Int := Ak0 es s (Bf4 es ids) (Bf4 es ids).length []
theorem Eu8 (es : List A0) (s : List A1) (h : Eu3 es s) (h1 : es.length ≤ 100000) (L : List Int) (hL : L.length ≤ 100000) (as : List (List Int)) (ha : as.length = L.length) (hA : ∀ i, i < L.length → AncL es (rd 0 L i) (rd [] as i)) :
  Re (fun x : Nat × Nat => Av8 x.1 x.2 es s L as []) (fun r => r = Ak0 es s L L.length []) := by
 have := Re.wf (l := fun k n (st : List Int ⊕ (Nat × List Int) ⊕ (Nat × List Int × A0)) => match st with
   | .inl out => Av8 k n es s L as out
   | .inr (.inl (i, out)) => Av9 k n es s (i : Int) L as out
   | .inr (.inr (i, out, b)) => Aw0 k n es s (i : Int) L as out b.1 b.2.1 b.2.2.1 b.2.2.2.1 b.2.2.2.2.1 b.2.2.2.2.2.1 b.2.2.2.2.2.2.1 b.2.2.2.2.2.2.2.1 b.2.2.2.2.2.2.2.2.1)
  (I := fun st => match st with
   | .inl out => out.length ≤ L.length
   | .inr (.inl (i, out)) => out.length < L.length ∧ i ≤ L.length ∧ (L.take i).foldl (p7 es s L out) none = none
   | .inr (.inr (i, out, b)) => out.length < L.length ∧ i ≤ L.length ∧ (L.take i).foldl (p7 es s L out) none = some b)
  (fun st => match st with
   | .inl out => (L.length - out.length, L.length + 2)
   | .inr (.inl (i, out)) => (L.length - out.length, L.length - i + 1)
   | .inr (.inr (i, out, b)) => (L.length - out.length, L.length - i + 1))
  (Q := fun st r => match st with
   | .inl out => r = Ak0 es s L (L.length - out.length) out
   | .inr (.inl (i, out)) => r = Ak0 es s L (L.length - out.length) out
   | .inr (.inr (i, out, b)) => r = Ak0 es s L (L.length - out.length) out) (fun st hi ih => by
  rcases st with out | ⟨i, out⟩ | ⟨i, out, b⟩
  ·simp only at hi ih ⊢
   simp only [F67, Bz2]
   refine Re.brd (fun g => ?_) (fun g => Re.ret ?_)
   ·exact ih (.inr (.inl (0, out))) ⟨by omega, Nat.zero_le _, rfl⟩ (.inr ⟨rfl, by simp only; omega⟩)
   ·rw [show L.length - out.length = 0 by omega]; rfl
  ·obtain ⟨g1, g2, g3⟩ := hi
   simp only at ih ⊢
   simp only [F68, Bz3]
   refine Re.brd (fun g => ?_) (fun g => Re.ret ?_)
   ·have hl : i < L.length := by omega
    have hf := Ax6 (p7 es s L out) 0 L none hl
    rw [g3] at hf
    refine Re.gdd (by omega) (Re.gdd g ?_)
    simp only [Int.toNat_natCast]
    rw [C9 hl (by omega)]
    have same : Dx2 es L out (rd 0 L i) = false → Re (fun x : Nat × Nat => Av9 x.1 x.2 es s ((i + 1 : Nat) : Int) L as out) (fun r => r = Ak0 es s L (L.length - out.length) out) := fun q =>
     ih (.inr (.inl (i + 1, out))) ⟨g1, by omega, by rw [hf]; unfold p7; rw [q]; rfl⟩ (.inr ⟨rfl, by simp only; omega⟩)
    refine Re.c2 (Ax5 out (by omega) _) ?_
    refine Re.brd (fun q => same (by unfold Dx2; rw [decide_eq_true q]; rfl)) (fun q => ?_)
    have hc : Dx2 es L out (rd 0 L i) = Dx1 es L out (rd 0 L i) := by unfold Dx2; rw [decide_eq_false q]; rfl
    refine Re.gdd (by omega) (Re.gdd (by omega) ?_)
    have hal := (hA i hl).len
    refine Re.c2 (Co9 _ _ _ (by omega) (by omega) (by omega)) ?_
    rw [Fi8 (hA i hl), ← hc]
    refine Re.br (fun q2 => same (by simpa using q2)) (fun q2 => ?_)
    refine Re.gdd (by omega) (Re.gdd g (Re.c2 (g8 es h.1 _) ?_))
    exact ih (.inr (.inr (i + 1, out, (H9 es (rd 0 L i)).1))) ⟨g1, by omega, by rw [hf]; unfold p7; rw [show Dx2 es L out (rd 0 L i) = true by simpa using q2]; rfl⟩ (.inr ⟨rfl, by simp only; omega⟩)
   ·rw [List.take_of_length_le (by omega)] at g3
    obtain ⟨f, hf⟩ : ∃ f, L.length - out.length = f + 1 := ⟨L.length - out.length - 1, by omega⟩
    rw [hf]
    unfold Ak0 pick
    rw [g3]
  ·obtain ⟨g1, g2, g3⟩ := hi
   simp only at ih ⊢
   simp only [F69, Bz4]
   refine Re.brd (fun g => ?_) (fun g => ?_)
   ·have hl : i < L.length := by omega
    have hf := Ax6 (p7 es s L out) 0 L none hl
    rw [g3] at hf
    refine Re.gdd (by omega) (Re.gdd g ?_)
    simp only [Int.toNat_natCast]
    rw [C9 hl (by omega)]
    have next : ∀ b2, p7 es s L out (some b) (rd 0 L i) = some b2 → Re (fun x : Nat × Nat => Aw0 x.1 x.2 es s ((i + 1 : Nat) : Int) L as out b2.1 b2.2.1 b2.2.2.1 b2.2.2.2.1 b2.2.2.2.2.1 b2.2.2.2.2.2.1 b2.2.2.2.2.2.2.1 b2.2.2.2.2.2.2.2.1 b2.2.2.2.2.2.2.2.2.1) (fun r => r = Ak0 es s L (L.length - out.length) out) := fun b2 q =>
     ih (.inr (.inr (i + 1, out, b2))) ⟨g1, by omega, by rw [hf, q]⟩ (.inr ⟨rfl, by simp only; omega⟩)
    refine Re.c2 (Ax5 out (by omega) _) ?_
    refine Re.brd (fun q => next b (by unfold p7 Dx2; rw [decide_eq_true q]; rfl)) (fun q => ?_)
    have hc : Dx2 es L out (rd 0 L i) = Dx1 es L out (rd 0 L i) := by unfold Dx2; rw [decide_eq_false q]; rfl
    refine Re.gdd (by omega) (Re.gdd (by omega) ?_)
    have hal := (hA i hl).len
    refine Re.c2 (Co9 _ _ _ (by omega) (by omega) (by omega)) ?_
    rw [Fi8 (hA i hl), ← hc]
    refine Re.br (fun q2 => next b (by unfold p7; rw [show Dx2 es L out (rd 0 L i) = false by simpa using q2]; rfl)) (fun q2 => ?_)
    have q3 : Dx2 es L out (rd 0 L i) = true := by simpa using q2
    refine Re.gdd (by omega) (Re.gdd g (Re.c2 (g8 es h.1 _) (Re.c2 (Eu7 es s h _ _) ?_)))
    refine Re.br (fun q4 => next _ ?_) (fun q4 => next b ?_)
    ·unfold p7; rw [q3]; simp only [cond_true]
     have e : C14 es s (H9 es (rd 0 L i)).1 b = true := q4
     rw [e]; rfl
    ·unfold p7; rw [q3]; simp only [cond_true]
     have e : C14 es s (H9 es (rd 0 L i)).1 b = false := q4
     rw [e]; rfl
   ·rw [List.take_of_length_le (by omega)] at g3
    refine Re.gdd (by simp only [List.length_singleton]; unfold A3; omega) ?_
    have next := ih (.inl (out ++ [b.1])) (by simp; omega) (.inl (by simp; omega))
    refine next.mono fun r hr => ?_
    simp only at hr
    obtain ⟨f, hf⟩ : ∃ f, L.length - out.length = f + 1 := ⟨L.length - out.length - 1, by omega⟩
    rw [hr, hf]
    have e : L.length - (out ++ [b.1]).length = f := by simp; omega
    rw [e]
    conv => rhs; unfold Ak0 pick; rw [g3]) (.inl []) (Nat.zero_le _)
 simpa using this
theorem Cc9 (y : Int) : ∀ (xs : List Int) (d : Bool), xs.Nodup → (j7 y xs d).Nodup
 | [], d, _ => by cases d <;> simp [j7]
 | x :: xs, d, h => by
  have hx := List.nodup_cons.1 h
  have h1 := Cc9 y xs true hx.2
  have h2 := Cc9 y xs d hx.2
  unfold j7
  by_cases q : x ≥ y ∧ d = false
  ·rw [if_pos q]
   have hy : y ∉ j7 y xs true := fun hm => by rw [Bc6] at hm; simp at hm
   by_cases q2 : x = y
   ·rw [if_pos q2]; exact List.nodup_cons.2 ⟨hy, h1⟩
   ·rw [if_neg q2]
    refine List.nodup_cons.2 ⟨?_, List.nodup_cons.2 ⟨fun hm => ?_, h1⟩⟩
    ·intro hm
     rcases List.mem_cons.1 hm with e | e
     ·exact q2 e.symm
     ·exact hy e
    ·rw [Bc6] at hm; simp at hm; exact hx.1 hm.1
  ·rw [if_neg q]
   by_cases q2 : x = y
   ·rw [if_pos q2]; exact h2
   ·rw [if_neg q2]
    refine List.nodup_cons.2 ⟨fun hm => ?_, h2⟩
    rw [Bc6] at hm
    rcases hm with hm | hm
    ·exact hx.1 hm.1
    ·exact q2 hm.2
theorem F79 (es : List A0) (ids : List Int) : (Bf4 es ids).Nodup ∧ ∀ x, x ∈ Bf4 es ids ↔ x ∈ ids ∧ found es x := by
 have : ∀ (xs a : List Int), a.Nodup → (xs.foldl (Ah5 es) a).Nodup ∧ ∀ x, x ∈ xs.foldl (Ah5 es) a ↔ x ∈ a ∨ (x ∈ xs ∧ found es x) := by
  intro xs
  induction xs with
  | nil => intro a h; exact ⟨h, fun x => by simp⟩
  | cons y ys ih =>
   intro a h
   rw [List.foldl_cons]
   have h1 : (Ah5 es a y).Nodup := by
    unfold Ah5
    cases (H9 es y).2 with
    | false => exact h
    | true => exact Cc9 y a false h
   obtain ⟨g1, g2⟩ := ih _ h1
   refine ⟨g1, fun x => ?_⟩
   rw [g2]
   unfold Ah5 found
   cases hf : (H9 es y).2 with
   | false =>
    simp only [cond_false, List.mem_cons]
    constructor
    ·rintro (q | ⟨q, q2⟩)
     ·exact .inl q
     ·exact .inr ⟨.inr q, q2⟩
    ·rintro (q | ⟨q | q, q2⟩)
     ·exact .inl q
     ·subst q; rw [hf] at q2; cases q2
     ·exact .inr ⟨q, q2⟩
   | true =>
    simp only [cond_true, Fi2, List.mem_cons]
    constructor
    ·rintro ((q | q) | ⟨q, q2⟩)
     ·exact .inl q
     ·exact .inr ⟨.inl q, by rw [q]; exact hf⟩
     ·exact .inr ⟨.inr q, q2⟩
    ·rintro (q | ⟨q | q, q2⟩)
     ·exact .inl (.inl q)
     ·exact .inl (.inr q)
     ·exact .inr ⟨q, q2⟩
 obtain ⟨h1, h2⟩ := this ids [] (by simp)
 exact ⟨h1, fun x => by rw [Bf4, h2]; simp⟩
theorem Dx3 (es : List A0) (ids : List Int) : (Bf4 es ids).length ≤ es.length := by
 obtain ⟨h1, h2⟩ := F79 es ids
 have := C15 _ (es.map fun e => e.1) h1 fun x hx => C96 ((h2 x).1 hx).2
 simpa using this
theorem F80 (es : List A0) (s : List A1) (h : Eu3 es s) (h1 : es.length ≤ 100000) (hp : ∀ y, (O0 es y).length ≤ 1048576) (ids : List Int) (hi : ids.length ≤ 20000000) : Ev (fun k => Cz6 k es s ids) (Cc8 es s ids) := by
 refine Re.eq (Re.enter (f := fun k n => Ak9 k n es s ids 0 []) C6 ?_)
 have hLl : (Bf4 es ids).length ≤ 100000 := Nat.le_trans (Dx3 es ids) h1
 have two : Re (fun x : Nat × Nat => Aw1 x.1 x.2 es s 0 (Bf4 es ids) []) (fun r => r = Cc8 es s ids) := by
  have := Re.loop (ι := Nat) (l := fun k n (as : List (List Int)) => Aw1 k n es s (as.length : Int) (Bf4 es ids) as) (I := fun as => as.length ≤ (Bf4 es ids).length ∧ ∀ i, i < as.length → AncL es (rd 0 (Bf4 es ids) i) (rd [] as i)) (fun as => (Bf4 es ids).length - as.length) (Q := fun _ r => r = Cc8 es s ids) (fun as hi ih => by
   obtain ⟨g1, g2⟩ := hi
   simp only [Aw1, Ct9]
   refine Re.brd (fun g => ?_) (fun g => ?_)
   ·have hl : as.length < (Bf4 es ids).length := by omega
    refine Re.gdd (by omega) (Re.gdd g ?_)
    simp only [Int.toNat_natCast]
    rw [C9 hl (by omega)]
    refine Re.b2 (Dx0 es h1 hp _) fun r3 h3 => Re.gdd (by simp only [List.length_singleton]; unfold A3; omega) ?_
    have := ih (as ++ [r3]) ⟨by simp; omega, fun i hi => by
     by_cases q : i < as.length
     ·have e : rd [] (as ++ [r3]) i = rd [] as i := by simp [rd, List.getElem?_append_left q]
      rw [e]; exact g2 i q
     ·have e0 : i = as.length := by simp at hi; omega
      subst e0
      have e : rd [] (as ++ [r3]) as.length = r3 := by simp [rd]
      rw [e]; exact h3⟩ (by simp; omega)
    simpa using this
   ·exact Eu8 es s h h1 _ hLl as (by omega) fun i hi => g2 i (by omega)) [] ⟨Nat.zero_le _, fun i hi => by simp at hi⟩
  simpa using this
 have := Re.loop (ι := Nat) (l := fun k n (i : Nat) => Ak9 k n es s ids (i : Int) ((ids.take i).foldl (Ah5 es) [])) (I := fun i => i ≤ ids.length) (fun i => ids.length - i) (Q := fun _ r => r = Cc8 es s ids) (fun i hi2 ih => by
  simp only [Ak9, Cu0]
  refine Re.brd (fun g => ?_) (fun g => ?_)
  ·have hl : i < ids.length := by omega
   have next := ih (i + 1) (by omega) (by omega)
   rw [Ax6 (Ah5 es) 0 ids [] hl] at next
   have hlen2 : ((ids.take i).foldl (Ah5 es) []).length ≤ 1048576 := Nat.le_trans (Dx3 es (ids.take i)) (by omega)
   refine Re.gdd (by omega) (Re.gdd g ?_)
   simp only [Int.toNat_natCast]
   rw [C9 hl (by omega)]
   refine Re.c2 (g8 es h.1 _) ?_
   unfold Ah5 at next ⊢
   refine Re.br (fun q => ?_) (fun q => ?_)
   ·rw [q] at next
    exact Re.gdd (by omega) (Re.gdd g (Re.c2 (Dg2 _ hlen2 _) next))
   ·rw [q] at next; exact next
  ·rw [List.take_of_length_le (by omega)]
   exact two) 0 (Nat.zero_le _)
 exact this
end Go.Vm
end
