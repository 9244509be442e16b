/- What the functions compute. -/
import Derived.Test.YtcbpoomhabigeaaGreatDoorZj2
section
set_option linter.unusedVariables false
namespace Go.Vm
open Go
abbrev C7 : Type := ByteArray × ByteArray × Int × Unit
def B0 : C7 := (ByteArray.empty, ByteArray.empty, 0, ())
abbrev B4 : Type := List C7 × Unit
abbrev M7 : Type := ByteArray × Int × Bool × Unit
abbrev A9 : Type := Int × Int × ByteArray × Unit
def B2 : A9 := (0, 0, ByteArray.empty, ())
abbrev C4 : Type := Int × Int × List A9 × Unit
abbrev A0 : Type := Int × Int × Int × C4 × Unit
abbrev E8 : Type := Int × ByteArray × ByteArray × ByteArray × Unit
def Gg7 : E8 := (0, ByteArray.empty, ByteArray.empty, ByteArray.empty, ())
abbrev A4 : Type := List Int × Int × Int × Unit
abbrev C1 : Type := Int × Int × Int × Int × Int × List Int × ByteArray × List Int × Int × Unit
def As7 : C1 := (0, 0, 0, 0, 0, [], ByteArray.empty, [], 0, ())
abbrev H9 : Type := Int × Int × Int × C1 × Int × Int × Unit
abbrev C88 : Type := Int × Int × List Int × Unit
abbrev Bo8 : Type := Int × Int × Unit
abbrev n7 : Type := List C1 × List (List Bo8) × List Bool × Unit
abbrev Ap3 : Type := List A9 × n7 × List C88 × Unit
def Eg7 (k : Nat) (a0 : List Int) : Option Bool := (some (decide ((a0.length : Int) > 1048576)))
def E7 (k : Nat) (a0 : Int) (a1 : Int) (a2 : Int) : Option Bool := (br (decide (a0 ≥ a1)) (some (decide (a0 ≤ a2))) (some false))
def At7 (k : Nat) (a0 : Int) : Option Int := (br (decide (a0 < 10)) (some (IntKind.wrap .u8 (B8 (48 + a0)))) (some (IntKind.wrap .u8 (B8 ((B8 (97 + a0)) - 10)))))
noncomputable section
def Cd2 (k : Nat) (L0 : Int → Bool → ByteArray → Option ByteArray) (a0 : Int) (v1 : Bool) (v2 : ByteArray) : Option ByteArray := (br (a0 != 0) (ng (a0 == a0 && (10 : Int) == 0) (br (decide ((Int.tmod a0 10) < 0)) (bd (At7 k (B8 (0 - (Int.tmod a0 10)))) fun r1 => (gd (decide ((B3 [r1]).size + v2.size ≤ A2)) (ng (a0 == a0 && (10 : Int) == 0) (L0 (B8 (Int.tdiv a0 10)) v1 ((B3 [r1]) ++ v2))))) (bd (At7 k (Int.tmod a0 10)) fun r2 => (gd (decide ((B3 [r2]).size + v2.size ≤ A2)) (ng (a0 == a0 && (10 : Int) == 0) (L0 (B8 (Int.tdiv a0 10)) v1 ((B3 [r2]) ++ v2))))))) (br v1 (gd (decide ((⟨#[45]⟩ : ByteArray).size + v2.size ≤ A2)) (some ((⟨#[45]⟩ : ByteArray) ++ v2))) (some v2)))
def Az5 (k : Nat) : Nat → Int → Bool → ByteArray → Option ByteArray
 | 0, _, _, _ => none
 | n + 1, a0, v1, v2 => Cd2 k (Az5 k n) a0 v1 v2
def Cr0 (k : Nat) (L0 : Int → Bool → ByteArray → Option ByteArray) (a0 : Int) : Option ByteArray := (br (a0 == 0) (some (⟨#[48]⟩ : ByteArray)) (L0 a0 (decide (a0 < 0)) (⟨#[]⟩ : ByteArray)))
def A21 (k : Nat) (a0 : Int) : Option ByteArray := Cr0 k (Az5 k k) a0
end
def U8 (k : Nat) (a0 : Int) : Option ByteArray := (bd (E7 k a0 0 999) fun r1 => (br (!r1) (some (⟨#[]⟩ : ByteArray)) (bd (A21 k a0) fun r2 => (gd (decide ((⟨#[106]⟩ : ByteArray).size + r2.size ≤ A2)) (some ((⟨#[106]⟩ : ByteArray) ++ r2))))))
noncomputable section
def Bj7 (k : Nat) (L0 : ByteArray → Int → B4 → Option Int) (a1 : ByteArray) (v1 : Int) (a0 : B4) : Option Int := (br (decide (v1 < (a0.1.length : Int))) (gd (decide (0 ≤ v1)) (gd (decide (v1 < (a0.1.length : Int))) (br ((rd B0 a0.1 v1.toNat).1.toList == a1.toList) (some v1) (L0 a1 (B8 (v1 + 1)) a0)))) (some (-1)))
def Ag8 (k : Nat) : Nat → ByteArray → Int → B4 → Option Int
 | 0, _, _, _ => none
 | n + 1, a1, v1, a0 => Bj7 k (Ag8 k n) a1 v1 a0
def Du9 (k : Nat) (L0 : ByteArray → Int → B4 → Option Int) (a0 : B4) (a1 : ByteArray) : Option Int := (L0 a1 0 a0)
def Az6 (k : Nat) (a0 : B4) (a1 : ByteArray) : Option Int := Du9 k (Ag8 k k) a0 a1
end
def Be4 (k : Nat) (a0 : B4) (a1 : ByteArray) : Option (ByteArray × Bool) := (bd (Az6 k a0 a1) fun r1 => (br (decide (r1 < 0)) (some ((⟨#[]⟩ : ByteArray), false)) (gd (decide (0 ≤ r1)) (gd (decide (r1 < (a0.1.length : Int))) (some ((rd B0 a0.1 r1.toNat).2.1, true))))))
noncomputable section
def A84 (k : Nat) (L0 : Int → List Int → Option ByteArray) (a0 : Int) (xs1 : List Int) : Option ByteArray := (br (decide (a0 > 127)) (ng (a0 == a0 && (128 : Int) == 0) (gd (decide (xs1.length + [(IntKind.wrap .u8 (B8 ((Int.tmod a0 128) + 128)))].length ≤ A2)) (ng (a0 == a0 && (128 : Int) == 0) (L0 (B8 (Int.tdiv a0 128)) (xs1 ++ [(IntKind.wrap .u8 (B8 ((Int.tmod a0 128) + 128)))]))))) (gd (decide (xs1.length + [(IntKind.wrap .u8 a0)].length ≤ A2)) (some (B3 (xs1 ++ [(IntKind.wrap .u8 a0)])))))
def w8 (k : Nat) : Nat → Int → List Int → Option ByteArray
 | 0, _, _ => none
 | n + 1, a0, xs1 => A84 k (w8 k n) a0 xs1
def B91 (k : Nat) (L0 : Int → List Int → Option ByteArray) (a0 : Int) : Option ByteArray := (L0 a0 [])
def I9 (k : Nat) (a0 : Int) : Option ByteArray := B91 k (w8 k k) a0
end
def B28 (k : Nat) (a0 : Int) : Option ByteArray := (some (B3 [(IntKind.wrap .u8 (Int.fdiv a0 (2 ^ 24))), (IntKind.wrap .u8 (Int.fdiv a0 (2 ^ 16))), (IntKind.wrap .u8 (Int.fdiv a0 (2 ^ 8))), (IntKind.wrap .u8 a0)]))
noncomputable section
def Ak1 (k : Nat) (L1 : Int → ByteArray → Int → Int → Option Int) (a0 : Int) (a1 : ByteArray) (v1 : Int) : Option Int := (br (decide (v1 < (a1.size : Int))) (gd (decide (0 ≤ v1)) (gd (decide (v1 < (a1.size : Int))) (L1 (Fl6 .u32 a0 (IntKind.wrap .u32 (bt a1 v1.toNat))) a1 v1 0))) (some a0))
def Ak2 (k : Nat) (L1 : Int → ByteArray → Int → Int → Option Int) (L0 : Int → ByteArray → Int → Option Int) (v2 : Int) (a1 : ByteArray) (v1 : Int) (v3 : Int) : Option Int := (br (decide (v3 < 8)) (ng (v2 == v2 && (2 : Int) == 0) (ng (v2 == v2 && (2 : Int) == 0) (br ((Int.tmod v2 2) == 1) (L1 (Fl6 .u32 (IntKind.wrap .u32 (Int.tdiv v2 2)) 3558460437) a1 v1 (B8 (v3 + 1))) (L1 (IntKind.wrap .u32 (Int.tdiv v2 2)) a1 v1 (B8 (v3 + 1)))))) (L0 v2 a1 (B8 (v1 + 1))))
def R6 (k : Nat) : Nat → (Int → ByteArray → Int → Option Int) × (Int → ByteArray → Int → Int → Option Int)
 | 0 => (fun _ _ _ => none, fun _ _ _ _ => none)
 | n + 1 => (Ak1 k (R6 k n).2, Ak2 k (R6 k n).2 (R6 k n).1)
def j6 (k : Nat) (n : Nat) : Int → ByteArray → Int → Option Int := (R6 k n).1
def Ak3 (k : Nat) (n : Nat) : Int → ByteArray → Int → Int → Option Int := (R6 k n).2
theorem D09 (k : Nat) (n : Nat) (a0 : Int) (a1 : ByteArray) (v1 : Int) : j6 k (n + 1) a0 a1 v1 = Ak1 k (Ak3 k n) a0 a1 v1 := rfl
theorem D10 (k : Nat) (n : Nat) (v2 : Int) (a1 : ByteArray) (v1 : Int) (v3 : Int) : Ak3 k (n + 1) v2 a1 v1 v3 = Ak2 k (Ak3 k n) (j6 k n) v2 a1 v1 v3 := rfl
def Cr1 (k : Nat) (L0 : Int → ByteArray → Int → Option Int) (a0 : Int) (a1 : ByteArray) : Option Int := (L0 a0 a1 0)
def B29 (k : Nat) (a0 : Int) (a1 : ByteArray) : Option Int := Cr1 k (j6 k k) a0 a1
end
def Bj8 (k : Nat) (a0 : ByteArray) : Option Int := (bd (B29 k 4294967295 a0) fun r1 => (some r1))
def T2 (k : Nat) (a0 : ByteArray) : Option (ByteArray × Bool) := (bd (E7 k (a0.size : Int) 1 9000) fun r1 => (br (!r1) (some ((⟨#[]⟩ : ByteArray), false)) (bd (I9 k (a0.size : Int)) fun r2 => (bd (Bj8 k a0) fun r3 => (bd (B28 k r3) fun r4 => (gd (decide (r2.size + r4.size ≤ A2)) (gd (decide ((r2 ++ r4).size + a0.size ≤ A2)) (some (((r2 ++ r4) ++ a0), true)))))))))
noncomputable section
def Ak4 (k : Nat) (L0 : ByteArray → Int → Int → Int → Int → Option (Int × Int × Bool)) (a0 : ByteArray) (a1 : Int) (v1 : Int) (v2 : Int) (v3 : Int) : Option (Int × Int × Bool) := (br (decide (v3 < (a0.size : Int))) (br (decide (v3 < (B8 (a1 + 5)))) (gd (decide (0 ≤ v3)) (gd (decide (v3 < (a0.size : Int))) (ng ((B8 (bt a0 v3.toNat)) == (B8 (bt a0 v3.toNat)) && (128 : Int) == 0) (gd (decide (0 ≤ v3)) (gd (decide (v3 < (a0.size : Int))) (br (decide ((bt a0 v3.toNat) < 128)) (br (decide ((B8 (v1 + (B8 ((Int.tmod (B8 (bt a0 v3.toNat)) 128) * v2)))) > 1000000000)) (some (0, 0, false)) (bd (I9 k (B8 (v1 + (B8 ((Int.tmod (B8 (bt a0 v3.toNat)) 128) * v2))))) fun r2 => (gd (decide (0 ≤ (B8 (v3 + 1)))) (gd (decide ((B8 (v3 + 1)) ≤ (a0.size : Int))) (gd (decide (0 ≤ a1)) (gd (decide (a1 ≤ (B8 (v3 + 1)))) (br (!(r2.toList == (a0.extract a1.toNat (B8 (v3 + 1)).toNat).toList)) (some (0, 0, false)) (some ((B8 (v1 + (B8 ((Int.tmod (B8 (bt a0 v3.toNat)) 128) * v2)))), (B8 (v3 + 1)), true))))))))) (L0 a0 a1 (B8 (v1 + (B8 ((Int.tmod (B8 (bt a0 v3.toNat)) 128) * v2)))) (B8 (v2 * 128)) (B8 (v3 + 1))))))))) (some (0, 0, false))) (some (0, 0, false)))
def R7 (k : Nat) : Nat → ByteArray → Int → Int → Int → Int → Option (Int × Int × Bool)
 | 0, _, _, _, _, _ => none
 | n + 1, a0, a1, v1, v2, v3 => Ak4 k (R7 k n) a0 a1 v1 v2 v3
def Bt9 (k : Nat) (L0 : ByteArray → Int → Int → Int → Int → Option (Int × Int × Bool)) (a0 : ByteArray) (a1 : Int) : Option (Int × Int × Bool) := (bd (E7 k a1 0 (a0.size : Int)) fun r1 => (br (!r1) (some (0, 0, false)) (L0 a0 a1 0 1 a1)))
def p6 (k : Nat) (a0 : ByteArray) (a1 : Int) : Option (Int × Int × Bool) := Bt9 k (R7 k k) a0 a1
end
noncomputable section
def Bj9 (k : Nat) (L0 : ByteArray → Int → List ByteArray → Option (List ByteArray × Int)) (a0 : ByteArray) (v1 : Int) (xs2 : List ByteArray) : Option (List ByteArray × Int) := (br (decide (v1 < (a0.size : Int))) (bd (p6 k a0 v1) fun r1 => (br (!r1.2.2) (some (xs2, v1)) (br (decide (r1.1 > (B8 ((B8 ((a0.size : Int) - r1.2.1)) - 4)))) (some (xs2, v1)) (gd (decide (0 ≤ (B8 ((B8 (r1.2.1 + 4)) + r1.1)))) (gd (decide ((B8 ((B8 (r1.2.1 + 4)) + r1.1)) ≤ (a0.size : Int))) (gd (decide (0 ≤ (B8 (r1.2.1 + 4)))) (gd (decide ((B8 (r1.2.1 + 4)) ≤ (B8 ((B8 (r1.2.1 + 4)) + r1.1)))) (bd (T2 k (a0.extract (B8 (r1.2.1 + 4)).toNat (B8 ((B8 (r1.2.1 + 4)) + r1.1)).toNat)) fun r2 => (br (!r2.2) (some (xs2, v1)) (gd (decide (0 ≤ (B8 ((B8 (r1.2.1 + 4)) + r1.1)))) (gd (decide ((B8 ((B8 (r1.2.1 + 4)) + r1.1)) ≤ (a0.size : Int))) (gd (decide (0 ≤ v1)) (gd (decide (v1 ≤ (B8 ((B8 (r1.2.1 + 4)) + r1.1)))) (br (!(r2.1.toList == (a0.extract v1.toNat (B8 ((B8 (r1.2.1 + 4)) + r1.1)).toNat).toList)) (some (xs2, v1)) (gd (decide (xs2.length + [(a0.extract (B8 (r1.2.1 + 4)).toNat (B8 ((B8 (r1.2.1 + 4)) + r1.1)).toNat)].length ≤ A2)) (L0 a0 (B8 ((B8 (r1.2.1 + 4)) + r1.1)) (xs2 ++ [(a0.extract (B8 (r1.2.1 + 4)).toNat (B8 ((B8 (r1.2.1 + 4)) + r1.1)).toNat)]))))))))))))))))) (some (xs2, v1)))
def j7 (k : Nat) : Nat → ByteArray → Int → List ByteArray → Option (List ByteArray × Int)
 | 0, _, _, _ => none
 | n + 1, a0, v1, xs2 => Bj9 k (j7 k n) a0 v1 xs2
def Cr2 (k : Nat) (L0 : ByteArray → Int → List ByteArray → Option (List ByteArray × Int)) (a0 : ByteArray) : Option (List ByteArray × Int) := (br (decide ((a0.size : Int) > 20000)) (some ([], 0)) (L0 a0 0 []))
def Be5 (k : Nat) (a0 : ByteArray) : Option (List ByteArray × Int) := Cr2 k (j7 k k) a0
end
def At8 (k : Nat) (a0 : M7) : Option (Int × M7 × Unit) := (bd (p6 k a0.1 a0.2.1) fun r1 => (br a0.2.2.1 (some (0, (a0.1, a0.2.1, true, ()), ())) (br (!r1.2.2) (some (0, (a0.1, a0.2.1, true, ()), ())) (some (r1.1, (a0.1, r1.2.1, a0.2.2), ())))))
def Ab0 (k : Nat) (a0 : M7) (a1 : Int) : Option (ByteArray × M7 × Unit) := (br a0.2.2.1 (some ((⟨#[]⟩ : ByteArray), (a0.1, a0.2.1, true, ()), ())) (br (decide (a1 > (B8 ((a0.1.size : Int) - a0.2.1)))) (some ((⟨#[]⟩ : ByteArray), (a0.1, a0.2.1, true, ()), ())) (gd (decide (0 ≤ (B8 (a0.2.1 + a1)))) (gd (decide ((B8 (a0.2.1 + a1)) ≤ (a0.1.size : Int))) (gd (decide (0 ≤ (B8 ((B8 (a0.2.1 + a1)) - a1)))) (gd (decide ((B8 ((B8 (a0.2.1 + a1)) - a1)) ≤ (B8 (a0.2.1 + a1)))) (some ((a0.1.extract (B8 ((B8 (a0.2.1 + a1)) - a1)).toNat (B8 (a0.2.1 + a1)).toNat), (a0.1, (B8 (a0.2.1 + a1)), a0.2.2), ()))))))))
def At9 (k : Nat) (a0 : ByteArray) (a1 : ByteArray) : Option (Int × Int × Bool) := (bd (Ab0 k (a0, 0, false, ()) 1) fun r1 => (bd (At8 k r1.2.1) fun r2 => (bd (At8 k r2.2.1) fun r3 => (br r3.2.1.2.2.1 (some (0, 0, false)) (bd (I9 k r2.1) fun r4 => (gd (decide (a1.size + r4.size ≤ A2)) (bd (I9 k r3.1) fun r5 => (gd (decide ((a1 ++ r4).size + r5.size ≤ A2)) (br (!(((a1 ++ r4) ++ r5).toList == a0.toList)) (some (0, 0, false)) (some (r2.1, r3.1, true)))))))))))
noncomputable section
def Az7 (k : Nat) (L0 : List Int → Int → Int → Int → Option Bool) (a0 : List Int) (a1 : Int) (a2 : Int) (v1 : Int) : Option Bool := (br (decide (v1 < (a0.length : Int))) (gd (decide (0 ≤ v1)) (gd (decide (v1 < (a0.length : Int))) (bd (E7 k (rd 0 a0 v1.toNat) a1 a2) fun r1 => (br (!r1) (some false) (br (decide (v1 > 0)) (gd (decide (0 ≤ (B8 (v1 - 1)))) (gd (decide ((B8 (v1 - 1)) < (a0.length : Int))) (gd (decide (0 ≤ v1)) (gd (decide (v1 < (a0.length : Int))) (br (decide ((rd 0 a0 (B8 (v1 - 1)).toNat) ≥ (rd 0 a0 v1.toNat))) (some false) (L0 a0 a1 a2 (B8 (v1 + 1)))))))) (L0 a0 a1 a2 (B8 (v1 + 1)))))))) (some true))
def X6 (k : Nat) : Nat → List Int → Int → Int → Int → Option Bool
 | 0, _, _, _, _ => none
 | n + 1, a0, a1, a2, v1 => Az7 k (X6 k n) a0 a1 a2 v1
def Cr3 (k : Nat) (L0 : List Int → Int → Int → Int → Option Bool) (a0 : List Int) (a1 : Int) (a2 : Int) : Option Bool := (L0 a0 a1 a2 0)
def B30 (k : Nat) (a0 : List Int) (a1 : Int) (a2 : Int) : Option Bool := Cr3 k (X6 k k) a0 a1 a2
end
def Au0 (k : Nat) (a0 : List Int) : Option Bool := (bd (E7 k (a0.length : Int) 1 4) fun r1 => (br r1 (bd (B30 k a0 1 4) fun r2 => (some r2)) (some false)))
noncomputable section
def Ba3 (k : Nat) (L0 : ByteArray → Int → List Int → Option (List Int × Bool)) (a0 : ByteArray) (v1 : Int) (xs2 : List Int) : Option (List Int × Bool) := (br (decide (v1 < (a0.size : Int))) (br (decide (v1 ≤ 4)) (gd (decide (0 ≤ v1)) (gd (decide (v1 < (a0.size : Int))) (gd (decide (xs2.length + [(B8 (bt a0 v1.toNat))].length ≤ A2)) (L0 a0 (B8 (v1 + 1)) (xs2 ++ [(B8 (bt a0 v1.toNat))]))))) (br ((xs2.length : Int) != (a0.size : Int)) (some ([], false)) (bd (Au0 k xs2) fun r1 => (br (!r1) (some ([], false)) (some (xs2, true)))))) (br ((xs2.length : Int) != (a0.size : Int)) (some ([], false)) (bd (Au0 k xs2) fun r2 => (br (!r2) (some ([], false)) (some (xs2, true))))))
def Y1 (k : Nat) : Nat → ByteArray → Int → List Int → Option (List Int × Bool)
 | 0, _, _, _ => none
 | n + 1, a0, v1, xs2 => Ba3 k (Y1 k n) a0 v1 xs2
def Cd3 (k : Nat) (L0 : ByteArray → Int → List Int → Option (List Int × Bool)) (a0 : ByteArray) : Option (List Int × Bool) := (L0 a0 0 [])
def A40 (k : Nat) (a0 : ByteArray) : Option (List Int × Bool) := Cd3 k (Y1 k k) a0
end
def A22 (k : Nat) (a0 : A9) : Option Bool := (bd (E7 k a0.1 0 100000) fun r1 => (br (!r1) (some false) (br (a0.2.1 == 1) (some (a0.2.2.1.toList == (⟨#[]⟩ : ByteArray).toList)) (br (a0.2.1 == 2) (bd (A40 k a0.2.2.1) fun r2 => (some r2.2)) (br (a0.2.1 == 3) (some (decide ((a0.2.2.1.size : Int) ≤ 120))) (some false))))))
noncomputable section
def Bk0 (k : Nat) (L0 : Int → Int → C4 → Option Bool) (v1 : Int) (v2 : Int) (a0 : C4) : Option Bool := (br (decide (v2 < (a0.2.2.1.length : Int))) (gd (decide (0 ≤ v2)) (gd (decide (v2 < (a0.2.2.1.length : Int))) (bd (A22 k (rd B2 a0.2.2.1 v2.toNat)) fun r3 => (br (!r3) (some false) (gd (decide (0 ≤ v2)) (gd (decide (v2 < (a0.2.2.1.length : Int))) (br (decide ((rd B2 a0.2.2.1 v2.toNat).1 < v1)) (some false) (gd (decide (0 ≤ v2)) (gd (decide (v2 < (a0.2.2.1.length : Int))) (L0 (rd B2 a0.2.2.1 v2.toNat).1 (B8 (v2 + 1)) a0)))))))))) (some true))
def w9 (k : Nat) : Nat → Int → Int → C4 → Option Bool
 | 0, _, _, _ => none
 | n + 1, v1, v2, a0 => Bk0 k (w9 k n) v1 v2 a0
def Dv0 (k : Nat) (L0 : Int → Int → C4 → Option Bool) (a0 : C4) : Option Bool := (bd (E7 k a0.1 0 1000000) fun r1 => (br (!r1) (some false) (bd (E7 k a0.2.1 0 100000) fun r2 => (br (!r2) (some false) (br (decide ((a0.2.2.1.length : Int) > 60)) (some false) (br (decide ((B8 (a0.1 + (a0.2.2.1.length : Int))) > 1000000)) (some false) (L0 a0.2.1 0 a0)))))))
def Az8 (k : Nat) (a0 : C4) : Option Bool := Dv0 k (w9 k k) a0
end
def i8 (k : Nat) (a0 : Int) (a1 : A9) : Option (ByteArray × Bool) := (bd (A22 k a1) fun r1 => (br (!r1) (some ((⟨#[]⟩ : ByteArray), false)) (bd (E7 k a0 1 1000000) fun r2 => (br (!r2) (some ((⟨#[]⟩ : ByteArray), false)) (bd (I9 k a0) fun r3 => (gd (decide ((⟨#[69]⟩ : ByteArray).size + r3.size ≤ A2)) (bd (I9 k a1.1) fun r4 => (gd (decide (((⟨#[69]⟩ : ByteArray) ++ r3).size + r4.size ≤ A2)) (gd (decide ((((⟨#[69]⟩ : ByteArray) ++ r3) ++ r4).size + (B3 [(IntKind.wrap .u8 a1.2.1)]).size ≤ A2)) (gd (decide (((((⟨#[69]⟩ : ByteArray) ++ r3) ++ r4) ++ (B3 [(IntKind.wrap .u8 a1.2.1)])).size + a1.2.2.1.size ≤ A2)) (some ((((((⟨#[69]⟩ : ByteArray) ++ r3) ++ r4) ++ (B3 [(IntKind.wrap .u8 a1.2.1)])) ++ a1.2.2.1), true))))))))))))
def Au1 (k : Nat) (a0 : ByteArray) : Option (Int × A9 × Bool) := (bd (Ab0 k (a0, 0, false, ()) 1) fun r1 => (bd (At8 k r1.2.1) fun r2 => (bd (At8 k r2.2.1) fun r3 => (bd (Ab0 k r3.2.1 1) fun r4 => (br r4.2.1.2.2.1 (some (0, (0, 0, ByteArray.empty, ()), false)) (gd (decide (0 < (r4.1.size : Int))) (gd (decide (0 ≤ r4.2.1.2.1)) (gd (decide (r4.2.1.2.1 ≤ (a0.size : Int))) (bd (i8 k r2.1 (r3.1, (B8 (bt r4.1 0)), (a0.extract r4.2.1.2.1.toNat a0.size), ())) fun r5 => (br (!r5.2) (some (0, (0, 0, ByteArray.empty, ()), false)) (br (!(r5.1.toList == a0.toList)) (some (0, (0, 0, ByteArray.empty, ()), false)) (some (r2.1, (r3.1, (B8 (bt r4.1 0)), (a0.extract r4.2.1.2.1.toNat a0.size), ()), true)))))))))))))
def Ab1 (k : Nat) (a0 : C4) : Option Int := (some (B8 (a0.1 + (a0.2.2.1.length : Int))))
def Bu0 (k : Nat) (a0 : C4) (a1 : Int) (a2 : A9) : Option (C4 × Bool) := (bd (Az8 k a0) fun r1 => (br (!r1) (some ((0, 0, [], ()), false)) (bd (Ab1 k a0) fun r2 => (bd (E7 k a1 (B8 (a0.1 + 1)) (B8 (r2 + 1))) fun r3 => (br (!r3) (some ((0, 0, [], ()), false)) (gd (decide (0 ≤ (B8 ((B8 (a1 - a0.1)) - 1)))) (gd (decide ((B8 ((B8 (a1 - a0.1)) - 1)) ≤ (a0.2.2.1.length : Int))) (gd (decide (([] : List A9).length + (a0.2.2.1.take (B8 ((B8 (a1 - a0.1)) - 1)).toNat).length ≤ A2)) (gd (decide ((([] : List A9) ++ (a0.2.2.1.take (B8 ((B8 (a1 - a0.1)) - 1)).toNat)).length + ([a2] : List A9).length ≤ A2)) (bd (Az8 k (a0.1, a0.2.1, ((([] : List A9) ++ (a0.2.2.1.take (B8 ((B8 (a1 - a0.1)) - 1)).toNat)) ++ ([a2] : List A9)), ())) fun r4 => (br (!r4) (some ((0, 0, [], ()), false)) (some ((a0.1, a0.2.1, ((([] : List A9) ++ (a0.2.2.1.take (B8 ((B8 (a1 - a0.1)) - 1)).toNat)) ++ ([a2] : List A9)), ()), true)))))))))))))
def Ab2 (k : Nat) (a0 : A0) (a1 : ByteArray) : Option (Bool × A0 × Unit) := (bd (At9 k a1 (⟨#[72]⟩ : ByteArray)) fun r1 => (br r1.2.2 (bd (E7 k r1.1 0 100000) fun r2 => (br (!r2) (some (false, a0, ())) (bd (E7 k r1.2.1 0 4) fun r3 => (br (!r3) (some (false, a0, ())) (some (true, (a0.1, r1.1, r1.2.1, a0.2.2.2), ())))))) (bd (Au1 k a1) fun r4 => (br (!r4.2.2) (some (false, a0, ())) (bd (Bu0 k a0.2.2.2.1 r4.1 r4.2.1) fun r5 => (br r5.2 (some (r5.2, (a0.1, a0.2.1, a0.2.2.1, r5.1, ()), ())) (some (r5.2, a0, ()))))))))
noncomputable section
def Ap9 (k : Nat) (L1 : Int → Int → (List ByteArray × Int) → Int → Int → Int → Int → Int → List A9 → Option (A0 × Int × Bool)) (v3 : Int) (v4 : Int) (r1 : List ByteArray × Int) (v5 : Int) (v6 : Int) (v7 : Int) (v8 : Int) (v9 : Int) (v10 : List A9) : Option (A0 × Int × Bool) := (br (decide (v4 < (r1.1.length : Int))) (br (decide (v4 > 0)) (gd (decide (0 ≤ v4)) (gd (decide (v4 < (r1.1.length : Int))) (bd (Ab2 k (v5, v6, v7, (v8, v9, v10, ()), ()) (rd ByteArray.empty r1.1 v4.toNat)) fun r7 => (br (!r7.1) (some (r7.2.1, v3, true)) (gd (decide (0 ≤ v4)) (gd (decide (v4 < (r1.1.length : Int))) (bd (T2 k (rd ByteArray.empty r1.1 v4.toNat)) fun r8 => (L1 (B8 (v3 + (r8.1.size : Int))) (B8 (v4 + 1)) r1 r7.2.1.1 r7.2.1.2.1 r7.2.1.2.2.1 r7.2.1.2.2.2.1.1 r7.2.1.2.2.2.1.2.1 r7.2.1.2.2.2.1.2.2.1)))))))) (gd (decide (0 ≤ v4)) (gd (decide (v4 < (r1.1.length : Int))) (bd (T2 k (rd ByteArray.empty r1.1 v4.toNat)) fun r9 => (L1 (B8 (v3 + (r9.1.size : Int))) (B8 (v4 + 1)) r1 v5 v6 v7 v8 v9 v10))))) (some ((v5, v6, v7, (v8, v9, v10, ()), ()), v3, true)))
def Ab3 (k : Nat) (L1 : Int → Int → (List ByteArray × Int) → Int → Int → Int → Int → Int → List A9 → Option (A0 × Int × Bool)) (L0 : Int → Int → (List ByteArray × Int) → Int → (Int × Int × Bool) → Option (A0 × Int × Bool)) (v1 : Int) (v2 : Int) (r1 : List ByteArray × Int) (a0 : Int) (r3 : Int × Int × Bool) : Option (A0 × Int × Bool) := (br (decide (v2 < (r1.1.length : Int))) (br (decide (v2 > 0)) (gd (decide (0 ≤ v2)) (gd (decide (v2 < (r1.1.length : Int))) (bd (Ab2 k (a0, 0, 0, (r3.1, r3.2.1, [], ()), ()) (rd ByteArray.empty r1.1 v2.toNat)) fun r5 => (br (!r5.1) (some (r5.2.1, v1, true)) (gd (decide (0 ≤ v2)) (gd (decide (v2 < (r1.1.length : Int))) (bd (T2 k (rd ByteArray.empty r1.1 v2.toNat)) fun r6 => (L1 (B8 (v1 + (r6.1.size : Int))) (B8 (v2 + 1)) r1 r5.2.1.1 r5.2.1.2.1 r5.2.1.2.2.1 r5.2.1.2.2.2.1.1 r5.2.1.2.2.2.1.2.1 r5.2.1.2.2.2.1.2.2.1)))))))) (gd (decide (0 ≤ v2)) (gd (decide (v2 < (r1.1.length : Int))) (bd (T2 k (rd ByteArray.empty r1.1 v2.toNat)) fun r10 => (L0 (B8 (v1 + (r10.1.size : Int))) (B8 (v2 + 1)) r1 a0 r3))))) (some ((a0, 0, 0, (r3.1, r3.2.1, [], ()), ()), v1, true)))
def V5 (k : Nat) : Nat → Int → Int → (List ByteArray × Int) → Int → Int → Int → Int → Int → List A9 → Option (A0 × Int × Bool)
 | 0, _, _, _, _, _, _, _, _, _ => none
 | n + 1, v3, v4, r1, v5, v6, v7, v8, v9, v10 => Ap9 k (V5 k n) v3 v4 r1 v5 v6 v7 v8 v9 v10
def J6 (k : Nat) : Nat → Int → Int → (List ByteArray × Int) → Int → (Int × Int × Bool) → Option (A0 × Int × Bool)
 | 0, _, _, _, _, _ => none
 | n + 1, v1, v2, r1, a0, r3 => Ab3 k (V5 k n) (J6 k n) v1 v2 r1 a0 r3
def Bo9 (k : Nat) (L0 : Int → Int → (List ByteArray × Int) → Int → (Int × Int × Bool) → Option (A0 × Int × Bool)) (a0 : Int) (a1 : ByteArray) : Option (A0 × Int × Bool) := (bd (Be5 k a1) fun r1 => (bd (E7 k a0 0 999) fun r2 => (br (!r2) (some ((0, 0, 0, (0, 0, [], ()), ()), 0, false)) (br ((r1.1.length : Int) == 0) (some ((0, 0, 0, (0, 0, [], ()), ()), 0, false)) (gd (decide (0 < (r1.1.length : Int))) (bd (At9 k (rd ByteArray.empty r1.1 0) (⟨#[66]⟩ : ByteArray)) fun r3 => (br (!r3.2.2) (some ((0, 0, 0, (0, 0, [], ()), ()), 0, false)) (bd (Az8 k (r3.1, r3.2.1, [], ())) fun r4 => (br (!r4) (some ((0, 0, 0, (0, 0, [], ()), ()), 0, false)) (L0 0 0 r1 a0 r3))))))))))
def p7 (k : Nat) (a0 : Int) (a1 : ByteArray) : Option (A0 × Int × Bool) := Bo9 k (J6 k k) a0 a1
end
def T3 (k : Nat) (a0 : ByteArray) : Option Bool := (bd (E7 k (a0.size : Int) 1 8) fun r1 => (some r1))
noncomputable section
def A85 (k : Nat) (L0 : Int → B4 → Option Bool) (v1 : Int) (a0 : B4) : Option Bool := (br (decide (v1 < (a0.1.length : Int))) (gd (decide (0 ≤ v1)) (gd (decide (v1 < (a0.1.length : Int))) (bd (T3 k (rd B0 a0.1 v1.toNat).1) fun r1 => (br (!r1) (some false) (br (decide ((((rd B0 a0.1 v1.toNat).2.1.size : Nat) : Int) > 20000)) (some false) (bd (E7 k (rd B0 a0.1 v1.toNat).2.2.1 0 (((rd B0 a0.1 v1.toNat).2.1.size : Nat) : Int)) fun r2 => (br (!r2) (some false) (br (decide (v1 > 0)) (gd (decide (0 ≤ (B8 (v1 - 1)))) (gd (decide ((B8 (v1 - 1)) < (a0.1.length : Int))) (br (!Op.bytesLess (rd B0 a0.1 (B8 (v1 - 1)).toNat).1.toList (rd B0 a0.1 v1.toNat).1.toList) (some false) (L0 (B8 (v1 + 1)) a0)))) (L0 (B8 (v1 + 1)) a0))))))))) (some true))
def j0 (k : Nat) : Nat → Int → B4 → Option Bool
 | 0, _, _ => none
 | n + 1, v1, a0 => A85 k (j0 k n) v1 a0
def C89 (k : Nat) (L0 : Int → B4 → Option Bool) (a0 : B4) : Option Bool := (br (decide ((a0.1.length : Int) > 30)) (some false) (L0 0 a0))
def F9 (k : Nat) (a0 : B4) : Option Bool := C89 k (j0 k k) a0
end
def x9 (k : Nat) (a0 : A0) : Option Bool := (bd (E7 k a0.1 0 999) fun r1 => (br r1 (bd (E7 k a0.2.1 0 100000) fun r2 => (br r2 (bd (E7 k a0.2.2.1 0 4) fun r3 => (br r3 (bd (Az8 k a0.2.2.2.1) fun r4 => (some r4)) (some false))) (some false))) (some false)))
noncomputable section
def Az9 (k : Nat) (L0 : Int → C4 → C4 → Option Bool) (v1 : Int) (a0 : C4) (a1 : C4) : Option Bool := (br (decide (v1 < (a0.2.2.1.length : Int))) (gd (decide (0 ≤ v1)) (gd (decide (v1 < (a0.2.2.1.length : Int))) (gd (decide (0 ≤ v1)) (gd (decide (v1 < (a1.2.2.1.length : Int))) (br (!((rd B2 a0.2.2.1 v1.toNat).1 == (rd B2 a1.2.2.1 v1.toNat).1 && ((rd B2 a0.2.2.1 v1.toNat).2.1 == (rd B2 a1.2.2.1 v1.toNat).2.1 && ((rd B2 a0.2.2.1 v1.toNat).2.2.1.toList == (rd B2 a1.2.2.1 v1.toNat).2.2.1.toList && true)))) (some false) (L0 (B8 (v1 + 1)) a0 a1)))))) (some true))
def j8 (k : Nat) : Nat → Int → C4 → C4 → Option Bool
 | 0, _, _, _ => none
 | n + 1, v1, a0, a1 => Az9 k (j8 k n) v1 a0 a1
def Cr4 (k : Nat) (L0 : Int → C4 → C4 → Option Bool) (a0 : C4) (a1 : C4) : Option Bool := (br (a0.1 != a1.1) (some false) (br (a0.2.1 != a1.2.1) (some false) (br ((a0.2.2.1.length : Int) != (a1.2.2.1.length : Int)) (some false) (L0 0 a0 a1))))
def Be6 (k : Nat) (a0 : C4) (a1 : C4) : Option Bool := Cr4 k (j8 k k) a0 a1
end
def A23 (k : Nat) (a0 : A0) (a1 : A0) : Option Bool := (br (a0.1 == a1.1) (br (a0.2.1 == a1.2.1) (br (a0.2.2.1 == a1.2.2.1) (bd (Be6 k a0.2.2.2.1 a1.2.2.2.1) fun r1 => (some r1)) (some false)) (some false)) (some false))
def Ai1 (k : Nat) (a0 : A0) : Option A0 := (gd (decide (([] : List A9).length + a0.2.2.2.1.2.2.1.length ≤ A2)) (some (a0.1, a0.2.1, a0.2.2.1, (a0.2.2.2.1.1, a0.2.2.2.1.2.1, (([] : List A9) ++ a0.2.2.2.1.2.2.1), ()), ())))
def L9 (k : Nat) (a0 : Int) (a1 : Int) : Option ByteArray := (bd (I9 k a0) fun r1 => (gd (decide ((⟨#[72]⟩ : ByteArray).size + r1.size ≤ A2)) (bd (I9 k a1) fun r2 => (gd (decide (((⟨#[72]⟩ : ByteArray) ++ r1).size + r2.size ≤ A2)) (bd (T2 k (((⟨#[72]⟩ : ByteArray) ++ r1) ++ r2)) fun r3 => (some r3.1))))))
noncomputable section
def Ak5 (k : Nat) (L0 : Int → C4 → List Int → Option ByteArray) (a1 : Int) (a0 : C4) (xs1 : List Int) : Option ByteArray := (br (decide (a1 < (a0.2.2.1.length : Int))) (gd (decide (0 ≤ a1)) (gd (decide (a1 < (a0.2.2.1.length : Int))) (bd (i8 k (B8 ((B8 (a0.1 + 1)) + a1)) (rd B2 a0.2.2.1 a1.toNat)) fun r1 => (bd (T2 k r1.1) fun r2 => (gd (decide (xs1.length + (D5 r2.1).length ≤ A2)) (L0 (B8 (a1 + 1)) a0 (xs1 ++ (D5 r2.1)))))))) (some (B3 xs1)))
def V9 (k : Nat) : Nat → Int → C4 → List Int → Option ByteArray
 | 0, _, _, _ => none
 | n + 1, a1, a0, xs1 => Ak5 k (V9 k n) a1 a0 xs1
def B62 (k : Nat) (L0 : Int → C4 → List Int → Option ByteArray) (a0 : C4) (a1 : Int) : Option ByteArray := (L0 a1 a0 [])
def F6 (k : Nat) (a0 : C4) (a1 : Int) : Option ByteArray := B62 k (V9 k k) a0 a1
end
def p8 (k : Nat) (a0 : A0) : Option (ByteArray × Bool) := (bd (x9 k a0) fun r1 => (br (!r1) (some ((⟨#[]⟩ : ByteArray), false)) (bd (I9 k a0.2.2.2.1.1) fun r2 => (gd (decide ((⟨#[66]⟩ : ByteArray).size + r2.size ≤ A2)) (bd (I9 k a0.2.2.2.1.2.1) fun r3 => (gd (decide (((⟨#[66]⟩ : ByteArray) ++ r2).size + r3.size ≤ A2)) (bd (T2 k (((⟨#[66]⟩ : ByteArray) ++ r2) ++ r3)) fun r4 => (bd (L9 k a0.2.1 a0.2.2.1) fun r5 => (gd (decide (r4.1.size + r5.size ≤ A2)) (bd (F6 k a0.2.2.2.1 0) fun r6 => (gd (decide ((r4.1 ++ r5).size + r6.size ≤ A2)) (br (decide (((((r4.1 ++ r5) ++ r6).size : Nat) : Int) > 20000)) (some ((⟨#[]⟩ : ByteArray), false)) (some (((r4.1 ++ r5) ++ r6), true))))))))))))))
def H4 (k : Nat) (a0 : A0) (a1 : A0) : Option (List E8 × A0 × Bool) := (bd (p8 k ((B8 (a0.1 + 1)), a1.2)) fun r1 => (br (!r1.2) (some (([] : List E8), (0, 0, 0, (0, 0, [], ()), ()), false)) (bd (U8 k (B8 (a0.1 + 1))) fun r2 => (bd (U8 k a0.1) fun r3 => (bd (Ai1 k ((B8 (a0.1 + 1)), a1.2)) fun r4 => (some (([(1, (⟨#[106, 43]⟩ : ByteArray), r1.1, ByteArray.empty, ()), (2, (⟨#[106, 43]⟩ : ByteArray), ByteArray.empty, ByteArray.empty, ()), (3, (⟨#[106, 43]⟩ : ByteArray), ByteArray.empty, r2, ()), (4, r3, ByteArray.empty, ByteArray.empty, ())] : List E8), r4, true)))))))
noncomputable section
def Aq0 (k : Nat) (L0 : ByteArray → (ByteArray × Bool) → Int → A0 → A0 → A0 → Option (List E8 × A0 × Bool)) (r1 : ByteArray) (r2 : ByteArray × Bool) (v1 : Int) (a1 : A0) (a2 : A0) (r10 : A0) : Option (List E8 × A0 × Bool) := (br (decide (v1 < (a1.2.2.2.1.2.2.1.length : Int))) (br (decide (v1 < (a2.2.2.2.1.2.2.1.length : Int))) (gd (decide (0 ≤ v1)) (gd (decide (v1 < (a1.2.2.2.1.2.2.1.length : Int))) (gd (decide (0 ≤ v1)) (gd (decide (v1 < (a2.2.2.2.1.2.2.1.length : Int))) (br ((rd B2 a1.2.2.2.1.2.2.1 v1.toNat).1 == (rd B2 a2.2.2.2.1.2.2.1 v1.toNat).1 && ((rd B2 a1.2.2.2.1.2.2.1 v1.toNat).2.1 == (rd B2 a2.2.2.2.1.2.2.1 v1.toNat).2.1 && ((rd B2 a1.2.2.2.1.2.2.1 v1.toNat).2.2.1.toList == (rd B2 a2.2.2.2.1.2.2.1 v1.toNat).2.2.1.toList && true))) (L0 r1 r2 (B8 (v1 + 1)) a1 a2 r10) (br (v1 == (a2.2.2.2.1.2.2.1.length : Int)) (br (a1.2.2.2.1.1 != a2.2.2.2.1.1) (bd (H4 k a1 a2) fun r12 => (some (r12.1, r12.2.1, r12.2.2))) (br (a1.2.2.2.1.2.1 != a2.2.2.2.1.2.1) (bd (H4 k a1 a2) fun r13 => (some (r13.1, r13.2.1, r13.2.2))) (br (decide (v1 < (a1.2.2.2.1.2.2.1.length : Int))) (bd (H4 k a1 a2) fun r14 => (some (r14.1, r14.2.1, r14.2.2))) (br (decide ((r2.1.size : Int) > 400)) (bd (H4 k a1 a2) fun r15 => (some (r15.1, r15.2.1, r15.2.2))) (br (a1.2.1 != a2.2.1) (bd (L9 k a2.2.1 a2.2.2.1) fun r16 => (bd (F6 k a2.2.2.2.1 v1) fun r17 => (gd (decide (r16.size + r17.size ≤ A2)) (some (([(1, r1, (r16 ++ r17), ByteArray.empty, ()), (2, r1, ByteArray.empty, ByteArray.empty, ())] : List E8), r10, true))))) (br (a1.2.2.1 != a2.2.2.1) (bd (L9 k a2.2.1 a2.2.2.1) fun r18 => (bd (F6 k a2.2.2.2.1 v1) fun r19 => (gd (decide (r18.size + r19.size ≤ A2)) (some (([(1, r1, (r18 ++ r19), ByteArray.empty, ()), (2, r1, ByteArray.empty, ByteArray.empty, ())] : List E8), r10, true))))) (bd (F6 k a2.2.2.2.1 v1) fun r20 => (gd (decide ((⟨#[]⟩ : ByteArray).size + r20.size ≤ A2)) (some (([(1, r1, ((⟨#[]⟩ : ByteArray) ++ r20), ByteArray.empty, ()), (2, r1, ByteArray.empty, ByteArray.empty, ())] : List E8), r10, true)))))))))) (br (a1.2.2.2.1.1 != a2.2.2.2.1.1) (bd (H4 k a1 a2) fun r21 => (some (r21.1, r21.2.1, r21.2.2))) (br (a1.2.2.2.1.2.1 != a2.2.2.2.1.2.1) (bd (H4 k a1 a2) fun r22 => (some (r22.1, r22.2.1, r22.2.2))) (br (decide ((r2.1.size : Int) > 400)) (bd (H4 k a1 a2) fun r23 => (some (r23.1, r23.2.1, r23.2.2))) (br (a1.2.1 != a2.2.1) (bd (L9 k a2.2.1 a2.2.2.1) fun r24 => (bd (F6 k a2.2.2.2.1 v1) fun r25 => (gd (decide (r24.size + r25.size ≤ A2)) (some (([(1, r1, (r24 ++ r25), ByteArray.empty, ()), (2, r1, ByteArray.empty, ByteArray.empty, ())] : List E8), r10, true))))) (br (a1.2.2.1 != a2.2.2.1) (bd (L9 k a2.2.1 a2.2.2.1) fun r26 => (bd (F6 k a2.2.2.2.1 v1) fun r27 => (gd (decide (r26.size + r27.size ≤ A2)) (some (([(1, r1, (r26 ++ r27), ByteArray.empty, ()), (2, r1, ByteArray.empty, ByteArray.empty, ())] : List E8), r10, true))))) (bd (F6 k a2.2.2.2.1 v1) fun r28 => (gd (decide ((⟨#[]⟩ : ByteArray).size + r28.size ≤ A2)) (some (([(1, r1, ((⟨#[]⟩ : ByteArray) ++ r28), ByteArray.empty, ()), (2, r1, ByteArray.empty, ByteArray.empty, ())] : List E8), r10, true))))))))))))))) (br (v1 == (a2.2.2.2.1.2.2.1.length : Int)) (br (a1.2.2.2.1.1 != a2.2.2.2.1.1) (bd (H4 k a1 a2) fun r29 => (some (r29.1, r29.2.1, r29.2.2))) (br (a1.2.2.2.1.2.1 != a2.2.2.2.1.2.1) (bd (H4 k a1 a2) fun r30 => (some (r30.1, r30.2.1, r30.2.2))) (br (decide (v1 < (a1.2.2.2.1.2.2.1.length : Int))) (bd (H4 k a1 a2) fun r31 => (some (r31.1, r31.2.1, r31.2.2))) (br (decide ((r2.1.size : Int) > 400)) (bd (H4 k a1 a2) fun r32 => (some (r32.1, r32.2.1, r32.2.2))) (br (a1.2.1 != a2.2.1) (bd (L9 k a2.2.1 a2.2.2.1) fun r33 => (bd (F6 k a2.2.2.2.1 v1) fun r34 => (gd (decide (r33.size + r34.size ≤ A2)) (some (([(1, r1, (r33 ++ r34), ByteArray.empty, ()), (2, r1, ByteArray.empty, ByteArray.empty, ())] : List E8), r10, true))))) (br (a1.2.2.1 != a2.2.2.1) (bd (L9 k a2.2.1 a2.2.2.1) fun r35 => (bd (F6 k a2.2.2.2.1 v1) fun r36 => (gd (decide (r35.size + r36.size ≤ A2)) (some (([(1, r1, (r35 ++ r36), ByteArray.empty, ()), (2, r1, ByteArray.empty, ByteArray.empty, ())] : List E8), r10, true))))) (bd (F6 k a2.2.2.2.1 v1) fun r37 => (gd (decide ((⟨#[]⟩ : ByteArray).size + r37.size ≤ A2)) (some (([(1, r1, ((⟨#[]⟩ : ByteArray) ++ r37), ByteArray.empty, ()), (2, r1, ByteArray.empty, ByteArray.empty, ())] : List E8), r10, true)))))))))) (br (a1.2.2.2.1.1 != a2.2.2.2.1.1) (bd (H4 k a1 a2) fun r38 => (some (r38.1, r38.2.1, r38.2.2))) (br (a1.2.2.2.1.2.1 != a2.2.2.2.1.2.1) (bd (H4 k a1 a2) fun r39 => (some (r39.1, r39.2.1, r39.2.2))) (br (decide ((r2.1.size : Int) > 400)) (bd (H4 k a1 a2) fun r40 => (some (r40.1, r40.2.1, r40.2.2))) (br (a1.2.1 != a2.2.1) (bd (L9 k a2.2.1 a2.2.2.1) fun r41 => (bd (F6 k a2.2.2.2.1 v1) fun r42 => (gd (decide (r41.size + r42.size ≤ A2)) (some (([(1, r1, (r41 ++ r42), ByteArray.empty, ()), (2, r1, ByteArray.empty, ByteArray.empty, ())] : List E8), r10, true))))) (br (a1.2.2.1 != a2.2.2.1) (bd (L9 k a2.2.1 a2.2.2.1) fun r43 => (bd (F6 k a2.2.2.2.1 v1) fun r44 => (gd (decide (r43.size + r44.size ≤ A2)) (some (([(1, r1, (r43 ++ r44), ByteArray.empty, ()), (2, r1, ByteArray.empty, ByteArray.empty, ())] : List E8), r10, true))))) (bd (F6 k a2.2.2.2.1 v1) fun r45 => (gd (decide ((⟨#[]⟩ : ByteArray).size + r45.size ≤ A2)) (some (([(1, r1, ((⟨#[]⟩ : ByteArray) ++ r45), ByteArray.empty, ()), (2, r1, ByteArray.empty, ByteArray.empty, ())] : List E8), r10, true))))))))))) (br (v1 == (a2.2.2.2.1.2.2.1.length : Int)) (br (a1.2.2.2.1.1 != a2.2.2.2.1.1) (bd (H4 k a1 a2) fun r46 => (some (r46.1, r46.2.1, r46.2.2))) (br (a1.2.2.2.1.2.1 != a2.2.2.2.1.2.1) (bd (H4 k a1 a2) fun r47 => (some (r47.1, r47.2.1, r47.2.2))) (br (decide (v1 < (a1.2.2.2.1.2.2.1.length : Int))) (bd (H4 k a1 a2) fun r48 => (some (r48.1, r48.2.1, r48.2.2))) (br (decide ((r2.1.size : Int) > 400)) (bd (H4 k a1 a2) fun r49 => (some (r49.1, r49.2.1, r49.2.2))) (br (a1.2.1 != a2.2.1) (bd (L9 k a2.2.1 a2.2.2.1) fun r50 => (bd (F6 k a2.2.2.2.1 v1) fun r51 => (gd (decide (r50.size + r51.size ≤ A2)) (some (([(1, r1, (r50 ++ r51), ByteArray.empty, ()), (2, r1, ByteArray.empty, ByteArray.empty, ())] : List E8), r10, true))))) (br (a1.2.2.1 != a2.2.2.1) (bd (L9 k a2.2.1 a2.2.2.1) fun r52 => (bd (F6 k a2.2.2.2.1 v1) fun r53 => (gd (decide (r52.size + r53.size ≤ A2)) (some (([(1, r1, (r52 ++ r53), ByteArray.empty, ()), (2, r1, ByteArray.empty, ByteArray.empty, ())] : List E8), r10, true))))) (bd (F6 k a2.2.2.2.1 v1) fun r54 => (gd (decide ((⟨#[]⟩ : ByteArray).size + r54.size ≤ A2)) (some (([(1, r1, ((⟨#[]⟩ : ByteArray) ++ r54), ByteArray.empty, ()), (2, r1, ByteArray.empty, ByteArray.empty, ())] : List E8), r10, true)))))))))) (br (a1.2.2.2.1.1 != a2.2.2.2.1.1) (bd (H4 k a1 a2) fun r55 => (some (r55.1, r55.2.1, r55.2.2))) (br (a1.2.2.2.1.2.1 != a2.2.2.2.1.2.1) (bd (H4 k a1 a2) fun r56 => (some (r56.1, r56.2.1, r56.2.2))) (br (decide ((r2.1.size : Int) > 400)) (bd (H4 k a1 a2) fun r57 => (some (r57.1, r57.2.1, r57.2.2))) (br (a1.2.1 != a2.2.1) (bd (L9 k a2.2.1 a2.2.2.1) fun r58 => (bd (F6 k a2.2.2.2.1 v1) fun r59 => (gd (decide (r58.size + r59.size ≤ A2)) (some (([(1, r1, (r58 ++ r59), ByteArray.empty, ()), (2, r1, ByteArray.empty, ByteArray.empty, ())] : List E8), r10, true))))) (br (a1.2.2.1 != a2.2.2.1) (bd (L9 k a2.2.1 a2.2.2.1) fun r60 => (bd (F6 k a2.2.2.2.1 v1) fun r61 => (gd (decide (r60.size + r61.size ≤ A2)) (some (([(1, r1, (r60 ++ r61), ByteArray.empty, ()), (2, r1, ByteArray.empty, ByteArray.empty, ())] : List E8), r10, true))))) (bd (F6 k a2.2.2.2.1 v1) fun r62 => (gd (decide ((⟨#[]⟩ : ByteArray).size + r62.size ≤ A2)) (some (([(1, r1, ((⟨#[]⟩ : ByteArray) ++ r62), ByteArray.empty, ()), (2, r1, ByteArray.empty, ByteArray.empty, ())] : List E8), r10, true)))))))))))
def Q1 (k : Nat) : Nat → ByteArray → (ByteArray × Bool) → Int → A0 → A0 → A0 → Option (List E8 × A0 × Bool)
 | 0, _, _, _, _, _, _ => none
 | n + 1, r1, r2, v1, a1, a2, r10 => Aq0 k (Q1 k n) r1 r2 v1 a1 a2 r10
def Ax0 (k : Nat) (L0 : ByteArray → (ByteArray × Bool) → Int → A0 → A0 → A0 → Option (List E8 × A0 × Bool)) (a0 : B4) (a1 : A0) (a2 : A0) : Option (List E8 × A0 × Bool) := (bd (U8 k a1.1) fun r1 => (bd (Be4 k a0 r1) fun r2 => (bd (p7 k a1.1 r2.1) fun r3 => (bd (Be4 k a0 (⟨#[106, 43]⟩ : ByteArray)) fun r4 => (bd (F9 k a0) fun r5 => (br (!r5) (some (([] : List E8), (0, 0, 0, (0, 0, [], ()), ()), false)) (bd (x9 k a1) fun r6 => (br (!r6) (some (([] : List E8), (0, 0, 0, (0, 0, [], ()), ()), false)) (bd (x9 k (0, a2.2)) fun r7 => (br (!r7) (some (([] : List E8), (0, 0, 0, (0, 0, [], ()), ()), false)) (bd (E7 k a2.1 0 999) fun r8 => (br (!r8) (some (([] : List E8), (0, 0, 0, (0, 0, [], ()), ()), false)) (br (!r2.2) (some (([] : List E8), (0, 0, 0, (0, 0, [], ()), ()), false)) (br (!r3.2.2) (some (([] : List E8), (0, 0, 0, (0, 0, [], ()), ()), false)) (br (r3.2.1 != (r2.1.size : Int)) (some (([] : List E8), (0, 0, 0, (0, 0, [], ()), ()), false)) (bd (A23 k r3.1 a1) fun r9 => (br (!r9) (some (([] : List E8), (0, 0, 0, (0, 0, [], ()), ()), false)) (br r4.2 (some (([] : List E8), (0, 0, 0, (0, 0, [], ()), ()), false)) (bd (Ai1 k (a1.1, a2.2)) fun r10 => (bd (A23 k a1 r10) fun r11 => (br r11 (some (([] : List E8), r10, true)) (L0 r1 r2 0 a1 a2 r10))))))))))))))))))))))
def U9 (k : Nat) (a0 : B4) (a1 : A0) (a2 : A0) : Option (List E8 × A0 × Bool) := Ax0 k (Q1 k k) a0 a1 a2
end
noncomputable section
def A86 (k : Nat) (L1 : Int → B4 → C7 → List C7 → Option B4) (v3 : Int) (a0 : B4) (a1 : C7) (xs4 : List C7) : Option B4 := (br (decide (v3 < (a0.1.length : Int))) (gd (decide (0 ≤ v3)) (gd (decide (v3 < (a0.1.length : Int))) (br (!(Op.bytesLess (rd B0 a0.1 v3.toNat).1.toList a1.1.toList || (rd B0 a0.1 v3.toNat).1.toList == a1.1.toList)) (gd (decide (0 ≤ v3)) (gd (decide (v3 < (a0.1.length : Int))) (gd (decide (xs4.length + ([(rd B0 a0.1 v3.toNat)] : List C7).length ≤ A2)) (L1 (B8 (v3 + 1)) a0 a1 (xs4 ++ ([(rd B0 a0.1 v3.toNat)] : List C7)))))) (L1 (B8 (v3 + 1)) a0 a1 xs4)))) (some (xs4, ())))
def A87 (k : Nat) (L0 : Int → B4 → C7 → List C7 → Option B4) (L1 : Int → B4 → C7 → List C7 → Option B4) (v1 : Int) (a0 : B4) (a1 : C7) (xs2 : List C7) : Option B4 := (br (decide (v1 < (a0.1.length : Int))) (gd (decide (0 ≤ v1)) (gd (decide (v1 < (a0.1.length : Int))) (br (Op.bytesLess (rd B0 a0.1 v1.toNat).1.toList a1.1.toList) (gd (decide (0 ≤ v1)) (gd (decide (v1 < (a0.1.length : Int))) (gd (decide (xs2.length + ([(rd B0 a0.1 v1.toNat)] : List C7).length ≤ A2)) (L0 (B8 (v1 + 1)) a0 a1 (xs2 ++ ([(rd B0 a0.1 v1.toNat)] : List C7)))))) (L0 (B8 (v1 + 1)) a0 a1 xs2)))) (gd (decide (xs2.length + ([a1] : List C7).length ≤ A2)) (L1 0 a0 a1 (xs2 ++ ([a1] : List C7)))))
def Ai2 (k : Nat) : Nat → Int → B4 → C7 → List C7 → Option B4
 | 0, _, _, _, _ => none
 | n + 1, v3, a0, a1, xs4 => A86 k (Ai2 k n) v3 a0 a1 xs4
def y0 (k : Nat) : Nat → Int → B4 → C7 → List C7 → Option B4
 | 0, _, _, _, _ => none
 | n + 1, v1, a0, a1, xs2 => A87 k (y0 k n) (Ai2 k n) v1 a0 a1 xs2
def C90 (k : Nat) (L0 : Int → B4 → C7 → List C7 → Option B4) (a0 : B4) (a1 : C7) : Option B4 := (L0 0 a0 a1 [])
def I3 (k : Nat) (a0 : B4) (a1 : C7) : Option B4 := C90 k (y0 k k) a0 a1
end
noncomputable section
def Ag4 (k : Nat) (L0 : ByteArray → Int → B4 → List C7 → Option B4) (a1 : ByteArray) (v1 : Int) (a0 : B4) (xs2 : List C7) : Option B4 := (br (decide (v1 < (a0.1.length : Int))) (gd (decide (0 ≤ v1)) (gd (decide (v1 < (a0.1.length : Int))) (br (!((rd B0 a0.1 v1.toNat).1.toList == a1.toList)) (gd (decide (0 ≤ v1)) (gd (decide (v1 < (a0.1.length : Int))) (gd (decide (xs2.length + ([(rd B0 a0.1 v1.toNat)] : List C7).length ≤ A2)) (L0 a1 (B8 (v1 + 1)) a0 (xs2 ++ ([(rd B0 a0.1 v1.toNat)] : List C7)))))) (L0 a1 (B8 (v1 + 1)) a0 xs2)))) (some (xs2, ())))
def T8 (k : Nat) : Nat → ByteArray → Int → B4 → List C7 → Option B4
 | 0, _, _, _, _ => none
 | n + 1, a1, v1, a0, xs2 => Ag4 k (T8 k n) a1 v1 a0 xs2
def Bu1 (k : Nat) (L0 : ByteArray → Int → B4 → List C7 → Option B4) (a0 : B4) (a1 : ByteArray) : Option B4 := (L0 a1 0 a0 [])
def G7 (k : Nat) (a0 : B4) (a1 : ByteArray) : Option B4 := Bu1 k (T8 k k) a0 a1
end
def Z0 (k : Nat) (a0 : B4) (a1 : E8) : Option (B4 × Bool) := (bd (F9 k a0) fun r1 => (br (!r1) (some (([], ()), false)) (bd (T3 k a1.2.1) fun r2 => (br (!r2) (some (([], ()), false)) (br (a1.1 != 3) (br (!(a1.2.2.2.1.toList == (⟨#[]⟩ : ByteArray).toList)) (some (([], ()), false)) (br (a1.1 != 1) (br (!(a1.2.2.1.toList == (⟨#[]⟩ : ByteArray).toList)) (some (([], ()), false)) (bd (Az6 k a0 a1.2.1) fun r3 => (br (decide (r3 ≥ 0)) (gd (decide (0 ≤ r3)) (gd (decide (r3 < (a0.1.length : Int))) (br (a1.1 == 1) (gd (decide ((rd B0 a0.1 r3.toNat).2.1.size + a1.2.2.1.size ≤ A2)) (bd (I3 k a0 ((rd B0 a0.1 r3.toNat).1, ((rd B0 a0.1 r3.toNat).2.1 ++ a1.2.2.1), (rd B0 a0.1 r3.toNat).2.2)) fun r4 => (bd (F9 k r4) fun r5 => (br (!r5) (some (([], ()), false)) (some (r4, true)))))) (br (decide (r3 < 0)) (some (([], ()), false)) (br (a1.1 == 2) (bd (I3 k a0 ((rd B0 a0.1 r3.toNat).1, (rd B0 a0.1 r3.toNat).2.1, (((rd B0 a0.1 r3.toNat).2.1.size : Nat) : Int), ())) fun r6 => (bd (F9 k r6) fun r7 => (br (!r7) (some (([], ()), false)) (some (r6, true))))) (br (a1.1 == 3) (br (decide ((rd B0 a0.1 r3.toNat).2.2.1 < (((rd B0 a0.1 r3.toNat).2.1.size : Nat) : Int))) (some (([], ()), false)) (br (a1.2.2.2.1.toList == a1.2.1.toList) (some (([], ()), false)) (bd (T3 k a1.2.2.2.1) fun r8 => (br (!r8) (some (([], ()), false)) (bd (G7 k a0 a1.2.1) fun r9 => (bd (I3 k r9 (a1.2.2.2.1, (rd B0 a0.1 r3.toNat).2)) fun r10 => (bd (F9 k r10) fun r11 => (br (!r11) (some (([], ()), false)) (some (r10, true)))))))))) (br (a1.1 == 4) (bd (G7 k a0 a1.2.1) fun r12 => (bd (F9 k r12) fun r13 => (br (!r13) (some (([], ()), false)) (some (r12, true))))) (some (([], ()), false))))))))) (br (a1.1 == 1) (gd (decide (ByteArray.empty.size + a1.2.2.1.size ≤ A2)) (bd (I3 k a0 (a1.2.1, (ByteArray.empty ++ a1.2.2.1), 0, ())) fun r14 => (bd (F9 k r14) fun r15 => (br (!r15) (some (([], ()), false)) (some (r14, true)))))) (br (decide (r3 < 0)) (some (([], ()), false)) (br (a1.1 == 2) (bd (I3 k a0 (a1.2.1, ByteArray.empty, (ByteArray.empty.size : Int), ())) fun r16 => (bd (F9 k r16) fun r17 => (br (!r17) (some (([], ()), false)) (some (r16, true))))) (br (a1.1 == 3) (br (decide (0 < (ByteArray.empty.size : Int))) (some (([], ()), false)) (br (a1.2.2.2.1.toList == a1.2.1.toList) (some (([], ()), false)) (bd (T3 k a1.2.2.2.1) fun r18 => (br (!r18) (some (([], ()), false)) (bd (G7 k a0 a1.2.1) fun r19 => (bd (I3 k r19 (a1.2.2.2.1, ByteArray.empty, 0, ())) fun r20 => (bd (F9 k r20) fun r21 => (br (!r21) (some (([], ()), false)) (some (r20, true)))))))))) (br (a1.1 == 4) (bd (G7 k a0 a1.2.1) fun r22 => (bd (F9 k r22) fun r23 => (br (!r23) (some (([], ()), false)) (some (r22, true))))) (some (([], ()), false)))))))))) (bd (Az6 k a0 a1.2.1) fun r24 => (br (decide (r24 ≥ 0)) (gd (decide (0 ≤ r24)) (gd (decide (r24 < (a0.1.length : Int))) (br (a1.1 == 1) (gd (decide ((rd B0 a0.1 r24.toNat).2.1.size + a1.2.2.1.size ≤ A2)) (bd (I3 k a0 ((rd B0 a0.1 r24.toNat).1, ((rd B0 a0.1 r24.toNat).2.1 ++ a1.2.2.1), (rd B0 a0.1 r24.toNat).2.2)) fun r25 => (bd (F9 k r25) fun r26 => (br (!r26) (some (([], ()), false)) (some (r25, true)))))) (br (decide (r24 < 0)) (some (([], ()), false)) (br (a1.1 == 2) (bd (I3 k a0 ((rd B0 a0.1 r24.toNat).1, (rd B0 a0.1 r24.toNat).2.1, (((rd B0 a0.1 r24.toNat).2.1.size : Nat) : Int), ())) fun r27 => (bd (F9 k r27) fun r28 => (br (!r28) (some (([], ()), false)) (some (r27, true))))) (br (a1.1 == 3) (br (decide ((rd B0 a0.1 r24.toNat).2.2.1 < (((rd B0 a0.1 r24.toNat).2.1.size : Nat) : Int))) (some (([], ()), false)) (br (a1.2.2.2.1.toList == a1.2.1.toList) (some (([], ()), false)) (bd (T3 k a1.2.2.2.1) fun r29 => (br (!r29) (some (([], ()), false)) (bd (G7 k a0 a1.2.1) fun r30 => (bd (I3 k r30 (a1.2.2.2.1, (rd B0 a0.1 r24.toNat).2)) fun r31 => (bd (F9 k r31) fun r32 => (br (!r32) (some (([], ()), false)) (some (r31, true)))))))))) (br (a1.1 == 4) (bd (G7 k a0 a1.2.1) fun r33 => (bd (F9 k r33) fun r34 => (br (!r34) (some (([], ()), false)) (some (r33, true))))) (some (([], ()), false))))))))) (br (a1.1 == 1) (gd (decide (ByteArray.empty.size + a1.2.2.1.size ≤ A2)) (bd (I3 k a0 (a1.2.1, (ByteArray.empty ++ a1.2.2.1), 0, ())) fun r35 => (bd (F9 k r35) fun r36 => (br (!r36) (some (([], ()), false)) (some (r35, true)))))) (br (decide (r24 < 0)) (some (([], ()), false)) (br (a1.1 == 2) (bd (I3 k a0 (a1.2.1, ByteArray.empty, (ByteArray.empty.size : Int), ())) fun r37 => (bd (F9 k r37) fun r38 => (br (!r38) (some (([], ()), false)) (some (r37, true))))) (br (a1.1 == 3) (br (decide (0 < (ByteArray.empty.size : Int))) (some (([], ()), false)) (br (a1.2.2.2.1.toList == a1.2.1.toList) (some (([], ()), false)) (bd (T3 k a1.2.2.2.1) fun r39 => (br (!r39) (some (([], ()), false)) (bd (G7 k a0 a1.2.1) fun r40 => (bd (I3 k r40 (a1.2.2.2.1, ByteArray.empty, 0, ())) fun r41 => (bd (F9 k r41) fun r42 => (br (!r42) (some (([], ()), false)) (some (r41, true)))))))))) (br (a1.1 == 4) (bd (G7 k a0 a1.2.1) fun r43 => (bd (F9 k r43) fun r44 => (br (!r44) (some (([], ()), false)) (some (r43, true))))) (some (([], ()), false))))))))))) (br (a1.1 != 1) (br (!(a1.2.2.1.toList == (⟨#[]⟩ : ByteArray).toList)) (some (([], ()), false)) (bd (Az6 k a0 a1.2.1) fun r45 => (br (decide (r45 ≥ 0)) (gd (decide (0 ≤ r45)) (gd (decide (r45 < (a0.1.length : Int))) (br (a1.1 == 1) (gd (decide ((rd B0 a0.1 r45.toNat).2.1.size + a1.2.2.1.size ≤ A2)) (bd (I3 k a0 ((rd B0 a0.1 r45.toNat).1, ((rd B0 a0.1 r45.toNat).2.1 ++ a1.2.2.1), (rd B0 a0.1 r45.toNat).2.2)) fun r46 => (bd (F9 k r46) fun r47 => (br (!r47) (some (([], ()), false)) (some (r46, true)))))) (br (decide (r45 < 0)) (some (([], ()), false)) (br (a1.1 == 2) (bd (I3 k a0 ((rd B0 a0.1 r45.toNat).1, (rd B0 a0.1 r45.toNat).2.1, (((rd B0 a0.1 r45.toNat).2.1.size : Nat) : Int), ())) fun r48 => (bd (F9 k r48) fun r49 => (br (!r49) (some (([], ()), false)) (some (r48, true))))) (br (a1.1 == 3) (br (decide ((rd B0 a0.1 r45.toNat).2.2.1 < (((rd B0 a0.1 r45.toNat).2.1.size : Nat) : Int))) (some (([], ()), false)) (br (a1.2.2.2.1.toList == a1.2.1.toList) (some (([], ()), false)) (bd (T3 k a1.2.2.2.1) fun r50 => (br (!r50) (some (([], ()), false)) (bd (G7 k a0 a1.2.1) fun r51 => (bd (I3 k r51 (a1.2.2.2.1, (rd B0 a0.1 r45.toNat).2)) fun r52 => (bd (F9 k r52) fun r53 => (br (!r53) (some (([], ()), false)) (some (r52, true)))))))))) (br (a1.1 == 4) (bd (G7 k a0 a1.2.1) fun r54 => (bd (F9 k r54) fun r55 => (br (!r55) (some (([], ()), false)) (some (r54, true))))) (some (([], ()), false))))))))) (br (a1.1 == 1) (gd (decide (ByteArray.empty.size + a1.2.2.1.size ≤ A2)) (bd (I3 k a0 (a1.2.1, (ByteArray.empty ++ a1.2.2.1), 0, ())) fun r56 => (bd (F9 k r56) fun r57 => (br (!r57) (some (([], ()), false)) (some (r56, true)))))) (br (decide (r45 < 0)) (some (([], ()), false)) (br (a1.1 == 2) (bd (I3 k a0 (a1.2.1, ByteArray.empty, (ByteArray.empty.size : Int), ())) fun r58 => (bd (F9 k r58) fun r59 => (br (!r59) (some (([], ()), false)) (some (r58, true))))) (br (a1.1 == 3) (br (decide (0 < (ByteArray.empty.size : Int))) (some (([], ()), false)) (br (a1.2.2.2.1.toList == a1.2.1.toList) (some (([], ()), false)) (bd (T3 k a1.2.2.2.1) fun r60 => (br (!r60) (some (([], ()), false)) (bd (G7 k a0 a1.2.1) fun r61 => (bd (I3 k r61 (a1.2.2.2.1, ByteArray.empty, 0, ())) fun r62 => (bd (F9 k r62) fun r63 => (br (!r63) (some (([], ()), false)) (some (r62, true)))))))))) (br (a1.1 == 4) (bd (G7 k a0 a1.2.1) fun r64 => (bd (F9 k r64) fun r65 => (br (!r65) (some (([], ()), false)) (some (r64, true))))) (some (([], ()), false)))))))))) (bd (Az6 k a0 a1.2.1) fun r66 => (br (decide (r66 ≥ 0)) (gd (decide (0 ≤ r66)) (gd (decide (r66 < (a0.1.length : Int))) (br (a1.1 == 1) (gd (decide ((rd B0 a0.1 r66.toNat).2.1.size + a1.2.2.1.size ≤ A2)) (bd (I3 k a0 ((rd B0 a0.1 r66.toNat).1, ((rd B0 a0.1 r66.toNat).2.1 ++ a1.2.2.1), (rd B0 a0.1 r66.toNat).2.2)) fun r67 => (bd (F9 k r67) fun r68 => (br (!r68) (some (([], ()), false)) (some (r67, true)))))) (br (decide (r66 < 0)) (some (([], ()), false)) (br (a1.1 == 2) (bd (I3 k a0 ((rd B0 a0.1 r66.toNat).1, (rd B0 a0.1 r66.toNat).2.1, (((rd B0 a0.1 r66.toNat).2.1.size : Nat) : Int), ())) fun r69 => (bd (F9 k r69) fun r70 => (br (!r70) (some (([], ()), false)) (some (r69, true))))) (br (a1.1 == 3) (br (decide ((rd B0 a0.1 r66.toNat).2.2.1 < (((rd B0 a0.1 r66.toNat).2.1.size : Nat) : Int))) (some (([], ()), false)) (br (a1.2.2.2.1.toList == a1.2.1.toList) (some (([], ()), false)) (bd (T3 k a1.2.2.2.1) fun r71 => (br (!r71) (some (([], ()), false)) (bd (G7 k a0 a1.2.1) fun r72 => (bd (I3 k r72 (a1.2.2.2.1, (rd B0 a0.1 r66.toNat).2)) fun r73 => (bd (F9 k r73) fun r74 => (br (!r74) (some (([], ()), false)) (some (r73, true)))))))))) (br (a1.1 == 4) (bd (G7 k a0 a1.2.1) fun r75 => (bd (F9 k r75) fun r76 => (br (!r76) (some (([], ()), false)) (some (r75, true))))) (some (([], ()), false))))))))) (br (a1.1 == 1) (gd (decide (ByteArray.empty.size + a1.2.2.1.size ≤ A2)) (bd (I3 k a0 (a1.2.1, (ByteArray.empty ++ a1.2.2.1), 0, ())) fun r77 => (bd (F9 k r77) fun r78 => (br (!r78) (some (([], ()), false)) (some (r77, true)))))) (br (decide (r66 < 0)) (some (([], ()), false)) (br (a1.1 == 2) (bd (I3 k a0 (a1.2.1, ByteArray.empty, (ByteArray.empty.size : Int), ())) fun r79 => (bd (F9 k r79) fun r80 => (br (!r80) (some (([], ()), false)) (some (r79, true))))) (br (a1.1 == 3) (br (decide (0 < (ByteArray.empty.size : Int))) (some (([], ()), false)) (br (a1.2.2.2.1.toList == a1.2.1.toList) (some (([], ()), false)) (bd (T3 k a1.2.2.2.1) fun r81 => (br (!r81) (some (([], ()), false)) (bd (G7 k a0 a1.2.1) fun r82 => (bd (I3 k r82 (a1.2.2.2.1, ByteArray.empty, 0, ())) fun r83 => (bd (F9 k r83) fun r84 => (br (!r84) (some (([], ()), false)) (some (r83, true)))))))))) (br (a1.1 == 4) (bd (G7 k a0 a1.2.1) fun r85 => (bd (F9 k r85) fun r86 => (br (!r86) (some (([], ()), false)) (some (r85, true))))) (some (([], ()), false)))))))))))))))
noncomputable section
def A88 (k : Nat) (L0 : List E8 → Int → List C7 → Option (B4 × Int)) (a1 : List E8) (v1 : Int) (xs2 : List C7) : Option (B4 × Int) := (br (decide (v1 < (a1.length : Int))) (gd (decide (0 ≤ v1)) (gd (decide (v1 < (a1.length : Int))) (bd (Z0 k (xs2, ()) (rd Gg7 a1 v1.toNat)) fun r1 => (br (!r1.2) (some ((xs2, ()), v1)) (L0 a1 (B8 (v1 + 1)) r1.1.1))))) (some ((xs2, ()), (a1.length : Int))))
def j1 (k : Nat) : Nat → List E8 → Int → List C7 → Option (B4 × Int)
 | 0, _, _, _ => none
 | n + 1, a1, v1, xs2 => A88 k (j1 k n) a1 v1 xs2
def C91 (k : Nat) (L0 : List E8 → Int → List C7 → Option (B4 × Int)) (a0 : B4) (a1 : List E8) : Option (B4 × Int) := (gd (decide (([] : List C7).length + a0.1.length ≤ A2)) (L0 a1 0 (([] : List C7) ++ a0.1)))
def A41 (k : Nat) (a0 : B4) (a1 : List E8) : Option (B4 × Int) := C91 k (j1 k k) a0 a1
end
def Ab4 (k : Nat) (a0 : A4) : Option (Int × A4 × Unit) := (br (decide (a0.2.1 < (a0.1.length : Int))) (gd (decide (0 ≤ a0.2.1)) (gd (decide (a0.2.1 < (a0.1.length : Int))) (some ((E21 .i64 (B8 ((E21 .i64 (Fl6 .i64 (Int.fdiv (B8 ((B8 (a0.2.2.1 * 6364136223846793005)) + 1442695040888963407)) (2 ^ 33)) (Int.fdiv (B8 ((B8 (a0.2.2.1 * 6364136223846793005)) + 1442695040888963407)) (2 ^ 45))) 255) + (B8 (rd 0 a0.1 a0.2.1.toNat)))) 255), (a0.1, (B8 (a0.2.1 + 1)), (B8 ((B8 (a0.2.2.1 * 6364136223846793005)) + 1442695040888963407)), ()), ())))) (some ((E21 .i64 (Fl6 .i64 (Int.fdiv (B8 ((B8 (a0.2.2.1 * 6364136223846793005)) + 1442695040888963407)) (2 ^ 33)) (Int.fdiv (B8 ((B8 (a0.2.2.1 * 6364136223846793005)) + 1442695040888963407)) (2 ^ 45))) 255), (a0.1, a0.2.1, (B8 ((B8 (a0.2.2.1 * 6364136223846793005)) + 1442695040888963407)), ()), ())))
def C5 (k : Nat) (a0 : A4) (a1 : Int) : Option (Int × A4 × Unit) := (br (decide (a1 ≤ 0)) (some (0, a0, ())) (br (decide (a1 ≤ 256)) (bd (Ab4 k a0) fun r1 => (ng (r1.1 == r1.1 && (a1 : Int) == 0) (some ((Int.tmod r1.1 a1), r1.2.1, ())))) (bd (Ab4 k a0) fun r2 => (bd (Ab4 k r2.2.1) fun r3 => (bd (Ab4 k r3.2.1) fun r4 => (bd (Ab4 k r4.2.1) fun r5 => (ng ((B8 ((B8 ((B8 ((B8 (r2.1 * 16777216)) + (B8 (r3.1 * 65536)))) + (B8 (r4.1 * 256)))) + r5.1)) == (B8 ((B8 ((B8 ((B8 (r2.1 * 16777216)) + (B8 (r3.1 * 65536)))) + (B8 (r4.1 * 256)))) + r5.1)) && (a1 : Int) == 0) (some ((Int.tmod (B8 ((B8 ((B8 ((B8 (r2.1 * 16777216)) + (B8 (r3.1 * 65536)))) + (B8 (r4.1 * 256)))) + r5.1)) a1), r5.2.1, ())))))))))
def Ai3 (k : Nat) (a0 : C4) : Option (Int × Int) := (br ((a0.2.2.1.length : Int) == 0) (some (a0.1, a0.2.1)) (gd (decide (0 ≤ (B8 ((a0.2.2.1.length : Int) - 1)))) (gd (decide ((B8 ((a0.2.2.1.length : Int) - 1)) < (a0.2.2.1.length : Int))) (some ((B8 (a0.1 + (a0.2.2.1.length : Int))), (rd B2 a0.2.2.1 (B8 ((a0.2.2.1.length : Int) - 1)).toNat).1)))))
def P2 (k : Nat) (a0 : A4) (a1 : Int) : Option (Bool × A4 × Unit) := (bd (C5 k a0 a1) fun r1 => (some ((r1.1 == 0), r1.2.1, ())))
noncomputable section
def Bk1 (k : Nat) (L0 : Int → List Int → Int → Int → List Int → Option (List Int × A4 × Unit)) (v1 : Int) (v2 : List Int) (v3 : Int) (v4 : Int) (xs5 : List Int) : Option (List Int × A4 × Unit) := (br (decide (v1 ≤ 4)) (bd (P2 k (v2, v3, v4, ()) 2) fun r1 => (br r1.1 (gd (decide (xs5.length + [v1].length ≤ A2)) (L0 (B8 (v1 + 1)) r1.2.1.1 r1.2.1.2.1 r1.2.1.2.2.1 (xs5 ++ [v1]))) (L0 (B8 (v1 + 1)) r1.2.1.1 r1.2.1.2.1 r1.2.1.2.2.1 xs5))) (br ((xs5.length : Int) == 0) (gd (decide (xs5.length + [1].length ≤ A2)) (some ((xs5 ++ [1]), (v2, v3, v4, ()), ()))) (some (xs5, (v2, v3, v4, ()), ()))))
def j9 (k : Nat) : Nat → Int → List Int → Int → Int → List Int → Option (List Int × A4 × Unit)
 | 0, _, _, _, _, _ => none
 | n + 1, v1, v2, v3, v4, xs5 => Bk1 k (j9 k n) v1 v2 v3 v4 xs5
def Cr5 (k : Nat) (L0 : Int → List Int → Int → Int → List Int → Option (List Int × A4 × Unit)) (a0 : A4) : Option (List Int × A4 × Unit) := (L0 1 a0.1 a0.2.1 a0.2.2.1 [])
def Be7 (k : Nat) (a0 : A4) : Option (List Int × A4 × Unit) := Cr5 k (j9 k k) a0
end
noncomputable section
def Ba4 (k : Nat) (L0 : List Int → Int → List Int → Option (ByteArray × Bool)) (a0 : List Int) (v1 : Int) (xs2 : List Int) : Option (ByteArray × Bool) := (br (decide (v1 < (a0.length : Int))) (gd (decide (0 ≤ v1)) (gd (decide (v1 < (a0.length : Int))) (gd (decide (xs2.length + [(IntKind.wrap .u8 (rd 0 a0 v1.toNat))].length ≤ A2)) (L0 a0 (B8 (v1 + 1)) (xs2 ++ [(IntKind.wrap .u8 (rd 0 a0 v1.toNat))]))))) (some ((B3 xs2), true)))
def Y2 (k : Nat) : Nat → List Int → Int → List Int → Option (ByteArray × Bool)
 | 0, _, _, _ => none
 | n + 1, a0, v1, xs2 => Ba4 k (Y2 k n) a0 v1 xs2
def Cd4 (k : Nat) (L0 : List Int → Int → List Int → Option (ByteArray × Bool)) (a0 : List Int) : Option (ByteArray × Bool) := (bd (Au0 k a0) fun r1 => (br (!r1) (some ((⟨#[]⟩ : ByteArray), false)) (L0 a0 0 [])))
def A42 (k : Nat) (a0 : List Int) : Option (ByteArray × Bool) := Cd4 k (Y2 k k) a0
end
def Ab5 (k : Nat) (a0 : A4) (a1 : List Int) : Option (Int × A4 × Unit) := (bd (C5 k a0 (a1.length : Int)) fun r1 => (gd (decide (0 ≤ r1.1)) (gd (decide (r1.1 < (a1.length : Int))) (some ((rd 0 a1 r1.1.toNat), r1.2.1, ())))))
def Ag9 (k : Nat) (a0 : ByteArray) : Option ByteArray := (bd (I9 k (a0.size : Int)) fun r1 => (gd (decide (r1.size + a0.size ≤ A2)) (some (r1 ++ a0))))
noncomputable section
def Ak6 (k : Nat) (L0 : List Int → Int → Option Bool) (a0 : List Int) (v1 : Int) : Option Bool := (br (decide (v1 < (a0.length : Int))) (gd (decide (0 ≤ v1)) (gd (decide (v1 < (a0.length : Int))) (bd (E7 k (rd 0 a0 v1.toNat) 0 100) fun r1 => (br (!r1) (some false) (L0 a0 (B8 (v1 + 1))))))) (some ((a0.length : Int) == 5)))
def W0 (k : Nat) : Nat → List Int → Int → Option Bool
 | 0, _, _ => none
 | n + 1, a0, v1 => Ak6 k (W0 k n) a0 v1
def B63 (k : Nat) (L0 : List Int → Int → Option Bool) (a0 : List Int) : Option Bool := (L0 a0 0)
def X7 (k : Nat) (a0 : List Int) : Option Bool := B63 k (W0 k k) a0
end
def W9 (k : Nat) (a0 : C1) : Option Bool := (bd (E7 k a0.2.1 1 5) fun r1 => (br (!r1) (some false) (bd (E7 k a0.2.2.1 1 5) fun r2 => (br (!r2) (some false) (br (a0.2.1 == 2) (bd (E7 k a0.2.2.2.1 1 5) fun r3 => (br (!r3) (some false) (bd (E7 k a0.2.2.2.2.1 0 3) fun r4 => (br (!r4) (some false) (br (a0.2.1 != 2) (br (a0.2.2.2.1 != 0) (some false) (br (a0.2.2.2.2.1 != 0) (some false) (br (a0.2.1 == 3) (bd (X7 k a0.2.2.2.2.2.1) fun r5 => (br (!r5) (some false) (br (a0.2.1 != 3) (br (decide ((a0.2.2.2.2.2.1.length : Int) > 0)) (some false) (br (a0.2.1 == 4) (some (decide ((a0.2.2.2.2.2.2.1.size : Int) ≤ 24))) (br (a0.2.1 == 5) (some (decide ((a0.2.2.2.2.2.2.1.size : Int) ≤ 24))) (some (a0.2.2.2.2.2.2.1.toList == (⟨#[]⟩ : ByteArray).toList))))) (br (a0.2.1 == 4) (some (decide ((a0.2.2.2.2.2.2.1.size : Int) ≤ 24))) (br (a0.2.1 == 5) (some (decide ((a0.2.2.2.2.2.2.1.size : Int) ≤ 24))) (some (a0.2.2.2.2.2.2.1.toList == (⟨#[]⟩ : ByteArray).toList))))))) (br (a0.2.1 != 3) (br (decide ((a0.2.2.2.2.2.1.length : Int) > 0)) (some false) (br (a0.2.1 == 4) (some (decide ((a0.2.2.2.2.2.2.1.size : Int) ≤ 24))) (br (a0.2.1 == 5) (some (decide ((a0.2.2.2.2.2.2.1.size : Int) ≤ 24))) (some (a0.2.2.2.2.2.2.1.toList == (⟨#[]⟩ : ByteArray).toList))))) (br (a0.2.1 == 4) (some (decide ((a0.2.2.2.2.2.2.1.size : Int) ≤ 24))) (br (a0.2.1 == 5) (some (decide ((a0.2.2.2.2.2.2.1.size : Int) ≤ 24))) (some (a0.2.2.2.2.2.2.1.toList == (⟨#[]⟩ : ByteArray).toList)))))))) (br (a0.2.1 == 3) (bd (X7 k a0.2.2.2.2.2.1) fun r6 => (br (!r6) (some false) (br (a0.2.1 != 3) (br (decide ((a0.2.2.2.2.2.1.length : Int) > 0)) (some false) (br (a0.2.1 == 4) (some (decide ((a0.2.2.2.2.2.2.1.size : Int) ≤ 24))) (br (a0.2.1 == 5) (some (decide ((a0.2.2.2.2.2.2.1.size : Int) ≤ 24))) (some (a0.2.2.2.2.2.2.1.toList == (⟨#[]⟩ : ByteArray).toList))))) (br (a0.2.1 == 4) (some (decide ((a0.2.2.2.2.2.2.1.size : Int) ≤ 24))) (br (a0.2.1 == 5) (some (decide ((a0.2.2.2.2.2.2.1.size : Int) ≤ 24))) (some (a0.2.2.2.2.2.2.1.toList == (⟨#[]⟩ : ByteArray).toList))))))) (br (a0.2.1 != 3) (br (decide ((a0.2.2.2.2.2.1.length : Int) > 0)) (some false) (br (a0.2.1 == 4) (some (decide ((a0.2.2.2.2.2.2.1.size : Int) ≤ 24))) (br (a0.2.1 == 5) (some (decide ((a0.2.2.2.2.2.2.1.size : Int) ≤ 24))) (some (a0.2.2.2.2.2.2.1.toList == (⟨#[]⟩ : ByteArray).toList))))) (br (a0.2.1 == 4) (some (decide ((a0.2.2.2.2.2.2.1.size : Int) ≤ 24))) (br (a0.2.1 == 5) (some (decide ((a0.2.2.2.2.2.2.1.size : Int) ≤ 24))) (some (a0.2.2.2.2.2.2.1.toList == (⟨#[]⟩ : ByteArray).toList))))))))))) (br (a0.2.1 != 2) (br (a0.2.2.2.1 != 0) (some false) (br (a0.2.2.2.2.1 != 0) (some false) (br (a0.2.1 == 3) (bd (X7 k a0.2.2.2.2.2.1) fun r7 => (br (!r7) (some false) (br (a0.2.1 != 3) (br (decide ((a0.2.2.2.2.2.1.length : Int) > 0)) (some false) (br (a0.2.1 == 4) (some (decide ((a0.2.2.2.2.2.2.1.size : Int) ≤ 24))) (br (a0.2.1 == 5) (some (decide ((a0.2.2.2.2.2.2.1.size : Int) ≤ 24))) (some (a0.2.2.2.2.2.2.1.toList == (⟨#[]⟩ : ByteArray).toList))))) (br (a0.2.1 == 4) (some (decide ((a0.2.2.2.2.2.2.1.size : Int) ≤ 24))) (br (a0.2.1 == 5) (some (decide ((a0.2.2.2.2.2.2.1.size : Int) ≤ 24))) (some (a0.2.2.2.2.2.2.1.toList == (⟨#[]⟩ : ByteArray).toList))))))) (br (a0.2.1 != 3) (br (decide ((a0.2.2.2.2.2.1.length : Int) > 0)) (some false) (br (a0.2.1 == 4) (some (decide ((a0.2.2.2.2.2.2.1.size : Int) ≤ 24))) (br (a0.2.1 == 5) (some (decide ((a0.2.2.2.2.2.2.1.size : Int) ≤ 24))) (some (a0.2.2.2.2.2.2.1.toList == (⟨#[]⟩ : ByteArray).toList))))) (br (a0.2.1 == 4) (some (decide ((a0.2.2.2.2.2.2.1.size : Int) ≤ 24))) (br (a0.2.1 == 5) (some (decide ((a0.2.2.2.2.2.2.1.size : Int) ≤ 24))) (some (a0.2.2.2.2.2.2.1.toList == (⟨#[]⟩ : ByteArray).toList)))))))) (br (a0.2.1 == 3) (bd (X7 k a0.2.2.2.2.2.1) fun r8 => (br (!r8) (some false) (br (a0.2.1 != 3) (br (decide ((a0.2.2.2.2.2.1.length : Int) > 0)) (some false) (br (a0.2.1 == 4) (some (decide ((a0.2.2.2.2.2.2.1.size : Int) ≤ 24))) (br (a0.2.1 == 5) (some (decide ((a0.2.2.2.2.2.2.1.size : Int) ≤ 24))) (some (a0.2.2.2.2.2.2.1.toList == (⟨#[]⟩ : ByteArray).toList))))) (br (a0.2.1 == 4) (some (decide ((a0.2.2.2.2.2.2.1.size : Int) ≤ 24))) (br (a0.2.1 == 5) (some (decide ((a0.2.2.2.2.2.2.1.size : Int) ≤ 24))) (some (a0.2.2.2.2.2.2.1.toList == (⟨#[]⟩ : ByteArray).toList))))))) (br (a0.2.1 != 3) (br (decide ((a0.2.2.2.2.2.1.length : Int) > 0)) (some false) (br (a0.2.1 == 4) (some (decide ((a0.2.2.2.2.2.2.1.size : Int) ≤ 24))) (br (a0.2.1 == 5) (some (decide ((a0.2.2.2.2.2.2.1.size : Int) ≤ 24))) (some (a0.2.2.2.2.2.2.1.toList == (⟨#[]⟩ : ByteArray).toList))))) (br (a0.2.1 == 4) (some (decide ((a0.2.2.2.2.2.2.1.size : Int) ≤ 24))) (br (a0.2.1 == 5) (some (decide ((a0.2.2.2.2.2.2.1.size : Int) ≤ 24))) (some (a0.2.2.2.2.2.2.1.toList == (⟨#[]⟩ : ByteArray).toList))))))))))))
noncomputable section
def A00 (k : Nat) (L0 : Int → C1 → Option Bool) (v1 : Int) (a0 : C1) : Option Bool := (br (decide (v1 < (a0.2.2.2.2.2.2.2.1.length : Int))) (gd (decide (0 ≤ v1)) (gd (decide (v1 < (a0.2.2.2.2.2.2.2.1.length : Int))) (bd (E7 k (rd 0 a0.2.2.2.2.2.2.2.1 v1.toNat) 1 1000000) fun r4 => (br (!r4) (some false) (gd (decide (0 ≤ v1)) (gd (decide (v1 < (a0.2.2.2.2.2.2.2.1.length : Int))) (br ((rd 0 a0.2.2.2.2.2.2.2.1 v1.toNat) == a0.1) (some false) (br (decide (v1 > 0)) (gd (decide (0 ≤ (B8 (v1 - 1)))) (gd (decide ((B8 (v1 - 1)) < (a0.2.2.2.2.2.2.2.1.length : Int))) (gd (decide (0 ≤ v1)) (gd (decide (v1 < (a0.2.2.2.2.2.2.2.1.length : Int))) (br (decide ((rd 0 a0.2.2.2.2.2.2.2.1 (B8 (v1 - 1)).toNat) ≥ (rd 0 a0.2.2.2.2.2.2.2.1 v1.toNat))) (some false) (L0 (B8 (v1 + 1)) a0)))))) (L0 (B8 (v1 + 1)) a0))))))))) (some true))
def U4 (k : Nat) : Nat → Int → C1 → Option Bool
 | 0, _, _ => none
 | n + 1, v1, a0 => A00 k (U4 k n) v1 a0
def Bu2 (k : Nat) (L0 : Int → C1 → Option Bool) (a0 : C1) : Option Bool := (bd (W9 k a0) fun r1 => (br (!r1) (some false) (bd (E7 k a0.1 1 1000000) fun r2 => (br (!r2) (some false) (bd (E7 k a0.2.2.2.2.2.2.2.2.1 0 1000000) fun r3 => (br (!r3) (some false) (br (decide ((a0.2.2.2.2.2.2.2.1.length : Int) > 3)) (some false) (br (!((a0.2.1 == 1) == ((a0.2.2.2.2.2.2.2.1.length : Int) == 0))) (some false) (L0 0 a0)))))))))
def M9 (k : Nat) (a0 : C1) : Option Bool := Bu2 k (U4 k k) a0
end
def X0 (k : Nat) (a0 : Int) : Option ByteArray := (some (B3 [(IntKind.wrap .u8 a0)]))
noncomputable section
def Ab6 (k : Nat) (L0 : ByteArray → Int → C1 → Option ByteArray) (v1 : ByteArray) (v2 : Int) (a0 : C1) : Option ByteArray := (br (decide (v2 < (a0.2.2.2.2.2.1.length : Int))) (gd (decide (0 ≤ v2)) (gd (decide (v2 < (a0.2.2.2.2.2.1.length : Int))) (bd (X0 k (rd 0 a0.2.2.2.2.2.1 v2.toNat)) fun r6 => (gd (decide (v1.size + r6.size ≤ A2)) (L0 (v1 ++ r6) (B8 (v2 + 1)) a0))))) (bd (Ag9 k a0.2.2.2.2.2.2.1) fun r7 => (gd (decide (v1.size + r7.size ≤ A2)) (some (v1 ++ r7)))))
def Q2 (k : Nat) : Nat → ByteArray → Int → C1 → Option ByteArray
 | 0, _, _, _ => none
 | n + 1, v1, v2, a0 => Ab6 k (Q2 k n) v1 v2 a0
def Ax1 (k : Nat) (L0 : ByteArray → Int → C1 → Option ByteArray) (a0 : C1) : Option ByteArray := (bd (X0 k a0.2.1) fun r1 => (bd (X0 k a0.2.2.1) fun r2 => (gd (decide (r1.size + r2.size ≤ A2)) (bd (X0 k a0.2.2.2.1) fun r3 => (gd (decide ((r1 ++ r2).size + r3.size ≤ A2)) (bd (X0 k a0.2.2.2.2.1) fun r4 => (gd (decide (((r1 ++ r2) ++ r3).size + r4.size ≤ A2)) (bd (I9 k (a0.2.2.2.2.2.1.length : Int)) fun r5 => (gd (decide ((((r1 ++ r2) ++ r3) ++ r4).size + r5.size ≤ A2)) (L0 ((((r1 ++ r2) ++ r3) ++ r4) ++ r5) 0 a0))))))))))
def Y3 (k : Nat) (a0 : C1) : Option ByteArray := Ax1 k (Q2 k k) a0
end
noncomputable section
def Ak7 (k : Nat) (L0 : ByteArray → Int → C1 → Option (ByteArray × Bool)) (v1 : ByteArray) (v2 : Int) (a0 : C1) : Option (ByteArray × Bool) := (br (decide (v2 < (a0.2.2.2.2.2.2.2.1.length : Int))) (gd (decide (0 ≤ v2)) (gd (decide (v2 < (a0.2.2.2.2.2.2.2.1.length : Int))) (bd (I9 k (rd 0 a0.2.2.2.2.2.2.2.1 v2.toNat)) fun r5 => (gd (decide (v1.size + r5.size ≤ A2)) (L0 (v1 ++ r5) (B8 (v2 + 1)) a0))))) (bd (I9 k a0.2.2.2.2.2.2.2.2.1) fun r6 => (gd (decide (v1.size + r6.size ≤ A2)) (some ((v1 ++ r6), true)))))
def W2 (k : Nat) : Nat → ByteArray → Int → C1 → Option (ByteArray × Bool)
 | 0, _, _, _ => none
 | n + 1, v1, v2, a0 => Ak7 k (W2 k n) v1 v2 a0
def B64 (k : Nat) (L0 : ByteArray → Int → C1 → Option (ByteArray × Bool)) (a0 : C1) : Option (ByteArray × Bool) := (bd (M9 k a0) fun r1 => (br (!r1) (some ((⟨#[]⟩ : ByteArray), false)) (bd (I9 k a0.1) fun r2 => (bd (Y3 k a0) fun r3 => (gd (decide (r2.size + r3.size ≤ A2)) (bd (I9 k (a0.2.2.2.2.2.2.2.1.length : Int)) fun r4 => (gd (decide ((r2 ++ r3).size + r4.size ≤ A2)) (L0 ((r2 ++ r3) ++ r4) 0 a0))))))))
def Au2 (k : Nat) (a0 : C1) : Option (ByteArray × Bool) := B64 k (W2 k k) a0
end
noncomputable section
def Ab7 (k : Nat) (L0 : List Int → List Int → Int → Option Bool) (a0 : List Int) (a1 : List Int) (v1 : Int) : Option Bool := (br (decide (v1 < (a0.length : Int))) (gd (decide (0 ≤ v1)) (gd (decide (v1 < (a0.length : Int))) (gd (decide (0 ≤ v1)) (gd (decide (v1 < (a1.length : Int))) (br ((rd 0 a0 v1.toNat) != (rd 0 a1 v1.toNat)) (some false) (L0 a0 a1 (B8 (v1 + 1)))))))) (some true))
def Q3 (k : Nat) : Nat → List Int → List Int → Int → Option Bool
 | 0, _, _, _ => none
 | n + 1, a0, a1, v1 => Ab7 k (Q3 k n) a0 a1 v1
def Ag5 (k : Nat) (L0 : List Int → List Int → Int → Option Bool) (a0 : List Int) (a1 : List Int) : Option Bool := (br ((a0.length : Int) != (a1.length : Int)) (some false) (L0 a0 a1 0))
def R8 (k : Nat) (a0 : List Int) (a1 : List Int) : Option Bool := Ag5 k (Q3 k k) a0 a1
end
def A24 (k : Nat) (a0 : C1) (a1 : C1) : Option Bool := (br (a0.1 == a1.1) (br (a0.2.1 == a1.2.1) (br (a0.2.2.1 == a1.2.2.1) (br (a0.2.2.2.1 == a1.2.2.2.1) (br (a0.2.2.2.2.1 == a1.2.2.2.2.1) (br (a0.2.2.2.2.2.2.1.toList == a1.2.2.2.2.2.2.1.toList) (br (a0.2.2.2.2.2.2.2.2.1 == a1.2.2.2.2.2.2.2.2.1) (bd (R8 k a0.2.2.2.2.2.1 a1.2.2.2.2.2.1) fun r1 => (br r1 (bd (R8 k a0.2.2.2.2.2.2.2.1 a1.2.2.2.2.2.2.2.1) fun r2 => (some r2)) (some false))) (some false)) (some false)) (some false)) (some false)) (some false)) (some false)) (some false))
def Aq1 (k : Nat) (a0 : C1) : Option Bool := (bd (A24 k a0 (0, 0, 0, 0, 0, [], ByteArray.empty, [], 0, ())) fun r1 => (some r1))
def Ai4 (k : Nat) (a0 : H9) : Option Bool := (bd (E7 k a0.1 1 5) fun r1 => (br (!r1) (some false) (bd (E7 k a0.2.1 0 1000000) fun r2 => (br (!r2) (some false) (bd (E7 k a0.2.2.1 0 1000000) fun r3 => (br (!r3) (some false) (br (a0.1 != 2) (br (a0.1 != 3) (bd (Aq1 k a0.2.2.2.1) fun r4 => (br (!r4) (some false) (br (a0.1 != 4) (br (a0.2.2.2.2.1 != 0) (some false) (br (a0.2.2.2.2.2.1 != 0) (some false) (br (a0.1 == 1) (br (a0.2.1 == 0) (some (a0.2.2.1 == 0)) (some false)) (br (a0.1 == 2) (bd (W9 k a0.2.2.2.1) fun r5 => (br r5 (br (a0.2.2.2.1.1 == 0) (br (a0.2.2.2.1.2.2.2.2.2.2.2.2.1 == 0) (some ((a0.2.2.2.1.2.2.2.2.2.2.2.1.length : Int) == 0)) (some false)) (some false)) (some false))) (br (a0.1 == 3) (bd (M9 k a0.2.2.2.1) fun r6 => (br r6 (ng (a0.2.2.2.1.1 == a0.2.2.2.1.1 && (2 : Int) == 0) (some ((Int.tmod a0.2.2.2.1.1 2) == 1))) (some false))) (br (a0.1 == 4) (bd (E7 k a0.2.2.2.2.1 1 2) fun r7 => (br r7 (bd (E7 k a0.2.2.2.2.2.1 0 1000000) fun r8 => (some r8)) (some false))) (some true))))))) (br (a0.1 == 1) (br (a0.2.1 == 0) (some (a0.2.2.1 == 0)) (some false)) (br (a0.1 == 2) (bd (W9 k a0.2.2.2.1) fun r9 => (br r9 (br (a0.2.2.2.1.1 == 0) (br (a0.2.2.2.1.2.2.2.2.2.2.2.2.1 == 0) (some ((a0.2.2.2.1.2.2.2.2.2.2.2.1.length : Int) == 0)) (some false)) (some false)) (some false))) (br (a0.1 == 3) (bd (M9 k a0.2.2.2.1) fun r10 => (br r10 (ng (a0.2.2.2.1.1 == a0.2.2.2.1.1 && (2 : Int) == 0) (some ((Int.tmod a0.2.2.2.1.1 2) == 1))) (some false))) (br (a0.1 == 4) (bd (E7 k a0.2.2.2.2.1 1 2) fun r11 => (br r11 (bd (E7 k a0.2.2.2.2.2.1 0 1000000) fun r12 => (some r12)) (some false))) (some true)))))))) (br (a0.1 != 4) (br (a0.2.2.2.2.1 != 0) (some false) (br (a0.2.2.2.2.2.1 != 0) (some false) (br (a0.1 == 1) (br (a0.2.1 == 0) (some (a0.2.2.1 == 0)) (some false)) (br (a0.1 == 2) (bd (W9 k a0.2.2.2.1) fun r13 => (br r13 (br (a0.2.2.2.1.1 == 0) (br (a0.2.2.2.1.2.2.2.2.2.2.2.2.1 == 0) (some ((a0.2.2.2.1.2.2.2.2.2.2.2.1.length : Int) == 0)) (some false)) (some false)) (some false))) (br (a0.1 == 3) (bd (M9 k a0.2.2.2.1) fun r14 => (br r14 (ng (a0.2.2.2.1.1 == a0.2.2.2.1.1 && (2 : Int) == 0) (some ((Int.tmod a0.2.2.2.1.1 2) == 1))) (some false))) (br (a0.1 == 4) (bd (E7 k a0.2.2.2.2.1 1 2) fun r15 => (br r15 (bd (E7 k a0.2.2.2.2.2.1 0 1000000) fun r16 => (some r16)) (some false))) (some true))))))) (br (a0.1 == 1) (br (a0.2.1 == 0) (some (a0.2.2.1 == 0)) (some false)) (br (a0.1 == 2) (bd (W9 k a0.2.2.2.1) fun r17 => (br r17 (br (a0.2.2.2.1.1 == 0) (br (a0.2.2.2.1.2.2.2.2.2.2.2.2.1 == 0) (some ((a0.2.2.2.1.2.2.2.2.2.2.2.1.length : Int) == 0)) (some false)) (some false)) (some false))) (br (a0.1 == 3) (bd (M9 k a0.2.2.2.1) fun r18 => (br r18 (ng (a0.2.2.2.1.1 == a0.2.2.2.1.1 && (2 : Int) == 0) (some ((Int.tmod a0.2.2.2.1.1 2) == 1))) (some false))) (br (a0.1 == 4) (bd (E7 k a0.2.2.2.2.1 1 2) fun r19 => (br r19 (bd (E7 k a0.2.2.2.2.2.1 0 1000000) fun r20 => (some r20)) (some false))) (some true))))))) (br (a0.1 != 4) (br (a0.2.2.2.2.1 != 0) (some false) (br (a0.2.2.2.2.2.1 != 0) (some false) (br (a0.1 == 1) (br (a0.2.1 == 0) (some (a0.2.2.1 == 0)) (some false)) (br (a0.1 == 2) (bd (W9 k a0.2.2.2.1) fun r21 => (br r21 (br (a0.2.2.2.1.1 == 0) (br (a0.2.2.2.1.2.2.2.2.2.2.2.2.1 == 0) (some ((a0.2.2.2.1.2.2.2.2.2.2.2.1.length : Int) == 0)) (some false)) (some false)) (some false))) (br (a0.1 == 3) (bd (M9 k a0.2.2.2.1) fun r22 => (br r22 (ng (a0.2.2.2.1.1 == a0.2.2.2.1.1 && (2 : Int) == 0) (some ((Int.tmod a0.2.2.2.1.1 2) == 1))) (some false))) (br (a0.1 == 4) (bd (E7 k a0.2.2.2.2.1 1 2) fun r23 => (br r23 (bd (E7 k a0.2.2.2.2.2.1 0 1000000) fun r24 => (some r24)) (some false))) (some true))))))) (br (a0.1 == 1) (br (a0.2.1 == 0) (some (a0.2.2.1 == 0)) (some false)) (br (a0.1 == 2) (bd (W9 k a0.2.2.2.1) fun r25 => (br r25 (br (a0.2.2.2.1.1 == 0) (br (a0.2.2.2.1.2.2.2.2.2.2.2.2.1 == 0) (some ((a0.2.2.2.1.2.2.2.2.2.2.2.1.length : Int) == 0)) (some false)) (some false)) (some false))) (br (a0.1 == 3) (bd (M9 k a0.2.2.2.1) fun r26 => (br r26 (ng (a0.2.2.2.1.1 == a0.2.2.2.1.1 && (2 : Int) == 0) (some ((Int.tmod a0.2.2.2.1.1 2) == 1))) (some false))) (br (a0.1 == 4) (bd (E7 k a0.2.2.2.2.1 1 2) fun r27 => (br r27 (bd (E7 k a0.2.2.2.2.2.1 0 1000000) fun r28 => (some r28)) (some false))) (some true)))))))))))))
def p9 (k : Nat) (a0 : H9) : Option (ByteArray × Bool) := (bd (Ai4 k a0) fun r1 => (br (!r1) (some ((⟨#[]⟩ : ByteArray), false)) (bd (X0 k a0.1) fun r2 => (bd (I9 k a0.2.1) fun r3 => (gd (decide (r2.size + r3.size ≤ A2)) (bd (I9 k a0.2.2.1) fun r4 => (gd (decide ((r2 ++ r3).size + r4.size ≤ A2)) (br (a0.1 == 2) (bd (Y3 k a0.2.2.2.1) fun r5 => (gd (decide (((r2 ++ r3) ++ r4).size + r5.size ≤ A2)) (some ((((r2 ++ r3) ++ r4) ++ r5), true)))) (br (a0.1 == 3) (bd (Au2 k a0.2.2.2.1) fun r6 => (bd (Ag9 k r6.1) fun r7 => (gd (decide (((r2 ++ r3) ++ r4).size + r7.size ≤ A2)) (some ((((r2 ++ r3) ++ r4) ++ r7), true))))) (br (a0.1 == 4) (bd (I9 k a0.2.2.2.2.1) fun r8 => (gd (decide (((r2 ++ r3) ++ r4).size + r8.size ≤ A2)) (bd (I9 k a0.2.2.2.2.2.1) fun r9 => (gd (decide ((((r2 ++ r3) ++ r4) ++ r8).size + r9.size ≤ A2)) (some (((((r2 ++ r3) ++ r4) ++ r8) ++ r9), true)))))) (some (((r2 ++ r3) ++ r4), true))))))))))))
noncomputable section
def Bk2 (k : Nat) (L0 : Int → List C88 → Option Ap3) (v1 : Int) (xs2 : List C88) : Option Ap3 := (br (decide (v1 ≤ 2)) (gd (decide (xs2.length + ([(v1, 0, [], ())] : List C88).length ≤ A2)) (L0 (B8 (v1 + 1)) (xs2 ++ ([(v1, 0, [], ())] : List C88)))) (some ([], ([], [], [], ()), xs2, ())))
def l6 (k : Nat) : Nat → Int → List C88 → Option Ap3
 | 0, _, _ => none
 | n + 1, v1, xs2 => Bk2 k (l6 k n) v1 xs2
def Cr6 (k : Nat) (L0 : Int → List C88 → Option Ap3) : Option Ap3 := (L0 1 [])
def Be8 (k : Nat) : Option Ap3 := Cr6 k (l6 k k)
end
def A89 (k : Nat) (a0 : A4) : Option (C1 × A4 × Unit) := none
def C92 (k : Nat) (a0 : n7) : Option (List Int) := none
def A25 (k : Nat) (a0 : n7) (a1 : List Int) : Option Int := none
def Ai5 (k : Nat) (a0 : n7) (a1 : List Int) : Option (List Bo8 × Bool) := none
def Cl2 (k : Nat) (a0 : List C1) (a1 : List Bo8) (a2 : C1) : Option Bool := none
noncomputable section
def Cd5 (k : Nat) (L1 : Int → Int → List Int → Int → Int → n7 → Int → Int → Int → Int → ByteArray → Int → List Bo8 → List Int → List Int → Option (C1 × A4 × Unit)) (a2 : Int) (v6 : Int) (v7 : List Int) (v8 : Int) (v9 : Int) (a1 : n7) (v10 : Int) (v11 : Int) (v12 : Int) (v13 : Int) (v14 : ByteArray) (r6 : Int) (xs15 : List Bo8) (xs16 : List Int) (xs17 : List Int) : Option (C1 × A4 × Unit) := (br (decide (v6 < 6)) (bd (Cl2 k a1.1 xs15 (a2, v10, v11, v12, v13, xs16, v14, xs17, r6, ())) fun r8 => (br (!r8) (bd (A89 k (v7, v8, v9, ())) fun r9 => (L1 a2 (B8 (v6 + 1)) r9.2.1.1 r9.2.1.2.1 r9.2.1.2.2.1 a1 r9.1.2.1 r9.1.2.2.1 r9.1.2.2.2.1 r9.1.2.2.2.2.1 r9.1.2.2.2.2.2.2.1 r6 xs15 r9.1.2.2.2.2.2.1 xs17)) (br ((a1.1.length : Int) == 1) (gd (decide (0 < (a1.1.length : Int))) (gd (decide (0 < (a1.1.length : Int))) (some ((a2, 2, (rd As7 a1.1 0).2.2.1, (rd As7 a1.1 0).2.2.1, 2, [], ByteArray.empty, xs17, r6, ()), (v7, v8, v9, ()), ())))) (some ((a2, v10, v11, v12, v13, xs16, v14, xs17, r6, ()), (v7, v8, v9, ()), ()))))) (br ((a1.1.length : Int) == 1) (gd (decide (0 < (a1.1.length : Int))) (gd (decide (0 < (a1.1.length : Int))) (some ((a2, 2, (rd As7 a1.1 0).2.2.1, (rd As7 a1.1 0).2.2.1, 2, [], ByteArray.empty, xs17, r6, ()), (v7, v8, v9, ()), ())))) (some ((a2, v10, v11, v12, v13, xs16, v14, xs17, r6, ()), (v7, v8, v9, ()), ()))))
def Cd6 (k : Nat) (L0 : Int → Int → List Int → Int → Int → n7 → (C1 × A4 × Unit) → List Int → List Int → Option (C1 × A4 × Unit)) (L1 : Int → Int → List Int → Int → Int → n7 → Int → Int → Int → Int → ByteArray → Int → List Bo8 → List Int → List Int → Option (C1 × A4 × Unit)) (a2 : Int) (v1 : Int) (v2 : List Int) (v3 : Int) (v4 : Int) (a1 : n7) (r1 : C1 × A4 × Unit) (r2 : List Int) (xs5 : List Int) : Option (C1 × A4 × Unit) := (br (decide (v1 < (r2.length : Int))) (br (decide ((xs5.length : Int) < 3)) (bd (P2 k (v2, v3, v4, ()) 2) fun r3 => (br r3.1 (gd (decide (0 ≤ v1)) (gd (decide (v1 < (r2.length : Int))) (gd (decide (xs5.length + [(rd 0 r2 v1.toNat)].length ≤ A2)) (L0 a2 (B8 (v1 + 1)) r3.2.1.1 r3.2.1.2.1 r3.2.1.2.2.1 a1 r1 r2 (xs5 ++ [(rd 0 r2 v1.toNat)]))))) (br ((B8 (v1 + 1)) == (r2.length : Int)) (br ((xs5.length : Int) == 0) (gd (decide (0 ≤ v1)) (gd (decide (v1 < (r2.length : Int))) (gd (decide (xs5.length + [(rd 0 r2 v1.toNat)].length ≤ A2)) (L0 a2 (B8 (v1 + 1)) r3.2.1.1 r3.2.1.2.1 r3.2.1.2.2.1 a1 r1 r2 (xs5 ++ [(rd 0 r2 v1.toNat)]))))) (L0 a2 (B8 (v1 + 1)) r3.2.1.1 r3.2.1.2.1 r3.2.1.2.2.1 a1 r1 r2 xs5)) (L0 a2 (B8 (v1 + 1)) r3.2.1.1 r3.2.1.2.1 r3.2.1.2.2.1 a1 r1 r2 xs5)))) (bd (P2 k (v2, v3, v4, ()) 4) fun r4 => (br r4.1 (bd (C5 k r4.2.1 (a1.1.length : Int)) fun r5 => (gd (decide (0 ≤ r5.1)) (gd (decide (r5.1 < (a1.1.length : Int))) (bd (A25 k a1 [(rd As7 a1.1 r5.1.toNat).1]) fun r6 => (bd (Ai5 k a1 [(rd As7 a1.1 r5.1.toNat).1]) fun r7 => (L1 a2 0 r5.2.1.1 r5.2.1.2.1 r5.2.1.2.2.1 a1 r1.1.2.1 r1.1.2.2.1 r1.1.2.2.2.1 r1.1.2.2.2.2.1 r1.1.2.2.2.2.2.2.1 r6 r7.1 r1.1.2.2.2.2.2.1 [(rd As7 a1.1 r5.1.toNat).1])))))) (bd (A25 k a1 xs5) fun r10 => (bd (Ai5 k a1 xs5) fun r11 => (L1 a2 0 r4.2.1.1 r4.2.1.2.1 r4.2.1.2.2.1 a1 r1.1.2.1 r1.1.2.2.1 r1.1.2.2.2.1 r1.1.2.2.2.2.1 r1.1.2.2.2.2.2.2.1 r10 r11.1 r1.1.2.2.2.2.2.1 xs5)))))) (bd (P2 k (v2, v3, v4, ()) 4) fun r12 => (br r12.1 (bd (C5 k r12.2.1 (a1.1.length : Int)) fun r13 => (gd (decide (0 ≤ r13.1)) (gd (decide (r13.1 < (a1.1.length : Int))) (bd (A25 k a1 [(rd As7 a1.1 r13.1.toNat).1]) fun r14 => (bd (Ai5 k a1 [(rd As7 a1.1 r13.1.toNat).1]) fun r15 => (L1 a2 0 r13.2.1.1 r13.2.1.2.1 r13.2.1.2.2.1 a1 r1.1.2.1 r1.1.2.2.1 r1.1.2.2.2.1 r1.1.2.2.2.2.1 r1.1.2.2.2.2.2.2.1 r14 r15.1 r1.1.2.2.2.2.2.1 [(rd As7 a1.1 r13.1.toNat).1])))))) (bd (A25 k a1 xs5) fun r16 => (bd (Ai5 k a1 xs5) fun r17 => (L1 a2 0 r12.2.1.1 r12.2.1.2.1 r12.2.1.2.2.1 a1 r1.1.2.1 r1.1.2.2.1 r1.1.2.2.2.1 r1.1.2.2.2.2.1 r1.1.2.2.2.2.2.2.1 r16 r17.1 r1.1.2.2.2.2.2.1 xs5))))))
def Bk3 (k : Nat) : Nat → Int → Int → List Int → Int → Int → n7 → Int → Int → Int → Int → ByteArray → Int → List Bo8 → List Int → List Int → Option (C1 × A4 × Unit)
 | 0, _, _, _, _, _, _, _, _, _, _, _, _, _, _, _ => none
 | n + 1, a2, v6, v7, v8, v9, a1, v10, v11, v12, v13, v14, r6, xs15, xs16, xs17 => Cd5 k (Bk3 k n) a2 v6 v7 v8 v9 a1 v10 v11 v12 v13 v14 r6 xs15 xs16 xs17
def A01 (k : Nat) : Nat → Int → Int → List Int → Int → Int → n7 → (C1 × A4 × Unit) → List Int → List Int → Option (C1 × A4 × Unit)
 | 0, _, _, _, _, _, _, _, _, _ => none
 | n + 1, a2, v1, v2, v3, v4, a1, r1, r2, xs5 => Cd6 k (A01 k n) (Bk3 k n) a2 v1 v2 v3 v4 a1 r1 r2 xs5
def Bu3 (k : Nat) (L0 : Int → Int → List Int → Int → Int → n7 → (C1 × A4 × Unit) → List Int → List Int → Option (C1 × A4 × Unit)) (a0 : A4) (a1 : n7) (a2 : Int) : Option (C1 × A4 × Unit) := (br ((a1.1.length : Int) == 0) (some ((a2, 1, 1, 0, 0, [], ByteArray.empty, [], 0, ()), a0, ())) (bd (A89 k a0) fun r1 => (bd (C92 k a1) fun r2 => (L0 a2 0 r1.2.1.1 r1.2.1.2.1 r1.2.1.2.2.1 a1 r1 r2 []))))
def N9 (k : Nat) (a0 : A4) (a1 : n7) (a2 : Int) : Option (C1 × A4 × Unit) := Bu3 k (A01 k k) a0 a1 a2
end
noncomputable section
def Ax2 (k : Nat) (v1 : List Int) (v2 : Int) (v3 : Int) (a1 : Ap3) (v4 : Int) : Option (H9 × A4 × Unit) := (br (v4 != 1) (br (decide ((a1.1.length : Int) > 0)) (bd (C5 k (v1, v2, v3, ()) (a1.1.length : Int)) fun r4 => (gd (decide (0 ≤ r4.1)) (gd (decide (r4.1 < (a1.1.length : Int))) (bd (C5 k r4.2.1 10) fun r5 => (br (r5.1 == 0) (bd (C5 k r5.2.1 (B8 ((rd B2 a1.1 r4.1.toNat).2.1 + 3))) fun r6 => (br (v4 == 2) (bd (N9 k r6.2.1 a1.2.1 2) fun r7 => (some ((v4, (rd B2 a1.1 r4.1.toNat).1, r6.1, (0, r7.1.2.1, r7.1.2.2.1, r7.1.2.2.2.1, r7.1.2.2.2.2.1, r7.1.2.2.2.2.2.1, r7.1.2.2.2.2.2.2.1, [], 0, ()), 0, 0, ()), r7.2.1, ()))) (br (v4 == 3) (bd (C5 k r6.2.1 40) fun r8 => (bd (N9 k r8.2.1 a1.2.1 (B8 ((B8 (2 * r8.1)) + 1))) fun r9 => (bd (M9 k r9.1) fun r10 => (br (!r10) (bd (C5 k r9.2.1 40) fun r11 => (some ((v4, (rd B2 a1.1 r4.1.toNat).1, r6.1, ((B8 (101 + (B8 (2 * r11.1)))), r9.1.2), 0, 0, ()), r11.2.1, ()))) (some ((v4, (rd B2 a1.1 r4.1.toNat).1, r6.1, r9.1, 0, 0, ()), r9.2.1, ())))))) (br (v4 == 4) (bd (C5 k r6.2.1 2) fun r12 => (bd (C5 k r12.2.1 6) fun r13 => (some ((v4, (rd B2 a1.1 r4.1.toNat).1, r6.1, (0, 0, 0, 0, 0, [], ByteArray.empty, [], 0, ()), (B8 (1 + r12.1)), r13.1, ()), r13.2.1, ())))) (some ((v4, (rd B2 a1.1 r4.1.toNat).1, r6.1, (0, 0, 0, 0, 0, [], ByteArray.empty, [], 0, ()), 0, 0, ()), r6.2.1, ())))))) (br (r5.1 == 1) (bd (C5 k r5.2.1 12) fun r14 => (br (v4 == 2) (bd (N9 k r14.2.1 a1.2.1 2) fun r15 => (some ((v4, r14.1, (B8 ((rd B2 a1.1 r4.1.toNat).2.1 + 1)), (0, r15.1.2.1, r15.1.2.2.1, r15.1.2.2.2.1, r15.1.2.2.2.2.1, r15.1.2.2.2.2.2.1, r15.1.2.2.2.2.2.2.1, [], 0, ()), 0, 0, ()), r15.2.1, ()))) (br (v4 == 3) (bd (C5 k r14.2.1 40) fun r16 => (bd (N9 k r16.2.1 a1.2.1 (B8 ((B8 (2 * r16.1)) + 1))) fun r17 => (bd (M9 k r17.1) fun r18 => (br (!r18) (bd (C5 k r17.2.1 40) fun r19 => (some ((v4, r14.1, (B8 ((rd B2 a1.1 r4.1.toNat).2.1 + 1)), ((B8 (101 + (B8 (2 * r19.1)))), r17.1.2), 0, 0, ()), r19.2.1, ()))) (some ((v4, r14.1, (B8 ((rd B2 a1.1 r4.1.toNat).2.1 + 1)), r17.1, 0, 0, ()), r17.2.1, ())))))) (br (v4 == 4) (bd (C5 k r14.2.1 2) fun r20 => (bd (C5 k r20.2.1 6) fun r21 => (some ((v4, r14.1, (B8 ((rd B2 a1.1 r4.1.toNat).2.1 + 1)), (0, 0, 0, 0, 0, [], ByteArray.empty, [], 0, ()), (B8 (1 + r20.1)), r21.1, ()), r21.2.1, ())))) (some ((v4, r14.1, (B8 ((rd B2 a1.1 r4.1.toNat).2.1 + 1)), (0, 0, 0, 0, 0, [], ByteArray.empty, [], 0, ()), 0, 0, ()), r14.2.1, ())))))) (br (v4 == 2) (bd (N9 k r5.2.1 a1.2.1 2) fun r22 => (some ((v4, (rd B2 a1.1 r4.1.toNat).1, (B8 ((rd B2 a1.1 r4.1.toNat).2.1 + 1)), (0, r22.1.2.1, r22.1.2.2.1, r22.1.2.2.2.1, r22.1.2.2.2.2.1, r22.1.2.2.2.2.2.1, r22.1.2.2.2.2.2.2.1, [], 0, ()), 0, 0, ()), r22.2.1, ()))) (br (v4 == 3) (bd (C5 k r5.2.1 40) fun r23 => (bd (N9 k r23.2.1 a1.2.1 (B8 ((B8 (2 * r23.1)) + 1))) fun r24 => (bd (M9 k r24.1) fun r25 => (br (!r25) (bd (C5 k r24.2.1 40) fun r26 => (some ((v4, (rd B2 a1.1 r4.1.toNat).1, (B8 ((rd B2 a1.1 r4.1.toNat).2.1 + 1)), ((B8 (101 + (B8 (2 * r26.1)))), r24.1.2), 0, 0, ()), r26.2.1, ()))) (some ((v4, (rd B2 a1.1 r4.1.toNat).1, (B8 ((rd B2 a1.1 r4.1.toNat).2.1 + 1)), r24.1, 0, 0, ()), r24.2.1, ())))))) (br (v4 == 4) (bd (C5 k r5.2.1 2) fun r27 => (bd (C5 k r27.2.1 6) fun r28 => (some ((v4, (rd B2 a1.1 r4.1.toNat).1, (B8 ((rd B2 a1.1 r4.1.toNat).2.1 + 1)), (0, 0, 0, 0, 0, [], ByteArray.empty, [], 0, ()), (B8 (1 + r27.1)), r28.1, ()), r28.2.1, ())))) (some ((v4, (rd B2 a1.1 r4.1.toNat).1, (B8 ((rd B2 a1.1 r4.1.toNat).2.1 + 1)), (0, 0, 0, 0, 0, [], ByteArray.empty, [], 0, ()), 0, 0, ()), r5.2.1, ()))))))))))) (br (v4 == 2) (bd (N9 k (v1, v2, v3, ()) a1.2.1 2) fun r29 => (some ((v4, 0, 0, (0, r29.1.2.1, r29.1.2.2.1, r29.1.2.2.2.1, r29.1.2.2.2.2.1, r29.1.2.2.2.2.2.1, r29.1.2.2.2.2.2.2.1, [], 0, ()), 0, 0, ()), r29.2.1, ()))) (br (v4 == 3) (bd (C5 k (v1, v2, v3, ()) 40) fun r30 => (bd (N9 k r30.2.1 a1.2.1 (B8 ((B8 (2 * r30.1)) + 1))) fun r31 => (bd (M9 k r31.1) fun r32 => (br (!r32) (bd (C5 k r31.2.1 40) fun r33 => (some ((v4, 0, 0, ((B8 (101 + (B8 (2 * r33.1)))), r31.1.2), 0, 0, ()), r33.2.1, ()))) (some ((v4, 0, 0, r31.1, 0, 0, ()), r31.2.1, ())))))) (br (v4 == 4) (bd (C5 k (v1, v2, v3, ()) 2) fun r34 => (bd (C5 k r34.2.1 6) fun r35 => (some ((v4, 0, 0, (0, 0, 0, 0, 0, [], ByteArray.empty, [], 0, ()), (B8 (1 + r34.1)), r35.1, ()), r35.2.1, ())))) (some ((v4, 0, 0, (0, 0, 0, 0, 0, [], ByteArray.empty, [], 0, ()), 0, 0, ()), (v1, v2, v3, ()), ())))))) (br (v4 == 2) (bd (N9 k (v1, v2, v3, ()) a1.2.1 2) fun r36 => (some ((v4, 0, 0, (0, r36.1.2.1, r36.1.2.2.1, r36.1.2.2.2.1, r36.1.2.2.2.2.1, r36.1.2.2.2.2.2.1, r36.1.2.2.2.2.2.2.1, [], 0, ()), 0, 0, ()), r36.2.1, ()))) (br (v4 == 3) (bd (C5 k (v1, v2, v3, ()) 40) fun r37 => (bd (N9 k r37.2.1 a1.2.1 (B8 ((B8 (2 * r37.1)) + 1))) fun r38 => (bd (M9 k r38.1) fun r39 => (br (!r39) (bd (C5 k r38.2.1 40) fun r40 => (some ((v4, 0, 0, ((B8 (101 + (B8 (2 * r40.1)))), r38.1.2), 0, 0, ()), r40.2.1, ()))) (some ((v4, 0, 0, r38.1, 0, 0, ()), r38.2.1, ())))))) (br (v4 == 4) (bd (C5 k (v1, v2, v3, ()) 2) fun r41 => (bd (C5 k r41.2.1 6) fun r42 => (some ((v4, 0, 0, (0, 0, 0, 0, 0, [], ByteArray.empty, [], 0, ()), (B8 (1 + r41.1)), r42.1, ()), r42.2.1, ())))) (some ((v4, 0, 0, (0, 0, 0, 0, 0, [], ByteArray.empty, [], 0, ()), 0, 0, ()), (v1, v2, v3, ()), ()))))))
def T9 (k : Nat) : Nat → List Int → Int → Int → Ap3 → Int → Option (H9 × A4 × Unit)
 | 0, _, _, _, _, _ => none
 | n + 1, v1, v2, v3, a1, v4 => Ax2 k v1 v2 v3 a1 v4
def Bu4 (k : Nat) (L0 : List Int → Int → Int → Ap3 → Int → Option (H9 × A4 × Unit)) (a0 : A4) (a1 : Ap3) : Option (H9 × A4 × Unit) := (bd (Ab5 k a0 [1, 2, 2, 2, 2, 2, 2, 3, 3, 4, 5]) fun r1 => (br ((a1.1.length : Int) == 0) (bd (P2 k r1.2.1 8) fun r2 => (br (!r2.1) (br (decide ((a1.1.length : Int) > 0)) (bd (P2 k r2.2.1 3) fun r3 => (br (!r3.1) (L0 r3.2.1.1 r3.2.1.2.1 r3.2.1.2.2.1 a1 2) (L0 r3.2.1.1 r3.2.1.2.1 r3.2.1.2.2.1 a1 1))) (L0 r2.2.1.1 r2.2.1.2.1 r2.2.1.2.2.1 a1 1)) (br (r1.1 == 1) (br (decide ((a1.1.length : Int) > 0)) (bd (P2 k r2.2.1 3) fun r43 => (br (!r43.1) (L0 r43.2.1.1 r43.2.1.2.1 r43.2.1.2.2.1 a1 2) (L0 r43.2.1.1 r43.2.1.2.1 r43.2.1.2.2.1 a1 r1.1))) (L0 r2.2.1.1 r2.2.1.2.1 r2.2.1.2.2.1 a1 r1.1)) (L0 r2.2.1.1 r2.2.1.2.1 r2.2.1.2.2.1 a1 r1.1)))) (br (r1.1 == 1) (br (decide ((a1.1.length : Int) > 0)) (bd (P2 k r1.2.1 3) fun r44 => (br (!r44.1) (L0 r44.2.1.1 r44.2.1.2.1 r44.2.1.2.2.1 a1 2) (L0 r44.2.1.1 r44.2.1.2.1 r44.2.1.2.2.1 a1 r1.1))) (L0 r1.2.1.1 r1.2.1.2.1 r1.2.1.2.2.1 a1 r1.1)) (L0 r1.2.1.1 r1.2.1.2.1 r1.2.1.2.2.1 a1 r1.1))))
def Ak8 (k : Nat) (a0 : A4) (a1 : Ap3) : Option (H9 × A4 × Unit) := Bu4 k (T9 k k) a0 a1
end
def A43 (k : Nat) (a0 : A4) : Option (H9 × A4 × Unit) := (bd (Be8 k) fun r1 => (bd (C5 k a0 5) fun r2 => (bd (C5 k r2.2.1 4) fun r3 => (bd (Ak8 k r3.2.1 (([((B8 (1 + r2.1)), r3.1, ByteArray.empty, ())] : List A9), r1.2)) fun r4 => (some (r4.1, r4.2.1, ()))))))
def Ah0 (k : Nat) (a0 : A4) (a1 : Int) : Option (A9 × A4 × Unit) := (bd (Ab5 k a0 [1, 2, 3, 3, 3]) fun r1 => (br (r1.1 == 2) (bd (Be7 k r1.2.1) fun r2 => (bd (A42 k r2.1) fun r3 => (some ((a1, r1.1, r3.1, ()), r2.2.1, ())))) (br (r1.1 == 3) (bd (A43 k r1.2.1) fun r4 => (bd (p9 k r4.1) fun r5 => (some ((a1, r1.1, r5.1, ()), r4.2.1, ())))) (some ((a1, r1.1, ByteArray.empty, ()), r1.2.1, ())))))
def Aq2 (k : Nat) (a0 : C4) (a1 : Int) : Option Int := (br (a1 == a0.1) (some a0.2.1) (br (decide (a1 < a0.1)) (some (-1)) (bd (Ab1 k a0) fun r1 => (br (decide (a1 > r1)) (some (-1)) (gd (decide (0 ≤ (B8 ((B8 (a1 - a0.1)) - 1)))) (gd (decide ((B8 ((B8 (a1 - a0.1)) - 1)) < (a0.2.2.1.length : Int))) (some (rd B2 a0.2.2.1 (B8 ((B8 (a1 - a0.1)) - 1)).toNat).1)))))))
def Au3 (k : Nat) (a0 : C4) (a1 : Int) (a2 : Int) : Option C4 := (bd (Az8 k a0) fun r1 => (br r1 (bd (Ab1 k a0) fun r2 => (bd (E7 k a1 a0.1 r2) fun r3 => (br r3 (bd (Aq2 k a0 a1) fun r4 => (br (r4 == a2) (gd (decide (0 ≤ (B8 (a1 - a0.1)))) (gd (decide ((B8 (a1 - a0.1)) ≤ (a0.2.2.1.length : Int))) (gd (decide (([] : List A9).length + (a0.2.2.1.drop (B8 (a1 - a0.1)).toNat).length ≤ A2)) (some (a1, a2, (([] : List A9) ++ (a0.2.2.1.drop (B8 (a1 - a0.1)).toNat)), ()))))) (some (a1, a2, [], ())))) (some (a1, a2, [], ()))))) (some (a1, a2, [], ()))))
noncomputable section
def Bk4 (k : Nat) (L0 : Int → Int → List Int → Int → Int → C4 → List A9 → Option (C4 × A4 × Unit)) (v1 : Int) (v2 : Int) (v3 : List Int) (v4 : Int) (v5 : Int) (a1 : C4) (xs6 : List A9) : Option (C4 × A4 × Unit) := (bd (C5 k (v3, v4, v5, ()) 4) fun r4 => (br (decide (v2 < r4.1)) (bd (C5 k r4.2.1 2) fun r5 => (bd (Ah0 k r5.2.1 (B8 (v1 + r5.1))) fun r6 => (gd (decide (xs6.length + ([r6.1] : List A9).length ≤ A2)) (bd (Ai3 k (a1.1, a1.2.1, (xs6 ++ ([r6.1] : List A9)), ())) fun r7 => (L0 r7.2 (B8 (v2 + 1)) r6.2.1.1 r6.2.1.2.1 r6.2.1.2.2.1 a1 (xs6 ++ ([r6.1] : List A9))))))) (bd (P2 k r4.2.1 4) fun r8 => (br r8.1 (bd (C5 k r8.2.1 (B8 ((xs6.length : Int) + 1))) fun r9 => (bd (Aq2 k (a1.1, a1.2.1, xs6, ()) (B8 (a1.1 + r9.1))) fun r10 => (bd (Au3 k (a1.1, a1.2.1, xs6, ()) (B8 (a1.1 + r9.1)) r10) fun r11 => (some (r11, r9.2.1, ()))))) (some ((a1.1, a1.2.1, xs6, ()), r8.2.1, ()))))))
def U5 (k : Nat) : Nat → Int → Int → List Int → Int → Int → C4 → List A9 → Option (C4 × A4 × Unit)
 | 0, _, _, _, _, _, _, _ => none
 | n + 1, v1, v2, v3, v4, v5, a1, xs6 => Bk4 k (U5 k n) v1 v2 v3 v4 v5 a1 xs6
def Cr7 (k : Nat) (L0 : Int → Int → List Int → Int → Int → C4 → List A9 → Option (C4 × A4 × Unit)) (a0 : A4) (a1 : C4) : Option (C4 × A4 × Unit) := (bd (Ai3 k a1) fun r1 => (bd (P2 k a0 2) fun r2 => (br r2.1 (bd (C5 k r2.2.1 (B8 ((a1.2.2.1.length : Int) + 1))) fun r3 => (gd (decide (0 ≤ r3.1)) (gd (decide (r3.1 ≤ (a1.2.2.1.length : Int))) (gd (decide (([] : List A9).length + (a1.2.2.1.take r3.1.toNat).length ≤ A2)) (L0 r1.2 0 r3.2.1.1 r3.2.1.2.1 r3.2.1.2.2.1 a1 (([] : List A9) ++ (a1.2.2.1.take r3.1.toNat))))))) (gd (decide (0 ≤ (a1.2.2.1.length : Int))) (gd (decide ((a1.2.2.1.length : Int) ≤ (a1.2.2.1.length : Int))) (gd (decide (([] : List A9).length + (a1.2.2.1.take (a1.2.2.1.length : Int).toNat).length ≤ A2)) (L0 r1.2 0 r2.2.1.1 r2.2.1.2.1 r2.2.1.2.2.1 a1 (([] : List A9) ++ (a1.2.2.1.take (a1.2.2.1.length : Int).toNat)))))))))
def Be9 (k : Nat) (a0 : A4) (a1 : C4) : Option (C4 × A4 × Unit) := Cr7 k (U5 k k) a0 a1
end
def Ab8 (k : Nat) (a0 : A4) (a1 : A0) : Option (A0 × A4 × Unit) := (bd (Ai1 k a1) fun r1 => (bd (Be9 k a0 a1.2.2.2.1) fun r2 => (bd (P2 k r2.2.1 2) fun r3 => (br r3.1 (bd (C5 k r3.2.1 3) fun r4 => (bd (C5 k r4.2.1 5) fun r5 => (some ((r1.1, (B8 (a1.2.1 + r4.1)), r5.1, r2.1, ()), r5.2.1, ())))) (some ((r1.1, r1.2.1, r1.2.2.1, r2.1, ()), r3.2.1, ()))))))
noncomputable section
def Bk5 (k : Nat) (L1 : Int → List Int → Int → Int → Int → Int → Int → Int → Int → List A9 → List C7 → Option ((B4 × A0) × A4 × Unit)) (v5 : Int) (v6 : List Int) (v7 : Int) (v8 : Int) (v9 : Int) (v10 : Int) (v11 : Int) (v12 : Int) (v13 : Int) (xs14 : List A9) (xs15 : List C7) : Option ((B4 × A0) × A4 × Unit) := (bd (C5 k (v6, v7, v8, ()) 4) fun r7 => (br (decide (v5 < r7.1)) (bd (Ab8 k r7.2.1 (v9, v10, v11, (v12, v13, xs14, ()), ())) fun r8 => (bd (U9 k (xs15, ()) (v9, v10, v11, (v12, v13, xs14, ()), ()) r8.1) fun r9 => (br r9.2.2 (bd (A41 k (xs15, ()) r9.1) fun r10 => (L1 (B8 (v5 + 1)) r8.2.1.1 r8.2.1.2.1 r8.2.1.2.2.1 r9.2.1.1 r9.2.1.2.1 r9.2.1.2.2.1 r9.2.1.2.2.2.1.1 r9.2.1.2.2.2.1.2.1 r9.2.1.2.2.2.1.2.2.1 r10.1.1)) (L1 (B8 (v5 + 1)) r8.2.1.1 r8.2.1.2.1 r8.2.1.2.2.1 v9 v10 v11 v12 v13 xs14 xs15)))) (some (((xs15, ()), (v9, v10, v11, (v12, v13, xs14, ()), ())), r7.2.1, ()))))
def Bk6 (k : Nat) (L1 : Int → List Int → Int → Int → Int → Int → Int → Int → Int → List A9 → List C7 → Option ((B4 × A0) × A4 × Unit)) (L0 : Int → List Int → Int → Int → A0 → ByteArray → (ByteArray × Bool) → Option ((B4 × A0) × A4 × Unit)) (v1 : Int) (v2 : List Int) (v3 : Int) (v4 : Int) (a1 : A0) (r2 : ByteArray) (r1 : ByteArray × Bool) : Option ((B4 × A0) × A4 × Unit) := (bd (C5 k (v2, v3, v4, ()) 4) fun r3 => (br (decide (v1 < r3.1)) (bd (Ab8 k r3.2.1 a1) fun r4 => (bd (U9 k (([(r2, r1.1, (r1.1.size : Int), ())] : List C7), ()) a1 r4.1) fun r5 => (br r5.2.2 (bd (A41 k (([(r2, r1.1, (r1.1.size : Int), ())] : List C7), ()) r5.1) fun r6 => (L1 (B8 (v1 + 1)) r4.2.1.1 r4.2.1.2.1 r4.2.1.2.2.1 r5.2.1.1 r5.2.1.2.1 r5.2.1.2.2.1 r5.2.1.2.2.2.1.1 r5.2.1.2.2.2.1.2.1 r5.2.1.2.2.2.1.2.2.1 r6.1.1)) (L0 (B8 (v1 + 1)) r4.2.1.1 r4.2.1.2.1 r4.2.1.2.2.1 a1 r2 r1)))) (some (((([(r2, r1.1, (r1.1.size : Int), ())] : List C7), ()), a1), r3.2.1, ()))))
def Ab9 (k : Nat) : Nat → Int → List Int → Int → Int → Int → Int → Int → Int → Int → List A9 → List C7 → Option ((B4 × A0) × A4 × Unit)
 | 0, _, _, _, _, _, _, _, _, _, _, _ => none
 | n + 1, v5, v6, v7, v8, v9, v10, v11, v12, v13, xs14, xs15 => Bk5 k (Ab9 k n) v5 v6 v7 v8 v9 v10 v11 v12 v13 xs14 xs15
def l7 (k : Nat) : Nat → Int → List Int → Int → Int → A0 → ByteArray → (ByteArray × Bool) → Option ((B4 × A0) × A4 × Unit)
 | 0, _, _, _, _, _, _, _ => none
 | n + 1, v1, v2, v3, v4, a1, r2, r1 => Bk6 k (Ab9 k n) (l7 k n) v1 v2 v3 v4 a1 r2 r1
def Bu5 (k : Nat) (L0 : Int → List Int → Int → Int → A0 → ByteArray → (ByteArray × Bool) → Option ((B4 × A0) × A4 × Unit)) (a0 : A4) (a1 : A0) : Option ((B4 × A0) × A4 × Unit) := (bd (p8 k a1) fun r1 => (bd (U8 k a1.1) fun r2 => (L0 0 a0.1 a0.2.1 a0.2.2.1 a1 r2 r1)))
def Ai6 (k : Nat) (a0 : A4) (a1 : A0) : Option ((B4 × A0) × A4 × Unit) := Bu5 k (l7 k k) a0 a1
end
noncomputable section
def Ba5 (k : Nat) (L0 : Int → Int → List Int → Int → Int → (Int × A4 × Unit) → (Int × A4 × Unit) → (Int × A4 × Unit) → List A9 → Option (C4 × A4 × Unit)) (v1 : Int) (v2 : Int) (v3 : List Int) (v4 : Int) (v5 : Int) (r1 : Int × A4 × Unit) (r2 : Int × A4 × Unit) (r3 : Int × A4 × Unit) (xs6 : List A9) : Option (C4 × A4 × Unit) := (bd (C5 k (v3, v4, v5, ()) 8) fun r4 => (br (decide (v2 < r4.1)) (bd (P2 k r4.2.1 3) fun r5 => (br r5.1 (bd (C5 k r5.2.1 2) fun r6 => (bd (Ah0 k r6.2.1 (B8 ((B8 (v1 + 1)) + r6.1))) fun r7 => (gd (decide (xs6.length + ([r7.1] : List A9).length ≤ A2)) (L0 (B8 ((B8 (v1 + 1)) + r6.1)) (B8 (v2 + 1)) r7.2.1.1 r7.2.1.2.1 r7.2.1.2.2.1 r1 r2 r3 (xs6 ++ ([r7.1] : List A9)))))) (bd (Ah0 k r5.2.1 v1) fun r8 => (gd (decide (xs6.length + ([r8.1] : List A9).length ≤ A2)) (L0 v1 (B8 (v2 + 1)) r8.2.1.1 r8.2.1.2.1 r8.2.1.2.2.1 r1 r2 r3 (xs6 ++ ([r8.1] : List A9))))))) (some (((B8 (r1.1 * r2.1)), r3.1, xs6, ()), r4.2.1, ()))))
def Y4 (k : Nat) : Nat → Int → Int → List Int → Int → Int → (Int × A4 × Unit) → (Int × A4 × Unit) → (Int × A4 × Unit) → List A9 → Option (C4 × A4 × Unit)
 | 0, _, _, _, _, _, _, _, _, _ => none
 | n + 1, v1, v2, v3, v4, v5, r1, r2, r3, xs6 => Ba5 k (Y4 k n) v1 v2 v3 v4 v5 r1 r2 r3 xs6
def Cd7 (k : Nat) (L0 : Int → Int → List Int → Int → Int → (Int × A4 × Unit) → (Int × A4 × Unit) → (Int × A4 × Unit) → List A9 → Option (C4 × A4 × Unit)) (a0 : A4) : Option (C4 × A4 × Unit) := (bd (C5 k a0 3) fun r1 => (bd (C5 k r1.2.1 4) fun r2 => (bd (C5 k r2.2.1 3) fun r3 => (L0 r3.1 0 r3.2.1.1 r3.2.1.2.1 r3.2.1.2.2.1 r1 r2 r3 []))))
def A44 (k : Nat) (a0 : A4) : Option (C4 × A4 × Unit) := Cd7 k (Y4 k k) a0
end
def Ah1 (k : Nat) (a0 : A4) : Option (A0 × A4 × Unit) := (bd (A44 k a0) fun r1 => (bd (Ai3 k r1.1) fun r2 => (bd (C5 k r1.2.1 5) fun r3 => (bd (C5 k r3.2.1 2) fun r4 => (bd (C5 k r4.2.1 5) fun r5 => (some ((r3.1, (B8 (r2.2 + r4.1)), r5.1, r1.1, ()), r5.2.1, ())))))))
noncomputable section
def Ak9 (k : Nat) (L0 : List Int → Int → Int → Option (B4 × A0 × A0)) (a0 : List Int) (v1 : Int) (v2 : Int) : Option (B4 × A0 × A0) := (br (decide (v2 < (a0.length : Int))) (br (decide (v2 < 4000)) (gd (decide (0 ≤ v2)) (gd (decide (v2 < (a0.length : Int))) (L0 a0 (E21 .i64 (B8 ((B8 ((B8 (v1 * 131)) + (B8 (rd 0 a0 v2.toNat)))) + 7)) 1073741823) (B8 (v2 + 1))))) (bd (Ah1 k (a0, 0, v1, ())) fun r1 => (bd (Ai6 k r1.2.1 r1.1) fun r2 => (bd (Ab8 k r2.2.1 r2.1.2) fun r3 => (some (r2.1.1, r2.1.2, r3.1)))))) (bd (Ah1 k (a0, 0, v1, ())) fun r4 => (bd (Ai6 k r4.2.1 r4.1) fun r5 => (bd (Ab8 k r5.2.1 r5.1.2) fun r6 => (some (r5.1.1, r5.1.2, r6.1))))))
def O7 (k : Nat) : Nat → List Int → Int → Int → Option (B4 × A0 × A0)
 | 0, _, _, _ => none
 | n + 1, a0, v1, v2 => Ak9 k (O7 k n) a0 v1 v2
def Ap4 (k : Nat) (L0 : List Int → Int → Int → Option (B4 × A0 × A0)) (a0 : List Int) : Option (B4 × A0 × A0) := (L0 a0 (B8 (13101 + (a0.length : Int))) 0)
def U0 (k : Nat) (a0 : List Int) : Option (B4 × A0 × A0) := Ap4 k (O7 k k) a0
end
def M5 (k : Nat) (a0 : Int) (a1 : Int) (a2 : Int) : Option Bool := (br (decide (a0 ≥ a1)) (some (decide (a0 ≤ a2))) (some false))
noncomputable section
def A90 (k : Nat) (L0 : List Int → Int → Option Bool) (a0 : List Int) (v1 : Int) : Option Bool := (br (decide (v1 < (a0.length : Int))) (gd (decide (0 ≤ v1)) (gd (decide (v1 < (a0.length : Int))) (bd (M5 k (rd 0 a0 v1.toNat) 1 4) fun r1 => (br (!r1) (some false) (br (decide (v1 > 0)) (gd (decide (0 ≤ (B8 (v1 - 1)))) (gd (decide ((B8 (v1 - 1)) < (a0.length : Int))) (br (decide ((rd 0 a0 (B8 (v1 - 1)).toNat) ≥ (rd 0 a0 v1.toNat))) (some false) (L0 a0 (B8 (v1 + 1)))))) (L0 a0 (B8 (v1 + 1)))))))) (bd (M5 k (a0.length : Int) 1 4) fun r2 => (some r2)))
def j2 (k : Nat) : Nat → List Int → Int → Option Bool
 | 0, _, _ => none
 | n + 1, a0, v1 => A90 k (j2 k n) a0 v1
def C93 (k : Nat) (L0 : List Int → Int → Option Bool) (a0 : List Int) : Option Bool := (L0 a0 0)
def Bu6 (k : Nat) (a0 : List Int) : Option Bool := C93 k (j2 k k) a0
end
noncomputable section
def Ba6 (k : Nat) (L0 : ByteArray → Int → List Int → Option (List Int × Bool)) (a0 : ByteArray) (v1 : Int) (xs2 : List Int) : Option (List Int × Bool) := (br (decide (v1 < (a0.size : Int))) (gd (decide (0 ≤ v1)) (gd (decide (v1 < (a0.size : Int))) (gd (decide (xs2.length + [(B8 (bt a0 v1.toNat))].length ≤ A2)) (L0 a0 (B8 (v1 + 1)) (xs2 ++ [(B8 (bt a0 v1.toNat))]))))) (bd (Bu6 k xs2) fun r1 => (br (!r1) (some ([], false)) (some (xs2, true)))))
def Y5 (k : Nat) : Nat → ByteArray → Int → List Int → Option (List Int × Bool)
 | 0, _, _, _ => none
 | n + 1, a0, v1, xs2 => Ba6 k (Y5 k n) a0 v1 xs2
def Cd8 (k : Nat) (L0 : ByteArray → Int → List Int → Option (List Int × Bool)) (a0 : ByteArray) : Option (List Int × Bool) := (L0 a0 0 [])
def A45 (k : Nat) (a0 : ByteArray) : Option (List Int × Bool) := Cd8 k (Y5 k k) a0
end
def Ai7 (k : Nat) (a0 : A9) : Option Bool := (bd (M5 k a0.1 0 100000) fun r1 => (br (!r1) (some false) (br (a0.2.1 == 1) (some (a0.2.2.1.toList == (⟨#[]⟩ : ByteArray).toList)) (br (a0.2.1 == 2) (bd (A45 k a0.2.2.1) fun r2 => (some r2.2)) (br (a0.2.1 == 3) (some (decide ((a0.2.2.1.size : Int) ≤ 120))) (some false))))))
noncomputable section
def Bk7 (k : Nat) (L0 : Int → C4 → Int → Option Bool) (v1 : Int) (a0 : C4) (v2 : Int) : Option Bool := (br (decide (v2 < (a0.2.2.1.length : Int))) (gd (decide (0 ≤ v2)) (gd (decide (v2 < (a0.2.2.1.length : Int))) (bd (Ai7 k (rd B2 a0.2.2.1 v2.toNat)) fun r3 => (br (!r3) (some false) (br (decide ((rd B2 a0.2.2.1 v2.toNat).1 < v1)) (some false) (L0 (rd B2 a0.2.2.1 v2.toNat).1 a0 (B8 (v2 + 1)))))))) (some true))
def z7 (k : Nat) : Nat → Int → C4 → Int → Option Bool
 | 0, _, _, _ => none
 | n + 1, v1, a0, v2 => Bk7 k (z7 k n) v1 a0 v2
def Dv1 (k : Nat) (L0 : Int → C4 → Int → Option Bool) (a0 : C4) : Option Bool := (bd (M5 k a0.1 0 1000000) fun r1 => (br (!r1) (some false) (bd (M5 k a0.2.1 0 100000) fun r2 => (br (!r2) (some false) (br (decide ((a0.2.2.1.length : Int) > 60)) (some false) (br (decide ((B8 (a0.1 + (a0.2.2.1.length : Int))) > 1000000)) (some false) (L0 a0.2.1 a0 0)))))))
def A91 (k : Nat) (a0 : C4) : Option Bool := Dv1 k (z7 k k) a0
end
def V0 (k : Nat) (a0 : A0) : Option Bool := (bd (M5 k a0.1 0 999) fun r1 => (br r1 (bd (M5 k a0.2.1 0 100000) fun r2 => (br r2 (bd (M5 k a0.2.2.1 0 4) fun r3 => (br r3 (bd (A91 k a0.2.2.2.1) fun r4 => (some r4)) (some false))) (some false))) (some false)))
noncomputable section
def A02 (k : Nat) (L0 : Int → List Int → Option (ByteArray × Bool)) (a0 : Int) (xs1 : List Int) : Option (ByteArray × Bool) := (br (decide (a0 > 127)) (ng (a0 == a0 && (128 : Int) == 0) (gd (decide (xs1.length + [(IntKind.wrap .u8 (B8 ((Int.tmod a0 128) + 128)))].length ≤ A2)) (ng (a0 == a0 && (128 : Int) == 0) (L0 (B8 (Int.tdiv a0 128)) (xs1 ++ [(IntKind.wrap .u8 (B8 ((Int.tmod a0 128) + 128)))]))))) (gd (decide (xs1.length + [(IntKind.wrap .u8 a0)].length ≤ A2)) (some ((B3 (xs1 ++ [(IntKind.wrap .u8 a0)])), true))))
def l8 (k : Nat) : Nat → Int → List Int → Option (ByteArray × Bool)
 | 0, _, _ => none
 | n + 1, a0, xs1 => A02 k (l8 k n) a0 xs1
def A92 (k : Nat) (L0 : Int → List Int → Option (ByteArray × Bool)) (a0 : Int) : Option (ByteArray × Bool) := (bd (M5 k a0 0 1000000000) fun r1 => (br (!r1) (some ((⟨#[]⟩ : ByteArray), false)) (L0 a0 [])))
def X1 (k : Nat) (a0 : Int) : Option (ByteArray × Bool) := A92 k (l8 k k) a0
end
noncomputable section
def Bk8 (k : Nat) (L1 : Int → ByteArray → Int → Int → Option Int) (a0 : Int) (a1 : ByteArray) (v1 : Int) : Option Int := (br (decide (v1 < (a1.size : Int))) (gd (decide (0 ≤ v1)) (gd (decide (v1 < (a1.size : Int))) (L1 (Fl6 .u32 a0 (IntKind.wrap .u32 (bt a1 v1.toNat))) a1 v1 0))) (some a0))
def Bk9 (k : Nat) (L1 : Int → ByteArray → Int → Int → Option Int) (L0 : Int → ByteArray → Int → Option Int) (v2 : Int) (a1 : ByteArray) (v1 : Int) (v3 : Int) : Option Int := (br (decide (v3 < 8)) (ng (v2 == v2 && (2 : Int) == 0) (ng (v2 == v2 && (2 : Int) == 0) (br ((Int.tmod v2 2) == 1) (L1 (Fl6 .u32 (IntKind.wrap .u32 (Int.tdiv v2 2)) 3558460437) a1 v1 (B8 (v3 + 1))) (L1 (IntKind.wrap .u32 (Int.tdiv v2 2)) a1 v1 (B8 (v3 + 1)))))) (L0 v2 a1 (B8 (v1 + 1))))
def R9 (k : Nat) : Nat → (Int → ByteArray → Int → Option Int) × (Int → ByteArray → Int → Int → Option Int)
 | 0 => (fun _ _ _ => none, fun _ _ _ _ => none)
 | n + 1 => (Bk8 k (R9 k n).2, Bk9 k (R9 k n).2 (R9 k n).1)
def Bl0 (k : Nat) (n : Nat) : Int → ByteArray → Int → Option Int := (R9 k n).1
def D11 (k : Nat) (n : Nat) : Int → ByteArray → Int → Int → Option Int := (R9 k n).2
def Cr8 (k : Nat) (L0 : Int → ByteArray → Int → Option Int) (a0 : Int) (a1 : ByteArray) : Option Int := (L0 a0 a1 0)
def B31 (k : Nat) (a0 : Int) (a1 : ByteArray) : Option Int := Cr8 k (Bl0 k k) a0 a1
end
def Cd9 (k : Nat) (a0 : ByteArray) : Option Int := (bd (B31 k 4294967295 a0) fun r1 => (some r1))
def l9 (k : Nat) (a0 : ByteArray) : Option (ByteArray × Bool) := (bd (M5 k (a0.size : Int) 1 9000) fun r1 => (br (!r1) (some ((⟨#[]⟩ : ByteArray), false)) (bd (X1 k (a0.size : Int)) fun r2 => (bd (Cd9 k a0) fun r3 => (gd (decide (r2.1.size + (B3 [(IntKind.wrap .u8 (Int.fdiv r3 (2 ^ 24))), (IntKind.wrap .u8 (Int.fdiv r3 (2 ^ 16))), (IntKind.wrap .u8 (Int.fdiv r3 (2 ^ 8))), (IntKind.wrap .u8 r3)]).size ≤ A2)) (gd (decide ((r2.1 ++ (B3 [(IntKind.wrap .u8 (Int.fdiv r3 (2 ^ 24))), (IntKind.wrap .u8 (Int.fdiv r3 (2 ^ 16))), (IntKind.wrap .u8 (Int.fdiv r3 (2 ^ 8))), (IntKind.wrap .u8 r3)])).size + a0.size ≤ A2)) (some (((r2.1 ++ (B3 [(IntKind.wrap .u8 (Int.fdiv r3 (2 ^ 24))), (IntKind.wrap .u8 (Int.fdiv r3 (2 ^ 16))), (IntKind.wrap .u8 (Int.fdiv r3 (2 ^ 8))), (IntKind.wrap .u8 r3)])) ++ a0), true))))))))
noncomputable section
def B32 (k : Nat) (L0 : List Int → Int → List Int → Option (ByteArray × Bool)) (a0 : List Int) (v1 : Int) (xs2 : List Int) : Option (ByteArray × Bool) := (br (decide (v1 < (a0.length : Int))) (gd (decide (0 ≤ v1)) (gd (decide (v1 < (a0.length : Int))) (bd (X1 k (rd 0 a0 v1.toNat)) fun r1 => (br (!r1.2) (some ((⟨#[]⟩ : ByteArray), false)) (gd (decide (xs2.length + (D5 r1.1).length ≤ A2)) (L0 a0 (B8 (v1 + 1)) (xs2 ++ (D5 r1.1)))))))) (some ((B3 xs2), true)))
def Aq3 (k : Nat) : Nat → List Int → Int → List Int → Option (ByteArray × Bool)
 | 0, _, _, _ => none
 | n + 1, a0, v1, xs2 => B32 k (Aq3 k n) a0 v1 xs2
def C94 (k : Nat) (L0 : List Int → Int → List Int → Option (ByteArray × Bool)) (a0 : List Int) : Option (ByteArray × Bool) := (L0 a0 0 [])
def B92 (k : Nat) (a0 : List Int) : Option (ByteArray × Bool) := C94 k (Aq3 k k) a0
end
def J7 (k : Nat) (a0 : ByteArray) (a1 : Int) (a2 : Int) : Option ByteArray := (bd (B92 k [a1, a2]) fun r1 => (gd (decide (a0.size + r1.1.size ≤ A2)) (bd (l9 k (a0 ++ r1.1)) fun r2 => (some r2.1))))
def Ai8 (k : Nat) (a0 : Int) (a1 : A9) : Option (ByteArray × Bool) := (bd (Ai7 k a1) fun r1 => (br (!r1) (some ((⟨#[]⟩ : ByteArray), false)) (bd (M5 k a0 1 1000000) fun r2 => (br (!r2) (some ((⟨#[]⟩ : ByteArray), false)) (bd (B92 k [a0, a1.1]) fun r3 => (gd (decide ((⟨#[69]⟩ : ByteArray).size + r3.1.size ≤ A2)) (gd (decide (((⟨#[69]⟩ : ByteArray) ++ r3.1).size + (B3 [(IntKind.wrap .u8 a1.2.1)]).size ≤ A2)) (gd (decide ((((⟨#[69]⟩ : ByteArray) ++ r3.1) ++ (B3 [(IntKind.wrap .u8 a1.2.1)])).size + a1.2.2.1.size ≤ A2)) (some (((((⟨#[69]⟩ : ByteArray) ++ r3.1) ++ (B3 [(IntKind.wrap .u8 a1.2.1)])) ++ a1.2.2.1), true))))))))))
noncomputable section
def Ac0 (k : Nat) (L0 : Int → C4 → List Int → Option ByteArray) (a1 : Int) (a0 : C4) (xs1 : List Int) : Option ByteArray := (br (decide (a1 < (a0.2.2.1.length : Int))) (gd (decide (0 ≤ a1)) (gd (decide (a1 < (a0.2.2.1.length : Int))) (bd (Ai8 k (B8 ((B8 (a0.1 + a1)) + 1)) (rd B2 a0.2.2.1 a1.toNat)) fun r1 => (bd (l9 k r1.1) fun r2 => (gd (decide (xs1.length + (D5 r2.1).length ≤ A2)) (L0 (B8 (a1 + 1)) a0 (xs1 ++ (D5 r2.1)))))))) (some (B3 xs1)))
def Q4 (k : Nat) : Nat → Int → C4 → List Int → Option ByteArray
 | 0, _, _, _ => none
 | n + 1, a1, a0, xs1 => Ac0 k (Q4 k n) a1 a0 xs1
def Bp0 (k : Nat) (L0 : Int → C4 → List Int → Option ByteArray) (a0 : C4) (a1 : Int) : Option ByteArray := (L0 a1 a0 [])
def G2 (k : Nat) (a0 : C4) (a1 : Int) : Option ByteArray := Bp0 k (Q4 k k) a0 a1
end
def q7 (k : Nat) (a0 : A0) : Option (ByteArray × Bool) := (bd (V0 k a0) fun r1 => (br (!r1) (some ((⟨#[]⟩ : ByteArray), false)) (bd (J7 k (⟨#[66]⟩ : ByteArray) a0.2.2.2.1.1 a0.2.2.2.1.2.1) fun r2 => (bd (J7 k (⟨#[72]⟩ : ByteArray) a0.2.1 a0.2.2.1) fun r3 => (gd (decide (r2.size + r3.size ≤ A2)) (bd (G2 k a0.2.2.2.1 0) fun r4 => (gd (decide ((r2 ++ r3).size + r4.size ≤ A2)) (br (decide (((((r2 ++ r3) ++ r4).size : Nat) : Int) > 20000)) (some ((⟨#[]⟩ : ByteArray), false)) (some (((r2 ++ r3) ++ r4), true))))))))))
noncomputable section
def Al0 (k : Nat) (L0 : ByteArray → Int → Int → Int → Option (Int × Int × Bool)) (a0 : ByteArray) (a1 : Int) (v1 : Int) (v2 : Int) : Option (Int × Int × Bool) := (br (decide (v2 < 5)) (br (decide ((B8 (a1 + v2)) < (a0.size : Int))) (gd (decide (0 ≤ (B8 (a1 + v2)))) (gd (decide ((B8 (a1 + v2)) < (a0.size : Int))) (ng ((B8 (bt a0 (B8 (a1 + v2)).toNat)) == (B8 (bt a0 (B8 (a1 + v2)).toNat)) && (128 : Int) == 0) (ng (decide ((B8 (7 * v2)) < 0)) (br (decide ((B8 (bt a0 (B8 (a1 + v2)).toNat)) < 128)) (bd (X1 k (B8 (v1 + (B8 ((Int.tmod (B8 (bt a0 (B8 (a1 + v2)).toNat)) 128) * 2 ^ (min (B8 (7 * v2)).toNat 64)))))) fun r2 => (br (!r2.2) (some (0, 0, false)) (br ((r2.1.size : Int) != (B8 (v2 + 1))) (some (0, 0, false)) (some ((B8 (v1 + (B8 ((Int.tmod (B8 (bt a0 (B8 (a1 + v2)).toNat)) 128) * 2 ^ (min (B8 (7 * v2)).toNat 64))))), (B8 ((B8 (a1 + v2)) + 1)), true))))) (L0 a0 a1 (B8 (v1 + (B8 ((Int.tmod (B8 (bt a0 (B8 (a1 + v2)).toNat)) 128) * 2 ^ (min (B8 (7 * v2)).toNat 64))))) (B8 (v2 + 1)))))))) (some (0, 0, false))) (some (0, 0, false)))
def S0 (k : Nat) : Nat → ByteArray → Int → Int → Int → Option (Int × Int × Bool)
 | 0, _, _, _, _ => none
 | n + 1, a0, a1, v1, v2 => Al0 k (S0 k n) a0 a1 v1 v2
def Bu7 (k : Nat) (L0 : ByteArray → Int → Int → Int → Option (Int × Int × Bool)) (a0 : ByteArray) (a1 : Int) : Option (Int × Int × Bool) := (bd (M5 k a1 0 (a0.size : Int)) fun r1 => (br (!r1) (some (0, 0, false)) (L0 a0 a1 0 0)))
def q8 (k : Nat) (a0 : ByteArray) (a1 : Int) : Option (Int × Int × Bool) := Bu7 k (S0 k k) a0 a1
end
noncomputable section
def Bl1 (k : Nat) (L0 : ByteArray → Int → List ByteArray → Option (List ByteArray × Int)) (a0 : ByteArray) (v1 : Int) (xs2 : List ByteArray) : Option (List ByteArray × Int) := (bd (q8 k a0 v1) fun r1 => (br (!r1.2.2) (some (xs2, v1)) (br (decide (r1.1 > (B8 ((B8 ((a0.size : Int) - r1.2.1)) - 4)))) (some (xs2, v1)) (gd (decide (0 ≤ (B8 ((B8 (r1.2.1 + 4)) + r1.1)))) (gd (decide ((B8 ((B8 (r1.2.1 + 4)) + r1.1)) ≤ (a0.size : Int))) (gd (decide (0 ≤ (B8 (r1.2.1 + 4)))) (gd (decide ((B8 (r1.2.1 + 4)) ≤ (B8 ((B8 (r1.2.1 + 4)) + r1.1)))) (bd (l9 k (a0.extract (B8 (r1.2.1 + 4)).toNat (B8 ((B8 (r1.2.1 + 4)) + r1.1)).toNat)) fun r2 => (br (!r2.2) (some (xs2, v1)) (gd (decide (0 ≤ (B8 ((B8 (r1.2.1 + 4)) + r1.1)))) (gd (decide ((B8 ((B8 (r1.2.1 + 4)) + r1.1)) ≤ (a0.size : Int))) (gd (decide (0 ≤ v1)) (gd (decide (v1 ≤ (B8 ((B8 (r1.2.1 + 4)) + r1.1)))) (br (!(r2.1.toList == (a0.extract v1.toNat (B8 ((B8 (r1.2.1 + 4)) + r1.1)).toNat).toList)) (some (xs2, v1)) (gd (decide (xs2.length + [(a0.extract (B8 (r1.2.1 + 4)).toNat (B8 ((B8 (r1.2.1 + 4)) + r1.1)).toNat)].length ≤ A2)) (L0 a0 (B8 ((B8 (r1.2.1 + 4)) + r1.1)) (xs2 ++ [(a0.extract (B8 (r1.2.1 + 4)).toNat (B8 ((B8 (r1.2.1 + 4)) + r1.1)).toNat)])))))))))))))))))
def m7 (k : Nat) : Nat → ByteArray → Int → List ByteArray → Option (List ByteArray × Int)
 | 0, _, _, _ => none
 | n + 1, a0, v1, xs2 => Bl1 k (m7 k n) a0 v1 xs2
def Cr9 (k : Nat) (L0 : ByteArray → Int → List ByteArray → Option (List ByteArray × Int)) (a0 : ByteArray) : Option (List ByteArray × Int) := (br (decide ((a0.size : Int) > 20000)) (some ([], 0)) (L0 a0 0 []))
def Bf0 (k : Nat) (a0 : ByteArray) : Option (List ByteArray × Int) := Cr9 k (m7 k k) a0
end
def X8 (k : Nat) (a0 : M7) : Option (Int × M7 × Unit) := (bd (q8 k a0.1 a0.2.1) fun r1 => (br a0.2.2.1 (some (0, (a0.1, a0.2.1, true, ()), ())) (br (!r1.2.2) (some (0, (a0.1, a0.2.1, true, ()), ())) (some (r1.1, (a0.1, r1.2.1, a0.2.2), ())))))
def S1 (k : Nat) (a0 : M7) : Option (Int × M7 × Unit) := (br a0.2.2.1 (some (0, (a0.1, a0.2.1, true, ()), ())) (br (decide (a0.2.1 ≥ (a0.1.size : Int))) (some (0, (a0.1, a0.2.1, true, ()), ())) (gd (decide (0 ≤ (B8 ((B8 (a0.2.1 + 1)) - 1)))) (gd (decide ((B8 ((B8 (a0.2.1 + 1)) - 1)) < (a0.1.size : Int))) (some ((B8 (bt a0.1 (B8 ((B8 (a0.2.1 + 1)) - 1)).toNat)), (a0.1, (B8 (a0.2.1 + 1)), a0.2.2), ()))))))
def q9 (k : Nat) (a0 : M7) : Option (Bool × M7 × Unit) := (br (!a0.2.2.1) (some ((a0.2.1 == (a0.1.size : Int)), a0, ())) (some (false, a0, ())))
def Bu8 (k : Nat) (a0 : ByteArray) (a1 : Int) : Option (Int × Int × Bool) := (bd (S1 k (a0, 0, false, ())) fun r1 => (bd (X8 k r1.2.1) fun r2 => (bd (X8 k r2.2.1) fun r3 => (bd (q9 k r3.2.1) fun r4 => (br r4.1 (some (r2.1, r3.1, (r1.1 == (B8 a1)))) (some (r2.1, r3.1, false)))))))
def Au4 (k : Nat) (a0 : ByteArray) : Option (Int × A9 × Bool) := (bd (S1 k (a0, 0, false, ())) fun r1 => (bd (X8 k r1.2.1) fun r2 => (bd (X8 k r2.2.1) fun r3 => (bd (S1 k r3.2.1) fun r4 => (br r4.2.1.2.2.1 (some (0, (0, 0, ByteArray.empty, ()), false)) (br (r1.1 != 69) (some (0, (0, 0, ByteArray.empty, ()), false)) (gd (decide (0 ≤ r4.2.1.2.1)) (gd (decide (r4.2.1.2.1 ≤ (a0.size : Int))) (bd (Ai7 k (r3.1, r4.1, (a0.extract r4.2.1.2.1.toNat a0.size), ())) fun r5 => (br (!r5) (some (0, (0, 0, ByteArray.empty, ()), false)) (bd (M5 k r2.1 1 1000000) fun r6 => (br (!r6) (some (0, (0, 0, ByteArray.empty, ()), false)) (some (r2.1, (r3.1, r4.1, (a0.extract r4.2.1.2.1.toNat a0.size), ()), true))))))))))))))
def I2 (k : Nat) (a0 : C4) : Option C4 := (gd (decide (a0.2.2.1.length ≤ A2)) (some a0))
def C95 (k : Nat) (a0 : C4) : Option Int := (some (B8 (a0.1 + (a0.2.2.1.length : Int))))
def Bu9 (k : Nat) (a0 : C4) (a1 : Int) (a2 : A9) : Option (C4 × Bool) := (bd (A91 k a0) fun r1 => (br (!r1) (some ((0, 0, [], ()), false)) (bd (C95 k a0) fun r2 => (bd (M5 k a1 (B8 (a0.1 + 1)) (B8 (r2 + 1))) fun r3 => (br (!r3) (some ((0, 0, [], ()), false)) (bd (I2 k a0) fun r4 => (gd (decide (0 ≤ (B8 ((B8 (a1 - a0.1)) - 1)))) (gd (decide ((B8 ((B8 (a1 - a0.1)) - 1)) ≤ (r4.2.2.1.length : Int))) (br (decide (((0 + (B8 ((B8 (a1 - a0.1)) - 1)).toNat) + ([a2] : List A9).length) ≤ r4.2.2.1.length)) (bd (A91 k (r4.1, r4.2.1, ((app (0 + (B8 ((B8 (a1 - a0.1)) - 1)).toNat) ([a2] : List A9) r4.2.2.1).take ((0 + (B8 ((B8 (a1 - a0.1)) - 1)).toNat) + ([a2] : List A9).length)), ())) fun r5 => (br (!r5) (some ((0, 0, [], ()), false)) (some ((r4.1, r4.2.1, ((app (0 + (B8 ((B8 (a1 - a0.1)) - 1)).toNat) ([a2] : List A9) r4.2.2.1).take ((0 + (B8 ((B8 (a1 - a0.1)) - 1)).toNat) + ([a2] : List A9).length)), ()), true)))) (gd (decide ((r4.2.2.1.take (0 + (B8 ((B8 (a1 - a0.1)) - 1)).toNat)).length + ([a2] : List A9).length ≤ A2)) (bd (A91 k (r4.1, r4.2.1, ((r4.2.2.1.take (0 + (B8 ((B8 (a1 - a0.1)) - 1)).toNat)) ++ ([a2] : List A9)), ())) fun r6 => (br (!r6) (some ((0, 0, [], ()), false)) (some ((r4.1, r4.2.1, ((r4.2.2.1.take (0 + (B8 ((B8 (a1 - a0.1)) - 1)).toNat)) ++ ([a2] : List A9)), ()), true))))))))))))))
def Bv0 (k : Nat) (a0 : A0) (a1 : ByteArray) : Option (A0 × Bool) := (bd (Bu8 k a1 72) fun r1 => (br r1.2.2 (bd (V0 k (a0.1, r1.1, r1.2.1, a0.2.2.2)) fun r2 => (some ((a0.1, r1.1, r1.2.1, a0.2.2.2), r2))) (bd (Au4 k a1) fun r3 => (br (!r3.2.2) (some (a0, false)) (bd (Bu9 k a0.2.2.2.1 r3.1 r3.2.1) fun r4 => (some ((a0.1, a0.2.1, a0.2.2.1, r4.1, ()), r4.2)))))))
noncomputable section
def Aq4 (k : Nat) (L1 : Int → (List ByteArray × Int) → Int → Int → Int → Int → Int → Int → List A9 → Option (A0 × Int × Bool)) (v1 : Int) (r1 : List ByteArray × Int) (v2 : Int) (v3 : Int) (v4 : Int) (v5 : Int) (v6 : Int) (v7 : Int) (v8 : List A9) : Option (A0 × Int × Bool) := (br (decide (v2 < (((r1.1.length - 1) : Nat) : Int))) (gd (decide (0 ≤ v2)) (gd (decide (v2 < (((r1.1.length - 1) : Nat) : Int))) (bd (Bv0 k (v3, v4, v5, (v6, v7, v8, ()), ()) (rd ByteArray.empty r1.1 (1 + v2.toNat))) fun r8 => (br (!r8.2) (some ((v3, v4, v5, (v6, v7, v8, ()), ()), v1, true)) (bd (l9 k (rd ByteArray.empty r1.1 (1 + v2.toNat))) fun r9 => (L1 (B8 (v1 + (r9.1.size : Int))) r1 (B8 (v2 + 1)) r8.1.1 r8.1.2.1 r8.1.2.2.1 r8.1.2.2.2.1.1 r8.1.2.2.2.1.2.1 r8.1.2.2.2.1.2.2.1)))))) (some ((v3, v4, v5, (v6, v7, v8, ()), ()), v1, true)))
def Ac1 (k : Nat) (L1 : Int → (List ByteArray × Int) → Int → Int → Int → Int → Int → Int → List A9 → Option (A0 × Int × Bool)) (r5 : ByteArray × Bool) (r1 : List ByteArray × Int) (a0 : Int) (r3 : Int × Int × Bool) : Option (A0 × Int × Bool) := (br (decide (0 < (((r1.1.length - 1) : Nat) : Int))) (gd (decide (0 < (((r1.1.length - 1) : Nat) : Int))) (bd (Bv0 k (a0, 0, 0, (r3.1, r3.2.1, [], ()), ()) (rd ByteArray.empty r1.1 1)) fun r6 => (br (!r6.2) (some ((a0, 0, 0, (r3.1, r3.2.1, [], ()), ()), (r5.1.size : Int), true)) (bd (l9 k (rd ByteArray.empty r1.1 1)) fun r7 => (L1 (B8 ((r5.1.size : Int) + (r7.1.size : Int))) r1 1 r6.1.1 r6.1.2.1 r6.1.2.2.1 r6.1.2.2.2.1.1 r6.1.2.2.2.1.2.1 r6.1.2.2.2.1.2.2.1))))) (some ((a0, 0, 0, (r3.1, r3.2.1, [], ()), ()), (r5.1.size : Int), true)))
def V6 (k : Nat) : Nat → Int → (List ByteArray × Int) → Int → Int → Int → Int → Int → Int → List A9 → Option (A0 × Int × Bool)
 | 0, _, _, _, _, _, _, _, _, _ => none
 | n + 1, v1, r1, v2, v3, v4, v5, v6, v7, v8 => Aq4 k (V6 k n) v1 r1 v2 v3 v4 v5 v6 v7 v8
def M0 (k : Nat) : Nat → (ByteArray × Bool) → (List ByteArray × Int) → Int → (Int × Int × Bool) → Option (A0 × Int × Bool)
 | 0, _, _, _, _ => none
 | n + 1, r5, r1, a0, r3 => Ac1 k (V6 k n) r5 r1 a0 r3
def Bp1 (k : Nat) (L0 : (ByteArray × Bool) → (List ByteArray × Int) → Int → (Int × Int × Bool) → Option (A0 × Int × Bool)) (a0 : Int) (a1 : ByteArray) : Option (A0 × Int × Bool) := (bd (Bf0 k a1) fun r1 => (bd (M5 k a0 0 999) fun r2 => (br (!r2) (some ((0, 0, 0, (0, 0, [], ()), ()), 0, false)) (br ((r1.1.length : Int) == 0) (some ((0, 0, 0, (0, 0, [], ()), ()), 0, false)) (gd (decide (0 < (r1.1.length : Int))) (bd (Bu8 k (rd ByteArray.empty r1.1 0) 66) fun r3 => (br (!r3.2.2) (some ((0, 0, 0, (0, 0, [], ()), ()), 0, false)) (bd (V0 k (a0, 0, 0, (r3.1, r3.2.1, [], ()), ())) fun r4 => (br (!r4) (some ((0, 0, 0, (0, 0, [], ()), ()), 0, false)) (gd (decide (0 < (r1.1.length : Int))) (bd (l9 k (rd ByteArray.empty r1.1 0)) fun r5 => (gd (decide (1 ≤ (r1.1.length : Int))) (L0 r5 r1 a0 r3)))))))))))))
def N2 (k : Nat) (a0 : Int) (a1 : ByteArray) : Option (A0 × Int × Bool) := Bp1 k (M0 k k) a0 a1
end
noncomputable section
def A03 (k : Nat) (L0 : Int → C4 → C4 → Option Bool) (v1 : Int) (a0 : C4) (a1 : C4) : Option Bool := (br (decide (v1 < (a0.2.2.1.length : Int))) (gd (decide (0 ≤ v1)) (gd (decide (v1 < (a0.2.2.1.length : Int))) (gd (decide (0 ≤ v1)) (gd (decide (v1 < (a1.2.2.1.length : Int))) (br (!((rd B2 a0.2.2.1 v1.toNat).1 == (rd B2 a1.2.2.1 v1.toNat).1 && ((rd B2 a0.2.2.1 v1.toNat).2.1 == (rd B2 a1.2.2.1 v1.toNat).2.1 && ((rd B2 a0.2.2.1 v1.toNat).2.2.1.toList == (rd B2 a1.2.2.1 v1.toNat).2.2.1.toList && true)))) (some false) (L0 (B8 (v1 + 1)) a0 a1)))))) (some true))
def m8 (k : Nat) : Nat → Int → C4 → C4 → Option Bool
 | 0, _, _, _ => none
 | n + 1, v1, a0, a1 => A03 k (m8 k n) v1 a0 a1
def Cs0 (k : Nat) (L0 : Int → C4 → C4 → Option Bool) (a0 : C4) (a1 : C4) : Option Bool := (br (a0.1 != a1.1) (some false) (br (a0.2.1 != a1.2.1) (some false) (br ((a0.2.2.1.length : Int) != (a1.2.2.1.length : Int)) (some false) (L0 0 a0 a1))))
def Aq5 (k : Nat) (a0 : C4) (a1 : C4) : Option Bool := Cs0 k (m8 k k) a0 a1
end
def Ce0 (k : Nat) (a0 : Int) : Option ByteArray := Fj3 a0
def A26 (k : Nat) (a0 : Int) : Option ByteArray := (bd (Ce0 k a0) fun r1 => (some r1))
def O6 (k : Nat) (a0 : Int) : Option ByteArray := (bd (M5 k a0 0 999) fun r1 => (br (!r1) (some (⟨#[]⟩ : ByteArray)) (bd (A26 k a0) fun r2 => (gd (decide ((⟨#[106]⟩ : ByteArray).size + r2.size ≤ A2)) (some ((⟨#[106]⟩ : ByteArray) ++ r2))))))
noncomputable section
def A93 (k : Nat) (L0 : B4 → Int → ByteArray → Option Int) (a0 : B4) (v1 : Int) (a1 : ByteArray) : Option Int := (br (decide (v1 < (a0.1.length : Int))) (gd (decide (0 ≤ v1)) (gd (decide (v1 < (a0.1.length : Int))) (br ((rd B0 a0.1 v1.toNat).1.toList == a1.toList) (some v1) (L0 a0 (B8 (v1 + 1)) a1)))) (some (-1)))
def z8 (k : Nat) : Nat → B4 → Int → ByteArray → Option Int
 | 0, _, _, _ => none
 | n + 1, a0, v1, a1 => A93 k (z8 k n) a0 v1 a1
def C96 (k : Nat) (L0 : B4 → Int → ByteArray → Option Int) (a0 : B4) (a1 : ByteArray) : Option Int := (L0 a0 0 a1)
def Bf1 (k : Nat) (a0 : B4) (a1 : ByteArray) : Option Int := C96 k (z8 k k) a0 a1
end
def A46 (k : Nat) (a0 : B4) (a1 : ByteArray) : Option (ByteArray × Bool) := (bd (Bf1 k a0 a1) fun r1 => (br (decide (r1 < 0)) (some ((⟨#[]⟩ : ByteArray), false)) (gd (decide (0 ≤ r1)) (gd (decide (r1 < (a0.1.length : Int))) (some ((rd B0 a0.1 r1.toNat).2.1, true))))))
noncomputable section
def A94 (k : Nat) (L0 : B4 → Int → Option Bool) (a0 : B4) (v1 : Int) : Option Bool := (br (decide (v1 < (a0.1.length : Int))) (gd (decide (0 ≤ v1)) (gd (decide (v1 < (a0.1.length : Int))) (bd (M5 k (((rd B0 a0.1 v1.toNat).1.size : Nat) : Int) 1 8) fun r1 => (br (!r1) (some false) (br (decide ((((rd B0 a0.1 v1.toNat).2.1.size : Nat) : Int) > 20000)) (some false) (bd (M5 k (rd B0 a0.1 v1.toNat).2.2.1 0 (((rd B0 a0.1 v1.toNat).2.1.size : Nat) : Int)) fun r2 => (br (!r2) (some false) (br (decide (v1 > 0)) (gd (decide (0 ≤ (B8 (v1 - 1)))) (gd (decide ((B8 (v1 - 1)) < (a0.1.length : Int))) (br (!Op.bytesLess (rd B0 a0.1 (B8 (v1 - 1)).toNat).1.toList (rd B0 a0.1 v1.toNat).1.toList) (some false) (L0 a0 (B8 (v1 + 1)))))) (L0 a0 (B8 (v1 + 1))))))))))) (some (decide ((a0.1.length : Int) ≤ 30))))
def Aa0 (k : Nat) : Nat → B4 → Int → Option Bool
 | 0, _, _ => none
 | n + 1, a0, v1 => A94 k (Aa0 k n) a0 v1
def C97 (k : Nat) (L0 : B4 → Int → Option Bool) (a0 : B4) : Option Bool := (L0 a0 0)
def A47 (k : Nat) (a0 : B4) : Option Bool := C97 k (Aa0 k k) a0
end
noncomputable section
def I6 (k : Nat) (L0 : List A9 → List A9 → Int → Option Bool) (a0 : List A9) (a1 : List A9) (v1 : Int) : Option Bool := (br (decide (v1 < (a0.length : Int))) (gd (decide (0 ≤ v1)) (gd (decide (v1 < (a0.length : Int))) (gd (decide (0 ≤ v1)) (gd (decide (v1 < (a1.length : Int))) (br (!((rd B2 a0 v1.toNat).1 == (rd B2 a1 v1.toNat).1 && ((rd B2 a0 v1.toNat).2.1 == (rd B2 a1 v1.toNat).2.1 && ((rd B2 a0 v1.toNat).2.2.1.toList == (rd B2 a1 v1.toNat).2.2.1.toList && true)))) (some false) (L0 a0 a1 (B8 (v1 + 1)))))))) (some true))
def E4 (k : Nat) : Nat → List A9 → List A9 → Int → Option Bool
 | 0, _, _, _ => none
 | n + 1, a0, a1, v1 => I6 k (E4 k n) a0 a1 v1
def U1 (k : Nat) (L0 : List A9 → List A9 → Int → Option Bool) (a0 : List A9) (a1 : List A9) : Option Bool := (br ((a0.length : Int) != (a1.length : Int)) (some false) (L0 a0 a1 0))
def H7 (k : Nat) (a0 : List A9) (a1 : List A9) : Option Bool := U1 k (E4 k k) a0 a1
end
def Bf2 (k : Nat) (a0 : C4) (a1 : C4) : Option Bool := (br (a0.1 == a1.1) (br (a0.2.1 == a1.2.1) (bd (H7 k a0.2.2.1 a1.2.2.1) fun r1 => (some r1)) (some false)) (some false))
def Ae8 (k : Nat) (a0 : A0) (a1 : A0) : Option Bool := (br (a0.1 == a1.1) (br (a0.2.1 == a1.2.1) (br (a0.2.2.1 == a1.2.2.1) (bd (Bf2 k a0.2.2.2.1 a1.2.2.2.1) fun r1 => (some r1)) (some false)) (some false)) (some false))
def B33 (k : Nat) (a0 : B4) (a1 : ByteArray) : Option Bool := (bd (Bf1 k a0 a1) fun r1 => (some (decide (r1 ≥ 0))))
def W7 (k : Nat) (a0 : Int) (a1 : A0) : Option (List E8 × A0 × Bool) := (bd (I2 k a1.2.2.2.1) fun r1 => (bd (q7 k ((B8 (a0 + 1)), a1.2.1, a1.2.2.1, r1, ())) fun r2 => (bd (O6 k (B8 (a0 + 1))) fun r3 => (br (!r2.2) (some ([], (0, 0, 0, (0, 0, [], ()), ()), false)) (br (r3.toList == (⟨#[]⟩ : ByteArray).toList) (some ([], (0, 0, 0, (0, 0, [], ()), ()), false)) (bd (O6 k a0) fun r4 => (some (([(1, (⟨#[106, 43]⟩ : ByteArray), r2.1, ByteArray.empty, ()), (2, (⟨#[106, 43]⟩ : ByteArray), ByteArray.empty, ByteArray.empty, ()), (3, (⟨#[106, 43]⟩ : ByteArray), ByteArray.empty, r3, ()), (4, r4, ByteArray.empty, ByteArray.empty, ())] : List E8), ((B8 (a0 + 1)), a1.2.1, a1.2.2.1, r1, ()), true))))))))
noncomputable section
def Aq6 (k : Nat) (L0 : ByteArray → (ByteArray × Bool) → Int → A0 → A0 → Option (List E8 × A0 × Bool)) (r1 : ByteArray) (r2 : ByteArray × Bool) (v1 : Int) (a1 : A0) (a2 : A0) : Option (List E8 × A0 × Bool) := (br (decide (v1 < (if (a2.2.2.2.1.2.2.1.length : Int) < (a1.2.2.2.1.2.2.1.length : Int) then (a2.2.2.2.1.2.2.1.length : Int) else (a1.2.2.2.1.2.2.1.length : Int)))) (gd (decide (0 ≤ v1)) (gd (decide (v1 < (a1.2.2.2.1.2.2.1.length : Int))) (gd (decide (0 ≤ v1)) (gd (decide (v1 < (a2.2.2.2.1.2.2.1.length : Int))) (br ((rd B2 a1.2.2.2.1.2.2.1 v1.toNat).1 == (rd B2 a2.2.2.2.1.2.2.1 v1.toNat).1 && ((rd B2 a1.2.2.2.1.2.2.1 v1.toNat).2.1 == (rd B2 a2.2.2.2.1.2.2.1 v1.toNat).2.1 && ((rd B2 a1.2.2.2.1.2.2.1 v1.toNat).2.2.1.toList == (rd B2 a2.2.2.2.1.2.2.1 v1.toNat).2.2.1.toList && true))) (L0 r1 r2 (B8 (v1 + 1)) a1 a2) (br (v1 == (a2.2.2.2.1.2.2.1.length : Int)) (br (a1.2.2.2.1.1 != a2.2.2.2.1.1) (bd (W7 k a1.1 a2) fun r9 => (some (r9.1, r9.2.1, r9.2.2))) (br (a1.2.2.2.1.2.1 != a2.2.2.2.1.2.1) (bd (W7 k a1.1 a2) fun r10 => (some (r10.1, r10.2.1, r10.2.2))) (br (decide (v1 < (a1.2.2.2.1.2.2.1.length : Int))) (bd (W7 k a1.1 a2) fun r11 => (some (r11.1, r11.2.1, r11.2.2))) (br (decide ((r2.1.size : Int) > 400)) (bd (W7 k a1.1 a2) fun r12 => (some (r12.1, r12.2.1, r12.2.2))) (br (a1.2.1 != a2.2.1) (bd (J7 k (⟨#[72]⟩ : ByteArray) a2.2.1 a2.2.2.1) fun r13 => (bd (G2 k a2.2.2.2.1 v1) fun r14 => (gd (decide (r13.size + r14.size ≤ A2)) (bd (I2 k a2.2.2.2.1) fun r15 => (br ((r13 ++ r14).toList == (⟨#[]⟩ : ByteArray).toList) (some ([], (a1.1, a2.2.1, a2.2.2.1, r15, ()), true)) (some (([(1, r1, (r13 ++ r14), ByteArray.empty, ()), (2, r1, ByteArray.empty, ByteArray.empty, ())] : List E8), (a1.1, a2.2.1, a2.2.2.1, r15, ()), true))))))) (br (a1.2.2.1 != a2.2.2.1) (bd (J7 k (⟨#[72]⟩ : ByteArray) a2.2.1 a2.2.2.1) fun r16 => (bd (G2 k a2.2.2.2.1 v1) fun r17 => (gd (decide (r16.size + r17.size ≤ A2)) (bd (I2 k a2.2.2.2.1) fun r18 => (br ((r16 ++ r17).toList == (⟨#[]⟩ : ByteArray).toList) (some ([], (a1.1, a2.2.1, a2.2.2.1, r18, ()), true)) (some (([(1, r1, (r16 ++ r17), ByteArray.empty, ()), (2, r1, ByteArray.empty, ByteArray.empty, ())] : List E8), (a1.1, a2.2.1, a2.2.2.1, r18, ()), true))))))) (bd (G2 k a2.2.2.2.1 v1) fun r19 => (gd (decide ((⟨#[]⟩ : ByteArray).size + r19.size ≤ A2)) (bd (I2 k a2.2.2.2.1) fun r20 => (br (((⟨#[]⟩ : ByteArray) ++ r19).toList == (⟨#[]⟩ : ByteArray).toList) (some ([], (a1.1, a2.2.1, a2.2.2.1, r20, ()), true)) (some (([(1, r1, ((⟨#[]⟩ : ByteArray) ++ r19), ByteArray.empty, ()), (2, r1, ByteArray.empty, ByteArray.empty, ())] : List E8), (a1.1, a2.2.1, a2.2.2.1, r20, ()), true)))))))))))) (br (a1.2.2.2.1.1 != a2.2.2.2.1.1) (bd (W7 k a1.1 a2) fun r21 => (some (r21.1, r21.2.1, r21.2.2))) (br (a1.2.2.2.1.2.1 != a2.2.2.2.1.2.1) (bd (W7 k a1.1 a2) fun r22 => (some (r22.1, r22.2.1, r22.2.2))) (br (decide ((r2.1.size : Int) > 400)) (bd (W7 k a1.1 a2) fun r23 => (some (r23.1, r23.2.1, r23.2.2))) (br (a1.2.1 != a2.2.1) (bd (J7 k (⟨#[72]⟩ : ByteArray) a2.2.1 a2.2.2.1) fun r24 => (bd (G2 k a2.2.2.2.1 v1) fun r25 => (gd (decide (r24.size + r25.size ≤ A2)) (bd (I2 k a2.2.2.2.1) fun r26 => (br ((r24 ++ r25).toList == (⟨#[]⟩ : ByteArray).toList) (some ([], (a1.1, a2.2.1, a2.2.2.1, r26, ()), true)) (some (([(1, r1, (r24 ++ r25), ByteArray.empty, ()), (2, r1, ByteArray.empty, ByteArray.empty, ())] : List E8), (a1.1, a2.2.1, a2.2.2.1, r26, ()), true))))))) (br (a1.2.2.1 != a2.2.2.1) (bd (J7 k (⟨#[72]⟩ : ByteArray) a2.2.1 a2.2.2.1) fun r27 => (bd (G2 k a2.2.2.2.1 v1) fun r28 => (gd (decide (r27.size + r28.size ≤ A2)) (bd (I2 k a2.2.2.2.1) fun r29 => (br ((r27 ++ r28).toList == (⟨#[]⟩ : ByteArray).toList) (some ([], (a1.1, a2.2.1, a2.2.2.1, r29, ()), true)) (some (([(1, r1, (r27 ++ r28), ByteArray.empty, ()), (2, r1, ByteArray.empty, ByteArray.empty, ())] : List E8), (a1.1, a2.2.1, a2.2.2.1, r29, ()), true))))))) (bd (G2 k a2.2.2.2.1 v1) fun r30 => (gd (decide ((⟨#[]⟩ : ByteArray).size + r30.size ≤ A2)) (bd (I2 k a2.2.2.2.1) fun r31 => (br (((⟨#[]⟩ : ByteArray) ++ r30).toList == (⟨#[]⟩ : ByteArray).toList) (some ([], (a1.1, a2.2.1, a2.2.2.1, r31, ()), true)) (some (([(1, r1, ((⟨#[]⟩ : ByteArray) ++ r30), ByteArray.empty, ()), (2, r1, ByteArray.empty, ByteArray.empty, ())] : List E8), (a1.1, a2.2.1, a2.2.2.1, r31, ()), true))))))))))))))))) (br (v1 == (a2.2.2.2.1.2.2.1.length : Int)) (br (a1.2.2.2.1.1 != a2.2.2.2.1.1) (bd (W7 k a1.1 a2) fun r32 => (some (r32.1, r32.2.1, r32.2.2))) (br (a1.2.2.2.1.2.1 != a2.2.2.2.1.2.1) (bd (W7 k a1.1 a2) fun r33 => (some (r33.1, r33.2.1, r33.2.2))) (br (decide (v1 < (a1.2.2.2.1.2.2.1.length : Int))) (bd (W7 k a1.1 a2) fun r34 => (some (r34.1, r34.2.1, r34.2.2))) (br (decide ((r2.1.size : Int) > 400)) (bd (W7 k a1.1 a2) fun r35 => (some (r35.1, r35.2.1, r35.2.2))) (br (a1.2.1 != a2.2.1) (bd (J7 k (⟨#[72]⟩ : ByteArray) a2.2.1 a2.2.2.1) fun r36 => (bd (G2 k a2.2.2.2.1 v1) fun r37 => (gd (decide (r36.size + r37.size ≤ A2)) (bd (I2 k a2.2.2.2.1) fun r38 => (br ((r36 ++ r37).toList == (⟨#[]⟩ : ByteArray).toList) (some ([], (a1.1, a2.2.1, a2.2.2.1, r38, ()), true)) (some (([(1, r1, (r36 ++ r37), ByteArray.empty, ()), (2, r1, ByteArray.empty, ByteArray.empty, ())] : List E8), (a1.1, a2.2.1, a2.2.2.1, r38, ()), true))))))) (br (a1.2.2.1 != a2.2.2.1) (bd (J7 k (⟨#[72]⟩ : ByteArray) a2.2.1 a2.2.2.1) fun r39 => (bd (G2 k a2.2.2.2.1 v1) fun r40 => (gd (decide (r39.size + r40.size ≤ A2)) (bd (I2 k a2.2.2.2.1) fun r41 => (br ((r39 ++ r40).toList == (⟨#[]⟩ : ByteArray).toList) (some ([], (a1.1, a2.2.1, a2.2.2.1, r41, ()), true)) (some (([(1, r1, (r39 ++ r40), ByteArray.empty, ()), (2, r1, ByteArray.empty, ByteArray.empty, ())] : List E8), (a1.1, a2.2.1, a2.2.2.1, r41, ()), true))))))) (bd (G2 k a2.2.2.2.1 v1) fun r42 => (gd (decide ((⟨#[]⟩ : ByteArray).size + r42.size ≤ A2)) (bd (I2 k a2.2.2.2.1) fun r43 => (br (((⟨#[]⟩ : ByteArray) ++ r42).toList == (⟨#[]⟩ : ByteArray).toList) (some ([], (a1.1, a2.2.1, a2.2.2.1, r43, ()), true)) (some (([(1, r1, ((⟨#[]⟩ : ByteArray) ++ r42), ByteArray.empty, ()), (2, r1, ByteArray.empty, ByteArray.empty, ())] : List E8), (a1.1, a2.2.1, a2.2.2.1, r43, ()), true)))))))))))) (br (a1.2.2.2.1.1 != a2.2.2.2.1.1) (bd (W7 k a1.1 a2) fun r44 => (some (r44.1, r44.2.1, r44.2.2))) (br (a1.2.2.2.1.2.1 != a2.2.2.2.1.2.1) (bd (W7 k a1.1 a2) fun r45 => (some (r45.1, r45.2.1, r45.2.2))) (br (decide ((r2.1.size : Int) > 400)) (bd (W7 k a1.1 a2) fun r46 => (some (r46.1, r46.2.1, r46.2.2))) (br (a1.2.1 != a2.2.1) (bd (J7 k (⟨#[72]⟩ : ByteArray) a2.2.1 a2.2.2.1) fun r47 => (bd (G2 k a2.2.2.2.1 v1) fun r48 => (gd (decide (r47.size + r48.size ≤ A2)) (bd (I2 k a2.2.2.2.1) fun r49 => (br ((r47 ++ r48).toList == (⟨#[]⟩ : ByteArray).toList) (some ([], (a1.1, a2.2.1, a2.2.2.1, r49, ()), true)) (some (([(1, r1, (r47 ++ r48), ByteArray.empty, ()), (2, r1, ByteArray.empty, ByteArray.empty, ())] : List E8), (a1.1, a2.2.1, a2.2.2.1, r49, ()), true))))))) (br (a1.2.2.1 != a2.2.2.1) (bd (J7 k (⟨#[72]⟩ : ByteArray) a2.2.1 a2.2.2.1) fun r50 => (bd (G2 k a2.2.2.2.1 v1) fun r51 => (gd (decide (r50.size + r51.size ≤ A2)) (bd (I2 k a2.2.2.2.1) fun r52 => (br ((r50 ++ r51).toList == (⟨#[]⟩ : ByteArray).toList) (some ([], (a1.1, a2.2.1, a2.2.2.1, r52, ()), true)) (some (([(1, r1, (r50 ++ r51), ByteArray.empty, ()), (2, r1, ByteArray.empty, ByteArray.empty, ())] : List E8), (a1.1, a2.2.1, a2.2.2.1, r52, ()), true))))))) (bd (G2 k a2.2.2.2.1 v1) fun r53 => (gd (decide ((⟨#[]⟩ : ByteArray).size + r53.size ≤ A2)) (bd (I2 k a2.2.2.2.1) fun r54 => (br (((⟨#[]⟩ : ByteArray) ++ r53).toList == (⟨#[]⟩ : ByteArray).toList) (some ([], (a1.1, a2.2.1, a2.2.2.1, r54, ()), true)) (some (([(1, r1, ((⟨#[]⟩ : ByteArray) ++ r53), ByteArray.empty, ()), (2, r1, ByteArray.empty, ByteArray.empty, ())] : List E8), (a1.1, a2.2.1, a2.2.2.1, r54, ()), true)))))))))))))
def Q5 (k : Nat) : Nat → ByteArray → (ByteArray × Bool) → Int → A0 → A0 → Option (List E8 × A0 × Bool)
 | 0, _, _, _, _, _ => none
 | n + 1, r1, r2, v1, a1, a2 => Aq6 k (Q5 k n) r1 r2 v1 a1 a2
def Ax3 (k : Nat) (L0 : ByteArray → (ByteArray × Bool) → Int → A0 → A0 → Option (List E8 × A0 × Bool)) (a0 : B4) (a1 : A0) (a2 : A0) : Option (List E8 × A0 × Bool) := (bd (O6 k a1.1) fun r1 => (bd (A46 k a0 r1) fun r2 => (bd (N2 k a1.1 r2.1) fun r3 => (bd (A47 k a0) fun r4 => (br (!r4) (some ([], (0, 0, 0, (0, 0, [], ()), ()), false)) (bd (V0 k a1) fun r5 => (br (!r5) (some ([], (0, 0, 0, (0, 0, [], ()), ()), false)) (bd (V0 k a2) fun r6 => (br (!r6) (some ([], (0, 0, 0, (0, 0, [], ()), ()), false)) (br (!r2.2) (some ([], (0, 0, 0, (0, 0, [], ()), ()), false)) (br (!r3.2.2) (some ([], (0, 0, 0, (0, 0, [], ()), ()), false)) (bd (Ae8 k r3.1 a1) fun r7 => (br (!r7) (some ([], (0, 0, 0, (0, 0, [], ()), ()), false)) (br (r3.2.1 != (r2.1.size : Int)) (some ([], (0, 0, 0, (0, 0, [], ()), ()), false)) (bd (B33 k a0 (⟨#[106, 43]⟩ : ByteArray)) fun r8 => (br r8 (some ([], (0, 0, 0, (0, 0, [], ()), ()), false)) (L0 r1 r2 0 a1 a2)))))))))))))))))
def s5 (k : Nat) (a0 : B4) (a1 : A0) (a2 : A0) : Option (List E8 × A0 × Bool) := Ax3 k (Q5 k k) a0 a1 a2
end
def M1 (k : Nat) (a0 : ByteArray) (a1 : ByteArray) : Option Bool := (br (decide ((a0.size : Int) ≥ (a1.size : Int))) (gd (decide (0 ≤ (a1.size : Int))) (gd (decide ((a1.size : Int) ≤ (a0.size : Int))) (some ((a0.extract 0 (a1.size : Int).toNat).toList == a1.toList)))) (some false))
def M2 (k : Nat) (a0 : ByteArray) (a1 : ByteArray) : Option (ByteArray × Bool) := (bd (M1 k a0 a1) fun r1 => (br (!r1) (some (a0, false)) (gd (decide (0 ≤ (a1.size : Int))) (gd (decide ((a1.size : Int) ≤ (a0.size : Int))) (some ((a0.extract (a1.size : Int).toNat a0.size), true))))))
def t6 (k : Nat) (a0 : ByteArray) (a1 : ByteArray) : Option (ByteArray × Bool) := (bd (M2 k a0 a1) fun r1 => (some (r1.1, r1.2)))
def B65 (k : Nat) (a0 : ByteArray) : Option (Int × Bool) := Fj4 a0
def m9 (k : Nat) (a0 : ByteArray) (a1 : ByteArray) (a2 : Int) : Option Int := (bd (t6 k a0 a1) fun r1 => (bd (B65 k r1.1) fun r2 => (br (!r1.2) (some (-1)) (br (!r2.2) (some (-1)) (br (decide (r2.1 > a2)) (some (-1)) (some r2.1))))))
noncomputable section
def Ac2 (k : Nat) (L1 : Int → (ByteArray × Bool) → (A0 × Int × Bool) → B4 → Int → List E8 → Option (A0 × List E8 × Bool)) (v1 : Int) (r4 : ByteArray × Bool) (r5 : A0 × Int × Bool) (a0 : B4) (v3 : Int) (xs4 : List E8) : Option (A0 × List E8 × Bool) := (br (decide (v3 < (a0.1.length : Int))) (gd (decide (0 ≤ v3)) (gd (decide (v3 < (a0.1.length : Int))) (bd (m9 k (rd B0 a0.1 v3.toNat).1 (⟨#[106]⟩ : ByteArray) 999) fun r6 => (br ((rd B0 a0.1 v3.toNat).1.toList == (⟨#[106, 43]⟩ : ByteArray).toList) (gd (decide (xs4.length + ([(4, (rd B0 a0.1 v3.toNat).1, ByteArray.empty, ByteArray.empty, ())] : List E8).length ≤ A2)) (L1 v1 r4 r5 a0 (B8 (v3 + 1)) (xs4 ++ ([(4, (rd B0 a0.1 v3.toNat).1, ByteArray.empty, ByteArray.empty, ())] : List E8)))) (br (decide (r6 ≥ 0)) (br (r6 != v1) (gd (decide (xs4.length + ([(4, (rd B0 a0.1 v3.toNat).1, ByteArray.empty, ByteArray.empty, ())] : List E8).length ≤ A2)) (L1 v1 r4 r5 a0 (B8 (v3 + 1)) (xs4 ++ ([(4, (rd B0 a0.1 v3.toNat).1, ByteArray.empty, ByteArray.empty, ())] : List E8)))) (L1 v1 r4 r5 a0 (B8 (v3 + 1)) xs4)) (L1 v1 r4 r5 a0 (B8 (v3 + 1)) xs4)))))) (br (r5.2.1 == (r4.1.size : Int)) (some (r5.1, xs4, true)) (bd (W7 k v1 r5.1) fun r7 => (br (!r7.2.2) (some ((0, 0, 0, (0, 0, [], ()), ()), [], false)) (gd (decide (xs4.length + r7.1.length ≤ A2)) (some (r7.2.1, (xs4 ++ r7.1), true)))))))
def Ac3 (k : Nat) (L0 : Int → B4 → Int → Option (A0 × List E8 × Bool)) (L1 : Int → (ByteArray × Bool) → (A0 × Int × Bool) → B4 → Int → List E8 → Option (A0 × List E8 × Bool)) (v1 : Int) (a0 : B4) (v2 : Int) : Option (A0 × List E8 × Bool) := (br (decide (v2 < (a0.1.length : Int))) (gd (decide (0 ≤ v2)) (gd (decide (v2 < (a0.1.length : Int))) (bd (m9 k (rd B0 a0.1 v2.toNat).1 (⟨#[106]⟩ : ByteArray) 999) fun r1 => (L0 (if r1 > v1 then r1 else v1) a0 (B8 (v2 + 1)))))) (bd (A47 k a0) fun r2 => (br (!r2) (some ((0, 0, 0, (0, 0, [], ()), ()), [], false)) (br (decide (v1 < 0)) (some ((0, 0, 0, (0, 0, [], ()), ()), [], false)) (bd (O6 k v1) fun r3 => (bd (A46 k a0 r3) fun r4 => (bd (N2 k v1 r4.1) fun r5 => (br (!r5.2.2) (some ((0, 0, 0, (0, 0, [], ()), ()), [], false)) (L1 v1 r4 r5 a0 0 [])))))))))
def V7 (k : Nat) : Nat → Int → (ByteArray × Bool) → (A0 × Int × Bool) → B4 → Int → List E8 → Option (A0 × List E8 × Bool)
 | 0, _, _, _, _, _, _ => none
 | n + 1, v1, r4, r5, a0, v3, xs4 => Ac2 k (V7 k n) v1 r4 r5 a0 v3 xs4
def Q6 (k : Nat) : Nat → Int → B4 → Int → Option (A0 × List E8 × Bool)
 | 0, _, _, _ => none
 | n + 1, v1, a0, v2 => Ac3 k (Q6 k n) (V7 k n) v1 a0 v2
def Bp2 (k : Nat) (L0 : Int → B4 → Int → Option (A0 × List E8 × Bool)) (a0 : B4) : Option (A0 × List E8 × Bool) := (L0 (-1) a0 0)
def s6 (k : Nat) (a0 : B4) : Option (A0 × List E8 × Bool) := Bp2 k (Q6 k k) a0
end
noncomputable section
def Bl2 (k : Nat) (L0 : Int → B4 → Option Bool) (v1 : Int) (a0 : B4) : Option Bool := (br (decide (v1 < (a0.1.length : Int))) (gd (decide (0 ≤ v1)) (gd (decide (v1 < (a0.1.length : Int))) (gd (decide (0 ≤ v1)) (gd (decide (v1 < (a0.1.length : Int))) (br (decide ((rd B0 a0.1 v1.toNat).2.2.1 < (((rd B0 a0.1 v1.toNat).2.1.size : Nat) : Int))) (some false) (L0 (B8 (v1 + 1)) a0)))))) (some true))
def Ac4 (k : Nat) : Nat → Int → B4 → Option Bool
 | 0, _, _ => none
 | n + 1, v1, a0 => Bl2 k (Ac4 k n) v1 a0
def Cs1 (k : Nat) (L0 : Int → B4 → Option Bool) (a0 : B4) : Option Bool := (bd (F9 k a0) fun r1 => (br (!r1) (some false) (L0 0 a0)))
def Bf3 (k : Nat) (a0 : B4) : Option Bool := Cs1 k (Ac4 k k) a0
end
def Ac5 (k : Nat) (a0 : List Int) : Option Bool := (bd (Eg7 k a0) fun r1 => (br r1 (some true) (bd (U0 k a0) fun r2 => (bd (q7 k r2.2.1) fun r3 => (bd (N2 k r2.2.1.1 r3.1) fun r4 => (br (!r3.2) (some false) (br (!r4.2.2) (some false) (br (r4.2.1 != (r3.1.size : Int)) (some false) (br (r4.1.2.1 != r2.2.1.2.1) (some false) (br (r4.1.2.2.1 != r2.2.1.2.2.1) (some false) (bd (Aq5 k r4.1.2.2.2.1 r2.2.1.2.2.2.1) fun r5 => (br (!r5) (some false) (bd (V0 k r2.2.1) fun r6 => (br (!r6) (some false) (bd (s5 k r2.1 r2.2.1 r2.2.2) fun r7 => (bd (U9 k r2.1 r2.2.1 r2.2.2) fun r8 => (br (!(r7.2.2 == r8.2.2)) (some false) (br (!r7.2.2) (some ((r7.1.length : Int) == 0)) (bd (A41 k r2.1 r7.1) fun r9 => (bd (s6 k r9.1) fun r10 => (br (r9.2 == (r7.1.length : Int)) (br r10.2.2 (br ((r10.2.1.length : Int) == 0) (br (r10.1.1 == r7.2.1.1) (br (r10.1.2.1 == r2.2.2.2.1) (br (r10.1.2.2.1 == r2.2.2.2.2.1) (bd (Aq5 k r10.1.2.2.2.1 r2.2.2.2.2.2.1) fun r11 => (br r11 (bd (Aq5 k r7.2.1.2.2.2.1 r2.2.2.2.2.2.1) fun r12 => (br r12 (bd (Bf3 k r9.1) fun r13 => (br r13 (bd (O6 k r7.2.1.1) fun r14 => (some (!(r14.toList == (⟨#[]⟩ : ByteArray).toList)))) (some false))) (some false))) (some false))) (some false)) (some false)) (some false)) (some false)) (some false)) (some false))))))))))))))))))))))
noncomputable section
end
noncomputable section
end
noncomputable section
end
noncomputable section
end
end Go.Vm
end
section
set_option linter.unusedVariables false
set_option linter.unusedSimpArgs false
namespace Go.Vm
open Go
def D12 (x : List Int) : Nat := x.length
def As8 (x : C1) : Nat := D12 x.2.2.2.2.2.1 + (x.2.2.2.2.2.2.1.size + (D12 x.2.2.2.2.2.2.2.1 + (0)))
def Bf4 (x : H9) : Nat := As8 x.2.2.2.1 + (0)
end Go.Vm
end
section
set_option linter.unusedVariables false
set_option linter.unusedSimpArgs false
namespace Go.Vm
open Go
def i6 (a b c : Int) : Bool := decide (b ≤ a) && decide (a ≤ c)
theorem I0 (k : Nat) (a b c : Int) : E7 k a b c = some (i6 a b c) := by
 unfold E7 i6
 by_cases h : a ≥ b
 ·have : b ≤ a := h
  simp [h, this]
 ·have : ¬ b ≤ a := h
  simp [h, this]
theorem N0 (k : Nat) (a b c : Int) : M5 k a b c = some (i6 a b c) := I0 k a b c
abbrev T4 (e : C1) : Int := e.2.1
abbrev S3 (e : C1) : Int := e.2.2.1
abbrev Ad7 (e : C1) : Int := e.2.2.2.1
abbrev P8 (e : C1) : Int := e.2.2.2.2.1
abbrev E5 (e : C1) : List Int := e.2.2.2.2.2.1
abbrev T5 (e : C1) : ByteArray := e.2.2.2.2.2.2.1
abbrev I4 (e : C1) : List Int := e.2.2.2.2.2.2.2.1
abbrev Aa1 (e : C1) : Int := e.2.2.2.2.2.2.2.2.1
def E41 (l : List Int) : Bool := Cx2 l.length (fun i => i6 (rd 0 l i) 0 100) && ((l.length : Int) == 5)
theorem C98 (l : List Int) (hs : l.length ≤ 1048576) : Ev (fun k => X7 k l) (E41 l) := by
 have h := E40 (l := fun k n i => W0 k n l (i : Int)) l.length (fun i => i6 (rd 0 l i) 0 100) ((l.length : Int) == 5) false (fun i hi => ⟨0, fun k _ n => by
  have e := Z5 hi (by omega)
  simp only [W0, Ak6, hi, Int.ofNat_lt, Int.natCast_nonneg, decide_true, br_true, gd_true, Int.toNat_natCast, e, I0, bd_some, E39]⟩) ⟨0, fun k _ n => by simp [W0, Ak6]⟩
 refine h.congr_val (g := fun k => X7 k l) (fun k => rfl) ?_
 unfold E41
 cases Cx2 l.length (fun i => i6 (rd 0 l i) 0 100) <;> rfl
def Ce1 {α : Type} (l : List α) : Bool := (l.length : Int) == 0
theorem gt0 {α : Type} (l : List α) : decide ((l.length : Int) > 0) = !Ce1 l := by
 unfold Ce1
 cases l with
 | nil => rfl
 | cons x l => simp; omega
def Cs2 (e : C1) : Bool := bif T4 e == 3 then E41 (E5 e) else Ce1 (E5 e)
def B93 (e : C1) (i : Nat) : Bool := i6 (rd 0 (I4 e) i) 1 1000000 && !(rd 0 (I4 e) i == e.1) && (i == 0 || decide (rd 0 (I4 e) (i - 1) < rd 0 (I4 e) i))
def E42 (e : C1) : Bool := Cx2 (I4 e).length (B93 e) && (decide (((I4 e).length : Int) ≤ 3) && ((T4 e == 1) == Ce1 (I4 e)))
theorem Fo5 (e : C1) (hs : (I4 e).length ≤ 1048576) : Ev (fun k => U4 k k 0 e) (Cx2 (I4 e).length (B93 e)) := by
 have h := E40 (l := fun k n i => U4 k n (i : Int) e) (I4 e).length (B93 e) true false (fun i hi => ⟨0, fun k _ n => by
  have e1 := Z5 hi (by omega)
  simp only [U4, A00, hi, Int.ofNat_lt, Int.natCast_nonneg, decide_true, br_true, gd_true, Int.toNat_natCast, e1, I0, bd_some, E39, B93]
  cases i6 (rd 0 (I4 e) i) 1 1000000 <;> cases (rd 0 (I4 e) i == e.1) <;> simp
  cases i with
  | zero => simp
  | succ j =>
   have e2 := Cd1 (i := j + 1) (by omega) (by omega)
   have h3 : (j : Int) < (I4 e).length := by omega
   have h4 : (0 : Int) < ((j + 1 : Nat) : Int) := by omega
   simp only [e2, Nat.add_sub_cancel, h3, h4, decide_true, br_true, gd_true, Int.toNat_natCast, Int.natCast_nonneg]
   by_cases h5 : rd 0 (I4 e) (j + 1) ≤ rd 0 (I4 e) j
   ·simp [h5, Int.not_lt.2 h5]
   ·simp [h5, Int.not_le.1 h5]⟩) ⟨0, fun k _ n => by simp [U4, A00]⟩
 refine h.congr_val (g := fun k => U4 k k 0 e) (fun k => rfl) ?_
 cases Cx2 (I4 e).length (B93 e) <;> rfl
def emp (s : ByteArray) : Bool := s.toList == (⟨#[]⟩ : ByteArray).toList
def Gd6 (s : ByteArray) : Bool := decide ((s.size : Int) ≤ 24)
theorem Eg8 (s : ByteArray) : (emp s = true ∧ Gd6 s = true) ∨ emp s = false := by
 cases h : emp s with
 | false => exact .inr rfl
 | true =>
  refine .inl ⟨rfl, ?_⟩
  unfold emp at h
  rw [Y9] at h
  rw [of_decide_eq_true h]; rfl
theorem Eg9 (n : Int) : ((n == 1) = true ∧ (n == 2) = false ∧ (n == 3) = false ∧ (n == 4) = false ∧ (n == 5) = false ∧ i6 n 1 5 = true) ∨
  ((n == 1) = false ∧ (n == 2) = true ∧ (n == 3) = false ∧ (n == 4) = false ∧ (n == 5) = false ∧ i6 n 1 5 = true) ∨
  ((n == 1) = false ∧ (n == 2) = false ∧ (n == 3) = true ∧ (n == 4) = false ∧ (n == 5) = false ∧ i6 n 1 5 = true) ∨
  ((n == 1) = false ∧ (n == 2) = false ∧ (n == 3) = false ∧ (n == 4) = true ∧ (n == 5) = false ∧ i6 n 1 5 = true) ∨
  ((n == 1) = false ∧ (n == 2) = false ∧ (n == 3) = false ∧ (n == 4) = false ∧ (n == 5) = true ∧ i6 n 1 5 = true) ∨
  ((n == 1) = false ∧ (n == 2) = false ∧ (n == 3) = false ∧ (n == 4) = false ∧ (n == 5) = false ∧ i6 n 1 5 = false) := by
 simp only [i6, beq_eq_false_iff_ne, beq_iff_eq, Bool.and_eq_true, Bool.and_eq_false_iff, decide_eq_true_eq, decide_eq_false_iff_not, ne_eq]
 omega
def body (e : C1) : Bool := i6 (T4 e) 1 5 && i6 (S3 e) 1 5 && Cs2 e &&
 (bif T4 e == 2 then i6 (Ad7 e) 1 5 && i6 (P8 e) 0 3 && emp (T5 e) else (Ad7 e == 0) && (P8 e == 0) && Gd6 (T5 e) && (T4 e == 4 || T4 e == 5 || emp (T5 e)))
def Z1 (e : C1) : Bool := body e && i6 e.1 1 1000000 && i6 (Aa1 e) 0 1000000 && E42 e
theorem Ce2 (e : C1) (hs : As8 e ≤ 1048576) : Ev (fun k => W9 k e) (body e) := by
 obtain ⟨K, hK⟩ := C98 (E5 e) (by unfold As8 D12 at hs; simp only [E5]; omega)
 refine ⟨K, fun k hk => ?_⟩
 have h1 := hK k hk
 have he : (e.2.2.2.2.2.2.1.toList == (⟨#[]⟩ : ByteArray).toList) = emp (T5 e) := rfl
 have hz : decide ((e.2.2.2.2.2.2.1.size : Int) ≤ 24) = Gd6 (T5 e) := rfl
 simp only [W9, I0, bd_some, he, hz, gt0, h1, body, Cs2, T4, bne]
 rcases Eg8 (T5 e) with ⟨g1, g2⟩ | g1 <;> simp only [g1]
 ·simp only [g2]
  rcases Eg9 e.2.1 with ⟨q1, q2, q3, q4, q5, q6⟩ | ⟨q1, q2, q3, q4, q5, q6⟩ | ⟨q1, q2, q3, q4, q5, q6⟩ | ⟨q1, q2, q3, q4, q5, q6⟩ | ⟨q1, q2, q3, q4, q5, q6⟩ | ⟨q1, q2, q3, q4, q5, q6⟩ <;> simp only [q1, q2, q3, q4, q5, q6] <;>
  (generalize i6 e.2.2.1 1 5 = x1; generalize i6 e.2.2.2.1 1 5 = x2; generalize i6 e.2.2.2.2.1 0 3 = x3; generalize (e.2.2.2.1 == 0) = x4; generalize (e.2.2.2.2.1 == 0) = x5; generalize Ce1 (E5 e) = x6; generalize E41 (E5 e) = x7; revert x1 x2 x3 x4 x5 x6 x7; decide)
 ·generalize Gd6 (T5 e) = x8
  rcases Eg9 e.2.1 with ⟨q1, q2, q3, q4, q5, q6⟩ | ⟨q1, q2, q3, q4, q5, q6⟩ | ⟨q1, q2, q3, q4, q5, q6⟩ | ⟨q1, q2, q3, q4, q5, q6⟩ | ⟨q1, q2, q3, q4, q5, q6⟩ | ⟨q1, q2, q3, q4, q5, q6⟩ <;> simp only [q1, q2, q3, q4, q5, q6] <;>
  (generalize i6 e.2.2.1 1 5 = x1; generalize i6 e.2.2.2.1 1 5 = x2; generalize i6 e.2.2.2.2.1 0 3 = x3; generalize (e.2.2.2.1 == 0) = x4; generalize (e.2.2.2.2.1 == 0) = x5; generalize Ce1 (E5 e) = x6; generalize E41 (E5 e) = x7; revert x1 x2 x3 x4 x5 x6 x7 x8; decide)
theorem C99 {e : C1} (h : As8 e ≤ 1048576) : (E5 e).length ≤ 1048576 ∧ (T5 e).size ≤ 1048576 ∧ (I4 e).length ≤ 1048576 := by
 unfold As8 D12 at h
 simp only [E5, T5, I4]
 omega
theorem A04 (e : C1) (hs : As8 e ≤ 1048576) : Ev (fun k => M9 k e) (Z1 e) := by
 obtain ⟨a1, a2, a3⟩ := C99 hs
 obtain ⟨K, hK⟩ := Ce2 e hs
 obtain ⟨L, hL⟩ := Fo5 e a3
 refine ⟨max K L, fun k hk => ?_⟩
 have h1 := hK k (by omega)
 have h2 := hL k (by omega)
 have h3 : (((I4 e).length : Int) == 0) = Ce1 (I4 e) := rfl
 simp only [M9, Bu2, I0, bd_some, h1, h2, h3, Gn3, Z1, E42]
 generalize body e = x1; generalize i6 e.1 1 1000000 = x2; generalize i6 e.2.2.2.2.2.2.2.2.1 0 1000000 = x3; generalize decide (((I4 e).length : Int) ≤ 3) = x4
 generalize ((T4 e == 1) == Ce1 (I4 e)) = x5; generalize Cx2 (I4 e).length (B93 e) = x6
 revert x1 x2 x3 x4 x5 x6; decide
theorem H2 (n : Int) (h0 : 0 ≤ n) (h1 : n ≤ 2147483648) : Ev (fun k => I9 k n) (E6 n) := by
 have h := C86 (l := fun k m (p : Int × List Int) => w8 k m p.1 p.2) (I := fun p => 0 ≤ p.1 ∧ (p.2.length : Int) + p.1 ≤ 2147483648) (m := fun p => p.1.toNat) (f := fun p => B3 (p.2 ++ varL p.1.toNat)) (fun p hp => by
  obtain ⟨m, xs⟩ := p
  obtain ⟨hm, hx⟩ := hp
  simp only at *
  by_cases h : m > 127
  ·obtain ⟨e1, e2, e3, e4⟩ := Eg5 h (by omega)
   refine .inr ⟨(Int.tdiv m 128, xs ++ [Int.tmod m 128 + 128]), ⟨e3, by simp; omega⟩, by simp only; omega, ?_, 0, fun k _ q => ?_⟩
   ·simp only; rw [Eg4 h]; simp
   ·simp only [w8, A84, decide_eq_true h, br_true, Gj0, ng_false, e1, e2]
    rw [A83 (by unfold A2; simp; omega)]
  ·refine .inl ⟨0, fun k _ q => ?_⟩
   simp only [w8, A84, decide_eq_false h, br_false, Bt8 hm (show m < 256 by omega), C87 hm h]
   rw [A83 (by unfold A2; simp; omega)]) (n, []) ⟨h0, by simpa using h1⟩
 obtain ⟨K, hK⟩ := h
 exact ⟨K, fun k hk => by simpa [I9, B91, E6] using hK k hk k hk⟩
def Eh0 (n : Int) : ByteArray × Bool := bif i6 n 0 1000000000 then (E6 n, true) else (⟨#[]⟩, false)
theorem Bl3 (n : Int) : Ev (fun k => X1 k n) (Eh0 n) := by
 cases hr : i6 n 0 1000000000 with
 | false => exact .of fun k => by simp [X1, A92, N0, Eh0, hr]
 | true =>
  have h0 : 0 ≤ n ∧ n ≤ 1000000000 := by simpa [i6] using hr
  obtain ⟨h0, h1⟩ := h0
  have h := C86 (l := fun k m (p : Int × List Int) => l8 k m p.1 p.2) (I := fun p => 0 ≤ p.1 ∧ (p.2.length : Int) + p.1 ≤ 2147483648) (m := fun p => p.1.toNat) (f := fun p => (B3 (p.2 ++ varL p.1.toNat), true)) (fun p hp => by
   obtain ⟨m, xs⟩ := p
   obtain ⟨hm, hx⟩ := hp
   simp only at *
   by_cases h : m > 127
   ·obtain ⟨e1, e2, e3, e4⟩ := Eg5 h (by omega)
    refine .inr ⟨(Int.tdiv m 128, xs ++ [Int.tmod m 128 + 128]), ⟨e3, by simp; omega⟩, by simp only; omega, ?_, 0, fun k _ q => ?_⟩
    ·simp only; rw [Eg4 h]; simp
    ·simp only [l8, A02, decide_eq_true h, br_true, Gj0, ng_false, e1, e2]
     rw [A83 (by unfold A2; simp; omega)]
   ·refine .inl ⟨0, fun k _ q => ?_⟩
    simp only [l8, A02, decide_eq_false h, br_false, Bt8 hm (show m < 256 by omega), C87 hm h]
    rw [A83 (by unfold A2; simp; omega)]) (n, []) ⟨h0, by simp; omega⟩
  obtain ⟨K, hK⟩ := h
  refine ⟨K, fun k hk => ?_⟩
  have h3 := hK k hk k hk
  simp only [List.nil_append] at h3
  simp only [X1, A92, N0, hr, bd_some, Bool.not_true, br_false, h3, Eh0, E6]
  rfl
theorem D13 {n : Int} (h0 : 0 ≤ n) (h1 : n ≤ 1000000000) : Eh0 n = (E6 n, true) := by
 have : i6 n 0 1000000000 = true := by simp [i6, h0, h1]
 rw [Eh0, this]; rfl
def A48 (e : C1) : ByteArray := B3 [IntKind.wrap .u8 e.2.1, IntKind.wrap .u8 e.2.2.1, IntKind.wrap .u8 e.2.2.2.1, IntKind.wrap .u8 e.2.2.2.2.1]
def Bf5 (l : List Int) : ByteArray := B3 (l.map fun n => IntKind.wrap .u8 n)
theorem E43 {l : List Int} {i : Nat} (h : i < l.length) : Bf5 (l.take (i + 1)) = Bf5 (l.take i) ++ B3 [IntKind.wrap .u8 l[i]] := by
 unfold Bf5
 rw [List.take_succ_eq_append_getElem h, List.map_append, N8]
 rfl
theorem B94 (l : List Int) : (Bf5 l).size = l.length := by unfold Bf5; rw [D3, List.length_map]
def Aq7 (t : ByteArray) : ByteArray := E6 (t.size : Int) ++ t
def Bv1 (e : C1) : ByteArray := A48 e ++ (E6 ((E5 e).length : Int) ++ Bf5 (E5 e)) ++ Aq7 (T5 e)
def A49 (e : C1) : ByteArray := E6 e.1 ++ Bv1 e ++ (E6 ((I4 e).length : Int) ++ Bj6 (I4 e)) ++ E6 (Aa1 e)
theorem B66 (t : ByteArray) (h : t.size ≤ 1048576) : Ev (fun k => Ag9 k t) (Aq7 t) := by
 unfold Ag9
 refine (H2 (t.size : Int) (by omega) (by omega)).bd (.of fun k => ?_)
 have := D2 (n := (t.size : Int)) (by omega)
 rw [A83 (by unfold A2; omega)]
 rfl
theorem Bf6 (e : C1) (hl : (E5 e).length ≤ 1000) (ht : (T5 e).size ≤ 20000) : Ev (fun k => Y3 k e) (Bv1 e) := by
 obtain ⟨K, hK⟩ := B66 (T5 e) (by omega)
 obtain ⟨L, hL⟩ := H2 ((E5 e).length : Int) (by omega) (by omega)
 have hz := D2 (n := ((E5 e).length : Int)) (by omega)
 have hy := D2 (n := ((T5 e).size : Int)) (by omega)
 have h4 : (A48 e).size = 4 := by unfold A48; rw [D3]; rfl
 have sz : ∀ i, i ≤ (E5 e).length → (A48 e ++ (E6 ((E5 e).length : Int) ++ Bf5 ((E5 e).take i))).size ≤ 2000 := fun i hi => by
  rw [C8, C8, B94, List.length_take, h4]; omega
 have loop := D08 (l := fun k m i => Q2 k m (A48 e ++ (E6 ((E5 e).length : Int) ++ Bf5 ((E5 e).take i))) (i : Int) e) (E5 e).length (r := Bv1 e) (fun i hi => ⟨0, fun k _ m => by
  have e1 := Z5 hi (by omega)
  have h1 := sz i (by omega)
  have h2 : (B3 [IntKind.wrap .u8 (E5 e)[i]]).size = 1 := D3 _
  simp only [Q2, Ab6, hi, Int.ofNat_lt, Int.natCast_nonneg, decide_true, br_true, gd_true, Int.toNat_natCast, Ad6 hi, e1, X0, bd_some]
  rw [A83 (by unfold A2; omega), E43 hi]
  simp only [ByteArray.append_assoc]⟩) ⟨K, fun k hk m => by
  have h1 := hK k hk
  have h2 := sz (E5 e).length (by omega)
  have h3 : (Aq7 (T5 e)).size ≤ 30000 := by unfold Aq7; rw [C8]; omega
  simp only [Q2, Ab6, Int.lt_irrefl, decide_false, br_false, h1, bd_some]
  rw [A83 (by unfold A2; omega), List.take_length]
  rfl⟩
 obtain ⟨M, hM⟩ := loop
 refine ⟨max L M, fun k hk => ?_⟩
 have h1 := hL k (by omega)
 have h2 := hM k (by omega)
 have g1 : ∀ n : Int, (B3 [IntKind.wrap .u8 n]).size = 1 := fun n => D3 _
 simp only [Y3, Ax1, X0, bd_some, h1]
 rw [A83 (by unfold A2; simp only [g1]; omega), A83 (by unfold A2; simp only [C8, g1]; omega), A83 (by unfold A2; simp only [C8, g1]; omega), A83 (by unfold A2; simp only [C8, g1]; omega)]
 have e2 : ((((B3 [IntKind.wrap .u8 e.2.1] ++ B3 [IntKind.wrap .u8 e.2.2.1]) ++ B3 [IntKind.wrap .u8 e.2.2.2.1]) ++ B3 [IntKind.wrap .u8 e.2.2.2.2.1]) ++ E6 ((E5 e).length : Int)) = A48 e ++ (E6 ((E5 e).length : Int) ++ Bf5 ((E5 e).take 0)) := by
  have : Bf5 ((E5 e).take 0) = B3 [] := rfl
  rw [this, ← Gi9]
  simp only [← N8, A48]
  have : E6 ((E5 e).length : Int) ++ (⟨#[]⟩ : ByteArray) = E6 ((E5 e).length : Int) := by apply Ae0; simp
  rw [this]
  rfl
 rw [e2]
 exact h2
theorem D6 {a b c : Int} : i6 a b c = true ↔ b ≤ a ∧ a ≤ c := by simp [i6]
theorem Ce3 {α : Type} {l : List α} : Ce1 l = true ↔ l = [] := by
 unfold Ce1
 cases l with
 | nil => simp
 | cons x l => simp; omega
theorem Fo6 {e : C1} (h : Cs2 e = true) : (E5 e).length ≤ 5 ∧ (T4 e = 3 → (E5 e).length = 5) := by
 unfold Cs2 at h
 cases hk : (T4 e == 3) with
 | true =>
  rw [hk] at h
  simp only [cond_true, E41, Bool.and_eq_true, beq_iff_eq] at h
  omega
 | false =>
  rw [hk] at h
  simp only [cond_false] at h
  rw [Ce3.1 h]
  simp only [beq_eq_false_iff_ne] at hk
  exact ⟨by simp, fun h => absurd h hk⟩
theorem Aq8 {e : C1} (h : body e = true) : (1 ≤ T4 e ∧ T4 e ≤ 5) ∧ (1 ≤ S3 e ∧ S3 e ≤ 5) ∧ (E5 e).length ≤ 5 ∧ (T5 e).size ≤ 24 ∧ (0 ≤ Ad7 e ∧ Ad7 e ≤ 5) ∧ (0 ≤ P8 e ∧ P8 e ≤ 3) := by
 unfold body at h
 simp only [Bool.and_eq_true, D6] at h
 obtain ⟨⟨⟨h1, h2⟩, h3⟩, h4⟩ := h
 have h5 := (Fo6 h3).1
 cases hk : (T4 e == 2) with
 | true =>
  rw [hk] at h4
  simp only [cond_true, Bool.and_eq_true, D6] at h4
  obtain ⟨⟨h6, h7⟩, h8⟩ := h4
  rcases Eg8 (T5 e) with ⟨_, h9⟩ | h9
  ·have := of_decide_eq_true h9
   exact ⟨h1, h2, h5, by omega, by omega, by omega⟩
  ·rw [h8] at h9; cases h9
 | false =>
  rw [hk] at h4
  simp only [cond_false, Bool.and_eq_true, beq_iff_eq] at h4
  obtain ⟨⟨⟨h6, h7⟩, h8⟩, _⟩ := h4
  have := of_decide_eq_true h8
  exact ⟨h1, h2, h5, by omega, by omega, by omega⟩
theorem Bv2 {e : C1} (h : Z1 e = true) : body e = true ∧ (1 ≤ e.1 ∧ e.1 ≤ 1000000) ∧ (0 ≤ Aa1 e ∧ Aa1 e ≤ 1000000) ∧ (I4 e).length ≤ 3 ∧ (∀ n ∈ I4 e, 1 ≤ n ∧ n ≤ 1000000) ∧ (T4 e = 1 ↔ I4 e = []) := by
 unfold Z1 at h
 simp only [Bool.and_eq_true, D6] at h
 obtain ⟨⟨⟨h1, h2⟩, h3⟩, h4⟩ := h
 unfold E42 at h4
 simp only [Bool.and_eq_true, Eg3, decide_eq_true_eq] at h4
 obtain ⟨h5, h6, h7⟩ := h4
 refine ⟨h1, h2, h3, by omega, fun n hn => ?_, ?_⟩
 ·obtain ⟨i, hi, rfl⟩ := List.getElem_of_mem hn
  have := h5 i hi
  simp only [B93, Bool.and_eq_true, D6, Ad6 hi] at this
  exact this.1.1
 ·rw [← Ce3]
  cases hk : (T4 e == 1) <;> cases hl : Ce1 (I4 e) <;> rw [hk, hl] at h7 <;> simp at hk h7 ⊢ <;> exact hk
theorem Cs3 {e : C1} (h : Z1 e = true) : (Bv1 e).size ≤ 100 ∧ (E6 e.1).size ≤ 5 ∧ (E6 (Aa1 e)).size ≤ 5 ∧ (E6 ((I4 e).length : Int)).size ≤ 5 ∧ (Bj6 (I4 e)).size ≤ 15 := by
 obtain ⟨hb, h1, h2, h3, h4, _⟩ := Bv2 h
 obtain ⟨_, _, h5, h6, _⟩ := Aq8 hb
 have a1 := D2 (n := ((E5 e).length : Int)) (by omega)
 have a2 := D2 (n := ((T5 e).size : Int)) (by omega)
 have a3 := Cl1 (l := I4 e) (fun n hn => by have := h4 n hn; omega)
 refine ⟨?_, D2 (by omega), D2 (by omega), D2 (by omega), by omega⟩
 unfold Bv1 Aq7 A48
 rw [C8, C8, C8, C8, B94, D3]
 simp only [List.length_cons, List.length_nil]
 omega
theorem Da0 (e : C1) (hs : As8 e ≤ 1048576) : Ev (fun k => Au2 k e) (bif Z1 e then (A49 e, true) else (⟨#[]⟩, false)) := by
 cases ho : Z1 e with
 | false => exact (A04 e hs).bd (by rw [ho]; exact .of fun k => rfl)
 | true =>
  obtain ⟨hb, h1, h2, h3, h4, _⟩ := Bv2 ho
  obtain ⟨_, _, h5, h6, _⟩ := Aq8 hb
  obtain ⟨z1, z2, z3, z4, z5⟩ := Cs3 ho
  refine (A04 e hs).bd ?_
  rw [ho]
  simp only [Bool.not_true, br_false]
  refine (H2 e.1 (by omega) (by omega)).bd ((Bf6 e (by omega) (by omega)).bd ?_)
  refine Ev.gdle (by unfold A2; omega) ?_
  refine (H2 ((I4 e).length : Int) (by omega) (by omega)).bd ?_
  refine Ev.gdle (by unfold A2; rw [C8]; omega) ?_
  have sz : ∀ i, i ≤ (I4 e).length → (Bj6 ((I4 e).take i)).size ≤ 15 := fun i hi => by
   have := Cl1 (l := (I4 e).take i) (fun n hn => by have := h4 n (List.mem_of_mem_take hn); omega)
   rw [List.length_take] at this; omega
  obtain ⟨K, hK⟩ := H2 (Aa1 e) (by omega) (by omega)
  have loop := D08 (l := fun k m i => W2 k m (E6 e.1 ++ Bv1 e ++ (E6 ((I4 e).length : Int) ++ Bj6 ((I4 e).take i))) (i : Int) e) (I4 e).length (r := (A49 e, true)) (fun i hi => by
   have h7 := h4 _ (List.getElem_mem hi)
   obtain ⟨L, hL⟩ := H2 (I4 e)[i] (by omega) (by omega)
   refine ⟨L, fun k hk m => ?_⟩
   have h8 := hL k hk
   have h9 := sz i (by omega)
   have h10 := D2 (n := (I4 e)[i]) (by omega)
   have e1 := Z5 hi (by omega)
   simp only [W2, Ak7, hi, Int.ofNat_lt, Int.natCast_nonneg, decide_true, br_true, gd_true, Int.toNat_natCast, Ad6 hi, e1, h8, bd_some]
   rw [A83 (by unfold A2; simp only [C8]; omega), Fo3 hi]
   simp only [ByteArray.append_assoc]) ⟨K, fun k hk m => by
   have h8 := hK k hk
   have h9 := sz (I4 e).length (by omega)
   simp only [W2, Ak7, Int.lt_irrefl, decide_false, br_false, h8, bd_some]
   rw [A83 (by unfold A2; simp only [C8]; omega), List.take_length]
   rfl⟩
  refine loop.congr fun k => ?_
  try simp only
  congr 1
  apply Ae0
  simp [Bj6, B3]
def Cl3 (a b : List Int) : Bool := ((a.length : Int) == (b.length : Int)) && Cx2 a.length (fun i => rd 0 a i == rd 0 b i)
theorem Bf7 (a b : List Int) (h : a.length ≤ 1048576) : Ev (fun k => R8 k a b) (Cl3 a b) := by
 by_cases hl : a.length = b.length
 ·have hl2 : (a.length : Int) = (b.length : Int) := by omega
  have loop := E40 (l := fun k n i => Q3 k n a b (i : Int)) a.length (fun i => rd 0 a i == rd 0 b i) true false (fun i hi => ⟨0, fun k _ n => by
   have e := Z5 hi (by omega)
   have hi2 : i < b.length := by omega
   simp only [Q3, Ab7, hi, hi2, Int.ofNat_lt, Int.natCast_nonneg, decide_true, br_true, gd_true, Int.toNat_natCast, e, bne, E39]⟩) ⟨0, fun k _ n => by simp [Q3, Ab7]⟩
  refine loop.congr_val (g := fun k => R8 k a b) (fun k => by simp only [R8, Ag5, bne, hl2, beq_self_eq_true, Bool.not_true, br_false]; rfl) ?_
  simp only [Cl3, hl2, beq_self_eq_true, Bool.true_and]
  cases Cx2 a.length (fun i => rd 0 a i == rd 0 b i) <;> rfl
 ·have hl2 : ((a.length : Int) == (b.length : Int)) = false := by simp; omega
  exact .of fun k => by simp only [R8, Ag5, bne, hl2, Bool.not_false, br_true, Cl3, Bool.false_and]
def E44 (a b : ByteArray) : Bool := a.toList == b.toList
def A50 (a b : C1) : Bool := (a.1 == b.1) && (T4 a == T4 b) && (S3 a == S3 b) && (Ad7 a == Ad7 b) && (P8 a == P8 b) && E44 (T5 a) (T5 b) && (Aa1 a == Aa1 b) && Cl3 (E5 a) (E5 b) && Cl3 (I4 a) (I4 b)
theorem Gj2 (b x : Bool) : br b (some x) (some false) = some (b && x) := by cases b <;> rfl
theorem D14 (a b : C1) (h : As8 a ≤ 1048576) : Ev (fun k => A24 k a b) (A50 a b) := by
 obtain ⟨a1, a2, a3⟩ := C99 h
 obtain ⟨K, hK⟩ := Bf7 (E5 a) (E5 b) a1
 obtain ⟨L, hL⟩ := Bf7 (I4 a) (I4 b) a3
 refine ⟨max K L, fun k hk => ?_⟩
 have h1 := hK k (by omega)
 have h2 := hL k (by omega)
 have h3 : (a.2.2.2.2.2.2.1.toList == b.2.2.2.2.2.2.1.toList) = E44 (T5 a) (T5 b) := rfl
 simp only [A24, h1, h2, h3, bd_some, Gj2, A50, T4, S3, Ad7, P8, Aa1, Bool.and_assoc]
abbrev B95 : C1 := (0, 0, 0, 0, 0, [], ByteArray.empty, [], 0, ())
def Cl4 (e : C1) : Bool := (e.1 == 0) && (Aa1 e == 0) && Ce1 (I4 e) && body e
def odd (n : Int) : Bool := Int.tmod n 2 == 1
def V8 (x : H9) : Bool := i6 x.2.1 0 1000000 && i6 x.2.2.1 0 1000000 &&
 (bif x.1 == 1 then A50 x.2.2.2.1 B95 && (x.2.2.2.2.1 == 0) && (x.2.2.2.2.2.1 == 0) && (x.2.1 == 0) && (x.2.2.1 == 0)
 else bif x.1 == 2 then (x.2.2.2.2.1 == 0) && (x.2.2.2.2.2.1 == 0) && Cl4 x.2.2.2.1
 else bif x.1 == 3 then (x.2.2.2.2.1 == 0) && (x.2.2.2.2.2.1 == 0) && Z1 x.2.2.2.1 && odd x.2.2.2.1.1
 else bif x.1 == 4 then A50 x.2.2.2.1 B95 && i6 x.2.2.2.2.1 1 2 && i6 x.2.2.2.2.2.1 0 1000000
 else bif x.1 == 5 then A50 x.2.2.2.1 B95 && (x.2.2.2.2.1 == 0) && (x.2.2.2.2.2.1 == 0) else false)
theorem Da1 (x : H9) (h : Bf4 x ≤ 1048576) : Ev (fun k => Ai4 k x) (V8 x) := by
 have hm : As8 x.2.2.2.1 ≤ 1048576 := by unfold Bf4 at h; omega
 obtain ⟨K1, h1⟩ := D14 x.2.2.2.1 B95 hm
 obtain ⟨K2, h2⟩ := Ce2 x.2.2.2.1 hm
 obtain ⟨K3, h3⟩ := A04 x.2.2.2.1 hm
 refine ⟨max K1 (max K2 K3), fun k hk => ?_⟩
 have g1 : Aq1 k x.2.2.2.1 = some (A50 x.2.2.2.1 B95) := by
  have g0 := h1 k (by omega)
  simp only [B95] at g0
  simp only [Aq1, g0, bd_some]
 have g2 := h2 k (by omega)
 have g3 := h3 k (by omega)
 have g4 : ((x.2.2.2.1.2.2.2.2.2.2.2.1.length : Int) == 0) = Ce1 (I4 x.2.2.2.1) := rfl
 have g5 : (Int.tmod x.2.2.2.1.1 2 == 1) = odd x.2.2.2.1.1 := rfl
 simp only [Ai4, I0, bd_some, g1, g2, g3, g4, g5, V8, Cl4, bne, Fz1, ng_false, Aa1]
 generalize i6 x.2.1 0 1000000 = y1; generalize i6 x.2.2.1 0 1000000 = y2
 generalize A50 x.2.2.2.1 B95 = y3; generalize (x.2.2.2.2.1 == 0) = y4; generalize (x.2.2.2.2.2.1 == 0) = y5; generalize (x.2.1 == 0) = y6; generalize (x.2.2.1 == 0) = y7
 generalize body x.2.2.2.1 = y8; generalize (x.2.2.2.1.1 == 0) = y9; generalize (x.2.2.2.1.2.2.2.2.2.2.2.2.1 == 0) = y10; generalize Ce1 (I4 x.2.2.2.1) = y11
 generalize Z1 x.2.2.2.1 = y12; generalize odd x.2.2.2.1.1 = y13; generalize i6 x.2.2.2.2.1 1 2 = y14; generalize i6 x.2.2.2.2.2.1 0 1000000 = y15
 rcases Eg9 x.1 with ⟨q1, q2, q3, q4, q5, q6⟩ | ⟨q1, q2, q3, q4, q5, q6⟩ | ⟨q1, q2, q3, q4, q5, q6⟩ | ⟨q1, q2, q3, q4, q5, q6⟩ | ⟨q1, q2, q3, q4, q5, q6⟩ | ⟨q1, q2, q3, q4, q5, q6⟩ <;> simp only [q1, q2, q3, q4, q5, q6] <;> clear q1 q2 q3 q4 q5 q6 <;> cases y1 <;> cases y2 <;> try rfl
 ·cases y3 <;> cases y4 <;> cases y5 <;> cases y6 <;> cases y7 <;> rfl
 ·cases y4 <;> cases y5 <;> cases y8 <;> cases y9 <;> cases y10 <;> cases y11 <;> rfl
 ·cases y4 <;> cases y5 <;> cases y12 <;> cases y13 <;> rfl
 ·cases y3 <;> cases y14 <;> cases y15 <;> rfl
 ·cases y3 <;> cases y4 <;> cases y5 <;> rfl
def B96 (x : H9) : ByteArray := B3 [IntKind.wrap .u8 x.1] ++ (E6 x.2.1 ++ E6 x.2.2.1) ++
 (bif x.1 == 2 then Bv1 x.2.2.2.1 else bif x.1 == 3 then Aq7 (A49 x.2.2.2.1) else bif x.1 == 4 then E6 x.2.2.2.2.1 ++ E6 x.2.2.2.2.2.1 else ⟨#[]⟩)
theorem D15 (s : ByteArray) : s ++ (⟨#[]⟩ : ByteArray) = s := by apply Ae0; simp
theorem Dv2 {x : H9} (h : V8 x = true) : (0 ≤ x.2.1 ∧ x.2.1 ≤ 1000000) ∧ (0 ≤ x.2.2.1 ∧ x.2.2.1 ≤ 1000000) ∧
  ((x.1 == 2) = true → body x.2.2.2.1 = true) ∧ ((x.1 == 3) = true → Z1 x.2.2.2.1 = true) ∧ ((x.1 == 4) = true → (1 ≤ x.2.2.2.2.1 ∧ x.2.2.2.2.1 ≤ 2) ∧ (0 ≤ x.2.2.2.2.2.1 ∧ x.2.2.2.2.2.1 ≤ 1000000)) := by
 unfold V8 at h
 simp only [Bool.and_eq_true] at h
 obtain ⟨⟨h1, h2⟩, h3⟩ := h
 refine ⟨D6.1 h1, D6.1 h2, fun q => ?_, fun q => ?_, fun q => ?_⟩ <;>
  (rcases Eg9 x.1 with ⟨q1, q2, q3, q4, q5, q6⟩ | ⟨q1, q2, q3, q4, q5, q6⟩ | ⟨q1, q2, q3, q4, q5, q6⟩ | ⟨q1, q2, q3, q4, q5, q6⟩ | ⟨q1, q2, q3, q4, q5, q6⟩ | ⟨q1, q2, q3, q4, q5, q6⟩ <;> simp only [q1, q2, q3, q4, q5] at h3 q <;> first | cases q | skip)
 ·simp only [cond_true, cond_false, Bool.and_eq_true, Cl4] at h3
  exact h3.2.2
 ·simp only [cond_true, cond_false, Bool.and_eq_true] at h3
  exact h3.1.2
 ·simp only [cond_true, cond_false, Bool.and_eq_true, D6] at h3
  exact ⟨h3.1.2, h3.2⟩
theorem Fo7 {e : C1} (h : Z1 e = true) : (A49 e).size ≤ 1000 := by
 obtain ⟨z1, z2, z3, z4, z5⟩ := Cs3 h
 unfold A49
 rw [C8, C8, C8, C8]; omega
theorem Fo8 {e : C1} (h : body e = true) : (Bv1 e).size ≤ 100 := by
 obtain ⟨_, _, h5, h6, _⟩ := Aq8 h
 have a1 := D2 (n := ((E5 e).length : Int)) (by omega)
 have a2 := D2 (n := ((T5 e).size : Int)) (by omega)
 unfold Bv1 Aq7 A48
 rw [C8, C8, C8, C8, B94, D3]
 simp only [List.length_cons, List.length_nil]
 omega
theorem Cl5 (x : H9) (h : Bf4 x ≤ 1048576) : Ev (fun k => p9 k x) (bif V8 x then (B96 x, true) else (⟨#[]⟩, false)) := by
 have hm : As8 x.2.2.2.1 ≤ 1048576 := by unfold Bf4 at h; omega
 unfold p9
 refine (Da1 x h).bd ?_
 cases ho : V8 x with
 | false => exact .of fun k => rfl
 | true =>
  obtain ⟨c1, c2, c3, c4, c5⟩ := Dv2 ho
  simp only [Bool.not_true, br_false, X0, bd_some]
  have w1 : (B3 [IntKind.wrap .u8 x.1]).size = 1 := D3 _
  have w2 := D2 (n := x.2.1) (by omega)
  have w3 := D2 (n := x.2.2.1) (by omega)
  refine (H2 _ c1.1 (by omega)).bd ?_
  refine Ev.gdle (by unfold A2; omega) ?_
  refine (H2 _ c2.1 (by omega)).bd ?_
  refine Ev.gdle (by unfold A2; rw [C8]; omega) ?_
  unfold B96
  simp only [cond_true]
  cases q2 : (x.1 == 2) with
  | true =>
   have hb := c3 q2
   obtain ⟨_, _, h5, h6, _⟩ := Aq8 hb
   have h7 := Fo8 hb
   refine (Bf6 _ (by omega) (by omega)).bd (Ev.gdle (by unfold A2; simp only [C8]; omega) (.of fun k => ?_))
   simp only [cond_true, ByteArray.append_assoc]
  | false =>
   cases q3 : (x.1 == 3) with
   | true =>
    have hb := c4 q3
    have h7 := Fo7 hb
    refine (Da0 _ hm).bd ?_
    rw [hb]
    have h8 := D2 (n := ((A49 x.2.2.2.1).size : Int)) (by omega)
    refine (B66 _ (by simp only [cond_true]; omega)).bd (Ev.gdle (by unfold A2 Aq7; simp only [cond_true, C8]; omega) (.of fun k => ?_))
    simp only [cond_true, cond_false, ByteArray.append_assoc]
   | false =>
    cases q4 : (x.1 == 4) with
    | true =>
     obtain ⟨h7, h8⟩ := c5 q4
     have w4 := D2 (n := x.2.2.2.2.1) (by omega)
     have w5 := D2 (n := x.2.2.2.2.2.1) (by omega)
     refine (H2 _ (by omega) (by omega)).bd (Ev.gdle (by unfold A2; simp only [C8]; omega) ((H2 _ (by omega) (by omega)).bd (Ev.gdle (by unfold A2; simp only [C8]; omega) (.of fun k => ?_))))
     simp only [cond_true, cond_false, ByteArray.append_assoc]
    | false =>
     refine .of fun k => ?_
     simp only [br_false, cond_false, ByteArray.append_assoc, D15]
end Go.Vm
end
section
set_option linter.unusedVariables false
set_option linter.unusedSimpArgs false
namespace Go.Vm
open Go
theorem V2 (s t : ByteArray) : D5 (s ++ t) = D5 s ++ D5 t := by simp [D5]
theorem Q7 {xs : List Int} (h : ∀ x ∈ xs, 0 ≤ x ∧ x < 256) : D5 (B3 xs) = xs := by
 simp only [D5, B3, List.map_map]
 rw [List.map_congr_left (g := id) (fun b hb => ?_)]
 ·simp
 ·obtain ⟨h0, h1⟩ := h b hb
  have e : (UInt8.ofNat b.toNat).toNat = b.toNat := by
   rw [UInt8.toNat_ofNat']
   exact Nat.mod_eq_of_lt (by omega)
  simp only [Function.comp, e, id]
  omega
theorem E45 {s t : ByteArray} (h : D5 s = D5 t) : s = t := by
 rw [← Z6 s, h, Z6]
theorem Ce4 {s : ByteArray} : ∀ x ∈ D5 s, 0 ≤ x ∧ x < 256 := by
 intro x hx
 simp only [D5, List.mem_map] at hx
 obtain ⟨b, _, rfl⟩ := hx
 have := b.toNat_lt
 omega
theorem Dv3 (s : ByteArray) (i : Nat) : bt s i = rd 0 (D5 s) i := by
 unfold bt
 by_cases h : i < s.size
 ·rw [dif_pos h, Ad6 (by rw [F7]; exact h)]
  simp only [D5, List.getElem_map, Array.getElem_toList]
  rfl
 ·rw [dif_neg h]
  simp [rd, F7, h]
theorem Bv3 (s : ByteArray) (p q : Nat) : D5 (s.extract p q) = ((D5 s).take q).drop p := by
 simp only [D5, ByteArray.data_extract, Array.toList_extract, List.map_drop, List.map_take]
 rw [List.drop_take]
def u3 (a : ByteArray) (p : Nat) (s : ByteArray) : Prop := D5 s <+: (D5 a).drop p
theorem O0 {a s t : ByteArray} {p : Nat} : u3 a p (s ++ t) ↔ u3 a p s ∧ u3 a (p + s.size) t := by
 unfold u3
 rw [V2, ← List.drop_drop, ← F7 s]
 generalize (D5 a).drop p = d
 constructor
 ·rintro ⟨r, rfl⟩
  refine ⟨⟨D5 t ++ r, by simp⟩, ?_⟩
  rw [List.append_assoc, List.drop_left]
  exact ⟨r, rfl⟩
 ·rintro ⟨⟨r, rfl⟩, h⟩
  rw [List.drop_left] at h
  obtain ⟨q, rfl⟩ := h
  exact ⟨q, by simp⟩
theorem Gd7 {a s : ByteArray} {p : Nat} (h : u3 a p s) (hp : p ≤ a.size) : p + s.size ≤ a.size := by
 have := h.length_le
 rw [List.length_drop, F7, F7] at this
 omega
theorem Ac6 {a s : ByteArray} {p : Nat} (h : u3 a p s) : a.extract p (p + s.size) = s := by
 apply E45
 rw [Bv3, List.drop_take]
 obtain ⟨r, hr⟩ := h
 rw [← hr, ← F7 s]
 simp
theorem B34 (a : ByteArray) : u3 a 0 a := ⟨[], by simp⟩
theorem Cl6 {a : ByteArray} {p : Nat} (hp : p < a.size) : u3 a p (B3 [bt a p]) := by
 unfold u3
 have hb : 0 ≤ bt a p ∧ bt a p < 256 := by
  rw [Dv3, Ad6 (by rw [F7]; exact hp)]
  exact Ce4 _ (List.getElem_mem _)
 rw [Q7 (by simpa using hb), ← List.getElem_cons_drop (show p < (D5 a).length by rw [F7]; exact hp), Dv3, Ad6 (by rw [F7]; exact hp)]
 exact ⟨_, rfl⟩
theorem Ce5 (a : ByteArray) (p : Nat) : 0 ≤ bt a p ∧ bt a p < 256 := by
 by_cases hp : p < a.size
 ·rw [Dv3, Ad6 (by rw [F7]; exact hp)]
  exact Ce4 _ (List.getElem_mem _)
 ·unfold bt; rw [dif_neg hp]; omega
theorem Ce6 {a : ByteArray} {p : Nat} {b : Int} (hb : 0 ≤ b ∧ b < 256) (h : u3 a p (B3 [b])) : p < a.size ∧ bt a p = b := by
 unfold u3 at h
 rw [Q7 (by simpa using hb)] at h
 obtain ⟨r, hr⟩ := h
 have h1 : p < (D5 a).length := by
  have := congrArg List.length hr
  simp at this
  omega
 rw [F7] at h1
 refine ⟨h1, ?_⟩
 have hr2 := hr.trans (List.getElem_cons_drop (show p < (D5 a).length by rw [F7]; exact h1)).symm
 rw [Dv3, Ad6 (by rw [F7]; exact h1)]
 simp only [List.cons_append, List.nil_append, List.cons.injEq] at hr2
 exact hr2.1.symm
def dec : List Int → Int
 | [] => 0
 | d :: ds => d % 128 + 128 * dec ds
theorem Eh1 : ∀ (D : List Int) (b : Int), dec (D ++ [b]) = dec D + (b % 128) * 128 ^ D.length
 | [], b => by simp [dec]
 | d :: D, b => by
  rw [List.cons_append, dec, Eh1 D b, dec, List.length_cons, Int.pow_succ]
  generalize dec D = x
  generalize (128 : Int) ^ D.length = y
  generalize b % 128 = z
  rw [Int.mul_add]
  have : 128 * (z * y) = z * (y * 128) := by rw [← Int.mul_assoc, Int.mul_comm 128 z, Int.mul_assoc, Int.mul_comm 128 y]
  omega
theorem Da2 : ∀ (D : List Int), 0 ≤ dec D ∧ dec D < 128 ^ D.length
 | [] => by simp [dec]
 | d :: D => by
  obtain ⟨h0, h1⟩ := Da2 D
  rw [dec, List.length_cons, Int.pow_succ]
  generalize (128 : Int) ^ D.length = y at *
  omega
theorem Da3 (n : Nat) : dec (varL n) = n := by
 induction n using Nat.strongRecOn with
 | _ n ih =>
  unfold varL
  by_cases h : n < 128
  ·rw [if_pos h]; simp only [dec]; omega
  ·rw [if_neg h, dec, ih (n / 128) (by omega)]; omega
def Hi (D : List Int) : Prop := ∀ d ∈ D, 128 ≤ d ∧ d < 256
def Code (xs : List Int) : Prop := ∃ D b, xs = D ++ [b] ∧ Hi D ∧ 0 ≤ b ∧ b < 128
theorem A27 (n : Nat) : Code (varL n) := by
 induction n using Nat.strongRecOn with
 | _ n ih =>
  unfold varL
  by_cases h : n < 128
  ·rw [if_pos h]; exact ⟨[], n, rfl, fun _ h => by simp at h, by omega, by omega⟩
  ·rw [if_neg h]
   obtain ⟨D, b, e, hD, h0, h1⟩ := ih (n / 128) (by omega)
   rw [e]
   refine ⟨((n % 128 + 128 : Nat) : Int) :: D, b, rfl, fun d hd => ?_, h0, h1⟩
   rcases List.mem_cons.1 hd with rfl | hd
   ·omega
   ·exact hD d hd
theorem E46 {xs : List Int} (h : Code xs) : ∀ x ∈ xs, 0 ≤ x ∧ x < 256 := by
 obtain ⟨D, b, rfl, hD, h0, h1⟩ := h
 intro x hx
 rcases List.mem_append.1 hx with h | h
 ·have := hD x h; omega
 ·simp at h; omega
theorem Fz3 : ∀ (D : List Int) (b : Int), Hi D → 0 ≤ b → b < 128 → (varL (dec (D ++ [b])).toNat).length = D.length + 1 → varL (dec (D ++ [b])).toNat = D ++ [b]
 | [], b, _, h0, h1, _ => by
  have e : dec ([] ++ [b]) = b := by simp [dec]; omega
  rw [e]
  unfold varL
  rw [if_pos (by omega)]
  simp; omega
 | d :: D, b, hD, h0, h1, hl => by
  have hd := hD d (List.mem_cons_self ..)
  have ih := Fz3 D b (fun x hx => hD x (List.mem_cons_of_mem _ hx)) h0 h1
  have hb := Da2 (D ++ [b])
  rw [List.cons_append, dec] at hl ⊢
  generalize dec (D ++ [b]) = x at *
  rw [varL.eq_def] at hl ⊢
  by_cases h : (d % 128 + 128 * x).toNat < 128
  ·rw [if_pos h] at hl; simp at hl
  ·rw [if_neg h] at hl ⊢
   have e : (d % 128 + 128 * x).toNat / 128 = x.toNat := by omega
   rw [e] at hl ⊢
   rw [ih (by simpa using hl)]
   congr 1
   omega
theorem Gg8 {D ys zs : List Int} (hD : Hi D) (hy : Code ys) (h1 : D <+: zs) (h2 : ys <+: zs) : D.length < ys.length := by
 apply Nat.lt_of_not_le
 intro hle
 obtain ⟨D', b, rfl, _, h3, h4⟩ := hy
 have := List.prefix_of_prefix_length_le h2 h1 hle
 have := hD b (this.mem (by simp))
 omega
theorem Dv4 {xs ys zs : List Int} (hx : Code xs) (hy : Code ys) (h1 : xs <+: zs) (h2 : ys <+: zs) : xs = ys := by
 have aux : ∀ {xs ys : List Int}, Code xs → Code ys → xs <+: ys → xs = ys := by
  intro xs ys hx hy h
  obtain ⟨D, b, rfl, hD, h0, h1⟩ := hx
  obtain ⟨t, ht⟩ := h
  by_cases e : t = []
  ·subst e; simpa using ht
  ·exfalso
   obtain ⟨D', b', rfl, hD', h0', h1'⟩ := hy
   have hl := congrArg List.length ht
   have : 1 ≤ t.length := by cases t with | nil => exact absurd rfl e | cons _ _ => simp
   simp at hl
   have h5 : (D ++ [b]) <+: D' := List.prefix_of_prefix_length_le (l₃ := D' ++ [b']) ⟨t, ht⟩ ⟨[b'], rfl⟩ (by simp; omega)
   have := hD' b (h5.mem (by simp))
   omega
 rcases List.prefix_or_prefix_of_prefix h1 h2 with h | h
 ·exact aux hx hy h
 ·exact (aux hy hx h).symm
theorem Aa2 (n : Int) : D5 (E6 n) = varL n.toNat := Q7 (E46 (A27 _))
end Go.Vm
end
section
set_option linter.unusedVariables false
set_option linter.unusedSimpArgs false
namespace Go.Vm
open Go
structure RV (a : ByteArray) (p : Nat) (r : Int × Int × Bool) : Prop where
 sound : r.2.2 = true → 0 ≤ r.1 ∧ r.1 ≤ 1000000000 ∧ r.2.1 = ((p + (E6 r.1).size : Nat) : Int) ∧ p + (E6 r.1).size ≤ a.size ∧ u3 a p (E6 r.1)
 full : ∀ n : Int, 0 ≤ n → n ≤ 1000000000 → u3 a p (E6 n) → r = (n, ((p + (E6 n).size : Nat) : Int), true)
theorem RV.no {a : ByteArray} {p : Nat} (h : ∀ n : Int, 0 ≤ n → n ≤ 1000000000 → ¬ u3 a p (E6 n)) : RV a p (0, 0, false) :=
 ⟨fun h => (by cases h), fun n h0 h1 h2 => absurd h2 (h n h0 h1)⟩
theorem Au5 (n : Int) : (E6 n).size = (varL n.toNat).length := by unfold E6; rw [D3]
theorem RV.code {a : ByteArray} {p : Nat} {xs : List Int} (hx : Code xs) (hs : xs <+: (D5 a).drop p) (hp : p + xs.length ≤ a.size) (hc : ∃ D b, xs = D ++ [b] ∧ Hi D ∧ 0 ≤ b ∧ b < 128) :
  RV a p (if dec xs ≤ 1000000000 ∧ (varL (dec xs).toNat).length = xs.length then (dec xs, ((p + xs.length : Nat) : Int), true) else (0, 0, false)) := by
 have h0 : 0 ≤ dec xs := (Da2 xs).1
 have key : ∀ n : Int, 0 ≤ n → u3 a p (E6 n) → dec xs = n ∧ (varL (dec xs).toNat).length = xs.length := by
  intro n hn h
  unfold u3 at h
  rw [Aa2] at h
  have e := Dv4 (A27 _) hx h hs
  have e2 : dec xs = n := by rw [← e, Da3]; omega
  exact ⟨e2, by rw [e2, e]⟩
 by_cases h : dec xs ≤ 1000000000 ∧ (varL (dec xs).toNat).length = xs.length
 ·rw [if_pos h]
  refine ⟨fun _ => ?_, fun n hn h1 h2 => ?_⟩
  ·obtain ⟨D, b, rfl, hD, hb0, hb1⟩ := hc
   have e := Fz3 D b hD hb0 hb1 (by rw [h.2]; simp)
   refine ⟨h0, h.1, by simp only [Au5, h.2], by rw [Au5, h.2]; exact hp, ?_⟩
   unfold u3
   rw [Aa2, e]; exact hs
  ·obtain ⟨e1, e2⟩ := key n hn h2
   rw [Au5, ← e1, h.2]
 ·rw [if_neg h]
  refine RV.no fun n hn h1 h2 => ?_
  obtain ⟨e1, e2⟩ := key n hn h2
  exact h ⟨by omega, e2⟩
theorem Fk6 {i : Nat} (h : i ≤ 5) : (128 : Int) ^ i ≤ 34359738368 ∧ 0 < (128 : Int) ^ i := by
 rcases i with _ | _ | _ | _ | _ | _ | i <;> first | omega | decide
theorem Gn4 {i : Nat} (h : i ≤ 4) : (2 : Int) ^ (min (B8 (7 * (i : Int))).toNat 64) = 128 ^ i ∧ decide (B8 (7 * (i : Int)) < 0) = false := by
 rw [C6 (by omega) (by omega)]
 rcases i with _ | _ | _ | _ | _ | i <;> first | omega | decide
theorem Gd8 (a : ByteArray) (p : Nat) (ha : a.size ≤ 1048576) : ∀ (j i : Nat) (D : List Int), i + j = 5 → D.length = i → Hi D → D <+: (D5 a).drop p → p + i ≤ a.size →
  ∃ r : Int × Int × Bool, RV a p r ∧ (∃ K, ∀ k, K ≤ k → ∀ n, j < n → R7 k n a (p : Int) (dec D) ((128 : Int) ^ i) ((p + i : Nat) : Int) = some r) ∧
   (∃ K, ∀ k, K ≤ k → ∀ n, j < n → S0 k n a (p : Int) (dec D) (i : Int) = some r) := by
 intro j
 induction j with
 | zero =>
  intro i D hi hD hh hs hp
  refine ⟨(0, 0, false), RV.no fun n h0 h1 h2 => ?_, ⟨0, fun k _ n hn => ?_⟩, ⟨0, fun k _ n hn => ?_⟩⟩
  ·unfold u3 at h2
   rw [Aa2] at h2
   have := Gg8 hh (A27 _) hs h2
   have h5 := D2 h1
   rw [Au5] at h5
   omega
  ·obtain ⟨m, rfl⟩ : ∃ m, n = m + 1 := ⟨n - 1, by omega⟩
   have e1 : B8 ((p : Int) + 5) = p + 5 := C6 (by omega) (by omega)
   simp only [R7, Ak4, e1]
   rw [show decide (((p + i : Nat) : Int) < (p : Int) + 5) = false by simp; omega]
   simp only [br_false]
   cases decide (((p + i : Nat) : Int) < (a.size : Int)) <;> rfl
  ·obtain ⟨m, rfl⟩ : ∃ m, n = m + 1 := ⟨n - 1, by omega⟩
   simp only [S0, Al0]
   rw [show decide ((i : Int) < 5) = false by simp; omega]
   rfl
 | succ j ih =>
  intro i D hi hD hh hs hp
  have e5 : B8 ((p : Int) + 5) = p + 5 := C6 (by omega) (by omega)
  have epi : B8 ((p : Int) + (i : Int)) = ((p + i : Nat) : Int) := by rw [C6 (by omega) (by omega)]; omega
  have d5 : decide (((p + i : Nat) : Int) < (p : Int) + 5) = true := by simp; omega
  have di : decide ((i : Int) < 5) = true := by simp; omega
  by_cases hz : p + i < a.size
  ·have dz : decide (((p + i : Nat) : Int) < (a.size : Int)) = true := by simp; omega
   have d0 : decide (0 ≤ ((p + i : Nat) : Int)) = true := decide_eq_true (Int.natCast_nonneg _)
   have hb := Ce5 a (p + i)
   have hsb := Cl6 hz
   unfold u3 at hsb
   rw [Q7 (by simpa using hb)] at hsb
   generalize hbe : bt a (p + i) = b at hb hsb
   have hs2 : (D ++ [b]) <+: (D5 a).drop p := by
    obtain ⟨t, ht⟩ := hs
    rw [← List.drop_drop, ← ht, ← hD, List.drop_left] at hsb
    obtain ⟨u, rfl⟩ := hsb
    exact ⟨u, by rw [← ht]; simp⟩
   have hw : B8 b = b := C6 (by omega) (by omega)
   have ht : Int.tmod b 128 = b % 128 := Int.tmod_eq_emod_of_nonneg (by omega)
   obtain ⟨q1, q2⟩ := Fk6 (i := i) (by omega)
   obtain ⟨q3, q4⟩ := Fk6 (i := i + 1) (by omega)
   have hsn := Eh1 D b
   rw [hD] at hsn
   have hd1 := Da2 D
   have hd2 := Da2 (D ++ [b])
   have hl2 : (D ++ [b]).length = i + 1 := by simp [hD]
   rw [hl2] at hd2
   have hx0 : 0 ≤ (b % 128) * 128 ^ i := Int.mul_nonneg (by omega) (by omega)
   have hw2 : B8 ((b % 128) * 128 ^ i) = (b % 128) * 128 ^ i := C6 (by omega) (by omega)
   have hw3 : B8 (dec D + (b % 128) * 128 ^ i) = dec (D ++ [b]) := by rw [← hsn]; exact C6 (by omega) (by omega)
   have hw4 : B8 ((128 : Int) ^ i * 128) = 128 ^ (i + 1) := by rw [← Int.pow_succ]; exact C6 (by omega) (by omega)
   have hw5 : B8 (((p + i : Nat) : Int) + 1) = ((p + (i + 1) : Nat) : Int) := by rw [C6 (by omega) (by omega)]; omega
   have hw6 : B8 ((i : Int) + 1) = ((i + 1 : Nat) : Int) := by rw [C6 (by omega) (by omega)]; omega
   have hb2 : (b == b && (128 : Int) == 0) = false := Gj0 b
   obtain ⟨s1, s2⟩ := Gn4 (i := i) (by omega)
   have step_s : ∀ k m, R7 k (m + 1) a (p : Int) (dec D) ((128 : Int) ^ i) ((p + i : Nat) : Int) =
     br (decide (b < 128)) (br (decide (dec (D ++ [b]) > 1000000000)) (some (0, 0, false)) (bd (I9 k (dec (D ++ [b]))) fun r2 => br (!(r2.toList == (a.extract p (p + (i + 1))).toList)) (some (0, 0, false)) (some (dec (D ++ [b]), ((p + (i + 1) : Nat) : Int), true)))) (R7 k m a (p : Int) (dec (D ++ [b])) ((128 : Int) ^ (i + 1)) ((p + (i + 1) : Nat) : Int)) := by
    intro k m
    have g1 : decide (((p + (i + 1) : Nat) : Int) ≤ (a.size : Int)) = true := by simp; omega
    have g2 : decide ((p : Int) ≤ ((p + (i + 1) : Nat) : Int)) = true := by simp; omega
    have g3 : decide (0 ≤ ((p + (i + 1) : Nat) : Int)) = true := by simp; omega
    have g4 : decide (0 ≤ (p : Int)) = true := by simp
    simp only [R7, Ak4, e5, d5, dz, d0, br_true, gd_true, Int.toNat_natCast, hbe, hw, ht, hw2, hw3, hw4, hw5, hb2, ng_false, g1, g2, g3, g4]
   have step_i : ∀ k m, S0 k (m + 1) a (p : Int) (dec D) (i : Int) =
     br (decide (b < 128)) (bd (X1 k (dec (D ++ [b]))) fun r2 => br (!r2.2) (some (0, 0, false)) (br ((r2.1.size : Int) != ((i + 1 : Nat) : Int)) (some (0, 0, false)) (some (dec (D ++ [b]), ((p + (i + 1) : Nat) : Int), true)))) (S0 k m a (p : Int) (dec (D ++ [b])) ((i + 1 : Nat) : Int)) := by
    intro k m
    simp only [S0, Al0, di, epi, dz, d0, br_true, gd_true, Int.toNat_natCast, hbe, hw, ht, hb2, ng_false, s1, s2, hw2, hw3, hw5, hw6]
   by_cases hlt : b < 128
   ·have hcode : Code (D ++ [b]) := ⟨D, b, rfl, hh, hb.1, hlt⟩
    refine ⟨_, RV.code hcode hs2 (by rw [hl2]; omega) hcode, ?_, ?_⟩
    ·by_cases hn : dec (D ++ [b]) ≤ 1000000000
     ·obtain ⟨K, hK⟩ := H2 (dec (D ++ [b])) hd2.1 (by omega)
      refine ⟨K, fun k hk n hn' => ?_⟩
      obtain ⟨m, rfl⟩ : ∃ m, n = m + 1 := ⟨n - 1, by omega⟩
      have hK2 : I9 k (dec (D ++ [b])) = some (E6 (dec (D ++ [b]))) := hK k hk
      rw [step_s, decide_eq_true hlt, br_true, show decide (dec (D ++ [b]) > 1000000000) = false by simp; omega, br_false, hK2, bd_some, Y9, hl2]
      by_cases hl : (varL (dec (D ++ [b])).toNat).length = i + 1
      ·rw [if_pos ⟨hn, hl⟩]
       have e := Fz3 D b hh hb.1 hlt (by rw [hl, hD])
       have : E6 (dec (D ++ [b])) = a.extract p (p + (i + 1)) := by
        have hsit : u3 a p (E6 (dec (D ++ [b]))) := by unfold u3; rw [Aa2, e]; exact hs2
        have := Ac6 hsit
        rw [Au5, hl] at this
        exact this.symm
       rw [decide_eq_true this]; rfl
      ·rw [if_neg (fun h => hl h.2)]
       have : E6 (dec (D ++ [b])) ≠ a.extract p (p + (i + 1)) := by
        intro h
        apply hl
        rw [← Au5, h, ByteArray.size_extract]
        omega
       rw [decide_eq_false this]; rfl
     ·refine ⟨0, fun k _ n hn' => ?_⟩
      obtain ⟨m, rfl⟩ : ∃ m, n = m + 1 := ⟨n - 1, by omega⟩
      rw [step_s, decide_eq_true hlt, br_true, show decide (dec (D ++ [b]) > 1000000000) = true by simp; omega, br_true, if_neg (fun h => hn h.1)]
    ·obtain ⟨K, hK⟩ := Bl3 (dec (D ++ [b]))
     refine ⟨K, fun k hk n hn' => ?_⟩
     obtain ⟨m, rfl⟩ : ∃ m, n = m + 1 := ⟨n - 1, by omega⟩
     have hK2 : X1 k (dec (D ++ [b])) = some (Eh0 (dec (D ++ [b]))) := hK k hk
     rw [step_i, decide_eq_true hlt, br_true, hK2, bd_some, hl2]
     by_cases hn : dec (D ++ [b]) ≤ 1000000000
     ·rw [D13 hd2.1 hn]
      simp only [Bool.not_true, br_false, Au5]
      by_cases hl : (varL (dec (D ++ [b])).toNat).length = i + 1
      ·rw [if_pos ⟨hn, hl⟩, hl]; simp
      ·rw [if_neg (fun h => hl h.2), show (((varL (dec (D ++ [b])).toNat).length : Int) != ((i + 1 : Nat) : Int)) = true by simp; omega]; rfl
     ·rw [if_neg (fun h => hn h.1)]
      have : Eh0 (dec (D ++ [b])) = (⟨#[]⟩, false) := by
       unfold Eh0 i6
       rw [show decide (dec (D ++ [b]) ≤ 1000000000) = false by simp; omega]
       simp
      rw [this]; rfl
   ·obtain ⟨r, hr, ⟨K1, h1⟩, ⟨K2, h2⟩⟩ := ih (i + 1) (D ++ [b]) (by omega) hl2 (fun d hd => by
     rcases List.mem_append.1 hd with h | h
     ·exact hh d h
     ·simp at h; omega) hs2 (by omega)
    refine ⟨r, hr, ⟨K1, fun k hk n hn' => ?_⟩, ⟨K2, fun k hk n hn' => ?_⟩⟩
    ·obtain ⟨m, rfl⟩ : ∃ m, n = m + 1 := ⟨n - 1, by omega⟩
     rw [step_s, decide_eq_false hlt, br_false]; exact h1 k hk m (by omega)
    ·obtain ⟨m, rfl⟩ : ∃ m, n = m + 1 := ⟨n - 1, by omega⟩
     rw [step_i, decide_eq_false hlt, br_false]; exact h2 k hk m (by omega)
  ·have dz : decide (((p + i : Nat) : Int) < (a.size : Int)) = false := by simp; omega
   refine ⟨(0, 0, false), RV.no fun n h0 h1 h2 => ?_, ⟨0, fun k _ n hn => ?_⟩, ⟨0, fun k _ n hn => ?_⟩⟩
   ·have h3 := Gd7 h2 (by omega)
    unfold u3 at h2
    rw [Aa2] at h2
    have := Gg8 hh (A27 _) hs h2
    rw [Au5] at h3
    omega
   ·obtain ⟨m, rfl⟩ : ∃ m, n = m + 1 := ⟨n - 1, by omega⟩
    simp only [R7, Ak4, dz, br_false]
   ·obtain ⟨m, rfl⟩ : ∃ m, n = m + 1 := ⟨n - 1, by omega⟩
    simp only [S0, Al0, di, br_true, epi, dz, br_false]
theorem B97 (a : ByteArray) (p : Nat) (ha : a.size ≤ 1048576) (hp : p ≤ a.size) : ∃ r : Int × Int × Bool, RV a p r ∧ Ev (fun k => p6 k a (p : Int)) r ∧ Ev (fun k => q8 k a (p : Int)) r := by
 obtain ⟨r, h0, ⟨K1, h1⟩, ⟨K2, h2⟩⟩ := Gd8 a p ha 5 0 [] rfl rfl (fun _ h => by cases h) ⟨_, rfl⟩ (by omega)
 have hin : i6 (p : Int) 0 (a.size : Int) = true := by simp [i6]; omega
 refine ⟨r, h0, ⟨K1 + 6, fun k hk => ?_⟩, ⟨K2 + 6, fun k hk => ?_⟩⟩
 ·have := h1 k (by omega) k (by omega)
  simpa [p6, Bt9, I0, hin, dec] using this
 ·have := h2 k (by omega) k (by omega)
  simpa [q8, Bu7, N0, hin, dec] using this
abbrev cur (a : ByteArray) (p : Nat) (b : Bool) : M7 := (a, (p : Int), b, ())
structure Rd {α : Type} (a : ByteArray) (enc : α → ByteArray) (ok : α → Prop) (d : α) (p : Nat) (b : Bool) (x : α) (q : Nat) (b' : Bool) : Prop where
 le : p ≤ q
 hi : q ≤ a.size
 bad : b = true → x = d ∧ q = p ∧ b' = true
 badv : b' = true → x = d
 sound : b' = false → ok x ∧ q = p + (enc x).size ∧ u3 a p (enc x)
 full : b = false → ∀ y, ok y → u3 a p (enc y) → x = y ∧ q = p + (enc y).size ∧ b' = false
def Al1 (n : Int) : Prop := 0 ≤ n ∧ n ≤ 1000000000
def Q9 (n : Int) : Prop := 0 ≤ n ∧ n < 256
def I1 (n : Int) : ByteArray := B3 [n]
theorem Rd.stuck {α : Type} {a : ByteArray} {enc : α → ByteArray} {ok : α → Prop} {d : α} {p : Nat} (hp : p ≤ a.size) : Rd a enc ok d p true d p true :=
 ⟨Nat.le_refl _, hp, fun _ => ⟨rfl, rfl, rfl⟩, fun _ => rfl, fun h => by (cases h), fun h => by (cases h)⟩
theorem Ax4 (a : ByteArray) (p : Nat) (b : Bool) (ha : a.size ≤ 1048576) (hp : p ≤ a.size) :
  ∃ x q b', Rd a E6 Al1 0 p b x q b' ∧ Ev (fun k => At8 k (cur a p b)) (x, cur a q b', ()) ∧ Ev (fun k => X8 k (cur a p b)) (x, cur a q b', ()) := by
 obtain ⟨r, hr, h1, h2⟩ := B97 a p ha hp
 obtain ⟨n, q, o⟩ := r
 cases b with
 | true => exact ⟨0, p, true, .stuck hp, h1.bd (.of fun _ => rfl), h2.bd (.of fun _ => rfl)⟩
 | false =>
  cases o with
  | false =>
   refine ⟨0, p, true, ⟨Nat.le_refl _, hp, fun h => by (cases h), fun _ => rfl, fun h => by (cases h), fun _ y hy hs => ?_⟩, h1.bd (.of fun _ => rfl), h2.bd (.of fun _ => rfl)⟩
   have := hr.full y hy.1 hy.2 hs
   simp at this
  | true =>
   obtain ⟨e1, e2, e3, e4, e5⟩ := hr.sound rfl
   simp only at e1 e2 e3 e4 e5
   subst e3
   refine ⟨n, p + (E6 n).size, false, ⟨by omega, e4, fun h => by (cases h), fun h => by (cases h), fun _ => ⟨⟨e1, e2⟩, rfl, e5⟩, fun _ y hy hs => ?_⟩, h1.bd (.of fun _ => rfl), h2.bd (.of fun _ => rfl)⟩
   have := hr.full y hy.1 hy.2 hs
   simp only [Prod.mk.injEq] at this
   refine ⟨this.1, ?_, rfl⟩
   omega
theorem Ce7 (a : ByteArray) (p : Nat) (b : Bool) (ha : a.size ≤ 1048576) (hp : p ≤ a.size) :
  ∃ x q b', Rd a I1 Q9 0 p b x q b' ∧ Ev (fun k => S1 k (cur a p b)) (x, cur a q b', ()) := by
 cases b with
 | true => exact ⟨0, p, true, .stuck hp, .of fun _ => rfl⟩
 | false =>
  have e1 : B8 ((a.size : Int) - (p : Int)) = (a.size : Int) - p := C6 (by omega) (by omega)
  have e2 : B8 ((p : Int) + 1) = ((p + 1 : Nat) : Int) := by rw [C6 (by omega) (by omega)]; omega
  have e3 : B8 (((p + 1 : Nat) : Int) - 1) = (p : Int) := by rw [C6 (by omega) (by omega)]; omega
  by_cases hlt : p < a.size
  ·have hb := Ce5 a p
   have e4 : B8 (bt a p) = bt a p := C6 (by omega) (by omega)
   have hs := Cl6 hlt
   have d1 : decide ((1 : Int) > (a.size : Int) - p) = false := by simp; omega
   have d2 : decide (((p + 1 : Nat) : Int) ≤ (a.size : Int)) = true := by simp; omega
   have d3 : decide (0 ≤ ((p + 1 : Nat) : Int)) = true := decide_eq_true (Int.natCast_nonneg _)
   have d4 : decide (0 ≤ (p : Int)) = true := decide_eq_true (Int.natCast_nonneg _)
   have d5 : decide ((p : Int) ≤ ((p + 1 : Nat) : Int)) = true := by simp; omega
   have d6 : decide ((p : Int) ≥ (a.size : Int)) = false := by simp; omega
   have d7 : decide ((p : Int) < (a.size : Int)) = true := by simp; omega
   have hsz : ((a.extract p (p + 1)).size : Int) = 1 := by rw [ByteArray.size_extract]; omega
   refine ⟨bt a p, p + 1, false, ⟨by omega, by omega, fun h => by (cases h), fun h => by (cases h), fun _ => ⟨hb, by simp [I1, D3], hs⟩, fun _ y hy h => ?_⟩, .of fun k => ?_⟩
   ·exact ⟨(Ce6 hy h).2, by simp [I1, D3], rfl⟩
   ·simp only [S1, br_false, d6, e2, e3, d4, d7, gd_true, Int.toNat_natCast, e4]
  ·have hpe : p = a.size := by omega
   refine ⟨0, p, true, ⟨Nat.le_refl _, hp, fun h => by (cases h), fun _ => rfl, fun h => by (cases h), fun _ y hy h => ?_⟩, .of fun k => ?_⟩
   ·have := (Ce6 hy h).1; omega
   ·have d6 : decide ((p : Int) ≥ (a.size : Int)) = true := by simp; omega
    simp only [S1, br_false, d6, br_true]
theorem Cs4 (t : ByteArray) : (Aq7 t).size = (E6 (t.size : Int)).size + t.size := by unfold Aq7; rw [C8]
def B98 (enc : Int → ByteArray) : List Int → ByteArray
 | [] => ⟨#[]⟩
 | x :: xs => enc x ++ B98 enc xs
structure Each (a : ByteArray) (enc : Int → ByteArray) (ok : Int → Prop) (N : Int) (go : Nat → Bool) (n0 : Nat) (p : Nat) (b : Bool) (xs : List Int) (q : Nat) (b' : Bool) : Prop where
 le : p ≤ q
 hi : q ≤ a.size
 bad : b = true → xs = [] ∧ q = p ∧ b' = true
 len : xs.length ≤ (q - p) + 1
 sound : b' = false → xs.length ≤ q - p ∧ (∀ x ∈ xs, ok x) ∧ q = p + (B98 enc xs).size ∧ u3 a p (B98 enc xs)
 count : b' = false → (∀ v, go v = true) → (n0 : Int) + xs.length = max 0 N
 full : b = false → ∀ ys : List Int, (∀ y ∈ ys, ok y) → (n0 : Int) + ys.length = N → (∀ v : Nat, (v : Int) < N → go v = true) → u3 a p (B98 enc ys) → xs = ys ∧ q = p + (B98 enc ys).size ∧ b' = false
theorem Al2 (a b c : ByteArray) : a ++ b ++ c = a ++ (b ++ c) := ByteArray.append_assoc
theorem Cl7 (l : List Int) : Bj6 l = B98 E6 l := by
 induction l with
 | nil => apply Ae0; simp [Bj6, B98, B3]
 | cons x xs ih =>
  rw [B98, ← ih]
  unfold Bj6
  rw [List.flatMap_cons, N8, Z6]
theorem E47 {l : List Int} (h : ∀ x ∈ l, Q9 x) : Bf5 l = B98 I1 l := by
 induction l with
 | nil => apply Ae0; simp [Bf5, B98, B3]
 | cons x xs ih =>
  rw [B98, ← ih (fun y hy => h y (List.mem_cons_of_mem _ hy))]
  have hx := h x (List.mem_cons_self ..)
  unfold Bf5 I1
  rw [List.map_cons, Bt8 hx.1 hx.2, ← N8]
  rfl
def Da4 (x1 x2 x3 x4 : Int) (l : List Int) (t : ByteArray) : ByteArray := I1 x1 ++ (I1 x2 ++ (I1 x3 ++ (I1 x4 ++ (E6 (l.length : Int) ++ (B98 I1 l ++ Aq7 t)))))
theorem Eh2 {e : C1} (h1 : Q9 (T4 e)) (h2 : Q9 (S3 e)) (h3 : Q9 (Ad7 e)) (h4 : Q9 (P8 e)) (h5 : ∀ x ∈ E5 e, Q9 x) :
  Bv1 e = Da4 (T4 e) (S3 e) (Ad7 e) (P8 e) (E5 e) (T5 e) := by
 have e4 : A48 e = I1 (T4 e) ++ (I1 (S3 e) ++ (I1 (Ad7 e) ++ I1 (P8 e))) := by
  unfold A48 I1
  rw [Bt8 h1.1 h1.2, Bt8 h2.1 h2.2, Bt8 h3.1 h3.2, Bt8 h4.1 h4.2, ← N8, ← N8, ← N8]
  rfl
 unfold Bv1 Da4
 rw [e4, E47 h5]
 simp only [Al2]
end Go.Vm
end
section
set_option linter.unusedVariables false
set_option linter.unusedSimpArgs false
namespace Go.Vm
open Go
theorem Aa3 {n : Int} (h : 0 ≤ n ∧ n ≤ 5) : Q9 n := ⟨h.1, by omega⟩
theorem Dv5 {e : C1} (h : Cs2 e = true) : ∀ x ∈ E5 e, Q9 x := by
 unfold Cs2 at h
 cases hk : (T4 e == 3) with
 | false =>
  rw [hk] at h
  have : E5 e = [] := Ce3.1 h
  rw [this]; intro x hx; cases hx
 | true =>
  rw [hk] at h
  simp only [cond_true, E41, Bool.and_eq_true] at h
  intro x hx
  obtain ⟨i, hi, rfl⟩ := List.getElem_of_mem hx
  have := (Eg3.1 h.1) i hi
  rw [Ad6 hi] at this
  have := D6.1 this
  exact ⟨this.1, by omega⟩
def evB (x0 x1 x2 x3 x4 : Int) (l : List Int) (t : ByteArray) (pr : List Int) (d : Int) : ByteArray :=
 E6 x0 ++ (Da4 x1 x2 x3 x4 l t ++ (E6 (pr.length : Int) ++ (B98 E6 pr ++ E6 d)))
theorem Fz4 (x0 x1 x2 x3 x4 : Int) (l : List Int) (t : ByteArray) (pr : List Int) (d : Int) (h1 : Q9 x1) (h2 : Q9 x2) (h3 : Q9 x3) (h4 : Q9 x4) (h5 : ∀ x ∈ l, Q9 x) :
  A49 (x0, x1, x2, x3, x4, l, t, pr, d, ()) = evB x0 x1 x2 x3 x4 l t pr d := by
 unfold A49 evB
 rw [Eh2 (e := (x0, x1, x2, x3, x4, l, t, pr, d, ())) h1 h2 h3 h4 h5]
 simp only [I4, Aa1, T4, S3, Ad7, P8, E5, T5, Cl7, Al2]
theorem Eh3 {e : C1} (h : Z1 e = true) : Q9 (T4 e) ∧ Q9 (S3 e) ∧ Q9 (Ad7 e) ∧ Q9 (P8 e) ∧ (∀ x ∈ E5 e, Q9 x) ∧ (E5 e).length ≤ 5 ∧ (T5 e).size ≤ 24 ∧
  Al1 e.1 ∧ Al1 (Aa1 e) ∧ (I4 e).length ≤ 3 ∧ (∀ x ∈ I4 e, Al1 x) := by
 have hf := Bv2 h
 have hb := Aq8 hf.1
 have hl : Cs2 e = true := by
  have := hf.1
  unfold body at this
  simp only [Bool.and_eq_true] at this
  exact this.1.2
 refine ⟨Aa3 ⟨by omega, by omega⟩, Aa3 ⟨by omega, by omega⟩, Aa3 ⟨by omega, by omega⟩, Aa3 ⟨by omega, by omega⟩, Dv5 hl, by omega, by omega, ⟨by omega, by omega⟩, ⟨by omega, by omega⟩, by omega, fun x hx => ?_⟩
 have := hf.2.2.2.2.1 x hx
 exact ⟨by omega, by omega⟩
def ReadsEv (a : ByteArray) (v : C1 × Bool) : Prop := (v = (B95, false) ∨ ∃ e, v = (e, true) ∧ Z1 e = true ∧ A49 e = a) ∧ ∀ e, Z1 e = true → A49 e = a → v = (e, true)
theorem ReadsEv.eq {a : ByteArray} {v w : C1 × Bool} (h1 : ReadsEv a v) (h2 : ReadsEv a w) : v = w := by
 rcases h1.1 with h | ⟨e, h, h3, h4⟩
 ·rcases h2.1 with h' | ⟨e', h', h3', h4'⟩
  ·rw [h, h']
  ·rw [h1.2 e' h3' h4', h']
 ·rw [h, h2.2 e h3 h4]
end Go.Vm
end
section
set_option linter.unusedVariables false
set_option linter.unusedSimpArgs false
namespace Go.Vm
open Go
abbrev noC : H9 := (0, 0, 0, B95, 0, 0, ())
def ReadsCmd (a : ByteArray) (v : H9 × Bool) : Prop := (v = (noC, false) ∨ ∃ x, v = (x, true) ∧ V8 x = true ∧ B96 x = a) ∧ ∀ x, V8 x = true → B96 x = a → v = (x, true)
theorem ReadsCmd.eq {a : ByteArray} {v w : H9 × Bool} (h1 : ReadsCmd a v) (h2 : ReadsCmd a w) : v = w := by
 rcases h1.1 with h | ⟨e, h, h3, h4⟩
 ·rcases h2.1 with h' | ⟨e', h', h3', h4'⟩
  ·rw [h, h']
  ·rw [h1.2 e' h3' h4', h']
 ·rw [h, h2.2 e h3 h4]
theorem Fk7 (a : ByteArray) (q : Nat) (b : Bool) (k : Nat) : q9 k (cur a q b) = some (!b && decide (q = a.size), cur a q b, ()) := by
 unfold q9
 cases b with
 | true => rfl
 | false =>
  have : (((q : Int) == (a.size : Int)) : Bool) = decide (q = a.size) := by
   by_cases h : q = a.size
   ·simp [h]
   ·rw [decide_eq_false h]; simp; omega
  show some (((q : Int) == (a.size : Int)), _, ()) = _
  rw [this]; rfl
theorem D16 {e : C1} (h : A50 e B95 = true) : e = B95 := by
 obtain ⟨x0, x1, x2, x3, x4, l, t, p, d, ⟨⟩⟩ := e
 simp only [A50, Bool.and_eq_true, beq_iff_eq, E44, Cl3, T4, S3, Ad7, P8, T5, Aa1, E5, I4] at h
 obtain ⟨⟨⟨⟨⟨⟨⟨⟨h0, h1⟩, h2⟩, h3⟩, h4⟩, h5⟩, h6⟩, h7⟩, h8⟩ := h
 have e5 : t = ByteArray.empty := by
  have := Y9 t ByteArray.empty
  rw [beq_iff_eq.2 h5] at this
  exact of_decide_eq_true this.symm
 have e7 : l = [] := by have := h7.1; simp at this; exact this
 have e8 : p = [] := by have := h8.1; simp at this; exact this
 subst e5; subst e7; subst e8; subst h0; subst h1; subst h2; subst h3; subst h4; subst h6
 rfl
theorem E48 {e : C1} (h : Cl4 e = true) : e = (0, T4 e, S3 e, Ad7 e, P8 e, E5 e, T5 e, [], 0, ()) ∧ body e = true := by
 obtain ⟨x0, x1, x2, x3, x4, l, t, p, d, ⟨⟩⟩ := e
 simp only [Cl4, Bool.and_eq_true, beq_iff_eq] at h
 obtain ⟨⟨⟨h0, h1⟩, h2⟩, h3⟩ := h
 have := Ce3.1 h2
 simp only [Aa1, I4] at h0 h1 this
 subst h0; subst h1; subst this
 exact ⟨rfl, h3⟩
theorem E49 {e : C1} (h : body e = true) : Q9 (T4 e) ∧ Q9 (S3 e) ∧ Q9 (Ad7 e) ∧ Q9 (P8 e) ∧ (∀ x ∈ E5 e, Q9 x) ∧ (E5 e).length ≤ 5 ∧ (T5 e).size ≤ 24 := by
 have hb := Aq8 h
 have hl : Cs2 e = true := by
  unfold body at h
  simp only [Bool.and_eq_true] at h
  exact h.1.2
 exact ⟨Aa3 ⟨by omega, by omega⟩, Aa3 ⟨by omega, by omega⟩, Aa3 ⟨by omega, by omega⟩, Aa3 ⟨by omega, by omega⟩, Dv5 hl, by omega, by omega⟩
def Da5 (x : H9) (rest : ByteArray) : ByteArray := I1 x.1 ++ (E6 x.2.1 ++ (E6 x.2.2.1 ++ rest))
inductive Cmd (x : H9) : Prop where
 | sent (h1 : x.1 = 2) (e : x.2.2.2 = ((0, T4 x.2.2.2.1, S3 x.2.2.2.1, Ad7 x.2.2.2.1, P8 x.2.2.2.1, E5 x.2.2.2.1, T5 x.2.2.2.1, [], 0, ()), 0, 0, ())) (h2 : body x.2.2.2.1 = true) (h3 : B96 x = Da5 x (Da4 (T4 x.2.2.2.1) (S3 x.2.2.2.1) (Ad7 x.2.2.2.1) (P8 x.2.2.2.1) (E5 x.2.2.2.1) (T5 x.2.2.2.1)))
 | come (h1 : x.1 = 3) (e : x.2.2.2 = (x.2.2.2.1, 0, 0, ())) (h2 : Z1 x.2.2.2.1 = true) (h3 : B96 x = Da5 x (Aq7 (A49 x.2.2.2.1)))
 | ack (h1 : x.1 = 4) (e : x.2.2.2 = (B95, x.2.2.2.2.1, x.2.2.2.2.2.1, ())) (h2 : Al1 x.2.2.2.2.1) (h2' : Al1 x.2.2.2.2.2.1) (h3 : B96 x = Da5 x (E6 x.2.2.2.2.1 ++ E6 x.2.2.2.2.2.1))
 | bare (h1 : (x.1 == 2) = false) (h1' : (x.1 == 3) = false) (h1'' : (x.1 == 4) = false) (e : x.2.2.2 = (B95, 0, 0, ())) (h3 : B96 x = Da5 x ⟨#[]⟩)
theorem Fo9 {x : H9} (h : V8 x = true) : Cmd x ∧ Q9 x.1 ∧ Al1 x.2.1 ∧ Al1 x.2.2.1 := by
 obtain ⟨op, n1, n2, e, d, n, ⟨⟩⟩ := x
 have hf := Dv2 h
 unfold V8 at h
 simp only [Bool.and_eq_true] at h
 obtain ⟨⟨h1, h2⟩, h3⟩ := h
 have hn1 : Al1 n1 := ⟨by have := hf.1; simp only at this; omega, by have := hf.1; simp only at this; omega⟩
 have hn2 : Al1 n2 := ⟨by have := hf.2.1; simp only at this; omega, by have := hf.2.1; simp only at this; omega⟩
 have hop : op = 1 ∨ op = 2 ∨ op = 3 ∨ op = 4 ∨ op = 5 := by
  rcases Eg9 op with ⟨q1, q2, q3, q4, q5, q6⟩ | ⟨q1, q2, q3, q4, q5, q6⟩ | ⟨q1, q2, q3, q4, q5, q6⟩ | ⟨q1, q2, q3, q4, q5, q6⟩ | ⟨q1, q2, q3, q4, q5, q6⟩ | ⟨q1, q2, q3, q4, q5, q6⟩
  ·exact .inl (by simpa using q1)
  ·exact .inr (.inl (by simpa using q2))
  ·exact .inr (.inr (.inl (by simpa using q3)))
  ·exact .inr (.inr (.inr (.inl (by simpa using q4))))
  ·exact .inr (.inr (.inr (.inr (by simpa using q5))))
  ·simp only [q1, q2, q3, q4, q5, cond_false] at h3; cases h3
 refine ⟨?_, ⟨by simp only; omega, by simp only; omega⟩, hn1, hn2⟩
 rcases hop with rfl | rfl | rfl | rfl | rfl
 ·simp only [beq_self_eq_true, cond_true, Bool.and_eq_true, beq_iff_eq] at h3
  obtain ⟨⟨⟨⟨g1, g2⟩, g3⟩, _⟩, _⟩ := h3
  refine .bare rfl rfl rfl ?_ ?_
  ·rw [D16 g1, g2, g3]
  ·unfold B96 Da5 I1; simp only [Al2]; rfl
 ·have h3 : (d == 0) = true ∧ (n == 0) = true ∧ Cl4 e = true := by
   simp only [show ((2 : Int) == 1) = false from rfl, cond_false, beq_self_eq_true, cond_true, Bool.and_eq_true] at h3
   exact ⟨h3.1.1, h3.1.2, h3.2⟩
  obtain ⟨g1, g2, g3⟩ := h3
  obtain ⟨g4, g5⟩ := E48 g3
  obtain ⟨k1, k2, k3, k4, k5, _⟩ := E49 g5
  refine .sent rfl ?_ g5 ?_
  ·simp only [beq_iff_eq] at g1 g2
   simp only
   rw [g1, g2, ← g4]
  ·unfold B96 Da5 I1; simp only [Al2]
   rw [← Eh2 k1 k2 k3 k4 k5]; rfl
 ·have h3 : (d == 0) = true ∧ (n == 0) = true ∧ Z1 e = true := by
   simp only [show ((3 : Int) == 1) = false from rfl, show ((3 : Int) == 2) = false from rfl, cond_false, beq_self_eq_true, cond_true, Bool.and_eq_true] at h3
   exact ⟨h3.1.1.1, h3.1.1.2, h3.1.2⟩
  obtain ⟨g1, g2, g3⟩ := h3
  refine .come rfl ?_ g3 ?_
  ·simp only [beq_iff_eq] at g1 g2
   simp only
   rw [g1, g2]
  ·unfold B96 Da5 I1; simp only [Al2]; rfl
 ·have h3 : A50 e B95 = true ∧ i6 d 1 2 = true ∧ i6 n 0 1000000 = true := by
   simp only [show ((4 : Int) == 1) = false from rfl, show ((4 : Int) == 2) = false from rfl, show ((4 : Int) == 3) = false from rfl, cond_false, beq_self_eq_true, cond_true, Bool.and_eq_true] at h3
   exact ⟨h3.1.1, h3.1.2, h3.2⟩
  obtain ⟨g1, g2, g3⟩ := h3
  have g2 := D6.1 g2
  have g3 := D6.1 g3
  refine .ack rfl ?_ ⟨by simp only; omega, by simp only; omega⟩ ⟨by simp only; omega, by simp only; omega⟩ ?_
  ·simp only
   rw [D16 g1]
  ·unfold B96 Da5 I1; simp only [Al2]; rfl
 ·have h3 : A50 e B95 = true ∧ (d == 0) = true ∧ (n == 0) = true := by
   simp only [show ((5 : Int) == 1) = false from rfl, show ((5 : Int) == 2) = false from rfl, show ((5 : Int) == 3) = false from rfl, show ((5 : Int) == 4) = false from rfl, cond_false, beq_self_eq_true, cond_true, Bool.and_eq_true] at h3
   exact ⟨h3.1.1, h3.1.2, h3.2⟩
  obtain ⟨g1, g2, g3⟩ := h3
  refine .bare rfl rfl rfl ?_ ?_
  ·simp only [beq_iff_eq] at g2 g3
   simp only
   rw [D16 g1, g2, g3]
  ·unfold B96 Da5 I1; simp only [Al2]; rfl
section
variable {a : ByteArray} {x0 x1 x2 : Int} {q0 q1 q2 : Nat} {b0 b1 b2 : Bool} (R0 : Rd a I1 Q9 0 0 false x0 q0 b0) (R1 : Rd a E6 Al1 0 q0 b0 x1 q1 b1) (R2 : Rd a E6 Al1 0 q1 b1 x2 q2 b2)
include R0 R1 R2
end
end Go.Vm
end
section
set_option linter.unusedVariables false
set_option linter.unusedSimpArgs false
namespace Go.Vm
open Go
theorem Dv6 (l : List Int) (hl : l.length ≤ 1000) (h : ∀ n ∈ l, 0 ≤ n ∧ n ≤ 1000000000) : Ev (fun k => B92 k l) (Bj6 l, true) := by
 have each : ∀ i (hi : i < l.length), Ev (fun k => X1 k l[i]) (E6 l[i], true) := fun i hi => by
  obtain ⟨h1, h2⟩ := h _ (List.getElem_mem hi)
  rw [← D13 h1 h2]
  exact Bl3 _
 have sz : ∀ i, i ≤ l.length → ((l.take i).flatMap fun n => D5 (E6 n)).length ≤ 5 * i := fun i hi => by
  have := Cl1 (l := l.take i) (fun n hn => (h n (List.mem_of_mem_take hn)).2)
  unfold Bj6 at this
  rw [D3] at this
  simp at this ⊢
  omega
 have loop := Fz0 (l := fun k m i => Aq3 k m l (i : Int) ((l.take i).flatMap fun n => D5 (E6 n))) (N := l.length) (r := (Bj6 l, true)) (fun i hi => by
  obtain ⟨K, hK⟩ := each i hi
  refine ⟨K, fun k hk m => ?_⟩
  have e := Z5 hi (by omega)
  have h1 := hK k hk
  have h2 := sz i (by omega)
  have h3 := D2 (h _ (List.getElem_mem hi)).2
  simp only [Aq3, B32, hi, Int.ofNat_lt, Int.natCast_nonneg, decide_true, br_true, gd_true, Int.toNat_natCast, Ad6 hi, e, h1, bd_some, Bool.not_true, br_false]
  rw [A83 (by unfold A2; rw [F7]; omega), List.take_succ_eq_append_getElem hi, List.flatMap_append]
  simp) ⟨0, fun k _ m => by simp [Aq3, B32, Bj6]⟩ 0 (Nat.zero_le _)
 obtain ⟨K, hK⟩ := loop
 exact ⟨K, fun k hk => by simpa [B92, C94] using hK k hk k hk⟩
end Go.Vm
end
section
set_option linter.unusedVariables false
set_option linter.unusedSimpArgs false
namespace Go.Vm
open Go
theorem Re.b1 {α R : Type} {g : Nat → Option α} {F : Nat → α → Option R} {P : α → Prop} {Q : R → Prop} (h : Re g P) (h2 : ∀ a, P a → Re (fun k => F k a) Q) : Re (fun k => Vm.bd (g k) (F k)) Q := Re.bd L8 h h2
theorem Re.b2 {α R : Type} {g : Nat → Option α} {F : Nat × Nat → α → Option R} {P : α → Prop} {Q : R → Prop} (h : Re g P) (h2 : ∀ a, P a → Re (fun x => F x a) Q) : Re (fun x : Nat × Nat => Vm.bd (g x.1) (F x)) Q := Re.bd (Fo4 L8) h h2
theorem Re.c1 {α R : Type} {g : Nat → Option α} {F : Nat → α → Option R} {v : α} {Q : R → Prop} (h : Ev g v) (h2 : Re (fun k => F k v) Q) : Re (fun k => Vm.bd (g k) (F k)) Q := Re.b1 (P := fun a => a = v) (Ev.re h rfl) fun a ha => by subst ha; exact h2
theorem Re.s1 {α R : Type} {g : Nat → Option α} {F : Nat → α → Option R} {v : α} {Q : R → Prop} (h : ∀ k, g k = some v) (h2 : Re (fun k => F k v) Q) : Re (fun k => Vm.bd (g k) (F k)) Q := Re.c1 (Ev.of h) h2
theorem Al3 {a b : Int} (h : a ≠ b) : (a == b) = false := by simpa using h
theorem Re.s2 {α R : Type} {g : Nat → Option α} {F : Nat × Nat → α → Option R} {v : α} {Q : R → Prop} (h : ∀ k, g k = some v) (h2 : Re (fun x => F x v) Q) : Re (fun x : Nat × Nat => Vm.bd (g x.1) (F x)) Q := Re.b2 (P := fun a => a = v) (Ev.re (Ev.of h) rfl) fun a ha => by subst ha; exact h2
theorem Re.c2 {α R : Type} {g : Nat → Option α} {F : Nat × Nat → α → Option R} {v : α} {Q : R → Prop} (h : Ev g v) (h2 : Re (fun x => F x v) Q) : Re (fun x : Nat × Nat => Vm.bd (g x.1) (F x)) Q := Re.b2 (P := fun a => a = v) (Ev.re h rfl) fun a ha => by subst ha; exact h2
theorem Re.gdd {ι R : Type} [Fuel ι] {p : Prop} [Decidable p] {f : ι → Option R} {Q : R → Prop} (hp : p) (h : Re f Q) : Re (fun x => Vm.gd (decide p) (f x)) Q := Re.gd (decide_eq_true hp) h
theorem Re.brd {ι R : Type} [Fuel ι] {p : Prop} [Decidable p] {f g : ι → Option R} {Q : R → Prop} (h1 : p → Re f Q) (h2 : ¬ p → Re g Q) : Re (fun x => Vm.br (decide p) (f x) (g x)) Q := Re.br (fun h => h1 (of_decide_eq_true h)) (fun h => h2 (of_decide_eq_false h))
theorem Re.bre {ι R : Type} [Fuel ι] {a b : Int} {f g : ι → Option R} {Q : R → Prop} (h1 : a = b → Re f Q) (h2 : a ≠ b → Re g Q) : Re (fun x => Vm.br (a == b) (f x) (g x)) Q := Re.br (fun h => h1 (by simpa using h)) (fun h => h2 (by simpa using h))
theorem Re.brn {ι R : Type} [Fuel ι] {a b : Int} {f g : ι → Option R} {Q : R → Prop} (h1 : a ≠ b → Re f Q) (h2 : a = b → Re g Q) : Re (fun x => Vm.br (a != b) (f x) (g x)) Q := Re.br (fun h => h1 (by simpa using h)) (fun h => h2 (by simpa using h))
theorem Re.brb {ι R : Type} [Fuel ι] {b : Bool} {f g : ι → Option R} {Q : R → Prop} (h1 : Re f Q) (h2 : Re g Q) : Re (fun x => Vm.br b (f x) (g x)) Q := Re.br (fun _ => h1) (fun _ => h2)
theorem Re.wf {σ R : Type} {l : Nat → Nat → σ → Option R} {I : σ → Prop} (μ : σ → Nat × Nat) {Q : σ → R → Prop}
  (step : ∀ s, I s → (∀ s', I s' → ((μ s').1 < (μ s).1 ∨ ((μ s').1 = (μ s).1 ∧ (μ s').2 < (μ s).2)) → Re (fun x : Nat × Nat => l x.1 x.2 s') (Q s')) → Re (fun x : Nat × Nat => l x.1 (x.2 + 1) s) (Q s)) : ∀ s, I s → Re (fun x : Nat × Nat => l x.1 x.2 s) (Q s) := by
 have : ∀ a b s, (μ s).1 = a → (μ s).2 = b → I s → Re (fun x : Nat × Nat => l x.1 x.2 s) (Q s) := by
  intro a
  induction a using Nat.strongRecOn with
  | _ a iha =>
   intro b
   induction b using Nat.strongRecOn with
   | _ b ihb =>
    intro s h1 h2 hI
    obtain ⟨v, hv, K, hK⟩ := step s hI fun s' g1 g2 => by
     rcases g2 with g2 | ⟨g2, g3⟩
     ·exact iha (μ s').1 (by omega) (μ s').2 s' rfl rfl g1
     ·exact ihb (μ s').2 (by omega) s' (by omega) rfl g1
    refine ⟨v, hv, K + 1, fun x hx => ?_⟩
    obtain ⟨y, n⟩ := x
    obtain ⟨m, rfl⟩ : ∃ m, n = m + 1 := ⟨n - 1, by have := hx.2; simp only at this; omega⟩
    exact hK (y, m) ⟨Fuel.mono (Nat.le_succ K) hx.1, by have := hx.2; simp only at this ⊢; omega⟩
 exact fun s hI => this _ _ s rfl rfl hI
theorem Fk8 (a : Int) : 0 ≤ E21 .i64 a 255 ∧ E21 .i64 a 255 < 256 := by
 have h : (BitVec.ofInt 64 a &&& BitVec.ofInt 64 255).toNat ≤ 255 := by
  rw [BitVec.toNat_and]
  exact Nat.and_le_right
 have e : E21 .i64 a 255 = B8 (((BitVec.ofInt 64 a &&& BitVec.ofInt 64 255).toNat : Nat) : Int) := rfl
 rw [e, C6 (by omega) (by omega)]
 omega
def CurOk (c : A4) : Prop := 0 ≤ c.2.1 ∧ c.2.1 ≤ c.1.length ∧ c.1.length ≤ 1048576
theorem Ce8 (c : A4) (h : CurOk c) : Re (fun k => Ab4 k c) (fun r => (0 ≤ r.1 ∧ r.1 < 256) ∧ CurOk r.2.1) := by
 obtain ⟨h1, h2, h3⟩ := h
 refine Re.brd (fun h4 => ?_) (fun h4 => ?_)
 ·refine Re.gdd h1 (Re.gdd h4 (Re.ret ⟨Fk8 _, ?_⟩))
  have : B8 (c.2.1 + 1) = c.2.1 + 1 := C6 (by omega) (by omega)
  exact ⟨by simp only [this]; omega, by simp only [this]; omega, h3⟩
 ·exact Re.ret ⟨Fk8 _, h1, h2, h3⟩
def Eh4 (n : Int) (r : Int × A4 × Unit) : Prop := (0 ≤ r.1 ∧ (r.1 < n ∨ n ≤ 0 ∧ r.1 = 0)) ∧ CurOk r.2.1
theorem I7 (c : A4) (n : Int) (h : CurOk c) : Re (fun k => C5 k c n) (Eh4 n) := by
 refine Re.brd (fun h1 => Re.ret ⟨⟨Int.le_refl 0, .inr ⟨h1, rfl⟩⟩, h⟩) (fun h1 => ?_)
 refine Re.brd (fun h2 => ?_) (fun h2 => ?_)
 ·refine Re.b1 (Ce8 c h) fun r hr => ?_
  refine Re.ng (by simp; omega) (Re.ret ⟨⟨Int.tmod_nonneg _ hr.1.1, .inl (Int.tmod_lt_of_pos _ (by omega))⟩, hr.2⟩)
 ·refine Re.b1 (Ce8 c h) fun r2 hr2 => ?_
  refine Re.b1 (Ce8 _ hr2.2) fun r3 hr3 => ?_
  refine Re.b1 (Ce8 _ hr3.2) fun r4 hr4 => ?_
  refine Re.b1 (Ce8 _ hr4.2) fun r5 hr5 => ?_
  obtain ⟨⟨a1, a2⟩, _⟩ := hr2
  obtain ⟨⟨a3, a4⟩, _⟩ := hr3
  obtain ⟨⟨a5, a6⟩, _⟩ := hr4
  obtain ⟨⟨a7, a8⟩, _⟩ := hr5
  have e1 : B8 (r2.1 * 16777216) = r2.1 * 16777216 := C6 (by omega) (by omega)
  have e2 : B8 (r3.1 * 65536) = r3.1 * 65536 := C6 (by omega) (by omega)
  have e3 : B8 (r4.1 * 256) = r4.1 * 256 := C6 (by omega) (by omega)
  have e4 : B8 (r2.1 * 16777216 + r3.1 * 65536) = r2.1 * 16777216 + r3.1 * 65536 := C6 (by omega) (by omega)
  have e5 : B8 (r2.1 * 16777216 + r3.1 * 65536 + r4.1 * 256) = r2.1 * 16777216 + r3.1 * 65536 + r4.1 * 256 := C6 (by omega) (by omega)
  have e6 : B8 (r2.1 * 16777216 + r3.1 * 65536 + r4.1 * 256 + r5.1) = r2.1 * 16777216 + r3.1 * 65536 + r4.1 * 256 + r5.1 := C6 (by omega) (by omega)
  simp only [e1, e2, e3, e4, e5, e6]
  refine Re.ng (by simp; omega) (Re.ret ⟨⟨Int.tmod_nonneg _ (by omega), .inl (Int.tmod_lt_of_pos _ (by omega))⟩, ?_⟩)
  assumption
theorem B35 (c : A4) (n : Int) (h : CurOk c) : Re (fun k => P2 k c n) (fun r => CurOk r.2.1) :=
 Re.b1 (I7 c n h) fun r hr => Re.ret hr.2
theorem Da6 (c : A4) (l : List Int) (h : CurOk c) (hl : l ≠ []) : Re (fun k => Ab5 k c l) (fun r => r.1 ∈ l ∧ CurOk r.2.1) := by
 refine Re.b1 (I7 c l.length h) fun r hr => ?_
 obtain ⟨⟨h1, h2⟩, h3⟩ := hr
 have hl : 0 < l.length := List.length_pos_iff.2 hl
 have h4 : r.1 < l.length := by omega
 refine Re.gdd h1 (Re.gdd h4 (Re.ret ⟨?_, h3⟩))
 rw [Ad6 (show r.1.toNat < l.length by omega)]
 exact List.getElem_mem _
theorem Gj3 {R : Type} {l : Nat → Nat → Int → Int → Option R} {h : Int → Int → Int} {C : Nat → Int → Option R} {Q : R → Prop} (a : List Int) (ha : a.length ≤ 1048576)
  (hs : ∀ k n v1 v2, l k (n + 1) v1 v2 = br (decide (v2 < (a.length : Int))) (br (decide (v2 < 4000)) (gd (decide (0 ≤ v2)) (gd (decide (v2 < (a.length : Int))) (l k n (h v1 v2) (B8 (v2 + 1))))) (C k v1)) (C k v1))
  (hC : ∀ c : Int, CurOk (a, 0, c, ()) → Re (fun k : Nat => C k c) Q) (v : Int) : Re (fun k => l k k v 0) Q := by
 have hc : ∀ c : Int, Re (fun x : Nat × Nat => C x.1 c) Q := fun c => Re.up (hC c ⟨Int.le_refl 0, by show (0 : Int) ≤ _; omega, ha⟩)
 refine Re.enter (f := fun k n => l k n v 0) L8 ?_
 have := Re.loop (ι := Nat) (l := fun k n (s : Int × Int) => l k n s.1 s.2) (I := fun s => 0 ≤ s.2 ∧ s.2 ≤ a.length) (fun s => (a.length - s.2).toNat) (Q := fun _ v => Q v) (fun s hi ih => by
  obtain ⟨v1, v2⟩ := s
  simp only at hi
  simp only [hs]
  refine Re.brd (fun h1 => ?_) (fun h1 => hc _)
  refine Re.brd (fun h2 => ?_) (fun h2 => hc _)
  have e : B8 (v2 + 1) = v2 + 1 := C6 (by omega) (by omega)
  refine Re.gdd hi.1 (Re.gdd h1 ?_)
  rw [e]
  exact ih (h v1 v2, v2 + 1) (by simp only; omega) (by simp only; omega)) (v, 0) ⟨Int.le_refl 0, by simp only; omega⟩
 exact this
theorem CurOk.eta {c : A4} (h : CurOk c) : CurOk (c.1, c.2.1, c.2.2.1, ()) := h
end Go.Vm
end
section
set_option linter.unusedVariables false
set_option linter.unusedSimpArgs false
namespace Go.Vm
open Go
def Fk9 (xs : List Int) : Prop := ∀ i, i < xs.length → (1 ≤ rd 0 xs i ∧ rd 0 xs i ≤ 4) ∧ (0 < i → rd 0 xs (i - 1) < rd 0 xs i)
def Cs5 (xs : List Int) : Prop := 1 ≤ xs.length ∧ xs.length ≤ 4 ∧ Fk9 xs
noncomputable def s9 (xs : List Int) : Bool := @decide (Cs5 xs) (Classical.propDecidable _)
theorem Ah3 {xs : List Int} : s9 xs = true ↔ Cs5 xs := by unfold s9; exact @decide_eq_true_iff _ (Classical.propDecidable _)
theorem B36 {xs : List Int} (h : ¬ Cs5 xs) : s9 xs = false := by
 cases e : s9 xs with
 | false => rfl
 | true => exact absurd (Ah3.1 e) h
theorem As9 (a b c : Int) : i6 a b c = decide (b ≤ a ∧ a ≤ c) := by unfold i6; rw [Bool.decide_and]
theorem Dv7 {l : Nat → Nat → Nat → Option Bool} {V : Bool} (xs : List Int)
  (hs : ∀ i, i < xs.length → (((1 ≤ rd 0 xs i ∧ rd 0 xs i ≤ 4) ∧ (0 < i → rd 0 xs (i - 1) < rd 0 xs i)) → Re (fun x : Nat × Nat => l x.1 x.2 (i + 1)) (fun v => v = V)) → (¬ ((1 ≤ rd 0 xs i ∧ rd 0 xs i ≤ 4) ∧ (0 < i → rd 0 xs (i - 1) < rd 0 xs i)) → V = false) → Re (fun x : Nat × Nat => l x.1 (x.2 + 1) i) (fun v => v = V))
  (hn : ¬ Fk9 xs → V = false) (he : Fk9 xs → Re (fun x : Nat × Nat => l x.1 (x.2 + 1) xs.length) (fun v => v = V)) : Re (fun x : Nat × Nat => l x.1 x.2 0) (fun v => v = V) := by
 have := Re.loop (ι := Nat) (l := fun k n i => l k n i) (I := fun i => i ≤ xs.length ∧ ∀ j, j < i → (1 ≤ rd 0 xs j ∧ rd 0 xs j ≤ 4) ∧ (0 < j → rd 0 xs (j - 1) < rd 0 xs j)) (fun i => xs.length - i) (Q := fun _ v => v = V) (fun i hi ih => by
  by_cases h : i < xs.length
  ·refine hs i h (fun g => ih (i + 1) ⟨by omega, fun j hj => ?_⟩ (by omega)) (fun g => hn fun hr => g (hr i h))
   by_cases hj2 : j < i
   ·exact hi.2 j hj2
   ·have : j = i := by omega
    subst this; exact g
  ·have hi2 : i = xs.length := by omega
   subst hi2
   exact he hi.2) 0 ⟨Nat.zero_le _, fun j hj => by omega⟩
 exact this
theorem Cs6 (xs : List Int) (hx : xs.length ≤ 1048576) : Ev (fun k => Au0 k xs) (s9 xs) := by
 refine Re.eq ?_
 refine Re.s1 (I0 · _ _ _) ?_
 rw [As9]
 refine Re.brd (fun h => ?_) (fun h => Re.ret (B36 fun hc => h ⟨by have := hc.1; omega, by have := hc.2.1; omega⟩).symm)
 refine Re.b1 (P := fun v => v = s9 xs) ?_ (fun v hv => Re.ret hv)
 refine Re.enter (f := fun k n => X6 k n xs 1 4 0) L8 ?_
 refine Dv7 (l := fun k n i => X6 k n xs 1 4 (i : Int)) xs (fun i hi ih hf => ?_) (fun g => B36 fun hc => g hc.2.2) (fun g => ?_)
 ·simp only [X6, Az7]
  refine Re.brd (fun _ => ?_) (fun h => absurd (by omega : (i : Int) < xs.length) h)
  refine Re.gdd (by omega) (Re.gdd (by omega) ?_)
  refine Re.b2 (P := fun v => v = i6 (rd 0 xs i) 1 4) (Ev.re (Ev.of fun k => I0 k _ _ _) rfl) fun v hv => ?_
  subst hv
  rw [As9]
  refine Re.br (fun h1 => ?_) (fun h1 => ?_)
  ·exact Re.ret (hf fun g => by simp [g.1] at h1).symm
  ·have h1 : 1 ≤ rd 0 xs i ∧ rd 0 xs i ≤ 4 := by simpa using h1
   have e : B8 ((i : Int) + 1) = ((i + 1 : Nat) : Int) := Z5 hi (by omega)
   rw [e]
   refine Re.brd (fun h2 => ?_) (fun h2 => ih ⟨h1, fun h => absurd (by omega) h2⟩)
   have e2 : B8 ((i : Int) - 1) = ((i - 1 : Nat) : Int) := Cd1 (by omega) (by omega)
   rw [e2]
   refine Re.gdd (by omega) (Re.gdd (by omega) (Re.gdd (by omega) (Re.gdd (by omega) ?_)))
   simp only [Int.toNat_natCast]
   refine Re.brd (fun h3 => Re.ret (hf fun g => by have := g.2 (by omega); omega).symm) (fun h3 => ih ⟨h1, fun _ => by omega⟩)
 ·simp only [X6, Az7, Int.lt_irrefl, decide_false, br_false]
  exact Re.ret (Ah3.2 ⟨by omega, by omega, g⟩).symm
theorem Eh5 (xs : List Int) (hx : xs.length ≤ 1048576) : Ev (fun k => Bu6 k xs) (s9 xs) := by
 refine Re.eq ?_
 refine Re.enter (f := fun k n => j2 k n xs 0) L8 ?_
 refine Dv7 (l := fun k n i => j2 k n xs (i : Int)) xs (fun i hi ih hf => ?_) (fun g => B36 fun hc => g hc.2.2) (fun g => ?_)
 ·simp only [j2, A90]
  refine Re.brd (fun _ => ?_) (fun h => absurd (by omega : (i : Int) < xs.length) h)
  refine Re.gdd (by omega) (Re.gdd (by omega) ?_)
  refine Re.b2 (P := fun v => v = i6 (rd 0 xs i) 1 4) (Ev.re (Ev.of fun k => N0 k _ _ _) rfl) fun v hv => ?_
  subst hv
  rw [As9]
  refine Re.br (fun h1 => ?_) (fun h1 => ?_)
  ·exact Re.ret (hf fun g => by simp [g.1] at h1).symm
  ·have h1 : 1 ≤ rd 0 xs i ∧ rd 0 xs i ≤ 4 := by simpa using h1
   have e : B8 ((i : Int) + 1) = ((i + 1 : Nat) : Int) := Z5 hi (by omega)
   rw [e]
   refine Re.brd (fun h2 => ?_) (fun h2 => ih ⟨h1, fun h => absurd (by omega) h2⟩)
   have e2 : B8 ((i : Int) - 1) = ((i - 1 : Nat) : Int) := Cd1 (by omega) (by omega)
   rw [e2]
   refine Re.gdd (by omega) (Re.gdd (by omega) ?_)
   simp only [Int.toNat_natCast]
   refine Re.brd (fun h3 => Re.ret (hf fun g => by have := g.2 (by omega); omega).symm) (fun h3 => ih ⟨h1, fun _ => by omega⟩)
 ·simp only [j2, A90, Int.lt_irrefl, decide_false, br_false]
  refine Re.b2 (P := fun v => v = i6 (xs.length : Int) 1 4) (Ev.re (Ev.of fun k => N0 k _ _ _) rfl) fun v hv => ?_
  subst hv
  refine Re.ret ?_
  rw [As9, Bool.eq_iff_iff, decide_eq_true_iff, Ah3]
  exact ⟨fun h => ⟨by omega, by omega, g⟩, fun h => ⟨by have := h.1; omega, by have := h.2.1; omega⟩⟩
def U6 (a : ByteArray) : List Int := D5 a
theorem S4 (a : ByteArray) : (U6 a).length = a.size := F7 a
theorem Cs7 {a : ByteArray} {i : Nat} (h : i < a.size) : (U6 a).take (i + 1) = (U6 a).take i ++ [B8 (bt a i)] := by
 have hb := Ce5 a i
 have hl : i < (D5 a).length := by rw [F7]; exact h
 rw [C6 (by omega) (by omega), Dv3, Ad6 hl]
 unfold U6
 rw [List.take_add_one, List.getElem?_eq_getElem hl]
 rfl
noncomputable def Ae9 (a : ByteArray) : List Int × Bool := bif s9 (U6 a) then (U6 a, true) else ([], false)
theorem Dj1 (a : ByteArray) (ha : a.size ≤ 1048576) : Ev (fun k => A45 k a) (Ae9 a) := by
 refine Re.eq ?_
 refine Re.enter (f := fun k n => Y5 k n a 0 []) L8 ?_
 have := Re.loop (ι := Nat) (l := fun k n (i : Nat) => Y5 k n a (i : Int) ((U6 a).take i)) (I := fun i => i ≤ a.size) (fun i => a.size - i) (Q := fun _ v => v = Ae9 a) (fun i hi ih => by
  simp only [Y5, Ba6]
  refine Re.brd (fun h => ?_) (fun h => ?_)
  ·refine Re.gdd (by omega) (Re.gdd h (Re.gdd ?_ ?_))
   ·have := S4 a
    simp [A2]; omega
   ·rw [Z5 (show i < a.size by omega) (by omega), Int.toNat_natCast, ← Cs7 (by omega)]
    exact ih (i + 1) (by omega) (by omega)
  ·have e : (U6 a).take i = U6 a := List.take_of_length_le (by rw [S4]; omega)
   rw [e]
   refine Re.b2 (P := fun v => v = s9 (U6 a)) (Ev.re (Eh5 _ (by rw [S4]; exact ha)) rfl) fun v hv => ?_
   subst hv
   unfold Ae9
   cases s9 (U6 a) <;> exact Re.ret rfl) 0 (Nat.zero_le _)
 simpa using this
theorem Dj2 (a : ByteArray) (ha : a.size ≤ 1048576) : Ev (fun k => A40 k a) (Ae9 a) := by
 refine Re.eq ?_
 refine Re.enter (f := fun k n => Y1 k n a 0 []) L8 ?_
 have fin : ∀ i : Nat, i ≤ a.size → (i = a.size ∨ 5 ≤ i) → Re (fun x : Nat × Nat => br (((((U6 a).take i).length : Nat) : Int) != (a.size : Int)) (some (([] : List Int), false)) (bd (Au0 x.1 ((U6 a).take i)) fun r1 => (br (!r1) (some ([], false)) (some (((U6 a).take i), true))))) (fun v => v = Ae9 a) := by
  intro i hi h5
  have hl : ((U6 a).take i).length = i := by rw [List.length_take, S4]; omega
  rw [hl]
  refine Re.brn (fun h => Re.ret ?_) (fun h => ?_)
  ·unfold Ae9
   rw [B36 (fun hc => by have := hc.2.1; rw [S4] at this; omega)]
   rfl
  ·have e : (U6 a).take i = U6 a := List.take_of_length_le (by rw [S4]; omega)
   rw [e]
   refine Re.b2 (P := fun v => v = s9 (U6 a)) (Ev.re (Cs6 _ (by rw [S4]; exact ha)) rfl) fun v hv => ?_
   subst hv
   unfold Ae9
   cases s9 (U6 a) <;> exact Re.ret rfl
 have := Re.loop (ι := Nat) (l := fun k n (i : Nat) => Y1 k n a (i : Int) ((U6 a).take i)) (I := fun i => i ≤ a.size) (fun i => a.size - i) (Q := fun _ v => v = Ae9 a) (fun i hi ih => by
  simp only [Y1, Ba3]
  refine Re.brd (fun h => ?_) (fun h => fin i hi (.inl (by omega)))
  refine Re.brd (fun h4 => ?_) (fun h4 => fin i hi (.inr (by omega)))
  refine Re.gdd (by omega) (Re.gdd h (Re.gdd ?_ ?_))
  ·have := S4 a
   simp [A2]; omega
  ·rw [Z5 (show i < a.size by omega) (by omega), Int.toNat_natCast, ← Cs7 (by omega)]
   exact ih (i + 1) (by omega) (by omega)) 0 (Nat.zero_le _)
 simpa using this
noncomputable def N4 (e : A9) : Bool := i6 e.1 0 100000 && (bif e.2.1 == 1 then decide (e.2.2.1 = ⟨#[]⟩) else bif e.2.1 == 2 then s9 (U6 e.2.2.1) else bif e.2.1 == 3 then decide (e.2.2.1.size ≤ 120) else false)
theorem Eh6 (a : ByteArray) : decide ((a.size : Int) ≤ 120) = decide (a.size ≤ 120) := by
 by_cases h : a.size ≤ 120
 ·rw [decide_eq_true h, decide_eq_true (by omega)]
 ·rw [decide_eq_false h, decide_eq_false (by omega)]
theorem Ce9 (e : A9) (h : e.2.2.1.size ≤ 1048576) : Ev (fun k => A22 k e) (N4 e) := by
 refine Re.eq ?_
 refine Re.s1 (I0 · _ _ _) ?_
 unfold N4
 refine Re.br (fun h1 => ?_) (fun h1 => ?_)
 ·rw [show i6 e.1 0 100000 = false by simpa using h1]; exact Re.ret rfl
 rw [show i6 e.1 0 100000 = true by simpa using h1, Bool.true_and]
 refine Re.bre (fun h2 => ?_) (fun h2 => ?_)
 ·rw [h2, Y9]; exact Re.ret rfl
 rw [Al3 h2]
 refine Re.bre (fun h3 => ?_) (fun h3 => ?_)
 ·rw [h3]
  refine Re.c1 (Dj2 _ h) ?_
  unfold Ae9
  cases s9 (U6 e.2.2.1) <;> exact Re.ret rfl
 rw [Al3 h3]
 refine Re.bre (fun h4 => ?_) (fun h4 => ?_)
 ·rw [h4, Eh6]; exact Re.ret rfl
 rw [Al3 h4]; exact Re.ret rfl
theorem Bl4 (e : A9) (h : e.2.2.1.size ≤ 1048576) : Ev (fun k => Ai7 k e) (N4 e) := by
 refine Re.eq ?_
 refine Re.s1 (N0 · _ _ _) ?_
 unfold N4
 refine Re.br (fun h1 => ?_) (fun h1 => ?_)
 ·rw [show i6 e.1 0 100000 = false by simpa using h1]; exact Re.ret rfl
 rw [show i6 e.1 0 100000 = true by simpa using h1, Bool.true_and]
 refine Re.bre (fun h2 => ?_) (fun h2 => ?_)
 ·rw [h2, Y9]; exact Re.ret rfl
 rw [Al3 h2]
 refine Re.bre (fun h3 => ?_) (fun h3 => ?_)
 ·rw [h3]
  refine Re.c1 (Dj1 _ h) ?_
  unfold Ae9
  cases s9 (U6 e.2.2.1) <;> exact Re.ret rfl
 rw [Al3 h3]
 refine Re.bre (fun h4 => ?_) (fun h4 => ?_)
 ·rw [h4, Eh6]; exact Re.ret rfl
 rw [Al3 h4]; exact Re.ret rfl
noncomputable def Da7 (xs : List Int) : ByteArray × Bool := bif s9 xs then (B3 xs, true) else (⟨#[]⟩, false)
theorem Fp0 {xs : List Int} (h : Cs5 xs) : ∀ i, i < xs.length → IntKind.wrap .u8 (rd 0 xs i) = rd 0 xs i := fun i hi => by
 have := (h.2.2 i hi).1
 exact Bt8 (by omega) (by omega)
theorem Fp1 {xs : List Int} {i : Nat} (h : i < xs.length) : xs.take (i + 1) = xs.take i ++ [rd 0 xs i] := by
 rw [List.take_add_one, List.getElem?_eq_getElem h, Ad6 h]; rfl
theorem Dj3 (xs : List Int) (hx : xs.length ≤ 1048576) : Ev (fun k => A42 k xs) (Da7 xs) := by
 refine Re.eq ?_
 refine Re.c1 (Cs6 xs hx) ?_
 unfold Da7
 refine Re.br (fun h => ?_) (fun h => ?_)
 ·rw [show s9 xs = false by simpa using h]; exact Re.ret rfl
 have hc : s9 xs = true := by simpa using h
 have hp := Ah3.1 hc
 rw [hc]
 refine Re.enter (f := fun k n => Y2 k n xs 0 []) L8 ?_
 have := Re.loop (ι := Nat) (l := fun k n (i : Nat) => Y2 k n xs (i : Int) (xs.take i)) (I := fun i => i ≤ xs.length) (fun i => xs.length - i) (Q := fun _ v => v = (B3 xs, true)) (fun i hi ih => by
  simp only [Y2, Ba4]
  refine Re.brd (fun h => ?_) (fun h => Re.ret (by rw [List.take_of_length_le (by omega)]))
  refine Re.gdd (by omega) (Re.gdd h (Re.gdd (by simp [A2]; omega) ?_))
  rw [Z5 (show i < xs.length by omega) (by omega), Int.toNat_natCast, Fp0 hp i (by omega), ← Fp1 (by omega)]
  exact ih (i + 1) (by omega) (by omega)) 0 (Nat.zero_le _)
 simpa using this
theorem D17 {xs : List Int} (h : ∀ x ∈ xs, 0 ≤ x ∧ x < 256) : D5 (B3 xs) = xs := by
 unfold D5 B3
 simp only [List.map_map]
 induction xs with
 | nil => rfl
 | cons x xs ih =>
  have hx := h x (List.mem_cons_self ..)
  simp only [List.map_cons]
  rw [ih fun y hy => h y (List.mem_cons_of_mem _ hy)]
  congr 1
  show ((UInt8.ofNat x.toNat).toNat : Int) = x
  rw [UInt8.toNat_ofNat']
  omega
theorem Fz5 {xs : List Int} (h : Cs5 xs) : ∀ x ∈ xs, 1 ≤ x ∧ x ≤ 4 := fun x hx => by
 obtain ⟨i, hi, rfl⟩ := List.getElem_of_mem hx
 have := (h.2.2 i hi).1
 rwa [Ad6 hi] at this
theorem E50 {xs : List Int} (h : Cs5 xs) : U6 (B3 xs) = xs := D17 fun x hx => by have := Fz5 h x hx; omega
theorem Gd9 (c : A4) (h : CurOk c) : Re (fun k => Be7 k c) (fun r => Cs5 r.1 ∧ CurOk r.2.1) := by
 refine Re.enter (f := fun k n => j9 k n 1 c.1 c.2.1 c.2.2.1 []) L8 ?_
 have := Re.loop (ι := Nat) (l := fun k n (s : Int × A4 × List Int) => j9 k n s.1 s.2.1.1 s.2.1.2.1 s.2.1.2.2.1 s.2.2)
  (I := fun s => (1 ≤ s.1 ∧ s.1 ≤ 5) ∧ CurOk s.2.1 ∧ (s.2.2.length : Int) < s.1 ∧ Fk9 s.2.2 ∧ ∀ i, i < s.2.2.length → rd 0 s.2.2 i < s.1) (fun s => (5 - s.1).toNat) (Q := fun _ r => Cs5 r.1 ∧ CurOk r.2.1) (fun s hi ih => by
  obtain ⟨v, c, xs⟩ := s
  obtain ⟨⟨h1, h2⟩, h3, h4, h5, h6⟩ := hi
  simp only at h1 h2 h3 h4 h5 h6 ih ⊢
  simp only [j9, Bk1]
  refine Re.brd (fun h7 => ?_) (fun h7 => ?_)
  ·refine Re.b2 (B35 _ 2 h3.eta) fun r hr => ?_
   have e : B8 (v + 1) = v + 1 := C6 (by omega) (by omega)
   rw [e]
   have app : ∀ i, i < (xs ++ [v]).length → i < xs.length ∧ rd 0 (xs ++ [v]) i = rd 0 xs i ∨ i = xs.length ∧ rd 0 (xs ++ [v]) i = v := fun i hi => by
    by_cases q : i < xs.length
    ·refine .inl ⟨q, ?_⟩
     simp [rd, List.getElem?_append_left q]
    ·refine .inr ⟨by simp at hi; omega, ?_⟩
     have : i = xs.length := by simp at hi; omega
     subst this
     simp [rd]
   refine Re.brb (Re.gdd (by simp [A2]; omega) (ih (v + 1, r.2.1, xs ++ [v]) ⟨⟨by simp only; omega, by simp only; omega⟩, hr, by simp; omega, fun i hi => ?_, fun i hi => ?_⟩ (by simp only; omega))) (ih (v + 1, r.2.1, xs) ⟨⟨by simp only; omega, by simp only; omega⟩, hr, by simp only; omega, h5, fun i hi => by have := h6 i hi; simp only; omega⟩ (by simp only; omega))
   ·simp only at hi ⊢
    rcases app i hi with ⟨q, e1⟩ | ⟨q, e1⟩
    ·rw [e1]
     refine ⟨(h5 i q).1, fun h => ?_⟩
     have e2 : rd 0 (xs ++ [v]) (i - 1) = rd 0 xs (i - 1) := by
      rcases app (i - 1) (by simp; omega) with ⟨_, e2⟩ | ⟨q2, _⟩
      ·exact e2
      ·omega
     rw [e2]
     exact (h5 i q).2 h
    ·rw [e1]
     refine ⟨⟨h1, h7⟩, fun h => ?_⟩
     have e2 : rd 0 (xs ++ [v]) (i - 1) = rd 0 xs (i - 1) := by
      rcases app (i - 1) (by simp; omega) with ⟨_, e2⟩ | ⟨q2, _⟩
      ·exact e2
      ·omega
     rw [e2]
     exact h6 (i - 1) (by omega)
   ·simp only at hi ⊢
    rcases app i hi with ⟨q, e1⟩ | ⟨q, e1⟩
    ·rw [e1]; have := h6 i q; omega
    ·rw [e1]; omega
  ·refine Re.bre (fun h8 => Re.gdd (by simp [A2]; omega) (Re.ret ?_)) (fun h8 => Re.ret ⟨⟨by simp only; omega, by simp only; omega, h5⟩, h3⟩)
   have : xs = [] := List.length_eq_zero_iff.1 (by omega)
   subst this
   refine ⟨⟨by simp, by simp, fun i hi => ?_⟩, h3⟩
   have : i = 0 := by simp at hi; omega
   subst this
   exact ⟨by simp [rd], fun h => absurd h (by omega)⟩) (1, c, []) ⟨⟨Int.le_refl 1, by simp only; omega⟩, h, by simp, fun i hi => absurd hi (by simp), fun i hi => absurd hi (by simp)⟩
 exact this
theorem E51 : Re (fun k => Be8 k) (fun h => ∃ outs, h = ([], ([], [], [], ()), outs, ())) := by
 refine Re.enter (f := fun k n => l6 k n 1 []) L8 ?_
 have := Re.loop (ι := Nat) (l := fun k n (s : Int × List C88) => l6 k n s.1 s.2) (I := fun s => 1 ≤ s.1 ∧ s.1 ≤ 3 ∧ (s.2.length : Int) < s.1) (fun s => (3 - s.1).toNat) (Q := fun _ h => ∃ outs, h = (([] : List A9), (([] : List C1), ([] : List (List Bo8)), ([] : List Bool), ()), outs, ())) (fun s hi ih => by
  obtain ⟨v, xs⟩ := s
  obtain ⟨h1, h2, h3⟩ := hi
  simp only at h1 h2 h3 ih ⊢
  simp only [l6, Bk2]
  refine Re.brd (fun h4 => Re.gdd (by simp [A2]; omega) ?_) (fun h4 => Re.ret ⟨_, rfl⟩)
  rw [C6 (by omega) (by omega)]
  exact ih (v + 1, _) ⟨by simp only; omega, by simp only; omega, by simp; omega⟩ (by simp only; omega)) (1, []) ⟨by decide, by decide, by simp⟩
 exact this
theorem Da8 (k : Nat) (c : A4) (id : Int) : N9 k c (([] : List C1), ([] : List (List Bo8)), ([] : List Bool), ()) id = some ((id, 1, 1, 0, 0, [], ByteArray.empty, [], 0, ()), c, ()) := by
 unfold N9 Bu3
 rfl
def Gn5 (x : H9) : Prop := E5 x.2.2.2.1 = [] ∧ T5 x.2.2.2.1 = ByteArray.empty ∧ I4 x.2.2.2.1 = []
abbrev Cl8 : n7 := ([], [], [], ())
def Fz6 (r : H9 × A4 × Unit) : Prop := Gn5 r.1 ∧ CurOk r.2.1
theorem Bl5 (v4 t s : Int) (c : A4) (hc : CurOk c) : Re (fun x : Nat × Nat => (br (v4 == 2) (bd (N9 x.1 c Cl8 2) fun r7 => (some ((v4, t, s, (0, r7.1.2.1, r7.1.2.2.1, r7.1.2.2.2.1, r7.1.2.2.2.2.1, r7.1.2.2.2.2.2.1, r7.1.2.2.2.2.2.2.1, ([] : List Int), 0, ()), 0, 0, ()), r7.2.1, ()))) (br (v4 == 3) (bd (C5 x.1 c 40) fun r8 => (bd (N9 x.1 r8.2.1 Cl8 (B8 ((B8 (2 * r8.1)) + 1))) fun r9 => (bd (M9 x.1 r9.1) fun r10 => (br (!r10) (bd (C5 x.1 r9.2.1 40) fun r11 => (some ((v4, t, s, ((B8 (101 + (B8 (2 * r11.1)))), r9.1.2), 0, 0, ()), r11.2.1, ()))) (some ((v4, t, s, r9.1, 0, 0, ()), r9.2.1, ())))))) (br (v4 == 4) (bd (C5 x.1 c 2) fun r12 => (bd (C5 x.1 r12.2.1 6) fun r13 => (some ((v4, t, s, (0, 0, 0, 0, 0, [], ByteArray.empty, [], 0, ()), (B8 (1 + r12.1)), r13.1, ()), r13.2.1, ())))) (some ((v4, t, s, (0, 0, 0, 0, 0, [], ByteArray.empty, [], 0, ()), 0, 0, ()), c, ())))))) Fz6 := by
 refine Re.bre (fun _ => Re.s2 (Da8 · _ _) (Re.ret ⟨⟨rfl, rfl, rfl⟩, hc⟩)) (fun _ => ?_)
 refine Re.bre (fun _ => Re.b2 (I7 _ 40 hc) fun r8 h8 => Re.s2 (Da8 · _ _) (Re.c2 (A04 _ (by show 0 + (0 + (0 + 0)) ≤ 1048576; omega)) ?_)) (fun _ => ?_)
 ·exact Re.brb (Re.b2 (I7 _ 40 h8.2) fun r11 h11 => Re.ret ⟨⟨rfl, rfl, rfl⟩, h11.2⟩) (Re.ret ⟨⟨rfl, rfl, rfl⟩, h8.2⟩)
 exact Re.bre (fun _ => Re.b2 (I7 _ 2 hc) fun r h => Re.b2 (I7 _ 6 h.2) fun r13 h13 => Re.ret ⟨⟨rfl, rfl, rfl⟩, h13.2⟩) (fun _ => Re.ret ⟨⟨rfl, rfl, rfl⟩, hc⟩)
theorem E52 (c : A4) (h : CurOk c) (x : A9) (outs : List C88) : Re (fun k => Ak8 k c ([x], Cl8, outs, ())) Fz6 := by
 have go : ∀ (v4 : Int) (c : A4), CurOk c → Re (fun k => T9 k k c.1 c.2.1 c.2.2.1 ([x], Cl8, outs, ()) v4) Fz6 := by
  intro v4 c hc
  refine Re.enter (f := fun k n => T9 k n c.1 c.2.1 c.2.2.1 ([x], Cl8, outs, ()) v4) L8 ?_
  have := Re.loop (ι := Nat) (l := fun k n (s : Unit) => T9 k n c.1 c.2.1 c.2.2.1 ([x], Cl8, outs, ()) v4) (I := fun _ => True) (fun _ => 0) (Q := fun _ => Fz6) (fun s hi ih => by
   simp only [T9, Ax2]
   have hl : ((1 : Nat) : Int) = 1 := rfl
   refine Re.brn (fun _ => ?_) (fun _ => Bl5 _ _ _ _ hc.eta)
   refine Re.brd (fun _ => ?_) (fun h => absurd (by simp) h)
   refine Re.b2 (I7 _ _ hc.eta) fun r4 h4 => ?_
   obtain ⟨⟨g1, g2⟩, g3⟩ := h4
   have g4 : r4.1 < (([x].length : Nat) : Int) := by simp only [List.length_singleton] at g2 ⊢; omega
   refine Re.gdd g1 (Re.gdd g4 ?_)
   refine Re.b2 (I7 _ 10 g3) fun r5 h5 => ?_
   refine Re.bre (fun _ => Re.b2 (I7 _ _ h5.2) fun r6 h6 => Bl5 _ _ _ _ h6.2) (fun _ => ?_)
   exact Re.bre (fun _ => Re.b2 (I7 _ 12 h5.2) fun r6 h6 => Bl5 _ _ _ _ h6.2) (fun _ => Bl5 _ _ _ _ h5.2)) () trivial
  exact this
 refine Re.b1 (Da6 _ _ h (List.cons_ne_nil _ _)) fun r1 h1 => ?_
 refine Re.bre (fun h => absurd h (by simp)) (fun _ => ?_)
 refine Re.brb (Re.brb (Re.b1 (B35 _ 3 h1.2) fun r3 h3 => Re.brb (go _ _ h3) (go _ _ h3)) (go _ _ h1.2)) (go _ _ h1.2)
theorem Fz7 (c : A4) (h : CurOk c) : Re (fun k => A43 k c) Fz6 := by
 refine Re.b1 E51 fun r1 h1 => ?_
 obtain ⟨outs, rfl⟩ := h1
 refine Re.b1 (I7 _ 5 h) fun r2 h2 => Re.b1 (I7 _ 4 h2.2) fun r3 h3 => Re.b1 (E52 _ h3.2 _ _) fun r4 h4 => Re.ret h4
theorem Y6 {n : Int} (h : Al1 n) : (E6 n).size ≤ 5 := D2 h.2
theorem Fp2 {x : H9} (hb : Gn5 x) (h : V8 x = true) : (B96 x).size ≤ 100 := by
 obtain ⟨hc, _, g1, g2⟩ := Fo9 h
 obtain ⟨b1, b2, b3⟩ := hb
 have n1 := Y6 g1
 have n2 := Y6 g2
 have hd : ∀ rest : ByteArray, (Da5 x rest).size ≤ 11 + rest.size := fun rest => by
  unfold Da5
  have : (I1 x.1).size = 1 := D3 _
  simp only [C8]; omega
 have z0 : (E6 0).size ≤ 5 := D2 (by omega)
 have hm : ∀ y1 y2 y3 y4 : Int, (Da4 y1 y2 y3 y4 [] ByteArray.empty).size ≤ 30 := fun y1 y2 y3 y4 => by
  unfold Da4
  have e1 : ∀ y : Int, (I1 y).size = 1 := fun y => D3 _
  simp only [C8, e1, Cs4, List.length_nil, B98]
  have : ByteArray.empty.size = 0 := rfl
  have e0 : (E6 ((0 : Nat) : Int)).size ≤ 5 := z0
  have e4 : (E6 (ByteArray.empty.size : Int)).size ≤ 5 := z0
  have e3 : (⟨#[]⟩ : ByteArray).size = 0 := rfl
  omega
 cases hc with
 | sent _ _ _ h4 =>
  rw [h4, b1, b2]
  have := hd (Da4 (T4 x.2.2.2.1) (S3 x.2.2.2.1) (Ad7 x.2.2.2.1) (P8 x.2.2.2.1) [] ByteArray.empty)
  have := hm (T4 x.2.2.2.1) (S3 x.2.2.2.1) (Ad7 x.2.2.2.1) (P8 x.2.2.2.1)
  omega
 | come _ _ he h4 =>
  rw [h4]
  obtain ⟨k1, k2, k3, k4, k5, k6, k7, k8, k9, k10, k11⟩ := Eh3 he
  have e := Fz4 x.2.2.2.1.1 (T4 x.2.2.2.1) (S3 x.2.2.2.1) (Ad7 x.2.2.2.1) (P8 x.2.2.2.1) (E5 x.2.2.2.1) (T5 x.2.2.2.1) (I4 x.2.2.2.1) (Aa1 x.2.2.2.1) k1 k2 k3 k4 k5
  have e2 : A49 x.2.2.2.1 = evB x.2.2.2.1.1 (T4 x.2.2.2.1) (S3 x.2.2.2.1) (Ad7 x.2.2.2.1) (P8 x.2.2.2.1) (E5 x.2.2.2.1) (T5 x.2.2.2.1) (I4 x.2.2.2.1) (Aa1 x.2.2.2.1) := e
  have hs : (A49 x.2.2.2.1).size ≤ 50 := by
   rw [e2, b1, b2, b3]
   unfold evB
   have := hm (T4 x.2.2.2.1) (S3 x.2.2.2.1) (Ad7 x.2.2.2.1) (P8 x.2.2.2.1)
   have m1 := Y6 k8
   have m2 := Y6 k9
   have e0 : (E6 ((0 : Nat) : Int)).size ≤ 5 := z0
   have e3 : (⟨#[]⟩ : ByteArray).size = 0 := rfl
   simp only [C8, List.length_nil, B98]
   omega
  have := hd (Aq7 (A49 x.2.2.2.1))
  have hv : (E6 ((A49 x.2.2.2.1).size : Int)).size ≤ 5 := D2 (by omega)
  rw [Cs4] at this
  omega
 | ack _ _ h2 h3 h4 =>
  rw [h4]
  have := hd (E6 x.2.2.2.2.1 ++ E6 x.2.2.2.2.2.1)
  have := Y6 h2
  have := Y6 h3
  simp only [C8] at *
  omega
 | bare _ _ _ _ h4 =>
  rw [h4]
  have := hd ⟨#[]⟩
  have e3 : (⟨#[]⟩ : ByteArray).size = 0 := rfl
  omega
def Gj4 (t : Int) (e : A9) : Prop := e.1 = t ∧ e.2.2.1.size ≤ 120 ∧ (0 ≤ t → t ≤ 100000 → N4 e = true)
theorem D18 {a b c : Int} (h : b ≤ a) (h2 : a ≤ c) : i6 a b c = true := D6.2 ⟨h, h2⟩
theorem Fz8 (t : Int) : Gj4 t (t, 1, ByteArray.empty, ()) := ⟨rfl, by show (0 : Nat) ≤ 120; omega, fun h1 h2 => by
 unfold N4
 rw [D18 h1 h2]
 rfl⟩
theorem Bv4 (c : A4) (h : CurOk c) (t : Int) : Re (fun k => Ah0 k c t) (fun r => Gj4 t r.1 ∧ CurOk r.2.1) := by
 refine Re.b1 (Da6 _ _ h (List.cons_ne_nil _ _)) fun r1 h1 => ?_
 obtain ⟨g1, c1⟩ := h1
 simp only [List.mem_cons, List.not_mem_nil, or_false] at g1
 refine Re.bre (fun o2 => ?_) (fun o2 => ?_)
 ·refine Re.b1 (Gd9 _ c1) fun r2 h2 => ?_
  obtain ⟨hc, c2⟩ := h2
  refine Re.c1 (Dj3 _ (by have := hc.2.1; omega)) (Re.ret ⟨?_, c2⟩)
  unfold Da7
  rw [Ah3.2 hc]
  refine ⟨rfl, ?_, fun h1 h2 => ?_⟩
  ·simp only [cond_true, D3]; have := hc.2.1; omega
  ·unfold N4
   simp only [cond_true, D18 h1 h2, o2]
   rw [E50 hc, Ah3.2 hc]
   rfl
 refine Re.bre (fun o3 => ?_) (fun o3 => Re.ret ⟨?_, c1⟩)
 ·refine Re.b1 (Fz7 _ c1) fun r4 h4 => ?_
  obtain ⟨hb, c4⟩ := h4
  have hm : Bf4 r4.1 ≤ 1048576 := by
   obtain ⟨b1, b2, b3⟩ := hb
   show (E5 r4.1.2.2.2.1).length + ((T5 r4.1.2.2.2.1).size + ((I4 r4.1.2.2.2.1).length + 0)) + 0 ≤ 1048576
   rw [b1, b2, b3]
   show 0 + (0 + (0 + 0)) + 0 ≤ 1048576; omega
  refine Re.c1 (Cl5 _ hm) (Re.ret ⟨?_, c4⟩)
  have hs : (bif V8 r4.1 then (B96 r4.1, true) else ((⟨#[]⟩ : ByteArray), false)).1.size ≤ 100 := by
   cases ho : V8 r4.1 with
   | false => show 0 ≤ 100; omega
   | true => exact Fp2 hb ho
  refine ⟨rfl, by simp only; omega, fun h1 h2 => ?_⟩
  unfold N4
  simp only [D18 h1 h2, o3]
  exact decide_eq_true (by omega)
 ·have o1 : r1.1 = 1 := by omega
  rw [o1]; exact Fz8 t
def Ac7 (i t k : Int) (d : ByteArray) : ByteArray := I1 69 ++ (E6 i ++ (E6 t ++ (I1 k ++ d)))
noncomputable def A95 (i : Int) (e : A9) : ByteArray × Bool := bif N4 e && i6 i 1 1000000 then (Ac7 i e.1 e.2.1 e.2.2.1, true) else (⟨#[]⟩, false)
theorem W3 {e : A9} (h : N4 e = true) : (0 ≤ e.1 ∧ e.1 ≤ 100000) ∧ (e.2.1 = 1 ∨ e.2.1 = 2 ∨ e.2.1 = 3) ∧ e.2.2.1.size ≤ 120 := by
 unfold N4 at h
 simp only [Bool.and_eq_true] at h
 obtain ⟨h1, h2⟩ := h
 refine ⟨D6.1 h1, ?_⟩
 by_cases o1 : e.2.1 = 1
 ·rw [o1] at h2
  have := of_decide_eq_true h2
  exact ⟨.inl o1, by rw [this]; decide⟩
 rw [Al3 o1] at h2
 by_cases o2 : e.2.1 = 2
 ·rw [o2] at h2
  have := (Ah3.1 h2).2.1
  rw [S4] at this
  exact ⟨.inr (.inl o2), by omega⟩
 rw [Al3 o2] at h2
 by_cases o3 : e.2.1 = 3
 ·rw [o3] at h2
  exact ⟨.inr (.inr o3), of_decide_eq_true h2⟩
 rw [Al3 o3] at h2
 cases h2
theorem Gg9 : (⟨#[69]⟩ : ByteArray) = I1 69 := by apply Ae0; simp [I1, B3]
theorem Da9 (i : Int) (e : A9) (hs : e.2.2.1.size ≤ 1048576) : Ev (fun k => Ai8 k i e) (A95 i e) := by
 refine Re.eq ?_
 refine Re.c1 (Bl4 e hs) ?_
 unfold A95
 cases ho : N4 e with
 | false => exact Re.ret rfl
 | true =>
  refine Re.s1 (N0 · _ _ _) ?_
  cases hi : i6 i 1 1000000 with
  | false => exact Re.ret rfl
  | true =>
   obtain ⟨k1, k2, k3⟩ := W3 ho
   have i1 := D6.1 hi
   refine Re.c1 (Dv6 [i, e.1] (by simp) (fun n hn => by simp at hn; rcases hn with rfl | rfl <;> omega)) ?_
   have e1 : Bj6 [i, e.1] = E6 i ++ E6 e.1 := by
    rw [Cl7]
    show E6 i ++ (E6 e.1 ++ (⟨#[]⟩ : ByteArray)) = _
    rw [show E6 e.1 ++ (⟨#[]⟩ : ByteArray) = E6 e.1 from ByteArray.append_empty]
   have n1 : (E6 i).size ≤ 5 := D2 (by omega)
   have n2 : (E6 e.1).size ≤ 5 := D2 (by omega)
   have hk : IntKind.wrap .u8 e.2.1 = e.2.1 := Bt8 (by omega) (by omega)
   have n0 : (⟨#[69]⟩ : ByteArray).size = 1 := rfl
   rw [e1, hk]
   refine Re.gdd (by simp only [C8]; unfold A2; omega) (Re.gdd (by simp only [C8, D3, List.length_singleton]; unfold A2; omega) (Re.gdd (by simp only [C8, D3, List.length_singleton]; unfold A2; omega) (Re.ret ?_)))
   unfold Ac7
   rw [Gg9]
   simp only [Al2]
   rfl
theorem Db0 (i : Int) (e : A9) (ho : N4 e = true) (hi : i6 i 1 1000000 = true) : Ev (fun k => Au4 k (Ac7 i e.1 e.2.1 e.2.2.1)) (i, e, true) := by
 obtain ⟨k1, k2, k3⟩ := W3 ho
 have i1 := D6.1 hi
 have n1 : (E6 i).size ≤ 5 := D2 (by omega)
 have n2 : (E6 e.1).size ≤ 5 := D2 (by omega)
 have hb : ∀ y : Int, (I1 y).size = 1 := fun y => D3 _
 have hs : u3 (Ac7 i e.1 e.2.1 e.2.2.1) 0 (Ac7 i e.1 e.2.1 e.2.2.1) := B34 _
 have hsz : (Ac7 i e.1 e.2.1 e.2.2.1).size = 1 + ((E6 i).size + ((E6 e.1).size + (1 + e.2.2.1.size))) := by unfold Ac7; simp only [C8, hb]
 generalize ha : Ac7 i e.1 e.2.1 e.2.2.1 = a at hs hsz
 rw [← ha] at hs
 rw [ha] at hs
 have hs2 : u3 a 0 (I1 69 ++ (E6 i ++ (E6 e.1 ++ (I1 e.2.1 ++ e.2.2.1)))) := by rw [← ha] at hs ⊢; exact hs
 obtain ⟨x0, q0, b0, R0, E0⟩ := Ce7 a 0 false (by omega) (by omega)
 obtain ⟨x1, q1, b1, R1, _, E1⟩ := Ax4 a q0 b0 (by omega) R0.hi
 obtain ⟨x2, q2, b2, R2, _, E2⟩ := Ax4 a q1 b1 (by omega) R1.hi
 obtain ⟨x3, q3, b3, R3, E3⟩ := Ce7 a q2 b2 (by omega) R2.hi
 obtain ⟨c, hs2⟩ := O0.1 hs2
 obtain ⟨rfl, z0, hb0⟩ := R0.full rfl 69 (by unfold Q9; omega) c; rw [← z0] at hs2
 obtain ⟨c, hs2⟩ := O0.1 hs2
 obtain ⟨rfl, z1, hb1⟩ := R1.full hb0 i (by unfold Al1; omega) c; rw [← z1] at hs2
 obtain ⟨c, hs2⟩ := O0.1 hs2
 obtain ⟨rfl, z2, hb2⟩ := R2.full hb1 e.1 (by unfold Al1; omega) c; rw [← z2] at hs2
 obtain ⟨c, hs2⟩ := O0.1 hs2
 obtain ⟨rfl, z3, hb3⟩ := R3.full hb2 e.2.1 (by unfold Q9; omega) c; rw [← z3] at hs2
 rw [hb] at z0 z3
 have he : a.extract q3 a.size = e.2.2.1 := by
  have := Ac6 hs2
  rwa [show q3 + e.2.2.1.size = a.size by omega] at this
 refine Re.eq ?_
 refine Re.c1 E0 (Re.c1 E1 (Re.c1 E2 (Re.c1 E3 ?_)))
 subst hb3
 refine Re.br (b := false) (fun h => by cases h) (fun _ => ?_)
 refine Re.brn (fun h => absurd rfl h) (fun _ => ?_)
 refine Re.gdd (by show (0 : Int) ≤ (q3 : Int); omega) (Re.gdd (by show (q3 : Int) ≤ (a.size : Int); omega) ?_)
 have e4 : ((e.1, e.2.1, a.extract ((cur a q3 false).2.1).toNat a.size, ()) : A9) = e := by
  show ((e.1, e.2.1, a.extract ((q3 : Int)).toNat a.size, ()) : A9) = e
  rw [Int.toNat_natCast, he]
 refine Re.c1 (v := N4 e) (Ev.congr (Bl4 e (by omega)) fun k => congrArg (Ai7 k) e4) ?_
 rw [ho]
 refine Re.s1 (N0 · _ _ _) ?_
 rw [hi]
 exact Re.ret (Prod.ext rfl (Prod.ext e4 rfl))
end Go.Vm
end
section
set_option linter.unusedVariables false
set_option linter.unusedSimpArgs false
namespace Go.Vm
open Go
noncomputable def eqd {α : Type} (a b : α) : Bool := @decide (a = b) (Classical.propDecidable _)
theorem S5 {α : Type} {a b : α} : eqd a b = true ↔ a = b := by unfold eqd; exact @decide_eq_true_iff _ (Classical.propDecidable _)
theorem Aq9 {α : Type} {a b : α} (h : a = b) : eqd a b = true := S5.2 h
theorem Z7 {α : Type} {a b : α} (h : a ≠ b) : eqd a b = false := by
 cases e : eqd a b with
 | false => rfl
 | true => exact absurd (S5.1 e) h
end Go.Vm
end
section
set_option linter.unusedVariables false
set_option linter.unusedSimpArgs false
namespace Go.Vm
open Go
def M6 (l : C4) (i : Nat) : Int := if i = 0 then l.2.1 else (rd B2 l.2.2.1 (i - 1)).1
def Eh7 (l : C4) : Prop := ∀ i, i < l.2.2.1.length → N4 (rd B2 l.2.2.1 i) = true ∧ M6 l i ≤ (rd B2 l.2.2.1 i).1
def LogP (l : C4) : Prop := (0 ≤ l.1 ∧ l.1 ≤ 1000000) ∧ (0 ≤ l.2.1 ∧ l.2.1 ≤ 100000) ∧ l.2.2.1.length ≤ 60 ∧ l.1 + l.2.2.1.length ≤ 1000000 ∧ Eh7 l
noncomputable def Ai9 (l : C4) : Bool := @decide (LogP l) (Classical.propDecidable _)
theorem M3 {l : C4} : Ai9 l = true ↔ LogP l := by unfold Ai9; exact @decide_eq_true_iff _ (Classical.propDecidable _)
theorem Af0 {l : C4} (h : ¬ LogP l) : Ai9 l = false := by
 cases e : Ai9 l with
 | false => rfl
 | true => exact absurd (M3.1 e) h
def D19 (l : C4) : Prop := l.2.2.1.length ≤ 1000 ∧ ∀ i, i < l.2.2.1.length → (rd B2 l.2.2.1 i).2.2.1.size ≤ 1048576
theorem A51 (l : C4) (i : Nat) : M6 l (i + 1) = (rd B2 l.2.2.1 i).1 := by unfold M6; rw [if_neg (by omega)]; rfl
theorem Dv8 {f : Nat → Nat → Nat → Option Bool} {V : Bool} (l : C4)
  (hs : ∀ i, i < l.2.2.1.length → ((N4 (rd B2 l.2.2.1 i) = true ∧ M6 l i ≤ (rd B2 l.2.2.1 i).1) → Re (fun x : Nat × Nat => f x.1 x.2 (i + 1)) (fun v => v = V)) → (¬ (N4 (rd B2 l.2.2.1 i) = true ∧ M6 l i ≤ (rd B2 l.2.2.1 i).1) → V = false) → Re (fun x : Nat × Nat => f x.1 (x.2 + 1) i) (fun v => v = V))
  (hn : ¬ Eh7 l → V = false) (he : Eh7 l → Re (fun x : Nat × Nat => f x.1 (x.2 + 1) l.2.2.1.length) (fun v => v = V)) : Re (fun x : Nat × Nat => f x.1 x.2 0) (fun v => v = V) := by
 have := Re.loop (ι := Nat) (l := fun k n i => f k n i) (I := fun i => i ≤ l.2.2.1.length ∧ ∀ j, j < i → N4 (rd B2 l.2.2.1 j) = true ∧ M6 l j ≤ (rd B2 l.2.2.1 j).1) (fun i => l.2.2.1.length - i) (Q := fun _ v => v = V) (fun i hi ih => by
  by_cases h : i < l.2.2.1.length
  ·refine hs i h (fun g => ih (i + 1) ⟨by omega, fun j hj => ?_⟩ (by omega)) (fun g => hn fun hr => g (hr i h))
   by_cases hj2 : j < i
   ·exact hi.2 j hj2
   ·have : j = i := by omega
    subst this; exact g
  ·have hi2 : i = l.2.2.1.length := by omega
   subst hi2
   exact he hi.2) 0 ⟨Nat.zero_le _, fun j hj => by omega⟩
 exact this
theorem A52 (l : C4) (hS : D19 l) : Ev (fun k => Az8 k l) (Ai9 l) := by
 obtain ⟨hl, hz⟩ := hS
 refine Re.eq ?_
 refine Re.s1 (I0 · _ _ _) ?_
 rw [As9]
 refine Re.br (fun h => Re.ret (Af0 fun hc => by simp [hc.1] at h).symm) (fun h => ?_)
 have h1 : 0 ≤ l.1 ∧ l.1 ≤ 1000000 := by simpa using h
 refine Re.s1 (I0 · _ _ _) ?_
 rw [As9]
 refine Re.br (fun h => Re.ret (Af0 fun hc => by simp [hc.2.1] at h).symm) (fun h => ?_)
 have h2 : 0 ≤ l.2.1 ∧ l.2.1 ≤ 100000 := by simpa using h
 refine Re.brd (fun h => Re.ret (Af0 fun hc => by have := hc.2.2.1; omega).symm) (fun h3 => ?_)
 rw [C6 (show -9223372036854775808 ≤ l.1 + (l.2.2.1.length : Int) by omega) (by omega)]
 refine Re.brd (fun h => Re.ret (Af0 fun hc => by have := hc.2.2.2.1; omega).symm) (fun h4 => ?_)
 refine Re.enter (f := fun k n => w9 k n l.2.1 0 l) L8 ?_
 refine Dv8 (f := fun k n i => w9 k n (M6 l i) (i : Int) l) l (fun i hi ih hf => ?_) (fun g => Af0 fun hc => g hc.2.2.2.2) (fun g => ?_)
 ·simp only [w9, Bk0]
  refine Re.brd (fun _ => ?_) (fun h => absurd (by omega : (i : Int) < l.2.2.1.length) h)
  refine Re.gdd (by omega) (Re.gdd (by omega) ?_)
  rw [Int.toNat_natCast]
  refine Re.c2 (Ce9 _ (hz i hi)) ?_
  refine Re.br (fun h => Re.ret (hf fun g => by simp [g.1] at h).symm) (fun h => ?_)
  have he : N4 (rd B2 l.2.2.1 i) = true := by simpa using h
  refine Re.gdd (by omega) (Re.gdd (by omega) ?_)
  refine Re.brd (fun h => Re.ret (hf fun g => by have := g.2; omega).symm) (fun h => ?_)
  refine Re.gdd (by omega) (Re.gdd (by omega) ?_)
  have := ih ⟨he, by omega⟩
  rw [A51] at this
  rw [Z5 hi (by omega)]
  exact this
 ·simp only [w9, Bk0, Int.lt_irrefl, decide_false, br_false]
  exact Re.ret (M3.2 ⟨h1, h2, by omega, by omega, g⟩).symm
theorem Bl6 (l : C4) (hS : D19 l) : Ev (fun k => A91 k l) (Ai9 l) := by
 obtain ⟨hl, hz⟩ := hS
 refine Re.eq ?_
 refine Re.s1 (N0 · _ _ _) ?_
 rw [As9]
 refine Re.br (fun h => Re.ret (Af0 fun hc => by simp [hc.1] at h).symm) (fun h => ?_)
 have h1 : 0 ≤ l.1 ∧ l.1 ≤ 1000000 := by simpa using h
 refine Re.s1 (N0 · _ _ _) ?_
 rw [As9]
 refine Re.br (fun h => Re.ret (Af0 fun hc => by simp [hc.2.1] at h).symm) (fun h => ?_)
 have h2 : 0 ≤ l.2.1 ∧ l.2.1 ≤ 100000 := by simpa using h
 refine Re.brd (fun h => Re.ret (Af0 fun hc => by have := hc.2.2.1; omega).symm) (fun h3 => ?_)
 rw [C6 (show -9223372036854775808 ≤ l.1 + (l.2.2.1.length : Int) by omega) (by omega)]
 refine Re.brd (fun h => Re.ret (Af0 fun hc => by have := hc.2.2.2.1; omega).symm) (fun h4 => ?_)
 refine Re.enter (f := fun k n => z7 k n l.2.1 l 0) L8 ?_
 refine Dv8 (f := fun k n i => z7 k n (M6 l i) l (i : Int)) l (fun i hi ih hf => ?_) (fun g => Af0 fun hc => g hc.2.2.2.2) (fun g => ?_)
 ·simp only [z7, Bk7]
  refine Re.brd (fun _ => ?_) (fun h => absurd (by omega : (i : Int) < l.2.2.1.length) h)
  refine Re.gdd (by omega) (Re.gdd (by omega) ?_)
  rw [Int.toNat_natCast]
  refine Re.c2 (Bl4 _ (hz i hi)) ?_
  refine Re.br (fun h => Re.ret (hf fun g => by simp [g.1] at h).symm) (fun h => ?_)
  have he : N4 (rd B2 l.2.2.1 i) = true := by simpa using h
  refine Re.brd (fun h => Re.ret (hf fun g => by have := g.2; omega).symm) (fun h => ?_)
  have := ih ⟨he, by omega⟩
  rw [A51] at this
  rw [Z5 hi (by omega)]
  exact this
 ·simp only [z7, Bk7, Int.lt_irrefl, decide_false, br_false]
  exact Re.ret (M3.2 ⟨h1, h2, by omega, by omega, g⟩).symm
theorem B37 {α : Type} (d : α) (xs : List α) (y : α) (i : Nat) : rd d (xs ++ [y]) i = if i < xs.length then rd d xs i else if i = xs.length then y else d := by
 unfold rd
 by_cases h : i < xs.length
 ·rw [if_pos h]; simp [List.getElem?_append_left h]
 ·rw [if_neg h]
  by_cases h2 : i = xs.length
  ·subst h2; simp
  ·rw [if_neg h2]; simp [List.getElem?_eq_none (show (xs ++ [y]).length ≤ i by simp; omega)]
theorem E53 (s t : Int) (xs : List A9) (y : A9) (i : Nat) (h : i ≤ xs.length) : M6 (s, t, xs ++ [y], ()) i = M6 (s, t, xs, ()) i := by
 unfold M6
 by_cases h0 : i = 0
 ·simp [h0]
 ·rw [if_neg h0, if_neg h0]
  simp only [B37]
  rw [if_pos (by omega)]
def EntsT (s t : Int) (xs : List A9) (T : Int) : Prop := Eh7 (s, t, xs, ()) ∧ M6 (s, t, xs, ()) xs.length ≤ T ∧ ∀ i, i < xs.length → (rd B2 xs i).2.2.1.size ≤ 120
theorem B99 {s t : Int} {xs : List A9} {T T' : Int} {e : A9} (h : EntsT s t xs T) (hT : T ≤ T') (h0 : 0 ≤ T') (h1 : T' ≤ 100000) (he : Gj4 T' e) : EntsT s t (xs ++ [e]) T' := by
 obtain ⟨a, b, c⟩ := h
 obtain ⟨d1, d2, d3⟩ := he
 refine ⟨fun i hi => ?_, ?_, fun i hi => ?_⟩
 ·simp only at hi ⊢
  rw [B37, E53 s t xs e i (by simp at hi; omega)]
  by_cases q : i < xs.length
  ·rw [if_pos q]; exact a i q
  ·have : i = xs.length := by simp at hi; omega
   subst this
   rw [if_neg q, if_pos rfl]
   exact ⟨d3 h0 h1, by omega⟩
 ·rw [List.length_append, List.length_singleton, A51]
  simp only [B37, Nat.lt_irrefl, if_false, if_true]
  omega
 ·rw [B37]
  by_cases q : i < xs.length
  ·rw [if_pos q]; exact c i q
  ·rw [if_neg q, if_pos (by simp at hi; omega)]; exact d2
def RightL (l : C4) : Prop := (0 ≤ l.1 ∧ l.1 ≤ 20) ∧ (0 ≤ l.2.1 ∧ l.2.1 ≤ 40) ∧ l.2.2.1.length ≤ 20 ∧ EntsT l.1 l.2.1 l.2.2.1 40
theorem RightL.ok {l : C4} (h : RightL l) : LogP l := ⟨⟨h.1.1, by have := h.1.2; omega⟩, ⟨h.2.1.1, by have := h.2.1.2; omega⟩, by have := h.2.2.1; omega, by have := h.1.2; have := h.2.2.1; omega, h.2.2.2.1⟩
theorem RightL.small {l : C4} (h : RightL l) : D19 l := ⟨by have := h.2.2.1; omega, fun i hi => by have := h.2.2.2.2.2 i hi; omega⟩
theorem Eh8 (c : A4) (h : CurOk c) : Re (fun k => A44 k c) (fun r => (RightL r.1 ∧ r.1.2.2.1.length ≤ 8) ∧ CurOk r.2.1) := by
 refine Re.b1 (I7 _ 3 h) fun r1 h1 => Re.b1 (I7 _ 4 h1.2) fun r2 h2 => Re.b1 (I7 _ 3 h2.2) fun r3 h3 => ?_
 have m1 : 0 ≤ r1.1 ∧ r1.1 ≤ 2 := by obtain ⟨⟨a, b⟩, _⟩ := h1; omega
 have m2 : 0 ≤ r2.1 ∧ r2.1 ≤ 3 := by obtain ⟨⟨a, b⟩, _⟩ := h2; omega
 have m3 : 0 ≤ r3.1 ∧ r3.1 ≤ 2 := by obtain ⟨⟨a, b⟩, _⟩ := h3; omega
 have mm : 0 ≤ r1.1 * r2.1 ∧ r1.1 * r2.1 ≤ 6 := by
  rcases (show r1.1 = 0 ∨ r1.1 = 1 ∨ r1.1 = 2 by omega) with e | e | e <;> rw [e] <;> omega
 have hw : B8 (r1.1 * r2.1) = r1.1 * r2.1 := C6 (by omega) (by omega)
 refine Re.enter (f := fun k n => Y4 k n r3.1 0 r3.2.1.1 r3.2.1.2.1 r3.2.1.2.2.1 r1 r2 r3 []) L8 ?_
 have := Re.loop (ι := Nat) (l := fun k n (s : Int × A4 × List A9) => Y4 k n s.1 (s.2.2.length : Int) s.2.1.1 s.2.1.2.1 s.2.1.2.2.1 r1 r2 r3 s.2.2)
  (I := fun s => s.2.2.length ≤ 8 ∧ CurOk s.2.1 ∧ (0 ≤ s.1 ∧ s.1 ≤ 2 + 2 * s.2.2.length) ∧ EntsT (r1.1 * r2.1) r3.1 s.2.2 s.1) (fun s => 8 - s.2.2.length) (Q := fun _ r => (RightL r.1 ∧ r.1.2.2.1.length ≤ 8) ∧ CurOk r.2.1) (fun s hi ih => by
  obtain ⟨T, c, xs⟩ := s
  obtain ⟨i1, i2, i3, i4⟩ := hi
  simp only at i1 i2 i3 i4 ih ⊢
  simp only [Y4, Ba5]
  refine Re.b2 (I7 _ 8 i2.eta) fun r4 h4 => ?_
  refine Re.brd (fun q => ?_) (fun q => ?_)
  ·have hx : xs.length < 8 := by obtain ⟨⟨a, b⟩, _⟩ := h4; omega
   have e1 : B8 ((xs.length : Int) + 1) = ((xs.length + 1 : Nat) : Int) := by rw [C6 (by omega) (by omega)]; rfl
   refine Re.b2 (B35 _ 3 h4.2) fun r5 h5 => ?_
   refine Re.brb (Re.b2 (I7 _ 2 h5) fun r6 h6 => ?_) ?_
   ·have m6 : 0 ≤ r6.1 ∧ r6.1 ≤ 1 := by obtain ⟨⟨a, b⟩, _⟩ := h6; omega
    rw [show B8 (B8 (T + 1) + r6.1) = T + 1 + r6.1 by rw [C6 (show -9223372036854775808 ≤ T + 1 by omega) (by omega)]; exact C6 (by omega) (by omega)]
    refine Re.b2 (Bv4 _ h6.2 _) fun r7 h7 => Re.gdd (by simp [A2]; omega) ?_
    rw [e1]
    have := ih (T + 1 + r6.1, r7.2.1, xs ++ [r7.1]) ⟨by simp; omega, h7.2, by simp; omega, B99 i4 (by omega) (by omega) (by omega) h7.1⟩ (by simp; omega)
    simpa using this
   ·refine Re.b2 (Bv4 _ h5 _) fun r7 h7 => Re.gdd (by simp [A2]; omega) ?_
    rw [e1]
    have := ih (T, r7.2.1, xs ++ [r7.1]) ⟨by simp; omega, h7.2, by simp; omega, B99 i4 (by omega) (by omega) (by omega) h7.1⟩ (by simp; omega)
    simpa using this
  ·rw [hw]
   exact Re.ret ⟨⟨⟨⟨mm.1, by simp only; omega⟩, ⟨m3.1, by simp only; omega⟩, by simp only; omega, ⟨i4.1, by have := i4.2.1; simp only; omega, i4.2.2⟩⟩, i1⟩, h4.2⟩) (r3.1, r3.2.1, []) ⟨by simp, h3.2, by simp; omega, ⟨fun i hi => absurd hi (by simp), by show r3.1 ≤ r3.1; omega, fun i hi => absurd hi (by simp)⟩⟩
 exact this
def AnyL (l : C4) : Prop := (-1 ≤ l.1 ∧ l.1 ≤ 1000001) ∧ l.2.2.1.length ≤ 70 ∧ ∀ i, i < l.2.2.1.length → (rd B2 l.2.2.1 i).2.2.1.size ≤ 121
theorem AnyL.small {l : C4} (h : AnyL l) : D19 l := ⟨by have := h.2.1; omega, fun i hi => by have := h.2.2 i hi; omega⟩
theorem RightL.any {l : C4} (h : RightL l) : AnyL l := ⟨⟨by have := h.1.1; omega, by have := h.1.2; omega⟩, by have := h.2.2.1; omega, fun i hi => by have := h.2.2.2.2.2 i hi; omega⟩
theorem Fp3 {xs : List A9} {y : A9} {n : Nat} (h : ∀ i, i < xs.length → (rd B2 xs i).2.2.1.size ≤ n) (hy : y.2.2.1.size ≤ n) : ∀ i, i < (xs ++ [y]).length → (rd B2 (xs ++ [y]) i).2.2.1.size ≤ n := fun i hi => by
 rw [B37]
 by_cases q : i < xs.length
 ·rw [if_pos q]; exact h i q
 ·rw [if_neg q, if_pos (by simp at hi; omega)]; exact hy
theorem Ca0 (l : C4) (h : AnyL l) : ∀ k, Ai3 k l = some (l.1 + (l.2.2.1.length : Int), M6 l l.2.2.1.length) := fun k => by
 obtain ⟨h1, h2, _⟩ := h
 unfold Ai3 M6
 by_cases h0 : l.2.2.1.length = 0
 ·rw [if_pos h0, h0]
  simp
 ·rw [if_neg h0, Al3 (show (l.2.2.1.length : Int) ≠ 0 by omega), br_false, Cd1 (by omega) (by omega)]
  rw [decide_eq_true (by omega), gd_true, decide_eq_true (by omega), gd_true, C6 (by omega) (by omega)]
  rfl
noncomputable def Bl7 (l : C4) (i : Int) (e : A9) : C4 × Bool :=
 bif Ai9 l && (decide (l.1 + 1 ≤ i ∧ i ≤ l.1 + l.2.2.1.length + 1) && Ai9 (l.1, l.2.1, l.2.2.1.take (i - l.1 - 1).toNat ++ [e], ())) then ((l.1, l.2.1, l.2.2.1.take (i - l.1 - 1).toNat ++ [e], ()), true) else ((0, 0, [], ()), false)
theorem Cl9 {l : C4} {e : A9} (h : AnyL l) (he : e.2.2.1.size ≤ 121) (n : Nat) : D19 (l.1, l.2.1, l.2.2.1.take n ++ [e], ()) := by
 obtain ⟨_, h2, h3⟩ := h
 refine ⟨by simp; omega, fun i hi => ?_⟩
 have := Fp3 (xs := l.2.2.1.take n) (y := e) (n := 1048576) (fun j hj => ?_) (by omega) i hi
 ·exact this
 ·have hj2 : j < n ∧ j < l.2.2.1.length := by simp at hj; omega
  have : rd B2 (l.2.2.1.take n) j = rd B2 l.2.2.1 j := by simp [rd, List.getElem?_take, hj2.1]
  rw [this]
  have := h3 j hj2.2
  omega
theorem Eh9 (l : C4) (i : Int) (e : A9) (h : AnyL l) (he : e.2.2.1.size ≤ 121) : Ev (fun k => Bu0 k l i e) (Bl7 l i e) := by
 refine Re.eq (Re.c1 (A52 l h.small) ?_)
 unfold Bl7
 cases ho : Ai9 l with
 | false => exact Re.ret rfl
 | true =>
  have hp := M3.1 ho
  obtain ⟨p1, p2, p3, p4, p5⟩ := hp
  simp only [Bool.not_true, br_false, Bool.true_and]
  refine Re.s1 (v := l.1 + (l.2.2.1.length : Int)) (fun k => by unfold Ab1; rw [C6 (by omega) (by omega)]) ?_
  refine Re.s1 (I0 · _ _ _) ?_
  rw [C6 (show -9223372036854775808 ≤ l.1 + 1 by omega) (by omega), C6 (show -9223372036854775808 ≤ l.1 + (l.2.2.1.length : Int) + 1 by omega) (by omega), As9]
  refine Re.br (fun q => ?_) (fun q => ?_)
  ·have : decide (l.1 + 1 ≤ i ∧ i ≤ l.1 + (l.2.2.1.length : Int) + 1) = false := by
    cases hd : decide (l.1 + 1 ≤ i ∧ i ≤ l.1 + (l.2.2.1.length : Int) + 1) with
    | false => rfl
    | true => rw [hd] at q; cases q
   rw [this]
   exact Re.ret rfl
  have hq : l.1 + 1 ≤ i ∧ i ≤ l.1 + (l.2.2.1.length : Int) + 1 := by simpa using q
  rw [decide_eq_true hq]
  rw [C6 (show -9223372036854775808 ≤ i - l.1 by omega) (by omega), C6 (show -9223372036854775808 ≤ i - l.1 - 1 by omega) (by omega)]
  refine Re.gdd (by omega) (Re.gdd (by omega) (Re.gdd (by simp [A2]; omega) (Re.gdd (by simp [A2]; omega) ?_)))
  simp only [List.nil_append, Bool.true_and]
  refine Re.c1 (A52 _ (Cl9 h he _)) ?_
  cases Ai9 (l.1, l.2.1, l.2.2.1.take (i - l.1 - 1).toNat ++ [e], ()) <;> exact Re.ret rfl
theorem Ei0 (l : C4) (i : Int) (e : A9) (h : AnyL l) (he : e.2.2.1.size ≤ 121) : Ev (fun k => Bu9 k l i e) (Bl7 l i e) := by
 refine Re.eq (Re.c1 (Bl6 l h.small) ?_)
 unfold Bl7
 cases ho : Ai9 l with
 | false => exact Re.ret rfl
 | true =>
  have hp := M3.1 ho
  obtain ⟨p1, p2, p3, p4, p5⟩ := hp
  simp only [Bool.not_true, br_false, Bool.true_and]
  refine Re.s1 (v := l.1 + (l.2.2.1.length : Int)) (fun k => by unfold C95; rw [C6 (by omega) (by omega)]) ?_
  refine Re.s1 (N0 · _ _ _) ?_
  rw [C6 (show -9223372036854775808 ≤ l.1 + 1 by omega) (by omega), C6 (show -9223372036854775808 ≤ l.1 + (l.2.2.1.length : Int) + 1 by omega) (by omega), As9]
  refine Re.br (fun q => ?_) (fun q => ?_)
  ·have : decide (l.1 + 1 ≤ i ∧ i ≤ l.1 + (l.2.2.1.length : Int) + 1) = false := by
    cases hd : decide (l.1 + 1 ≤ i ∧ i ≤ l.1 + (l.2.2.1.length : Int) + 1) with
    | false => rfl
    | true => rw [hd] at q; cases q
   rw [this]
   exact Re.ret rfl
  have hq : l.1 + 1 ≤ i ∧ i ≤ l.1 + (l.2.2.1.length : Int) + 1 := by simpa using q
  rw [decide_eq_true hq]
  refine Re.s1 (v := l) (fun k => by unfold I2; rw [decide_eq_true (by unfold A2; omega)]; rfl) ?_
  rw [C6 (show -9223372036854775808 ≤ i - l.1 by omega) (by omega), C6 (show -9223372036854775808 ≤ i - l.1 - 1 by omega) (by omega)]
  refine Re.gdd (by omega) (Re.gdd (by omega) ?_)
  simp only [Nat.zero_add, Bool.true_and, List.length_singleton]
  have e1 : ∀ q, q + 1 ≤ l.2.2.1.length → (app q [e] l.2.2.1).take (q + 1) = l.2.2.1.take q ++ [e] := fun q hq => by
   unfold app
   rw [List.take_append_of_le_length (by simp; omega), List.take_of_length_le (by simp; omega)]
  refine Re.brd (fun q => ?_) (fun q => ?_)
  ·rw [e1 _ q]
   refine Re.c1 (Bl6 _ (Cl9 h he _)) ?_
   cases Ai9 (l.1, l.2.1, l.2.2.1.take (i - l.1 - 1).toNat ++ [e], ()) <;> exact Re.ret rfl
  ·refine Re.gdd (by simp [A2]; omega) ?_
   refine Re.c1 (Bl6 _ (Cl9 h he _)) ?_
   cases Ai9 (l.1, l.2.1, l.2.2.1.take (i - l.1 - 1).toNat ++ [e], ()) <;> exact Re.ret rfl
def Bv5 (l : C4) : Int := l.1 + l.2.2.1.length
def Bv6 (l : C4) (i : Int) : Int := if i = l.1 then l.2.1 else if i < l.1 ∨ i > Bv5 l then -1 else (rd B2 l.2.2.1 (i - l.1 - 1).toNat).1
theorem Fp4 {l : C4} {j : Nat} (h : j ≤ l.2.2.1.length) : Bv6 l (l.1 + j) = M6 l j := by
 unfold Bv6 M6 Bv5
 by_cases h0 : j = 0
 ·subst h0; simp
 ·rw [if_neg (by omega), if_neg (by omega), if_neg h0, show (l.1 + (j : Int) - l.1 - 1).toNat = j - 1 by omega]
def Gn6 (l : C4) (i : Int) : Prop := (-1 ≤ l.1 ∧ l.1 ≤ 2000000) ∧ l.2.2.1.length ≤ 1000 ∧ -1000000000 ≤ i ∧ i ≤ 1000000000
theorem Cf1 {l : C4} {i : Int} (h : Gn6 l i) (k : Nat) : Aq2 k l i = some (Bv6 l i) := by
 obtain ⟨⟨h1, h2⟩, h3, h4, h5⟩ := h
 unfold Aq2 Ab1 Bv6 Bv5
 rw [C6 (show -9223372036854775808 ≤ l.1 + (l.2.2.1.length : Int) by omega) (by omega)]
 by_cases q1 : i = l.1
 ·rw [if_pos q1, q1]; simp
 rw [if_neg q1, Al3 q1, br_false]
 by_cases q2 : i < l.1
 ·rw [decide_eq_true q2, if_pos (.inl q2)]; rfl
 rw [decide_eq_false q2, br_false, bd_some]
 by_cases q3 : i > l.1 + (l.2.2.1.length : Int)
 ·rw [decide_eq_true q3, if_pos (.inr q3)]; rfl
 rw [decide_eq_false q3, br_false, if_neg (by omega), C6 (show -9223372036854775808 ≤ i - l.1 by omega) (by omega), C6 (show -9223372036854775808 ≤ i - l.1 - 1 by omega) (by omega)]
 rw [decide_eq_true (by omega), decide_eq_true (by omega)]
 rfl
noncomputable def Gj5 (a b : C4) (v : Int) : Bool := decide (v < Bv5 a) && (decide (v < Bv5 b) && eqd (rd B2 a.2.2.1 (v - a.1).toNat) (rd B2 b.2.2.1 (v - b.1).toNat))
noncomputable def shN (a b : C4) : Nat → Int → Int
 | 0, v => v
 | f + 1, v => bif Gj5 a b v then shN a b f (v + 1) else v
noncomputable def shared (a b : C4) : Int := bif Ai9 a && Ai9 b then (let s := if b.1 > a.1 then b.1 else a.1; if Bv6 a s < 0 then -1 else if Bv6 a s = Bv6 b s then shN a b 200 s else -1) else -1
theorem Au6 (x y : A9) : (x.1 == y.1 && (x.2.1 == y.2.1 && (x.2.2.1.toList == y.2.2.1.toList && true))) = eqd x y := by
 obtain ⟨x1, x2, x3, ⟨⟩⟩ := x
 obtain ⟨y1, y2, y3, ⟨⟩⟩ := y
 rw [Bool.eq_iff_iff, S5]
 simp only [Y9]
 simp
theorem LogP.near {l : C4} (h : LogP l) {i : Int} (h1 : -1000000000 ≤ i) (h2 : i ≤ 1000000000) : Gn6 l i := ⟨⟨by have := h.1.1; omega, by have := h.1.2; omega⟩, by have := h.2.2.1; omega, h1, h2⟩
theorem B38 {l : C4} (h : LogP l) : ∀ i, i ≤ l.2.2.1.length → 0 ≤ M6 l i := fun i hi => by
 unfold M6
 by_cases h0 : i = 0
 ·rw [if_pos h0]; exact h.2.1.1
 ·rw [if_neg h0]
  have := (h.2.2.2.2 (i - 1) (by omega)).1
  exact (W3 this).1.1
theorem D20 {α : Type} (d : α) (xs : List α) (j i : Nat) : rd d (xs.drop j) i = rd d xs (j + i) := by simp [rd, List.getElem?_drop]
theorem Db1 (l : C4) (j i : Nat) : M6 (l.1 + j, M6 l j, l.2.2.1.drop j, ()) i = M6 l (j + i) := by
 unfold M6
 by_cases h0 : i = 0
 ·subst h0; rw [if_pos rfl]; rfl
 ·rw [if_neg h0, if_neg (show j + i ≠ 0 by omega)]
  simp only [D20]
  rw [show j + (i - 1) = j + i - 1 by omega]
theorem Fp5 {l : C4} (h : LogP l) {j : Nat} (hj : j ≤ l.2.2.1.length) : LogP (l.1 + j, M6 l j, l.2.2.1.drop j, ()) := by
 have p1 := h.1; have p2 := h.2.1; have p3 := h.2.2.1; have p4 := h.2.2.2.1
 have h0 := B38 h j hj
 have hle : M6 l j ≤ 100000 := by
  unfold M6
  by_cases q : j = 0
  ·rw [if_pos q]; exact p2.2
  ·rw [if_neg q]
   exact (W3 (h.2.2.2.2 (j - 1) (by omega)).1).1.2
 refine ⟨⟨by simp only; omega, by simp only; omega⟩, ⟨h0, hle⟩, by simp; omega, by simp; omega, fun i hi => ?_⟩
 have hi' : j + i < l.2.2.1.length := by simp at hi; omega
 rw [Db1]
 simp only [D20]
 exact h.2.2.2.2 (j + i) hi'
end Go.Vm
end
section
set_option linter.unusedVariables false
set_option linter.unusedSimpArgs false
namespace Go.Vm
open Go
theorem Dv9 (k : Nat) : ∀ n, R6 k n = R9 k n
 | 0 => rfl
 | n + 1 => by
  show (Ak1 k (R6 k n).2, Ak2 k (R6 k n).2 (R6 k n).1) = (Bk8 k (R9 k n).2, Bk9 k (R9 k n).2 (R9 k n).1)
  rw [Dv9 k n]; rfl
theorem E54 (k : Nat) (t : ByteArray) : Cd9 k t = Bj8 k t := by
 show bd ((R9 k k).1 4294967295 t 0) _ = bd ((R6 k k).1 4294967295 t 0) _
 rw [Dv9]
theorem Fz9 (t : ByteArray) (ht : t.size ≤ 1048576) : Re (fun k => Bj8 k t) (fun _ => True) := by
 refine Re.b1 (P := fun _ => True) ?_ fun v _ => Re.ret trivial
 refine Re.enter (f := fun k n => j6 k n 4294967295 t 0) L8 ?_
 have := Re.wf (l := fun k n (st : (Int × Nat) ⊕ (Int × Nat × Nat)) => match st with
  | .inl (a, i) => j6 k n a t (i : Int)
  | .inr (a, i, j) => Ak3 k n a t (i : Int) (j : Int))
  (I := fun st => match st with
  | .inl (_, i) => i ≤ t.size
  | .inr (_, i, j) => i < t.size ∧ j ≤ 8)
  (fun st => match st with
  | .inl (_, i) => (t.size - i, 10)
  | .inr (_, i, j) => (t.size - i, 9 - j)) (Q := fun _ _ => True) (fun st hi ih => by
   rcases st with ⟨a, i⟩ | ⟨a, i, j⟩
   ·simp only at hi ih ⊢
    simp only [D09, Ak1]
    refine Re.brd (fun h => Re.gdd (Int.natCast_nonneg _) (Re.gdd h ?_)) (fun h => Re.ret trivial)
    exact ih (.inr (_, i, 0)) ⟨by omega, by omega⟩ (.inr ⟨rfl, by simp only; omega⟩)
   ·obtain ⟨h1, h2⟩ := hi
    simp only at ih ⊢
    simp only [D10, Ak2]
    have ej : B8 ((j : Int) + 1) = ((j + 1 : Nat) : Int) := by rw [C6 (by omega) (by omega)]; rfl
    have ei : B8 ((i : Int) + 1) = ((i + 1 : Nat) : Int) := by rw [C6 (by omega) (by omega)]; rfl
    refine Re.brd (fun h => Re.ng (Fz1 _) (Re.ng (Fz1 _) ?_)) (fun h => ?_)
    ·rw [ej]
     exact Re.brb (ih (.inr (_, i, j + 1)) ⟨h1, by omega⟩ (.inr ⟨rfl, by simp only; omega⟩)) (ih (.inr (_, i, j + 1)) ⟨h1, by omega⟩ (.inr ⟨rfl, by simp only; omega⟩))
    ·rw [ei]
     exact ih (.inl (a, i + 1)) (by simp only; omega) (.inl (by simp only; omega))) (.inl (4294967295, 0)) (Nat.zero_le _)
 exact this
noncomputable def Fp6 (t : ByteArray) : Int := @dite Int (t.size ≤ 1048576) (Classical.propDecidable _) (fun h => Classical.choose (Fz9 t h)) (fun _ => 0)
theorem F00 (t : ByteArray) (ht : t.size ≤ 1048576) : Ev (fun k => Bj8 k t) (Fp6 t) := by
 unfold Fp6
 rw [dif_pos ht]
 exact (Classical.choose_spec (Fz9 t ht)).2
def Dw0 (x : Int) : ByteArray := B3 [IntKind.wrap .u8 (Int.fdiv x (2 ^ 24)), IntKind.wrap .u8 (Int.fdiv x (2 ^ 16)), IntKind.wrap .u8 (Int.fdiv x (2 ^ 8)), IntKind.wrap .u8 x]
theorem Ar0 (x : Int) : (Dw0 x).size = 4 := by unfold Dw0; rw [D3]; rfl
noncomputable def G4 (t : ByteArray) : ByteArray := E6 (t.size : Int) ++ Dw0 (Fp6 t) ++ t
def Bv7 (t : ByteArray) : Prop := 1 ≤ t.size ∧ t.size ≤ 9000
theorem j3 (t : ByteArray) : (G4 t).size = (E6 (t.size : Int)).size + 4 + t.size := by unfold G4; rw [C8, C8, Ar0]
theorem Ah4 (t : ByteArray) (h : Bv7 t) : Ev (fun k => T2 k t) (G4 t, true) := by
 have hv := D2 (n := (t.size : Int)) (by have := h.2; omega)
 have h1 := h.1
 have h2 := h.2
 refine Ev.bd (.of (I0 · _ _ _)) ?_
 rw [D6.2 ⟨by omega, by omega⟩]
 refine Ev.bd (H2 _ (by omega) (by omega)) (Ev.bd (F00 t (by omega)) (Ev.bd (a := Dw0 (Fp6 t)) (.of fun _ => rfl) ?_))
 exact Ev.gd (decide_eq_true (by rw [Ar0]; unfold A2; omega)) (Ev.gd (decide_eq_true (by rw [C8, Ar0]; unfold A2; omega)) (.of fun _ => rfl))
theorem Ar1 (t : ByteArray) (h : Bv7 t) : Ev (fun k => l9 k t) (G4 t, true) := by
 have hv := D2 (n := (t.size : Int)) (by have := h.2; omega)
 have h1 := h.1
 have h2 := h.2
 refine Ev.bd (.of (N0 · _ _ _)) ?_
 rw [D6.2 ⟨by omega, by omega⟩]
 refine Ev.bd (Bl3 _) ?_
 rw [D13 (by omega) (by omega)]
 refine Ev.bd (((F00 t (by omega))).congr fun k => E54 k t) ?_
 exact Ev.gd (decide_eq_true (by show (E6 (t.size : Int)).size + (Dw0 (Fp6 t)).size ≤ A2; rw [Ar0]; unfold A2; omega)) (Ev.gd (decide_eq_true (by show (E6 (t.size : Int) ++ Dw0 (Fp6 t)).size + t.size ≤ A2; rw [C8, Ar0]; unfold A2; omega)) (.of fun _ => rfl))
noncomputable def B5 : List ByteArray → ByteArray
 | [] => ⟨#[]⟩
 | t :: r => G4 t ++ B5 r
theorem Cf2 (s : ByteArray) : (⟨#[]⟩ : ByteArray) ++ s = s := by apply Ae0; simp
theorem O8 : ∀ a b, B5 (a ++ b) = B5 a ++ B5 b
 | [], b => by rw [List.nil_append, B5, Cf2]
 | t :: a, b => by rw [List.cons_append, B5, B5, O8 a b, ByteArray.append_assoc]
theorem j4 (t : ByteArray) : B5 [t] = G4 t := by rw [B5, B5, D15]
def F01 (j : ByteArray) : Prop := ∃ x, Bv7 x ∧ ∃ m, m < (G4 x).size ∧ j = (G4 x).extract 0 m
theorem F02 : F01 ⟨#[]⟩ := by
 refine ⟨⟨#[0]⟩, ⟨by decide, by decide⟩, 0, by rw [j3]; omega, ?_⟩
 apply Ae0; simp
theorem D21 (a : ByteArray) (m : Nat) : D5 (a.extract 0 m) = (D5 a).take m := by rw [Bv3, List.drop_zero]
theorem Ge0 (a s b : ByteArray) : u3 (a ++ (s ++ b)) a.size s := by
 unfold u3
 rw [V2, V2, ← F7 a, List.drop_left]
 exact List.prefix_append _ _
theorem F03 {f j : ByteArray} (hj : F01 j) {n : Int} (h0 : 0 ≤ n) (h : u3 (f ++ j) f.size (E6 n)) : (f.size : Int) + j.size < f.size + (E6 n).size + 4 + n := by
 obtain ⟨x, hx, m, hm, rfl⟩ := hj
 unfold u3 at h
 rw [V2, ← F7 f, List.drop_left, Aa2, D21] at h
 have h1 : varL n.toNat <+: D5 (G4 x) := h.trans (List.take_prefix _ _)
 have h2 : varL ((x.size : Int)).toNat <+: D5 (G4 x) := by
  unfold G4
  rw [ByteArray.append_assoc, V2, Aa2]
  exact List.prefix_append _ _
 have e := Dv4 (A27 _) (A27 _) h1 h2
 have e2 : n = (x.size : Int) := by
  have := congrArg dec e
  rw [Da3, Da3] at this
  omega
 subst e2
 rw [j3] at hm
 rw [ByteArray.size_extract]
 omega
end Go.Vm
end
section
set_option linter.unusedVariables false
set_option linter.unusedSimpArgs false
namespace Go.Vm
open Go
theorem Cf3 (file j : ByteArray) (hs : file.size ≤ 20000) (hj : F01 j) : ∀ (rest done : List ByteArray), (∀ t ∈ rest, Bv7 t) → file = B5 done ++ (B5 rest ++ j) → done.length + rest.length ≤ 20000 →
  (∃ K, ∀ k, K ≤ k → ∀ n, rest.length < n → j7 k n file ((B5 done).size : Int) done = some (done ++ rest, ((B5 (done ++ rest)).size : Int))) ∧
  (∃ K, ∀ k, K ≤ k → ∀ n, rest.length < n → m7 k n file ((B5 done).size : Int) done = some (done ++ rest, ((B5 (done ++ rest)).size : Int)))
 | [], done, _, hf, _ => by
  rw [B5, Cf2] at hf
  rw [List.append_nil]
  have hsz : file.size = (B5 done).size + j.size := by rw [hf, C8]
  obtain ⟨r, hr, ⟨K1, h1⟩, ⟨K2, h2⟩⟩ := B97 file (B5 done).size (by omega) (by omega)
  have key : r.2.2 = true → decide (r.1 > B8 (B8 ((file.size : Int) - r.2.1) - 4)) = true := fun ho => by
   obtain ⟨e1, e2, e3, e4, e5⟩ := hr.sound ho
   rw [hf] at e5
   have := F03 hj e1 e5
   have z : B8 ((file.size : Int) - (((B5 done).size + (E6 r.1).size : Nat) : Int)) = (file.size : Int) - (((B5 done).size + (E6 r.1).size : Nat) : Int) := C6 (by omega) (by omega)
   rw [e3, z, C6 (by omega) (by omega)]
   exact decide_eq_true (by omega)
  refine ⟨⟨K1, fun k hk n hn => ?_⟩, ⟨K2, fun k hk n hn => ?_⟩⟩
  ·obtain ⟨n, rfl⟩ : ∃ m, n = m + 1 := ⟨n - 1, by simp at hn; omega⟩
   show br (decide (((B5 done).size : Int) < (file.size : Int))) (bd (p6 k file ((B5 done).size : Int)) _) _ = _
   rw [show p6 k file ((B5 done).size : Int) = some r from h1 k hk, bd_some]
   cases decide (((B5 done).size : Int) < (file.size : Int)) with
   | false => rfl
   | true =>
    rw [br_true]
    cases ho : r.2.2 with
    | false => rfl
    | true => simp only [Bool.not_true, br_false, key ho, br_true]
  ·obtain ⟨n, rfl⟩ : ∃ m, n = m + 1 := ⟨n - 1, by simp at hn; omega⟩
   show bd (q8 k file ((B5 done).size : Int)) _ = _
   rw [show q8 k file ((B5 done).size : Int) = some r from h2 k hk, bd_some]
   cases ho : r.2.2 with
   | false => rfl
   | true => simp only [Bool.not_true, br_false, key ho, br_true]
 | t :: rest, done, hrec, hf, hlen => by
  have ht := hrec t List.mem_cons_self
  have t1 := ht.1
  have t2 := ht.2
  have hf2 : file = B5 done ++ (G4 t ++ (B5 rest ++ j)) := by rw [hf, B5, ByteArray.append_assoc]
  have hf3 : file = B5 (done ++ [t]) ++ (B5 rest ++ j) := by rw [hf2, O8, j4, ByteArray.append_assoc]
  obtain ⟨p, hp⟩ : ∃ p, p = (B5 done).size := ⟨_, rfl⟩
  obtain ⟨V, hV⟩ : ∃ V, V = (E6 (t.size : Int)).size := ⟨_, rfl⟩
  have hfs := j3 t
  rw [← hV] at hfs
  have hsz : file.size = p + (G4 t).size + (B5 rest ++ j).size := by rw [hf2, C8, C8, hp]; omega
  have hS : u3 file p (G4 t) := by rw [hf2, hp]; exact Ge0 _ _ _
  have hS2 := hS
  unfold G4 at hS2
  obtain ⟨hS3, hSt⟩ := O0.1 hS2
  obtain ⟨hSv, hS4⟩ := O0.1 hS3
  rw [C8, Ar0, ← hV] at hSt
  have hx1 : file.extract (p + V + 4) (p + V + 4 + t.size) = t := by
   have := Ac6 hSt
   rwa [show p + (V + 4) = p + V + 4 by omega] at this
  have hx2 : file.extract p (p + V + 4 + t.size) = G4 t := by
   have := Ac6 hS
   rwa [hfs, show p + (V + 4 + t.size) = p + V + 4 + t.size by omega] at this
  obtain ⟨r, hr, ⟨K1, h1⟩, ⟨K2, h2⟩⟩ := B97 file p (by omega) (by omega)
  have hr := hr.full (t.size : Int) (by omega) (by omega) hSv
  subst hr
  rw [← hV] at h1 h2
  obtain ⟨K3, h3⟩ := Ah4 t ht
  obtain ⟨K4, h4⟩ := Ar1 t ht
  obtain ⟨⟨K5, h5⟩, ⟨K6, h6⟩⟩ := Cf3 file j hs hj rest (done ++ [t]) (fun u hu => hrec u (List.mem_cons_of_mem _ hu)) hf3 (by simp at hlen ⊢; omega)
  have hp2 : ((B5 (done ++ [t])).size : Int) = ((p + V + 4 + t.size : Nat) : Int) := by rw [O8, j4, C8, hfs, ← hp]; omega
  have e0 : B8 ((file.size : Int) - ((p + V : Nat) : Int)) = (file.size : Int) - ((p + V : Nat) : Int) := C6 (by omega) (by omega)
  have e1 : B8 ((B8 ((file.size : Int) - ((p + V : Nat) : Int))) - 4) = (file.size : Int) - ((p + V : Nat) : Int) - 4 := by rw [e0, C6 (by omega) (by omega)]
  have e2 : B8 (((p + V : Nat) : Int) + 4) = ((p + V + 4 : Nat) : Int) := by rw [C6 (by omega) (by omega)]; omega
  have e3 : B8 (((p + V + 4 : Nat) : Int) + (t.size : Int)) = ((p + V + 4 + t.size : Nat) : Int) := by rw [C6 (by omega) (by omega)]; omega
  have d1 : decide ((t.size : Int) > (file.size : Int) - ((p + V : Nat) : Int) - 4) = false := decide_eq_false (by omega)
  have d0 : decide ((p : Int) < (file.size : Int)) = true := decide_eq_true (by omega)
  have d2 : decide (0 ≤ ((p + V + 4 + t.size : Nat) : Int)) = true := decide_eq_true (Int.natCast_nonneg _)
  have d3 : decide (((p + V + 4 + t.size : Nat) : Int) ≤ (file.size : Int)) = true := decide_eq_true (by omega)
  have d4 : decide (0 ≤ ((p + V + 4 : Nat) : Int)) = true := decide_eq_true (Int.natCast_nonneg _)
  have d5 : decide (((p + V + 4 : Nat) : Int) ≤ ((p + V + 4 + t.size : Nat) : Int)) = true := decide_eq_true (by omega)
  have d6 : decide (0 ≤ (p : Int)) = true := decide_eq_true (Int.natCast_nonneg _)
  have d7 : decide ((p : Int) ≤ ((p + V + 4 + t.size : Nat) : Int)) = true := decide_eq_true (by omega)
  have d8 : decide (done.length + [t].length ≤ A2) = true := decide_eq_true (by simp at hlen ⊢; unfold A2; omega)
  refine ⟨⟨max K1 (max K3 K5), fun k hk n hn => ?_⟩, ⟨max K2 (max K4 K6), fun k hk n hn => ?_⟩⟩
  ·obtain ⟨n, rfl⟩ : ∃ m, n = m + 1 := ⟨n - 1, by simp at hn; omega⟩
   have g1 : p6 k file (p : Int) = some ((t.size : Int), ((p + V : Nat) : Int), true) := h1 k (by omega)
   have g3 : T2 k t = some (G4 t, true) := h3 k (by omega)
   have g5 := h5 k (by omega) n (by simp at hn; omega)
   rw [hp2] at g5
   rw [List.append_assoc, List.singleton_append] at g5
   rw [← hp]
   simp only [j7, Bj9, d0, br_true, g1, bd_some, Bool.not_true, br_false, e1, d1, e2, e3, d2, d3, d4, d5, gd_true, Int.toNat_natCast, hx1, g3, d6, d7, hx2, beq_self_eq_true, d8]
   exact g5
  ·obtain ⟨n, rfl⟩ : ∃ m, n = m + 1 := ⟨n - 1, by simp at hn; omega⟩
   have g2 : q8 k file (p : Int) = some ((t.size : Int), ((p + V : Nat) : Int), true) := h2 k (by omega)
   have g4 : l9 k t = some (G4 t, true) := h4 k (by omega)
   have g6 := h6 k (by omega) n (by simp at hn; omega)
   rw [hp2] at g6
   rw [List.append_assoc, List.singleton_append] at g6
   rw [← hp]
   simp only [m7, Bl1, br_true, g2, bd_some, Bool.not_true, br_false, e1, d1, e2, e3, d2, d3, d4, d5, gd_true, Int.toNat_natCast, hx1, g4, d6, d7, hx2, beq_self_eq_true, d8]
   exact g6
theorem A96 : ∀ rs, rs.length ≤ (B5 rs).size
 | [] => Nat.zero_le _
 | t :: r => by rw [B5, C8, j3, List.length_cons]; have := A96 r; omega
theorem E55 (rs : List ByteArray) (j : ByteArray) (hr : ∀ t ∈ rs, Bv7 t) (hj : F01 j) (hs : (B5 rs ++ j).size ≤ 20000) :
  Ev (fun k => Be5 k (B5 rs ++ j)) (rs, ((B5 rs).size : Int)) ∧ Ev (fun k => Bf0 k (B5 rs ++ j)) (rs, ((B5 rs).size : Int)) := by
 have hl := A96 rs
 have hd : decide (((B5 rs ++ j).size : Int) > 20000) = false := decide_eq_false (by omega)
 obtain ⟨⟨K1, h1⟩, ⟨K2, h2⟩⟩ := Cf3 (B5 rs ++ j) j hs hj rs [] hr (by rw [B5, Cf2]) (by rw [C8] at hs; simp; omega)
 refine ⟨⟨max K1 (rs.length + 1), fun k hk => ?_⟩, ⟨max K2 (rs.length + 1), fun k hk => ?_⟩⟩
 ·show br (decide (((B5 rs ++ j).size : Int) > 20000)) _ (j7 k k (B5 rs ++ j) 0 []) = _
  rw [hd]
  exact h1 k (by omega) k (by omega)
 ·show br (decide (((B5 rs ++ j).size : Int) > 20000)) _ (m7 k k (B5 rs ++ j) 0 []) = _
  rw [hd]
  exact h2 k (by omega) k (by omega)
end Go.Vm
end
section
set_option linter.unusedVariables false
set_option linter.unusedSimpArgs false
namespace Go.Vm
open Go
instance (n : Int) : Decidable (Q9 n) := inferInstanceAs (Decidable (_ ∧ _))
theorem Cf4 (a : ByteArray) (p : Nat) (b : Bool) (ha : a.size ≤ 1048576) (hp : p ≤ a.size) :
  ∃ x q b', Rd a I1 Q9 0 p b x q b' ∧ Ev (fun k => Ab0 k (cur a p b) 1) (bif b' then (⟨#[]⟩ : ByteArray) else I1 x, cur a q b', ()) := by
 cases b with
 | true => exact ⟨0, p, true, .stuck hp, .of fun _ => rfl⟩
 | false =>
  have e1 : B8 ((a.size : Int) - (p : Int)) = (a.size : Int) - p := C6 (by omega) (by omega)
  have e2 : B8 ((p : Int) + 1) = ((p + 1 : Nat) : Int) := by rw [C6 (by omega) (by omega)]; omega
  have e3 : B8 (((p + 1 : Nat) : Int) - 1) = (p : Int) := by rw [C6 (by omega) (by omega)]; omega
  by_cases hlt : p < a.size
  ·have hb := Ce5 a p
   have hs := Cl6 hlt
   have d1 : decide ((1 : Int) > (a.size : Int) - p) = false := by simp; omega
   have d2 : decide (((p + 1 : Nat) : Int) ≤ (a.size : Int)) = true := by simp; omega
   have d3 : decide (0 ≤ ((p + 1 : Nat) : Int)) = true := decide_eq_true (Int.natCast_nonneg _)
   have d4 : decide (0 ≤ (p : Int)) = true := decide_eq_true (Int.natCast_nonneg _)
   have d5 : decide ((p : Int) ≤ ((p + 1 : Nat) : Int)) = true := by simp; omega
   have hx : a.extract p (p + 1) = I1 (bt a p) := by
    have := Ac6 hs
    rwa [D3] at this
   refine ⟨bt a p, p + 1, false, ⟨by omega, by omega, fun h => by (cases h), fun h => by (cases h), fun _ => ⟨hb, by simp [I1, D3], hs⟩, fun _ y hy h => ?_⟩, .of fun k => ?_⟩
   ·exact ⟨(Ce6 hy h).2, by simp [I1, D3], rfl⟩
   ·simp only [Ab0, br_false, e1, d1, e2, e3, d2, d3, d4, d5, gd_true, Int.toNat_natCast, hx, cond_false]
  ·have hpe : p = a.size := by omega
   refine ⟨0, p, true, ⟨Nat.le_refl _, hp, fun h => by (cases h), fun _ => rfl, fun h => by (cases h), fun _ y hy h => ?_⟩, .of fun k => ?_⟩
   ·have := (Ce6 hy h).1; omega
   ·have d1 : decide ((1 : Int) > (a.size : Int) - p) = true := by simp; omega
    simp only [Ab0, br_false, e1, d1, br_true, cond_true]
def L3 (c a b : Int) : ByteArray := I1 c ++ (E6 a ++ E6 b)
theorem J8 (c : Int) : (I1 c).size = 1 := D3 _
theorem B39 {c a b : Int} (ha : a ≤ 1000000000) (hb : b ≤ 1000000000) : (L3 c a b).size ≤ 11 := by
 unfold L3
 rw [C8, C8, J8]
 have := D2 ha
 have := D2 hb
 omega
theorem Db2 (c a b : Int) : 1 ≤ (L3 c a b).size := by unfold L3; rw [C8, J8]; omega
theorem F04 (c a b : Int) (hc : Q9 c) (ha : Al1 a) (hb : Al1 b) :
  Ev (fun k => At9 k (L3 c a b) (I1 c)) (a, b, true) ∧ Ev (fun k => Bu8 k (L3 c a b) c) (a, b, true) := by
 have hsz := B39 (c := c) ha.2 hb.2
 have hfull : (L3 c a b).size = 1 + (E6 a).size + (E6 b).size := by unfold L3; rw [C8, C8, J8]; omega
 have hs : u3 (L3 c a b) 0 (I1 c ++ (E6 a ++ E6 b)) := B34 _
 obtain ⟨hs0, hs⟩ := O0.1 hs
 obtain ⟨hs1, hs2⟩ := O0.1 hs
 rw [J8] at hs1 hs2
 have n1 := Y6 ha
 have n2 := Y6 hb
 constructor
 ·obtain ⟨x0, q0, b0, R0, E0⟩ := Cf4 (L3 c a b) 0 false (by omega) (by omega)
  obtain ⟨x1, q1, b1, R1, E1, _⟩ := Ax4 (L3 c a b) q0 b0 (by omega) R0.hi
  obtain ⟨x2, q2, b2, R2, E2, _⟩ := Ax4 (L3 c a b) q1 b1 (by omega) R1.hi
  obtain ⟨rfl, z0, rfl⟩ := R0.full rfl c hc hs0
  rw [J8] at z0
  obtain ⟨rfl, z1, rfl⟩ := R1.full rfl a ha (by rw [z0]; exact hs1)
  obtain ⟨rfl, z2, rfl⟩ := R2.full rfl b hb (by rw [z1, z0]; exact hs2)
  refine Re.eq (Re.c1 E0 (Re.c1 E1 (Re.c1 E2 ?_)))
  refine Re.br (b := false) (fun h => by cases h) (fun _ => ?_)
  refine Re.c1 (H2 _ ha.1 (by have := ha.2; omega)) (Re.gdd (by simp only [J8]; unfold A2; omega) (Re.c1 (H2 _ hb.1 (by have := hb.2; omega)) (Re.gdd (by simp only [C8, J8]; unfold A2; omega) ?_)))
  have he : I1 x0 ++ E6 x1 ++ E6 x2 = L3 x0 x1 x2 := by unfold L3; rw [ByteArray.append_assoc]
  rw [he, beq_self_eq_true]
  exact Re.ret rfl
 ·obtain ⟨x0, q0, b0, R0, E0⟩ := Ce7 (L3 c a b) 0 false (by omega) (by omega)
  obtain ⟨x1, q1, b1, R1, _, E1⟩ := Ax4 (L3 c a b) q0 b0 (by omega) R0.hi
  obtain ⟨x2, q2, b2, R2, _, E2⟩ := Ax4 (L3 c a b) q1 b1 (by omega) R1.hi
  obtain ⟨rfl, z0, rfl⟩ := R0.full rfl c hc hs0
  rw [J8] at z0
  obtain ⟨rfl, z1, rfl⟩ := R1.full rfl a ha (by rw [z0]; exact hs1)
  obtain ⟨rfl, z2, rfl⟩ := R2.full rfl b hb (by rw [z1, z0]; exact hs2)
  refine Re.eq (Re.c1 E0 (Re.c1 E1 (Re.c1 E2 (Re.s1 (Fk7 _ _ _) ?_))))
  rw [decide_eq_true (show q2 = (L3 x0 x1 x2).size by omega)]
  refine Re.ret ?_
  have : B8 x0 = x0 := C6 (by have := hc.1; omega) (by have := hc.2; omega)
  rw [this, beq_self_eq_true]
theorem B40 (i t c : Int) (d : ByteArray) : (Ac7 i t c d).size = 1 + ((E6 i).size + ((E6 t).size + (1 + d.size))) := by unfold Ac7; simp only [C8, J8]
theorem F05 {a b : Int} (ha : Q9 a) (hb : Q9 b) (hne : a ≠ b) (x y : ByteArray) : I1 a ++ x ≠ I1 b ++ y := by
 intro h
 have := congrArg D5 h
 unfold I1 at this
 rw [V2, V2, Q7 (fun x hx => by simp at hx; subst hx; exact ha), Q7 (fun x hx => by simp at hx; subst hx; exact hb)] at this
 exact hne (List.cons.inj this).1
theorem Ge1 (i t c : Int) (d : ByteArray) (hi : i ≤ 1000000000) (ht : t ≤ 1000000000) (hd : d.size ≤ 1000) :
  Ev (fun k => At9 k (Ac7 i t c d) (⟨#[72]⟩ : ByteArray)) (0, 0, false) ∧ ∃ x y, Ev (fun k => Bu8 k (Ac7 i t c d) 72) (x, y, false) := by
 have hsz := B40 i t c d
 have n1 := D2 hi
 have n2 := D2 ht
 have h72 : (⟨#[72]⟩ : ByteArray) = I1 72 := by apply Ae0; simp [I1, B3]
 have hs : u3 (Ac7 i t c d) 0 (I1 69 ++ (E6 i ++ (E6 t ++ (I1 c ++ d)))) := B34 _
 obtain ⟨hs0, _⟩ := O0.1 hs
 constructor
 ·obtain ⟨x0, q0, b0, R0, E0⟩ := Cf4 (Ac7 i t c d) 0 false (by omega) (by omega)
  obtain ⟨x1, q1, b1, R1, E1, _⟩ := Ax4 (Ac7 i t c d) q0 b0 (by omega) R0.hi
  obtain ⟨x2, q2, b2, R2, E2, _⟩ := Ax4 (Ac7 i t c d) q1 b1 (by omega) R1.hi
  refine Re.eq (Re.c1 E0 (Re.c1 E1 (Re.c1 E2 ?_)))
  cases hb2 : b2 with
  | true => exact Re.ret rfl
  | false =>
   subst hb2
   obtain ⟨o2, _, _⟩ := R2.sound rfl
   have hb1 : b1 = false := by
    cases b1 with
    | false => rfl
    | true => exact absurd (R2.bad rfl).2.2 (by simp)
   subst hb1
   obtain ⟨o1, _, _⟩ := R1.sound rfl
   have m1 := Y6 o1
   have m2 := Y6 o2
   refine Re.br (b := false) (fun h => by cases h) (fun _ => ?_)
   refine Re.c1 (H2 _ o1.1 (by have := o1.2; omega)) (Re.gdd (by simp only [h72, J8]; unfold A2; omega) (Re.c1 (H2 _ o2.1 (by have := o2.2; omega)) (Re.gdd (by simp only [C8, h72, J8]; unfold A2; omega) ?_)))
   rw [Y9, decide_eq_false (fun h => by
    rw [h72, ByteArray.append_assoc] at h
    exact F05 (a := 72) (b := 69) (by decide) (by decide) (by decide) _ _ h)]
   exact Re.ret rfl
 ·obtain ⟨x0, q0, b0, R0, E0⟩ := Ce7 (Ac7 i t c d) 0 false (by omega) (by omega)
  obtain ⟨x1, q1, b1, R1, _, E1⟩ := Ax4 (Ac7 i t c d) q0 b0 (by omega) R0.hi
  obtain ⟨x2, q2, b2, R2, _, E2⟩ := Ax4 (Ac7 i t c d) q1 b1 (by omega) R1.hi
  obtain ⟨rfl, z0, rfl⟩ := R0.full rfl 69 (by decide) hs0
  refine ⟨x1, x2, Re.eq (Re.c1 E0 (Re.c1 E1 (Re.c1 E2 (Re.s1 (Fk7 _ _ _) ?_))))⟩
  cases hd : (!b2 && decide (q2 = (Ac7 i t c d).size)) with
  | false => exact Re.ret rfl
  | true => exact Re.ret rfl
theorem Bv8 (i : Int) (e : A9) (hs : e.2.2.1.size ≤ 1048576) : Ev (fun k => i8 k i e) (A95 i e) := by
 refine Re.eq ?_
 refine Re.c1 (Ce9 e hs) ?_
 unfold A95
 cases ho : N4 e with
 | false => exact Re.ret rfl
 | true =>
  refine Re.s1 (I0 · _ _ _) ?_
  cases hi : i6 i 1 1000000 with
  | false => exact Re.ret rfl
  | true =>
   obtain ⟨k1, k2, k3⟩ := W3 ho
   have i1 := D6.1 hi
   have n1 : (E6 i).size ≤ 5 := D2 (by omega)
   have n2 : (E6 e.1).size ≤ 5 := D2 (by omega)
   have hk : IntKind.wrap .u8 e.2.1 = e.2.1 := Bt8 (by omega) (by omega)
   have n0 : (⟨#[69]⟩ : ByteArray).size = 1 := rfl
   refine Re.c1 (H2 i (by omega) (by omega)) ?_
   refine Re.gdd (by unfold A2; omega) (Re.c1 (H2 e.1 (by omega) (by omega)) ?_)
   rw [hk]
   refine Re.gdd (by simp only [C8]; unfold A2; omega) (Re.gdd (by simp only [C8, D3, List.length_singleton]; unfold A2; omega) (Re.gdd (by simp only [C8, D3, List.length_singleton]; unfold A2; omega) (Re.ret ?_)))
   unfold Ac7
   rw [Gg9]
   simp only [Al2]
   rfl
theorem F06 {c : Int} (h : Q9 c) : bt (I1 c) 0 = c := by
 rw [Dv3]
 unfold I1
 rw [Q7 (fun x hx => by simp at hx; subst hx; exact h)]
 rfl
theorem Db3 (i : Int) (e : A9) (ho : N4 e = true) (hi : i6 i 1 1000000 = true) : Ev (fun k => Au1 k (Ac7 i e.1 e.2.1 e.2.2.1)) (i, e, true) := by
 obtain ⟨k1, k2, k3⟩ := W3 ho
 have i1 := D6.1 hi
 have n1 : (E6 i).size ≤ 5 := D2 (by omega)
 have n2 : (E6 e.1).size ≤ 5 := D2 (by omega)
 have hsz := B40 i e.1 e.2.1 e.2.2.1
 have hs2 : u3 (Ac7 i e.1 e.2.1 e.2.2.1) 0 (I1 69 ++ (E6 i ++ (E6 e.1 ++ (I1 e.2.1 ++ e.2.2.1)))) := B34 _
 have hT : A95 i e = (Ac7 i e.1 e.2.1 e.2.2.1, true) := by unfold A95; rw [ho, hi]; rfl
 have hTe := Bv8 i e (by omega)
 rw [hT] at hTe
 generalize ha : Ac7 i e.1 e.2.1 e.2.2.1 = a at hs2 hsz hTe
 obtain ⟨x0, q0, b0, R0, E0⟩ := Cf4 a 0 false (by omega) (by omega)
 obtain ⟨x1, q1, b1, R1, E1, _⟩ := Ax4 a q0 b0 (by omega) R0.hi
 obtain ⟨x2, q2, b2, R2, E2, _⟩ := Ax4 a q1 b1 (by omega) R1.hi
 obtain ⟨x3, q3, b3, R3, E3⟩ := Cf4 a q2 b2 (by omega) R2.hi
 obtain ⟨c, hs2⟩ := O0.1 hs2
 obtain ⟨rfl, z0, rfl⟩ := R0.full rfl 69 (by decide) c; rw [← z0] at hs2
 obtain ⟨c, hs2⟩ := O0.1 hs2
 obtain ⟨rfl, z1, rfl⟩ := R1.full rfl i (by unfold Al1; omega) c; rw [← z1] at hs2
 obtain ⟨c, hs2⟩ := O0.1 hs2
 obtain ⟨rfl, z2, rfl⟩ := R2.full rfl e.1 (by unfold Al1; omega) c; rw [← z2] at hs2
 obtain ⟨c, hs2⟩ := O0.1 hs2
 have hkb : Q9 e.2.1 := by unfold Q9; omega
 obtain ⟨rfl, z3, rfl⟩ := R3.full rfl e.2.1 hkb c; rw [← z3] at hs2
 rw [J8] at z0 z3
 have he : a.extract q3 a.size = e.2.2.1 := by
  have := Ac6 hs2
  rwa [show q3 + e.2.2.1.size = a.size by omega] at this
 refine Re.eq (Re.c1 E0 (Re.c1 E1 (Re.c1 E2 (Re.c1 E3 ?_))))
 refine Re.br (b := false) (fun h => by cases h) (fun _ => ?_)
 refine Re.gdd (by show (0 : Int) < ((I1 e.2.1).size : Int); rw [J8]; decide) (Re.gdd (by show (0 : Int) ≤ (q3 : Int); omega) (Re.gdd (by show (q3 : Int) ≤ (a.size : Int); omega) ?_))
 have hw : B8 (bt (I1 e.2.1) 0) = e.2.1 := by rw [F06 hkb, C6 (by omega) (by omega)]
 have e4 : ((e.1, B8 (bt (I1 e.2.1) 0), a.extract ((cur a q3 false).2.1).toNat a.size, ()) : A9) = e := by
  show ((e.1, B8 (bt (I1 e.2.1) 0), a.extract ((q3 : Int)).toNat a.size, ()) : A9) = e
  rw [Int.toNat_natCast, he, hw]
 refine Re.c1 (v := (a, true)) (Ev.congr hTe fun k => congrArg (i8 k _) e4) ?_
 rw [beq_self_eq_true]
 exact Re.ret (Prod.ext rfl (Prod.ext e4 rfl))
end Go.Vm
end
section
set_option linter.unusedVariables false
set_option linter.unusedSimpArgs false
namespace Go.Vm
open Go
theorem LogP.any {l : C4} (h : LogP l) : AnyL l := ⟨⟨by have := h.1.1; omega, by have := h.1.2; omega⟩, by have := h.2.2.1; omega, fun i hi => by have := (W3 (h.2.2.2.2 i hi).1).2.2; omega⟩
theorem LogP.small {l : C4} (h : LogP l) : D19 l := h.any.small
noncomputable def jOk (j : A0) : Bool := i6 j.1 0 999 && (i6 j.2.1 0 100000 && (i6 j.2.2.1 0 4 && Ai9 j.2.2.2.1))
theorem Z8 (j : A0) (h : D19 j.2.2.2.1) : Ev (fun k => V0 k j) (jOk j) := by
 refine Re.eq (Re.s1 (N0 · _ _ _) ?_)
 unfold jOk
 cases i6 j.1 0 999 with
 | false => exact Re.ret rfl
 | true =>
  refine Re.s1 (N0 · _ _ _) ?_
  cases i6 j.2.1 0 100000 with
  | false => exact Re.ret rfl
  | true =>
   refine Re.s1 (N0 · _ _ _) ?_
   cases i6 j.2.2.1 0 4 with
   | false => exact Re.ret rfl
   | true => exact Re.c1 (Bl6 _ h) (Re.ret rfl)
theorem A53 (j : A0) (h : D19 j.2.2.2.1) : Ev (fun k => x9 k j) (jOk j) := by
 refine Re.eq (Re.s1 (I0 · _ _ _) ?_)
 unfold jOk
 cases i6 j.1 0 999 with
 | false => exact Re.ret rfl
 | true =>
  refine Re.s1 (I0 · _ _ _) ?_
  cases i6 j.2.1 0 100000 with
  | false => exact Re.ret rfl
  | true =>
   refine Re.s1 (I0 · _ _ _) ?_
   cases i6 j.2.2.1 0 4 with
   | false => exact Re.ret rfl
   | true => exact Re.c1 (A52 _ h) (Re.ret rfl)
inductive JRec where
 | hard (t v : Int)
 | ent (i : Int) (e : A9)
def JRec.bytes : JRec → ByteArray
 | .hard t v => L3 72 t v
 | .ent i e => Ac7 i e.1 e.2.1 e.2.2.1
def JRec.ok : JRec → Prop
 | .hard t v => (0 ≤ t ∧ t ≤ 100000) ∧ (0 ≤ v ∧ v ≤ 4)
 | .ent i e => N4 e = true ∧ i6 i 1 1000000 = true
noncomputable def JRec.app (j : A0) : JRec → A0
 | .hard t v => (j.1, t, v, j.2.2.2)
 | .ent i e => (j.1, j.2.1, j.2.2.1, (Bl7 j.2.2.2.1 i e).1, ())
def JRec.fits (j : A0) : JRec → Prop
 | .hard _ _ => True
 | .ent i e => (Bl7 j.2.2.2.1 i e).2 = true
theorem Ge2 {l : C4} {i : Int} {e : A9} (h : (Bl7 l i e).2 = true) : LogP l ∧ (l.1 + 1 ≤ i ∧ i ≤ l.1 + l.2.2.1.length + 1) ∧ LogP (l.1, l.2.1, l.2.2.1.take (i - l.1 - 1).toNat ++ [e], ()) ∧ Bl7 l i e = ((l.1, l.2.1, l.2.2.1.take (i - l.1 - 1).toNat ++ [e], ()), true) := by
 have hu : Bl7 l i e = bif Ai9 l && (decide (l.1 + 1 ≤ i ∧ i ≤ l.1 + l.2.2.1.length + 1) && Ai9 (l.1, l.2.1, l.2.2.1.take (i - l.1 - 1).toNat ++ [e], ())) then ((l.1, l.2.1, l.2.2.1.take (i - l.1 - 1).toNat ++ [e], ()), true) else ((0, 0, [], ()), false) := rfl
 cases hb : Ai9 l && (decide (l.1 + 1 ≤ i ∧ i ≤ l.1 + l.2.2.1.length + 1) && Ai9 (l.1, l.2.1, l.2.2.1.take (i - l.1 - 1).toNat ++ [e], ())) with
 | false => rw [hu, hb] at h; cases h
 | true =>
  rw [hb] at hu
  simp only [Bool.and_eq_true] at hb
  exact ⟨M3.1 hb.1, of_decide_eq_true hb.2.1, M3.1 hb.2.2, hu⟩
theorem Ge3 {l : C4} {i : Int} {e : A9} (h1 : LogP l) (h2 : l.1 + 1 ≤ i ∧ i ≤ l.1 + l.2.2.1.length + 1) (h3 : LogP (l.1, l.2.1, l.2.2.1.take (i - l.1 - 1).toNat ++ [e], ())) : Bl7 l i e = ((l.1, l.2.1, l.2.2.1.take (i - l.1 - 1).toNat ++ [e], ()), true) := by
 unfold Bl7
 rw [M3.2 h1, M3.2 h3, decide_eq_true h2]
 rfl
theorem JRec.app_ok {j : A0} {r : JRec} (hj : LogP j.2.2.2.1) (hf : r.fits j) : LogP (r.app j).2.2.2.1 ∧ (r.app j).1 = j.1 := by
 cases r with
 | hard t v => exact ⟨hj, rfl⟩
 | ent i e =>
  obtain ⟨_, _, h3, h4⟩ := Ge2 hf
  refine ⟨?_, rfl⟩
  show LogP (Bl7 j.2.2.2.1 i e).1
  rw [h4]; exact h3
theorem Gb2 : (⟨#[72]⟩ : ByteArray) = I1 72 := by apply Ae0; simp [I1, B3]
theorem h66 : (⟨#[66]⟩ : ByteArray) = I1 66 := by apply Ae0; simp [I1, B3]
theorem D22 (j : A0) (r : JRec) (hj : LogP j.2.2.2.1) (hn : 0 ≤ j.1 ∧ j.1 ≤ 999) (ho : r.ok) (hf : r.fits j) :
  Ev (fun k => Ab2 k j r.bytes) (true, r.app j, ()) ∧ Ev (fun k => Bv0 k j r.bytes) (r.app j, true) := by
 cases r with
 | hard t v =>
  obtain ⟨⟨t1, t2⟩, ⟨v1, v2⟩⟩ := ho
  have h2 := F04 72 t v (by decide) ⟨t1, by omega⟩ ⟨v1, by omega⟩
  constructor
  ·refine Re.eq ?_
   unfold Ab2
   rw [Gb2]
   refine Re.c1 h2.1 (Re.br (b := true) (fun _ => ?_) (fun h => by cases h))
   refine Re.s1 (I0 · _ _ _) ?_
   rw [show i6 (t, v, true).1 0 100000 = true from D6.2 ⟨t1, t2⟩]
   refine Re.s1 (I0 · _ _ _) ?_
   rw [show i6 (t, v, true).2.1 0 4 = true from D6.2 ⟨v1, v2⟩]
   exact Re.ret rfl
  ·refine Re.eq (Re.c1 h2.2 (Re.br (b := true) (fun _ => ?_) (fun h => by cases h)))
   refine Re.c1 (Z8 (j.1, t, v, j.2.2.2) hj.small) ?_
   have : jOk (j.1, t, v, j.2.2.2) = true := by
    unfold jOk
    simp only [Bool.and_eq_true]
    exact ⟨D6.2 hn, D6.2 ⟨t1, t2⟩, D6.2 ⟨v1, v2⟩, M3.2 hj⟩
   rw [this]
   exact Re.ret rfl
 | ent i e =>
  obtain ⟨ho, hi⟩ := ho
  obtain ⟨k1, k2, k3⟩ := W3 ho
  have i1 := D6.1 hi
  obtain ⟨n1, x, y, n2⟩ := Ge1 i e.1 e.2.1 e.2.2.1 (by omega) (by omega) (by omega)
  have hf : (Bl7 j.2.2.2.1 i e).2 = true := hf
  have hp : Bl7 j.2.2.2.1 i e = ((Bl7 j.2.2.2.1 i e).1, true) := by rw [← hf]
  constructor
  ·refine Re.eq (Re.c1 n1 (Re.br (b := false) (fun h => by cases h) (fun _ => ?_)))
   refine Re.c1 (Db3 i e ho hi) (Re.br (b := false) (fun h => by cases h) (fun _ => ?_))
   refine Re.c1 (v := ((Bl7 j.2.2.2.1 i e).1, true)) ((Eh9 _ _ _ hj.any (by show e.2.2.1.size ≤ 121; omega)).congr_val (fun _ => rfl) hp) ?_
   exact Re.ret rfl
  ·refine Re.eq (Re.c1 n2 (Re.br (b := false) (fun h => by cases h) (fun _ => ?_)))
   refine Re.c1 (Db0 i e ho hi) (Re.br (b := false) (fun h => by cases h) (fun _ => ?_))
   refine Re.c1 (v := ((Bl7 j.2.2.2.1 i e).1, true)) ((Ei0 _ _ _ hj.any (by show e.2.2.1.size ≤ 121; omega)).congr_val (fun _ => rfl) hp) ?_
   exact Re.ret rfl
theorem JRec.rec_ok {r : JRec} (h : r.ok) : Bv7 r.bytes := by
 cases r with
 | hard t v =>
  obtain ⟨⟨t1, t2⟩, ⟨v1, v2⟩⟩ := h
  have := B39 (c := 72) (a := t) (b := v) (by omega) (by omega)
  exact ⟨Db2 _ _ _, by show (L3 72 t v).size ≤ 9000; omega⟩
 | ent i e =>
  obtain ⟨k1, k2, k3⟩ := W3 h.1
  have i1 := D6.1 h.2
  have n1 : (E6 i).size ≤ 5 := D2 (by omega)
  have n2 : (E6 e.1).size ≤ 5 := D2 (by omega)
  have := B40 i e.1 e.2.1 e.2.2.1
  exact ⟨by show 1 ≤ (Ac7 i e.1 e.2.1 e.2.2.1).size; omega, by show (Ac7 i e.1 e.2.1 e.2.2.1).size ≤ 9000; omega⟩
def JChain : A0 → List JRec → Prop
 | _, [] => True
 | j, r :: rs => r.ok ∧ r.fits j ∧ JChain (r.app j) rs
noncomputable def Aj0 (j : A0) (rs : List JRec) : A0 := rs.foldl JRec.app j
theorem JChain.append : ∀ {rs qs : List JRec} {j : A0}, JChain j rs → JChain (Aj0 j rs) qs → JChain j (rs ++ qs)
 | [], _, _, _, h => h
 | _ :: _, _, _, h, k => ⟨h.1, h.2.1, JChain.append h.2.2 k⟩
theorem D23 (j : A0) (rs qs : List JRec) : Aj0 j (rs ++ qs) = Aj0 (Aj0 j rs) qs := List.foldl_append
theorem JChain.recs : ∀ {rs : List JRec} {j : A0}, JChain j rs → ∀ r ∈ rs, r.ok
 | _ :: _, _, h, _, .head _ => h.1
 | _ :: _, _, h, r, .tail _ hr => JChain.recs h.2.2 r hr
theorem JChain.take : ∀ {rs : List JRec} {j : A0} (n : Nat), JChain j rs → JChain j (rs.take n)
 | [], _, n, _ => by rw [List.take_nil]; trivial
 | r :: rs, _, 0, _ => trivial
 | r :: rs, _, n + 1, h => ⟨h.1, h.2.1, JChain.take n h.2.2⟩
end Go.Vm
end
