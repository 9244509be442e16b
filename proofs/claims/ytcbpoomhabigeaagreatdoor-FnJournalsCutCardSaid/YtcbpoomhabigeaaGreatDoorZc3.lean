/- What the functions compute. -/
import Derived.Test.YtcbpoomhabigeaaGreatDoorZc2
section
set_option linter.unusedVariables false
namespace Go.Vm
open Go
abbrev C2 : Type := ByteArray × ByteArray × Int × Unit
def A3 : C2 := (ByteArray.empty, ByteArray.empty, 0, ())
abbrev B4 : Type := List C2 × Unit
abbrev M9 : Type := ByteArray × Int × Bool × Unit
abbrev B2 : Type := Int × Int × ByteArray × Unit
def A8 : B2 := (0, 0, ByteArray.empty, ())
abbrev B7 : Type := Int × Int × List B2 × Unit
abbrev A0 : Type := Int × Int × Int × B7 × Unit
abbrev F2 : Type := Int × ByteArray × ByteArray × ByteArray × Unit
def Gq7 : F2 := (0, ByteArray.empty, ByteArray.empty, ByteArray.empty, ())
abbrev A5 : Type := List Int × Int × Int × Unit
abbrev C5 : Type := Int × Int × Int × Int × Int × List Int × ByteArray × List Int × Int × Unit
def Au1 : C5 := (0, 0, 0, 0, 0, [], ByteArray.empty, [], 0, ())
abbrev I1 : Type := Int × Int × Int × C5 × Int × Int × Unit
abbrev De8 : Type := Int × Int × List Int × Unit
abbrev Bs0 : Type := Int × Int × Unit
abbrev p7 : Type := List C5 × List (List Bs0) × List Bool × Unit
abbrev Ar1 : Type := List B2 × p7 × List De8 × Unit
def Eo0 (k : Nat) (a0 : List Int) : Option Bool := (some (decide ((a0.length : Int) > 1048576)))
def E9 (k : Nat) (a0 : Int) (a1 : Int) (a2 : Int) : Option Bool := (br (decide (a0 ≥ a1)) (some (decide (a0 ≤ a2))) (some false))
def Av2 (k : Nat) (a0 : Int) : Option Int := (br (decide (a0 < 10)) (some (IntKind.wrap .u8 (B0 (48 + a0)))) (some (IntKind.wrap .u8 (B0 ((B0 (97 + a0)) - 10)))))
noncomputable section
def Ch8 (k : Nat) (L0 : Int → Bool → ByteArray → Option ByteArray) (a0 : Int) (v1 : Bool) (v2 : ByteArray) : Option ByteArray := (br (a0 != 0) (ng (a0 == a0 && (10 : Int) == 0) (br (decide ((Int.tmod a0 10) < 0)) (bd (Av2 k (B0 (0 - (Int.tmod a0 10)))) fun r1 => (gd (decide ((B6 [r1]).size + v2.size ≤ A2)) (ng (a0 == a0 && (10 : Int) == 0) (L0 (B0 (Int.tdiv a0 10)) v1 ((B6 [r1]) ++ v2))))) (bd (Av2 k (Int.tmod a0 10)) fun r2 => (gd (decide ((B6 [r2]).size + v2.size ≤ A2)) (ng (a0 == a0 && (10 : Int) == 0) (L0 (B0 (Int.tdiv a0 10)) v1 ((B6 [r2]) ++ v2))))))) (br v1 (gd (decide ((⟨#[45]⟩ : ByteArray).size + v2.size ≤ A2)) (some ((⟨#[45]⟩ : ByteArray) ++ v2))) (some v2)))
def A16 (k : Nat) : Nat → Int → Bool → ByteArray → Option ByteArray
 | 0, _, _, _ => none
 | n + 1, a0, v1, v2 => Ch8 k (A16 k n) a0 v1 v2
def Cw3 (k : Nat) (L0 : Int → Bool → ByteArray → Option ByteArray) (a0 : Int) : Option ByteArray := (br (a0 == 0) (some (⟨#[48]⟩ : ByteArray)) (L0 a0 (decide (a0 < 0)) (⟨#[]⟩ : ByteArray)))
def A42 (k : Nat) (a0 : Int) : Option ByteArray := Cw3 k (A16 k k) a0
end
def V3 (k : Nat) (a0 : Int) : Option ByteArray := (bd (E9 k a0 0 999) fun r1 => (br (!r1) (some (⟨#[]⟩ : ByteArray)) (bd (A42 k a0) fun r2 => (gd (decide ((⟨#[106]⟩ : ByteArray).size + r2.size ≤ A2)) (some ((⟨#[106]⟩ : ByteArray) ++ r2))))))
noncomputable section
def Bm6 (k : Nat) (L0 : ByteArray → Int → B4 → Option Int) (a1 : ByteArray) (v1 : Int) (a0 : B4) : Option Int := (br (decide (v1 < (a0.1.length : Int))) (gd (decide (0 ≤ v1)) (gd (decide (v1 < (a0.1.length : Int))) (br ((rd A3 a0.1 v1.toNat).1.toList == a1.toList) (some v1) (L0 a1 (B0 (v1 + 1)) a0)))) (some (-1)))
def Ai0 (k : Nat) : Nat → ByteArray → Int → B4 → Option Int
 | 0, _, _, _ => none
 | n + 1, a1, v1, a0 => Bm6 k (Ai0 k n) a1 v1 a0
def D13 (k : Nat) (L0 : ByteArray → Int → B4 → Option Int) (a0 : B4) (a1 : ByteArray) : Option Int := (L0 a1 0 a0)
def A17 (k : Nat) (a0 : B4) (a1 : ByteArray) : Option Int := D13 k (Ai0 k k) a0 a1
end
def Bh1 (k : Nat) (a0 : B4) (a1 : ByteArray) : Option (ByteArray × Bool) := (bd (A17 k a0 a1) fun r1 => (br (decide (r1 < 0)) (some ((⟨#[]⟩ : ByteArray), false)) (gd (decide (0 ≤ r1)) (gd (decide (r1 < (a0.1.length : Int))) (some ((rd A3 a0.1 r1.toNat).2.1, true))))))
noncomputable section
def Ba7 (k : Nat) (L0 : Int → List Int → Option ByteArray) (a0 : Int) (xs1 : List Int) : Option ByteArray := (br (decide (a0 > 127)) (ng (a0 == a0 && (128 : Int) == 0) (gd (decide (xs1.length + [(IntKind.wrap .u8 (B0 ((Int.tmod a0 128) + 128)))].length ≤ A2)) (ng (a0 == a0 && (128 : Int) == 0) (L0 (B0 (Int.tdiv a0 128)) (xs1 ++ [(IntKind.wrap .u8 (B0 ((Int.tmod a0 128) + 128)))]))))) (gd (decide (xs1.length + [(IntKind.wrap .u8 a0)].length ≤ A2)) (some (B6 (xs1 ++ [(IntKind.wrap .u8 a0)])))))
def Aa7 (k : Nat) : Nat → Int → List Int → Option ByteArray
 | 0, _, _ => none
 | n + 1, a0, xs1 => Ba7 k (Aa7 k n) a0 xs1
def Cd3 (k : Nat) (L0 : Int → List Int → Option ByteArray) (a0 : Int) : Option ByteArray := (L0 a0 [])
def J2 (k : Nat) (a0 : Int) : Option ByteArray := Cd3 k (Aa7 k k) a0
end
def B63 (k : Nat) (a0 : Int) : Option ByteArray := (some (B6 [(IntKind.wrap .u8 (Int.fdiv a0 (2 ^ 24))), (IntKind.wrap .u8 (Int.fdiv a0 (2 ^ 16))), (IntKind.wrap .u8 (Int.fdiv a0 (2 ^ 8))), (IntKind.wrap .u8 a0)]))
noncomputable section
def Al6 (k : Nat) (L1 : Int → ByteArray → Int → Int → Option Int) (a0 : Int) (a1 : ByteArray) (v1 : Int) : Option Int := (br (decide (v1 < (a1.size : Int))) (gd (decide (0 ≤ v1)) (gd (decide (v1 < (a1.size : Int))) (L1 (Fv1 .u32 a0 (IntKind.wrap .u32 (bt a1 v1.toNat))) a1 v1 0))) (some a0))
def Al7 (k : Nat) (L1 : Int → ByteArray → Int → Int → Option Int) (L0 : Int → ByteArray → Int → Option Int) (v2 : Int) (a1 : ByteArray) (v1 : Int) (v3 : Int) : Option Int := (br (decide (v3 < 8)) (ng (v2 == v2 && (2 : Int) == 0) (ng (v2 == v2 && (2 : Int) == 0) (br ((Int.tmod v2 2) == 1) (L1 (Fv1 .u32 (IntKind.wrap .u32 (Int.tdiv v2 2)) 3558460437) a1 v1 (B0 (v3 + 1))) (L1 (IntKind.wrap .u32 (Int.tdiv v2 2)) a1 v1 (B0 (v3 + 1)))))) (L0 v2 a1 (B0 (v1 + 1))))
def R8 (k : Nat) : Nat → (Int → ByteArray → Int → Option Int) × (Int → ByteArray → Int → Int → Option Int)
 | 0 => (fun _ _ _ => none, fun _ _ _ _ => none)
 | n + 1 => (Al6 k (R8 k n).2, Al7 k (R8 k n).2 (R8 k n).1)
def m9 (k : Nat) (n : Nat) : Int → ByteArray → Int → Option Int := (R8 k n).1
def Al8 (k : Nat) (n : Nat) : Int → ByteArray → Int → Int → Option Int := (R8 k n).2
theorem D82 (k : Nat) (n : Nat) (a0 : Int) (a1 : ByteArray) (v1 : Int) : m9 k (n + 1) a0 a1 v1 = Al6 k (Al8 k n) a0 a1 v1 := rfl
theorem D83 (k : Nat) (n : Nat) (v2 : Int) (a1 : ByteArray) (v1 : Int) (v3 : Int) : Al8 k (n + 1) v2 a1 v1 v3 = Al7 k (Al8 k n) (m9 k n) v2 a1 v1 v3 := rfl
def Cw4 (k : Nat) (L0 : Int → ByteArray → Int → Option Int) (a0 : Int) (a1 : ByteArray) : Option Int := (L0 a0 a1 0)
def B64 (k : Nat) (a0 : Int) (a1 : ByteArray) : Option Int := Cw4 k (m9 k k) a0 a1
end
def Bm7 (k : Nat) (a0 : ByteArray) : Option Int := (bd (B64 k 4294967295 a0) fun r1 => (some r1))
def T4 (k : Nat) (a0 : ByteArray) : Option (ByteArray × Bool) := (bd (E9 k (a0.size : Int) 1 9000) fun r1 => (br (!r1) (some ((⟨#[]⟩ : ByteArray), false)) (bd (J2 k (a0.size : Int)) fun r2 => (bd (Bm7 k a0) fun r3 => (bd (B63 k r3) fun r4 => (gd (decide (r2.size + r4.size ≤ A2)) (gd (decide ((r2 ++ r4).size + a0.size ≤ A2)) (some (((r2 ++ r4) ++ a0), true)))))))))
noncomputable section
def Al9 (k : Nat) (L0 : ByteArray → Int → Int → Int → Int → Option (Int × Int × Bool)) (a0 : ByteArray) (a1 : Int) (v1 : Int) (v2 : Int) (v3 : Int) : Option (Int × Int × Bool) := (br (decide (v3 < (a0.size : Int))) (br (decide (v3 < (B0 (a1 + 5)))) (gd (decide (0 ≤ v3)) (gd (decide (v3 < (a0.size : Int))) (ng ((B0 (bt a0 v3.toNat)) == (B0 (bt a0 v3.toNat)) && (128 : Int) == 0) (gd (decide (0 ≤ v3)) (gd (decide (v3 < (a0.size : Int))) (br (decide ((bt a0 v3.toNat) < 128)) (br (decide ((B0 (v1 + (B0 ((Int.tmod (B0 (bt a0 v3.toNat)) 128) * v2)))) > 1000000000)) (some (0, 0, false)) (bd (J2 k (B0 (v1 + (B0 ((Int.tmod (B0 (bt a0 v3.toNat)) 128) * v2))))) fun r2 => (gd (decide (0 ≤ (B0 (v3 + 1)))) (gd (decide ((B0 (v3 + 1)) ≤ (a0.size : Int))) (gd (decide (0 ≤ a1)) (gd (decide (a1 ≤ (B0 (v3 + 1)))) (br (!(r2.toList == (a0.extract a1.toNat (B0 (v3 + 1)).toNat).toList)) (some (0, 0, false)) (some ((B0 (v1 + (B0 ((Int.tmod (B0 (bt a0 v3.toNat)) 128) * v2)))), (B0 (v3 + 1)), true))))))))) (L0 a0 a1 (B0 (v1 + (B0 ((Int.tmod (B0 (bt a0 v3.toNat)) 128) * v2)))) (B0 (v2 * 128)) (B0 (v3 + 1))))))))) (some (0, 0, false))) (some (0, 0, false)))
def R9 (k : Nat) : Nat → ByteArray → Int → Int → Int → Int → Option (Int × Int × Bool)
 | 0, _, _, _, _, _ => none
 | n + 1, a0, a1, v1, v2, v3 => Al9 k (R9 k n) a0 a1 v1 v2 v3
def Bx2 (k : Nat) (L0 : ByteArray → Int → Int → Int → Int → Option (Int × Int × Bool)) (a0 : ByteArray) (a1 : Int) : Option (Int × Int × Bool) := (bd (E9 k a1 0 (a0.size : Int)) fun r1 => (br (!r1) (some (0, 0, false)) (L0 a0 a1 0 1 a1)))
def u0 (k : Nat) (a0 : ByteArray) (a1 : Int) : Option (Int × Int × Bool) := Bx2 k (R9 k k) a0 a1
end
noncomputable section
def Bm8 (k : Nat) (L0 : ByteArray → Int → List ByteArray → Option (List ByteArray × Int)) (a0 : ByteArray) (v1 : Int) (xs2 : List ByteArray) : Option (List ByteArray × Int) := (br (decide (v1 < (a0.size : Int))) (bd (u0 k a0 v1) fun r1 => (br (!r1.2.2) (some (xs2, v1)) (br (decide (r1.1 > (B0 ((B0 ((a0.size : Int) - r1.2.1)) - 4)))) (some (xs2, v1)) (gd (decide (0 ≤ (B0 ((B0 (r1.2.1 + 4)) + r1.1)))) (gd (decide ((B0 ((B0 (r1.2.1 + 4)) + r1.1)) ≤ (a0.size : Int))) (gd (decide (0 ≤ (B0 (r1.2.1 + 4)))) (gd (decide ((B0 (r1.2.1 + 4)) ≤ (B0 ((B0 (r1.2.1 + 4)) + r1.1)))) (bd (T4 k (a0.extract (B0 (r1.2.1 + 4)).toNat (B0 ((B0 (r1.2.1 + 4)) + r1.1)).toNat)) fun r2 => (br (!r2.2) (some (xs2, v1)) (gd (decide (0 ≤ (B0 ((B0 (r1.2.1 + 4)) + r1.1)))) (gd (decide ((B0 ((B0 (r1.2.1 + 4)) + r1.1)) ≤ (a0.size : Int))) (gd (decide (0 ≤ v1)) (gd (decide (v1 ≤ (B0 ((B0 (r1.2.1 + 4)) + r1.1)))) (br (!(r2.1.toList == (a0.extract v1.toNat (B0 ((B0 (r1.2.1 + 4)) + r1.1)).toNat).toList)) (some (xs2, v1)) (gd (decide (xs2.length + [(a0.extract (B0 (r1.2.1 + 4)).toNat (B0 ((B0 (r1.2.1 + 4)) + r1.1)).toNat)].length ≤ A2)) (L0 a0 (B0 ((B0 (r1.2.1 + 4)) + r1.1)) (xs2 ++ [(a0.extract (B0 (r1.2.1 + 4)).toNat (B0 ((B0 (r1.2.1 + 4)) + r1.1)).toNat)]))))))))))))))))) (some (xs2, v1)))
def n4 (k : Nat) : Nat → ByteArray → Int → List ByteArray → Option (List ByteArray × Int)
 | 0, _, _, _ => none
 | n + 1, a0, v1, xs2 => Bm8 k (n4 k n) a0 v1 xs2
def Cw5 (k : Nat) (L0 : ByteArray → Int → List ByteArray → Option (List ByteArray × Int)) (a0 : ByteArray) : Option (List ByteArray × Int) := (br (decide ((a0.size : Int) > 20000)) (some ([], 0)) (L0 a0 0 []))
def Bh2 (k : Nat) (a0 : ByteArray) : Option (List ByteArray × Int) := Cw5 k (n4 k k) a0
end
def Av3 (k : Nat) (a0 : M9) : Option (Int × M9 × Unit) := (bd (u0 k a0.1 a0.2.1) fun r1 => (br a0.2.2.1 (some (0, (a0.1, a0.2.1, true, ()), ())) (br (!r1.2.2) (some (0, (a0.1, a0.2.1, true, ()), ())) (some (r1.1, (a0.1, r1.2.1, a0.2.2), ())))))
def Ac8 (k : Nat) (a0 : M9) (a1 : Int) : Option (ByteArray × M9 × Unit) := (br a0.2.2.1 (some ((⟨#[]⟩ : ByteArray), (a0.1, a0.2.1, true, ()), ())) (br (decide (a1 > (B0 ((a0.1.size : Int) - a0.2.1)))) (some ((⟨#[]⟩ : ByteArray), (a0.1, a0.2.1, true, ()), ())) (gd (decide (0 ≤ (B0 (a0.2.1 + a1)))) (gd (decide ((B0 (a0.2.1 + a1)) ≤ (a0.1.size : Int))) (gd (decide (0 ≤ (B0 ((B0 (a0.2.1 + a1)) - a1)))) (gd (decide ((B0 ((B0 (a0.2.1 + a1)) - a1)) ≤ (B0 (a0.2.1 + a1)))) (some ((a0.1.extract (B0 ((B0 (a0.2.1 + a1)) - a1)).toNat (B0 (a0.2.1 + a1)).toNat), (a0.1, (B0 (a0.2.1 + a1)), a0.2.2), ()))))))))
def Av4 (k : Nat) (a0 : ByteArray) (a1 : ByteArray) : Option (Int × Int × Bool) := (bd (Ac8 k (a0, 0, false, ()) 1) fun r1 => (bd (Av3 k r1.2.1) fun r2 => (bd (Av3 k r2.2.1) fun r3 => (br r3.2.1.2.2.1 (some (0, 0, false)) (bd (J2 k r2.1) fun r4 => (gd (decide (a1.size + r4.size ≤ A2)) (bd (J2 k r3.1) fun r5 => (gd (decide ((a1 ++ r4).size + r5.size ≤ A2)) (br (!(((a1 ++ r4) ++ r5).toList == a0.toList)) (some (0, 0, false)) (some (r2.1, r3.1, true)))))))))))
noncomputable section
def A18 (k : Nat) (L0 : List Int → Int → Int → Int → Option Bool) (a0 : List Int) (a1 : Int) (a2 : Int) (v1 : Int) : Option Bool := (br (decide (v1 < (a0.length : Int))) (gd (decide (0 ≤ v1)) (gd (decide (v1 < (a0.length : Int))) (bd (E9 k (rd 0 a0 v1.toNat) a1 a2) fun r1 => (br (!r1) (some false) (br (decide (v1 > 0)) (gd (decide (0 ≤ (B0 (v1 - 1)))) (gd (decide ((B0 (v1 - 1)) < (a0.length : Int))) (gd (decide (0 ≤ v1)) (gd (decide (v1 < (a0.length : Int))) (br (decide ((rd 0 a0 (B0 (v1 - 1)).toNat) ≥ (rd 0 a0 v1.toNat))) (some false) (L0 a0 a1 a2 (B0 (v1 + 1)))))))) (L0 a0 a1 a2 (B0 (v1 + 1)))))))) (some true))
def Y5 (k : Nat) : Nat → List Int → Int → Int → Int → Option Bool
 | 0, _, _, _, _ => none
 | n + 1, a0, a1, a2, v1 => A18 k (Y5 k n) a0 a1 a2 v1
def Cw6 (k : Nat) (L0 : List Int → Int → Int → Int → Option Bool) (a0 : List Int) (a1 : Int) (a2 : Int) : Option Bool := (L0 a0 a1 a2 0)
def B65 (k : Nat) (a0 : List Int) (a1 : Int) (a2 : Int) : Option Bool := Cw6 k (Y5 k k) a0 a1 a2
end
def Av5 (k : Nat) (a0 : List Int) : Option Bool := (bd (E9 k (a0.length : Int) 1 4) fun r1 => (br r1 (bd (B65 k a0 1 4) fun r2 => (some r2)) (some false)))
noncomputable section
def Bc7 (k : Nat) (L0 : ByteArray → Int → List Int → Option (List Int × Bool)) (a0 : ByteArray) (v1 : Int) (xs2 : List Int) : Option (List Int × Bool) := (br (decide (v1 < (a0.size : Int))) (br (decide (v1 ≤ 4)) (gd (decide (0 ≤ v1)) (gd (decide (v1 < (a0.size : Int))) (gd (decide (xs2.length + [(B0 (bt a0 v1.toNat))].length ≤ A2)) (L0 a0 (B0 (v1 + 1)) (xs2 ++ [(B0 (bt a0 v1.toNat))]))))) (br ((xs2.length : Int) != (a0.size : Int)) (some ([], false)) (bd (Av5 k xs2) fun r1 => (br (!r1) (some ([], false)) (some (xs2, true)))))) (br ((xs2.length : Int) != (a0.size : Int)) (some ([], false)) (bd (Av5 k xs2) fun r2 => (br (!r2) (some ([], false)) (some (xs2, true))))))
def Z1 (k : Nat) : Nat → ByteArray → Int → List Int → Option (List Int × Bool)
 | 0, _, _, _ => none
 | n + 1, a0, v1, xs2 => Bc7 k (Z1 k n) a0 v1 xs2
def Ch9 (k : Nat) (L0 : ByteArray → Int → List Int → Option (List Int × Bool)) (a0 : ByteArray) : Option (List Int × Bool) := (L0 a0 0 [])
def A60 (k : Nat) (a0 : ByteArray) : Option (List Int × Bool) := Ch9 k (Z1 k k) a0
end
def A43 (k : Nat) (a0 : B2) : Option Bool := (bd (E9 k a0.1 0 100000) fun r1 => (br (!r1) (some false) (br (a0.2.1 == 1) (some (a0.2.2.1.toList == (⟨#[]⟩ : ByteArray).toList)) (br (a0.2.1 == 2) (bd (A60 k a0.2.2.1) fun r2 => (some r2.2)) (br (a0.2.1 == 3) (some (decide ((a0.2.2.1.size : Int) ≤ 120))) (some false))))))
noncomputable section
def Bm9 (k : Nat) (L0 : Int → Int → B7 → Option Bool) (v1 : Int) (v2 : Int) (a0 : B7) : Option Bool := (br (decide (v2 < (a0.2.2.1.length : Int))) (gd (decide (0 ≤ v2)) (gd (decide (v2 < (a0.2.2.1.length : Int))) (bd (A43 k (rd A8 a0.2.2.1 v2.toNat)) fun r3 => (br (!r3) (some false) (gd (decide (0 ≤ v2)) (gd (decide (v2 < (a0.2.2.1.length : Int))) (br (decide ((rd A8 a0.2.2.1 v2.toNat).1 < v1)) (some false) (gd (decide (0 ≤ v2)) (gd (decide (v2 < (a0.2.2.1.length : Int))) (L0 (rd A8 a0.2.2.1 v2.toNat).1 (B0 (v2 + 1)) a0)))))))))) (some true))
def Aa8 (k : Nat) : Nat → Int → Int → B7 → Option Bool
 | 0, _, _, _ => none
 | n + 1, v1, v2, a0 => Bm9 k (Aa8 k n) v1 v2 a0
def D14 (k : Nat) (L0 : Int → Int → B7 → Option Bool) (a0 : B7) : Option Bool := (bd (E9 k a0.1 0 1000000) fun r1 => (br (!r1) (some false) (bd (E9 k a0.2.1 0 100000) fun r2 => (br (!r2) (some false) (br (decide ((a0.2.2.1.length : Int) > 60)) (some false) (br (decide ((B0 (a0.1 + (a0.2.2.1.length : Int))) > 1000000)) (some false) (L0 a0.2.1 0 a0)))))))
def A19 (k : Nat) (a0 : B7) : Option Bool := D14 k (Aa8 k k) a0
end
def j7 (k : Nat) (a0 : Int) (a1 : B2) : Option (ByteArray × Bool) := (bd (A43 k a1) fun r1 => (br (!r1) (some ((⟨#[]⟩ : ByteArray), false)) (bd (E9 k a0 1 1000000) fun r2 => (br (!r2) (some ((⟨#[]⟩ : ByteArray), false)) (bd (J2 k a0) fun r3 => (gd (decide ((⟨#[69]⟩ : ByteArray).size + r3.size ≤ A2)) (bd (J2 k a1.1) fun r4 => (gd (decide (((⟨#[69]⟩ : ByteArray) ++ r3).size + r4.size ≤ A2)) (gd (decide ((((⟨#[69]⟩ : ByteArray) ++ r3) ++ r4).size + (B6 [(IntKind.wrap .u8 a1.2.1)]).size ≤ A2)) (gd (decide (((((⟨#[69]⟩ : ByteArray) ++ r3) ++ r4) ++ (B6 [(IntKind.wrap .u8 a1.2.1)])).size + a1.2.2.1.size ≤ A2)) (some ((((((⟨#[69]⟩ : ByteArray) ++ r3) ++ r4) ++ (B6 [(IntKind.wrap .u8 a1.2.1)])) ++ a1.2.2.1), true))))))))))))
def Av6 (k : Nat) (a0 : ByteArray) : Option (Int × B2 × Bool) := (bd (Ac8 k (a0, 0, false, ()) 1) fun r1 => (bd (Av3 k r1.2.1) fun r2 => (bd (Av3 k r2.2.1) fun r3 => (bd (Ac8 k r3.2.1 1) fun r4 => (br r4.2.1.2.2.1 (some (0, (0, 0, ByteArray.empty, ()), false)) (gd (decide (0 < (r4.1.size : Int))) (gd (decide (0 ≤ r4.2.1.2.1)) (gd (decide (r4.2.1.2.1 ≤ (a0.size : Int))) (bd (j7 k r2.1 (r3.1, (B0 (bt r4.1 0)), (a0.extract r4.2.1.2.1.toNat a0.size), ())) fun r5 => (br (!r5.2) (some (0, (0, 0, ByteArray.empty, ()), false)) (br (!(r5.1.toList == a0.toList)) (some (0, (0, 0, ByteArray.empty, ()), false)) (some (r2.1, (r3.1, (B0 (bt r4.1 0)), (a0.extract r4.2.1.2.1.toNat a0.size), ()), true)))))))))))))
def Ac9 (k : Nat) (a0 : B7) : Option Int := (some (B0 (a0.1 + (a0.2.2.1.length : Int))))
def Bx3 (k : Nat) (a0 : B7) (a1 : Int) (a2 : B2) : Option (B7 × Bool) := (bd (A19 k a0) fun r1 => (br (!r1) (some ((0, 0, [], ()), false)) (bd (Ac9 k a0) fun r2 => (bd (E9 k a1 (B0 (a0.1 + 1)) (B0 (r2 + 1))) fun r3 => (br (!r3) (some ((0, 0, [], ()), false)) (gd (decide (0 ≤ (B0 ((B0 (a1 - a0.1)) - 1)))) (gd (decide ((B0 ((B0 (a1 - a0.1)) - 1)) ≤ (a0.2.2.1.length : Int))) (gd (decide (([] : List B2).length + (a0.2.2.1.take (B0 ((B0 (a1 - a0.1)) - 1)).toNat).length ≤ A2)) (gd (decide ((([] : List B2) ++ (a0.2.2.1.take (B0 ((B0 (a1 - a0.1)) - 1)).toNat)).length + ([a2] : List B2).length ≤ A2)) (bd (A19 k (a0.1, a0.2.1, ((([] : List B2) ++ (a0.2.2.1.take (B0 ((B0 (a1 - a0.1)) - 1)).toNat)) ++ ([a2] : List B2)), ())) fun r4 => (br (!r4) (some ((0, 0, [], ()), false)) (some ((a0.1, a0.2.1, ((([] : List B2) ++ (a0.2.2.1.take (B0 ((B0 (a1 - a0.1)) - 1)).toNat)) ++ ([a2] : List B2)), ()), true)))))))))))))
def Ad0 (k : Nat) (a0 : A0) (a1 : ByteArray) : Option (Bool × A0 × Unit) := (bd (Av4 k a1 (⟨#[72]⟩ : ByteArray)) fun r1 => (br r1.2.2 (bd (E9 k r1.1 0 100000) fun r2 => (br (!r2) (some (false, a0, ())) (bd (E9 k r1.2.1 0 4) fun r3 => (br (!r3) (some (false, a0, ())) (some (true, (a0.1, r1.1, r1.2.1, a0.2.2.2), ())))))) (bd (Av6 k a1) fun r4 => (br (!r4.2.2) (some (false, a0, ())) (bd (Bx3 k a0.2.2.2.1 r4.1 r4.2.1) fun r5 => (br r5.2 (some (r5.2, (a0.1, a0.2.1, a0.2.2.1, r5.1, ()), ())) (some (r5.2, a0, ()))))))))
noncomputable section
def Ar5 (k : Nat) (L1 : Int → Int → (List ByteArray × Int) → Int → Int → Int → Int → Int → List B2 → Option (A0 × Int × Bool)) (v3 : Int) (v4 : Int) (r1 : List ByteArray × Int) (v5 : Int) (v6 : Int) (v7 : Int) (v8 : Int) (v9 : Int) (v10 : List B2) : Option (A0 × Int × Bool) := (br (decide (v4 < (r1.1.length : Int))) (br (decide (v4 > 0)) (gd (decide (0 ≤ v4)) (gd (decide (v4 < (r1.1.length : Int))) (bd (Ad0 k (v5, v6, v7, (v8, v9, v10, ()), ()) (rd ByteArray.empty r1.1 v4.toNat)) fun r7 => (br (!r7.1) (some (r7.2.1, v3, true)) (gd (decide (0 ≤ v4)) (gd (decide (v4 < (r1.1.length : Int))) (bd (T4 k (rd ByteArray.empty r1.1 v4.toNat)) fun r8 => (L1 (B0 (v3 + (r8.1.size : Int))) (B0 (v4 + 1)) r1 r7.2.1.1 r7.2.1.2.1 r7.2.1.2.2.1 r7.2.1.2.2.2.1.1 r7.2.1.2.2.2.1.2.1 r7.2.1.2.2.2.1.2.2.1)))))))) (gd (decide (0 ≤ v4)) (gd (decide (v4 < (r1.1.length : Int))) (bd (T4 k (rd ByteArray.empty r1.1 v4.toNat)) fun r9 => (L1 (B0 (v3 + (r9.1.size : Int))) (B0 (v4 + 1)) r1 v5 v6 v7 v8 v9 v10))))) (some ((v5, v6, v7, (v8, v9, v10, ()), ()), v3, true)))
def Ad1 (k : Nat) (L1 : Int → Int → (List ByteArray × Int) → Int → Int → Int → Int → Int → List B2 → Option (A0 × Int × Bool)) (L0 : Int → Int → (List ByteArray × Int) → Int → (Int × Int × Bool) → Option (A0 × Int × Bool)) (v1 : Int) (v2 : Int) (r1 : List ByteArray × Int) (a0 : Int) (r3 : Int × Int × Bool) : Option (A0 × Int × Bool) := (br (decide (v2 < (r1.1.length : Int))) (br (decide (v2 > 0)) (gd (decide (0 ≤ v2)) (gd (decide (v2 < (r1.1.length : Int))) (bd (Ad0 k (a0, 0, 0, (r3.1, r3.2.1, [], ()), ()) (rd ByteArray.empty r1.1 v2.toNat)) fun r5 => (br (!r5.1) (some (r5.2.1, v1, true)) (gd (decide (0 ≤ v2)) (gd (decide (v2 < (r1.1.length : Int))) (bd (T4 k (rd ByteArray.empty r1.1 v2.toNat)) fun r6 => (L1 (B0 (v1 + (r6.1.size : Int))) (B0 (v2 + 1)) r1 r5.2.1.1 r5.2.1.2.1 r5.2.1.2.2.1 r5.2.1.2.2.2.1.1 r5.2.1.2.2.2.1.2.1 r5.2.1.2.2.2.1.2.2.1)))))))) (gd (decide (0 ≤ v2)) (gd (decide (v2 < (r1.1.length : Int))) (bd (T4 k (rd ByteArray.empty r1.1 v2.toNat)) fun r10 => (L0 (B0 (v1 + (r10.1.size : Int))) (B0 (v2 + 1)) r1 a0 r3))))) (some ((a0, 0, 0, (r3.1, r3.2.1, [], ()), ()), v1, true)))
def W0 (k : Nat) : Nat → Int → Int → (List ByteArray × Int) → Int → Int → Int → Int → Int → List B2 → Option (A0 × Int × Bool)
 | 0, _, _, _, _, _, _, _, _, _ => none
 | n + 1, v3, v4, r1, v5, v6, v7, v8, v9, v10 => Ar5 k (W0 k n) v3 v4 r1 v5 v6 v7 v8 v9 v10
def J8 (k : Nat) : Nat → Int → Int → (List ByteArray × Int) → Int → (Int × Int × Bool) → Option (A0 × Int × Bool)
 | 0, _, _, _, _, _ => none
 | n + 1, v1, v2, r1, a0, r3 => Ad1 k (W0 k n) (J8 k n) v1 v2 r1 a0 r3
def Bs1 (k : Nat) (L0 : Int → Int → (List ByteArray × Int) → Int → (Int × Int × Bool) → Option (A0 × Int × Bool)) (a0 : Int) (a1 : ByteArray) : Option (A0 × Int × Bool) := (bd (Bh2 k a1) fun r1 => (bd (E9 k a0 0 999) fun r2 => (br (!r2) (some ((0, 0, 0, (0, 0, [], ()), ()), 0, false)) (br ((r1.1.length : Int) == 0) (some ((0, 0, 0, (0, 0, [], ()), ()), 0, false)) (gd (decide (0 < (r1.1.length : Int))) (bd (Av4 k (rd ByteArray.empty r1.1 0) (⟨#[66]⟩ : ByteArray)) fun r3 => (br (!r3.2.2) (some ((0, 0, 0, (0, 0, [], ()), ()), 0, false)) (bd (A19 k (r3.1, r3.2.1, [], ())) fun r4 => (br (!r4) (some ((0, 0, 0, (0, 0, [], ()), ()), 0, false)) (L0 0 0 r1 a0 r3))))))))))
def u2 (k : Nat) (a0 : Int) (a1 : ByteArray) : Option (A0 × Int × Bool) := Bs1 k (J8 k k) a0 a1
end
def T5 (k : Nat) (a0 : ByteArray) : Option Bool := (bd (E9 k (a0.size : Int) 1 8) fun r1 => (some r1))
noncomputable section
def Ba8 (k : Nat) (L0 : Int → B4 → Option Bool) (v1 : Int) (a0 : B4) : Option Bool := (br (decide (v1 < (a0.1.length : Int))) (gd (decide (0 ≤ v1)) (gd (decide (v1 < (a0.1.length : Int))) (bd (T5 k (rd A3 a0.1 v1.toNat).1) fun r1 => (br (!r1) (some false) (br (decide ((((rd A3 a0.1 v1.toNat).2.1.size : Nat) : Int) > 20000)) (some false) (bd (E9 k (rd A3 a0.1 v1.toNat).2.2.1 0 (((rd A3 a0.1 v1.toNat).2.1.size : Nat) : Int)) fun r2 => (br (!r2) (some false) (br (decide (v1 > 0)) (gd (decide (0 ≤ (B0 (v1 - 1)))) (gd (decide ((B0 (v1 - 1)) < (a0.1.length : Int))) (br (!Op.bytesLess (rd A3 a0.1 (B0 (v1 - 1)).toNat).1.toList (rd A3 a0.1 v1.toNat).1.toList) (some false) (L0 (B0 (v1 + 1)) a0)))) (L0 (B0 (v1 + 1)) a0))))))))) (some true))
def j8 (k : Nat) : Nat → Int → B4 → Option Bool
 | 0, _, _ => none
 | n + 1, v1, a0 => Ba8 k (j8 k n) v1 a0
def De9 (k : Nat) (L0 : Int → B4 → Option Bool) (a0 : B4) : Option Bool := (br (decide ((a0.1.length : Int) > 30)) (some false) (L0 0 a0))
def G0 (k : Nat) (a0 : B4) : Option Bool := De9 k (j8 k k) a0
end
def Aa9 (k : Nat) (a0 : A0) : Option Bool := (bd (E9 k a0.1 0 999) fun r1 => (br r1 (bd (E9 k a0.2.1 0 100000) fun r2 => (br r2 (bd (E9 k a0.2.2.1 0 4) fun r3 => (br r3 (bd (A19 k a0.2.2.2.1) fun r4 => (some r4)) (some false))) (some false))) (some false)))
noncomputable section
def A20 (k : Nat) (L0 : Int → B7 → B7 → Option Bool) (v1 : Int) (a0 : B7) (a1 : B7) : Option Bool := (br (decide (v1 < (a0.2.2.1.length : Int))) (gd (decide (0 ≤ v1)) (gd (decide (v1 < (a0.2.2.1.length : Int))) (gd (decide (0 ≤ v1)) (gd (decide (v1 < (a1.2.2.1.length : Int))) (br (!((rd A8 a0.2.2.1 v1.toNat).1 == (rd A8 a1.2.2.1 v1.toNat).1 && ((rd A8 a0.2.2.1 v1.toNat).2.1 == (rd A8 a1.2.2.1 v1.toNat).2.1 && ((rd A8 a0.2.2.1 v1.toNat).2.2.1.toList == (rd A8 a1.2.2.1 v1.toNat).2.2.1.toList && true)))) (some false) (L0 (B0 (v1 + 1)) a0 a1)))))) (some true))
def n5 (k : Nat) : Nat → Int → B7 → B7 → Option Bool
 | 0, _, _, _ => none
 | n + 1, v1, a0, a1 => A20 k (n5 k n) v1 a0 a1
def Cw7 (k : Nat) (L0 : Int → B7 → B7 → Option Bool) (a0 : B7) (a1 : B7) : Option Bool := (br (a0.1 != a1.1) (some false) (br (a0.2.1 != a1.2.1) (some false) (br ((a0.2.2.1.length : Int) != (a1.2.2.1.length : Int)) (some false) (L0 0 a0 a1))))
def Bh3 (k : Nat) (a0 : B7) (a1 : B7) : Option Bool := Cw7 k (n5 k k) a0 a1
end
def A44 (k : Nat) (a0 : A0) (a1 : A0) : Option Bool := (br (a0.1 == a1.1) (br (a0.2.1 == a1.2.1) (br (a0.2.2.1 == a1.2.2.1) (bd (Bh3 k a0.2.2.2.1 a1.2.2.2.1) fun r1 => (some r1)) (some false)) (some false)) (some false))
def Aj5 (k : Nat) (a0 : A0) : Option A0 := (gd (decide (([] : List B2).length + a0.2.2.2.1.2.2.1.length ≤ A2)) (some (a0.1, a0.2.1, a0.2.2.1, (a0.2.2.2.1.1, a0.2.2.2.1.2.1, (([] : List B2) ++ a0.2.2.2.1.2.2.1), ()), ())))
def M2 (k : Nat) (a0 : Int) (a1 : Int) : Option ByteArray := (bd (J2 k a0) fun r1 => (gd (decide ((⟨#[72]⟩ : ByteArray).size + r1.size ≤ A2)) (bd (J2 k a1) fun r2 => (gd (decide (((⟨#[72]⟩ : ByteArray) ++ r1).size + r2.size ≤ A2)) (bd (T4 k (((⟨#[72]⟩ : ByteArray) ++ r1) ++ r2)) fun r3 => (some r3.1))))))
noncomputable section
def Am0 (k : Nat) (L0 : Int → B7 → List Int → Option ByteArray) (a1 : Int) (a0 : B7) (xs1 : List Int) : Option ByteArray := (br (decide (a1 < (a0.2.2.1.length : Int))) (gd (decide (0 ≤ a1)) (gd (decide (a1 < (a0.2.2.1.length : Int))) (bd (j7 k (B0 ((B0 (a0.1 + 1)) + a1)) (rd A8 a0.2.2.1 a1.toNat)) fun r1 => (bd (T4 k r1.1) fun r2 => (gd (decide (xs1.length + (D5 r2.1).length ≤ A2)) (L0 (B0 (a1 + 1)) a0 (xs1 ++ (D5 r2.1)))))))) (some (B6 xs1)))
def W5 (k : Nat) : Nat → Int → B7 → List Int → Option ByteArray
 | 0, _, _, _ => none
 | n + 1, a1, a0, xs1 => Am0 k (W5 k n) a1 a0 xs1
def Ca0 (k : Nat) (L0 : Int → B7 → List Int → Option ByteArray) (a0 : B7) (a1 : Int) : Option ByteArray := (L0 a1 a0 [])
def F8 (k : Nat) (a0 : B7) (a1 : Int) : Option ByteArray := Ca0 k (W5 k k) a0 a1
end
def u3 (k : Nat) (a0 : A0) : Option (ByteArray × Bool) := (bd (Aa9 k a0) fun r1 => (br (!r1) (some ((⟨#[]⟩ : ByteArray), false)) (bd (J2 k a0.2.2.2.1.1) fun r2 => (gd (decide ((⟨#[66]⟩ : ByteArray).size + r2.size ≤ A2)) (bd (J2 k a0.2.2.2.1.2.1) fun r3 => (gd (decide (((⟨#[66]⟩ : ByteArray) ++ r2).size + r3.size ≤ A2)) (bd (T4 k (((⟨#[66]⟩ : ByteArray) ++ r2) ++ r3)) fun r4 => (bd (M2 k a0.2.1 a0.2.2.1) fun r5 => (gd (decide (r4.1.size + r5.size ≤ A2)) (bd (F8 k a0.2.2.2.1 0) fun r6 => (gd (decide ((r4.1 ++ r5).size + r6.size ≤ A2)) (br (decide (((((r4.1 ++ r5) ++ r6).size : Nat) : Int) > 20000)) (some ((⟨#[]⟩ : ByteArray), false)) (some (((r4.1 ++ r5) ++ r6), true))))))))))))))
def H4 (k : Nat) (a0 : A0) (a1 : A0) : Option (List F2 × A0 × Bool) := (bd (u3 k ((B0 (a0.1 + 1)), a1.2)) fun r1 => (br (!r1.2) (some (([] : List F2), (0, 0, 0, (0, 0, [], ()), ()), false)) (bd (V3 k (B0 (a0.1 + 1))) fun r2 => (bd (V3 k a0.1) fun r3 => (bd (Aj5 k ((B0 (a0.1 + 1)), a1.2)) fun r4 => (some (([(1, (⟨#[106, 43]⟩ : ByteArray), r1.1, ByteArray.empty, ()), (2, (⟨#[106, 43]⟩ : ByteArray), ByteArray.empty, ByteArray.empty, ()), (3, (⟨#[106, 43]⟩ : ByteArray), ByteArray.empty, r2, ()), (4, r3, ByteArray.empty, ByteArray.empty, ())] : List F2), r4, true)))))))
noncomputable section
def Ar6 (k : Nat) (L0 : ByteArray → (ByteArray × Bool) → Int → A0 → A0 → A0 → Option (List F2 × A0 × Bool)) (r1 : ByteArray) (r2 : ByteArray × Bool) (v1 : Int) (a1 : A0) (a2 : A0) (r10 : A0) : Option (List F2 × A0 × Bool) := (br (decide (v1 < (a1.2.2.2.1.2.2.1.length : Int))) (br (decide (v1 < (a2.2.2.2.1.2.2.1.length : Int))) (gd (decide (0 ≤ v1)) (gd (decide (v1 < (a1.2.2.2.1.2.2.1.length : Int))) (gd (decide (0 ≤ v1)) (gd (decide (v1 < (a2.2.2.2.1.2.2.1.length : Int))) (br ((rd A8 a1.2.2.2.1.2.2.1 v1.toNat).1 == (rd A8 a2.2.2.2.1.2.2.1 v1.toNat).1 && ((rd A8 a1.2.2.2.1.2.2.1 v1.toNat).2.1 == (rd A8 a2.2.2.2.1.2.2.1 v1.toNat).2.1 && ((rd A8 a1.2.2.2.1.2.2.1 v1.toNat).2.2.1.toList == (rd A8 a2.2.2.2.1.2.2.1 v1.toNat).2.2.1.toList && true))) (L0 r1 r2 (B0 (v1 + 1)) a1 a2 r10) (br (v1 == (a2.2.2.2.1.2.2.1.length : Int)) (br (a1.2.2.2.1.1 != a2.2.2.2.1.1) (bd (H4 k a1 a2) fun r12 => (some (r12.1, r12.2.1, r12.2.2))) (br (a1.2.2.2.1.2.1 != a2.2.2.2.1.2.1) (bd (H4 k a1 a2) fun r13 => (some (r13.1, r13.2.1, r13.2.2))) (br (decide (v1 < (a1.2.2.2.1.2.2.1.length : Int))) (bd (H4 k a1 a2) fun r14 => (some (r14.1, r14.2.1, r14.2.2))) (br (decide ((r2.1.size : Int) > 400)) (bd (H4 k a1 a2) fun r15 => (some (r15.1, r15.2.1, r15.2.2))) (br (a1.2.1 != a2.2.1) (bd (M2 k a2.2.1 a2.2.2.1) fun r16 => (bd (F8 k a2.2.2.2.1 v1) fun r17 => (gd (decide (r16.size + r17.size ≤ A2)) (some (([(1, r1, (r16 ++ r17), ByteArray.empty, ()), (2, r1, ByteArray.empty, ByteArray.empty, ())] : List F2), r10, true))))) (br (a1.2.2.1 != a2.2.2.1) (bd (M2 k a2.2.1 a2.2.2.1) fun r18 => (bd (F8 k a2.2.2.2.1 v1) fun r19 => (gd (decide (r18.size + r19.size ≤ A2)) (some (([(1, r1, (r18 ++ r19), ByteArray.empty, ()), (2, r1, ByteArray.empty, ByteArray.empty, ())] : List F2), r10, true))))) (bd (F8 k a2.2.2.2.1 v1) fun r20 => (gd (decide ((⟨#[]⟩ : ByteArray).size + r20.size ≤ A2)) (some (([(1, r1, ((⟨#[]⟩ : ByteArray) ++ r20), ByteArray.empty, ()), (2, r1, ByteArray.empty, ByteArray.empty, ())] : List F2), r10, true)))))))))) (br (a1.2.2.2.1.1 != a2.2.2.2.1.1) (bd (H4 k a1 a2) fun r21 => (some (r21.1, r21.2.1, r21.2.2))) (br (a1.2.2.2.1.2.1 != a2.2.2.2.1.2.1) (bd (H4 k a1 a2) fun r22 => (some (r22.1, r22.2.1, r22.2.2))) (br (decide ((r2.1.size : Int) > 400)) (bd (H4 k a1 a2) fun r23 => (some (r23.1, r23.2.1, r23.2.2))) (br (a1.2.1 != a2.2.1) (bd (M2 k a2.2.1 a2.2.2.1) fun r24 => (bd (F8 k a2.2.2.2.1 v1) fun r25 => (gd (decide (r24.size + r25.size ≤ A2)) (some (([(1, r1, (r24 ++ r25), ByteArray.empty, ()), (2, r1, ByteArray.empty, ByteArray.empty, ())] : List F2), r10, true))))) (br (a1.2.2.1 != a2.2.2.1) (bd (M2 k a2.2.1 a2.2.2.1) fun r26 => (bd (F8 k a2.2.2.2.1 v1) fun r27 => (gd (decide (r26.size + r27.size ≤ A2)) (some (([(1, r1, (r26 ++ r27), ByteArray.empty, ()), (2, r1, ByteArray.empty, ByteArray.empty, ())] : List F2), r10, true))))) (bd (F8 k a2.2.2.2.1 v1) fun r28 => (gd (decide ((⟨#[]⟩ : ByteArray).size + r28.size ≤ A2)) (some (([(1, r1, ((⟨#[]⟩ : ByteArray) ++ r28), ByteArray.empty, ()), (2, r1, ByteArray.empty, ByteArray.empty, ())] : List F2), r10, true))))))))))))))) (br (v1 == (a2.2.2.2.1.2.2.1.length : Int)) (br (a1.2.2.2.1.1 != a2.2.2.2.1.1) (bd (H4 k a1 a2) fun r29 => (some (r29.1, r29.2.1, r29.2.2))) (br (a1.2.2.2.1.2.1 != a2.2.2.2.1.2.1) (bd (H4 k a1 a2) fun r30 => (some (r30.1, r30.2.1, r30.2.2))) (br (decide (v1 < (a1.2.2.2.1.2.2.1.length : Int))) (bd (H4 k a1 a2) fun r31 => (some (r31.1, r31.2.1, r31.2.2))) (br (decide ((r2.1.size : Int) > 400)) (bd (H4 k a1 a2) fun r32 => (some (r32.1, r32.2.1, r32.2.2))) (br (a1.2.1 != a2.2.1) (bd (M2 k a2.2.1 a2.2.2.1) fun r33 => (bd (F8 k a2.2.2.2.1 v1) fun r34 => (gd (decide (r33.size + r34.size ≤ A2)) (some (([(1, r1, (r33 ++ r34), ByteArray.empty, ()), (2, r1, ByteArray.empty, ByteArray.empty, ())] : List F2), r10, true))))) (br (a1.2.2.1 != a2.2.2.1) (bd (M2 k a2.2.1 a2.2.2.1) fun r35 => (bd (F8 k a2.2.2.2.1 v1) fun r36 => (gd (decide (r35.size + r36.size ≤ A2)) (some (([(1, r1, (r35 ++ r36), ByteArray.empty, ()), (2, r1, ByteArray.empty, ByteArray.empty, ())] : List F2), r10, true))))) (bd (F8 k a2.2.2.2.1 v1) fun r37 => (gd (decide ((⟨#[]⟩ : ByteArray).size + r37.size ≤ A2)) (some (([(1, r1, ((⟨#[]⟩ : ByteArray) ++ r37), ByteArray.empty, ()), (2, r1, ByteArray.empty, ByteArray.empty, ())] : List F2), r10, true)))))))))) (br (a1.2.2.2.1.1 != a2.2.2.2.1.1) (bd (H4 k a1 a2) fun r38 => (some (r38.1, r38.2.1, r38.2.2))) (br (a1.2.2.2.1.2.1 != a2.2.2.2.1.2.1) (bd (H4 k a1 a2) fun r39 => (some (r39.1, r39.2.1, r39.2.2))) (br (decide ((r2.1.size : Int) > 400)) (bd (H4 k a1 a2) fun r40 => (some (r40.1, r40.2.1, r40.2.2))) (br (a1.2.1 != a2.2.1) (bd (M2 k a2.2.1 a2.2.2.1) fun r41 => (bd (F8 k a2.2.2.2.1 v1) fun r42 => (gd (decide (r41.size + r42.size ≤ A2)) (some (([(1, r1, (r41 ++ r42), ByteArray.empty, ()), (2, r1, ByteArray.empty, ByteArray.empty, ())] : List F2), r10, true))))) (br (a1.2.2.1 != a2.2.2.1) (bd (M2 k a2.2.1 a2.2.2.1) fun r43 => (bd (F8 k a2.2.2.2.1 v1) fun r44 => (gd (decide (r43.size + r44.size ≤ A2)) (some (([(1, r1, (r43 ++ r44), ByteArray.empty, ()), (2, r1, ByteArray.empty, ByteArray.empty, ())] : List F2), r10, true))))) (bd (F8 k a2.2.2.2.1 v1) fun r45 => (gd (decide ((⟨#[]⟩ : ByteArray).size + r45.size ≤ A2)) (some (([(1, r1, ((⟨#[]⟩ : ByteArray) ++ r45), ByteArray.empty, ()), (2, r1, ByteArray.empty, ByteArray.empty, ())] : List F2), r10, true))))))))))) (br (v1 == (a2.2.2.2.1.2.2.1.length : Int)) (br (a1.2.2.2.1.1 != a2.2.2.2.1.1) (bd (H4 k a1 a2) fun r46 => (some (r46.1, r46.2.1, r46.2.2))) (br (a1.2.2.2.1.2.1 != a2.2.2.2.1.2.1) (bd (H4 k a1 a2) fun r47 => (some (r47.1, r47.2.1, r47.2.2))) (br (decide (v1 < (a1.2.2.2.1.2.2.1.length : Int))) (bd (H4 k a1 a2) fun r48 => (some (r48.1, r48.2.1, r48.2.2))) (br (decide ((r2.1.size : Int) > 400)) (bd (H4 k a1 a2) fun r49 => (some (r49.1, r49.2.1, r49.2.2))) (br (a1.2.1 != a2.2.1) (bd (M2 k a2.2.1 a2.2.2.1) fun r50 => (bd (F8 k a2.2.2.2.1 v1) fun r51 => (gd (decide (r50.size + r51.size ≤ A2)) (some (([(1, r1, (r50 ++ r51), ByteArray.empty, ()), (2, r1, ByteArray.empty, ByteArray.empty, ())] : List F2), r10, true))))) (br (a1.2.2.1 != a2.2.2.1) (bd (M2 k a2.2.1 a2.2.2.1) fun r52 => (bd (F8 k a2.2.2.2.1 v1) fun r53 => (gd (decide (r52.size + r53.size ≤ A2)) (some (([(1, r1, (r52 ++ r53), ByteArray.empty, ()), (2, r1, ByteArray.empty, ByteArray.empty, ())] : List F2), r10, true))))) (bd (F8 k a2.2.2.2.1 v1) fun r54 => (gd (decide ((⟨#[]⟩ : ByteArray).size + r54.size ≤ A2)) (some (([(1, r1, ((⟨#[]⟩ : ByteArray) ++ r54), ByteArray.empty, ()), (2, r1, ByteArray.empty, ByteArray.empty, ())] : List F2), r10, true)))))))))) (br (a1.2.2.2.1.1 != a2.2.2.2.1.1) (bd (H4 k a1 a2) fun r55 => (some (r55.1, r55.2.1, r55.2.2))) (br (a1.2.2.2.1.2.1 != a2.2.2.2.1.2.1) (bd (H4 k a1 a2) fun r56 => (some (r56.1, r56.2.1, r56.2.2))) (br (decide ((r2.1.size : Int) > 400)) (bd (H4 k a1 a2) fun r57 => (some (r57.1, r57.2.1, r57.2.2))) (br (a1.2.1 != a2.2.1) (bd (M2 k a2.2.1 a2.2.2.1) fun r58 => (bd (F8 k a2.2.2.2.1 v1) fun r59 => (gd (decide (r58.size + r59.size ≤ A2)) (some (([(1, r1, (r58 ++ r59), ByteArray.empty, ()), (2, r1, ByteArray.empty, ByteArray.empty, ())] : List F2), r10, true))))) (br (a1.2.2.1 != a2.2.2.1) (bd (M2 k a2.2.1 a2.2.2.1) fun r60 => (bd (F8 k a2.2.2.2.1 v1) fun r61 => (gd (decide (r60.size + r61.size ≤ A2)) (some (([(1, r1, (r60 ++ r61), ByteArray.empty, ()), (2, r1, ByteArray.empty, ByteArray.empty, ())] : List F2), r10, true))))) (bd (F8 k a2.2.2.2.1 v1) fun r62 => (gd (decide ((⟨#[]⟩ : ByteArray).size + r62.size ≤ A2)) (some (([(1, r1, ((⟨#[]⟩ : ByteArray) ++ r62), ByteArray.empty, ()), (2, r1, ByteArray.empty, ByteArray.empty, ())] : List F2), r10, true)))))))))))
def Q3 (k : Nat) : Nat → ByteArray → (ByteArray × Bool) → Int → A0 → A0 → A0 → Option (List F2 × A0 × Bool)
 | 0, _, _, _, _, _, _ => none
 | n + 1, r1, r2, v1, a1, a2, r10 => Ar6 k (Q3 k n) r1 r2 v1 a1 a2 r10
def Ay7 (k : Nat) (L0 : ByteArray → (ByteArray × Bool) → Int → A0 → A0 → A0 → Option (List F2 × A0 × Bool)) (a0 : B4) (a1 : A0) (a2 : A0) : Option (List F2 × A0 × Bool) := (bd (V3 k a1.1) fun r1 => (bd (Bh1 k a0 r1) fun r2 => (bd (u2 k a1.1 r2.1) fun r3 => (bd (Bh1 k a0 (⟨#[106, 43]⟩ : ByteArray)) fun r4 => (bd (G0 k a0) fun r5 => (br (!r5) (some (([] : List F2), (0, 0, 0, (0, 0, [], ()), ()), false)) (bd (Aa9 k a1) fun r6 => (br (!r6) (some (([] : List F2), (0, 0, 0, (0, 0, [], ()), ()), false)) (bd (Aa9 k (0, a2.2)) fun r7 => (br (!r7) (some (([] : List F2), (0, 0, 0, (0, 0, [], ()), ()), false)) (bd (E9 k a2.1 0 999) fun r8 => (br (!r8) (some (([] : List F2), (0, 0, 0, (0, 0, [], ()), ()), false)) (br (!r2.2) (some (([] : List F2), (0, 0, 0, (0, 0, [], ()), ()), false)) (br (!r3.2.2) (some (([] : List F2), (0, 0, 0, (0, 0, [], ()), ()), false)) (br (r3.2.1 != (r2.1.size : Int)) (some (([] : List F2), (0, 0, 0, (0, 0, [], ()), ()), false)) (bd (A44 k r3.1 a1) fun r9 => (br (!r9) (some (([] : List F2), (0, 0, 0, (0, 0, [], ()), ()), false)) (br r4.2 (some (([] : List F2), (0, 0, 0, (0, 0, [], ()), ()), false)) (bd (Aj5 k (a1.1, a2.2)) fun r10 => (bd (A44 k a1 r10) fun r11 => (br r11 (some (([] : List F2), r10, true)) (L0 r1 r2 0 a1 a2 r10))))))))))))))))))))))
def V4 (k : Nat) (a0 : B4) (a1 : A0) (a2 : A0) : Option (List F2 × A0 × Bool) := Ay7 k (Q3 k k) a0 a1 a2
end
noncomputable section
def Ba9 (k : Nat) (L1 : Int → B4 → C2 → List C2 → Option B4) (v3 : Int) (a0 : B4) (a1 : C2) (xs4 : List C2) : Option B4 := (br (decide (v3 < (a0.1.length : Int))) (gd (decide (0 ≤ v3)) (gd (decide (v3 < (a0.1.length : Int))) (br (!(Op.bytesLess (rd A3 a0.1 v3.toNat).1.toList a1.1.toList || (rd A3 a0.1 v3.toNat).1.toList == a1.1.toList)) (gd (decide (0 ≤ v3)) (gd (decide (v3 < (a0.1.length : Int))) (gd (decide (xs4.length + ([(rd A3 a0.1 v3.toNat)] : List C2).length ≤ A2)) (L1 (B0 (v3 + 1)) a0 a1 (xs4 ++ ([(rd A3 a0.1 v3.toNat)] : List C2)))))) (L1 (B0 (v3 + 1)) a0 a1 xs4)))) (some (xs4, ())))
def Bb0 (k : Nat) (L0 : Int → B4 → C2 → List C2 → Option B4) (L1 : Int → B4 → C2 → List C2 → Option B4) (v1 : Int) (a0 : B4) (a1 : C2) (xs2 : List C2) : Option B4 := (br (decide (v1 < (a0.1.length : Int))) (gd (decide (0 ≤ v1)) (gd (decide (v1 < (a0.1.length : Int))) (br (Op.bytesLess (rd A3 a0.1 v1.toNat).1.toList a1.1.toList) (gd (decide (0 ≤ v1)) (gd (decide (v1 < (a0.1.length : Int))) (gd (decide (xs2.length + ([(rd A3 a0.1 v1.toNat)] : List C2).length ≤ A2)) (L0 (B0 (v1 + 1)) a0 a1 (xs2 ++ ([(rd A3 a0.1 v1.toNat)] : List C2)))))) (L0 (B0 (v1 + 1)) a0 a1 xs2)))) (gd (decide (xs2.length + ([a1] : List C2).length ≤ A2)) (L1 0 a0 a1 (xs2 ++ ([a1] : List C2)))))
def Aj6 (k : Nat) : Nat → Int → B4 → C2 → List C2 → Option B4
 | 0, _, _, _, _ => none
 | n + 1, v3, a0, a1, xs4 => Ba9 k (Aj6 k n) v3 a0 a1 xs4
def Ab0 (k : Nat) : Nat → Int → B4 → C2 → List C2 → Option B4
 | 0, _, _, _, _ => none
 | n + 1, v1, a0, a1, xs2 => Bb0 k (Ab0 k n) (Aj6 k n) v1 a0 a1 xs2
def Df0 (k : Nat) (L0 : Int → B4 → C2 → List C2 → Option B4) (a0 : B4) (a1 : C2) : Option B4 := (L0 0 a0 a1 [])
def I6 (k : Nat) (a0 : B4) (a1 : C2) : Option B4 := Df0 k (Ab0 k k) a0 a1
end
noncomputable section
def Ah6 (k : Nat) (L0 : ByteArray → Int → B4 → List C2 → Option B4) (a1 : ByteArray) (v1 : Int) (a0 : B4) (xs2 : List C2) : Option B4 := (br (decide (v1 < (a0.1.length : Int))) (gd (decide (0 ≤ v1)) (gd (decide (v1 < (a0.1.length : Int))) (br (!((rd A3 a0.1 v1.toNat).1.toList == a1.toList)) (gd (decide (0 ≤ v1)) (gd (decide (v1 < (a0.1.length : Int))) (gd (decide (xs2.length + ([(rd A3 a0.1 v1.toNat)] : List C2).length ≤ A2)) (L0 a1 (B0 (v1 + 1)) a0 (xs2 ++ ([(rd A3 a0.1 v1.toNat)] : List C2)))))) (L0 a1 (B0 (v1 + 1)) a0 xs2)))) (some (xs2, ())))
def U0 (k : Nat) : Nat → ByteArray → Int → B4 → List C2 → Option B4
 | 0, _, _, _, _ => none
 | n + 1, a1, v1, a0, xs2 => Ah6 k (U0 k n) a1 v1 a0 xs2
def Bx4 (k : Nat) (L0 : ByteArray → Int → B4 → List C2 → Option B4) (a0 : B4) (a1 : ByteArray) : Option B4 := (L0 a1 0 a0 [])
def G8 (k : Nat) (a0 : B4) (a1 : ByteArray) : Option B4 := Bx4 k (U0 k k) a0 a1
end
def b8 (k : Nat) (a0 : B4) (a1 : F2) : Option (B4 × Bool) := (bd (G0 k a0) fun r1 => (br (!r1) (some (([], ()), false)) (bd (T5 k a1.2.1) fun r2 => (br (!r2) (some (([], ()), false)) (br (a1.1 != 3) (br (!(a1.2.2.2.1.toList == (⟨#[]⟩ : ByteArray).toList)) (some (([], ()), false)) (br (a1.1 != 1) (br (!(a1.2.2.1.toList == (⟨#[]⟩ : ByteArray).toList)) (some (([], ()), false)) (bd (A17 k a0 a1.2.1) fun r3 => (br (decide (r3 ≥ 0)) (gd (decide (0 ≤ r3)) (gd (decide (r3 < (a0.1.length : Int))) (br (a1.1 == 1) (gd (decide ((rd A3 a0.1 r3.toNat).2.1.size + a1.2.2.1.size ≤ A2)) (bd (I6 k a0 ((rd A3 a0.1 r3.toNat).1, ((rd A3 a0.1 r3.toNat).2.1 ++ a1.2.2.1), (rd A3 a0.1 r3.toNat).2.2)) fun r4 => (bd (G0 k r4) fun r5 => (br (!r5) (some (([], ()), false)) (some (r4, true)))))) (br (decide (r3 < 0)) (some (([], ()), false)) (br (a1.1 == 2) (bd (I6 k a0 ((rd A3 a0.1 r3.toNat).1, (rd A3 a0.1 r3.toNat).2.1, (((rd A3 a0.1 r3.toNat).2.1.size : Nat) : Int), ())) fun r6 => (bd (G0 k r6) fun r7 => (br (!r7) (some (([], ()), false)) (some (r6, true))))) (br (a1.1 == 3) (br (decide ((rd A3 a0.1 r3.toNat).2.2.1 < (((rd A3 a0.1 r3.toNat).2.1.size : Nat) : Int))) (some (([], ()), false)) (br (a1.2.2.2.1.toList == a1.2.1.toList) (some (([], ()), false)) (bd (T5 k a1.2.2.2.1) fun r8 => (br (!r8) (some (([], ()), false)) (bd (G8 k a0 a1.2.1) fun r9 => (bd (I6 k r9 (a1.2.2.2.1, (rd A3 a0.1 r3.toNat).2)) fun r10 => (bd (G0 k r10) fun r11 => (br (!r11) (some (([], ()), false)) (some (r10, true)))))))))) (br (a1.1 == 4) (bd (G8 k a0 a1.2.1) fun r12 => (bd (G0 k r12) fun r13 => (br (!r13) (some (([], ()), false)) (some (r12, true))))) (some (([], ()), false))))))))) (br (a1.1 == 1) (gd (decide (ByteArray.empty.size + a1.2.2.1.size ≤ A2)) (bd (I6 k a0 (a1.2.1, (ByteArray.empty ++ a1.2.2.1), 0, ())) fun r14 => (bd (G0 k r14) fun r15 => (br (!r15) (some (([], ()), false)) (some (r14, true)))))) (br (decide (r3 < 0)) (some (([], ()), false)) (br (a1.1 == 2) (bd (I6 k a0 (a1.2.1, ByteArray.empty, (ByteArray.empty.size : Int), ())) fun r16 => (bd (G0 k r16) fun r17 => (br (!r17) (some (([], ()), false)) (some (r16, true))))) (br (a1.1 == 3) (br (decide (0 < (ByteArray.empty.size : Int))) (some (([], ()), false)) (br (a1.2.2.2.1.toList == a1.2.1.toList) (some (([], ()), false)) (bd (T5 k a1.2.2.2.1) fun r18 => (br (!r18) (some (([], ()), false)) (bd (G8 k a0 a1.2.1) fun r19 => (bd (I6 k r19 (a1.2.2.2.1, ByteArray.empty, 0, ())) fun r20 => (bd (G0 k r20) fun r21 => (br (!r21) (some (([], ()), false)) (some (r20, true)))))))))) (br (a1.1 == 4) (bd (G8 k a0 a1.2.1) fun r22 => (bd (G0 k r22) fun r23 => (br (!r23) (some (([], ()), false)) (some (r22, true))))) (some (([], ()), false)))))))))) (bd (A17 k a0 a1.2.1) fun r24 => (br (decide (r24 ≥ 0)) (gd (decide (0 ≤ r24)) (gd (decide (r24 < (a0.1.length : Int))) (br (a1.1 == 1) (gd (decide ((rd A3 a0.1 r24.toNat).2.1.size + a1.2.2.1.size ≤ A2)) (bd (I6 k a0 ((rd A3 a0.1 r24.toNat).1, ((rd A3 a0.1 r24.toNat).2.1 ++ a1.2.2.1), (rd A3 a0.1 r24.toNat).2.2)) fun r25 => (bd (G0 k r25) fun r26 => (br (!r26) (some (([], ()), false)) (some (r25, true)))))) (br (decide (r24 < 0)) (some (([], ()), false)) (br (a1.1 == 2) (bd (I6 k a0 ((rd A3 a0.1 r24.toNat).1, (rd A3 a0.1 r24.toNat).2.1, (((rd A3 a0.1 r24.toNat).2.1.size : Nat) : Int), ())) fun r27 => (bd (G0 k r27) fun r28 => (br (!r28) (some (([], ()), false)) (some (r27, true))))) (br (a1.1 == 3) (br (decide ((rd A3 a0.1 r24.toNat).2.2.1 < (((rd A3 a0.1 r24.toNat).2.1.size : Nat) : Int))) (some (([], ()), false)) (br (a1.2.2.2.1.toList == a1.2.1.toList) (some (([], ()), false)) (bd (T5 k a1.2.2.2.1) fun r29 => (br (!r29) (some (([], ()), false)) (bd (G8 k a0 a1.2.1) fun r30 => (bd (I6 k r30 (a1.2.2.2.1, (rd A3 a0.1 r24.toNat).2)) fun r31 => (bd (G0 k r31) fun r32 => (br (!r32) (some (([], ()), false)) (some (r31, true)))))))))) (br (a1.1 == 4) (bd (G8 k a0 a1.2.1) fun r33 => (bd (G0 k r33) fun r34 => (br (!r34) (some (([], ()), false)) (some (r33, true))))) (some (([], ()), false))))))))) (br (a1.1 == 1) (gd (decide (ByteArray.empty.size + a1.2.2.1.size ≤ A2)) (bd (I6 k a0 (a1.2.1, (ByteArray.empty ++ a1.2.2.1), 0, ())) fun r35 => (bd (G0 k r35) fun r36 => (br (!r36) (some (([], ()), false)) (some (r35, true)))))) (br (decide (r24 < 0)) (some (([], ()), false)) (br (a1.1 == 2) (bd (I6 k a0 (a1.2.1, ByteArray.empty, (ByteArray.empty.size : Int), ())) fun r37 => (bd (G0 k r37) fun r38 => (br (!r38) (some (([], ()), false)) (some (r37, true))))) (br (a1.1 == 3) (br (decide (0 < (ByteArray.empty.size : Int))) (some (([], ()), false)) (br (a1.2.2.2.1.toList == a1.2.1.toList) (some (([], ()), false)) (bd (T5 k a1.2.2.2.1) fun r39 => (br (!r39) (some (([], ()), false)) (bd (G8 k a0 a1.2.1) fun r40 => (bd (I6 k r40 (a1.2.2.2.1, ByteArray.empty, 0, ())) fun r41 => (bd (G0 k r41) fun r42 => (br (!r42) (some (([], ()), false)) (some (r41, true)))))))))) (br (a1.1 == 4) (bd (G8 k a0 a1.2.1) fun r43 => (bd (G0 k r43) fun r44 => (br (!r44) (some (([], ()), false)) (some (r43, true))))) (some (([], ()), false))))))))))) (br (a1.1 != 1) (br (!(a1.2.2.1.toList == (⟨#[]⟩ : ByteArray).toList)) (some (([], ()), false)) (bd (A17 k a0 a1.2.1) fun r45 => (br (decide (r45 ≥ 0)) (gd (decide (0 ≤ r45)) (gd (decide (r45 < (a0.1.length : Int))) (br (a1.1 == 1) (gd (decide ((rd A3 a0.1 r45.toNat).2.1.size + a1.2.2.1.size ≤ A2)) (bd (I6 k a0 ((rd A3 a0.1 r45.toNat).1, ((rd A3 a0.1 r45.toNat).2.1 ++ a1.2.2.1), (rd A3 a0.1 r45.toNat).2.2)) fun r46 => (bd (G0 k r46) fun r47 => (br (!r47) (some (([], ()), false)) (some (r46, true)))))) (br (decide (r45 < 0)) (some (([], ()), false)) (br (a1.1 == 2) (bd (I6 k a0 ((rd A3 a0.1 r45.toNat).1, (rd A3 a0.1 r45.toNat).2.1, (((rd A3 a0.1 r45.toNat).2.1.size : Nat) : Int), ())) fun r48 => (bd (G0 k r48) fun r49 => (br (!r49) (some (([], ()), false)) (some (r48, true))))) (br (a1.1 == 3) (br (decide ((rd A3 a0.1 r45.toNat).2.2.1 < (((rd A3 a0.1 r45.toNat).2.1.size : Nat) : Int))) (some (([], ()), false)) (br (a1.2.2.2.1.toList == a1.2.1.toList) (some (([], ()), false)) (bd (T5 k a1.2.2.2.1) fun r50 => (br (!r50) (some (([], ()), false)) (bd (G8 k a0 a1.2.1) fun r51 => (bd (I6 k r51 (a1.2.2.2.1, (rd A3 a0.1 r45.toNat).2)) fun r52 => (bd (G0 k r52) fun r53 => (br (!r53) (some (([], ()), false)) (some (r52, true)))))))))) (br (a1.1 == 4) (bd (G8 k a0 a1.2.1) fun r54 => (bd (G0 k r54) fun r55 => (br (!r55) (some (([], ()), false)) (some (r54, true))))) (some (([], ()), false))))))))) (br (a1.1 == 1) (gd (decide (ByteArray.empty.size + a1.2.2.1.size ≤ A2)) (bd (I6 k a0 (a1.2.1, (ByteArray.empty ++ a1.2.2.1), 0, ())) fun r56 => (bd (G0 k r56) fun r57 => (br (!r57) (some (([], ()), false)) (some (r56, true)))))) (br (decide (r45 < 0)) (some (([], ()), false)) (br (a1.1 == 2) (bd (I6 k a0 (a1.2.1, ByteArray.empty, (ByteArray.empty.size : Int), ())) fun r58 => (bd (G0 k r58) fun r59 => (br (!r59) (some (([], ()), false)) (some (r58, true))))) (br (a1.1 == 3) (br (decide (0 < (ByteArray.empty.size : Int))) (some (([], ()), false)) (br (a1.2.2.2.1.toList == a1.2.1.toList) (some (([], ()), false)) (bd (T5 k a1.2.2.2.1) fun r60 => (br (!r60) (some (([], ()), false)) (bd (G8 k a0 a1.2.1) fun r61 => (bd (I6 k r61 (a1.2.2.2.1, ByteArray.empty, 0, ())) fun r62 => (bd (G0 k r62) fun r63 => (br (!r63) (some (([], ()), false)) (some (r62, true)))))))))) (br (a1.1 == 4) (bd (G8 k a0 a1.2.1) fun r64 => (bd (G0 k r64) fun r65 => (br (!r65) (some (([], ()), false)) (some (r64, true))))) (some (([], ()), false)))))))))) (bd (A17 k a0 a1.2.1) fun r66 => (br (decide (r66 ≥ 0)) (gd (decide (0 ≤ r66)) (gd (decide (r66 < (a0.1.length : Int))) (br (a1.1 == 1) (gd (decide ((rd A3 a0.1 r66.toNat).2.1.size + a1.2.2.1.size ≤ A2)) (bd (I6 k a0 ((rd A3 a0.1 r66.toNat).1, ((rd A3 a0.1 r66.toNat).2.1 ++ a1.2.2.1), (rd A3 a0.1 r66.toNat).2.2)) fun r67 => (bd (G0 k r67) fun r68 => (br (!r68) (some (([], ()), false)) (some (r67, true)))))) (br (decide (r66 < 0)) (some (([], ()), false)) (br (a1.1 == 2) (bd (I6 k a0 ((rd A3 a0.1 r66.toNat).1, (rd A3 a0.1 r66.toNat).2.1, (((rd A3 a0.1 r66.toNat).2.1.size : Nat) : Int), ())) fun r69 => (bd (G0 k r69) fun r70 => (br (!r70) (some (([], ()), false)) (some (r69, true))))) (br (a1.1 == 3) (br (decide ((rd A3 a0.1 r66.toNat).2.2.1 < (((rd A3 a0.1 r66.toNat).2.1.size : Nat) : Int))) (some (([], ()), false)) (br (a1.2.2.2.1.toList == a1.2.1.toList) (some (([], ()), false)) (bd (T5 k a1.2.2.2.1) fun r71 => (br (!r71) (some (([], ()), false)) (bd (G8 k a0 a1.2.1) fun r72 => (bd (I6 k r72 (a1.2.2.2.1, (rd A3 a0.1 r66.toNat).2)) fun r73 => (bd (G0 k r73) fun r74 => (br (!r74) (some (([], ()), false)) (some (r73, true)))))))))) (br (a1.1 == 4) (bd (G8 k a0 a1.2.1) fun r75 => (bd (G0 k r75) fun r76 => (br (!r76) (some (([], ()), false)) (some (r75, true))))) (some (([], ()), false))))))))) (br (a1.1 == 1) (gd (decide (ByteArray.empty.size + a1.2.2.1.size ≤ A2)) (bd (I6 k a0 (a1.2.1, (ByteArray.empty ++ a1.2.2.1), 0, ())) fun r77 => (bd (G0 k r77) fun r78 => (br (!r78) (some (([], ()), false)) (some (r77, true)))))) (br (decide (r66 < 0)) (some (([], ()), false)) (br (a1.1 == 2) (bd (I6 k a0 (a1.2.1, ByteArray.empty, (ByteArray.empty.size : Int), ())) fun r79 => (bd (G0 k r79) fun r80 => (br (!r80) (some (([], ()), false)) (some (r79, true))))) (br (a1.1 == 3) (br (decide (0 < (ByteArray.empty.size : Int))) (some (([], ()), false)) (br (a1.2.2.2.1.toList == a1.2.1.toList) (some (([], ()), false)) (bd (T5 k a1.2.2.2.1) fun r81 => (br (!r81) (some (([], ()), false)) (bd (G8 k a0 a1.2.1) fun r82 => (bd (I6 k r82 (a1.2.2.2.1, ByteArray.empty, 0, ())) fun r83 => (bd (G0 k r83) fun r84 => (br (!r84) (some (([], ()), false)) (some (r83, true)))))))))) (br (a1.1 == 4) (bd (G8 k a0 a1.2.1) fun r85 => (bd (G0 k r85) fun r86 => (br (!r86) (some (([], ()), false)) (some (r85, true))))) (some (([], ()), false)))))))))))))))
noncomputable section
def Bb1 (k : Nat) (L0 : List F2 → Int → List C2 → Option (B4 × Int)) (a1 : List F2) (v1 : Int) (xs2 : List C2) : Option (B4 × Int) := (br (decide (v1 < (a1.length : Int))) (gd (decide (0 ≤ v1)) (gd (decide (v1 < (a1.length : Int))) (bd (b8 k (xs2, ()) (rd Gq7 a1 v1.toNat)) fun r1 => (br (!r1.2) (some ((xs2, ()), v1)) (L0 a1 (B0 (v1 + 1)) r1.1.1))))) (some ((xs2, ()), (a1.length : Int))))
def j9 (k : Nat) : Nat → List F2 → Int → List C2 → Option (B4 × Int)
 | 0, _, _, _ => none
 | n + 1, a1, v1, xs2 => Bb1 k (j9 k n) a1 v1 xs2
def Df1 (k : Nat) (L0 : List F2 → Int → List C2 → Option (B4 × Int)) (a0 : B4) (a1 : List F2) : Option (B4 × Int) := (gd (decide (([] : List C2).length + a0.1.length ≤ A2)) (L0 a1 0 (([] : List C2) ++ a0.1)))
def Av7 (k : Nat) (a0 : B4) (a1 : List F2) : Option (B4 × Int) := Df1 k (j9 k k) a0 a1
end
def X6 (k : Nat) (a0 : A5) : Option (Int × A5 × Unit) := (br (decide (a0.2.1 < (a0.1.length : Int))) (gd (decide (0 ≤ a0.2.1)) (gd (decide (a0.2.1 < (a0.1.length : Int))) (some ((Ej4 .i64 (B0 ((Ej4 .i64 (Fv1 .i64 (Int.fdiv (B0 ((B0 (a0.2.2.1 * 6364136223846793005)) + 1442695040888963407)) (2 ^ 33)) (Int.fdiv (B0 ((B0 (a0.2.2.1 * 6364136223846793005)) + 1442695040888963407)) (2 ^ 45))) 255) + (B0 (rd 0 a0.1 a0.2.1.toNat)))) 255), (a0.1, (B0 (a0.2.1 + 1)), (B0 ((B0 (a0.2.2.1 * 6364136223846793005)) + 1442695040888963407)), ()), ())))) (some ((Ej4 .i64 (Fv1 .i64 (Int.fdiv (B0 ((B0 (a0.2.2.1 * 6364136223846793005)) + 1442695040888963407)) (2 ^ 33)) (Int.fdiv (B0 ((B0 (a0.2.2.1 * 6364136223846793005)) + 1442695040888963407)) (2 ^ 45))) 255), (a0.1, a0.2.1, (B0 ((B0 (a0.2.2.1 * 6364136223846793005)) + 1442695040888963407)), ()), ())))
def C7 (k : Nat) (a0 : A5) (a1 : Int) : Option (Int × A5 × Unit) := (br (decide (a1 ≤ 0)) (some (0, a0, ())) (br (decide (a1 ≤ 256)) (bd (X6 k a0) fun r1 => (ng (r1.1 == r1.1 && (a1 : Int) == 0) (some ((Int.tmod r1.1 a1), r1.2.1, ())))) (bd (X6 k a0) fun r2 => (bd (X6 k r2.2.1) fun r3 => (bd (X6 k r3.2.1) fun r4 => (bd (X6 k r4.2.1) fun r5 => (ng ((B0 ((B0 ((B0 ((B0 (r2.1 * 16777216)) + (B0 (r3.1 * 65536)))) + (B0 (r4.1 * 256)))) + r5.1)) == (B0 ((B0 ((B0 ((B0 (r2.1 * 16777216)) + (B0 (r3.1 * 65536)))) + (B0 (r4.1 * 256)))) + r5.1)) && (a1 : Int) == 0) (some ((Int.tmod (B0 ((B0 ((B0 ((B0 (r2.1 * 16777216)) + (B0 (r3.1 * 65536)))) + (B0 (r4.1 * 256)))) + r5.1)) a1), r5.2.1, ())))))))))
def Aj7 (k : Nat) (a0 : B7) : Option (Int × Int) := (br ((a0.2.2.1.length : Int) == 0) (some (a0.1, a0.2.1)) (gd (decide (0 ≤ (B0 ((a0.2.2.1.length : Int) - 1)))) (gd (decide ((B0 ((a0.2.2.1.length : Int) - 1)) < (a0.2.2.1.length : Int))) (some ((B0 (a0.1 + (a0.2.2.1.length : Int))), (rd A8 a0.2.2.1 (B0 ((a0.2.2.1.length : Int) - 1)).toNat).1)))))
def P4 (k : Nat) (a0 : A5) (a1 : Int) : Option (Bool × A5 × Unit) := (bd (C7 k a0 a1) fun r1 => (some ((r1.1 == 0), r1.2.1, ())))
noncomputable section
def Bn0 (k : Nat) (L0 : Int → List Int → Int → Int → List Int → Option (List Int × A5 × Unit)) (v1 : Int) (v2 : List Int) (v3 : Int) (v4 : Int) (xs5 : List Int) : Option (List Int × A5 × Unit) := (br (decide (v1 ≤ 4)) (bd (P4 k (v2, v3, v4, ()) 2) fun r1 => (br r1.1 (gd (decide (xs5.length + [v1].length ≤ A2)) (L0 (B0 (v1 + 1)) r1.2.1.1 r1.2.1.2.1 r1.2.1.2.2.1 (xs5 ++ [v1]))) (L0 (B0 (v1 + 1)) r1.2.1.1 r1.2.1.2.1 r1.2.1.2.2.1 xs5))) (br ((xs5.length : Int) == 0) (gd (decide (xs5.length + [1].length ≤ A2)) (some ((xs5 ++ [1]), (v2, v3, v4, ()), ()))) (some (xs5, (v2, v3, v4, ()), ()))))
def n6 (k : Nat) : Nat → Int → List Int → Int → Int → List Int → Option (List Int × A5 × Unit)
 | 0, _, _, _, _, _ => none
 | n + 1, v1, v2, v3, v4, xs5 => Bn0 k (n6 k n) v1 v2 v3 v4 xs5
def Cw8 (k : Nat) (L0 : Int → List Int → Int → Int → List Int → Option (List Int × A5 × Unit)) (a0 : A5) : Option (List Int × A5 × Unit) := (L0 1 a0.1 a0.2.1 a0.2.2.1 [])
def Bh4 (k : Nat) (a0 : A5) : Option (List Int × A5 × Unit) := Cw8 k (n6 k k) a0
end
noncomputable section
def Bc8 (k : Nat) (L0 : List Int → Int → List Int → Option (ByteArray × Bool)) (a0 : List Int) (v1 : Int) (xs2 : List Int) : Option (ByteArray × Bool) := (br (decide (v1 < (a0.length : Int))) (gd (decide (0 ≤ v1)) (gd (decide (v1 < (a0.length : Int))) (gd (decide (xs2.length + [(IntKind.wrap .u8 (rd 0 a0 v1.toNat))].length ≤ A2)) (L0 a0 (B0 (v1 + 1)) (xs2 ++ [(IntKind.wrap .u8 (rd 0 a0 v1.toNat))]))))) (some ((B6 xs2), true)))
def Z2 (k : Nat) : Nat → List Int → Int → List Int → Option (ByteArray × Bool)
 | 0, _, _, _ => none
 | n + 1, a0, v1, xs2 => Bc8 k (Z2 k n) a0 v1 xs2
def Ci0 (k : Nat) (L0 : List Int → Int → List Int → Option (ByteArray × Bool)) (a0 : List Int) : Option (ByteArray × Bool) := (bd (Av5 k a0) fun r1 => (br (!r1) (some ((⟨#[]⟩ : ByteArray), false)) (L0 a0 0 [])))
def A61 (k : Nat) (a0 : List Int) : Option (ByteArray × Bool) := Ci0 k (Z2 k k) a0
end
def Ad2 (k : Nat) (a0 : A5) (a1 : List Int) : Option (Int × A5 × Unit) := (bd (C7 k a0 (a1.length : Int)) fun r1 => (gd (decide (0 ≤ r1.1)) (gd (decide (r1.1 < (a1.length : Int))) (some ((rd 0 a1 r1.1.toNat), r1.2.1, ())))))
def Ai1 (k : Nat) (a0 : ByteArray) : Option ByteArray := (bd (J2 k (a0.size : Int)) fun r1 => (gd (decide (r1.size + a0.size ≤ A2)) (some (r1 ++ a0))))
noncomputable section
def Am1 (k : Nat) (L0 : List Int → Int → Option Bool) (a0 : List Int) (v1 : Int) : Option Bool := (br (decide (v1 < (a0.length : Int))) (gd (decide (0 ≤ v1)) (gd (decide (v1 < (a0.length : Int))) (bd (E9 k (rd 0 a0 v1.toNat) 0 100) fun r1 => (br (!r1) (some false) (L0 a0 (B0 (v1 + 1))))))) (some ((a0.length : Int) == 5)))
def W6 (k : Nat) : Nat → List Int → Int → Option Bool
 | 0, _, _ => none
 | n + 1, a0, v1 => Am1 k (W6 k n) a0 v1
def Ca1 (k : Nat) (L0 : List Int → Int → Option Bool) (a0 : List Int) : Option Bool := (L0 a0 0)
def Y6 (k : Nat) (a0 : List Int) : Option Bool := Ca1 k (W6 k k) a0
end
def X7 (k : Nat) (a0 : C5) : Option Bool := (bd (E9 k a0.2.1 1 5) fun r1 => (br (!r1) (some false) (bd (E9 k a0.2.2.1 1 5) fun r2 => (br (!r2) (some false) (br (a0.2.1 == 2) (bd (E9 k a0.2.2.2.1 1 5) fun r3 => (br (!r3) (some false) (bd (E9 k a0.2.2.2.2.1 0 3) fun r4 => (br (!r4) (some false) (br (a0.2.1 != 2) (br (a0.2.2.2.1 != 0) (some false) (br (a0.2.2.2.2.1 != 0) (some false) (br (a0.2.1 == 3) (bd (Y6 k a0.2.2.2.2.2.1) fun r5 => (br (!r5) (some false) (br (a0.2.1 != 3) (br (decide ((a0.2.2.2.2.2.1.length : Int) > 0)) (some false) (br (a0.2.1 == 4) (some (decide ((a0.2.2.2.2.2.2.1.size : Int) ≤ 24))) (br (a0.2.1 == 5) (some (decide ((a0.2.2.2.2.2.2.1.size : Int) ≤ 24))) (some (a0.2.2.2.2.2.2.1.toList == (⟨#[]⟩ : ByteArray).toList))))) (br (a0.2.1 == 4) (some (decide ((a0.2.2.2.2.2.2.1.size : Int) ≤ 24))) (br (a0.2.1 == 5) (some (decide ((a0.2.2.2.2.2.2.1.size : Int) ≤ 24))) (some (a0.2.2.2.2.2.2.1.toList == (⟨#[]⟩ : ByteArray).toList))))))) (br (a0.2.1 != 3) (br (decide ((a0.2.2.2.2.2.1.length : Int) > 0)) (some false) (br (a0.2.1 == 4) (some (decide ((a0.2.2.2.2.2.2.1.size : Int) ≤ 24))) (br (a0.2.1 == 5) (some (decide ((a0.2.2.2.2.2.2.1.size : Int) ≤ 24))) (some (a0.2.2.2.2.2.2.1.toList == (⟨#[]⟩ : ByteArray).toList))))) (br (a0.2.1 == 4) (some (decide ((a0.2.2.2.2.2.2.1.size : Int) ≤ 24))) (br (a0.2.1 == 5) (some (decide ((a0.2.2.2.2.2.2.1.size : Int) ≤ 24))) (some (a0.2.2.2.2.2.2.1.toList == (⟨#[]⟩ : ByteArray).toList)))))))) (br (a0.2.1 == 3) (bd (Y6 k a0.2.2.2.2.2.1) fun r6 => (br (!r6) (some false) (br (a0.2.1 != 3) (br (decide ((a0.2.2.2.2.2.1.length : Int) > 0)) (some false) (br (a0.2.1 == 4) (some (decide ((a0.2.2.2.2.2.2.1.size : Int) ≤ 24))) (br (a0.2.1 == 5) (some (decide ((a0.2.2.2.2.2.2.1.size : Int) ≤ 24))) (some (a0.2.2.2.2.2.2.1.toList == (⟨#[]⟩ : ByteArray).toList))))) (br (a0.2.1 == 4) (some (decide ((a0.2.2.2.2.2.2.1.size : Int) ≤ 24))) (br (a0.2.1 == 5) (some (decide ((a0.2.2.2.2.2.2.1.size : Int) ≤ 24))) (some (a0.2.2.2.2.2.2.1.toList == (⟨#[]⟩ : ByteArray).toList))))))) (br (a0.2.1 != 3) (br (decide ((a0.2.2.2.2.2.1.length : Int) > 0)) (some false) (br (a0.2.1 == 4) (some (decide ((a0.2.2.2.2.2.2.1.size : Int) ≤ 24))) (br (a0.2.1 == 5) (some (decide ((a0.2.2.2.2.2.2.1.size : Int) ≤ 24))) (some (a0.2.2.2.2.2.2.1.toList == (⟨#[]⟩ : ByteArray).toList))))) (br (a0.2.1 == 4) (some (decide ((a0.2.2.2.2.2.2.1.size : Int) ≤ 24))) (br (a0.2.1 == 5) (some (decide ((a0.2.2.2.2.2.2.1.size : Int) ≤ 24))) (some (a0.2.2.2.2.2.2.1.toList == (⟨#[]⟩ : ByteArray).toList))))))))))) (br (a0.2.1 != 2) (br (a0.2.2.2.1 != 0) (some false) (br (a0.2.2.2.2.1 != 0) (some false) (br (a0.2.1 == 3) (bd (Y6 k a0.2.2.2.2.2.1) fun r7 => (br (!r7) (some false) (br (a0.2.1 != 3) (br (decide ((a0.2.2.2.2.2.1.length : Int) > 0)) (some false) (br (a0.2.1 == 4) (some (decide ((a0.2.2.2.2.2.2.1.size : Int) ≤ 24))) (br (a0.2.1 == 5) (some (decide ((a0.2.2.2.2.2.2.1.size : Int) ≤ 24))) (some (a0.2.2.2.2.2.2.1.toList == (⟨#[]⟩ : ByteArray).toList))))) (br (a0.2.1 == 4) (some (decide ((a0.2.2.2.2.2.2.1.size : Int) ≤ 24))) (br (a0.2.1 == 5) (some (decide ((a0.2.2.2.2.2.2.1.size : Int) ≤ 24))) (some (a0.2.2.2.2.2.2.1.toList == (⟨#[]⟩ : ByteArray).toList))))))) (br (a0.2.1 != 3) (br (decide ((a0.2.2.2.2.2.1.length : Int) > 0)) (some false) (br (a0.2.1 == 4) (some (decide ((a0.2.2.2.2.2.2.1.size : Int) ≤ 24))) (br (a0.2.1 == 5) (some (decide ((a0.2.2.2.2.2.2.1.size : Int) ≤ 24))) (some (a0.2.2.2.2.2.2.1.toList == (⟨#[]⟩ : ByteArray).toList))))) (br (a0.2.1 == 4) (some (decide ((a0.2.2.2.2.2.2.1.size : Int) ≤ 24))) (br (a0.2.1 == 5) (some (decide ((a0.2.2.2.2.2.2.1.size : Int) ≤ 24))) (some (a0.2.2.2.2.2.2.1.toList == (⟨#[]⟩ : ByteArray).toList)))))))) (br (a0.2.1 == 3) (bd (Y6 k a0.2.2.2.2.2.1) fun r8 => (br (!r8) (some false) (br (a0.2.1 != 3) (br (decide ((a0.2.2.2.2.2.1.length : Int) > 0)) (some false) (br (a0.2.1 == 4) (some (decide ((a0.2.2.2.2.2.2.1.size : Int) ≤ 24))) (br (a0.2.1 == 5) (some (decide ((a0.2.2.2.2.2.2.1.size : Int) ≤ 24))) (some (a0.2.2.2.2.2.2.1.toList == (⟨#[]⟩ : ByteArray).toList))))) (br (a0.2.1 == 4) (some (decide ((a0.2.2.2.2.2.2.1.size : Int) ≤ 24))) (br (a0.2.1 == 5) (some (decide ((a0.2.2.2.2.2.2.1.size : Int) ≤ 24))) (some (a0.2.2.2.2.2.2.1.toList == (⟨#[]⟩ : ByteArray).toList))))))) (br (a0.2.1 != 3) (br (decide ((a0.2.2.2.2.2.1.length : Int) > 0)) (some false) (br (a0.2.1 == 4) (some (decide ((a0.2.2.2.2.2.2.1.size : Int) ≤ 24))) (br (a0.2.1 == 5) (some (decide ((a0.2.2.2.2.2.2.1.size : Int) ≤ 24))) (some (a0.2.2.2.2.2.2.1.toList == (⟨#[]⟩ : ByteArray).toList))))) (br (a0.2.1 == 4) (some (decide ((a0.2.2.2.2.2.2.1.size : Int) ≤ 24))) (br (a0.2.1 == 5) (some (decide ((a0.2.2.2.2.2.2.1.size : Int) ≤ 24))) (some (a0.2.2.2.2.2.2.1.toList == (⟨#[]⟩ : ByteArray).toList))))))))))))
noncomputable section
def A21 (k : Nat) (L0 : Int → C5 → Option Bool) (v1 : Int) (a0 : C5) : Option Bool := (br (decide (v1 < (a0.2.2.2.2.2.2.2.1.length : Int))) (gd (decide (0 ≤ v1)) (gd (decide (v1 < (a0.2.2.2.2.2.2.2.1.length : Int))) (bd (E9 k (rd 0 a0.2.2.2.2.2.2.2.1 v1.toNat) 1 1000000) fun r4 => (br (!r4) (some false) (gd (decide (0 ≤ v1)) (gd (decide (v1 < (a0.2.2.2.2.2.2.2.1.length : Int))) (br ((rd 0 a0.2.2.2.2.2.2.2.1 v1.toNat) == a0.1) (some false) (br (decide (v1 > 0)) (gd (decide (0 ≤ (B0 (v1 - 1)))) (gd (decide ((B0 (v1 - 1)) < (a0.2.2.2.2.2.2.2.1.length : Int))) (gd (decide (0 ≤ v1)) (gd (decide (v1 < (a0.2.2.2.2.2.2.2.1.length : Int))) (br (decide ((rd 0 a0.2.2.2.2.2.2.2.1 (B0 (v1 - 1)).toNat) ≥ (rd 0 a0.2.2.2.2.2.2.2.1 v1.toNat))) (some false) (L0 (B0 (v1 + 1)) a0)))))) (L0 (B0 (v1 + 1)) a0))))))))) (some true))
def U8 (k : Nat) : Nat → Int → C5 → Option Bool
 | 0, _, _ => none
 | n + 1, v1, a0 => A21 k (U8 k n) v1 a0
def Bx5 (k : Nat) (L0 : Int → C5 → Option Bool) (a0 : C5) : Option Bool := (bd (X7 k a0) fun r1 => (br (!r1) (some false) (bd (E9 k a0.1 1 1000000) fun r2 => (br (!r2) (some false) (bd (E9 k a0.2.2.2.2.2.2.2.2.1 0 1000000) fun r3 => (br (!r3) (some false) (br (decide ((a0.2.2.2.2.2.2.2.1.length : Int) > 3)) (some false) (br (!((a0.2.1 == 1) == ((a0.2.2.2.2.2.2.2.1.length : Int) == 0))) (some false) (L0 0 a0)))))))))
def N1 (k : Nat) (a0 : C5) : Option Bool := Bx5 k (U8 k k) a0
end
def X8 (k : Nat) (a0 : Int) : Option ByteArray := (some (B6 [(IntKind.wrap .u8 a0)]))
noncomputable section
def Ad3 (k : Nat) (L0 : ByteArray → Int → C5 → Option ByteArray) (v1 : ByteArray) (v2 : Int) (a0 : C5) : Option ByteArray := (br (decide (v2 < (a0.2.2.2.2.2.1.length : Int))) (gd (decide (0 ≤ v2)) (gd (decide (v2 < (a0.2.2.2.2.2.1.length : Int))) (bd (X8 k (rd 0 a0.2.2.2.2.2.1 v2.toNat)) fun r6 => (gd (decide (v1.size + r6.size ≤ A2)) (L0 (v1 ++ r6) (B0 (v2 + 1)) a0))))) (bd (Ai1 k a0.2.2.2.2.2.2.1) fun r7 => (gd (decide (v1.size + r7.size ≤ A2)) (some (v1 ++ r7)))))
def Q4 (k : Nat) : Nat → ByteArray → Int → C5 → Option ByteArray
 | 0, _, _, _ => none
 | n + 1, v1, v2, a0 => Ad3 k (Q4 k n) v1 v2 a0
def Ay8 (k : Nat) (L0 : ByteArray → Int → C5 → Option ByteArray) (a0 : C5) : Option ByteArray := (bd (X8 k a0.2.1) fun r1 => (bd (X8 k a0.2.2.1) fun r2 => (gd (decide (r1.size + r2.size ≤ A2)) (bd (X8 k a0.2.2.2.1) fun r3 => (gd (decide ((r1 ++ r2).size + r3.size ≤ A2)) (bd (X8 k a0.2.2.2.2.1) fun r4 => (gd (decide (((r1 ++ r2) ++ r3).size + r4.size ≤ A2)) (bd (J2 k (a0.2.2.2.2.2.1.length : Int)) fun r5 => (gd (decide ((((r1 ++ r2) ++ r3) ++ r4).size + r5.size ≤ A2)) (L0 ((((r1 ++ r2) ++ r3) ++ r4) ++ r5) 0 a0))))))))))
def Z3 (k : Nat) (a0 : C5) : Option ByteArray := Ay8 k (Q4 k k) a0
end
noncomputable section
def Am2 (k : Nat) (L0 : ByteArray → Int → C5 → Option (ByteArray × Bool)) (v1 : ByteArray) (v2 : Int) (a0 : C5) : Option (ByteArray × Bool) := (br (decide (v2 < (a0.2.2.2.2.2.2.2.1.length : Int))) (gd (decide (0 ≤ v2)) (gd (decide (v2 < (a0.2.2.2.2.2.2.2.1.length : Int))) (bd (J2 k (rd 0 a0.2.2.2.2.2.2.2.1 v2.toNat)) fun r5 => (gd (decide (v1.size + r5.size ≤ A2)) (L0 (v1 ++ r5) (B0 (v2 + 1)) a0))))) (bd (J2 k a0.2.2.2.2.2.2.2.2.1) fun r6 => (gd (decide (v1.size + r6.size ≤ A2)) (some ((v1 ++ r6), true)))))
def W7 (k : Nat) : Nat → ByteArray → Int → C5 → Option (ByteArray × Bool)
 | 0, _, _, _ => none
 | n + 1, v1, v2, a0 => Am2 k (W7 k n) v1 v2 a0
def Ca2 (k : Nat) (L0 : ByteArray → Int → C5 → Option (ByteArray × Bool)) (a0 : C5) : Option (ByteArray × Bool) := (bd (N1 k a0) fun r1 => (br (!r1) (some ((⟨#[]⟩ : ByteArray), false)) (bd (J2 k a0.1) fun r2 => (bd (Z3 k a0) fun r3 => (gd (decide (r2.size + r3.size ≤ A2)) (bd (J2 k (a0.2.2.2.2.2.2.2.1.length : Int)) fun r4 => (gd (decide ((r2 ++ r3).size + r4.size ≤ A2)) (L0 ((r2 ++ r3) ++ r4) 0 a0))))))))
def Av8 (k : Nat) (a0 : C5) : Option (ByteArray × Bool) := Ca2 k (W7 k k) a0
end
noncomputable section
def Ad4 (k : Nat) (L0 : List Int → List Int → Int → Option Bool) (a0 : List Int) (a1 : List Int) (v1 : Int) : Option Bool := (br (decide (v1 < (a0.length : Int))) (gd (decide (0 ≤ v1)) (gd (decide (v1 < (a0.length : Int))) (gd (decide (0 ≤ v1)) (gd (decide (v1 < (a1.length : Int))) (br ((rd 0 a0 v1.toNat) != (rd 0 a1 v1.toNat)) (some false) (L0 a0 a1 (B0 (v1 + 1)))))))) (some true))
def Q5 (k : Nat) : Nat → List Int → List Int → Int → Option Bool
 | 0, _, _, _ => none
 | n + 1, a0, a1, v1 => Ad4 k (Q5 k n) a0 a1 v1
def Ah7 (k : Nat) (L0 : List Int → List Int → Int → Option Bool) (a0 : List Int) (a1 : List Int) : Option Bool := (br ((a0.length : Int) != (a1.length : Int)) (some false) (L0 a0 a1 0))
def S0 (k : Nat) (a0 : List Int) (a1 : List Int) : Option Bool := Ah7 k (Q5 k k) a0 a1
end
def A45 (k : Nat) (a0 : C5) (a1 : C5) : Option Bool := (br (a0.1 == a1.1) (br (a0.2.1 == a1.2.1) (br (a0.2.2.1 == a1.2.2.1) (br (a0.2.2.2.1 == a1.2.2.2.1) (br (a0.2.2.2.2.1 == a1.2.2.2.2.1) (br (a0.2.2.2.2.2.2.1.toList == a1.2.2.2.2.2.2.1.toList) (br (a0.2.2.2.2.2.2.2.2.1 == a1.2.2.2.2.2.2.2.2.1) (bd (S0 k a0.2.2.2.2.2.1 a1.2.2.2.2.2.1) fun r1 => (br r1 (bd (S0 k a0.2.2.2.2.2.2.2.1 a1.2.2.2.2.2.2.2.1) fun r2 => (some r2)) (some false))) (some false)) (some false)) (some false)) (some false)) (some false)) (some false)) (some false))
def Ar7 (k : Nat) (a0 : C5) : Option Bool := (bd (A45 k a0 (0, 0, 0, 0, 0, [], ByteArray.empty, [], 0, ())) fun r1 => (some r1))
def Aj8 (k : Nat) (a0 : I1) : Option Bool := (bd (E9 k a0.1 1 5) fun r1 => (br (!r1) (some false) (bd (E9 k a0.2.1 0 1000000) fun r2 => (br (!r2) (some false) (bd (E9 k a0.2.2.1 0 1000000) fun r3 => (br (!r3) (some false) (br (a0.1 != 2) (br (a0.1 != 3) (bd (Ar7 k a0.2.2.2.1) fun r4 => (br (!r4) (some false) (br (a0.1 != 4) (br (a0.2.2.2.2.1 != 0) (some false) (br (a0.2.2.2.2.2.1 != 0) (some false) (br (a0.1 == 1) (br (a0.2.1 == 0) (some (a0.2.2.1 == 0)) (some false)) (br (a0.1 == 2) (bd (X7 k a0.2.2.2.1) fun r5 => (br r5 (br (a0.2.2.2.1.1 == 0) (br (a0.2.2.2.1.2.2.2.2.2.2.2.2.1 == 0) (some ((a0.2.2.2.1.2.2.2.2.2.2.2.1.length : Int) == 0)) (some false)) (some false)) (some false))) (br (a0.1 == 3) (bd (N1 k a0.2.2.2.1) fun r6 => (br r6 (ng (a0.2.2.2.1.1 == a0.2.2.2.1.1 && (2 : Int) == 0) (some ((Int.tmod a0.2.2.2.1.1 2) == 1))) (some false))) (br (a0.1 == 4) (bd (E9 k a0.2.2.2.2.1 1 2) fun r7 => (br r7 (bd (E9 k a0.2.2.2.2.2.1 0 1000000) fun r8 => (some r8)) (some false))) (some true))))))) (br (a0.1 == 1) (br (a0.2.1 == 0) (some (a0.2.2.1 == 0)) (some false)) (br (a0.1 == 2) (bd (X7 k a0.2.2.2.1) fun r9 => (br r9 (br (a0.2.2.2.1.1 == 0) (br (a0.2.2.2.1.2.2.2.2.2.2.2.2.1 == 0) (some ((a0.2.2.2.1.2.2.2.2.2.2.2.1.length : Int) == 0)) (some false)) (some false)) (some false))) (br (a0.1 == 3) (bd (N1 k a0.2.2.2.1) fun r10 => (br r10 (ng (a0.2.2.2.1.1 == a0.2.2.2.1.1 && (2 : Int) == 0) (some ((Int.tmod a0.2.2.2.1.1 2) == 1))) (some false))) (br (a0.1 == 4) (bd (E9 k a0.2.2.2.2.1 1 2) fun r11 => (br r11 (bd (E9 k a0.2.2.2.2.2.1 0 1000000) fun r12 => (some r12)) (some false))) (some true)))))))) (br (a0.1 != 4) (br (a0.2.2.2.2.1 != 0) (some false) (br (a0.2.2.2.2.2.1 != 0) (some false) (br (a0.1 == 1) (br (a0.2.1 == 0) (some (a0.2.2.1 == 0)) (some false)) (br (a0.1 == 2) (bd (X7 k a0.2.2.2.1) fun r13 => (br r13 (br (a0.2.2.2.1.1 == 0) (br (a0.2.2.2.1.2.2.2.2.2.2.2.2.1 == 0) (some ((a0.2.2.2.1.2.2.2.2.2.2.2.1.length : Int) == 0)) (some false)) (some false)) (some false))) (br (a0.1 == 3) (bd (N1 k a0.2.2.2.1) fun r14 => (br r14 (ng (a0.2.2.2.1.1 == a0.2.2.2.1.1 && (2 : Int) == 0) (some ((Int.tmod a0.2.2.2.1.1 2) == 1))) (some false))) (br (a0.1 == 4) (bd (E9 k a0.2.2.2.2.1 1 2) fun r15 => (br r15 (bd (E9 k a0.2.2.2.2.2.1 0 1000000) fun r16 => (some r16)) (some false))) (some true))))))) (br (a0.1 == 1) (br (a0.2.1 == 0) (some (a0.2.2.1 == 0)) (some false)) (br (a0.1 == 2) (bd (X7 k a0.2.2.2.1) fun r17 => (br r17 (br (a0.2.2.2.1.1 == 0) (br (a0.2.2.2.1.2.2.2.2.2.2.2.2.1 == 0) (some ((a0.2.2.2.1.2.2.2.2.2.2.2.1.length : Int) == 0)) (some false)) (some false)) (some false))) (br (a0.1 == 3) (bd (N1 k a0.2.2.2.1) fun r18 => (br r18 (ng (a0.2.2.2.1.1 == a0.2.2.2.1.1 && (2 : Int) == 0) (some ((Int.tmod a0.2.2.2.1.1 2) == 1))) (some false))) (br (a0.1 == 4) (bd (E9 k a0.2.2.2.2.1 1 2) fun r19 => (br r19 (bd (E9 k a0.2.2.2.2.2.1 0 1000000) fun r20 => (some r20)) (some false))) (some true))))))) (br (a0.1 != 4) (br (a0.2.2.2.2.1 != 0) (some false) (br (a0.2.2.2.2.2.1 != 0) (some false) (br (a0.1 == 1) (br (a0.2.1 == 0) (some (a0.2.2.1 == 0)) (some false)) (br (a0.1 == 2) (bd (X7 k a0.2.2.2.1) fun r21 => (br r21 (br (a0.2.2.2.1.1 == 0) (br (a0.2.2.2.1.2.2.2.2.2.2.2.2.1 == 0) (some ((a0.2.2.2.1.2.2.2.2.2.2.2.1.length : Int) == 0)) (some false)) (some false)) (some false))) (br (a0.1 == 3) (bd (N1 k a0.2.2.2.1) fun r22 => (br r22 (ng (a0.2.2.2.1.1 == a0.2.2.2.1.1 && (2 : Int) == 0) (some ((Int.tmod a0.2.2.2.1.1 2) == 1))) (some false))) (br (a0.1 == 4) (bd (E9 k a0.2.2.2.2.1 1 2) fun r23 => (br r23 (bd (E9 k a0.2.2.2.2.2.1 0 1000000) fun r24 => (some r24)) (some false))) (some true))))))) (br (a0.1 == 1) (br (a0.2.1 == 0) (some (a0.2.2.1 == 0)) (some false)) (br (a0.1 == 2) (bd (X7 k a0.2.2.2.1) fun r25 => (br r25 (br (a0.2.2.2.1.1 == 0) (br (a0.2.2.2.1.2.2.2.2.2.2.2.2.1 == 0) (some ((a0.2.2.2.1.2.2.2.2.2.2.2.1.length : Int) == 0)) (some false)) (some false)) (some false))) (br (a0.1 == 3) (bd (N1 k a0.2.2.2.1) fun r26 => (br r26 (ng (a0.2.2.2.1.1 == a0.2.2.2.1.1 && (2 : Int) == 0) (some ((Int.tmod a0.2.2.2.1.1 2) == 1))) (some false))) (br (a0.1 == 4) (bd (E9 k a0.2.2.2.2.1 1 2) fun r27 => (br r27 (bd (E9 k a0.2.2.2.2.2.1 0 1000000) fun r28 => (some r28)) (some false))) (some true)))))))))))))
def u4 (k : Nat) (a0 : I1) : Option (ByteArray × Bool) := (bd (Aj8 k a0) fun r1 => (br (!r1) (some ((⟨#[]⟩ : ByteArray), false)) (bd (X8 k a0.1) fun r2 => (bd (J2 k a0.2.1) fun r3 => (gd (decide (r2.size + r3.size ≤ A2)) (bd (J2 k a0.2.2.1) fun r4 => (gd (decide ((r2 ++ r3).size + r4.size ≤ A2)) (br (a0.1 == 2) (bd (Z3 k a0.2.2.2.1) fun r5 => (gd (decide (((r2 ++ r3) ++ r4).size + r5.size ≤ A2)) (some ((((r2 ++ r3) ++ r4) ++ r5), true)))) (br (a0.1 == 3) (bd (Av8 k a0.2.2.2.1) fun r6 => (bd (Ai1 k r6.1) fun r7 => (gd (decide (((r2 ++ r3) ++ r4).size + r7.size ≤ A2)) (some ((((r2 ++ r3) ++ r4) ++ r7), true))))) (br (a0.1 == 4) (bd (J2 k a0.2.2.2.2.1) fun r8 => (gd (decide (((r2 ++ r3) ++ r4).size + r8.size ≤ A2)) (bd (J2 k a0.2.2.2.2.2.1) fun r9 => (gd (decide ((((r2 ++ r3) ++ r4) ++ r8).size + r9.size ≤ A2)) (some (((((r2 ++ r3) ++ r4) ++ r8) ++ r9), true)))))) (some (((r2 ++ r3) ++ r4), true))))))))))))
noncomputable section
def Bn1 (k : Nat) (L0 : Int → List De8 → Option Ar1) (v1 : Int) (xs2 : List De8) : Option Ar1 := (br (decide (v1 ≤ 2)) (gd (decide (xs2.length + ([(v1, 0, [], ())] : List De8).length ≤ A2)) (L0 (B0 (v1 + 1)) (xs2 ++ ([(v1, 0, [], ())] : List De8)))) (some ([], ([], [], [], ()), xs2, ())))
def n7 (k : Nat) : Nat → Int → List De8 → Option Ar1
 | 0, _, _ => none
 | n + 1, v1, xs2 => Bn1 k (n7 k n) v1 xs2
def Cw9 (k : Nat) (L0 : Int → List De8 → Option Ar1) : Option Ar1 := (L0 1 [])
def Bh5 (k : Nat) : Option Ar1 := Cw9 k (n7 k k)
end
def Bb2 (k : Nat) (a0 : A5) : Option (C5 × A5 × Unit) := none
def Df2 (k : Nat) (a0 : p7) : Option (List Int) := none
def A46 (k : Nat) (a0 : p7) (a1 : List Int) : Option Int := none
def Aj9 (k : Nat) (a0 : p7) (a1 : List Int) : Option (List Bs0 × Bool) := none
def Cq4 (k : Nat) (a0 : List C5) (a1 : List Bs0) (a2 : C5) : Option Bool := none
noncomputable section
def Ci1 (k : Nat) (L1 : Int → Int → List Int → Int → Int → p7 → Int → Int → Int → Int → ByteArray → Int → List Bs0 → List Int → List Int → Option (C5 × A5 × Unit)) (a2 : Int) (v6 : Int) (v7 : List Int) (v8 : Int) (v9 : Int) (a1 : p7) (v10 : Int) (v11 : Int) (v12 : Int) (v13 : Int) (v14 : ByteArray) (r6 : Int) (xs15 : List Bs0) (xs16 : List Int) (xs17 : List Int) : Option (C5 × A5 × Unit) := (br (decide (v6 < 6)) (bd (Cq4 k a1.1 xs15 (a2, v10, v11, v12, v13, xs16, v14, xs17, r6, ())) fun r8 => (br (!r8) (bd (Bb2 k (v7, v8, v9, ())) fun r9 => (L1 a2 (B0 (v6 + 1)) r9.2.1.1 r9.2.1.2.1 r9.2.1.2.2.1 a1 r9.1.2.1 r9.1.2.2.1 r9.1.2.2.2.1 r9.1.2.2.2.2.1 r9.1.2.2.2.2.2.2.1 r6 xs15 r9.1.2.2.2.2.2.1 xs17)) (br ((a1.1.length : Int) == 1) (gd (decide (0 < (a1.1.length : Int))) (gd (decide (0 < (a1.1.length : Int))) (some ((a2, 2, (rd Au1 a1.1 0).2.2.1, (rd Au1 a1.1 0).2.2.1, 2, [], ByteArray.empty, xs17, r6, ()), (v7, v8, v9, ()), ())))) (some ((a2, v10, v11, v12, v13, xs16, v14, xs17, r6, ()), (v7, v8, v9, ()), ()))))) (br ((a1.1.length : Int) == 1) (gd (decide (0 < (a1.1.length : Int))) (gd (decide (0 < (a1.1.length : Int))) (some ((a2, 2, (rd Au1 a1.1 0).2.2.1, (rd Au1 a1.1 0).2.2.1, 2, [], ByteArray.empty, xs17, r6, ()), (v7, v8, v9, ()), ())))) (some ((a2, v10, v11, v12, v13, xs16, v14, xs17, r6, ()), (v7, v8, v9, ()), ()))))
def Ci2 (k : Nat) (L0 : Int → Int → List Int → Int → Int → p7 → (C5 × A5 × Unit) → List Int → List Int → Option (C5 × A5 × Unit)) (L1 : Int → Int → List Int → Int → Int → p7 → Int → Int → Int → Int → ByteArray → Int → List Bs0 → List Int → List Int → Option (C5 × A5 × Unit)) (a2 : Int) (v1 : Int) (v2 : List Int) (v3 : Int) (v4 : Int) (a1 : p7) (r1 : C5 × A5 × Unit) (r2 : List Int) (xs5 : List Int) : Option (C5 × A5 × Unit) := (br (decide (v1 < (r2.length : Int))) (br (decide ((xs5.length : Int) < 3)) (bd (P4 k (v2, v3, v4, ()) 2) fun r3 => (br r3.1 (gd (decide (0 ≤ v1)) (gd (decide (v1 < (r2.length : Int))) (gd (decide (xs5.length + [(rd 0 r2 v1.toNat)].length ≤ A2)) (L0 a2 (B0 (v1 + 1)) r3.2.1.1 r3.2.1.2.1 r3.2.1.2.2.1 a1 r1 r2 (xs5 ++ [(rd 0 r2 v1.toNat)]))))) (br ((B0 (v1 + 1)) == (r2.length : Int)) (br ((xs5.length : Int) == 0) (gd (decide (0 ≤ v1)) (gd (decide (v1 < (r2.length : Int))) (gd (decide (xs5.length + [(rd 0 r2 v1.toNat)].length ≤ A2)) (L0 a2 (B0 (v1 + 1)) r3.2.1.1 r3.2.1.2.1 r3.2.1.2.2.1 a1 r1 r2 (xs5 ++ [(rd 0 r2 v1.toNat)]))))) (L0 a2 (B0 (v1 + 1)) r3.2.1.1 r3.2.1.2.1 r3.2.1.2.2.1 a1 r1 r2 xs5)) (L0 a2 (B0 (v1 + 1)) r3.2.1.1 r3.2.1.2.1 r3.2.1.2.2.1 a1 r1 r2 xs5)))) (bd (P4 k (v2, v3, v4, ()) 4) fun r4 => (br r4.1 (bd (C7 k r4.2.1 (a1.1.length : Int)) fun r5 => (gd (decide (0 ≤ r5.1)) (gd (decide (r5.1 < (a1.1.length : Int))) (bd (A46 k a1 [(rd Au1 a1.1 r5.1.toNat).1]) fun r6 => (bd (Aj9 k a1 [(rd Au1 a1.1 r5.1.toNat).1]) fun r7 => (L1 a2 0 r5.2.1.1 r5.2.1.2.1 r5.2.1.2.2.1 a1 r1.1.2.1 r1.1.2.2.1 r1.1.2.2.2.1 r1.1.2.2.2.2.1 r1.1.2.2.2.2.2.2.1 r6 r7.1 r1.1.2.2.2.2.2.1 [(rd Au1 a1.1 r5.1.toNat).1])))))) (bd (A46 k a1 xs5) fun r10 => (bd (Aj9 k a1 xs5) fun r11 => (L1 a2 0 r4.2.1.1 r4.2.1.2.1 r4.2.1.2.2.1 a1 r1.1.2.1 r1.1.2.2.1 r1.1.2.2.2.1 r1.1.2.2.2.2.1 r1.1.2.2.2.2.2.2.1 r10 r11.1 r1.1.2.2.2.2.2.1 xs5)))))) (bd (P4 k (v2, v3, v4, ()) 4) fun r12 => (br r12.1 (bd (C7 k r12.2.1 (a1.1.length : Int)) fun r13 => (gd (decide (0 ≤ r13.1)) (gd (decide (r13.1 < (a1.1.length : Int))) (bd (A46 k a1 [(rd Au1 a1.1 r13.1.toNat).1]) fun r14 => (bd (Aj9 k a1 [(rd Au1 a1.1 r13.1.toNat).1]) fun r15 => (L1 a2 0 r13.2.1.1 r13.2.1.2.1 r13.2.1.2.2.1 a1 r1.1.2.1 r1.1.2.2.1 r1.1.2.2.2.1 r1.1.2.2.2.2.1 r1.1.2.2.2.2.2.2.1 r14 r15.1 r1.1.2.2.2.2.2.1 [(rd Au1 a1.1 r13.1.toNat).1])))))) (bd (A46 k a1 xs5) fun r16 => (bd (Aj9 k a1 xs5) fun r17 => (L1 a2 0 r12.2.1.1 r12.2.1.2.1 r12.2.1.2.2.1 a1 r1.1.2.1 r1.1.2.2.1 r1.1.2.2.2.1 r1.1.2.2.2.2.1 r1.1.2.2.2.2.2.2.1 r16 r17.1 r1.1.2.2.2.2.2.1 xs5))))))
def Bn2 (k : Nat) : Nat → Int → Int → List Int → Int → Int → p7 → Int → Int → Int → Int → ByteArray → Int → List Bs0 → List Int → List Int → Option (C5 × A5 × Unit)
 | 0, _, _, _, _, _, _, _, _, _, _, _, _, _, _, _ => none
 | n + 1, a2, v6, v7, v8, v9, a1, v10, v11, v12, v13, v14, r6, xs15, xs16, xs17 => Ci1 k (Bn2 k n) a2 v6 v7 v8 v9 a1 v10 v11 v12 v13 v14 r6 xs15 xs16 xs17
def A22 (k : Nat) : Nat → Int → Int → List Int → Int → Int → p7 → (C5 × A5 × Unit) → List Int → List Int → Option (C5 × A5 × Unit)
 | 0, _, _, _, _, _, _, _, _, _ => none
 | n + 1, a2, v1, v2, v3, v4, a1, r1, r2, xs5 => Ci2 k (A22 k n) (Bn2 k n) a2 v1 v2 v3 v4 a1 r1 r2 xs5
def Bx6 (k : Nat) (L0 : Int → Int → List Int → Int → Int → p7 → (C5 × A5 × Unit) → List Int → List Int → Option (C5 × A5 × Unit)) (a0 : A5) (a1 : p7) (a2 : Int) : Option (C5 × A5 × Unit) := (br ((a1.1.length : Int) == 0) (some ((a2, 1, 1, 0, 0, [], ByteArray.empty, [], 0, ()), a0, ())) (bd (Bb2 k a0) fun r1 => (bd (Df2 k a1) fun r2 => (L0 a2 0 r1.2.1.1 r1.2.1.2.1 r1.2.1.2.2.1 a1 r1 r2 []))))
def O5 (k : Nat) (a0 : A5) (a1 : p7) (a2 : Int) : Option (C5 × A5 × Unit) := Bx6 k (A22 k k) a0 a1 a2
end
noncomputable section
def Ay9 (k : Nat) (v1 : List Int) (v2 : Int) (v3 : Int) (a1 : Ar1) (v4 : Int) : Option (I1 × A5 × Unit) := (br (v4 != 1) (br (decide ((a1.1.length : Int) > 0)) (bd (C7 k (v1, v2, v3, ()) (a1.1.length : Int)) fun r4 => (gd (decide (0 ≤ r4.1)) (gd (decide (r4.1 < (a1.1.length : Int))) (bd (C7 k r4.2.1 10) fun r5 => (br (r5.1 == 0) (bd (C7 k r5.2.1 (B0 ((rd A8 a1.1 r4.1.toNat).2.1 + 3))) fun r6 => (br (v4 == 2) (bd (O5 k r6.2.1 a1.2.1 2) fun r7 => (some ((v4, (rd A8 a1.1 r4.1.toNat).1, r6.1, (0, r7.1.2.1, r7.1.2.2.1, r7.1.2.2.2.1, r7.1.2.2.2.2.1, r7.1.2.2.2.2.2.1, r7.1.2.2.2.2.2.2.1, [], 0, ()), 0, 0, ()), r7.2.1, ()))) (br (v4 == 3) (bd (C7 k r6.2.1 40) fun r8 => (bd (O5 k r8.2.1 a1.2.1 (B0 ((B0 (2 * r8.1)) + 1))) fun r9 => (bd (N1 k r9.1) fun r10 => (br (!r10) (bd (C7 k r9.2.1 40) fun r11 => (some ((v4, (rd A8 a1.1 r4.1.toNat).1, r6.1, ((B0 (101 + (B0 (2 * r11.1)))), r9.1.2), 0, 0, ()), r11.2.1, ()))) (some ((v4, (rd A8 a1.1 r4.1.toNat).1, r6.1, r9.1, 0, 0, ()), r9.2.1, ())))))) (br (v4 == 4) (bd (C7 k r6.2.1 2) fun r12 => (bd (C7 k r12.2.1 6) fun r13 => (some ((v4, (rd A8 a1.1 r4.1.toNat).1, r6.1, (0, 0, 0, 0, 0, [], ByteArray.empty, [], 0, ()), (B0 (1 + r12.1)), r13.1, ()), r13.2.1, ())))) (some ((v4, (rd A8 a1.1 r4.1.toNat).1, r6.1, (0, 0, 0, 0, 0, [], ByteArray.empty, [], 0, ()), 0, 0, ()), r6.2.1, ())))))) (br (r5.1 == 1) (bd (C7 k r5.2.1 12) fun r14 => (br (v4 == 2) (bd (O5 k r14.2.1 a1.2.1 2) fun r15 => (some ((v4, r14.1, (B0 ((rd A8 a1.1 r4.1.toNat).2.1 + 1)), (0, r15.1.2.1, r15.1.2.2.1, r15.1.2.2.2.1, r15.1.2.2.2.2.1, r15.1.2.2.2.2.2.1, r15.1.2.2.2.2.2.2.1, [], 0, ()), 0, 0, ()), r15.2.1, ()))) (br (v4 == 3) (bd (C7 k r14.2.1 40) fun r16 => (bd (O5 k r16.2.1 a1.2.1 (B0 ((B0 (2 * r16.1)) + 1))) fun r17 => (bd (N1 k r17.1) fun r18 => (br (!r18) (bd (C7 k r17.2.1 40) fun r19 => (some ((v4, r14.1, (B0 ((rd A8 a1.1 r4.1.toNat).2.1 + 1)), ((B0 (101 + (B0 (2 * r19.1)))), r17.1.2), 0, 0, ()), r19.2.1, ()))) (some ((v4, r14.1, (B0 ((rd A8 a1.1 r4.1.toNat).2.1 + 1)), r17.1, 0, 0, ()), r17.2.1, ())))))) (br (v4 == 4) (bd (C7 k r14.2.1 2) fun r20 => (bd (C7 k r20.2.1 6) fun r21 => (some ((v4, r14.1, (B0 ((rd A8 a1.1 r4.1.toNat).2.1 + 1)), (0, 0, 0, 0, 0, [], ByteArray.empty, [], 0, ()), (B0 (1 + r20.1)), r21.1, ()), r21.2.1, ())))) (some ((v4, r14.1, (B0 ((rd A8 a1.1 r4.1.toNat).2.1 + 1)), (0, 0, 0, 0, 0, [], ByteArray.empty, [], 0, ()), 0, 0, ()), r14.2.1, ())))))) (br (v4 == 2) (bd (O5 k r5.2.1 a1.2.1 2) fun r22 => (some ((v4, (rd A8 a1.1 r4.1.toNat).1, (B0 ((rd A8 a1.1 r4.1.toNat).2.1 + 1)), (0, r22.1.2.1, r22.1.2.2.1, r22.1.2.2.2.1, r22.1.2.2.2.2.1, r22.1.2.2.2.2.2.1, r22.1.2.2.2.2.2.2.1, [], 0, ()), 0, 0, ()), r22.2.1, ()))) (br (v4 == 3) (bd (C7 k r5.2.1 40) fun r23 => (bd (O5 k r23.2.1 a1.2.1 (B0 ((B0 (2 * r23.1)) + 1))) fun r24 => (bd (N1 k r24.1) fun r25 => (br (!r25) (bd (C7 k r24.2.1 40) fun r26 => (some ((v4, (rd A8 a1.1 r4.1.toNat).1, (B0 ((rd A8 a1.1 r4.1.toNat).2.1 + 1)), ((B0 (101 + (B0 (2 * r26.1)))), r24.1.2), 0, 0, ()), r26.2.1, ()))) (some ((v4, (rd A8 a1.1 r4.1.toNat).1, (B0 ((rd A8 a1.1 r4.1.toNat).2.1 + 1)), r24.1, 0, 0, ()), r24.2.1, ())))))) (br (v4 == 4) (bd (C7 k r5.2.1 2) fun r27 => (bd (C7 k r27.2.1 6) fun r28 => (some ((v4, (rd A8 a1.1 r4.1.toNat).1, (B0 ((rd A8 a1.1 r4.1.toNat).2.1 + 1)), (0, 0, 0, 0, 0, [], ByteArray.empty, [], 0, ()), (B0 (1 + r27.1)), r28.1, ()), r28.2.1, ())))) (some ((v4, (rd A8 a1.1 r4.1.toNat).1, (B0 ((rd A8 a1.1 r4.1.toNat).2.1 + 1)), (0, 0, 0, 0, 0, [], ByteArray.empty, [], 0, ()), 0, 0, ()), r5.2.1, ()))))))))))) (br (v4 == 2) (bd (O5 k (v1, v2, v3, ()) a1.2.1 2) fun r29 => (some ((v4, 0, 0, (0, r29.1.2.1, r29.1.2.2.1, r29.1.2.2.2.1, r29.1.2.2.2.2.1, r29.1.2.2.2.2.2.1, r29.1.2.2.2.2.2.2.1, [], 0, ()), 0, 0, ()), r29.2.1, ()))) (br (v4 == 3) (bd (C7 k (v1, v2, v3, ()) 40) fun r30 => (bd (O5 k r30.2.1 a1.2.1 (B0 ((B0 (2 * r30.1)) + 1))) fun r31 => (bd (N1 k r31.1) fun r32 => (br (!r32) (bd (C7 k r31.2.1 40) fun r33 => (some ((v4, 0, 0, ((B0 (101 + (B0 (2 * r33.1)))), r31.1.2), 0, 0, ()), r33.2.1, ()))) (some ((v4, 0, 0, r31.1, 0, 0, ()), r31.2.1, ())))))) (br (v4 == 4) (bd (C7 k (v1, v2, v3, ()) 2) fun r34 => (bd (C7 k r34.2.1 6) fun r35 => (some ((v4, 0, 0, (0, 0, 0, 0, 0, [], ByteArray.empty, [], 0, ()), (B0 (1 + r34.1)), r35.1, ()), r35.2.1, ())))) (some ((v4, 0, 0, (0, 0, 0, 0, 0, [], ByteArray.empty, [], 0, ()), 0, 0, ()), (v1, v2, v3, ()), ())))))) (br (v4 == 2) (bd (O5 k (v1, v2, v3, ()) a1.2.1 2) fun r36 => (some ((v4, 0, 0, (0, r36.1.2.1, r36.1.2.2.1, r36.1.2.2.2.1, r36.1.2.2.2.2.1, r36.1.2.2.2.2.2.1, r36.1.2.2.2.2.2.2.1, [], 0, ()), 0, 0, ()), r36.2.1, ()))) (br (v4 == 3) (bd (C7 k (v1, v2, v3, ()) 40) fun r37 => (bd (O5 k r37.2.1 a1.2.1 (B0 ((B0 (2 * r37.1)) + 1))) fun r38 => (bd (N1 k r38.1) fun r39 => (br (!r39) (bd (C7 k r38.2.1 40) fun r40 => (some ((v4, 0, 0, ((B0 (101 + (B0 (2 * r40.1)))), r38.1.2), 0, 0, ()), r40.2.1, ()))) (some ((v4, 0, 0, r38.1, 0, 0, ()), r38.2.1, ())))))) (br (v4 == 4) (bd (C7 k (v1, v2, v3, ()) 2) fun r41 => (bd (C7 k r41.2.1 6) fun r42 => (some ((v4, 0, 0, (0, 0, 0, 0, 0, [], ByteArray.empty, [], 0, ()), (B0 (1 + r41.1)), r42.1, ()), r42.2.1, ())))) (some ((v4, 0, 0, (0, 0, 0, 0, 0, [], ByteArray.empty, [], 0, ()), 0, 0, ()), (v1, v2, v3, ()), ()))))))
def U1 (k : Nat) : Nat → List Int → Int → Int → Ar1 → Int → Option (I1 × A5 × Unit)
 | 0, _, _, _, _, _ => none
 | n + 1, v1, v2, v3, a1, v4 => Ay9 k v1 v2 v3 a1 v4
def Bx7 (k : Nat) (L0 : List Int → Int → Int → Ar1 → Int → Option (I1 × A5 × Unit)) (a0 : A5) (a1 : Ar1) : Option (I1 × A5 × Unit) := (bd (Ad2 k a0 [1, 2, 2, 2, 2, 2, 2, 3, 3, 4, 5]) fun r1 => (br ((a1.1.length : Int) == 0) (bd (P4 k r1.2.1 8) fun r2 => (br (!r2.1) (br (decide ((a1.1.length : Int) > 0)) (bd (P4 k r2.2.1 3) fun r3 => (br (!r3.1) (L0 r3.2.1.1 r3.2.1.2.1 r3.2.1.2.2.1 a1 2) (L0 r3.2.1.1 r3.2.1.2.1 r3.2.1.2.2.1 a1 1))) (L0 r2.2.1.1 r2.2.1.2.1 r2.2.1.2.2.1 a1 1)) (br (r1.1 == 1) (br (decide ((a1.1.length : Int) > 0)) (bd (P4 k r2.2.1 3) fun r43 => (br (!r43.1) (L0 r43.2.1.1 r43.2.1.2.1 r43.2.1.2.2.1 a1 2) (L0 r43.2.1.1 r43.2.1.2.1 r43.2.1.2.2.1 a1 r1.1))) (L0 r2.2.1.1 r2.2.1.2.1 r2.2.1.2.2.1 a1 r1.1)) (L0 r2.2.1.1 r2.2.1.2.1 r2.2.1.2.2.1 a1 r1.1)))) (br (r1.1 == 1) (br (decide ((a1.1.length : Int) > 0)) (bd (P4 k r1.2.1 3) fun r44 => (br (!r44.1) (L0 r44.2.1.1 r44.2.1.2.1 r44.2.1.2.2.1 a1 2) (L0 r44.2.1.1 r44.2.1.2.1 r44.2.1.2.2.1 a1 r1.1))) (L0 r1.2.1.1 r1.2.1.2.1 r1.2.1.2.2.1 a1 r1.1)) (L0 r1.2.1.1 r1.2.1.2.1 r1.2.1.2.2.1 a1 r1.1))))
def Am3 (k : Nat) (a0 : A5) (a1 : Ar1) : Option (I1 × A5 × Unit) := Bx7 k (U1 k k) a0 a1
end
def A62 (k : Nat) (a0 : A5) : Option (I1 × A5 × Unit) := (bd (Bh5 k) fun r1 => (bd (C7 k a0 5) fun r2 => (bd (C7 k r2.2.1 4) fun r3 => (bd (Am3 k r3.2.1 (([((B0 (1 + r2.1)), r3.1, ByteArray.empty, ())] : List B2), r1.2)) fun r4 => (some (r4.1, r4.2.1, ()))))))
def Ai2 (k : Nat) (a0 : A5) (a1 : Int) : Option (B2 × A5 × Unit) := (bd (Ad2 k a0 [1, 2, 3, 3, 3]) fun r1 => (br (r1.1 == 2) (bd (Bh4 k r1.2.1) fun r2 => (bd (A61 k r2.1) fun r3 => (some ((a1, r1.1, r3.1, ()), r2.2.1, ())))) (br (r1.1 == 3) (bd (A62 k r1.2.1) fun r4 => (bd (u4 k r4.1) fun r5 => (some ((a1, r1.1, r5.1, ()), r4.2.1, ())))) (some ((a1, r1.1, ByteArray.empty, ()), r1.2.1, ())))))
def Ar8 (k : Nat) (a0 : B7) (a1 : Int) : Option Int := (br (a1 == a0.1) (some a0.2.1) (br (decide (a1 < a0.1)) (some (-1)) (bd (Ac9 k a0) fun r1 => (br (decide (a1 > r1)) (some (-1)) (gd (decide (0 ≤ (B0 ((B0 (a1 - a0.1)) - 1)))) (gd (decide ((B0 ((B0 (a1 - a0.1)) - 1)) < (a0.2.2.1.length : Int))) (some (rd A8 a0.2.2.1 (B0 ((B0 (a1 - a0.1)) - 1)).toNat).1)))))))
def Av9 (k : Nat) (a0 : B7) (a1 : Int) (a2 : Int) : Option B7 := (bd (A19 k a0) fun r1 => (br r1 (bd (Ac9 k a0) fun r2 => (bd (E9 k a1 a0.1 r2) fun r3 => (br r3 (bd (Ar8 k a0 a1) fun r4 => (br (r4 == a2) (gd (decide (0 ≤ (B0 (a1 - a0.1)))) (gd (decide ((B0 (a1 - a0.1)) ≤ (a0.2.2.1.length : Int))) (gd (decide (([] : List B2).length + (a0.2.2.1.drop (B0 (a1 - a0.1)).toNat).length ≤ A2)) (some (a1, a2, (([] : List B2) ++ (a0.2.2.1.drop (B0 (a1 - a0.1)).toNat)), ()))))) (some (a1, a2, [], ())))) (some (a1, a2, [], ()))))) (some (a1, a2, [], ()))))
noncomputable section
def Bn3 (k : Nat) (L0 : Int → Int → List Int → Int → Int → B7 → List B2 → Option (B7 × A5 × Unit)) (v1 : Int) (v2 : Int) (v3 : List Int) (v4 : Int) (v5 : Int) (a1 : B7) (xs6 : List B2) : Option (B7 × A5 × Unit) := (bd (C7 k (v3, v4, v5, ()) 4) fun r4 => (br (decide (v2 < r4.1)) (bd (C7 k r4.2.1 2) fun r5 => (bd (Ai2 k r5.2.1 (B0 (v1 + r5.1))) fun r6 => (gd (decide (xs6.length + ([r6.1] : List B2).length ≤ A2)) (bd (Aj7 k (a1.1, a1.2.1, (xs6 ++ ([r6.1] : List B2)), ())) fun r7 => (L0 r7.2 (B0 (v2 + 1)) r6.2.1.1 r6.2.1.2.1 r6.2.1.2.2.1 a1 (xs6 ++ ([r6.1] : List B2))))))) (bd (P4 k r4.2.1 4) fun r8 => (br r8.1 (bd (C7 k r8.2.1 (B0 ((xs6.length : Int) + 1))) fun r9 => (bd (Ar8 k (a1.1, a1.2.1, xs6, ()) (B0 (a1.1 + r9.1))) fun r10 => (bd (Av9 k (a1.1, a1.2.1, xs6, ()) (B0 (a1.1 + r9.1)) r10) fun r11 => (some (r11, r9.2.1, ()))))) (some ((a1.1, a1.2.1, xs6, ()), r8.2.1, ()))))))
def U9 (k : Nat) : Nat → Int → Int → List Int → Int → Int → B7 → List B2 → Option (B7 × A5 × Unit)
 | 0, _, _, _, _, _, _, _ => none
 | n + 1, v1, v2, v3, v4, v5, a1, xs6 => Bn3 k (U9 k n) v1 v2 v3 v4 v5 a1 xs6
def Cx0 (k : Nat) (L0 : Int → Int → List Int → Int → Int → B7 → List B2 → Option (B7 × A5 × Unit)) (a0 : A5) (a1 : B7) : Option (B7 × A5 × Unit) := (bd (Aj7 k a1) fun r1 => (bd (P4 k a0 2) fun r2 => (br r2.1 (bd (C7 k r2.2.1 (B0 ((a1.2.2.1.length : Int) + 1))) fun r3 => (gd (decide (0 ≤ r3.1)) (gd (decide (r3.1 ≤ (a1.2.2.1.length : Int))) (gd (decide (([] : List B2).length + (a1.2.2.1.take r3.1.toNat).length ≤ A2)) (L0 r1.2 0 r3.2.1.1 r3.2.1.2.1 r3.2.1.2.2.1 a1 (([] : List B2) ++ (a1.2.2.1.take r3.1.toNat))))))) (gd (decide (0 ≤ (a1.2.2.1.length : Int))) (gd (decide ((a1.2.2.1.length : Int) ≤ (a1.2.2.1.length : Int))) (gd (decide (([] : List B2).length + (a1.2.2.1.take (a1.2.2.1.length : Int).toNat).length ≤ A2)) (L0 r1.2 0 r2.2.1.1 r2.2.1.2.1 r2.2.1.2.2.1 a1 (([] : List B2) ++ (a1.2.2.1.take (a1.2.2.1.length : Int).toNat)))))))))
def Bh6 (k : Nat) (a0 : A5) (a1 : B7) : Option (B7 × A5 × Unit) := Cx0 k (U9 k k) a0 a1
end
def Ad5 (k : Nat) (a0 : A5) (a1 : A0) : Option (A0 × A5 × Unit) := (bd (Aj5 k a1) fun r1 => (bd (Bh6 k a0 a1.2.2.2.1) fun r2 => (bd (P4 k r2.2.1 2) fun r3 => (br r3.1 (bd (C7 k r3.2.1 3) fun r4 => (bd (C7 k r4.2.1 5) fun r5 => (some ((r1.1, (B0 (a1.2.1 + r4.1)), r5.1, r2.1, ()), r5.2.1, ())))) (some ((r1.1, r1.2.1, r1.2.2.1, r2.1, ()), r3.2.1, ()))))))
noncomputable section
def Bn4 (k : Nat) (L1 : Int → List Int → Int → Int → Int → Int → Int → Int → Int → List B2 → List C2 → Option ((B4 × A0) × A5 × Unit)) (v5 : Int) (v6 : List Int) (v7 : Int) (v8 : Int) (v9 : Int) (v10 : Int) (v11 : Int) (v12 : Int) (v13 : Int) (xs14 : List B2) (xs15 : List C2) : Option ((B4 × A0) × A5 × Unit) := (bd (C7 k (v6, v7, v8, ()) 4) fun r7 => (br (decide (v5 < r7.1)) (bd (Ad5 k r7.2.1 (v9, v10, v11, (v12, v13, xs14, ()), ())) fun r8 => (bd (V4 k (xs15, ()) (v9, v10, v11, (v12, v13, xs14, ()), ()) r8.1) fun r9 => (br r9.2.2 (bd (Av7 k (xs15, ()) r9.1) fun r10 => (L1 (B0 (v5 + 1)) r8.2.1.1 r8.2.1.2.1 r8.2.1.2.2.1 r9.2.1.1 r9.2.1.2.1 r9.2.1.2.2.1 r9.2.1.2.2.2.1.1 r9.2.1.2.2.2.1.2.1 r9.2.1.2.2.2.1.2.2.1 r10.1.1)) (L1 (B0 (v5 + 1)) r8.2.1.1 r8.2.1.2.1 r8.2.1.2.2.1 v9 v10 v11 v12 v13 xs14 xs15)))) (some (((xs15, ()), (v9, v10, v11, (v12, v13, xs14, ()), ())), r7.2.1, ()))))
def Bn5 (k : Nat) (L1 : Int → List Int → Int → Int → Int → Int → Int → Int → Int → List B2 → List C2 → Option ((B4 × A0) × A5 × Unit)) (L0 : Int → List Int → Int → Int → A0 → ByteArray → (ByteArray × Bool) → Option ((B4 × A0) × A5 × Unit)) (v1 : Int) (v2 : List Int) (v3 : Int) (v4 : Int) (a1 : A0) (r2 : ByteArray) (r1 : ByteArray × Bool) : Option ((B4 × A0) × A5 × Unit) := (bd (C7 k (v2, v3, v4, ()) 4) fun r3 => (br (decide (v1 < r3.1)) (bd (Ad5 k r3.2.1 a1) fun r4 => (bd (V4 k (([(r2, r1.1, (r1.1.size : Int), ())] : List C2), ()) a1 r4.1) fun r5 => (br r5.2.2 (bd (Av7 k (([(r2, r1.1, (r1.1.size : Int), ())] : List C2), ()) r5.1) fun r6 => (L1 (B0 (v1 + 1)) r4.2.1.1 r4.2.1.2.1 r4.2.1.2.2.1 r5.2.1.1 r5.2.1.2.1 r5.2.1.2.2.1 r5.2.1.2.2.2.1.1 r5.2.1.2.2.2.1.2.1 r5.2.1.2.2.2.1.2.2.1 r6.1.1)) (L0 (B0 (v1 + 1)) r4.2.1.1 r4.2.1.2.1 r4.2.1.2.2.1 a1 r2 r1)))) (some (((([(r2, r1.1, (r1.1.size : Int), ())] : List C2), ()), a1), r3.2.1, ()))))
def Ad6 (k : Nat) : Nat → Int → List Int → Int → Int → Int → Int → Int → Int → Int → List B2 → List C2 → Option ((B4 × A0) × A5 × Unit)
 | 0, _, _, _, _, _, _, _, _, _, _, _ => none
 | n + 1, v5, v6, v7, v8, v9, v10, v11, v12, v13, xs14, xs15 => Bn4 k (Ad6 k n) v5 v6 v7 v8 v9 v10 v11 v12 v13 xs14 xs15
def n8 (k : Nat) : Nat → Int → List Int → Int → Int → A0 → ByteArray → (ByteArray × Bool) → Option ((B4 × A0) × A5 × Unit)
 | 0, _, _, _, _, _, _, _ => none
 | n + 1, v1, v2, v3, v4, a1, r2, r1 => Bn5 k (Ad6 k n) (n8 k n) v1 v2 v3 v4 a1 r2 r1
def Bx8 (k : Nat) (L0 : Int → List Int → Int → Int → A0 → ByteArray → (ByteArray × Bool) → Option ((B4 × A0) × A5 × Unit)) (a0 : A5) (a1 : A0) : Option ((B4 × A0) × A5 × Unit) := (bd (u3 k a1) fun r1 => (bd (V3 k a1.1) fun r2 => (L0 0 a0.1 a0.2.1 a0.2.2.1 a1 r2 r1)))
def Ak0 (k : Nat) (a0 : A5) (a1 : A0) : Option ((B4 × A0) × A5 × Unit) := Bx8 k (n8 k k) a0 a1
end
noncomputable section
def Bc9 (k : Nat) (L0 : Int → Int → List Int → Int → Int → (Int × A5 × Unit) → (Int × A5 × Unit) → (Int × A5 × Unit) → List B2 → Option (B7 × A5 × Unit)) (v1 : Int) (v2 : Int) (v3 : List Int) (v4 : Int) (v5 : Int) (r1 : Int × A5 × Unit) (r2 : Int × A5 × Unit) (r3 : Int × A5 × Unit) (xs6 : List B2) : Option (B7 × A5 × Unit) := (bd (C7 k (v3, v4, v5, ()) 8) fun r4 => (br (decide (v2 < r4.1)) (bd (P4 k r4.2.1 3) fun r5 => (br r5.1 (bd (C7 k r5.2.1 2) fun r6 => (bd (Ai2 k r6.2.1 (B0 ((B0 (v1 + 1)) + r6.1))) fun r7 => (gd (decide (xs6.length + ([r7.1] : List B2).length ≤ A2)) (L0 (B0 ((B0 (v1 + 1)) + r6.1)) (B0 (v2 + 1)) r7.2.1.1 r7.2.1.2.1 r7.2.1.2.2.1 r1 r2 r3 (xs6 ++ ([r7.1] : List B2)))))) (bd (Ai2 k r5.2.1 v1) fun r8 => (gd (decide (xs6.length + ([r8.1] : List B2).length ≤ A2)) (L0 v1 (B0 (v2 + 1)) r8.2.1.1 r8.2.1.2.1 r8.2.1.2.2.1 r1 r2 r3 (xs6 ++ ([r8.1] : List B2))))))) (some (((B0 (r1.1 * r2.1)), r3.1, xs6, ()), r4.2.1, ()))))
def Z4 (k : Nat) : Nat → Int → Int → List Int → Int → Int → (Int × A5 × Unit) → (Int × A5 × Unit) → (Int × A5 × Unit) → List B2 → Option (B7 × A5 × Unit)
 | 0, _, _, _, _, _, _, _, _, _ => none
 | n + 1, v1, v2, v3, v4, v5, r1, r2, r3, xs6 => Bc9 k (Z4 k n) v1 v2 v3 v4 v5 r1 r2 r3 xs6
def Ci3 (k : Nat) (L0 : Int → Int → List Int → Int → Int → (Int × A5 × Unit) → (Int × A5 × Unit) → (Int × A5 × Unit) → List B2 → Option (B7 × A5 × Unit)) (a0 : A5) : Option (B7 × A5 × Unit) := (bd (C7 k a0 3) fun r1 => (bd (C7 k r1.2.1 4) fun r2 => (bd (C7 k r2.2.1 3) fun r3 => (L0 r3.1 0 r3.2.1.1 r3.2.1.2.1 r3.2.1.2.2.1 r1 r2 r3 []))))
def A63 (k : Nat) (a0 : A5) : Option (B7 × A5 × Unit) := Ci3 k (Z4 k k) a0
end
def Ai3 (k : Nat) (a0 : A5) : Option (A0 × A5 × Unit) := (bd (A63 k a0) fun r1 => (bd (Aj7 k r1.1) fun r2 => (bd (C7 k r1.2.1 5) fun r3 => (bd (C7 k r3.2.1 2) fun r4 => (bd (C7 k r4.2.1 5) fun r5 => (some ((r3.1, (B0 (r2.2 + r4.1)), r5.1, r1.1, ()), r5.2.1, ())))))))
noncomputable section
def Am4 (k : Nat) (L0 : List Int → Int → Int → Option (B4 × A0 × A0)) (a0 : List Int) (v1 : Int) (v2 : Int) : Option (B4 × A0 × A0) := (br (decide (v2 < (a0.length : Int))) (br (decide (v2 < 4000)) (gd (decide (0 ≤ v2)) (gd (decide (v2 < (a0.length : Int))) (L0 a0 (Ej4 .i64 (B0 ((B0 ((B0 (v1 * 131)) + (B0 (rd 0 a0 v2.toNat)))) + 7)) 1073741823) (B0 (v2 + 1))))) (bd (Ai3 k (a0, 0, v1, ())) fun r1 => (bd (Ak0 k r1.2.1 r1.1) fun r2 => (bd (Ad5 k r2.2.1 r2.1.2) fun r3 => (some (r2.1.1, r2.1.2, r3.1)))))) (bd (Ai3 k (a0, 0, v1, ())) fun r4 => (bd (Ak0 k r4.2.1 r4.1) fun r5 => (bd (Ad5 k r5.2.1 r5.1.2) fun r6 => (some (r5.1.1, r5.1.2, r6.1))))))
def O9 (k : Nat) : Nat → List Int → Int → Int → Option (B4 × A0 × A0)
 | 0, _, _, _ => none
 | n + 1, a0, v1, v2 => Am4 k (O9 k n) a0 v1 v2
def Ar2 (k : Nat) (L0 : List Int → Int → Int → Option (B4 × A0 × A0)) (a0 : List Int) : Option (B4 × A0 × A0) := (L0 a0 (B0 (13101 + (a0.length : Int))) 0)
def U4 (k : Nat) (a0 : List Int) : Option (B4 × A0 × A0) := Ar2 k (O9 k k) a0
end
def M7 (k : Nat) (a0 : Int) (a1 : Int) (a2 : Int) : Option Bool := (br (decide (a0 ≥ a1)) (some (decide (a0 ≤ a2))) (some false))
noncomputable section
def Bb3 (k : Nat) (L0 : List Int → Int → Option Bool) (a0 : List Int) (v1 : Int) : Option Bool := (br (decide (v1 < (a0.length : Int))) (gd (decide (0 ≤ v1)) (gd (decide (v1 < (a0.length : Int))) (bd (M7 k (rd 0 a0 v1.toNat) 1 4) fun r1 => (br (!r1) (some false) (br (decide (v1 > 0)) (gd (decide (0 ≤ (B0 (v1 - 1)))) (gd (decide ((B0 (v1 - 1)) < (a0.length : Int))) (br (decide ((rd 0 a0 (B0 (v1 - 1)).toNat) ≥ (rd 0 a0 v1.toNat))) (some false) (L0 a0 (B0 (v1 + 1)))))) (L0 a0 (B0 (v1 + 1)))))))) (bd (M7 k (a0.length : Int) 1 4) fun r2 => (some r2)))
def l6 (k : Nat) : Nat → List Int → Int → Option Bool
 | 0, _, _ => none
 | n + 1, a0, v1 => Bb3 k (l6 k n) a0 v1
def Df3 (k : Nat) (L0 : List Int → Int → Option Bool) (a0 : List Int) : Option Bool := (L0 a0 0)
def Bx9 (k : Nat) (a0 : List Int) : Option Bool := Df3 k (l6 k k) a0
end
noncomputable section
def Bd0 (k : Nat) (L0 : ByteArray → Int → List Int → Option (List Int × Bool)) (a0 : ByteArray) (v1 : Int) (xs2 : List Int) : Option (List Int × Bool) := (br (decide (v1 < (a0.size : Int))) (gd (decide (0 ≤ v1)) (gd (decide (v1 < (a0.size : Int))) (gd (decide (xs2.length + [(B0 (bt a0 v1.toNat))].length ≤ A2)) (L0 a0 (B0 (v1 + 1)) (xs2 ++ [(B0 (bt a0 v1.toNat))]))))) (bd (Bx9 k xs2) fun r1 => (br (!r1) (some ([], false)) (some (xs2, true)))))
def Z5 (k : Nat) : Nat → ByteArray → Int → List Int → Option (List Int × Bool)
 | 0, _, _, _ => none
 | n + 1, a0, v1, xs2 => Bd0 k (Z5 k n) a0 v1 xs2
def Ci4 (k : Nat) (L0 : ByteArray → Int → List Int → Option (List Int × Bool)) (a0 : ByteArray) : Option (List Int × Bool) := (L0 a0 0 [])
def A64 (k : Nat) (a0 : ByteArray) : Option (List Int × Bool) := Ci4 k (Z5 k k) a0
end
def Ak1 (k : Nat) (a0 : B2) : Option Bool := (bd (M7 k a0.1 0 100000) fun r1 => (br (!r1) (some false) (br (a0.2.1 == 1) (some (a0.2.2.1.toList == (⟨#[]⟩ : ByteArray).toList)) (br (a0.2.1 == 2) (bd (A64 k a0.2.2.1) fun r2 => (some r2.2)) (br (a0.2.1 == 3) (some (decide ((a0.2.2.1.size : Int) ≤ 120))) (some false))))))
noncomputable section
def Bn6 (k : Nat) (L0 : Int → B7 → Int → Option Bool) (v1 : Int) (a0 : B7) (v2 : Int) : Option Bool := (br (decide (v2 < (a0.2.2.1.length : Int))) (gd (decide (0 ≤ v2)) (gd (decide (v2 < (a0.2.2.1.length : Int))) (bd (Ak1 k (rd A8 a0.2.2.1 v2.toNat)) fun r3 => (br (!r3) (some false) (br (decide ((rd A8 a0.2.2.1 v2.toNat).1 < v1)) (some false) (L0 (rd A8 a0.2.2.1 v2.toNat).1 a0 (B0 (v2 + 1)))))))) (some true))
def Ab1 (k : Nat) : Nat → Int → B7 → Int → Option Bool
 | 0, _, _, _ => none
 | n + 1, v1, a0, v2 => Bn6 k (Ab1 k n) v1 a0 v2
def D15 (k : Nat) (L0 : Int → B7 → Int → Option Bool) (a0 : B7) : Option Bool := (bd (M7 k a0.1 0 1000000) fun r1 => (br (!r1) (some false) (bd (M7 k a0.2.1 0 100000) fun r2 => (br (!r2) (some false) (br (decide ((a0.2.2.1.length : Int) > 60)) (some false) (br (decide ((B0 (a0.1 + (a0.2.2.1.length : Int))) > 1000000)) (some false) (L0 a0.2.1 a0 0)))))))
def Bb4 (k : Nat) (a0 : B7) : Option Bool := D15 k (Ab1 k k) a0
end
def Y7 (k : Nat) (a0 : A0) : Option Bool := (bd (M7 k a0.1 0 999) fun r1 => (br r1 (bd (M7 k a0.2.1 0 100000) fun r2 => (br r2 (bd (M7 k a0.2.2.1 0 4) fun r3 => (br r3 (bd (Bb4 k a0.2.2.2.1) fun r4 => (some r4)) (some false))) (some false))) (some false)))
noncomputable section
def A23 (k : Nat) (L0 : Int → List Int → Option (ByteArray × Bool)) (a0 : Int) (xs1 : List Int) : Option (ByteArray × Bool) := (br (decide (a0 > 127)) (ng (a0 == a0 && (128 : Int) == 0) (gd (decide (xs1.length + [(IntKind.wrap .u8 (B0 ((Int.tmod a0 128) + 128)))].length ≤ A2)) (ng (a0 == a0 && (128 : Int) == 0) (L0 (B0 (Int.tdiv a0 128)) (xs1 ++ [(IntKind.wrap .u8 (B0 ((Int.tmod a0 128) + 128)))]))))) (gd (decide (xs1.length + [(IntKind.wrap .u8 a0)].length ≤ A2)) (some ((B6 (xs1 ++ [(IntKind.wrap .u8 a0)])), true))))
def n9 (k : Nat) : Nat → Int → List Int → Option (ByteArray × Bool)
 | 0, _, _ => none
 | n + 1, a0, xs1 => A23 k (n9 k n) a0 xs1
def Bb5 (k : Nat) (L0 : Int → List Int → Option (ByteArray × Bool)) (a0 : Int) : Option (ByteArray × Bool) := (bd (M7 k a0 0 1000000000) fun r1 => (br (!r1) (some ((⟨#[]⟩ : ByteArray), false)) (L0 a0 [])))
def X9 (k : Nat) (a0 : Int) : Option (ByteArray × Bool) := Bb5 k (n9 k k) a0
end
noncomputable section
def Bn7 (k : Nat) (L1 : Int → ByteArray → Int → Int → Option Int) (a0 : Int) (a1 : ByteArray) (v1 : Int) : Option Int := (br (decide (v1 < (a1.size : Int))) (gd (decide (0 ≤ v1)) (gd (decide (v1 < (a1.size : Int))) (L1 (Fv1 .u32 a0 (IntKind.wrap .u32 (bt a1 v1.toNat))) a1 v1 0))) (some a0))
def Bn8 (k : Nat) (L1 : Int → ByteArray → Int → Int → Option Int) (L0 : Int → ByteArray → Int → Option Int) (v2 : Int) (a1 : ByteArray) (v1 : Int) (v3 : Int) : Option Int := (br (decide (v3 < 8)) (ng (v2 == v2 && (2 : Int) == 0) (ng (v2 == v2 && (2 : Int) == 0) (br ((Int.tmod v2 2) == 1) (L1 (Fv1 .u32 (IntKind.wrap .u32 (Int.tdiv v2 2)) 3558460437) a1 v1 (B0 (v3 + 1))) (L1 (IntKind.wrap .u32 (Int.tdiv v2 2)) a1 v1 (B0 (v3 + 1)))))) (L0 v2 a1 (B0 (v1 + 1))))
def S1 (k : Nat) : Nat → (Int → ByteArray → Int → Option Int) × (Int → ByteArray → Int → Int → Option Int)
 | 0 => (fun _ _ _ => none, fun _ _ _ _ => none)
 | n + 1 => (Bn7 k (S1 k n).2, Bn8 k (S1 k n).2 (S1 k n).1)
def Bn9 (k : Nat) (n : Nat) : Int → ByteArray → Int → Option Int := (S1 k n).1
def D84 (k : Nat) (n : Nat) : Int → ByteArray → Int → Int → Option Int := (S1 k n).2
def Cx1 (k : Nat) (L0 : Int → ByteArray → Int → Option Int) (a0 : Int) (a1 : ByteArray) : Option Int := (L0 a0 a1 0)
def B66 (k : Nat) (a0 : Int) (a1 : ByteArray) : Option Int := Cx1 k (Bn9 k k) a0 a1
end
def Ci5 (k : Nat) (a0 : ByteArray) : Option Int := (bd (B66 k 4294967295 a0) fun r1 => (some r1))
def o0 (k : Nat) (a0 : ByteArray) : Option (ByteArray × Bool) := (bd (M7 k (a0.size : Int) 1 9000) fun r1 => (br (!r1) (some ((⟨#[]⟩ : ByteArray), false)) (bd (X9 k (a0.size : Int)) fun r2 => (bd (Ci5 k a0) fun r3 => (gd (decide (r2.1.size + (B6 [(IntKind.wrap .u8 (Int.fdiv r3 (2 ^ 24))), (IntKind.wrap .u8 (Int.fdiv r3 (2 ^ 16))), (IntKind.wrap .u8 (Int.fdiv r3 (2 ^ 8))), (IntKind.wrap .u8 r3)]).size ≤ A2)) (gd (decide ((r2.1 ++ (B6 [(IntKind.wrap .u8 (Int.fdiv r3 (2 ^ 24))), (IntKind.wrap .u8 (Int.fdiv r3 (2 ^ 16))), (IntKind.wrap .u8 (Int.fdiv r3 (2 ^ 8))), (IntKind.wrap .u8 r3)])).size + a0.size ≤ A2)) (some (((r2.1 ++ (B6 [(IntKind.wrap .u8 (Int.fdiv r3 (2 ^ 24))), (IntKind.wrap .u8 (Int.fdiv r3 (2 ^ 16))), (IntKind.wrap .u8 (Int.fdiv r3 (2 ^ 8))), (IntKind.wrap .u8 r3)])) ++ a0), true))))))))
noncomputable section
def B67 (k : Nat) (L0 : List Int → Int → List Int → Option (ByteArray × Bool)) (a0 : List Int) (v1 : Int) (xs2 : List Int) : Option (ByteArray × Bool) := (br (decide (v1 < (a0.length : Int))) (gd (decide (0 ≤ v1)) (gd (decide (v1 < (a0.length : Int))) (bd (X9 k (rd 0 a0 v1.toNat)) fun r1 => (br (!r1.2) (some ((⟨#[]⟩ : ByteArray), false)) (gd (decide (xs2.length + (D5 r1.1).length ≤ A2)) (L0 a0 (B0 (v1 + 1)) (xs2 ++ (D5 r1.1)))))))) (some ((B6 xs2), true)))
def Ar9 (k : Nat) : Nat → List Int → Int → List Int → Option (ByteArray × Bool)
 | 0, _, _, _ => none
 | n + 1, a0, v1, xs2 => B67 k (Ar9 k n) a0 v1 xs2
def Df4 (k : Nat) (L0 : List Int → Int → List Int → Option (ByteArray × Bool)) (a0 : List Int) : Option (ByteArray × Bool) := (L0 a0 0 [])
def Cd4 (k : Nat) (a0 : List Int) : Option (ByteArray × Bool) := Df4 k (Ar9 k k) a0
end
def K7 (k : Nat) (a0 : ByteArray) (a1 : Int) (a2 : Int) : Option ByteArray := (bd (Cd4 k [a1, a2]) fun r1 => (gd (decide (a0.size + r1.1.size ≤ A2)) (bd (o0 k (a0 ++ r1.1)) fun r2 => (some r2.1))))
def Ak2 (k : Nat) (a0 : Int) (a1 : B2) : Option (ByteArray × Bool) := (bd (Ak1 k a1) fun r1 => (br (!r1) (some ((⟨#[]⟩ : ByteArray), false)) (bd (M7 k a0 1 1000000) fun r2 => (br (!r2) (some ((⟨#[]⟩ : ByteArray), false)) (bd (Cd4 k [a0, a1.1]) fun r3 => (gd (decide ((⟨#[69]⟩ : ByteArray).size + r3.1.size ≤ A2)) (gd (decide (((⟨#[69]⟩ : ByteArray) ++ r3.1).size + (B6 [(IntKind.wrap .u8 a1.2.1)]).size ≤ A2)) (gd (decide ((((⟨#[69]⟩ : ByteArray) ++ r3.1) ++ (B6 [(IntKind.wrap .u8 a1.2.1)])).size + a1.2.2.1.size ≤ A2)) (some (((((⟨#[69]⟩ : ByteArray) ++ r3.1) ++ (B6 [(IntKind.wrap .u8 a1.2.1)])) ++ a1.2.2.1), true))))))))))
noncomputable section
def Ad7 (k : Nat) (L0 : Int → B7 → List Int → Option ByteArray) (a1 : Int) (a0 : B7) (xs1 : List Int) : Option ByteArray := (br (decide (a1 < (a0.2.2.1.length : Int))) (gd (decide (0 ≤ a1)) (gd (decide (a1 < (a0.2.2.1.length : Int))) (bd (Ak2 k (B0 ((B0 (a0.1 + a1)) + 1)) (rd A8 a0.2.2.1 a1.toNat)) fun r1 => (bd (o0 k r1.1) fun r2 => (gd (decide (xs1.length + (D5 r2.1).length ≤ A2)) (L0 (B0 (a1 + 1)) a0 (xs1 ++ (D5 r2.1)))))))) (some (B6 xs1)))
def Q6 (k : Nat) : Nat → Int → B7 → List Int → Option ByteArray
 | 0, _, _, _ => none
 | n + 1, a1, a0, xs1 => Ad7 k (Q6 k n) a1 a0 xs1
def Bs2 (k : Nat) (L0 : Int → B7 → List Int → Option ByteArray) (a0 : B7) (a1 : Int) : Option ByteArray := (L0 a1 a0 [])
def G3 (k : Nat) (a0 : B7) (a1 : Int) : Option ByteArray := Bs2 k (Q6 k k) a0 a1
end
def Ag1 (k : Nat) (a0 : A0) : Option (ByteArray × Bool) := (bd (Y7 k a0) fun r1 => (br (!r1) (some ((⟨#[]⟩ : ByteArray), false)) (bd (K7 k (⟨#[66]⟩ : ByteArray) a0.2.2.2.1.1 a0.2.2.2.1.2.1) fun r2 => (bd (K7 k (⟨#[72]⟩ : ByteArray) a0.2.1 a0.2.2.1) fun r3 => (gd (decide (r2.size + r3.size ≤ A2)) (bd (G3 k a0.2.2.2.1 0) fun r4 => (gd (decide ((r2 ++ r3).size + r4.size ≤ A2)) (br (decide (((((r2 ++ r3) ++ r4).size : Nat) : Int) > 20000)) (some ((⟨#[]⟩ : ByteArray), false)) (some (((r2 ++ r3) ++ r4), true))))))))))
noncomputable section
def Am5 (k : Nat) (L0 : ByteArray → Int → Int → Int → Option (Int × Int × Bool)) (a0 : ByteArray) (a1 : Int) (v1 : Int) (v2 : Int) : Option (Int × Int × Bool) := (br (decide (v2 < 5)) (br (decide ((B0 (a1 + v2)) < (a0.size : Int))) (gd (decide (0 ≤ (B0 (a1 + v2)))) (gd (decide ((B0 (a1 + v2)) < (a0.size : Int))) (ng ((B0 (bt a0 (B0 (a1 + v2)).toNat)) == (B0 (bt a0 (B0 (a1 + v2)).toNat)) && (128 : Int) == 0) (ng (decide ((B0 (7 * v2)) < 0)) (br (decide ((B0 (bt a0 (B0 (a1 + v2)).toNat)) < 128)) (bd (X9 k (B0 (v1 + (B0 ((Int.tmod (B0 (bt a0 (B0 (a1 + v2)).toNat)) 128) * 2 ^ (min (B0 (7 * v2)).toNat 64)))))) fun r2 => (br (!r2.2) (some (0, 0, false)) (br ((r2.1.size : Int) != (B0 (v2 + 1))) (some (0, 0, false)) (some ((B0 (v1 + (B0 ((Int.tmod (B0 (bt a0 (B0 (a1 + v2)).toNat)) 128) * 2 ^ (min (B0 (7 * v2)).toNat 64))))), (B0 ((B0 (a1 + v2)) + 1)), true))))) (L0 a0 a1 (B0 (v1 + (B0 ((Int.tmod (B0 (bt a0 (B0 (a1 + v2)).toNat)) 128) * 2 ^ (min (B0 (7 * v2)).toNat 64))))) (B0 (v2 + 1)))))))) (some (0, 0, false))) (some (0, 0, false)))
def S3 (k : Nat) : Nat → ByteArray → Int → Int → Int → Option (Int × Int × Bool)
 | 0, _, _, _, _ => none
 | n + 1, a0, a1, v1, v2 => Am5 k (S3 k n) a0 a1 v1 v2
def By0 (k : Nat) (L0 : ByteArray → Int → Int → Int → Option (Int × Int × Bool)) (a0 : ByteArray) (a1 : Int) : Option (Int × Int × Bool) := (bd (M7 k a1 0 (a0.size : Int)) fun r1 => (br (!r1) (some (0, 0, false)) (L0 a0 a1 0 0)))
def u5 (k : Nat) (a0 : ByteArray) (a1 : Int) : Option (Int × Int × Bool) := By0 k (S3 k k) a0 a1
end
noncomputable section
def Bo0 (k : Nat) (L0 : ByteArray → Int → List ByteArray → Option (List ByteArray × Int)) (a0 : ByteArray) (v1 : Int) (xs2 : List ByteArray) : Option (List ByteArray × Int) := (bd (u5 k a0 v1) fun r1 => (br (!r1.2.2) (some (xs2, v1)) (br (decide (r1.1 > (B0 ((B0 ((a0.size : Int) - r1.2.1)) - 4)))) (some (xs2, v1)) (gd (decide (0 ≤ (B0 ((B0 (r1.2.1 + 4)) + r1.1)))) (gd (decide ((B0 ((B0 (r1.2.1 + 4)) + r1.1)) ≤ (a0.size : Int))) (gd (decide (0 ≤ (B0 (r1.2.1 + 4)))) (gd (decide ((B0 (r1.2.1 + 4)) ≤ (B0 ((B0 (r1.2.1 + 4)) + r1.1)))) (bd (o0 k (a0.extract (B0 (r1.2.1 + 4)).toNat (B0 ((B0 (r1.2.1 + 4)) + r1.1)).toNat)) fun r2 => (br (!r2.2) (some (xs2, v1)) (gd (decide (0 ≤ (B0 ((B0 (r1.2.1 + 4)) + r1.1)))) (gd (decide ((B0 ((B0 (r1.2.1 + 4)) + r1.1)) ≤ (a0.size : Int))) (gd (decide (0 ≤ v1)) (gd (decide (v1 ≤ (B0 ((B0 (r1.2.1 + 4)) + r1.1)))) (br (!(r2.1.toList == (a0.extract v1.toNat (B0 ((B0 (r1.2.1 + 4)) + r1.1)).toNat).toList)) (some (xs2, v1)) (gd (decide (xs2.length + [(a0.extract (B0 (r1.2.1 + 4)).toNat (B0 ((B0 (r1.2.1 + 4)) + r1.1)).toNat)].length ≤ A2)) (L0 a0 (B0 ((B0 (r1.2.1 + 4)) + r1.1)) (xs2 ++ [(a0.extract (B0 (r1.2.1 + 4)).toNat (B0 ((B0 (r1.2.1 + 4)) + r1.1)).toNat)])))))))))))))))))
def o5 (k : Nat) : Nat → ByteArray → Int → List ByteArray → Option (List ByteArray × Int)
 | 0, _, _, _ => none
 | n + 1, a0, v1, xs2 => Bo0 k (o5 k n) a0 v1 xs2
def Cx2 (k : Nat) (L0 : ByteArray → Int → List ByteArray → Option (List ByteArray × Int)) (a0 : ByteArray) : Option (List ByteArray × Int) := (br (decide ((a0.size : Int) > 20000)) (some ([], 0)) (L0 a0 0 []))
def Bh7 (k : Nat) (a0 : ByteArray) : Option (List ByteArray × Int) := Cx2 k (o5 k k) a0
end
def Y8 (k : Nat) (a0 : M9) : Option (Int × M9 × Unit) := (bd (u5 k a0.1 a0.2.1) fun r1 => (br a0.2.2.1 (some (0, (a0.1, a0.2.1, true, ()), ())) (br (!r1.2.2) (some (0, (a0.1, a0.2.1, true, ()), ())) (some (r1.1, (a0.1, r1.2.1, a0.2.2), ())))))
def S4 (k : Nat) (a0 : M9) : Option (Int × M9 × Unit) := (br a0.2.2.1 (some (0, (a0.1, a0.2.1, true, ()), ())) (br (decide (a0.2.1 ≥ (a0.1.size : Int))) (some (0, (a0.1, a0.2.1, true, ()), ())) (gd (decide (0 ≤ (B0 ((B0 (a0.2.1 + 1)) - 1)))) (gd (decide ((B0 ((B0 (a0.2.1 + 1)) - 1)) < (a0.1.size : Int))) (some ((B0 (bt a0.1 (B0 ((B0 (a0.2.1 + 1)) - 1)).toNat)), (a0.1, (B0 (a0.2.1 + 1)), a0.2.2), ()))))))
def u6 (k : Nat) (a0 : M9) : Option (Bool × M9 × Unit) := (br (!a0.2.2.1) (some ((a0.2.1 == (a0.1.size : Int)), a0, ())) (some (false, a0, ())))
def By1 (k : Nat) (a0 : ByteArray) (a1 : Int) : Option (Int × Int × Bool) := (bd (S4 k (a0, 0, false, ())) fun r1 => (bd (Y8 k r1.2.1) fun r2 => (bd (Y8 k r2.2.1) fun r3 => (bd (u6 k r3.2.1) fun r4 => (br r4.1 (some (r2.1, r3.1, (r1.1 == (B0 a1)))) (some (r2.1, r3.1, false)))))))
def Aw0 (k : Nat) (a0 : ByteArray) : Option (Int × B2 × Bool) := (bd (S4 k (a0, 0, false, ())) fun r1 => (bd (Y8 k r1.2.1) fun r2 => (bd (Y8 k r2.2.1) fun r3 => (bd (S4 k r3.2.1) fun r4 => (br r4.2.1.2.2.1 (some (0, (0, 0, ByteArray.empty, ()), false)) (br (r1.1 != 69) (some (0, (0, 0, ByteArray.empty, ()), false)) (gd (decide (0 ≤ r4.2.1.2.1)) (gd (decide (r4.2.1.2.1 ≤ (a0.size : Int))) (bd (Ak1 k (r3.1, r4.1, (a0.extract r4.2.1.2.1.toNat a0.size), ())) fun r5 => (br (!r5) (some (0, (0, 0, ByteArray.empty, ()), false)) (bd (M7 k r2.1 1 1000000) fun r6 => (br (!r6) (some (0, (0, 0, ByteArray.empty, ()), false)) (some (r2.1, (r3.1, r4.1, (a0.extract r4.2.1.2.1.toNat a0.size), ()), true))))))))))))))
def I4 (k : Nat) (a0 : B7) : Option B7 := (gd (decide (a0.2.2.1.length ≤ A2)) (some a0))
def Df5 (k : Nat) (a0 : B7) : Option Int := (some (B0 (a0.1 + (a0.2.2.1.length : Int))))
def By2 (k : Nat) (a0 : B7) (a1 : Int) (a2 : B2) : Option (B7 × Bool) := (bd (Bb4 k a0) fun r1 => (br (!r1) (some ((0, 0, [], ()), false)) (bd (Df5 k a0) fun r2 => (bd (M7 k a1 (B0 (a0.1 + 1)) (B0 (r2 + 1))) fun r3 => (br (!r3) (some ((0, 0, [], ()), false)) (bd (I4 k a0) fun r4 => (gd (decide (0 ≤ (B0 ((B0 (a1 - a0.1)) - 1)))) (gd (decide ((B0 ((B0 (a1 - a0.1)) - 1)) ≤ (r4.2.2.1.length : Int))) (br (decide (((0 + (B0 ((B0 (a1 - a0.1)) - 1)).toNat) + ([a2] : List B2).length) ≤ r4.2.2.1.length)) (bd (Bb4 k (r4.1, r4.2.1, ((app (0 + (B0 ((B0 (a1 - a0.1)) - 1)).toNat) ([a2] : List B2) r4.2.2.1).take ((0 + (B0 ((B0 (a1 - a0.1)) - 1)).toNat) + ([a2] : List B2).length)), ())) fun r5 => (br (!r5) (some ((0, 0, [], ()), false)) (some ((r4.1, r4.2.1, ((app (0 + (B0 ((B0 (a1 - a0.1)) - 1)).toNat) ([a2] : List B2) r4.2.2.1).take ((0 + (B0 ((B0 (a1 - a0.1)) - 1)).toNat) + ([a2] : List B2).length)), ()), true)))) (gd (decide ((r4.2.2.1.take (0 + (B0 ((B0 (a1 - a0.1)) - 1)).toNat)).length + ([a2] : List B2).length ≤ A2)) (bd (Bb4 k (r4.1, r4.2.1, ((r4.2.2.1.take (0 + (B0 ((B0 (a1 - a0.1)) - 1)).toNat)) ++ ([a2] : List B2)), ())) fun r6 => (br (!r6) (some ((0, 0, [], ()), false)) (some ((r4.1, r4.2.1, ((r4.2.2.1.take (0 + (B0 ((B0 (a1 - a0.1)) - 1)).toNat)) ++ ([a2] : List B2)), ()), true))))))))))))))
def By3 (k : Nat) (a0 : A0) (a1 : ByteArray) : Option (A0 × Bool) := (bd (By1 k a1 72) fun r1 => (br r1.2.2 (bd (Y7 k (a0.1, r1.1, r1.2.1, a0.2.2.2)) fun r2 => (some ((a0.1, r1.1, r1.2.1, a0.2.2.2), r2))) (bd (Aw0 k a1) fun r3 => (br (!r3.2.2) (some (a0, false)) (bd (By2 k a0.2.2.2.1 r3.1 r3.2.1) fun r4 => (some ((a0.1, a0.2.1, a0.2.2.1, r4.1, ()), r4.2)))))))
noncomputable section
def As0 (k : Nat) (L1 : Int → (List ByteArray × Int) → Int → Int → Int → Int → Int → Int → List B2 → Option (A0 × Int × Bool)) (v1 : Int) (r1 : List ByteArray × Int) (v2 : Int) (v3 : Int) (v4 : Int) (v5 : Int) (v6 : Int) (v7 : Int) (v8 : List B2) : Option (A0 × Int × Bool) := (br (decide (v2 < (((r1.1.length - 1) : Nat) : Int))) (gd (decide (0 ≤ v2)) (gd (decide (v2 < (((r1.1.length - 1) : Nat) : Int))) (bd (By3 k (v3, v4, v5, (v6, v7, v8, ()), ()) (rd ByteArray.empty r1.1 (1 + v2.toNat))) fun r8 => (br (!r8.2) (some ((v3, v4, v5, (v6, v7, v8, ()), ()), v1, true)) (bd (o0 k (rd ByteArray.empty r1.1 (1 + v2.toNat))) fun r9 => (L1 (B0 (v1 + (r9.1.size : Int))) r1 (B0 (v2 + 1)) r8.1.1 r8.1.2.1 r8.1.2.2.1 r8.1.2.2.2.1.1 r8.1.2.2.2.1.2.1 r8.1.2.2.2.1.2.2.1)))))) (some ((v3, v4, v5, (v6, v7, v8, ()), ()), v1, true)))
def Ad8 (k : Nat) (L1 : Int → (List ByteArray × Int) → Int → Int → Int → Int → Int → Int → List B2 → Option (A0 × Int × Bool)) (r5 : ByteArray × Bool) (r1 : List ByteArray × Int) (a0 : Int) (r3 : Int × Int × Bool) : Option (A0 × Int × Bool) := (br (decide (0 < (((r1.1.length - 1) : Nat) : Int))) (gd (decide (0 < (((r1.1.length - 1) : Nat) : Int))) (bd (By3 k (a0, 0, 0, (r3.1, r3.2.1, [], ()), ()) (rd ByteArray.empty r1.1 1)) fun r6 => (br (!r6.2) (some ((a0, 0, 0, (r3.1, r3.2.1, [], ()), ()), (r5.1.size : Int), true)) (bd (o0 k (rd ByteArray.empty r1.1 1)) fun r7 => (L1 (B0 ((r5.1.size : Int) + (r7.1.size : Int))) r1 1 r6.1.1 r6.1.2.1 r6.1.2.2.1 r6.1.2.2.2.1.1 r6.1.2.2.2.1.2.1 r6.1.2.2.2.1.2.2.1))))) (some ((a0, 0, 0, (r3.1, r3.2.1, [], ()), ()), (r5.1.size : Int), true)))
def W2 (k : Nat) : Nat → Int → (List ByteArray × Int) → Int → Int → Int → Int → Int → Int → List B2 → Option (A0 × Int × Bool)
 | 0, _, _, _, _, _, _, _, _, _ => none
 | n + 1, v1, r1, v2, v3, v4, v5, v6, v7, v8 => As0 k (W2 k n) v1 r1 v2 v3 v4 v5 v6 v7 v8
def M3 (k : Nat) : Nat → (ByteArray × Bool) → (List ByteArray × Int) → Int → (Int × Int × Bool) → Option (A0 × Int × Bool)
 | 0, _, _, _, _ => none
 | n + 1, r5, r1, a0, r3 => Ad8 k (W2 k n) r5 r1 a0 r3
def Bs3 (k : Nat) (L0 : (ByteArray × Bool) → (List ByteArray × Int) → Int → (Int × Int × Bool) → Option (A0 × Int × Bool)) (a0 : Int) (a1 : ByteArray) : Option (A0 × Int × Bool) := (bd (Bh7 k a1) fun r1 => (bd (M7 k a0 0 999) fun r2 => (br (!r2) (some ((0, 0, 0, (0, 0, [], ()), ()), 0, false)) (br ((r1.1.length : Int) == 0) (some ((0, 0, 0, (0, 0, [], ()), ()), 0, false)) (gd (decide (0 < (r1.1.length : Int))) (bd (By1 k (rd ByteArray.empty r1.1 0) 66) fun r3 => (br (!r3.2.2) (some ((0, 0, 0, (0, 0, [], ()), ()), 0, false)) (bd (Y7 k (a0, 0, 0, (r3.1, r3.2.1, [], ()), ())) fun r4 => (br (!r4) (some ((0, 0, 0, (0, 0, [], ()), ()), 0, false)) (gd (decide (0 < (r1.1.length : Int))) (bd (o0 k (rd ByteArray.empty r1.1 0)) fun r5 => (gd (decide (1 ≤ (r1.1.length : Int))) (L0 r5 r1 a0 r3)))))))))))))
def S5 (k : Nat) (a0 : Int) (a1 : ByteArray) : Option (A0 × Int × Bool) := Bs3 k (M3 k k) a0 a1
end
noncomputable section
def A24 (k : Nat) (L0 : Int → B7 → B7 → Option Bool) (v1 : Int) (a0 : B7) (a1 : B7) : Option Bool := (br (decide (v1 < (a0.2.2.1.length : Int))) (gd (decide (0 ≤ v1)) (gd (decide (v1 < (a0.2.2.1.length : Int))) (gd (decide (0 ≤ v1)) (gd (decide (v1 < (a1.2.2.1.length : Int))) (br (!((rd A8 a0.2.2.1 v1.toNat).1 == (rd A8 a1.2.2.1 v1.toNat).1 && ((rd A8 a0.2.2.1 v1.toNat).2.1 == (rd A8 a1.2.2.1 v1.toNat).2.1 && ((rd A8 a0.2.2.1 v1.toNat).2.2.1.toList == (rd A8 a1.2.2.1 v1.toNat).2.2.1.toList && true)))) (some false) (L0 (B0 (v1 + 1)) a0 a1)))))) (some true))
def o6 (k : Nat) : Nat → Int → B7 → B7 → Option Bool
 | 0, _, _, _ => none
 | n + 1, v1, a0, a1 => A24 k (o6 k n) v1 a0 a1
def Cx3 (k : Nat) (L0 : Int → B7 → B7 → Option Bool) (a0 : B7) (a1 : B7) : Option Bool := (br (a0.1 != a1.1) (some false) (br (a0.2.1 != a1.2.1) (some false) (br ((a0.2.2.1.length : Int) != (a1.2.2.1.length : Int)) (some false) (L0 0 a0 a1))))
def Bh8 (k : Nat) (a0 : B7) (a1 : B7) : Option Bool := Cx3 k (o6 k k) a0 a1
end
def Ci6 (k : Nat) (a0 : Int) : Option ByteArray := Fs6 a0
def A47 (k : Nat) (a0 : Int) : Option ByteArray := (bd (Ci6 k a0) fun r1 => (some r1))
def S6 (k : Nat) (a0 : Int) : Option ByteArray := (bd (M7 k a0 0 999) fun r1 => (br (!r1) (some (⟨#[]⟩ : ByteArray)) (bd (A47 k a0) fun r2 => (gd (decide ((⟨#[106]⟩ : ByteArray).size + r2.size ≤ A2)) (some ((⟨#[106]⟩ : ByteArray) ++ r2))))))
noncomputable section
def Bb6 (k : Nat) (L0 : B4 → Int → ByteArray → Option Int) (a0 : B4) (v1 : Int) (a1 : ByteArray) : Option Int := (br (decide (v1 < (a0.1.length : Int))) (gd (decide (0 ≤ v1)) (gd (decide (v1 < (a0.1.length : Int))) (br ((rd A3 a0.1 v1.toNat).1.toList == a1.toList) (some v1) (L0 a0 (B0 (v1 + 1)) a1)))) (some (-1)))
def Ab2 (k : Nat) : Nat → B4 → Int → ByteArray → Option Int
 | 0, _, _, _ => none
 | n + 1, a0, v1, a1 => Bb6 k (Ab2 k n) a0 v1 a1
def Df6 (k : Nat) (L0 : B4 → Int → ByteArray → Option Int) (a0 : B4) (a1 : ByteArray) : Option Int := (L0 a0 0 a1)
def Bh9 (k : Nat) (a0 : B4) (a1 : ByteArray) : Option Int := Df6 k (Ab2 k k) a0 a1
end
def A65 (k : Nat) (a0 : B4) (a1 : ByteArray) : Option (ByteArray × Bool) := (bd (Bh9 k a0 a1) fun r1 => (br (decide (r1 < 0)) (some ((⟨#[]⟩ : ByteArray), false)) (gd (decide (0 ≤ r1)) (gd (decide (r1 < (a0.1.length : Int))) (some ((rd A3 a0.1 r1.toNat).2.1, true))))))
noncomputable section
def Bb7 (k : Nat) (L0 : B4 → Int → Option Bool) (a0 : B4) (v1 : Int) : Option Bool := (br (decide (v1 < (a0.1.length : Int))) (gd (decide (0 ≤ v1)) (gd (decide (v1 < (a0.1.length : Int))) (bd (M7 k (((rd A3 a0.1 v1.toNat).1.size : Nat) : Int) 1 8) fun r1 => (br (!r1) (some false) (br (decide ((((rd A3 a0.1 v1.toNat).2.1.size : Nat) : Int) > 20000)) (some false) (bd (M7 k (rd A3 a0.1 v1.toNat).2.2.1 0 (((rd A3 a0.1 v1.toNat).2.1.size : Nat) : Int)) fun r2 => (br (!r2) (some false) (br (decide (v1 > 0)) (gd (decide (0 ≤ (B0 (v1 - 1)))) (gd (decide ((B0 (v1 - 1)) < (a0.1.length : Int))) (br (!Op.bytesLess (rd A3 a0.1 (B0 (v1 - 1)).toNat).1.toList (rd A3 a0.1 v1.toNat).1.toList) (some false) (L0 a0 (B0 (v1 + 1)))))) (L0 a0 (B0 (v1 + 1))))))))))) (some (decide ((a0.1.length : Int) ≤ 30))))
def Ab3 (k : Nat) : Nat → B4 → Int → Option Bool
 | 0, _, _ => none
 | n + 1, a0, v1 => Bb7 k (Ab3 k n) a0 v1
def Df7 (k : Nat) (L0 : B4 → Int → Option Bool) (a0 : B4) : Option Bool := (L0 a0 0)
def A66 (k : Nat) (a0 : B4) : Option Bool := Df7 k (Ab3 k k) a0
end
noncomputable section
def I9 (k : Nat) (L0 : List B2 → List B2 → Int → Option Bool) (a0 : List B2) (a1 : List B2) (v1 : Int) : Option Bool := (br (decide (v1 < (a0.length : Int))) (gd (decide (0 ≤ v1)) (gd (decide (v1 < (a0.length : Int))) (gd (decide (0 ≤ v1)) (gd (decide (v1 < (a1.length : Int))) (br (!((rd A8 a0 v1.toNat).1 == (rd A8 a1 v1.toNat).1 && ((rd A8 a0 v1.toNat).2.1 == (rd A8 a1 v1.toNat).2.1 && ((rd A8 a0 v1.toNat).2.2.1.toList == (rd A8 a1 v1.toNat).2.2.1.toList && true)))) (some false) (L0 a0 a1 (B0 (v1 + 1)))))))) (some true))
def E7 (k : Nat) : Nat → List B2 → List B2 → Int → Option Bool
 | 0, _, _, _ => none
 | n + 1, a0, a1, v1 => I9 k (E7 k n) a0 a1 v1
def U5 (k : Nat) (L0 : List B2 → List B2 → Int → Option Bool) (a0 : List B2) (a1 : List B2) : Option Bool := (br ((a0.length : Int) != (a1.length : Int)) (some false) (L0 a0 a1 0))
def H8 (k : Nat) (a0 : List B2) (a1 : List B2) : Option Bool := U5 k (E7 k k) a0 a1
end
def Bi0 (k : Nat) (a0 : B7) (a1 : B7) : Option Bool := (br (a0.1 == a1.1) (br (a0.2.1 == a1.2.1) (bd (H8 k a0.2.2.1 a1.2.2.1) fun r1 => (some r1)) (some false)) (some false))
def Ag2 (k : Nat) (a0 : A0) (a1 : A0) : Option Bool := (br (a0.1 == a1.1) (br (a0.2.1 == a1.2.1) (br (a0.2.2.1 == a1.2.2.1) (bd (Bi0 k a0.2.2.2.1 a1.2.2.2.1) fun r1 => (some r1)) (some false)) (some false)) (some false))
def B68 (k : Nat) (a0 : B4) (a1 : ByteArray) : Option Bool := (bd (Bh9 k a0 a1) fun r1 => (some (decide (r1 ≥ 0))))
def X3 (k : Nat) (a0 : Int) (a1 : A0) : Option (List F2 × A0 × Bool) := (bd (I4 k a1.2.2.2.1) fun r1 => (bd (Ag1 k ((B0 (a0 + 1)), a1.2.1, a1.2.2.1, r1, ())) fun r2 => (bd (S6 k (B0 (a0 + 1))) fun r3 => (br (!r2.2) (some ([], (0, 0, 0, (0, 0, [], ()), ()), false)) (br (r3.toList == (⟨#[]⟩ : ByteArray).toList) (some ([], (0, 0, 0, (0, 0, [], ()), ()), false)) (bd (S6 k a0) fun r4 => (some (([(1, (⟨#[106, 43]⟩ : ByteArray), r2.1, ByteArray.empty, ()), (2, (⟨#[106, 43]⟩ : ByteArray), ByteArray.empty, ByteArray.empty, ()), (3, (⟨#[106, 43]⟩ : ByteArray), ByteArray.empty, r3, ()), (4, r4, ByteArray.empty, ByteArray.empty, ())] : List F2), ((B0 (a0 + 1)), a1.2.1, a1.2.2.1, r1, ()), true))))))))
noncomputable section
def As1 (k : Nat) (L0 : ByteArray → (ByteArray × Bool) → Int → A0 → A0 → Option (List F2 × A0 × Bool)) (r1 : ByteArray) (r2 : ByteArray × Bool) (v1 : Int) (a1 : A0) (a2 : A0) : Option (List F2 × A0 × Bool) := (br (decide (v1 < (if (a2.2.2.2.1.2.2.1.length : Int) < (a1.2.2.2.1.2.2.1.length : Int) then (a2.2.2.2.1.2.2.1.length : Int) else (a1.2.2.2.1.2.2.1.length : Int)))) (gd (decide (0 ≤ v1)) (gd (decide (v1 < (a1.2.2.2.1.2.2.1.length : Int))) (gd (decide (0 ≤ v1)) (gd (decide (v1 < (a2.2.2.2.1.2.2.1.length : Int))) (br ((rd A8 a1.2.2.2.1.2.2.1 v1.toNat).1 == (rd A8 a2.2.2.2.1.2.2.1 v1.toNat).1 && ((rd A8 a1.2.2.2.1.2.2.1 v1.toNat).2.1 == (rd A8 a2.2.2.2.1.2.2.1 v1.toNat).2.1 && ((rd A8 a1.2.2.2.1.2.2.1 v1.toNat).2.2.1.toList == (rd A8 a2.2.2.2.1.2.2.1 v1.toNat).2.2.1.toList && true))) (L0 r1 r2 (B0 (v1 + 1)) a1 a2) (br (v1 == (a2.2.2.2.1.2.2.1.length : Int)) (br (a1.2.2.2.1.1 != a2.2.2.2.1.1) (bd (X3 k a1.1 a2) fun r9 => (some (r9.1, r9.2.1, r9.2.2))) (br (a1.2.2.2.1.2.1 != a2.2.2.2.1.2.1) (bd (X3 k a1.1 a2) fun r10 => (some (r10.1, r10.2.1, r10.2.2))) (br (decide (v1 < (a1.2.2.2.1.2.2.1.length : Int))) (bd (X3 k a1.1 a2) fun r11 => (some (r11.1, r11.2.1, r11.2.2))) (br (decide ((r2.1.size : Int) > 400)) (bd (X3 k a1.1 a2) fun r12 => (some (r12.1, r12.2.1, r12.2.2))) (br (a1.2.1 != a2.2.1) (bd (K7 k (⟨#[72]⟩ : ByteArray) a2.2.1 a2.2.2.1) fun r13 => (bd (G3 k a2.2.2.2.1 v1) fun r14 => (gd (decide (r13.size + r14.size ≤ A2)) (bd (I4 k a2.2.2.2.1) fun r15 => (br ((r13 ++ r14).toList == (⟨#[]⟩ : ByteArray).toList) (some ([], (a1.1, a2.2.1, a2.2.2.1, r15, ()), true)) (some (([(1, r1, (r13 ++ r14), ByteArray.empty, ()), (2, r1, ByteArray.empty, ByteArray.empty, ())] : List F2), (a1.1, a2.2.1, a2.2.2.1, r15, ()), true))))))) (br (a1.2.2.1 != a2.2.2.1) (bd (K7 k (⟨#[72]⟩ : ByteArray) a2.2.1 a2.2.2.1) fun r16 => (bd (G3 k a2.2.2.2.1 v1) fun r17 => (gd (decide (r16.size + r17.size ≤ A2)) (bd (I4 k a2.2.2.2.1) fun r18 => (br ((r16 ++ r17).toList == (⟨#[]⟩ : ByteArray).toList) (some ([], (a1.1, a2.2.1, a2.2.2.1, r18, ()), true)) (some (([(1, r1, (r16 ++ r17), ByteArray.empty, ()), (2, r1, ByteArray.empty, ByteArray.empty, ())] : List F2), (a1.1, a2.2.1, a2.2.2.1, r18, ()), true))))))) (bd (G3 k a2.2.2.2.1 v1) fun r19 => (gd (decide ((⟨#[]⟩ : ByteArray).size + r19.size ≤ A2)) (bd (I4 k a2.2.2.2.1) fun r20 => (br (((⟨#[]⟩ : ByteArray) ++ r19).toList == (⟨#[]⟩ : ByteArray).toList) (some ([], (a1.1, a2.2.1, a2.2.2.1, r20, ()), true)) (some (([(1, r1, ((⟨#[]⟩ : ByteArray) ++ r19), ByteArray.empty, ()), (2, r1, ByteArray.empty, ByteArray.empty, ())] : List F2), (a1.1, a2.2.1, a2.2.2.1, r20, ()), true)))))))))))) (br (a1.2.2.2.1.1 != a2.2.2.2.1.1) (bd (X3 k a1.1 a2) fun r21 => (some (r21.1, r21.2.1, r21.2.2))) (br (a1.2.2.2.1.2.1 != a2.2.2.2.1.2.1) (bd (X3 k a1.1 a2) fun r22 => (some (r22.1, r22.2.1, r22.2.2))) (br (decide ((r2.1.size : Int) > 400)) (bd (X3 k a1.1 a2) fun r23 => (some (r23.1, r23.2.1, r23.2.2))) (br (a1.2.1 != a2.2.1) (bd (K7 k (⟨#[72]⟩ : ByteArray) a2.2.1 a2.2.2.1) fun r24 => (bd (G3 k a2.2.2.2.1 v1) fun r25 => (gd (decide (r24.size + r25.size ≤ A2)) (bd (I4 k a2.2.2.2.1) fun r26 => (br ((r24 ++ r25).toList == (⟨#[]⟩ : ByteArray).toList) (some ([], (a1.1, a2.2.1, a2.2.2.1, r26, ()), true)) (some (([(1, r1, (r24 ++ r25), ByteArray.empty, ()), (2, r1, ByteArray.empty, ByteArray.empty, ())] : List F2), (a1.1, a2.2.1, a2.2.2.1, r26, ()), true))))))) (br (a1.2.2.1 != a2.2.2.1) (bd (K7 k (⟨#[72]⟩ : ByteArray) a2.2.1 a2.2.2.1) fun r27 => (bd (G3 k a2.2.2.2.1 v1) fun r28 => (gd (decide (r27.size + r28.size ≤ A2)) (bd (I4 k a2.2.2.2.1) fun r29 => (br ((r27 ++ r28).toList == (⟨#[]⟩ : ByteArray).toList) (some ([], (a1.1, a2.2.1, a2.2.2.1, r29, ()), true)) (some (([(1, r1, (r27 ++ r28), ByteArray.empty, ()), (2, r1, ByteArray.empty, ByteArray.empty, ())] : List F2), (a1.1, a2.2.1, a2.2.2.1, r29, ()), true))))))) (bd (G3 k a2.2.2.2.1 v1) fun r30 => (gd (decide ((⟨#[]⟩ : ByteArray).size + r30.size ≤ A2)) (bd (I4 k a2.2.2.2.1) fun r31 => (br (((⟨#[]⟩ : ByteArray) ++ r30).toList == (⟨#[]⟩ : ByteArray).toList) (some ([], (a1.1, a2.2.1, a2.2.2.1, r31, ()), true)) (some (([(1, r1, ((⟨#[]⟩ : ByteArray) ++ r30), ByteArray.empty, ()), (2, r1, ByteArray.empty, ByteArray.empty, ())] : List F2), (a1.1, a2.2.1, a2.2.2.1, r31, ()), true))))))))))))))))) (br (v1 == (a2.2.2.2.1.2.2.1.length : Int)) (br (a1.2.2.2.1.1 != a2.2.2.2.1.1) (bd (X3 k a1.1 a2) fun r32 => (some (r32.1, r32.2.1, r32.2.2))) (br (a1.2.2.2.1.2.1 != a2.2.2.2.1.2.1) (bd (X3 k a1.1 a2) fun r33 => (some (r33.1, r33.2.1, r33.2.2))) (br (decide (v1 < (a1.2.2.2.1.2.2.1.length : Int))) (bd (X3 k a1.1 a2) fun r34 => (some (r34.1, r34.2.1, r34.2.2))) (br (decide ((r2.1.size : Int) > 400)) (bd (X3 k a1.1 a2) fun r35 => (some (r35.1, r35.2.1, r35.2.2))) (br (a1.2.1 != a2.2.1) (bd (K7 k (⟨#[72]⟩ : ByteArray) a2.2.1 a2.2.2.1) fun r36 => (bd (G3 k a2.2.2.2.1 v1) fun r37 => (gd (decide (r36.size + r37.size ≤ A2)) (bd (I4 k a2.2.2.2.1) fun r38 => (br ((r36 ++ r37).toList == (⟨#[]⟩ : ByteArray).toList) (some ([], (a1.1, a2.2.1, a2.2.2.1, r38, ()), true)) (some (([(1, r1, (r36 ++ r37), ByteArray.empty, ()), (2, r1, ByteArray.empty, ByteArray.empty, ())] : List F2), (a1.1, a2.2.1, a2.2.2.1, r38, ()), true))))))) (br (a1.2.2.1 != a2.2.2.1) (bd (K7 k (⟨#[72]⟩ : ByteArray) a2.2.1 a2.2.2.1) fun r39 => (bd (G3 k a2.2.2.2.1 v1) fun r40 => (gd (decide (r39.size + r40.size ≤ A2)) (bd (I4 k a2.2.2.2.1) fun r41 => (br ((r39 ++ r40).toList == (⟨#[]⟩ : ByteArray).toList) (some ([], (a1.1, a2.2.1, a2.2.2.1, r41, ()), true)) (some (([(1, r1, (r39 ++ r40), ByteArray.empty, ()), (2, r1, ByteArray.empty, ByteArray.empty, ())] : List F2), (a1.1, a2.2.1, a2.2.2.1, r41, ()), true))))))) (bd (G3 k a2.2.2.2.1 v1) fun r42 => (gd (decide ((⟨#[]⟩ : ByteArray).size + r42.size ≤ A2)) (bd (I4 k a2.2.2.2.1) fun r43 => (br (((⟨#[]⟩ : ByteArray) ++ r42).toList == (⟨#[]⟩ : ByteArray).toList) (some ([], (a1.1, a2.2.1, a2.2.2.1, r43, ()), true)) (some (([(1, r1, ((⟨#[]⟩ : ByteArray) ++ r42), ByteArray.empty, ()), (2, r1, ByteArray.empty, ByteArray.empty, ())] : List F2), (a1.1, a2.2.1, a2.2.2.1, r43, ()), true)))))))))))) (br (a1.2.2.2.1.1 != a2.2.2.2.1.1) (bd (X3 k a1.1 a2) fun r44 => (some (r44.1, r44.2.1, r44.2.2))) (br (a1.2.2.2.1.2.1 != a2.2.2.2.1.2.1) (bd (X3 k a1.1 a2) fun r45 => (some (r45.1, r45.2.1, r45.2.2))) (br (decide ((r2.1.size : Int) > 400)) (bd (X3 k a1.1 a2) fun r46 => (some (r46.1, r46.2.1, r46.2.2))) (br (a1.2.1 != a2.2.1) (bd (K7 k (⟨#[72]⟩ : ByteArray) a2.2.1 a2.2.2.1) fun r47 => (bd (G3 k a2.2.2.2.1 v1) fun r48 => (gd (decide (r47.size + r48.size ≤ A2)) (bd (I4 k a2.2.2.2.1) fun r49 => (br ((r47 ++ r48).toList == (⟨#[]⟩ : ByteArray).toList) (some ([], (a1.1, a2.2.1, a2.2.2.1, r49, ()), true)) (some (([(1, r1, (r47 ++ r48), ByteArray.empty, ()), (2, r1, ByteArray.empty, ByteArray.empty, ())] : List F2), (a1.1, a2.2.1, a2.2.2.1, r49, ()), true))))))) (br (a1.2.2.1 != a2.2.2.1) (bd (K7 k (⟨#[72]⟩ : ByteArray) a2.2.1 a2.2.2.1) fun r50 => (bd (G3 k a2.2.2.2.1 v1) fun r51 => (gd (decide (r50.size + r51.size ≤ A2)) (bd (I4 k a2.2.2.2.1) fun r52 => (br ((r50 ++ r51).toList == (⟨#[]⟩ : ByteArray).toList) (some ([], (a1.1, a2.2.1, a2.2.2.1, r52, ()), true)) (some (([(1, r1, (r50 ++ r51), ByteArray.empty, ()), (2, r1, ByteArray.empty, ByteArray.empty, ())] : List F2), (a1.1, a2.2.1, a2.2.2.1, r52, ()), true))))))) (bd (G3 k a2.2.2.2.1 v1) fun r53 => (gd (decide ((⟨#[]⟩ : ByteArray).size + r53.size ≤ A2)) (bd (I4 k a2.2.2.2.1) fun r54 => (br (((⟨#[]⟩ : ByteArray) ++ r53).toList == (⟨#[]⟩ : ByteArray).toList) (some ([], (a1.1, a2.2.1, a2.2.2.1, r54, ()), true)) (some (([(1, r1, ((⟨#[]⟩ : ByteArray) ++ r53), ByteArray.empty, ()), (2, r1, ByteArray.empty, ByteArray.empty, ())] : List F2), (a1.1, a2.2.1, a2.2.2.1, r54, ()), true)))))))))))))
def Q7 (k : Nat) : Nat → ByteArray → (ByteArray × Bool) → Int → A0 → A0 → Option (List F2 × A0 × Bool)
 | 0, _, _, _, _, _ => none
 | n + 1, r1, r2, v1, a1, a2 => As1 k (Q7 k n) r1 r2 v1 a1 a2
def Az0 (k : Nat) (L0 : ByteArray → (ByteArray × Bool) → Int → A0 → A0 → Option (List F2 × A0 × Bool)) (a0 : B4) (a1 : A0) (a2 : A0) : Option (List F2 × A0 × Bool) := (bd (S6 k a1.1) fun r1 => (bd (A65 k a0 r1) fun r2 => (bd (S5 k a1.1 r2.1) fun r3 => (bd (A66 k a0) fun r4 => (br (!r4) (some ([], (0, 0, 0, (0, 0, [], ()), ()), false)) (bd (Y7 k a1) fun r5 => (br (!r5) (some ([], (0, 0, 0, (0, 0, [], ()), ()), false)) (bd (Y7 k a2) fun r6 => (br (!r6) (some ([], (0, 0, 0, (0, 0, [], ()), ()), false)) (br (!r2.2) (some ([], (0, 0, 0, (0, 0, [], ()), ()), false)) (br (!r3.2.2) (some ([], (0, 0, 0, (0, 0, [], ()), ()), false)) (bd (Ag2 k r3.1 a1) fun r7 => (br (!r7) (some ([], (0, 0, 0, (0, 0, [], ()), ()), false)) (br (r3.2.1 != (r2.1.size : Int)) (some ([], (0, 0, 0, (0, 0, [], ()), ()), false)) (bd (B68 k a0 (⟨#[106, 43]⟩ : ByteArray)) fun r8 => (br r8 (some ([], (0, 0, 0, (0, 0, [], ()), ()), false)) (L0 r1 r2 0 a1 a2)))))))))))))))))
def u7 (k : Nat) (a0 : B4) (a1 : A0) (a2 : A0) : Option (List F2 × A0 × Bool) := Az0 k (Q7 k k) a0 a1 a2
end
def M4 (k : Nat) (a0 : ByteArray) (a1 : ByteArray) : Option Bool := (br (decide ((a0.size : Int) ≥ (a1.size : Int))) (gd (decide (0 ≤ (a1.size : Int))) (gd (decide ((a1.size : Int) ≤ (a0.size : Int))) (some ((a0.extract 0 (a1.size : Int).toNat).toList == a1.toList)))) (some false))
def M5 (k : Nat) (a0 : ByteArray) (a1 : ByteArray) : Option (ByteArray × Bool) := (bd (M4 k a0 a1) fun r1 => (br (!r1) (some (a0, false)) (gd (decide (0 ≤ (a1.size : Int))) (gd (decide ((a1.size : Int) ≤ (a0.size : Int))) (some ((a0.extract (a1.size : Int).toNat a0.size), true))))))
def w9 (k : Nat) (a0 : ByteArray) (a1 : ByteArray) : Option (ByteArray × Bool) := (bd (M5 k a0 a1) fun r1 => (some (r1.1, r1.2)))
def Ca3 (k : Nat) (a0 : ByteArray) : Option (Int × Bool) := Fs7 a0
def o7 (k : Nat) (a0 : ByteArray) (a1 : ByteArray) (a2 : Int) : Option Int := (bd (w9 k a0 a1) fun r1 => (bd (Ca3 k r1.1) fun r2 => (br (!r1.2) (some (-1)) (br (!r2.2) (some (-1)) (br (decide (r2.1 > a2)) (some (-1)) (some r2.1))))))
noncomputable section
def Ad9 (k : Nat) (L1 : Int → (ByteArray × Bool) → (A0 × Int × Bool) → B4 → Int → List F2 → Option (A0 × List F2 × Bool)) (v1 : Int) (r4 : ByteArray × Bool) (r5 : A0 × Int × Bool) (a0 : B4) (v3 : Int) (xs4 : List F2) : Option (A0 × List F2 × Bool) := (br (decide (v3 < (a0.1.length : Int))) (gd (decide (0 ≤ v3)) (gd (decide (v3 < (a0.1.length : Int))) (bd (o7 k (rd A3 a0.1 v3.toNat).1 (⟨#[106]⟩ : ByteArray) 999) fun r6 => (br ((rd A3 a0.1 v3.toNat).1.toList == (⟨#[106, 43]⟩ : ByteArray).toList) (gd (decide (xs4.length + ([(4, (rd A3 a0.1 v3.toNat).1, ByteArray.empty, ByteArray.empty, ())] : List F2).length ≤ A2)) (L1 v1 r4 r5 a0 (B0 (v3 + 1)) (xs4 ++ ([(4, (rd A3 a0.1 v3.toNat).1, ByteArray.empty, ByteArray.empty, ())] : List F2)))) (br (decide (r6 ≥ 0)) (br (r6 != v1) (gd (decide (xs4.length + ([(4, (rd A3 a0.1 v3.toNat).1, ByteArray.empty, ByteArray.empty, ())] : List F2).length ≤ A2)) (L1 v1 r4 r5 a0 (B0 (v3 + 1)) (xs4 ++ ([(4, (rd A3 a0.1 v3.toNat).1, ByteArray.empty, ByteArray.empty, ())] : List F2)))) (L1 v1 r4 r5 a0 (B0 (v3 + 1)) xs4)) (L1 v1 r4 r5 a0 (B0 (v3 + 1)) xs4)))))) (br (r5.2.1 == (r4.1.size : Int)) (some (r5.1, xs4, true)) (bd (X3 k v1 r5.1) fun r7 => (br (!r7.2.2) (some ((0, 0, 0, (0, 0, [], ()), ()), [], false)) (gd (decide (xs4.length + r7.1.length ≤ A2)) (some (r7.2.1, (xs4 ++ r7.1), true)))))))
def Ae0 (k : Nat) (L0 : Int → B4 → Int → Option (A0 × List F2 × Bool)) (L1 : Int → (ByteArray × Bool) → (A0 × Int × Bool) → B4 → Int → List F2 → Option (A0 × List F2 × Bool)) (v1 : Int) (a0 : B4) (v2 : Int) : Option (A0 × List F2 × Bool) := (br (decide (v2 < (a0.1.length : Int))) (gd (decide (0 ≤ v2)) (gd (decide (v2 < (a0.1.length : Int))) (bd (o7 k (rd A3 a0.1 v2.toNat).1 (⟨#[106]⟩ : ByteArray) 999) fun r1 => (L0 (if r1 > v1 then r1 else v1) a0 (B0 (v2 + 1)))))) (bd (A66 k a0) fun r2 => (br (!r2) (some ((0, 0, 0, (0, 0, [], ()), ()), [], false)) (br (decide (v1 < 0)) (some ((0, 0, 0, (0, 0, [], ()), ()), [], false)) (bd (S6 k v1) fun r3 => (bd (A65 k a0 r3) fun r4 => (bd (S5 k v1 r4.1) fun r5 => (br (!r5.2.2) (some ((0, 0, 0, (0, 0, [], ()), ()), [], false)) (L1 v1 r4 r5 a0 0 [])))))))))
def W3 (k : Nat) : Nat → Int → (ByteArray × Bool) → (A0 × Int × Bool) → B4 → Int → List F2 → Option (A0 × List F2 × Bool)
 | 0, _, _, _, _, _, _ => none
 | n + 1, v1, r4, r5, a0, v3, xs4 => Ad9 k (W3 k n) v1 r4 r5 a0 v3 xs4
def Q8 (k : Nat) : Nat → Int → B4 → Int → Option (A0 × List F2 × Bool)
 | 0, _, _, _ => none
 | n + 1, v1, a0, v2 => Ae0 k (Q8 k n) (W3 k n) v1 a0 v2
def Bs4 (k : Nat) (L0 : Int → B4 → Int → Option (A0 × List F2 × Bool)) (a0 : B4) : Option (A0 × List F2 × Bool) := (L0 (-1) a0 0)
def V5 (k : Nat) (a0 : B4) : Option (A0 × List F2 × Bool) := Bs4 k (Q8 k k) a0
end
noncomputable section
end
noncomputable section
def Az1 (k : Nat) (L1 : Int → List Int → Int → Int → List Int → Option (List Int)) (v3 : Int) (v4 : List Int) (v5 : Int) (v6 : Int) (xs7 : List Int) : Option (List Int) := (br (decide (v3 < 12)) (bd (C7 k (v4, v5, v6, ()) 10000) fun r2 => (gd (decide (xs7.length + [r2.1].length ≤ A2)) (L1 (B0 (v3 + 1)) r2.2.1.1 r2.2.1.2.1 r2.2.1.2.2.1 (xs7 ++ [r2.1])))) (some xs7))
def Az2 (k : Nat) (L0 : List Int → Int → Int → Option (List Int)) (L1 : Int → List Int → Int → Int → List Int → Option (List Int)) (a0 : List Int) (v1 : Int) (v2 : Int) : Option (List Int) := (br (decide (v2 < (a0.length : Int))) (br (decide (v2 < 4000)) (gd (decide (0 ≤ v2)) (gd (decide (v2 < (a0.length : Int))) (L0 a0 (Ej4 .i64 (B0 ((B0 ((B0 (v1 * 131)) + (B0 (rd 0 a0 v2.toNat)))) + 7)) 1073741823) (B0 (v2 + 1))))) (bd (X6 k (a0, 0, v1, ())) fun r1 => (L1 0 r1.2.1.1 r1.2.1.2.1 r1.2.1.2.2.1 []))) (bd (X6 k (a0, 0, v1, ())) fun r3 => (L1 0 r3.2.1.1 r3.2.1.2.1 r3.2.1.2.2.1 [])))
def U2 (k : Nat) : Nat → Int → List Int → Int → Int → List Int → Option (List Int)
 | 0, _, _, _, _, _ => none
 | n + 1, v3, v4, v5, v6, xs7 => Az1 k (U2 k n) v3 v4 v5 v6 xs7
def U3 (k : Nat) : Nat → List Int → Int → Int → Option (List Int)
 | 0, _, _, _ => none
 | n + 1, a0, v1, v2 => Az2 k (U3 k n) (U2 k n) a0 v1 v2
def By4 (k : Nat) (L0 : List Int → Int → Int → Option (List Int)) (a0 : List Int) : Option (List Int) := (L0 a0 (B0 (13101 + (a0.length : Int))) 0)
def Am6 (k : Nat) (a0 : List Int) : Option (List Int) := By4 k (U3 k k) a0
end
noncomputable section
def Bd1 (k : Nat) (L0 : List Int → Int → B4 → List C2 → Option (B4 × Bool)) (a1 : List Int) (v1 : Int) (a0 : B4) (xs2 : List C2) : Option (B4 × Bool) := (br (decide (v1 < (a0.1.length : Int))) (gd (decide (0 ≤ v1)) (gd (decide (v1 < (a0.1.length : Int))) (br (decide (v1 < (a1.length : Int))) (gd (decide (0 ≤ v1)) (gd (decide (v1 < (a1.length : Int))) (br (decide ((rd 0 a1 v1.toNat) > (((rd A3 a0.1 v1.toNat).2.1.size : Nat) : Int))) (br (decide ((((rd A3 a0.1 v1.toNat).2.1.size : Nat) : Int) < (rd A3 a0.1 v1.toNat).2.2.1)) (gd (decide (0 ≤ (rd A3 a0.1 v1.toNat).2.2.1)) (gd (decide ((rd A3 a0.1 v1.toNat).2.2.1 ≤ (((rd A3 a0.1 v1.toNat).2.1.size : Nat) : Int))) (gd (decide (xs2.length + ([((rd A3 a0.1 v1.toNat).1, ((rd A3 a0.1 v1.toNat).2.1.extract 0 (rd A3 a0.1 v1.toNat).2.2.1.toNat), (rd A3 a0.1 v1.toNat).2.2)] : List C2).length ≤ A2)) (L0 a1 (B0 (v1 + 1)) a0 (xs2 ++ ([((rd A3 a0.1 v1.toNat).1, ((rd A3 a0.1 v1.toNat).2.1.extract 0 (rd A3 a0.1 v1.toNat).2.2.1.toNat), (rd A3 a0.1 v1.toNat).2.2)] : List C2)))))) (gd (decide (0 ≤ (((rd A3 a0.1 v1.toNat).2.1.size : Nat) : Int))) (gd (decide ((((rd A3 a0.1 v1.toNat).2.1.size : Nat) : Int) ≤ (((rd A3 a0.1 v1.toNat).2.1.size : Nat) : Int))) (gd (decide (xs2.length + ([((rd A3 a0.1 v1.toNat).1, ((rd A3 a0.1 v1.toNat).2.1.extract 0 (((rd A3 a0.1 v1.toNat).2.1.size : Nat) : Int).toNat), (((rd A3 a0.1 v1.toNat).2.1.size : Nat) : Int), ())] : List C2).length ≤ A2)) (L0 a1 (B0 (v1 + 1)) a0 (xs2 ++ ([((rd A3 a0.1 v1.toNat).1, ((rd A3 a0.1 v1.toNat).2.1.extract 0 (((rd A3 a0.1 v1.toNat).2.1.size : Nat) : Int).toNat), (((rd A3 a0.1 v1.toNat).2.1.size : Nat) : Int), ())] : List C2))))))) (br (decide ((rd 0 a1 v1.toNat) < (rd A3 a0.1 v1.toNat).2.2.1)) (gd (decide (0 ≤ (rd A3 a0.1 v1.toNat).2.2.1)) (gd (decide ((rd A3 a0.1 v1.toNat).2.2.1 ≤ (((rd A3 a0.1 v1.toNat).2.1.size : Nat) : Int))) (gd (decide (xs2.length + ([((rd A3 a0.1 v1.toNat).1, ((rd A3 a0.1 v1.toNat).2.1.extract 0 (rd A3 a0.1 v1.toNat).2.2.1.toNat), (rd A3 a0.1 v1.toNat).2.2)] : List C2).length ≤ A2)) (L0 a1 (B0 (v1 + 1)) a0 (xs2 ++ ([((rd A3 a0.1 v1.toNat).1, ((rd A3 a0.1 v1.toNat).2.1.extract 0 (rd A3 a0.1 v1.toNat).2.2.1.toNat), (rd A3 a0.1 v1.toNat).2.2)] : List C2)))))) (gd (decide (0 ≤ (rd 0 a1 v1.toNat))) (gd (decide ((rd 0 a1 v1.toNat) ≤ (((rd A3 a0.1 v1.toNat).2.1.size : Nat) : Int))) (gd (decide (xs2.length + ([((rd A3 a0.1 v1.toNat).1, ((rd A3 a0.1 v1.toNat).2.1.extract 0 (rd 0 a1 v1.toNat).toNat), (rd 0 a1 v1.toNat), ())] : List C2).length ≤ A2)) (L0 a1 (B0 (v1 + 1)) a0 (xs2 ++ ([((rd A3 a0.1 v1.toNat).1, ((rd A3 a0.1 v1.toNat).2.1.extract 0 (rd 0 a1 v1.toNat).toNat), (rd 0 a1 v1.toNat), ())] : List C2)))))))))) (br (decide (0 > (((rd A3 a0.1 v1.toNat).2.1.size : Nat) : Int))) (br (decide ((((rd A3 a0.1 v1.toNat).2.1.size : Nat) : Int) < (rd A3 a0.1 v1.toNat).2.2.1)) (gd (decide (0 ≤ (rd A3 a0.1 v1.toNat).2.2.1)) (gd (decide ((rd A3 a0.1 v1.toNat).2.2.1 ≤ (((rd A3 a0.1 v1.toNat).2.1.size : Nat) : Int))) (gd (decide (xs2.length + ([((rd A3 a0.1 v1.toNat).1, ((rd A3 a0.1 v1.toNat).2.1.extract 0 (rd A3 a0.1 v1.toNat).2.2.1.toNat), (rd A3 a0.1 v1.toNat).2.2)] : List C2).length ≤ A2)) (L0 a1 (B0 (v1 + 1)) a0 (xs2 ++ ([((rd A3 a0.1 v1.toNat).1, ((rd A3 a0.1 v1.toNat).2.1.extract 0 (rd A3 a0.1 v1.toNat).2.2.1.toNat), (rd A3 a0.1 v1.toNat).2.2)] : List C2)))))) (gd (decide (0 ≤ (((rd A3 a0.1 v1.toNat).2.1.size : Nat) : Int))) (gd (decide ((((rd A3 a0.1 v1.toNat).2.1.size : Nat) : Int) ≤ (((rd A3 a0.1 v1.toNat).2.1.size : Nat) : Int))) (gd (decide (xs2.length + ([((rd A3 a0.1 v1.toNat).1, ((rd A3 a0.1 v1.toNat).2.1.extract 0 (((rd A3 a0.1 v1.toNat).2.1.size : Nat) : Int).toNat), (((rd A3 a0.1 v1.toNat).2.1.size : Nat) : Int), ())] : List C2).length ≤ A2)) (L0 a1 (B0 (v1 + 1)) a0 (xs2 ++ ([((rd A3 a0.1 v1.toNat).1, ((rd A3 a0.1 v1.toNat).2.1.extract 0 (((rd A3 a0.1 v1.toNat).2.1.size : Nat) : Int).toNat), (((rd A3 a0.1 v1.toNat).2.1.size : Nat) : Int), ())] : List C2))))))) (br (decide (0 < (rd A3 a0.1 v1.toNat).2.2.1)) (gd (decide (0 ≤ (rd A3 a0.1 v1.toNat).2.2.1)) (gd (decide ((rd A3 a0.1 v1.toNat).2.2.1 ≤ (((rd A3 a0.1 v1.toNat).2.1.size : Nat) : Int))) (gd (decide (xs2.length + ([((rd A3 a0.1 v1.toNat).1, ((rd A3 a0.1 v1.toNat).2.1.extract 0 (rd A3 a0.1 v1.toNat).2.2.1.toNat), (rd A3 a0.1 v1.toNat).2.2)] : List C2).length ≤ A2)) (L0 a1 (B0 (v1 + 1)) a0 (xs2 ++ ([((rd A3 a0.1 v1.toNat).1, ((rd A3 a0.1 v1.toNat).2.1.extract 0 (rd A3 a0.1 v1.toNat).2.2.1.toNat), (rd A3 a0.1 v1.toNat).2.2)] : List C2)))))) (gd (decide (0 ≤ (((rd A3 a0.1 v1.toNat).2.1.size : Nat) : Int))) (gd (decide (xs2.length + ([((rd A3 a0.1 v1.toNat).1, ((rd A3 a0.1 v1.toNat).2.1.extract 0 0), 0, ())] : List C2).length ≤ A2)) (L0 a1 (B0 (v1 + 1)) a0 (xs2 ++ ([((rd A3 a0.1 v1.toNat).1, ((rd A3 a0.1 v1.toNat).2.1.extract 0 0), 0, ())] : List C2)))))))))) (some ((xs2, ()), true)))
def V6 (k : Nat) : Nat → List Int → Int → B4 → List C2 → Option (B4 × Bool)
 | 0, _, _, _, _ => none
 | n + 1, a1, v1, a0, xs2 => Bd1 k (V6 k n) a1 v1 a0 xs2
def Ci7 (k : Nat) (L0 : List Int → Int → B4 → List C2 → Option (B4 × Bool)) (a0 : B4) (a1 : List Int) : Option (B4 × Bool) := (bd (G0 k a0) fun r1 => (br (!r1) (some (([], ()), false)) (L0 a1 0 a0 [])))
def A67 (k : Nat) (a0 : B4) (a1 : List Int) : Option (B4 × Bool) := Ci7 k (V6 k k) a0 a1
end
def Bi1 (k : Nat) (a0 : B4) (a1 : List F2) (a2 : Int) (a3 : List Int) : Option (B4 × Bool) := (bd (E9 k a2 0 (a1.length : Int)) fun r1 => (br (!r1) (some (([], ()), false)) (gd (decide (0 ≤ a2)) (gd (decide (a2 ≤ (a1.length : Int))) (bd (Av7 k a0 (a1.take a2.toNat)) fun r2 => (br (decide (r2.2 < a2)) (some (([], ()), false)) (bd (A67 k r2.1 a3) fun r3 => (some (r3.1, r3.2)))))))))
noncomputable section
def Cd5 (k : Nat) (L0 : List Int → Int → List Int → Option (List Int)) (a0 : List Int) (v1 : Int) (xs2 : List Int) : Option (List Int) := (br (decide (v1 < 6)) (gd (decide (0 ≤ v1)) (gd (decide (v1 < (a0.length : Int))) (ng ((rd 0 a0 v1.toNat) == (rd 0 a0 v1.toNat) && (300 : Int) == 0) (gd (decide (xs2.length + [(Int.tmod (rd 0 a0 v1.toNat) 300)].length ≤ A2)) (L0 a0 (B0 (v1 + 1)) (xs2 ++ [(Int.tmod (rd 0 a0 v1.toNat) 300)])))))) (some xs2))
def Ai4 (k : Nat) : Nat → List Int → Int → List Int → Option (List Int)
 | 0, _, _, _ => none
 | n + 1, a0, v1, xs2 => Cd5 k (Ai4 k n) a0 v1 xs2
def D16 (k : Nat) (L0 : List Int → Int → List Int → Option (List Int)) (a0 : List Int) : Option (List Int) := (L0 a0 0 [])
def Ci8 (k : Nat) (a0 : List Int) : Option (List Int) := D16 k (Ai4 k k) a0
end
def Bd2 (k : Nat) (a0 : B7) : Option Int := (some (B0 (a0.1 + (a0.2.2.1.length : Int))))
noncomputable section
def By5 (k : Nat) (L0 : Int → B7 → B7 → B7 → Option Bool) (v1 : Int) (a0 : B7) (a1 : B7) (a2 : B7) : Option Bool := (br (decide (v1 < (a0.2.2.1.length : Int))) (br (decide ((B0 ((B0 (a0.1 + 1)) + v1)) > a1.1)) (bd (Bd2 k a1) fun r1 => (br (decide ((B0 ((B0 (a0.1 + 1)) + v1)) ≤ r1)) (gd (decide (0 ≤ (B0 ((B0 ((B0 ((B0 (a0.1 + 1)) + v1)) - a1.1)) - 1)))) (gd (decide ((B0 ((B0 ((B0 ((B0 (a0.1 + 1)) + v1)) - a1.1)) - 1)) < (a1.2.2.1.length : Int))) (gd (decide (0 ≤ v1)) (gd (decide (v1 < (a0.2.2.1.length : Int))) (br (decide ((B0 ((B0 (a0.1 + 1)) + v1)) > a2.1)) (bd (Bd2 k a2) fun r2 => (br (decide ((B0 ((B0 (a0.1 + 1)) + v1)) ≤ r2)) (br ((rd A8 a1.2.2.1 (B0 ((B0 ((B0 ((B0 (a0.1 + 1)) + v1)) - a1.1)) - 1)).toNat).1 == (rd A8 a0.2.2.1 v1.toNat).1 && ((rd A8 a1.2.2.1 (B0 ((B0 ((B0 ((B0 (a0.1 + 1)) + v1)) - a1.1)) - 1)).toNat).2.1 == (rd A8 a0.2.2.1 v1.toNat).2.1 && ((rd A8 a1.2.2.1 (B0 ((B0 ((B0 ((B0 (a0.1 + 1)) + v1)) - a1.1)) - 1)).toNat).2.2.1.toList == (rd A8 a0.2.2.1 v1.toNat).2.2.1.toList && true))) (L0 (B0 (v1 + 1)) a0 a1 a2) (gd (decide (0 ≤ (B0 ((B0 ((B0 ((B0 (a0.1 + 1)) + v1)) - a2.1)) - 1)))) (gd (decide ((B0 ((B0 ((B0 ((B0 (a0.1 + 1)) + v1)) - a2.1)) - 1)) < (a2.2.2.1.length : Int))) (gd (decide (0 ≤ v1)) (gd (decide (v1 < (a0.2.2.1.length : Int))) (br (!((rd A8 a2.2.2.1 (B0 ((B0 ((B0 ((B0 (a0.1 + 1)) + v1)) - a2.1)) - 1)).toNat).1 == (rd A8 a0.2.2.1 v1.toNat).1 && ((rd A8 a2.2.2.1 (B0 ((B0 ((B0 ((B0 (a0.1 + 1)) + v1)) - a2.1)) - 1)).toNat).2.1 == (rd A8 a0.2.2.1 v1.toNat).2.1 && ((rd A8 a2.2.2.1 (B0 ((B0 ((B0 ((B0 (a0.1 + 1)) + v1)) - a2.1)) - 1)).toNat).2.2.1.toList == (rd A8 a0.2.2.1 v1.toNat).2.2.1.toList && true)))) (some false) (L0 (B0 (v1 + 1)) a0 a1 a2))))))) (br (!((rd A8 a1.2.2.1 (B0 ((B0 ((B0 ((B0 (a0.1 + 1)) + v1)) - a1.1)) - 1)).toNat).1 == (rd A8 a0.2.2.1 v1.toNat).1 && ((rd A8 a1.2.2.1 (B0 ((B0 ((B0 ((B0 (a0.1 + 1)) + v1)) - a1.1)) - 1)).toNat).2.1 == (rd A8 a0.2.2.1 v1.toNat).2.1 && ((rd A8 a1.2.2.1 (B0 ((B0 ((B0 ((B0 (a0.1 + 1)) + v1)) - a1.1)) - 1)).toNat).2.2.1.toList == (rd A8 a0.2.2.1 v1.toNat).2.2.1.toList && true)))) (some false) (L0 (B0 (v1 + 1)) a0 a1 a2)))) (br (!((rd A8 a1.2.2.1 (B0 ((B0 ((B0 ((B0 (a0.1 + 1)) + v1)) - a1.1)) - 1)).toNat).1 == (rd A8 a0.2.2.1 v1.toNat).1 && ((rd A8 a1.2.2.1 (B0 ((B0 ((B0 ((B0 (a0.1 + 1)) + v1)) - a1.1)) - 1)).toNat).2.1 == (rd A8 a0.2.2.1 v1.toNat).2.1 && ((rd A8 a1.2.2.1 (B0 ((B0 ((B0 ((B0 (a0.1 + 1)) + v1)) - a1.1)) - 1)).toNat).2.2.1.toList == (rd A8 a0.2.2.1 v1.toNat).2.2.1.toList && true)))) (some false) (L0 (B0 (v1 + 1)) a0 a1 a2))))))) (br (decide ((B0 ((B0 (a0.1 + 1)) + v1)) > a2.1)) (bd (Bd2 k a2) fun r3 => (br (decide ((B0 ((B0 (a0.1 + 1)) + v1)) ≤ r3)) (gd (decide (0 ≤ (B0 ((B0 ((B0 ((B0 (a0.1 + 1)) + v1)) - a2.1)) - 1)))) (gd (decide ((B0 ((B0 ((B0 ((B0 (a0.1 + 1)) + v1)) - a2.1)) - 1)) < (a2.2.2.1.length : Int))) (gd (decide (0 ≤ v1)) (gd (decide (v1 < (a0.2.2.1.length : Int))) (br (!((rd A8 a2.2.2.1 (B0 ((B0 ((B0 ((B0 (a0.1 + 1)) + v1)) - a2.1)) - 1)).toNat).1 == (rd A8 a0.2.2.1 v1.toNat).1 && ((rd A8 a2.2.2.1 (B0 ((B0 ((B0 ((B0 (a0.1 + 1)) + v1)) - a2.1)) - 1)).toNat).2.1 == (rd A8 a0.2.2.1 v1.toNat).2.1 && ((rd A8 a2.2.2.1 (B0 ((B0 ((B0 ((B0 (a0.1 + 1)) + v1)) - a2.1)) - 1)).toNat).2.2.1.toList == (rd A8 a0.2.2.1 v1.toNat).2.2.1.toList && true)))) (some false) (L0 (B0 (v1 + 1)) a0 a1 a2)))))) (some false))) (some false)))) (br (decide ((B0 ((B0 (a0.1 + 1)) + v1)) > a2.1)) (bd (Bd2 k a2) fun r4 => (br (decide ((B0 ((B0 (a0.1 + 1)) + v1)) ≤ r4)) (gd (decide (0 ≤ (B0 ((B0 ((B0 ((B0 (a0.1 + 1)) + v1)) - a2.1)) - 1)))) (gd (decide ((B0 ((B0 ((B0 ((B0 (a0.1 + 1)) + v1)) - a2.1)) - 1)) < (a2.2.2.1.length : Int))) (gd (decide (0 ≤ v1)) (gd (decide (v1 < (a0.2.2.1.length : Int))) (br (!((rd A8 a2.2.2.1 (B0 ((B0 ((B0 ((B0 (a0.1 + 1)) + v1)) - a2.1)) - 1)).toNat).1 == (rd A8 a0.2.2.1 v1.toNat).1 && ((rd A8 a2.2.2.1 (B0 ((B0 ((B0 ((B0 (a0.1 + 1)) + v1)) - a2.1)) - 1)).toNat).2.1 == (rd A8 a0.2.2.1 v1.toNat).2.1 && ((rd A8 a2.2.2.1 (B0 ((B0 ((B0 ((B0 (a0.1 + 1)) + v1)) - a2.1)) - 1)).toNat).2.2.1.toList == (rd A8 a0.2.2.1 v1.toNat).2.2.1.toList && true)))) (some false) (L0 (B0 (v1 + 1)) a0 a1 a2)))))) (some false))) (some false))) (some true))
def V7 (k : Nat) : Nat → Int → B7 → B7 → B7 → Option Bool
 | 0, _, _, _, _ => none
 | n + 1, v1, a0, a1, a2 => By5 k (V7 k n) v1 a0 a1 a2
def Df8 (k : Nat) (L0 : Int → B7 → B7 → B7 → Option Bool) (a0 : B7) (a1 : B7) (a2 : B7) : Option Bool := (L0 0 a0 a1 a2)
def A68 (k : Nat) (a0 : B7) (a1 : B7) (a2 : B7) : Option Bool := Df8 k (V7 k k) a0 a1 a2
end
def Y0 (k : Nat) (a0 : List Int) : Option Bool := (bd (Eo0 k a0) fun r1 => (br r1 (some true) (bd (U4 k a0) fun r2 => (bd (u7 k r2.1 r2.2.1 r2.2.2) fun r3 => (bd (V4 k r2.1 r2.2.1 r2.2.2) fun r4 => (br (!(r3.2.2 == r4.2.2)) (some false) (br (!r3.2.2) (some true) (bd (Am6 k a0) fun r5 => (gd (decide (11 < (r5.length : Int))) (ng ((rd 0 r5 11) == (rd 0 r5 11) && ((B0 ((r3.1.length : Int) + 1)) : Int) == 0) (bd (Ci8 k r5) fun r6 => (bd (Bi1 k r2.1 r3.1 (Int.tmod (rd 0 r5 11) (B0 ((r3.1.length : Int) + 1))) r6) fun r7 => (bd (V5 k r7.1) fun r8 => (bd (Av7 k r7.1 r8.2.1) fun r9 => (bd (V5 k r9.1) fun r10 => (br (!r7.2) (some false) (br (!r8.2.2) (some false) (br (!r10.2.2) (some false) (br (r9.2 != (r8.2.1.length : Int)) (some false) (br ((r10.2.1.length : Int) != 0) (some false) (bd (Bh8 k r8.1.2.2.2.1 r10.1.2.2.2.1) fun r11 => (br (!r11) (some false) (br (r8.1.2.1 != r10.1.2.1) (some false) (br (r8.1.2.2.1 != r10.1.2.2.1) (some false) (br (r8.1.2.2.2.1.1 != r2.2.1.2.2.2.1.1) (br (r8.1.2.2.2.1.1 != r2.2.2.2.2.2.1.1) (some false) (bd (A68 k r8.1.2.2.2.1 r2.2.1.2.2.2.1 r2.2.2.2.2.2.1) fun r12 => (br (!r12) (some false) (br (r8.1.2.1 == r2.2.1.2.1) (br (r8.1.2.2.1 == r2.2.1.2.2.1) (some true) (br (r8.1.2.1 == r2.2.2.2.1) (some (r8.1.2.2.1 == r2.2.2.2.2.1)) (some false))) (br (r8.1.2.1 == r2.2.2.2.1) (some (r8.1.2.2.1 == r2.2.2.2.2.1)) (some false)))))) (bd (A68 k r8.1.2.2.2.1 r2.2.1.2.2.2.1 r2.2.2.2.2.2.1) fun r13 => (br (!r13) (some false) (br (r8.1.2.1 == r2.2.1.2.1) (br (r8.1.2.2.1 == r2.2.1.2.2.1) (some true) (br (r8.1.2.1 == r2.2.2.2.1) (some (r8.1.2.2.1 == r2.2.2.2.2.1)) (some false))) (br (r8.1.2.1 == r2.2.2.2.1) (some (r8.1.2.2.1 == r2.2.2.2.2.1)) (some false))))))))))))))))))))))))))))))
end Go.Vm
end
section
set_option linter.unusedVariables false
set_option linter.unusedSimpArgs false
namespace Go.Vm
open Go
def D85 (x : List Int) : Nat := x.length
def Au2 (x : C5) : Nat := D85 x.2.2.2.2.2.1 + (x.2.2.2.2.2.2.1.size + (D85 x.2.2.2.2.2.2.2.1 + (0)))
def Bi2 (x : I1) : Nat := Au2 x.2.2.2.1 + (0)
end Go.Vm
end
section
set_option linter.unusedVariables false
set_option linter.unusedSimpArgs false
namespace Go.Vm
open Go
def j5 (a b c : Int) : Bool := decide (b ≤ a) && decide (a ≤ c)
theorem H9 (k : Nat) (a b c : Int) : E9 k a b c = some (j5 a b c) := by
 unfold E9 j5
 by_cases h : a ≥ b
 ·have : b ≤ a := h
  simp [h, this]
 ·have : ¬ b ≤ a := h
  simp [h, this]
theorem N2 (k : Nat) (a b c : Int) : M7 k a b c = some (j5 a b c) := H9 k a b c
abbrev T6 (e : C5) : Int := e.2.1
abbrev S7 (e : C5) : Int := e.2.2.1
abbrev Af2 (e : C5) : Int := e.2.2.2.1
abbrev P7 (e : C5) : Int := e.2.2.2.2.1
abbrev E8 (e : C5) : List Int := e.2.2.2.2.2.1
abbrev T7 (e : C5) : ByteArray := e.2.2.2.2.2.2.1
abbrev I8 (e : C5) : List Int := e.2.2.2.2.2.2.2.1
abbrev Ab4 (e : C5) : Int := e.2.2.2.2.2.2.2.2.1
def Fc1 (l : List Int) : Bool := C26 l.length (fun i => j5 (rd 0 l i) 0 100) && ((l.length : Int) == 5)
theorem Df9 (l : List Int) (hs : l.length ≤ 1048576) : Ev (fun k => Y6 k l) (Fc1 l) := by
 have h := Fc0 (l := fun k n i => W6 k n l (i : Int)) l.length (fun i => j5 (rd 0 l i) 0 100) ((l.length : Int) == 5) false (fun i hi => ⟨0, fun k _ n => by
  have e := d9 hi (by omega)
  simp only [W6, Am1, hi, Int.ofNat_lt, Int.natCast_nonneg, decide_true, br_true, gd_true, Int.toNat_natCast, e, H9, bd_some, Fb9]⟩) ⟨0, fun k _ n => by simp [W6, Am1]⟩
 refine h.congr_val (g := fun k => Y6 k l) (fun k => rfl) ?_
 unfold Fc1
 cases C26 l.length (fun i => j5 (rd 0 l i) 0 100) <;> rfl
def Ci9 {α : Type} (l : List α) : Bool := (l.length : Int) == 0
theorem gt0 {α : Type} (l : List α) : decide ((l.length : Int) > 0) = !Ci9 l := by
 unfold Ci9
 cases l with
 | nil => rfl
 | cons x l => simp; omega
def Cx4 (e : C5) : Bool := bif T6 e == 3 then Fc1 (E8 e) else Ci9 (E8 e)
def Cd6 (e : C5) (i : Nat) : Bool := j5 (rd 0 (I8 e) i) 1 1000000 && !(rd 0 (I8 e) i == e.1) && (i == 0 || decide (rd 0 (I8 e) (i - 1) < rd 0 (I8 e) i))
def Fc2 (e : C5) : Bool := C26 (I8 e).length (Cd6 e) && (decide (((I8 e).length : Int) ≤ 3) && ((T6 e == 1) == Ci9 (I8 e)))
theorem Fy0 (e : C5) (hs : (I8 e).length ≤ 1048576) : Ev (fun k => U8 k k 0 e) (C26 (I8 e).length (Cd6 e)) := by
 have h := Fc0 (l := fun k n i => U8 k n (i : Int) e) (I8 e).length (Cd6 e) true false (fun i hi => ⟨0, fun k _ n => by
  have e1 := d9 hi (by omega)
  simp only [U8, A21, hi, Int.ofNat_lt, Int.natCast_nonneg, decide_true, br_true, gd_true, Int.toNat_natCast, e1, H9, bd_some, Fb9, Cd6]
  cases j5 (rd 0 (I8 e) i) 1 1000000 <;> cases (rd 0 (I8 e) i == e.1) <;> simp
  cases i with
  | zero => simp
  | succ j =>
   have e2 := Ch7 (i := j + 1) (by omega) (by omega)
   have h3 : (j : Int) < (I8 e).length := by omega
   have h4 : (0 : Int) < ((j + 1 : Nat) : Int) := by omega
   simp only [e2, Nat.add_sub_cancel, h3, h4, decide_true, br_true, gd_true, Int.toNat_natCast, Int.natCast_nonneg]
   by_cases h5 : rd 0 (I8 e) (j + 1) ≤ rd 0 (I8 e) j
   ·simp [h5, Int.not_lt.2 h5]
   ·simp [h5, Int.not_le.1 h5]⟩) ⟨0, fun k _ n => by simp [U8, A21]⟩
 refine h.congr_val (g := fun k => U8 k k 0 e) (fun k => rfl) ?_
 cases C26 (I8 e).length (Cd6 e) <;> rfl
def emp (s : ByteArray) : Bool := s.toList == (⟨#[]⟩ : ByteArray).toList
def Gn8 (s : ByteArray) : Bool := decide ((s.size : Int) ≤ 24)
theorem Eo1 (s : ByteArray) : (emp s = true ∧ Gn8 s = true) ∨ emp s = false := by
 cases h : emp s with
 | false => exact .inr rfl
 | true =>
  refine .inl ⟨rfl, ?_⟩
  unfold emp at h
  rw [b7] at h
  rw [of_decide_eq_true h]; rfl
theorem Eo2 (n : Int) : ((n == 1) = true ∧ (n == 2) = false ∧ (n == 3) = false ∧ (n == 4) = false ∧ (n == 5) = false ∧ j5 n 1 5 = true) ∨
  ((n == 1) = false ∧ (n == 2) = true ∧ (n == 3) = false ∧ (n == 4) = false ∧ (n == 5) = false ∧ j5 n 1 5 = true) ∨
  ((n == 1) = false ∧ (n == 2) = false ∧ (n == 3) = true ∧ (n == 4) = false ∧ (n == 5) = false ∧ j5 n 1 5 = true) ∨
  ((n == 1) = false ∧ (n == 2) = false ∧ (n == 3) = false ∧ (n == 4) = true ∧ (n == 5) = false ∧ j5 n 1 5 = true) ∨
  ((n == 1) = false ∧ (n == 2) = false ∧ (n == 3) = false ∧ (n == 4) = false ∧ (n == 5) = true ∧ j5 n 1 5 = true) ∨
  ((n == 1) = false ∧ (n == 2) = false ∧ (n == 3) = false ∧ (n == 4) = false ∧ (n == 5) = false ∧ j5 n 1 5 = false) := by
 simp only [j5, beq_eq_false_iff_ne, beq_iff_eq, Bool.and_eq_true, Bool.and_eq_false_iff, decide_eq_true_eq, decide_eq_false_iff_not, ne_eq]
 omega
def body (e : C5) : Bool := j5 (T6 e) 1 5 && j5 (S7 e) 1 5 && Cx4 e &&
 (bif T6 e == 2 then j5 (Af2 e) 1 5 && j5 (P7 e) 0 3 && emp (T7 e) else (Af2 e == 0) && (P7 e == 0) && Gn8 (T7 e) && (T6 e == 4 || T6 e == 5 || emp (T7 e)))
def b9 (e : C5) : Bool := body e && j5 e.1 1 1000000 && j5 (Ab4 e) 0 1000000 && Fc2 e
theorem Cj0 (e : C5) (hs : Au2 e ≤ 1048576) : Ev (fun k => X7 k e) (body e) := by
 obtain ⟨K, hK⟩ := Df9 (E8 e) (by unfold Au2 D85 at hs; simp only [E8]; omega)
 refine ⟨K, fun k hk => ?_⟩
 have h1 := hK k hk
 have he : (e.2.2.2.2.2.2.1.toList == (⟨#[]⟩ : ByteArray).toList) = emp (T7 e) := rfl
 have hz : decide ((e.2.2.2.2.2.2.1.size : Int) ≤ 24) = Gn8 (T7 e) := rfl
 simp only [X7, H9, bd_some, he, hz, gt0, h1, body, Cx4, T6, bne]
 rcases Eo1 (T7 e) with ⟨g1, g2⟩ | g1 <;> simp only [g1]
 ·simp only [g2]
  rcases Eo2 e.2.1 with ⟨q1, q2, q3, q4, q5, q6⟩ | ⟨q1, q2, q3, q4, q5, q6⟩ | ⟨q1, q2, q3, q4, q5, q6⟩ | ⟨q1, q2, q3, q4, q5, q6⟩ | ⟨q1, q2, q3, q4, q5, q6⟩ | ⟨q1, q2, q3, q4, q5, q6⟩ <;> simp only [q1, q2, q3, q4, q5, q6] <;>
  (generalize j5 e.2.2.1 1 5 = x1; generalize j5 e.2.2.2.1 1 5 = x2; generalize j5 e.2.2.2.2.1 0 3 = x3; generalize (e.2.2.2.1 == 0) = x4; generalize (e.2.2.2.2.1 == 0) = x5; generalize Ci9 (E8 e) = x6; generalize Fc1 (E8 e) = x7; revert x1 x2 x3 x4 x5 x6 x7; decide)
 ·generalize Gn8 (T7 e) = x8
  rcases Eo2 e.2.1 with ⟨q1, q2, q3, q4, q5, q6⟩ | ⟨q1, q2, q3, q4, q5, q6⟩ | ⟨q1, q2, q3, q4, q5, q6⟩ | ⟨q1, q2, q3, q4, q5, q6⟩ | ⟨q1, q2, q3, q4, q5, q6⟩ | ⟨q1, q2, q3, q4, q5, q6⟩ <;> simp only [q1, q2, q3, q4, q5, q6] <;>
  (generalize j5 e.2.2.1 1 5 = x1; generalize j5 e.2.2.2.1 1 5 = x2; generalize j5 e.2.2.2.2.1 0 3 = x3; generalize (e.2.2.2.1 == 0) = x4; generalize (e.2.2.2.2.1 == 0) = x5; generalize Ci9 (E8 e) = x6; generalize Fc1 (E8 e) = x7; revert x1 x2 x3 x4 x5 x6 x7 x8; decide)
theorem Dg0 {e : C5} (h : Au2 e ≤ 1048576) : (E8 e).length ≤ 1048576 ∧ (T7 e).size ≤ 1048576 ∧ (I8 e).length ≤ 1048576 := by
 unfold Au2 D85 at h
 simp only [E8, T7, I8]
 omega
theorem A25 (e : C5) (hs : Au2 e ≤ 1048576) : Ev (fun k => N1 k e) (b9 e) := by
 obtain ⟨a1, a2, a3⟩ := Dg0 hs
 obtain ⟨K, hK⟩ := Cj0 e hs
 obtain ⟨L, hL⟩ := Fy0 e a3
 refine ⟨max K L, fun k hk => ?_⟩
 have h1 := hK k (by omega)
 have h2 := hL k (by omega)
 have h3 : (((I8 e).length : Int) == 0) = Ci9 (I8 e) := rfl
 simp only [N1, Bx5, H9, bd_some, h1, h2, h3, Gx1, b9, Fc2]
 generalize body e = x1; generalize j5 e.1 1 1000000 = x2; generalize j5 e.2.2.2.2.2.2.2.2.1 0 1000000 = x3; generalize decide (((I8 e).length : Int) ≤ 3) = x4
 generalize ((T6 e == 1) == Ci9 (I8 e)) = x5; generalize C26 (I8 e).length (Cd6 e) = x6
 revert x1 x2 x3 x4 x5 x6; decide
theorem H2 (n : Int) (h0 : 0 ≤ n) (h1 : n ≤ 2147483648) : Ev (fun k => J2 k n) (F1 n) := by
 have h := De6 (l := fun k m (p : Int × List Int) => Aa7 k m p.1 p.2) (I := fun p => 0 ≤ p.1 ∧ (p.2.length : Int) + p.1 ≤ 2147483648) (m := fun p => p.1.toNat) (f := fun p => B6 (p.2 ++ varL p.1.toNat)) (fun p hp => by
  obtain ⟨m, xs⟩ := p
  obtain ⟨hm, hx⟩ := hp
  simp only at *
  by_cases h : m > 127
  ·obtain ⟨e1, e2, e3, e4⟩ := En8 h (by omega)
   refine .inr ⟨(Int.tdiv m 128, xs ++ [Int.tmod m 128 + 128]), ⟨e3, by simp; omega⟩, by simp only; omega, ?_, 0, fun k _ q => ?_⟩
   ·simp only; rw [En7 h]; simp
   ·simp only [Aa7, Ba7, decide_eq_true h, br_true, Gs8, ng_false, e1, e2]
    rw [Ba6 (by unfold A2; simp; omega)]
  ·refine .inl ⟨0, fun k _ q => ?_⟩
   simp only [Aa7, Ba7, decide_eq_false h, br_false, Bx1 hm (show m < 256 by omega), De7 hm h]
   rw [Ba6 (by unfold A2; simp; omega)]) (n, []) ⟨h0, by simpa using h1⟩
 obtain ⟨K, hK⟩ := h
 exact ⟨K, fun k hk => by simpa [J2, Cd3, F1] using hK k hk k hk⟩
def Eo3 (n : Int) : ByteArray × Bool := bif j5 n 0 1000000000 then (F1 n, true) else (⟨#[]⟩, false)
theorem Bo1 (n : Int) : Ev (fun k => X9 k n) (Eo3 n) := by
 cases hr : j5 n 0 1000000000 with
 | false => exact .of fun k => by simp [X9, Bb5, N2, Eo3, hr]
 | true =>
  have h0 : 0 ≤ n ∧ n ≤ 1000000000 := by simpa [j5] using hr
  obtain ⟨h0, h1⟩ := h0
  have h := De6 (l := fun k m (p : Int × List Int) => n9 k m p.1 p.2) (I := fun p => 0 ≤ p.1 ∧ (p.2.length : Int) + p.1 ≤ 2147483648) (m := fun p => p.1.toNat) (f := fun p => (B6 (p.2 ++ varL p.1.toNat), true)) (fun p hp => by
   obtain ⟨m, xs⟩ := p
   obtain ⟨hm, hx⟩ := hp
   simp only at *
   by_cases h : m > 127
   ·obtain ⟨e1, e2, e3, e4⟩ := En8 h (by omega)
    refine .inr ⟨(Int.tdiv m 128, xs ++ [Int.tmod m 128 + 128]), ⟨e3, by simp; omega⟩, by simp only; omega, ?_, 0, fun k _ q => ?_⟩
    ·simp only; rw [En7 h]; simp
    ·simp only [n9, A23, decide_eq_true h, br_true, Gs8, ng_false, e1, e2]
     rw [Ba6 (by unfold A2; simp; omega)]
   ·refine .inl ⟨0, fun k _ q => ?_⟩
    simp only [n9, A23, decide_eq_false h, br_false, Bx1 hm (show m < 256 by omega), De7 hm h]
    rw [Ba6 (by unfold A2; simp; omega)]) (n, []) ⟨h0, by simp; omega⟩
  obtain ⟨K, hK⟩ := h
  refine ⟨K, fun k hk => ?_⟩
  have h3 := hK k hk k hk
  simp only [List.nil_append] at h3
  simp only [X9, Bb5, N2, hr, bd_some, Bool.not_true, br_false, h3, Eo3, F1]
  rfl
theorem D86 {n : Int} (h0 : 0 ≤ n) (h1 : n ≤ 1000000000) : Eo3 n = (F1 n, true) := by
 have : j5 n 0 1000000000 = true := by simp [j5, h0, h1]
 rw [Eo3, this]; rfl
def A69 (e : C5) : ByteArray := B6 [IntKind.wrap .u8 e.2.1, IntKind.wrap .u8 e.2.2.1, IntKind.wrap .u8 e.2.2.2.1, IntKind.wrap .u8 e.2.2.2.2.1]
def Bi3 (l : List Int) : ByteArray := B6 (l.map fun n => IntKind.wrap .u8 n)
theorem Fc3 {l : List Int} {i : Nat} (h : i < l.length) : Bi3 (l.take (i + 1)) = Bi3 (l.take i) ++ B6 [IntKind.wrap .u8 l[i]] := by
 unfold Bi3
 rw [List.take_succ_eq_append_getElem h, List.map_append, O4]
 rfl
theorem Cd7 (l : List Int) : (Bi3 l).size = l.length := by unfold Bi3; rw [D6, List.length_map]
def As2 (t : ByteArray) : ByteArray := F1 (t.size : Int) ++ t
def By6 (e : C5) : ByteArray := A69 e ++ (F1 ((E8 e).length : Int) ++ Bi3 (E8 e)) ++ As2 (T7 e)
def A70 (e : C5) : ByteArray := F1 e.1 ++ By6 e ++ (F1 ((I8 e).length : Int) ++ Bm5 (I8 e)) ++ F1 (Ab4 e)
theorem Ca4 (t : ByteArray) (h : t.size ≤ 1048576) : Ev (fun k => Ai1 k t) (As2 t) := by
 unfold Ai1
 refine (H2 (t.size : Int) (by omega) (by omega)).bd (.of fun k => ?_)
 have := D2 (n := (t.size : Int)) (by omega)
 rw [Ba6 (by unfold A2; omega)]
 rfl
theorem Bi4 (e : C5) (hl : (E8 e).length ≤ 1000) (ht : (T7 e).size ≤ 20000) : Ev (fun k => Z3 k e) (By6 e) := by
 obtain ⟨K, hK⟩ := Ca4 (T7 e) (by omega)
 obtain ⟨L, hL⟩ := H2 ((E8 e).length : Int) (by omega) (by omega)
 have hz := D2 (n := ((E8 e).length : Int)) (by omega)
 have hy := D2 (n := ((T7 e).size : Int)) (by omega)
 have h4 : (A69 e).size = 4 := by unfold A69; rw [D6]; rfl
 have sz : ∀ i, i ≤ (E8 e).length → (A69 e ++ (F1 ((E8 e).length : Int) ++ Bi3 ((E8 e).take i))).size ≤ 2000 := fun i hi => by
  rw [C8, C8, Cd7, List.length_take, h4]; omega
 have loop := D81 (l := fun k m i => Q4 k m (A69 e ++ (F1 ((E8 e).length : Int) ++ Bi3 ((E8 e).take i))) (i : Int) e) (E8 e).length (r := By6 e) (fun i hi => ⟨0, fun k _ m => by
  have e1 := d9 hi (by omega)
  have h1 := sz i (by omega)
  have h2 : (B6 [IntKind.wrap .u8 (E8 e)[i]]).size = 1 := D6 _
  simp only [Q4, Ad3, hi, Int.ofNat_lt, Int.natCast_nonneg, decide_true, br_true, gd_true, Int.toNat_natCast, Aa6 hi, e1, X8, bd_some]
  rw [Ba6 (by unfold A2; omega), Fc3 hi]
  simp only [ByteArray.append_assoc]⟩) ⟨K, fun k hk m => by
  have h1 := hK k hk
  have h2 := sz (E8 e).length (by omega)
  have h3 : (As2 (T7 e)).size ≤ 30000 := by unfold As2; rw [C8]; omega
  simp only [Q4, Ad3, Int.lt_irrefl, decide_false, br_false, h1, bd_some]
  rw [Ba6 (by unfold A2; omega), List.take_length]
  rfl⟩
 obtain ⟨M, hM⟩ := loop
 refine ⟨max L M, fun k hk => ?_⟩
 have h1 := hL k (by omega)
 have h2 := hM k (by omega)
 have g1 : ∀ n : Int, (B6 [IntKind.wrap .u8 n]).size = 1 := fun n => D6 _
 simp only [Z3, Ay8, X8, bd_some, h1]
 rw [Ba6 (by unfold A2; simp only [g1]; omega), Ba6 (by unfold A2; simp only [C8, g1]; omega), Ba6 (by unfold A2; simp only [C8, g1]; omega), Ba6 (by unfold A2; simp only [C8, g1]; omega)]
 have e2 : ((((B6 [IntKind.wrap .u8 e.2.1] ++ B6 [IntKind.wrap .u8 e.2.2.1]) ++ B6 [IntKind.wrap .u8 e.2.2.2.1]) ++ B6 [IntKind.wrap .u8 e.2.2.2.2.1]) ++ F1 ((E8 e).length : Int)) = A69 e ++ (F1 ((E8 e).length : Int) ++ Bi3 ((E8 e).take 0)) := by
  have : Bi3 ((E8 e).take 0) = B6 [] := rfl
  rw [this, ← Gs7]
  simp only [← O4, A69]
  have : F1 ((E8 e).length : Int) ++ (⟨#[]⟩ : ByteArray) = F1 ((E8 e).length : Int) := by apply Af3; simp
  rw [this]
  rfl
 rw [e2]
 exact h2
theorem D4 {a b c : Int} : j5 a b c = true ↔ b ≤ a ∧ a ≤ c := by simp [j5]
theorem Cj1 {α : Type} {l : List α} : Ci9 l = true ↔ l = [] := by
 unfold Ci9
 cases l with
 | nil => simp
 | cons x l => simp; omega
theorem Fy1 {e : C5} (h : Cx4 e = true) : (E8 e).length ≤ 5 ∧ (T6 e = 3 → (E8 e).length = 5) := by
 unfold Cx4 at h
 cases hk : (T6 e == 3) with
 | true =>
  rw [hk] at h
  simp only [cond_true, Fc1, Bool.and_eq_true, beq_iff_eq] at h
  omega
 | false =>
  rw [hk] at h
  simp only [cond_false] at h
  rw [Cj1.1 h]
  simp only [beq_eq_false_iff_ne] at hk
  exact ⟨by simp, fun h => absurd h hk⟩
theorem As3 {e : C5} (h : body e = true) : (1 ≤ T6 e ∧ T6 e ≤ 5) ∧ (1 ≤ S7 e ∧ S7 e ≤ 5) ∧ (E8 e).length ≤ 5 ∧ (T7 e).size ≤ 24 ∧ (0 ≤ Af2 e ∧ Af2 e ≤ 5) ∧ (0 ≤ P7 e ∧ P7 e ≤ 3) := by
 unfold body at h
 simp only [Bool.and_eq_true, D4] at h
 obtain ⟨⟨⟨h1, h2⟩, h3⟩, h4⟩ := h
 have h5 := (Fy1 h3).1
 cases hk : (T6 e == 2) with
 | true =>
  rw [hk] at h4
  simp only [cond_true, Bool.and_eq_true, D4] at h4
  obtain ⟨⟨h6, h7⟩, h8⟩ := h4
  rcases Eo1 (T7 e) with ⟨_, h9⟩ | h9
  ·have := of_decide_eq_true h9
   exact ⟨h1, h2, h5, by omega, by omega, by omega⟩
  ·rw [h8] at h9; cases h9
 | false =>
  rw [hk] at h4
  simp only [cond_false, Bool.and_eq_true, beq_iff_eq] at h4
  obtain ⟨⟨⟨h6, h7⟩, h8⟩, _⟩ := h4
  have := of_decide_eq_true h8
  exact ⟨h1, h2, h5, by omega, by omega, by omega⟩
theorem By7 {e : C5} (h : b9 e = true) : body e = true ∧ (1 ≤ e.1 ∧ e.1 ≤ 1000000) ∧ (0 ≤ Ab4 e ∧ Ab4 e ≤ 1000000) ∧ (I8 e).length ≤ 3 ∧ (∀ n ∈ I8 e, 1 ≤ n ∧ n ≤ 1000000) ∧ (T6 e = 1 ↔ I8 e = []) := by
 unfold b9 at h
 simp only [Bool.and_eq_true, D4] at h
 obtain ⟨⟨⟨h1, h2⟩, h3⟩, h4⟩ := h
 unfold Fc2 at h4
 simp only [Bool.and_eq_true, En6, decide_eq_true_eq] at h4
 obtain ⟨h5, h6, h7⟩ := h4
 refine ⟨h1, h2, h3, by omega, fun n hn => ?_, ?_⟩
 ·obtain ⟨i, hi, rfl⟩ := List.getElem_of_mem hn
  have := h5 i hi
  simp only [Cd6, Bool.and_eq_true, D4, Aa6 hi] at this
  exact this.1.1
 ·rw [← Cj1]
  cases hk : (T6 e == 1) <;> cases hl : Ci9 (I8 e) <;> rw [hk, hl] at h7 <;> simp at hk h7 ⊢ <;> exact hk
theorem Cx5 {e : C5} (h : b9 e = true) : (By6 e).size ≤ 100 ∧ (F1 e.1).size ≤ 5 ∧ (F1 (Ab4 e)).size ≤ 5 ∧ (F1 ((I8 e).length : Int)).size ≤ 5 ∧ (Bm5 (I8 e)).size ≤ 15 := by
 obtain ⟨hb, h1, h2, h3, h4, _⟩ := By7 h
 obtain ⟨_, _, h5, h6, _⟩ := As3 hb
 have a1 := D2 (n := ((E8 e).length : Int)) (by omega)
 have a2 := D2 (n := ((T7 e).size : Int)) (by omega)
 have a3 := Cq3 (l := I8 e) (fun n hn => by have := h4 n hn; omega)
 refine ⟨?_, D2 (by omega), D2 (by omega), D2 (by omega), by omega⟩
 unfold By6 As2 A69
 rw [C8, C8, C8, C8, Cd7, D6]
 simp only [List.length_cons, List.length_nil]
 omega
theorem Dg1 (e : C5) (hs : Au2 e ≤ 1048576) : Ev (fun k => Av8 k e) (bif b9 e then (A70 e, true) else (⟨#[]⟩, false)) := by
 cases ho : b9 e with
 | false => exact (A25 e hs).bd (by rw [ho]; exact .of fun k => rfl)
 | true =>
  obtain ⟨hb, h1, h2, h3, h4, _⟩ := By7 ho
  obtain ⟨_, _, h5, h6, _⟩ := As3 hb
  obtain ⟨z1, z2, z3, z4, z5⟩ := Cx5 ho
  refine (A25 e hs).bd ?_
  rw [ho]
  simp only [Bool.not_true, br_false]
  refine (H2 e.1 (by omega) (by omega)).bd ((Bi4 e (by omega) (by omega)).bd ?_)
  refine Ev.gdle (by unfold A2; omega) ?_
  refine (H2 ((I8 e).length : Int) (by omega) (by omega)).bd ?_
  refine Ev.gdle (by unfold A2; rw [C8]; omega) ?_
  have sz : ∀ i, i ≤ (I8 e).length → (Bm5 ((I8 e).take i)).size ≤ 15 := fun i hi => by
   have := Cq3 (l := (I8 e).take i) (fun n hn => by have := h4 n (List.mem_of_mem_take hn); omega)
   rw [List.length_take] at this; omega
  obtain ⟨K, hK⟩ := H2 (Ab4 e) (by omega) (by omega)
  have loop := D81 (l := fun k m i => W7 k m (F1 e.1 ++ By6 e ++ (F1 ((I8 e).length : Int) ++ Bm5 ((I8 e).take i))) (i : Int) e) (I8 e).length (r := (A70 e, true)) (fun i hi => by
   have h7 := h4 _ (List.getElem_mem hi)
   obtain ⟨L, hL⟩ := H2 (I8 e)[i] (by omega) (by omega)
   refine ⟨L, fun k hk m => ?_⟩
   have h8 := hL k hk
   have h9 := sz i (by omega)
   have h10 := D2 (n := (I8 e)[i]) (by omega)
   have e1 := d9 hi (by omega)
   simp only [W7, Am2, hi, Int.ofNat_lt, Int.natCast_nonneg, decide_true, br_true, gd_true, Int.toNat_natCast, Aa6 hi, e1, h8, bd_some]
   rw [Ba6 (by unfold A2; simp only [C8]; omega), Fx8 hi]
   simp only [ByteArray.append_assoc]) ⟨K, fun k hk m => by
   have h8 := hK k hk
   have h9 := sz (I8 e).length (by omega)
   simp only [W7, Am2, Int.lt_irrefl, decide_false, br_false, h8, bd_some]
   rw [Ba6 (by unfold A2; simp only [C8]; omega), List.take_length]
   rfl⟩
  refine loop.congr fun k => ?_
  try simp only
  congr 1
  apply Af3
  simp [Bm5, B6]
def Cq5 (a b : List Int) : Bool := ((a.length : Int) == (b.length : Int)) && C26 a.length (fun i => rd 0 a i == rd 0 b i)
theorem Bi5 (a b : List Int) (h : a.length ≤ 1048576) : Ev (fun k => S0 k a b) (Cq5 a b) := by
 by_cases hl : a.length = b.length
 ·have hl2 : (a.length : Int) = (b.length : Int) := by omega
  have loop := Fc0 (l := fun k n i => Q5 k n a b (i : Int)) a.length (fun i => rd 0 a i == rd 0 b i) true false (fun i hi => ⟨0, fun k _ n => by
   have e := d9 hi (by omega)
   have hi2 : i < b.length := by omega
   simp only [Q5, Ad4, hi, hi2, Int.ofNat_lt, Int.natCast_nonneg, decide_true, br_true, gd_true, Int.toNat_natCast, e, bne, Fb9]⟩) ⟨0, fun k _ n => by simp [Q5, Ad4]⟩
  refine loop.congr_val (g := fun k => S0 k a b) (fun k => by simp only [S0, Ah7, bne, hl2, beq_self_eq_true, Bool.not_true, br_false]; rfl) ?_
  simp only [Cq5, hl2, beq_self_eq_true, Bool.true_and]
  cases C26 a.length (fun i => rd 0 a i == rd 0 b i) <;> rfl
 ·have hl2 : ((a.length : Int) == (b.length : Int)) = false := by simp; omega
  exact .of fun k => by simp only [S0, Ah7, bne, hl2, Bool.not_false, br_true, Cq5, Bool.false_and]
def Fc4 (a b : ByteArray) : Bool := a.toList == b.toList
def A71 (a b : C5) : Bool := (a.1 == b.1) && (T6 a == T6 b) && (S7 a == S7 b) && (Af2 a == Af2 b) && (P7 a == P7 b) && Fc4 (T7 a) (T7 b) && (Ab4 a == Ab4 b) && Cq5 (E8 a) (E8 b) && Cq5 (I8 a) (I8 b)
theorem Gt0 (b x : Bool) : br b (some x) (some false) = some (b && x) := by cases b <;> rfl
theorem D87 (a b : C5) (h : Au2 a ≤ 1048576) : Ev (fun k => A45 k a b) (A71 a b) := by
 obtain ⟨a1, a2, a3⟩ := Dg0 h
 obtain ⟨K, hK⟩ := Bi5 (E8 a) (E8 b) a1
 obtain ⟨L, hL⟩ := Bi5 (I8 a) (I8 b) a3
 refine ⟨max K L, fun k hk => ?_⟩
 have h1 := hK k (by omega)
 have h2 := hL k (by omega)
 have h3 : (a.2.2.2.2.2.2.1.toList == b.2.2.2.2.2.2.1.toList) = Fc4 (T7 a) (T7 b) := rfl
 simp only [A45, h1, h2, h3, bd_some, Gt0, A71, T6, S7, Af2, P7, Ab4, Bool.and_assoc]
abbrev Cd8 : C5 := (0, 0, 0, 0, 0, [], ByteArray.empty, [], 0, ())
def Cq6 (e : C5) : Bool := (e.1 == 0) && (Ab4 e == 0) && Ci9 (I8 e) && body e
def odd (n : Int) : Bool := Int.tmod n 2 == 1
def W4 (x : I1) : Bool := j5 x.2.1 0 1000000 && j5 x.2.2.1 0 1000000 &&
 (bif x.1 == 1 then A71 x.2.2.2.1 Cd8 && (x.2.2.2.2.1 == 0) && (x.2.2.2.2.2.1 == 0) && (x.2.1 == 0) && (x.2.2.1 == 0)
 else bif x.1 == 2 then (x.2.2.2.2.1 == 0) && (x.2.2.2.2.2.1 == 0) && Cq6 x.2.2.2.1
 else bif x.1 == 3 then (x.2.2.2.2.1 == 0) && (x.2.2.2.2.2.1 == 0) && b9 x.2.2.2.1 && odd x.2.2.2.1.1
 else bif x.1 == 4 then A71 x.2.2.2.1 Cd8 && j5 x.2.2.2.2.1 1 2 && j5 x.2.2.2.2.2.1 0 1000000
 else bif x.1 == 5 then A71 x.2.2.2.1 Cd8 && (x.2.2.2.2.1 == 0) && (x.2.2.2.2.2.1 == 0) else false)
theorem Dg2 (x : I1) (h : Bi2 x ≤ 1048576) : Ev (fun k => Aj8 k x) (W4 x) := by
 have hm : Au2 x.2.2.2.1 ≤ 1048576 := by unfold Bi2 at h; omega
 obtain ⟨K1, h1⟩ := D87 x.2.2.2.1 Cd8 hm
 obtain ⟨K2, h2⟩ := Cj0 x.2.2.2.1 hm
 obtain ⟨K3, h3⟩ := A25 x.2.2.2.1 hm
 refine ⟨max K1 (max K2 K3), fun k hk => ?_⟩
 have g1 : Ar7 k x.2.2.2.1 = some (A71 x.2.2.2.1 Cd8) := by
  have g0 := h1 k (by omega)
  simp only [Cd8] at g0
  simp only [Ar7, g0, bd_some]
 have g2 := h2 k (by omega)
 have g3 := h3 k (by omega)
 have g4 : ((x.2.2.2.1.2.2.2.2.2.2.2.1.length : Int) == 0) = Ci9 (I8 x.2.2.2.1) := rfl
 have g5 : (Int.tmod x.2.2.2.1.1 2 == 1) = odd x.2.2.2.1.1 := rfl
 simp only [Aj8, H9, bd_some, g1, g2, g3, g4, g5, W4, Cq6, bne, F90, ng_false, Ab4]
 generalize j5 x.2.1 0 1000000 = y1; generalize j5 x.2.2.1 0 1000000 = y2
 generalize A71 x.2.2.2.1 Cd8 = y3; generalize (x.2.2.2.2.1 == 0) = y4; generalize (x.2.2.2.2.2.1 == 0) = y5; generalize (x.2.1 == 0) = y6; generalize (x.2.2.1 == 0) = y7
 generalize body x.2.2.2.1 = y8; generalize (x.2.2.2.1.1 == 0) = y9; generalize (x.2.2.2.1.2.2.2.2.2.2.2.2.1 == 0) = y10; generalize Ci9 (I8 x.2.2.2.1) = y11
 generalize b9 x.2.2.2.1 = y12; generalize odd x.2.2.2.1.1 = y13; generalize j5 x.2.2.2.2.1 1 2 = y14; generalize j5 x.2.2.2.2.2.1 0 1000000 = y15
 rcases Eo2 x.1 with ⟨q1, q2, q3, q4, q5, q6⟩ | ⟨q1, q2, q3, q4, q5, q6⟩ | ⟨q1, q2, q3, q4, q5, q6⟩ | ⟨q1, q2, q3, q4, q5, q6⟩ | ⟨q1, q2, q3, q4, q5, q6⟩ | ⟨q1, q2, q3, q4, q5, q6⟩ <;> simp only [q1, q2, q3, q4, q5, q6] <;> clear q1 q2 q3 q4 q5 q6 <;> cases y1 <;> cases y2 <;> try rfl
 ·cases y3 <;> cases y4 <;> cases y5 <;> cases y6 <;> cases y7 <;> rfl
 ·cases y4 <;> cases y5 <;> cases y8 <;> cases y9 <;> cases y10 <;> cases y11 <;> rfl
 ·cases y4 <;> cases y5 <;> cases y12 <;> cases y13 <;> rfl
 ·cases y3 <;> cases y14 <;> cases y15 <;> rfl
 ·cases y3 <;> cases y4 <;> cases y5 <;> rfl
def Cd9 (x : I1) : ByteArray := B6 [IntKind.wrap .u8 x.1] ++ (F1 x.2.1 ++ F1 x.2.2.1) ++
 (bif x.1 == 2 then By6 x.2.2.2.1 else bif x.1 == 3 then As2 (A70 x.2.2.2.1) else bif x.1 == 4 then F1 x.2.2.2.2.1 ++ F1 x.2.2.2.2.2.1 else ⟨#[]⟩)
theorem Dg3 (s : ByteArray) : s ++ (⟨#[]⟩ : ByteArray) = s := by apply Af3; simp
theorem D17 {x : I1} (h : W4 x = true) : (0 ≤ x.2.1 ∧ x.2.1 ≤ 1000000) ∧ (0 ≤ x.2.2.1 ∧ x.2.2.1 ≤ 1000000) ∧
  ((x.1 == 2) = true → body x.2.2.2.1 = true) ∧ ((x.1 == 3) = true → b9 x.2.2.2.1 = true) ∧ ((x.1 == 4) = true → (1 ≤ x.2.2.2.2.1 ∧ x.2.2.2.2.1 ≤ 2) ∧ (0 ≤ x.2.2.2.2.2.1 ∧ x.2.2.2.2.2.1 ≤ 1000000)) := by
 unfold W4 at h
 simp only [Bool.and_eq_true] at h
 obtain ⟨⟨h1, h2⟩, h3⟩ := h
 refine ⟨D4.1 h1, D4.1 h2, fun q => ?_, fun q => ?_, fun q => ?_⟩ <;>
  (rcases Eo2 x.1 with ⟨q1, q2, q3, q4, q5, q6⟩ | ⟨q1, q2, q3, q4, q5, q6⟩ | ⟨q1, q2, q3, q4, q5, q6⟩ | ⟨q1, q2, q3, q4, q5, q6⟩ | ⟨q1, q2, q3, q4, q5, q6⟩ | ⟨q1, q2, q3, q4, q5, q6⟩ <;> simp only [q1, q2, q3, q4, q5] at h3 q <;> first | cases q | skip)
 ·simp only [cond_true, cond_false, Bool.and_eq_true, Cq6] at h3
  exact h3.2.2
 ·simp only [cond_true, cond_false, Bool.and_eq_true] at h3
  exact h3.1.2
 ·simp only [cond_true, cond_false, Bool.and_eq_true, D4] at h3
  exact ⟨h3.1.2, h3.2⟩
theorem Fy2 {e : C5} (h : b9 e = true) : (A70 e).size ≤ 1000 := by
 obtain ⟨z1, z2, z3, z4, z5⟩ := Cx5 h
 unfold A70
 rw [C8, C8, C8, C8]; omega
theorem Fy3 {e : C5} (h : body e = true) : (By6 e).size ≤ 100 := by
 obtain ⟨_, _, h5, h6, _⟩ := As3 h
 have a1 := D2 (n := ((E8 e).length : Int)) (by omega)
 have a2 := D2 (n := ((T7 e).size : Int)) (by omega)
 unfold By6 As2 A69
 rw [C8, C8, C8, C8, Cd7, D6]
 simp only [List.length_cons, List.length_nil]
 omega
theorem Cq7 (x : I1) (h : Bi2 x ≤ 1048576) : Ev (fun k => u4 k x) (bif W4 x then (Cd9 x, true) else (⟨#[]⟩, false)) := by
 have hm : Au2 x.2.2.2.1 ≤ 1048576 := by unfold Bi2 at h; omega
 unfold u4
 refine (Dg2 x h).bd ?_
 cases ho : W4 x with
 | false => exact .of fun k => rfl
 | true =>
  obtain ⟨c1, c2, c3, c4, c5⟩ := D17 ho
  simp only [Bool.not_true, br_false, X8, bd_some]
  have w1 : (B6 [IntKind.wrap .u8 x.1]).size = 1 := D6 _
  have w2 := D2 (n := x.2.1) (by omega)
  have w3 := D2 (n := x.2.2.1) (by omega)
  refine (H2 _ c1.1 (by omega)).bd ?_
  refine Ev.gdle (by unfold A2; omega) ?_
  refine (H2 _ c2.1 (by omega)).bd ?_
  refine Ev.gdle (by unfold A2; rw [C8]; omega) ?_
  unfold Cd9
  simp only [cond_true]
  cases q2 : (x.1 == 2) with
  | true =>
   have hb := c3 q2
   obtain ⟨_, _, h5, h6, _⟩ := As3 hb
   have h7 := Fy3 hb
   refine (Bi4 _ (by omega) (by omega)).bd (Ev.gdle (by unfold A2; simp only [C8]; omega) (.of fun k => ?_))
   simp only [cond_true, ByteArray.append_assoc]
  | false =>
   cases q3 : (x.1 == 3) with
   | true =>
    have hb := c4 q3
    have h7 := Fy2 hb
    refine (Dg1 _ hm).bd ?_
    rw [hb]
    have h8 := D2 (n := ((A70 x.2.2.2.1).size : Int)) (by omega)
    refine (Ca4 _ (by simp only [cond_true]; omega)).bd (Ev.gdle (by unfold A2 As2; simp only [cond_true, C8]; omega) (.of fun k => ?_))
    simp only [cond_true, cond_false, ByteArray.append_assoc]
   | false =>
    cases q4 : (x.1 == 4) with
    | true =>
     obtain ⟨h7, h8⟩ := c5 q4
     have w4 := D2 (n := x.2.2.2.2.1) (by omega)
     have w5 := D2 (n := x.2.2.2.2.2.1) (by omega)
     refine (H2 _ (by omega) (by omega)).bd (Ev.gdle (by unfold A2; simp only [C8]; omega) ((H2 _ (by omega) (by omega)).bd (Ev.gdle (by unfold A2; simp only [C8]; omega) (.of fun k => ?_))))
     simp only [cond_true, cond_false, ByteArray.append_assoc]
    | false =>
     refine .of fun k => ?_
     simp only [br_false, cond_false, ByteArray.append_assoc, Dg3]
end Go.Vm
end
section
set_option linter.unusedVariables false
set_option linter.unusedSimpArgs false
namespace Go.Vm
open Go
theorem N4 (s t : ByteArray) : D5 (s ++ t) = D5 s ++ D5 t := by simp [D5]
theorem Q9 {xs : List Int} (h : ∀ x ∈ xs, 0 ≤ x ∧ x < 256) : D5 (B6 xs) = xs := by
 simp only [D5, B6, List.map_map]
 rw [List.map_congr_left (g := id) (fun b hb => ?_)]
 ·simp
 ·obtain ⟨h0, h1⟩ := h b hb
  have e : (UInt8.ofNat b.toNat).toNat = b.toNat := by
   rw [UInt8.toNat_ofNat']
   exact Nat.mod_eq_of_lt (by omega)
  simp only [Function.comp, e, id]
  omega
theorem Fc5 {s t : ByteArray} (h : D5 s = D5 t) : s = t := by
 rw [← Q2 s, h, Q2]
theorem Cj2 {s : ByteArray} : ∀ x ∈ D5 s, 0 ≤ x ∧ x < 256 := by
 intro x hx
 simp only [D5, List.mem_map] at hx
 obtain ⟨b, _, rfl⟩ := hx
 have := b.toNat_lt
 omega
theorem D18 (s : ByteArray) (i : Nat) : bt s i = rd 0 (D5 s) i := by
 unfold bt
 by_cases h : i < s.size
 ·rw [dif_pos h, Aa6 (by rw [E4]; exact h)]
  simp only [D5, List.getElem_map, Array.getElem_toList]
  rfl
 ·rw [dif_neg h]
  simp [rd, E4, h]
theorem By8 (s : ByteArray) (p q : Nat) : D5 (s.extract p q) = ((D5 s).take q).drop p := by
 simp only [D5, ByteArray.data_extract, Array.toList_extract, List.map_drop, List.map_take]
 rw [List.drop_take]
def z8 (a : ByteArray) (p : Nat) (s : ByteArray) : Prop := D5 s <+: (D5 a).drop p
theorem O6 {a s t : ByteArray} {p : Nat} : z8 a p (s ++ t) ↔ z8 a p s ∧ z8 a (p + s.size) t := by
 unfold z8
 rw [N4, ← List.drop_drop, ← E4 s]
 generalize (D5 a).drop p = d
 constructor
 ·rintro ⟨r, rfl⟩
  refine ⟨⟨D5 t ++ r, by simp⟩, ?_⟩
  rw [List.append_assoc, List.drop_left]
  exact ⟨r, rfl⟩
 ·rintro ⟨⟨r, rfl⟩, h⟩
  rw [List.drop_left] at h
  obtain ⟨q, rfl⟩ := h
  exact ⟨q, by simp⟩
theorem Gn9 {a s : ByteArray} {p : Nat} (h : z8 a p s) (hp : p ≤ a.size) : p + s.size ≤ a.size := by
 have := h.length_le
 rw [List.length_drop, E4, E4] at this
 omega
theorem Ae1 {a s : ByteArray} {p : Nat} (h : z8 a p s) : a.extract p (p + s.size) = s := by
 apply Fc5
 rw [By8, List.drop_take]
 obtain ⟨r, hr⟩ := h
 rw [← hr, ← E4 s]
 simp
theorem B69 (a : ByteArray) : z8 a 0 a := ⟨[], by simp⟩
theorem Cq8 {a : ByteArray} {p : Nat} (hp : p < a.size) : z8 a p (B6 [bt a p]) := by
 unfold z8
 have hb : 0 ≤ bt a p ∧ bt a p < 256 := by
  rw [D18, Aa6 (by rw [E4]; exact hp)]
  exact Cj2 _ (List.getElem_mem _)
 rw [Q9 (by simpa using hb), ← List.getElem_cons_drop (show p < (D5 a).length by rw [E4]; exact hp), D18, Aa6 (by rw [E4]; exact hp)]
 exact ⟨_, rfl⟩
theorem Cj3 (a : ByteArray) (p : Nat) : 0 ≤ bt a p ∧ bt a p < 256 := by
 by_cases hp : p < a.size
 ·rw [D18, Aa6 (by rw [E4]; exact hp)]
  exact Cj2 _ (List.getElem_mem _)
 ·unfold bt; rw [dif_neg hp]; omega
theorem Cj4 {a : ByteArray} {p : Nat} {b : Int} (hb : 0 ≤ b ∧ b < 256) (h : z8 a p (B6 [b])) : p < a.size ∧ bt a p = b := by
 unfold z8 at h
 rw [Q9 (by simpa using hb)] at h
 obtain ⟨r, hr⟩ := h
 have h1 : p < (D5 a).length := by
  have := congrArg List.length hr
  simp at this
  omega
 rw [E4] at h1
 refine ⟨h1, ?_⟩
 have hr2 := hr.trans (List.getElem_cons_drop (show p < (D5 a).length by rw [E4]; exact h1)).symm
 rw [D18, Aa6 (by rw [E4]; exact h1)]
 simp only [List.cons_append, List.nil_append, List.cons.injEq] at hr2
 exact hr2.1.symm
def dec : List Int → Int
 | [] => 0
 | d :: ds => d % 128 + 128 * dec ds
theorem Eo4 : ∀ (D : List Int) (b : Int), dec (D ++ [b]) = dec D + (b % 128) * 128 ^ D.length
 | [], b => by simp [dec]
 | d :: D, b => by
  rw [List.cons_append, dec, Eo4 D b, dec, List.length_cons, Int.pow_succ]
  generalize dec D = x
  generalize (128 : Int) ^ D.length = y
  generalize b % 128 = z
  rw [Int.mul_add]
  have : 128 * (z * y) = z * (y * 128) := by rw [← Int.mul_assoc, Int.mul_comm 128 z, Int.mul_assoc, Int.mul_comm 128 y]
  omega
theorem Dg4 : ∀ (D : List Int), 0 ≤ dec D ∧ dec D < 128 ^ D.length
 | [] => by simp [dec]
 | d :: D => by
  obtain ⟨h0, h1⟩ := Dg4 D
  rw [dec, List.length_cons, Int.pow_succ]
  generalize (128 : Int) ^ D.length = y at *
  omega
theorem Dg5 (n : Nat) : dec (varL n) = n := by
 induction n using Nat.strongRecOn with
 | _ n ih =>
  unfold varL
  by_cases h : n < 128
  ·rw [if_pos h]; simp only [dec]; omega
  ·rw [if_neg h, dec, ih (n / 128) (by omega)]; omega
def Hi (D : List Int) : Prop := ∀ d ∈ D, 128 ≤ d ∧ d < 256
def Code (xs : List Int) : Prop := ∃ D b, xs = D ++ [b] ∧ Hi D ∧ 0 ≤ b ∧ b < 128
theorem A48 (n : Nat) : Code (varL n) := by
 induction n using Nat.strongRecOn with
 | _ n ih =>
  unfold varL
  by_cases h : n < 128
  ·rw [if_pos h]; exact ⟨[], n, rfl, fun _ h => by simp at h, by omega, by omega⟩
  ·rw [if_neg h]
   obtain ⟨D, b, e, hD, h0, h1⟩ := ih (n / 128) (by omega)
   rw [e]
   refine ⟨((n % 128 + 128 : Nat) : Int) :: D, b, rfl, fun d hd => ?_, h0, h1⟩
   rcases List.mem_cons.1 hd with rfl | hd
   ·omega
   ·exact hD d hd
theorem Fc6 {xs : List Int} (h : Code xs) : ∀ x ∈ xs, 0 ≤ x ∧ x < 256 := by
 obtain ⟨D, b, rfl, hD, h0, h1⟩ := h
 intro x hx
 rcases List.mem_append.1 hx with h | h
 ·have := hD x h; omega
 ·simp at h; omega
theorem F92 : ∀ (D : List Int) (b : Int), Hi D → 0 ≤ b → b < 128 → (varL (dec (D ++ [b])).toNat).length = D.length + 1 → varL (dec (D ++ [b])).toNat = D ++ [b]
 | [], b, _, h0, h1, _ => by
  have e : dec ([] ++ [b]) = b := by simp [dec]; omega
  rw [e]
  unfold varL
  rw [if_pos (by omega)]
  simp; omega
 | d :: D, b, hD, h0, h1, hl => by
  have hd := hD d (List.mem_cons_self ..)
  have ih := F92 D b (fun x hx => hD x (List.mem_cons_of_mem _ hx)) h0 h1
  have hb := Dg4 (D ++ [b])
  rw [List.cons_append, dec] at hl ⊢
  generalize dec (D ++ [b]) = x at *
  rw [varL.eq_def] at hl ⊢
  by_cases h : (d % 128 + 128 * x).toNat < 128
  ·rw [if_pos h] at hl; simp at hl
  ·rw [if_neg h] at hl ⊢
   have e : (d % 128 + 128 * x).toNat / 128 = x.toNat := by omega
   rw [e] at hl ⊢
   rw [ih (by simpa using hl)]
   congr 1
   omega
theorem Gq8 {D ys zs : List Int} (hD : Hi D) (hy : Code ys) (h1 : D <+: zs) (h2 : ys <+: zs) : D.length < ys.length := by
 apply Nat.lt_of_not_le
 intro hle
 obtain ⟨D', b, rfl, _, h3, h4⟩ := hy
 have := List.prefix_of_prefix_length_le h2 h1 hle
 have := hD b (this.mem (by simp))
 omega
theorem D19 {xs ys zs : List Int} (hx : Code xs) (hy : Code ys) (h1 : xs <+: zs) (h2 : ys <+: zs) : xs = ys := by
 have aux : ∀ {xs ys : List Int}, Code xs → Code ys → xs <+: ys → xs = ys := by
  intro xs ys hx hy h
  obtain ⟨D, b, rfl, hD, h0, h1⟩ := hx
  obtain ⟨t, ht⟩ := h
  by_cases e : t = []
  ·subst e; simpa using ht
  ·exfalso
   obtain ⟨D', b', rfl, hD', h0', h1'⟩ := hy
   have hl := congrArg List.length ht
   have : 1 ≤ t.length := by cases t with | nil => exact absurd rfl e | cons _ _ => simp
   simp at hl
   have h5 : (D ++ [b]) <+: D' := List.prefix_of_prefix_length_le (l₃ := D' ++ [b']) ⟨t, ht⟩ ⟨[b'], rfl⟩ (by simp; omega)
   have := hD' b (h5.mem (by simp))
   omega
 rcases List.prefix_or_prefix_of_prefix h1 h2 with h | h
 ·exact aux hx hy h
 ·exact (aux hy hx h).symm
theorem Ab5 (n : Int) : D5 (F1 n) = varL n.toNat := Q9 (Fc6 (A48 _))
end Go.Vm
end
section
set_option linter.unusedVariables false
set_option linter.unusedSimpArgs false
namespace Go.Vm
open Go
structure RV (a : ByteArray) (p : Nat) (r : Int × Int × Bool) : Prop where
 sound : r.2.2 = true → 0 ≤ r.1 ∧ r.1 ≤ 1000000000 ∧ r.2.1 = ((p + (F1 r.1).size : Nat) : Int) ∧ p + (F1 r.1).size ≤ a.size ∧ z8 a p (F1 r.1)
 full : ∀ n : Int, 0 ≤ n → n ≤ 1000000000 → z8 a p (F1 n) → r = (n, ((p + (F1 n).size : Nat) : Int), true)
theorem RV.no {a : ByteArray} {p : Nat} (h : ∀ n : Int, 0 ≤ n → n ≤ 1000000000 → ¬ z8 a p (F1 n)) : RV a p (0, 0, false) :=
 ⟨fun h => (by cases h), fun n h0 h1 h2 => absurd h2 (h n h0 h1)⟩
theorem Aw1 (n : Int) : (F1 n).size = (varL n.toNat).length := by unfold F1; rw [D6]
theorem RV.code {a : ByteArray} {p : Nat} {xs : List Int} (hx : Code xs) (hs : xs <+: (D5 a).drop p) (hp : p + xs.length ≤ a.size) (hc : ∃ D b, xs = D ++ [b] ∧ Hi D ∧ 0 ≤ b ∧ b < 128) :
  RV a p (if dec xs ≤ 1000000000 ∧ (varL (dec xs).toNat).length = xs.length then (dec xs, ((p + xs.length : Nat) : Int), true) else (0, 0, false)) := by
 have h0 : 0 ≤ dec xs := (Dg4 xs).1
 have key : ∀ n : Int, 0 ≤ n → z8 a p (F1 n) → dec xs = n ∧ (varL (dec xs).toNat).length = xs.length := by
  intro n hn h
  unfold z8 at h
  rw [Ab5] at h
  have e := D19 (A48 _) hx h hs
  have e2 : dec xs = n := by rw [← e, Dg5]; omega
  exact ⟨e2, by rw [e2, e]⟩
 by_cases h : dec xs ≤ 1000000000 ∧ (varL (dec xs).toNat).length = xs.length
 ·rw [if_pos h]
  refine ⟨fun _ => ?_, fun n hn h1 h2 => ?_⟩
  ·obtain ⟨D, b, rfl, hD, hb0, hb1⟩ := hc
   have e := F92 D b hD hb0 hb1 (by rw [h.2]; simp)
   refine ⟨h0, h.1, by simp only [Aw1, h.2], by rw [Aw1, h.2]; exact hp, ?_⟩
   unfold z8
   rw [Ab5, e]; exact hs
  ·obtain ⟨e1, e2⟩ := key n hn h2
   rw [Aw1, ← e1, h.2]
 ·rw [if_neg h]
  refine RV.no fun n hn h1 h2 => ?_
  obtain ⟨e1, e2⟩ := key n hn h2
  exact h ⟨by omega, e2⟩
theorem Ft9 {i : Nat} (h : i ≤ 5) : (128 : Int) ^ i ≤ 34359738368 ∧ 0 < (128 : Int) ^ i := by
 rcases i with _ | _ | _ | _ | _ | _ | i <;> first | omega | decide
theorem Gx2 {i : Nat} (h : i ≤ 4) : (2 : Int) ^ (min (B0 (7 * (i : Int))).toNat 64) = 128 ^ i ∧ decide (B0 (7 * (i : Int)) < 0) = false := by
 rw [C6 (by omega) (by omega)]
 rcases i with _ | _ | _ | _ | _ | i <;> first | omega | decide
theorem Go0 (a : ByteArray) (p : Nat) (ha : a.size ≤ 1048576) : ∀ (j i : Nat) (D : List Int), i + j = 5 → D.length = i → Hi D → D <+: (D5 a).drop p → p + i ≤ a.size →
  ∃ r : Int × Int × Bool, RV a p r ∧ (∃ K, ∀ k, K ≤ k → ∀ n, j < n → R9 k n a (p : Int) (dec D) ((128 : Int) ^ i) ((p + i : Nat) : Int) = some r) ∧
   (∃ K, ∀ k, K ≤ k → ∀ n, j < n → S3 k n a (p : Int) (dec D) (i : Int) = some r) := by
 intro j
 induction j with
 | zero =>
  intro i D hi hD hh hs hp
  refine ⟨(0, 0, false), RV.no fun n h0 h1 h2 => ?_, ⟨0, fun k _ n hn => ?_⟩, ⟨0, fun k _ n hn => ?_⟩⟩
  ·unfold z8 at h2
   rw [Ab5] at h2
   have := Gq8 hh (A48 _) hs h2
   have h5 := D2 h1
   rw [Aw1] at h5
   omega
  ·obtain ⟨m, rfl⟩ : ∃ m, n = m + 1 := ⟨n - 1, by omega⟩
   have e1 : B0 ((p : Int) + 5) = p + 5 := C6 (by omega) (by omega)
   simp only [R9, Al9, e1]
   rw [show decide (((p + i : Nat) : Int) < (p : Int) + 5) = false by simp; omega]
   simp only [br_false]
   cases decide (((p + i : Nat) : Int) < (a.size : Int)) <;> rfl
  ·obtain ⟨m, rfl⟩ : ∃ m, n = m + 1 := ⟨n - 1, by omega⟩
   simp only [S3, Am5]
   rw [show decide ((i : Int) < 5) = false by simp; omega]
   rfl
 | succ j ih =>
  intro i D hi hD hh hs hp
  have e5 : B0 ((p : Int) + 5) = p + 5 := C6 (by omega) (by omega)
  have epi : B0 ((p : Int) + (i : Int)) = ((p + i : Nat) : Int) := by rw [C6 (by omega) (by omega)]; omega
  have d5 : decide (((p + i : Nat) : Int) < (p : Int) + 5) = true := by simp; omega
  have di : decide ((i : Int) < 5) = true := by simp; omega
  by_cases hz : p + i < a.size
  ·have dz : decide (((p + i : Nat) : Int) < (a.size : Int)) = true := by simp; omega
   have d0 : decide (0 ≤ ((p + i : Nat) : Int)) = true := decide_eq_true (Int.natCast_nonneg _)
   have hb := Cj3 a (p + i)
   have hsb := Cq8 hz
   unfold z8 at hsb
   rw [Q9 (by simpa using hb)] at hsb
   generalize hbe : bt a (p + i) = b at hb hsb
   have hs2 : (D ++ [b]) <+: (D5 a).drop p := by
    obtain ⟨t, ht⟩ := hs
    rw [← List.drop_drop, ← ht, ← hD, List.drop_left] at hsb
    obtain ⟨u, rfl⟩ := hsb
    exact ⟨u, by rw [← ht]; simp⟩
   have hw : B0 b = b := C6 (by omega) (by omega)
   have ht : Int.tmod b 128 = b % 128 := Int.tmod_eq_emod_of_nonneg (by omega)
   obtain ⟨q1, q2⟩ := Ft9 (i := i) (by omega)
   obtain ⟨q3, q4⟩ := Ft9 (i := i + 1) (by omega)
   have hsn := Eo4 D b
   rw [hD] at hsn
   have hd1 := Dg4 D
   have hd2 := Dg4 (D ++ [b])
   have hl2 : (D ++ [b]).length = i + 1 := by simp [hD]
   rw [hl2] at hd2
   have hx0 : 0 ≤ (b % 128) * 128 ^ i := Int.mul_nonneg (by omega) (by omega)
   have hw2 : B0 ((b % 128) * 128 ^ i) = (b % 128) * 128 ^ i := C6 (by omega) (by omega)
   have hw3 : B0 (dec D + (b % 128) * 128 ^ i) = dec (D ++ [b]) := by rw [← hsn]; exact C6 (by omega) (by omega)
   have hw4 : B0 ((128 : Int) ^ i * 128) = 128 ^ (i + 1) := by rw [← Int.pow_succ]; exact C6 (by omega) (by omega)
   have hw5 : B0 (((p + i : Nat) : Int) + 1) = ((p + (i + 1) : Nat) : Int) := by rw [C6 (by omega) (by omega)]; omega
   have hw6 : B0 ((i : Int) + 1) = ((i + 1 : Nat) : Int) := by rw [C6 (by omega) (by omega)]; omega
   have hb2 : (b == b && (128 : Int) == 0) = false := Gs8 b
   obtain ⟨s1, s2⟩ := Gx2 (i := i) (by omega)
   have step_s : ∀ k m, R9 k (m + 1) a (p : Int) (dec D) ((128 : Int) ^ i) ((p + i : Nat) : Int) =
     br (decide (b < 128)) (br (decide (dec (D ++ [b]) > 1000000000)) (some (0, 0, false)) (bd (J2 k (dec (D ++ [b]))) fun r2 => br (!(r2.toList == (a.extract p (p + (i + 1))).toList)) (some (0, 0, false)) (some (dec (D ++ [b]), ((p + (i + 1) : Nat) : Int), true)))) (R9 k m a (p : Int) (dec (D ++ [b])) ((128 : Int) ^ (i + 1)) ((p + (i + 1) : Nat) : Int)) := by
    intro k m
    have g1 : decide (((p + (i + 1) : Nat) : Int) ≤ (a.size : Int)) = true := by simp; omega
    have g2 : decide ((p : Int) ≤ ((p + (i + 1) : Nat) : Int)) = true := by simp; omega
    have g3 : decide (0 ≤ ((p + (i + 1) : Nat) : Int)) = true := by simp; omega
    have g4 : decide (0 ≤ (p : Int)) = true := by simp
    simp only [R9, Al9, e5, d5, dz, d0, br_true, gd_true, Int.toNat_natCast, hbe, hw, ht, hw2, hw3, hw4, hw5, hb2, ng_false, g1, g2, g3, g4]
   have step_i : ∀ k m, S3 k (m + 1) a (p : Int) (dec D) (i : Int) =
     br (decide (b < 128)) (bd (X9 k (dec (D ++ [b]))) fun r2 => br (!r2.2) (some (0, 0, false)) (br ((r2.1.size : Int) != ((i + 1 : Nat) : Int)) (some (0, 0, false)) (some (dec (D ++ [b]), ((p + (i + 1) : Nat) : Int), true)))) (S3 k m a (p : Int) (dec (D ++ [b])) ((i + 1 : Nat) : Int)) := by
    intro k m
    simp only [S3, Am5, di, epi, dz, d0, br_true, gd_true, Int.toNat_natCast, hbe, hw, ht, hb2, ng_false, s1, s2, hw2, hw3, hw5, hw6]
   by_cases hlt : b < 128
   ·have hcode : Code (D ++ [b]) := ⟨D, b, rfl, hh, hb.1, hlt⟩
    refine ⟨_, RV.code hcode hs2 (by rw [hl2]; omega) hcode, ?_, ?_⟩
    ·by_cases hn : dec (D ++ [b]) ≤ 1000000000
     ·obtain ⟨K, hK⟩ := H2 (dec (D ++ [b])) hd2.1 (by omega)
      refine ⟨K, fun k hk n hn' => ?_⟩
      obtain ⟨m, rfl⟩ : ∃ m, n = m + 1 := ⟨n - 1, by omega⟩
      have hK2 : J2 k (dec (D ++ [b])) = some (F1 (dec (D ++ [b]))) := hK k hk
      rw [step_s, decide_eq_true hlt, br_true, show decide (dec (D ++ [b]) > 1000000000) = false by simp; omega, br_false, hK2, bd_some, b7, hl2]
      by_cases hl : (varL (dec (D ++ [b])).toNat).length = i + 1
      ·rw [if_pos ⟨hn, hl⟩]
       have e := F92 D b hh hb.1 hlt (by rw [hl, hD])
       have : F1 (dec (D ++ [b])) = a.extract p (p + (i + 1)) := by
        have hsit : z8 a p (F1 (dec (D ++ [b]))) := by unfold z8; rw [Ab5, e]; exact hs2
        have := Ae1 hsit
        rw [Aw1, hl] at this
        exact this.symm
       rw [decide_eq_true this]; rfl
      ·rw [if_neg (fun h => hl h.2)]
       have : F1 (dec (D ++ [b])) ≠ a.extract p (p + (i + 1)) := by
        intro h
        apply hl
        rw [← Aw1, h, ByteArray.size_extract]
        omega
       rw [decide_eq_false this]; rfl
     ·refine ⟨0, fun k _ n hn' => ?_⟩
      obtain ⟨m, rfl⟩ : ∃ m, n = m + 1 := ⟨n - 1, by omega⟩
      rw [step_s, decide_eq_true hlt, br_true, show decide (dec (D ++ [b]) > 1000000000) = true by simp; omega, br_true, if_neg (fun h => hn h.1)]
    ·obtain ⟨K, hK⟩ := Bo1 (dec (D ++ [b]))
     refine ⟨K, fun k hk n hn' => ?_⟩
     obtain ⟨m, rfl⟩ : ∃ m, n = m + 1 := ⟨n - 1, by omega⟩
     have hK2 : X9 k (dec (D ++ [b])) = some (Eo3 (dec (D ++ [b]))) := hK k hk
     rw [step_i, decide_eq_true hlt, br_true, hK2, bd_some, hl2]
     by_cases hn : dec (D ++ [b]) ≤ 1000000000
     ·rw [D86 hd2.1 hn]
      simp only [Bool.not_true, br_false, Aw1]
      by_cases hl : (varL (dec (D ++ [b])).toNat).length = i + 1
      ·rw [if_pos ⟨hn, hl⟩, hl]; simp
      ·rw [if_neg (fun h => hl h.2), show (((varL (dec (D ++ [b])).toNat).length : Int) != ((i + 1 : Nat) : Int)) = true by simp; omega]; rfl
     ·rw [if_neg (fun h => hn h.1)]
      have : Eo3 (dec (D ++ [b])) = (⟨#[]⟩, false) := by
       unfold Eo3 j5
       rw [show decide (dec (D ++ [b]) ≤ 1000000000) = false by simp; omega]
       simp
      rw [this]; rfl
   ·obtain ⟨r, hr, ⟨K1, h1⟩, ⟨K2, h2⟩⟩ := ih (i + 1) (D ++ [b]) (by omega) hl2 (fun d hd => by
     rcases List.mem_append.1 hd with h | h
     ·exact hh d h
     ·simp at h; omega) hs2 (by omega)
    refine ⟨r, hr, ⟨K1, fun k hk n hn' => ?_⟩, ⟨K2, fun k hk n hn' => ?_⟩⟩
    ·obtain ⟨m, rfl⟩ : ∃ m, n = m + 1 := ⟨n - 1, by omega⟩
     rw [step_s, decide_eq_false hlt, br_false]; exact h1 k hk m (by omega)
    ·obtain ⟨m, rfl⟩ : ∃ m, n = m + 1 := ⟨n - 1, by omega⟩
     rw [step_i, decide_eq_false hlt, br_false]; exact h2 k hk m (by omega)
  ·have dz : decide (((p + i : Nat) : Int) < (a.size : Int)) = false := by simp; omega
   refine ⟨(0, 0, false), RV.no fun n h0 h1 h2 => ?_, ⟨0, fun k _ n hn => ?_⟩, ⟨0, fun k _ n hn => ?_⟩⟩
   ·have h3 := Gn9 h2 (by omega)
    unfold z8 at h2
    rw [Ab5] at h2
    have := Gq8 hh (A48 _) hs h2
    rw [Aw1] at h3
    omega
   ·obtain ⟨m, rfl⟩ : ∃ m, n = m + 1 := ⟨n - 1, by omega⟩
    simp only [R9, Al9, dz, br_false]
   ·obtain ⟨m, rfl⟩ : ∃ m, n = m + 1 := ⟨n - 1, by omega⟩
    simp only [S3, Am5, di, br_true, epi, dz, br_false]
theorem Ce0 (a : ByteArray) (p : Nat) (ha : a.size ≤ 1048576) (hp : p ≤ a.size) : ∃ r : Int × Int × Bool, RV a p r ∧ Ev (fun k => u0 k a (p : Int)) r ∧ Ev (fun k => u5 k a (p : Int)) r := by
 obtain ⟨r, h0, ⟨K1, h1⟩, ⟨K2, h2⟩⟩ := Go0 a p ha 5 0 [] rfl rfl (fun _ h => by cases h) ⟨_, rfl⟩ (by omega)
 have hin : j5 (p : Int) 0 (a.size : Int) = true := by simp [j5]; omega
 refine ⟨r, h0, ⟨K1 + 6, fun k hk => ?_⟩, ⟨K2 + 6, fun k hk => ?_⟩⟩
 ·have := h1 k (by omega) k (by omega)
  simpa [u0, Bx2, H9, hin, dec] using this
 ·have := h2 k (by omega) k (by omega)
  simpa [u5, By0, N2, hin, dec] using this
abbrev cur (a : ByteArray) (p : Nat) (b : Bool) : M9 := (a, (p : Int), b, ())
structure Rd {α : Type} (a : ByteArray) (enc : α → ByteArray) (ok : α → Prop) (d : α) (p : Nat) (b : Bool) (x : α) (q : Nat) (b' : Bool) : Prop where
 le : p ≤ q
 hi : q ≤ a.size
 bad : b = true → x = d ∧ q = p ∧ b' = true
 badv : b' = true → x = d
 sound : b' = false → ok x ∧ q = p + (enc x).size ∧ z8 a p (enc x)
 full : b = false → ∀ y, ok y → z8 a p (enc y) → x = y ∧ q = p + (enc y).size ∧ b' = false
def Am7 (n : Int) : Prop := 0 ≤ n ∧ n ≤ 1000000000
def R5 (n : Int) : Prop := 0 ≤ n ∧ n < 256
def I2 (n : Int) : ByteArray := B6 [n]
theorem Rd.stuck {α : Type} {a : ByteArray} {enc : α → ByteArray} {ok : α → Prop} {d : α} {p : Nat} (hp : p ≤ a.size) : Rd a enc ok d p true d p true :=
 ⟨Nat.le_refl _, hp, fun _ => ⟨rfl, rfl, rfl⟩, fun _ => rfl, fun h => by (cases h), fun h => by (cases h)⟩
theorem Az3 (a : ByteArray) (p : Nat) (b : Bool) (ha : a.size ≤ 1048576) (hp : p ≤ a.size) :
  ∃ x q b', Rd a F1 Am7 0 p b x q b' ∧ Ev (fun k => Av3 k (cur a p b)) (x, cur a q b', ()) ∧ Ev (fun k => Y8 k (cur a p b)) (x, cur a q b', ()) := by
 obtain ⟨r, hr, h1, h2⟩ := Ce0 a p ha hp
 obtain ⟨n, q, o⟩ := r
 cases b with
 | true => exact ⟨0, p, true, .stuck hp, h1.bd (.of fun _ => rfl), h2.bd (.of fun _ => rfl)⟩
 | false =>
  cases o with
  | false =>
   refine ⟨0, p, true, ⟨Nat.le_refl _, hp, fun h => by (cases h), fun _ => rfl, fun h => by (cases h), fun _ y hy hs => ?_⟩, h1.bd (.of fun _ => rfl), h2.bd (.of fun _ => rfl)⟩
   have := hr.full y hy.1 hy.2 hs
   simp at this
  | true =>
   obtain ⟨e1, e2, e3, e4, e5⟩ := hr.sound rfl
   simp only at e1 e2 e3 e4 e5
   subst e3
   refine ⟨n, p + (F1 n).size, false, ⟨by omega, e4, fun h => by (cases h), fun h => by (cases h), fun _ => ⟨⟨e1, e2⟩, rfl, e5⟩, fun _ y hy hs => ?_⟩, h1.bd (.of fun _ => rfl), h2.bd (.of fun _ => rfl)⟩
   have := hr.full y hy.1 hy.2 hs
   simp only [Prod.mk.injEq] at this
   refine ⟨this.1, ?_, rfl⟩
   omega
theorem Cj5 (a : ByteArray) (p : Nat) (b : Bool) (ha : a.size ≤ 1048576) (hp : p ≤ a.size) :
  ∃ x q b', Rd a I2 R5 0 p b x q b' ∧ Ev (fun k => S4 k (cur a p b)) (x, cur a q b', ()) := by
 cases b with
 | true => exact ⟨0, p, true, .stuck hp, .of fun _ => rfl⟩
 | false =>
  have e1 : B0 ((a.size : Int) - (p : Int)) = (a.size : Int) - p := C6 (by omega) (by omega)
  have e2 : B0 ((p : Int) + 1) = ((p + 1 : Nat) : Int) := by rw [C6 (by omega) (by omega)]; omega
  have e3 : B0 (((p + 1 : Nat) : Int) - 1) = (p : Int) := by rw [C6 (by omega) (by omega)]; omega
  by_cases hlt : p < a.size
  ·have hb := Cj3 a p
   have e4 : B0 (bt a p) = bt a p := C6 (by omega) (by omega)
   have hs := Cq8 hlt
   have d1 : decide ((1 : Int) > (a.size : Int) - p) = false := by simp; omega
   have d2 : decide (((p + 1 : Nat) : Int) ≤ (a.size : Int)) = true := by simp; omega
   have d3 : decide (0 ≤ ((p + 1 : Nat) : Int)) = true := decide_eq_true (Int.natCast_nonneg _)
   have d4 : decide (0 ≤ (p : Int)) = true := decide_eq_true (Int.natCast_nonneg _)
   have d5 : decide ((p : Int) ≤ ((p + 1 : Nat) : Int)) = true := by simp; omega
   have d6 : decide ((p : Int) ≥ (a.size : Int)) = false := by simp; omega
   have d7 : decide ((p : Int) < (a.size : Int)) = true := by simp; omega
   have hsz : ((a.extract p (p + 1)).size : Int) = 1 := by rw [ByteArray.size_extract]; omega
   refine ⟨bt a p, p + 1, false, ⟨by omega, by omega, fun h => by (cases h), fun h => by (cases h), fun _ => ⟨hb, by simp [I2, D6], hs⟩, fun _ y hy h => ?_⟩, .of fun k => ?_⟩
   ·exact ⟨(Cj4 hy h).2, by simp [I2, D6], rfl⟩
   ·simp only [S4, br_false, d6, e2, e3, d4, d7, gd_true, Int.toNat_natCast, e4]
  ·have hpe : p = a.size := by omega
   refine ⟨0, p, true, ⟨Nat.le_refl _, hp, fun h => by (cases h), fun _ => rfl, fun h => by (cases h), fun _ y hy h => ?_⟩, .of fun k => ?_⟩
   ·have := (Cj4 hy h).1; omega
   ·have d6 : decide ((p : Int) ≥ (a.size : Int)) = true := by simp; omega
    simp only [S4, br_false, d6, br_true]
theorem Cx6 (t : ByteArray) : (As2 t).size = (F1 (t.size : Int)).size + t.size := by unfold As2; rw [C8]
def Ce1 (enc : Int → ByteArray) : List Int → ByteArray
 | [] => ⟨#[]⟩
 | x :: xs => enc x ++ Ce1 enc xs
structure Each (a : ByteArray) (enc : Int → ByteArray) (ok : Int → Prop) (N : Int) (go : Nat → Bool) (n0 : Nat) (p : Nat) (b : Bool) (xs : List Int) (q : Nat) (b' : Bool) : Prop where
 le : p ≤ q
 hi : q ≤ a.size
 bad : b = true → xs = [] ∧ q = p ∧ b' = true
 len : xs.length ≤ (q - p) + 1
 sound : b' = false → xs.length ≤ q - p ∧ (∀ x ∈ xs, ok x) ∧ q = p + (Ce1 enc xs).size ∧ z8 a p (Ce1 enc xs)
 count : b' = false → (∀ v, go v = true) → (n0 : Int) + xs.length = max 0 N
 full : b = false → ∀ ys : List Int, (∀ y ∈ ys, ok y) → (n0 : Int) + ys.length = N → (∀ v : Nat, (v : Int) < N → go v = true) → z8 a p (Ce1 enc ys) → xs = ys ∧ q = p + (Ce1 enc ys).size ∧ b' = false
theorem Am8 (a b c : ByteArray) : a ++ b ++ c = a ++ (b ++ c) := ByteArray.append_assoc
theorem Cq9 (l : List Int) : Bm5 l = Ce1 F1 l := by
 induction l with
 | nil => apply Af3; simp [Bm5, Ce1, B6]
 | cons x xs ih =>
  rw [Ce1, ← ih]
  unfold Bm5
  rw [List.flatMap_cons, O4, Q2]
theorem Fc7 {l : List Int} (h : ∀ x ∈ l, R5 x) : Bi3 l = Ce1 I2 l := by
 induction l with
 | nil => apply Af3; simp [Bi3, Ce1, B6]
 | cons x xs ih =>
  rw [Ce1, ← ih (fun y hy => h y (List.mem_cons_of_mem _ hy))]
  have hx := h x (List.mem_cons_self ..)
  unfold Bi3 I2
  rw [List.map_cons, Bx1 hx.1 hx.2, ← O4]
  rfl
def Dg6 (x1 x2 x3 x4 : Int) (l : List Int) (t : ByteArray) : ByteArray := I2 x1 ++ (I2 x2 ++ (I2 x3 ++ (I2 x4 ++ (F1 (l.length : Int) ++ (Ce1 I2 l ++ As2 t)))))
theorem Eo5 {e : C5} (h1 : R5 (T6 e)) (h2 : R5 (S7 e)) (h3 : R5 (Af2 e)) (h4 : R5 (P7 e)) (h5 : ∀ x ∈ E8 e, R5 x) :
  By6 e = Dg6 (T6 e) (S7 e) (Af2 e) (P7 e) (E8 e) (T7 e) := by
 have e4 : A69 e = I2 (T6 e) ++ (I2 (S7 e) ++ (I2 (Af2 e) ++ I2 (P7 e))) := by
  unfold A69 I2
  rw [Bx1 h1.1 h1.2, Bx1 h2.1 h2.2, Bx1 h3.1 h3.2, Bx1 h4.1 h4.2, ← O4, ← O4, ← O4]
  rfl
 unfold By6 Dg6
 rw [e4, Fc7 h5]
 simp only [Am8]
end Go.Vm
end
section
set_option linter.unusedVariables false
set_option linter.unusedSimpArgs false
namespace Go.Vm
open Go
theorem Ab6 {n : Int} (h : 0 ≤ n ∧ n ≤ 5) : R5 n := ⟨h.1, by omega⟩
theorem D20 {e : C5} (h : Cx4 e = true) : ∀ x ∈ E8 e, R5 x := by
 unfold Cx4 at h
 cases hk : (T6 e == 3) with
 | false =>
  rw [hk] at h
  have : E8 e = [] := Cj1.1 h
  rw [this]; intro x hx; cases hx
 | true =>
  rw [hk] at h
  simp only [cond_true, Fc1, Bool.and_eq_true] at h
  intro x hx
  obtain ⟨i, hi, rfl⟩ := List.getElem_of_mem hx
  have := (En6.1 h.1) i hi
  rw [Aa6 hi] at this
  have := D4.1 this
  exact ⟨this.1, by omega⟩
def evB (x0 x1 x2 x3 x4 : Int) (l : List Int) (t : ByteArray) (pr : List Int) (d : Int) : ByteArray :=
 F1 x0 ++ (Dg6 x1 x2 x3 x4 l t ++ (F1 (pr.length : Int) ++ (Ce1 F1 pr ++ F1 d)))
theorem F93 (x0 x1 x2 x3 x4 : Int) (l : List Int) (t : ByteArray) (pr : List Int) (d : Int) (h1 : R5 x1) (h2 : R5 x2) (h3 : R5 x3) (h4 : R5 x4) (h5 : ∀ x ∈ l, R5 x) :
  A70 (x0, x1, x2, x3, x4, l, t, pr, d, ()) = evB x0 x1 x2 x3 x4 l t pr d := by
 unfold A70 evB
 rw [Eo5 (e := (x0, x1, x2, x3, x4, l, t, pr, d, ())) h1 h2 h3 h4 h5]
 simp only [I8, Ab4, T6, S7, Af2, P7, E8, T7, Cq9, Am8]
theorem Eo6 {e : C5} (h : b9 e = true) : R5 (T6 e) ∧ R5 (S7 e) ∧ R5 (Af2 e) ∧ R5 (P7 e) ∧ (∀ x ∈ E8 e, R5 x) ∧ (E8 e).length ≤ 5 ∧ (T7 e).size ≤ 24 ∧
  Am7 e.1 ∧ Am7 (Ab4 e) ∧ (I8 e).length ≤ 3 ∧ (∀ x ∈ I8 e, Am7 x) := by
 have hf := By7 h
 have hb := As3 hf.1
 have hl : Cx4 e = true := by
  have := hf.1
  unfold body at this
  simp only [Bool.and_eq_true] at this
  exact this.1.2
 refine ⟨Ab6 ⟨by omega, by omega⟩, Ab6 ⟨by omega, by omega⟩, Ab6 ⟨by omega, by omega⟩, Ab6 ⟨by omega, by omega⟩, D20 hl, by omega, by omega, ⟨by omega, by omega⟩, ⟨by omega, by omega⟩, by omega, fun x hx => ?_⟩
 have := hf.2.2.2.2.1 x hx
 exact ⟨by omega, by omega⟩
def ReadsEv (a : ByteArray) (v : C5 × Bool) : Prop := (v = (Cd8, false) ∨ ∃ e, v = (e, true) ∧ b9 e = true ∧ A70 e = a) ∧ ∀ e, b9 e = true → A70 e = a → v = (e, true)
theorem ReadsEv.eq {a : ByteArray} {v w : C5 × Bool} (h1 : ReadsEv a v) (h2 : ReadsEv a w) : v = w := by
 rcases h1.1 with h | ⟨e, h, h3, h4⟩
 ·rcases h2.1 with h' | ⟨e', h', h3', h4'⟩
  ·rw [h, h']
  ·rw [h1.2 e' h3' h4', h']
 ·rw [h, h2.2 e h3 h4]
end Go.Vm
end
section
set_option linter.unusedVariables false
set_option linter.unusedSimpArgs false
namespace Go.Vm
open Go
abbrev noC : I1 := (0, 0, 0, Cd8, 0, 0, ())
def ReadsCmd (a : ByteArray) (v : I1 × Bool) : Prop := (v = (noC, false) ∨ ∃ x, v = (x, true) ∧ W4 x = true ∧ Cd9 x = a) ∧ ∀ x, W4 x = true → Cd9 x = a → v = (x, true)
theorem ReadsCmd.eq {a : ByteArray} {v w : I1 × Bool} (h1 : ReadsCmd a v) (h2 : ReadsCmd a w) : v = w := by
 rcases h1.1 with h | ⟨e, h, h3, h4⟩
 ·rcases h2.1 with h' | ⟨e', h', h3', h4'⟩
  ·rw [h, h']
  ·rw [h1.2 e' h3' h4', h']
 ·rw [h, h2.2 e h3 h4]
theorem Fu0 (a : ByteArray) (q : Nat) (b : Bool) (k : Nat) : u6 k (cur a q b) = some (!b && decide (q = a.size), cur a q b, ()) := by
 unfold u6
 cases b with
 | true => rfl
 | false =>
  have : (((q : Int) == (a.size : Int)) : Bool) = decide (q = a.size) := by
   by_cases h : q = a.size
   ·simp [h]
   ·rw [decide_eq_false h]; simp; omega
  show some (((q : Int) == (a.size : Int)), _, ()) = _
  rw [this]; rfl
theorem D88 {e : C5} (h : A71 e Cd8 = true) : e = Cd8 := by
 obtain ⟨x0, x1, x2, x3, x4, l, t, p, d, ⟨⟩⟩ := e
 simp only [A71, Bool.and_eq_true, beq_iff_eq, Fc4, Cq5, T6, S7, Af2, P7, T7, Ab4, E8, I8] at h
 obtain ⟨⟨⟨⟨⟨⟨⟨⟨h0, h1⟩, h2⟩, h3⟩, h4⟩, h5⟩, h6⟩, h7⟩, h8⟩ := h
 have e5 : t = ByteArray.empty := by
  have := b7 t ByteArray.empty
  rw [beq_iff_eq.2 h5] at this
  exact of_decide_eq_true this.symm
 have e7 : l = [] := by have := h7.1; simp at this; exact this
 have e8 : p = [] := by have := h8.1; simp at this; exact this
 subst e5; subst e7; subst e8; subst h0; subst h1; subst h2; subst h3; subst h4; subst h6
 rfl
theorem Fc8 {e : C5} (h : Cq6 e = true) : e = (0, T6 e, S7 e, Af2 e, P7 e, E8 e, T7 e, [], 0, ()) ∧ body e = true := by
 obtain ⟨x0, x1, x2, x3, x4, l, t, p, d, ⟨⟩⟩ := e
 simp only [Cq6, Bool.and_eq_true, beq_iff_eq] at h
 obtain ⟨⟨⟨h0, h1⟩, h2⟩, h3⟩ := h
 have := Cj1.1 h2
 simp only [Ab4, I8] at h0 h1 this
 subst h0; subst h1; subst this
 exact ⟨rfl, h3⟩
theorem Fc9 {e : C5} (h : body e = true) : R5 (T6 e) ∧ R5 (S7 e) ∧ R5 (Af2 e) ∧ R5 (P7 e) ∧ (∀ x ∈ E8 e, R5 x) ∧ (E8 e).length ≤ 5 ∧ (T7 e).size ≤ 24 := by
 have hb := As3 h
 have hl : Cx4 e = true := by
  unfold body at h
  simp only [Bool.and_eq_true] at h
  exact h.1.2
 exact ⟨Ab6 ⟨by omega, by omega⟩, Ab6 ⟨by omega, by omega⟩, Ab6 ⟨by omega, by omega⟩, Ab6 ⟨by omega, by omega⟩, D20 hl, by omega, by omega⟩
def Dg7 (x : I1) (rest : ByteArray) : ByteArray := I2 x.1 ++ (F1 x.2.1 ++ (F1 x.2.2.1 ++ rest))
inductive Cmd (x : I1) : Prop where
 | sent (h1 : x.1 = 2) (e : x.2.2.2 = ((0, T6 x.2.2.2.1, S7 x.2.2.2.1, Af2 x.2.2.2.1, P7 x.2.2.2.1, E8 x.2.2.2.1, T7 x.2.2.2.1, [], 0, ()), 0, 0, ())) (h2 : body x.2.2.2.1 = true) (h3 : Cd9 x = Dg7 x (Dg6 (T6 x.2.2.2.1) (S7 x.2.2.2.1) (Af2 x.2.2.2.1) (P7 x.2.2.2.1) (E8 x.2.2.2.1) (T7 x.2.2.2.1)))
 | come (h1 : x.1 = 3) (e : x.2.2.2 = (x.2.2.2.1, 0, 0, ())) (h2 : b9 x.2.2.2.1 = true) (h3 : Cd9 x = Dg7 x (As2 (A70 x.2.2.2.1)))
 | ack (h1 : x.1 = 4) (e : x.2.2.2 = (Cd8, x.2.2.2.2.1, x.2.2.2.2.2.1, ())) (h2 : Am7 x.2.2.2.2.1) (h2' : Am7 x.2.2.2.2.2.1) (h3 : Cd9 x = Dg7 x (F1 x.2.2.2.2.1 ++ F1 x.2.2.2.2.2.1))
 | bare (h1 : (x.1 == 2) = false) (h1' : (x.1 == 3) = false) (h1'' : (x.1 == 4) = false) (e : x.2.2.2 = (Cd8, 0, 0, ())) (h3 : Cd9 x = Dg7 x ⟨#[]⟩)
theorem Fy4 {x : I1} (h : W4 x = true) : Cmd x ∧ R5 x.1 ∧ Am7 x.2.1 ∧ Am7 x.2.2.1 := by
 obtain ⟨op, n1, n2, e, d, n, ⟨⟩⟩ := x
 have hf := D17 h
 unfold W4 at h
 simp only [Bool.and_eq_true] at h
 obtain ⟨⟨h1, h2⟩, h3⟩ := h
 have hn1 : Am7 n1 := ⟨by have := hf.1; simp only at this; omega, by have := hf.1; simp only at this; omega⟩
 have hn2 : Am7 n2 := ⟨by have := hf.2.1; simp only at this; omega, by have := hf.2.1; simp only at this; omega⟩
 have hop : op = 1 ∨ op = 2 ∨ op = 3 ∨ op = 4 ∨ op = 5 := by
  rcases Eo2 op with ⟨q1, q2, q3, q4, q5, q6⟩ | ⟨q1, q2, q3, q4, q5, q6⟩ | ⟨q1, q2, q3, q4, q5, q6⟩ | ⟨q1, q2, q3, q4, q5, q6⟩ | ⟨q1, q2, q3, q4, q5, q6⟩ | ⟨q1, q2, q3, q4, q5, q6⟩
  ·exact .inl (by simpa using q1)
  ·exact .inr (.inl (by simpa using q2))
  ·exact .inr (.inr (.inl (by simpa using q3)))
  ·exact .inr (.inr (.inr (.inl (by simpa using q4))))
  ·exact .inr (.inr (.inr (.inr (by simpa using q5))))
  ·simp only [q1, q2, q3, q4, q5, cond_false] at h3; cases h3
 refine ⟨?_, ⟨by simp only; omega, by simp only; omega⟩, hn1, hn2⟩
 rcases hop with rfl | rfl | rfl | rfl | rfl
 ·simp only [beq_self_eq_true, cond_true, Bool.and_eq_true, beq_iff_eq] at h3
  obtain ⟨⟨⟨⟨g1, g2⟩, g3⟩, _⟩, _⟩ := h3
  refine .bare rfl rfl rfl ?_ ?_
  ·rw [D88 g1, g2, g3]
  ·unfold Cd9 Dg7 I2; simp only [Am8]; rfl
 ·have h3 : (d == 0) = true ∧ (n == 0) = true ∧ Cq6 e = true := by
   simp only [show ((2 : Int) == 1) = false from rfl, cond_false, beq_self_eq_true, cond_true, Bool.and_eq_true] at h3
   exact ⟨h3.1.1, h3.1.2, h3.2⟩
  obtain ⟨g1, g2, g3⟩ := h3
  obtain ⟨g4, g5⟩ := Fc8 g3
  obtain ⟨k1, k2, k3, k4, k5, _⟩ := Fc9 g5
  refine .sent rfl ?_ g5 ?_
  ·simp only [beq_iff_eq] at g1 g2
   simp only
   rw [g1, g2, ← g4]
  ·unfold Cd9 Dg7 I2; simp only [Am8]
   rw [← Eo5 k1 k2 k3 k4 k5]; rfl
 ·have h3 : (d == 0) = true ∧ (n == 0) = true ∧ b9 e = true := by
   simp only [show ((3 : Int) == 1) = false from rfl, show ((3 : Int) == 2) = false from rfl, cond_false, beq_self_eq_true, cond_true, Bool.and_eq_true] at h3
   exact ⟨h3.1.1.1, h3.1.1.2, h3.1.2⟩
  obtain ⟨g1, g2, g3⟩ := h3
  refine .come rfl ?_ g3 ?_
  ·simp only [beq_iff_eq] at g1 g2
   simp only
   rw [g1, g2]
  ·unfold Cd9 Dg7 I2; simp only [Am8]; rfl
 ·have h3 : A71 e Cd8 = true ∧ j5 d 1 2 = true ∧ j5 n 0 1000000 = true := by
   simp only [show ((4 : Int) == 1) = false from rfl, show ((4 : Int) == 2) = false from rfl, show ((4 : Int) == 3) = false from rfl, cond_false, beq_self_eq_true, cond_true, Bool.and_eq_true] at h3
   exact ⟨h3.1.1, h3.1.2, h3.2⟩
  obtain ⟨g1, g2, g3⟩ := h3
  have g2 := D4.1 g2
  have g3 := D4.1 g3
  refine .ack rfl ?_ ⟨by simp only; omega, by simp only; omega⟩ ⟨by simp only; omega, by simp only; omega⟩ ?_
  ·simp only
   rw [D88 g1]
  ·unfold Cd9 Dg7 I2; simp only [Am8]; rfl
 ·have h3 : A71 e Cd8 = true ∧ (d == 0) = true ∧ (n == 0) = true := by
   simp only [show ((5 : Int) == 1) = false from rfl, show ((5 : Int) == 2) = false from rfl, show ((5 : Int) == 3) = false from rfl, show ((5 : Int) == 4) = false from rfl, cond_false, beq_self_eq_true, cond_true, Bool.and_eq_true] at h3
   exact ⟨h3.1.1, h3.1.2, h3.2⟩
  obtain ⟨g1, g2, g3⟩ := h3
  refine .bare rfl rfl rfl ?_ ?_
  ·simp only [beq_iff_eq] at g2 g3
   simp only
   rw [D88 g1, g2, g3]
  ·unfold Cd9 Dg7 I2; simp only [Am8]; rfl
section
variable {a : ByteArray} {x0 x1 x2 : Int} {q0 q1 q2 : Nat} {b0 b1 b2 : Bool} (R0 : Rd a I2 R5 0 0 false x0 q0 b0) (R1 : Rd a F1 Am7 0 q0 b0 x1 q1 b1) (R2 : Rd a F1 Am7 0 q1 b1 x2 q2 b2)
include R0 R1 R2
end
end Go.Vm
end
section
set_option linter.unusedVariables false
set_option linter.unusedSimpArgs false
namespace Go.Vm
open Go
theorem D21 (l : List Int) (hl : l.length ≤ 1000) (h : ∀ n ∈ l, 0 ≤ n ∧ n ≤ 1000000000) : Ev (fun k => Cd4 k l) (Bm5 l, true) := by
 have each : ∀ i (hi : i < l.length), Ev (fun k => X9 k l[i]) (F1 l[i], true) := fun i hi => by
  obtain ⟨h1, h2⟩ := h _ (List.getElem_mem hi)
  rw [← D86 h1 h2]
  exact Bo1 _
 have sz : ∀ i, i ≤ l.length → ((l.take i).flatMap fun n => D5 (F1 n)).length ≤ 5 * i := fun i hi => by
  have := Cq3 (l := l.take i) (fun n hn => (h n (List.mem_of_mem_take hn)).2)
  unfold Bm5 at this
  rw [D6] at this
  simp at this ⊢
  omega
 have loop := F89 (l := fun k m i => Ar9 k m l (i : Int) ((l.take i).flatMap fun n => D5 (F1 n))) (N := l.length) (r := (Bm5 l, true)) (fun i hi => by
  obtain ⟨K, hK⟩ := each i hi
  refine ⟨K, fun k hk m => ?_⟩
  have e := d9 hi (by omega)
  have h1 := hK k hk
  have h2 := sz i (by omega)
  have h3 := D2 (h _ (List.getElem_mem hi)).2
  simp only [Ar9, B67, hi, Int.ofNat_lt, Int.natCast_nonneg, decide_true, br_true, gd_true, Int.toNat_natCast, Aa6 hi, e, h1, bd_some, Bool.not_true, br_false]
  rw [Ba6 (by unfold A2; rw [E4]; omega), List.take_succ_eq_append_getElem hi, List.flatMap_append]
  simp) ⟨0, fun k _ m => by simp [Ar9, B67, Bm5]⟩ 0 (Nat.zero_le _)
 obtain ⟨K, hK⟩ := loop
 exact ⟨K, fun k hk => by simpa [Cd4, Df4] using hK k hk k hk⟩
end Go.Vm
end
section
set_option linter.unusedVariables false
set_option linter.unusedSimpArgs false
namespace Go.Vm
open Go
theorem Re.b1 {α R : Type} {g : Nat → Option α} {F : Nat → α → Option R} {P : α → Prop} {Q : R → Prop} (h : Re g P) (h2 : ∀ a, P a → Re (fun k => F k a) Q) : Re (fun k => Vm.bd (g k) (F k)) Q := Re.bd J1 h h2
theorem Re.b2 {α R : Type} {g : Nat → Option α} {F : Nat × Nat → α → Option R} {P : α → Prop} {Q : R → Prop} (h : Re g P) (h2 : ∀ a, P a → Re (fun x => F x a) Q) : Re (fun x : Nat × Nat => Vm.bd (g x.1) (F x)) Q := Re.bd (Fx9 J1) h h2
theorem Re.c1 {α R : Type} {g : Nat → Option α} {F : Nat → α → Option R} {v : α} {Q : R → Prop} (h : Ev g v) (h2 : Re (fun k => F k v) Q) : Re (fun k => Vm.bd (g k) (F k)) Q := Re.b1 (P := fun a => a = v) (Ev.re h rfl) fun a ha => by subst ha; exact h2
theorem Re.s1 {α R : Type} {g : Nat → Option α} {F : Nat → α → Option R} {v : α} {Q : R → Prop} (h : ∀ k, g k = some v) (h2 : Re (fun k => F k v) Q) : Re (fun k => Vm.bd (g k) (F k)) Q := Re.c1 (Ev.of h) h2
theorem Am9 {a b : Int} (h : a ≠ b) : (a == b) = false := by simpa using h
theorem Re.s2 {α R : Type} {g : Nat → Option α} {F : Nat × Nat → α → Option R} {v : α} {Q : R → Prop} (h : ∀ k, g k = some v) (h2 : Re (fun x => F x v) Q) : Re (fun x : Nat × Nat => Vm.bd (g x.1) (F x)) Q := Re.b2 (P := fun a => a = v) (Ev.re (Ev.of h) rfl) fun a ha => by subst ha; exact h2
theorem Re.c2 {α R : Type} {g : Nat → Option α} {F : Nat × Nat → α → Option R} {v : α} {Q : R → Prop} (h : Ev g v) (h2 : Re (fun x => F x v) Q) : Re (fun x : Nat × Nat => Vm.bd (g x.1) (F x)) Q := Re.b2 (P := fun a => a = v) (Ev.re h rfl) fun a ha => by subst ha; exact h2
theorem Re.gdd {ι R : Type} [Fuel ι] {p : Prop} [Decidable p] {f : ι → Option R} {Q : R → Prop} (hp : p) (h : Re f Q) : Re (fun x => Vm.gd (decide p) (f x)) Q := Re.gd (decide_eq_true hp) h
theorem Re.brd {ι R : Type} [Fuel ι] {p : Prop} [Decidable p] {f g : ι → Option R} {Q : R → Prop} (h1 : p → Re f Q) (h2 : ¬ p → Re g Q) : Re (fun x => Vm.br (decide p) (f x) (g x)) Q := Re.br (fun h => h1 (of_decide_eq_true h)) (fun h => h2 (of_decide_eq_false h))
theorem Re.bre {ι R : Type} [Fuel ι] {a b : Int} {f g : ι → Option R} {Q : R → Prop} (h1 : a = b → Re f Q) (h2 : a ≠ b → Re g Q) : Re (fun x => Vm.br (a == b) (f x) (g x)) Q := Re.br (fun h => h1 (by simpa using h)) (fun h => h2 (by simpa using h))
theorem Re.brn {ι R : Type} [Fuel ι] {a b : Int} {f g : ι → Option R} {Q : R → Prop} (h1 : a ≠ b → Re f Q) (h2 : a = b → Re g Q) : Re (fun x => Vm.br (a != b) (f x) (g x)) Q := Re.br (fun h => h1 (by simpa using h)) (fun h => h2 (by simpa using h))
theorem Re.brb {ι R : Type} [Fuel ι] {b : Bool} {f g : ι → Option R} {Q : R → Prop} (h1 : Re f Q) (h2 : Re g Q) : Re (fun x => Vm.br b (f x) (g x)) Q := Re.br (fun _ => h1) (fun _ => h2)
theorem Re.wf {σ R : Type} {l : Nat → Nat → σ → Option R} {I : σ → Prop} (μ : σ → Nat × Nat) {Q : σ → R → Prop}
  (step : ∀ s, I s → (∀ s', I s' → ((μ s').1 < (μ s).1 ∨ ((μ s').1 = (μ s).1 ∧ (μ s').2 < (μ s).2)) → Re (fun x : Nat × Nat => l x.1 x.2 s') (Q s')) → Re (fun x : Nat × Nat => l x.1 (x.2 + 1) s) (Q s)) : ∀ s, I s → Re (fun x : Nat × Nat => l x.1 x.2 s) (Q s) := by
 have : ∀ a b s, (μ s).1 = a → (μ s).2 = b → I s → Re (fun x : Nat × Nat => l x.1 x.2 s) (Q s) := by
  intro a
  induction a using Nat.strongRecOn with
  | _ a iha =>
   intro b
   induction b using Nat.strongRecOn with
   | _ b ihb =>
    intro s h1 h2 hI
    obtain ⟨v, hv, K, hK⟩ := step s hI fun s' g1 g2 => by
     rcases g2 with g2 | ⟨g2, g3⟩
     ·exact iha (μ s').1 (by omega) (μ s').2 s' rfl rfl g1
     ·exact ihb (μ s').2 (by omega) s' (by omega) rfl g1
    refine ⟨v, hv, K + 1, fun x hx => ?_⟩
    obtain ⟨y, n⟩ := x
    obtain ⟨m, rfl⟩ : ∃ m, n = m + 1 := ⟨n - 1, by have := hx.2; simp only at this; omega⟩
    exact hK (y, m) ⟨Fuel.mono (Nat.le_succ K) hx.1, by have := hx.2; simp only at this ⊢; omega⟩
 exact fun s hI => this _ _ s rfl rfl hI
theorem Fu1 (a : Int) : 0 ≤ Ej4 .i64 a 255 ∧ Ej4 .i64 a 255 < 256 := by
 have h : (BitVec.ofInt 64 a &&& BitVec.ofInt 64 255).toNat ≤ 255 := by
  rw [BitVec.toNat_and]
  exact Nat.and_le_right
 have e : Ej4 .i64 a 255 = B0 (((BitVec.ofInt 64 a &&& BitVec.ofInt 64 255).toNat : Nat) : Int) := rfl
 rw [e, C6 (by omega) (by omega)]
 omega
def CurOk (c : A5) : Prop := 0 ≤ c.2.1 ∧ c.2.1 ≤ c.1.length ∧ c.1.length ≤ 1048576
theorem Bo2 (c : A5) (h : CurOk c) : Re (fun k => X6 k c) (fun r => (0 ≤ r.1 ∧ r.1 < 256) ∧ CurOk r.2.1) := by
 obtain ⟨h1, h2, h3⟩ := h
 refine Re.brd (fun h4 => ?_) (fun h4 => ?_)
 ·refine Re.gdd h1 (Re.gdd h4 (Re.ret ⟨Fu1 _, ?_⟩))
  have : B0 (c.2.1 + 1) = c.2.1 + 1 := C6 (by omega) (by omega)
  exact ⟨by simp only [this]; omega, by simp only [this]; omega, h3⟩
 ·exact Re.ret ⟨Fu1 _, h1, h2, h3⟩
def Eo7 (n : Int) (r : Int × A5 × Unit) : Prop := (0 ≤ r.1 ∧ (r.1 < n ∨ n ≤ 0 ∧ r.1 = 0)) ∧ CurOk r.2.1
theorem I7 (c : A5) (n : Int) (h : CurOk c) : Re (fun k => C7 k c n) (Eo7 n) := by
 refine Re.brd (fun h1 => Re.ret ⟨⟨Int.le_refl 0, .inr ⟨h1, rfl⟩⟩, h⟩) (fun h1 => ?_)
 refine Re.brd (fun h2 => ?_) (fun h2 => ?_)
 ·refine Re.b1 (Bo2 c h) fun r hr => ?_
  refine Re.ng (by simp; omega) (Re.ret ⟨⟨Int.tmod_nonneg _ hr.1.1, .inl (Int.tmod_lt_of_pos _ (by omega))⟩, hr.2⟩)
 ·refine Re.b1 (Bo2 c h) fun r2 hr2 => ?_
  refine Re.b1 (Bo2 _ hr2.2) fun r3 hr3 => ?_
  refine Re.b1 (Bo2 _ hr3.2) fun r4 hr4 => ?_
  refine Re.b1 (Bo2 _ hr4.2) fun r5 hr5 => ?_
  obtain ⟨⟨a1, a2⟩, _⟩ := hr2
  obtain ⟨⟨a3, a4⟩, _⟩ := hr3
  obtain ⟨⟨a5, a6⟩, _⟩ := hr4
  obtain ⟨⟨a7, a8⟩, _⟩ := hr5
  have e1 : B0 (r2.1 * 16777216) = r2.1 * 16777216 := C6 (by omega) (by omega)
  have e2 : B0 (r3.1 * 65536) = r3.1 * 65536 := C6 (by omega) (by omega)
  have e3 : B0 (r4.1 * 256) = r4.1 * 256 := C6 (by omega) (by omega)
  have e4 : B0 (r2.1 * 16777216 + r3.1 * 65536) = r2.1 * 16777216 + r3.1 * 65536 := C6 (by omega) (by omega)
  have e5 : B0 (r2.1 * 16777216 + r3.1 * 65536 + r4.1 * 256) = r2.1 * 16777216 + r3.1 * 65536 + r4.1 * 256 := C6 (by omega) (by omega)
  have e6 : B0 (r2.1 * 16777216 + r3.1 * 65536 + r4.1 * 256 + r5.1) = r2.1 * 16777216 + r3.1 * 65536 + r4.1 * 256 + r5.1 := C6 (by omega) (by omega)
  simp only [e1, e2, e3, e4, e5, e6]
  refine Re.ng (by simp; omega) (Re.ret ⟨⟨Int.tmod_nonneg _ (by omega), .inl (Int.tmod_lt_of_pos _ (by omega))⟩, ?_⟩)
  assumption
theorem B70 (c : A5) (n : Int) (h : CurOk c) : Re (fun k => P4 k c n) (fun r => CurOk r.2.1) :=
 Re.b1 (I7 c n h) fun r hr => Re.ret hr.2
theorem Dg8 (c : A5) (l : List Int) (h : CurOk c) (hl : l ≠ []) : Re (fun k => Ad2 k c l) (fun r => r.1 ∈ l ∧ CurOk r.2.1) := by
 refine Re.b1 (I7 c l.length h) fun r hr => ?_
 obtain ⟨⟨h1, h2⟩, h3⟩ := hr
 have hl : 0 < l.length := List.length_pos_iff.2 hl
 have h4 : r.1 < l.length := by omega
 refine Re.gdd h1 (Re.gdd h4 (Re.ret ⟨?_, h3⟩))
 rw [Aa6 (show r.1.toNat < l.length by omega)]
 exact List.getElem_mem _
theorem Gt1 {R : Type} {l : Nat → Nat → Int → Int → Option R} {h : Int → Int → Int} {C : Nat → Int → Option R} {Q : R → Prop} (a : List Int) (ha : a.length ≤ 1048576)
  (hs : ∀ k n v1 v2, l k (n + 1) v1 v2 = br (decide (v2 < (a.length : Int))) (br (decide (v2 < 4000)) (gd (decide (0 ≤ v2)) (gd (decide (v2 < (a.length : Int))) (l k n (h v1 v2) (B0 (v2 + 1))))) (C k v1)) (C k v1))
  (hC : ∀ c : Int, CurOk (a, 0, c, ()) → Re (fun k : Nat => C k c) Q) (v : Int) : Re (fun k => l k k v 0) Q := by
 have hc : ∀ c : Int, Re (fun x : Nat × Nat => C x.1 c) Q := fun c => Re.up (hC c ⟨Int.le_refl 0, by show (0 : Int) ≤ _; omega, ha⟩)
 refine Re.enter (f := fun k n => l k n v 0) J1 ?_
 have := Re.loop (ι := Nat) (l := fun k n (s : Int × Int) => l k n s.1 s.2) (I := fun s => 0 ≤ s.2 ∧ s.2 ≤ a.length) (fun s => (a.length - s.2).toNat) (Q := fun _ v => Q v) (fun s hi ih => by
  obtain ⟨v1, v2⟩ := s
  simp only at hi
  simp only [hs]
  refine Re.brd (fun h1 => ?_) (fun h1 => hc _)
  refine Re.brd (fun h2 => ?_) (fun h2 => hc _)
  have e : B0 (v2 + 1) = v2 + 1 := C6 (by omega) (by omega)
  refine Re.gdd hi.1 (Re.gdd h1 ?_)
  rw [e]
  exact ih (h v1 v2, v2 + 1) (by simp only; omega) (by simp only; omega)) (v, 0) ⟨Int.le_refl 0, by simp only; omega⟩
 exact this
theorem CurOk.eta {c : A5} (h : CurOk c) : CurOk (c.1, c.2.1, c.2.2.1, ()) := h
end Go.Vm
end
section
set_option linter.unusedVariables false
set_option linter.unusedSimpArgs false
namespace Go.Vm
open Go
def Fu2 (xs : List Int) : Prop := ∀ i, i < xs.length → (1 ≤ rd 0 xs i ∧ rd 0 xs i ≤ 4) ∧ (0 < i → rd 0 xs (i - 1) < rd 0 xs i)
def Cx7 (xs : List Int) : Prop := 1 ≤ xs.length ∧ xs.length ≤ 4 ∧ Fu2 xs
noncomputable def w8 (xs : List Int) : Bool := @decide (Cx7 xs) (Classical.propDecidable _)
theorem Ai6 {xs : List Int} : w8 xs = true ↔ Cx7 xs := by unfold w8; exact @decide_eq_true_iff _ (Classical.propDecidable _)
theorem B71 {xs : List Int} (h : ¬ Cx7 xs) : w8 xs = false := by
 cases e : w8 xs with
 | false => rfl
 | true => exact absurd (Ai6.1 e) h
theorem Au3 (a b c : Int) : j5 a b c = decide (b ≤ a ∧ a ≤ c) := by unfold j5; rw [Bool.decide_and]
theorem D22 {l : Nat → Nat → Nat → Option Bool} {V : Bool} (xs : List Int)
  (hs : ∀ i, i < xs.length → (((1 ≤ rd 0 xs i ∧ rd 0 xs i ≤ 4) ∧ (0 < i → rd 0 xs (i - 1) < rd 0 xs i)) → Re (fun x : Nat × Nat => l x.1 x.2 (i + 1)) (fun v => v = V)) → (¬ ((1 ≤ rd 0 xs i ∧ rd 0 xs i ≤ 4) ∧ (0 < i → rd 0 xs (i - 1) < rd 0 xs i)) → V = false) → Re (fun x : Nat × Nat => l x.1 (x.2 + 1) i) (fun v => v = V))
  (hn : ¬ Fu2 xs → V = false) (he : Fu2 xs → Re (fun x : Nat × Nat => l x.1 (x.2 + 1) xs.length) (fun v => v = V)) : Re (fun x : Nat × Nat => l x.1 x.2 0) (fun v => v = V) := by
 have := Re.loop (ι := Nat) (l := fun k n i => l k n i) (I := fun i => i ≤ xs.length ∧ ∀ j, j < i → (1 ≤ rd 0 xs j ∧ rd 0 xs j ≤ 4) ∧ (0 < j → rd 0 xs (j - 1) < rd 0 xs j)) (fun i => xs.length - i) (Q := fun _ v => v = V) (fun i hi ih => by
  by_cases h : i < xs.length
  ·refine hs i h (fun g => ih (i + 1) ⟨by omega, fun j hj => ?_⟩ (by omega)) (fun g => hn fun hr => g (hr i h))
   by_cases hj2 : j < i
   ·exact hi.2 j hj2
   ·have : j = i := by omega
    subst this; exact g
  ·have hi2 : i = xs.length := by omega
   subst hi2
   exact he hi.2) 0 ⟨Nat.zero_le _, fun j hj => by omega⟩
 exact this
theorem Cx8 (xs : List Int) (hx : xs.length ≤ 1048576) : Ev (fun k => Av5 k xs) (w8 xs) := by
 refine Re.eq ?_
 refine Re.s1 (H9 · _ _ _) ?_
 rw [Au3]
 refine Re.brd (fun h => ?_) (fun h => Re.ret (B71 fun hc => h ⟨by have := hc.1; omega, by have := hc.2.1; omega⟩).symm)
 refine Re.b1 (P := fun v => v = w8 xs) ?_ (fun v hv => Re.ret hv)
 refine Re.enter (f := fun k n => Y5 k n xs 1 4 0) J1 ?_
 refine D22 (l := fun k n i => Y5 k n xs 1 4 (i : Int)) xs (fun i hi ih hf => ?_) (fun g => B71 fun hc => g hc.2.2) (fun g => ?_)
 ·simp only [Y5, A18]
  refine Re.brd (fun _ => ?_) (fun h => absurd (by omega : (i : Int) < xs.length) h)
  refine Re.gdd (by omega) (Re.gdd (by omega) ?_)
  refine Re.b2 (P := fun v => v = j5 (rd 0 xs i) 1 4) (Ev.re (Ev.of fun k => H9 k _ _ _) rfl) fun v hv => ?_
  subst hv
  rw [Au3]
  refine Re.br (fun h1 => ?_) (fun h1 => ?_)
  ·exact Re.ret (hf fun g => by simp [g.1] at h1).symm
  ·have h1 : 1 ≤ rd 0 xs i ∧ rd 0 xs i ≤ 4 := by simpa using h1
   have e : B0 ((i : Int) + 1) = ((i + 1 : Nat) : Int) := d9 hi (by omega)
   rw [e]
   refine Re.brd (fun h2 => ?_) (fun h2 => ih ⟨h1, fun h => absurd (by omega) h2⟩)
   have e2 : B0 ((i : Int) - 1) = ((i - 1 : Nat) : Int) := Ch7 (by omega) (by omega)
   rw [e2]
   refine Re.gdd (by omega) (Re.gdd (by omega) (Re.gdd (by omega) (Re.gdd (by omega) ?_)))
   simp only [Int.toNat_natCast]
   refine Re.brd (fun h3 => Re.ret (hf fun g => by have := g.2 (by omega); omega).symm) (fun h3 => ih ⟨h1, fun _ => by omega⟩)
 ·simp only [Y5, A18, Int.lt_irrefl, decide_false, br_false]
  exact Re.ret (Ai6.2 ⟨by omega, by omega, g⟩).symm
theorem Eo8 (xs : List Int) (hx : xs.length ≤ 1048576) : Ev (fun k => Bx9 k xs) (w8 xs) := by
 refine Re.eq ?_
 refine Re.enter (f := fun k n => l6 k n xs 0) J1 ?_
 refine D22 (l := fun k n i => l6 k n xs (i : Int)) xs (fun i hi ih hf => ?_) (fun g => B71 fun hc => g hc.2.2) (fun g => ?_)
 ·simp only [l6, Bb3]
  refine Re.brd (fun _ => ?_) (fun h => absurd (by omega : (i : Int) < xs.length) h)
  refine Re.gdd (by omega) (Re.gdd (by omega) ?_)
  refine Re.b2 (P := fun v => v = j5 (rd 0 xs i) 1 4) (Ev.re (Ev.of fun k => N2 k _ _ _) rfl) fun v hv => ?_
  subst hv
  rw [Au3]
  refine Re.br (fun h1 => ?_) (fun h1 => ?_)
  ·exact Re.ret (hf fun g => by simp [g.1] at h1).symm
  ·have h1 : 1 ≤ rd 0 xs i ∧ rd 0 xs i ≤ 4 := by simpa using h1
   have e : B0 ((i : Int) + 1) = ((i + 1 : Nat) : Int) := d9 hi (by omega)
   rw [e]
   refine Re.brd (fun h2 => ?_) (fun h2 => ih ⟨h1, fun h => absurd (by omega) h2⟩)
   have e2 : B0 ((i : Int) - 1) = ((i - 1 : Nat) : Int) := Ch7 (by omega) (by omega)
   rw [e2]
   refine Re.gdd (by omega) (Re.gdd (by omega) ?_)
   simp only [Int.toNat_natCast]
   refine Re.brd (fun h3 => Re.ret (hf fun g => by have := g.2 (by omega); omega).symm) (fun h3 => ih ⟨h1, fun _ => by omega⟩)
 ·simp only [l6, Bb3, Int.lt_irrefl, decide_false, br_false]
  refine Re.b2 (P := fun v => v = j5 (xs.length : Int) 1 4) (Ev.re (Ev.of fun k => N2 k _ _ _) rfl) fun v hv => ?_
  subst hv
  refine Re.ret ?_
  rw [Au3, Bool.eq_iff_iff, decide_eq_true_iff, Ai6]
  exact ⟨fun h => ⟨by omega, by omega, g⟩, fun h => ⟨by have := h.1; omega, by have := h.2.1; omega⟩⟩
def V0 (a : ByteArray) : List Int := D5 a
theorem S8 (a : ByteArray) : (V0 a).length = a.size := E4 a
theorem Cx9 {a : ByteArray} {i : Nat} (h : i < a.size) : (V0 a).take (i + 1) = (V0 a).take i ++ [B0 (bt a i)] := by
 have hb := Cj3 a i
 have hl : i < (D5 a).length := by rw [E4]; exact h
 rw [C6 (by omega) (by omega), D18, Aa6 hl]
 unfold V0
 rw [List.take_add_one, List.getElem?_eq_getElem hl]
 rfl
noncomputable def Ag3 (a : ByteArray) : List Int × Bool := bif w8 (V0 a) then (V0 a, true) else ([], false)
theorem Dp3 (a : ByteArray) (ha : a.size ≤ 1048576) : Ev (fun k => A64 k a) (Ag3 a) := by
 refine Re.eq ?_
 refine Re.enter (f := fun k n => Z5 k n a 0 []) J1 ?_
 have := Re.loop (ι := Nat) (l := fun k n (i : Nat) => Z5 k n a (i : Int) ((V0 a).take i)) (I := fun i => i ≤ a.size) (fun i => a.size - i) (Q := fun _ v => v = Ag3 a) (fun i hi ih => by
  simp only [Z5, Bd0]
  refine Re.brd (fun h => ?_) (fun h => ?_)
  ·refine Re.gdd (by omega) (Re.gdd h (Re.gdd ?_ ?_))
   ·have := S8 a
    simp [A2]; omega
   ·rw [d9 (show i < a.size by omega) (by omega), Int.toNat_natCast, ← Cx9 (by omega)]
    exact ih (i + 1) (by omega) (by omega)
  ·have e : (V0 a).take i = V0 a := List.take_of_length_le (by rw [S8]; omega)
   rw [e]
   refine Re.b2 (P := fun v => v = w8 (V0 a)) (Ev.re (Eo8 _ (by rw [S8]; exact ha)) rfl) fun v hv => ?_
   subst hv
   unfold Ag3
   cases w8 (V0 a) <;> exact Re.ret rfl) 0 (Nat.zero_le _)
 simpa using this
theorem Dp4 (a : ByteArray) (ha : a.size ≤ 1048576) : Ev (fun k => A60 k a) (Ag3 a) := by
 refine Re.eq ?_
 refine Re.enter (f := fun k n => Z1 k n a 0 []) J1 ?_
 have fin : ∀ i : Nat, i ≤ a.size → (i = a.size ∨ 5 ≤ i) → Re (fun x : Nat × Nat => br (((((V0 a).take i).length : Nat) : Int) != (a.size : Int)) (some (([] : List Int), false)) (bd (Av5 x.1 ((V0 a).take i)) fun r1 => (br (!r1) (some ([], false)) (some (((V0 a).take i), true))))) (fun v => v = Ag3 a) := by
  intro i hi h5
  have hl : ((V0 a).take i).length = i := by rw [List.length_take, S8]; omega
  rw [hl]
  refine Re.brn (fun h => Re.ret ?_) (fun h => ?_)
  ·unfold Ag3
   rw [B71 (fun hc => by have := hc.2.1; rw [S8] at this; omega)]
   rfl
  ·have e : (V0 a).take i = V0 a := List.take_of_length_le (by rw [S8]; omega)
   rw [e]
   refine Re.b2 (P := fun v => v = w8 (V0 a)) (Ev.re (Cx8 _ (by rw [S8]; exact ha)) rfl) fun v hv => ?_
   subst hv
   unfold Ag3
   cases w8 (V0 a) <;> exact Re.ret rfl
 have := Re.loop (ι := Nat) (l := fun k n (i : Nat) => Z1 k n a (i : Int) ((V0 a).take i)) (I := fun i => i ≤ a.size) (fun i => a.size - i) (Q := fun _ v => v = Ag3 a) (fun i hi ih => by
  simp only [Z1, Bc7]
  refine Re.brd (fun h => ?_) (fun h => fin i hi (.inl (by omega)))
  refine Re.brd (fun h4 => ?_) (fun h4 => fin i hi (.inr (by omega)))
  refine Re.gdd (by omega) (Re.gdd h (Re.gdd ?_ ?_))
  ·have := S8 a
   simp [A2]; omega
  ·rw [d9 (show i < a.size by omega) (by omega), Int.toNat_natCast, ← Cx9 (by omega)]
   exact ih (i + 1) (by omega) (by omega)) 0 (Nat.zero_le _)
 simpa using this
noncomputable def N6 (e : B2) : Bool := j5 e.1 0 100000 && (bif e.2.1 == 1 then decide (e.2.2.1 = ⟨#[]⟩) else bif e.2.1 == 2 then w8 (V0 e.2.2.1) else bif e.2.1 == 3 then decide (e.2.2.1.size ≤ 120) else false)
theorem Eo9 (a : ByteArray) : decide ((a.size : Int) ≤ 120) = decide (a.size ≤ 120) := by
 by_cases h : a.size ≤ 120
 ·rw [decide_eq_true h, decide_eq_true (by omega)]
 ·rw [decide_eq_false h, decide_eq_false (by omega)]
theorem Cj6 (e : B2) (h : e.2.2.1.size ≤ 1048576) : Ev (fun k => A43 k e) (N6 e) := by
 refine Re.eq ?_
 refine Re.s1 (H9 · _ _ _) ?_
 unfold N6
 refine Re.br (fun h1 => ?_) (fun h1 => ?_)
 ·rw [show j5 e.1 0 100000 = false by simpa using h1]; exact Re.ret rfl
 rw [show j5 e.1 0 100000 = true by simpa using h1, Bool.true_and]
 refine Re.bre (fun h2 => ?_) (fun h2 => ?_)
 ·rw [h2, b7]; exact Re.ret rfl
 rw [Am9 h2]
 refine Re.bre (fun h3 => ?_) (fun h3 => ?_)
 ·rw [h3]
  refine Re.c1 (Dp4 _ h) ?_
  unfold Ag3
  cases w8 (V0 e.2.2.1) <;> exact Re.ret rfl
 rw [Am9 h3]
 refine Re.bre (fun h4 => ?_) (fun h4 => ?_)
 ·rw [h4, Eo9]; exact Re.ret rfl
 rw [Am9 h4]; exact Re.ret rfl
theorem Bo3 (e : B2) (h : e.2.2.1.size ≤ 1048576) : Ev (fun k => Ak1 k e) (N6 e) := by
 refine Re.eq ?_
 refine Re.s1 (N2 · _ _ _) ?_
 unfold N6
 refine Re.br (fun h1 => ?_) (fun h1 => ?_)
 ·rw [show j5 e.1 0 100000 = false by simpa using h1]; exact Re.ret rfl
 rw [show j5 e.1 0 100000 = true by simpa using h1, Bool.true_and]
 refine Re.bre (fun h2 => ?_) (fun h2 => ?_)
 ·rw [h2, b7]; exact Re.ret rfl
 rw [Am9 h2]
 refine Re.bre (fun h3 => ?_) (fun h3 => ?_)
 ·rw [h3]
  refine Re.c1 (Dp3 _ h) ?_
  unfold Ag3
  cases w8 (V0 e.2.2.1) <;> exact Re.ret rfl
 rw [Am9 h3]
 refine Re.bre (fun h4 => ?_) (fun h4 => ?_)
 ·rw [h4, Eo9]; exact Re.ret rfl
 rw [Am9 h4]; exact Re.ret rfl
noncomputable def Dg9 (xs : List Int) : ByteArray × Bool := bif w8 xs then (B6 xs, true) else (⟨#[]⟩, false)
theorem Fy5 {xs : List Int} (h : Cx7 xs) : ∀ i, i < xs.length → IntKind.wrap .u8 (rd 0 xs i) = rd 0 xs i := fun i hi => by
 have := (h.2.2 i hi).1
 exact Bx1 (by omega) (by omega)
theorem Fy6 {xs : List Int} {i : Nat} (h : i < xs.length) : xs.take (i + 1) = xs.take i ++ [rd 0 xs i] := by
 rw [List.take_add_one, List.getElem?_eq_getElem h, Aa6 h]; rfl
theorem Dp5 (xs : List Int) (hx : xs.length ≤ 1048576) : Ev (fun k => A61 k xs) (Dg9 xs) := by
 refine Re.eq ?_
 refine Re.c1 (Cx8 xs hx) ?_
 unfold Dg9
 refine Re.br (fun h => ?_) (fun h => ?_)
 ·rw [show w8 xs = false by simpa using h]; exact Re.ret rfl
 have hc : w8 xs = true := by simpa using h
 have hp := Ai6.1 hc
 rw [hc]
 refine Re.enter (f := fun k n => Z2 k n xs 0 []) J1 ?_
 have := Re.loop (ι := Nat) (l := fun k n (i : Nat) => Z2 k n xs (i : Int) (xs.take i)) (I := fun i => i ≤ xs.length) (fun i => xs.length - i) (Q := fun _ v => v = (B6 xs, true)) (fun i hi ih => by
  simp only [Z2, Bc8]
  refine Re.brd (fun h => ?_) (fun h => Re.ret (by rw [List.take_of_length_le (by omega)]))
  refine Re.gdd (by omega) (Re.gdd h (Re.gdd (by simp [A2]; omega) ?_))
  rw [d9 (show i < xs.length by omega) (by omega), Int.toNat_natCast, Fy5 hp i (by omega), ← Fy6 (by omega)]
  exact ih (i + 1) (by omega) (by omega)) 0 (Nat.zero_le _)
 simpa using this
theorem D89 {xs : List Int} (h : ∀ x ∈ xs, 0 ≤ x ∧ x < 256) : D5 (B6 xs) = xs := by
 unfold D5 B6
 simp only [List.map_map]
 induction xs with
 | nil => rfl
 | cons x xs ih =>
  have hx := h x (List.mem_cons_self ..)
  simp only [List.map_cons]
  rw [ih fun y hy => h y (List.mem_cons_of_mem _ hy)]
  congr 1
  show ((UInt8.ofNat x.toNat).toNat : Int) = x
  rw [UInt8.toNat_ofNat']
  omega
theorem F94 {xs : List Int} (h : Cx7 xs) : ∀ x ∈ xs, 1 ≤ x ∧ x ≤ 4 := fun x hx => by
 obtain ⟨i, hi, rfl⟩ := List.getElem_of_mem hx
 have := (h.2.2 i hi).1
 rwa [Aa6 hi] at this
theorem Fd0 {xs : List Int} (h : Cx7 xs) : V0 (B6 xs) = xs := D89 fun x hx => by have := F94 h x hx; omega
theorem Go1 (c : A5) (h : CurOk c) : Re (fun k => Bh4 k c) (fun r => Cx7 r.1 ∧ CurOk r.2.1) := by
 refine Re.enter (f := fun k n => n6 k n 1 c.1 c.2.1 c.2.2.1 []) J1 ?_
 have := Re.loop (ι := Nat) (l := fun k n (s : Int × A5 × List Int) => n6 k n s.1 s.2.1.1 s.2.1.2.1 s.2.1.2.2.1 s.2.2)
  (I := fun s => (1 ≤ s.1 ∧ s.1 ≤ 5) ∧ CurOk s.2.1 ∧ (s.2.2.length : Int) < s.1 ∧ Fu2 s.2.2 ∧ ∀ i, i < s.2.2.length → rd 0 s.2.2 i < s.1) (fun s => (5 - s.1).toNat) (Q := fun _ r => Cx7 r.1 ∧ CurOk r.2.1) (fun s hi ih => by
  obtain ⟨v, c, xs⟩ := s
  obtain ⟨⟨h1, h2⟩, h3, h4, h5, h6⟩ := hi
  simp only at h1 h2 h3 h4 h5 h6 ih ⊢
  simp only [n6, Bn0]
  refine Re.brd (fun h7 => ?_) (fun h7 => ?_)
  ·refine Re.b2 (B70 _ 2 h3.eta) fun r hr => ?_
   have e : B0 (v + 1) = v + 1 := C6 (by omega) (by omega)
   rw [e]
   have app : ∀ i, i < (xs ++ [v]).length → i < xs.length ∧ rd 0 (xs ++ [v]) i = rd 0 xs i ∨ i = xs.length ∧ rd 0 (xs ++ [v]) i = v := fun i hi => by
    by_cases q : i < xs.length
    ·refine .inl ⟨q, ?_⟩
     simp [rd, List.getElem?_append_left q]
    ·refine .inr ⟨by simp at hi; omega, ?_⟩
     have : i = xs.length := by simp at hi; omega
     subst this
     simp [rd]
   refine Re.brb (Re.gdd (by simp [A2]; omega) (ih (v + 1, r.2.1, xs ++ [v]) ⟨⟨by simp only; omega, by simp only; omega⟩, hr, by simp; omega, fun i hi => ?_, fun i hi => ?_⟩ (by simp only; omega))) (ih (v + 1, r.2.1, xs) ⟨⟨by simp only; omega, by simp only; omega⟩, hr, by simp only; omega, h5, fun i hi => by have := h6 i hi; simp only; omega⟩ (by simp only; omega))
   ·simp only at hi ⊢
    rcases app i hi with ⟨q, e1⟩ | ⟨q, e1⟩
    ·rw [e1]
     refine ⟨(h5 i q).1, fun h => ?_⟩
     have e2 : rd 0 (xs ++ [v]) (i - 1) = rd 0 xs (i - 1) := by
      rcases app (i - 1) (by simp; omega) with ⟨_, e2⟩ | ⟨q2, _⟩
      ·exact e2
      ·omega
     rw [e2]
     exact (h5 i q).2 h
    ·rw [e1]
     refine ⟨⟨h1, h7⟩, fun h => ?_⟩
     have e2 : rd 0 (xs ++ [v]) (i - 1) = rd 0 xs (i - 1) := by
      rcases app (i - 1) (by simp; omega) with ⟨_, e2⟩ | ⟨q2, _⟩
      ·exact e2
      ·omega
     rw [e2]
     exact h6 (i - 1) (by omega)
   ·simp only at hi ⊢
    rcases app i hi with ⟨q, e1⟩ | ⟨q, e1⟩
    ·rw [e1]; have := h6 i q; omega
    ·rw [e1]; omega
  ·refine Re.bre (fun h8 => Re.gdd (by simp [A2]; omega) (Re.ret ?_)) (fun h8 => Re.ret ⟨⟨by simp only; omega, by simp only; omega, h5⟩, h3⟩)
   have : xs = [] := List.length_eq_zero_iff.1 (by omega)
   subst this
   refine ⟨⟨by simp, by simp, fun i hi => ?_⟩, h3⟩
   have : i = 0 := by simp at hi; omega
   subst this
   exact ⟨by simp [rd], fun h => absurd h (by omega)⟩) (1, c, []) ⟨⟨Int.le_refl 1, by simp only; omega⟩, h, by simp, fun i hi => absurd hi (by simp), fun i hi => absurd hi (by simp)⟩
 exact this
theorem Fd1 : Re (fun k => Bh5 k) (fun h => ∃ outs, h = ([], ([], [], [], ()), outs, ())) := by
 refine Re.enter (f := fun k n => n7 k n 1 []) J1 ?_
 have := Re.loop (ι := Nat) (l := fun k n (s : Int × List De8) => n7 k n s.1 s.2) (I := fun s => 1 ≤ s.1 ∧ s.1 ≤ 3 ∧ (s.2.length : Int) < s.1) (fun s => (3 - s.1).toNat) (Q := fun _ h => ∃ outs, h = (([] : List B2), (([] : List C5), ([] : List (List Bs0)), ([] : List Bool), ()), outs, ())) (fun s hi ih => by
  obtain ⟨v, xs⟩ := s
  obtain ⟨h1, h2, h3⟩ := hi
  simp only at h1 h2 h3 ih ⊢
  simp only [n7, Bn1]
  refine Re.brd (fun h4 => Re.gdd (by simp [A2]; omega) ?_) (fun h4 => Re.ret ⟨_, rfl⟩)
  rw [C6 (by omega) (by omega)]
  exact ih (v + 1, _) ⟨by simp only; omega, by simp only; omega, by simp; omega⟩ (by simp only; omega)) (1, []) ⟨by decide, by decide, by simp⟩
 exact this
theorem Dh0 (k : Nat) (c : A5) (id : Int) : O5 k c (([] : List C5), ([] : List (List Bs0)), ([] : List Bool), ()) id = some ((id, 1, 1, 0, 0, [], ByteArray.empty, [], 0, ()), c, ()) := by
 unfold O5 Bx6
 rfl
def Gx3 (x : I1) : Prop := E8 x.2.2.2.1 = [] ∧ T7 x.2.2.2.1 = ByteArray.empty ∧ I8 x.2.2.2.1 = []
abbrev Cr0 : p7 := ([], [], [], ())
def F95 (r : I1 × A5 × Unit) : Prop := Gx3 r.1 ∧ CurOk r.2.1
theorem Bo4 (v4 t s : Int) (c : A5) (hc : CurOk c) : Re (fun x : Nat × Nat => (br (v4 == 2) (bd (O5 x.1 c Cr0 2) fun r7 => (some ((v4, t, s, (0, r7.1.2.1, r7.1.2.2.1, r7.1.2.2.2.1, r7.1.2.2.2.2.1, r7.1.2.2.2.2.2.1, r7.1.2.2.2.2.2.2.1, ([] : List Int), 0, ()), 0, 0, ()), r7.2.1, ()))) (br (v4 == 3) (bd (C7 x.1 c 40) fun r8 => (bd (O5 x.1 r8.2.1 Cr0 (B0 ((B0 (2 * r8.1)) + 1))) fun r9 => (bd (N1 x.1 r9.1) fun r10 => (br (!r10) (bd (C7 x.1 r9.2.1 40) fun r11 => (some ((v4, t, s, ((B0 (101 + (B0 (2 * r11.1)))), r9.1.2), 0, 0, ()), r11.2.1, ()))) (some ((v4, t, s, r9.1, 0, 0, ()), r9.2.1, ())))))) (br (v4 == 4) (bd (C7 x.1 c 2) fun r12 => (bd (C7 x.1 r12.2.1 6) fun r13 => (some ((v4, t, s, (0, 0, 0, 0, 0, [], ByteArray.empty, [], 0, ()), (B0 (1 + r12.1)), r13.1, ()), r13.2.1, ())))) (some ((v4, t, s, (0, 0, 0, 0, 0, [], ByteArray.empty, [], 0, ()), 0, 0, ()), c, ())))))) F95 := by
 refine Re.bre (fun _ => Re.s2 (Dh0 · _ _) (Re.ret ⟨⟨rfl, rfl, rfl⟩, hc⟩)) (fun _ => ?_)
 refine Re.bre (fun _ => Re.b2 (I7 _ 40 hc) fun r8 h8 => Re.s2 (Dh0 · _ _) (Re.c2 (A25 _ (by show 0 + (0 + (0 + 0)) ≤ 1048576; omega)) ?_)) (fun _ => ?_)
 ·exact Re.brb (Re.b2 (I7 _ 40 h8.2) fun r11 h11 => Re.ret ⟨⟨rfl, rfl, rfl⟩, h11.2⟩) (Re.ret ⟨⟨rfl, rfl, rfl⟩, h8.2⟩)
 exact Re.bre (fun _ => Re.b2 (I7 _ 2 hc) fun r h => Re.b2 (I7 _ 6 h.2) fun r13 h13 => Re.ret ⟨⟨rfl, rfl, rfl⟩, h13.2⟩) (fun _ => Re.ret ⟨⟨rfl, rfl, rfl⟩, hc⟩)
theorem Fd2 (c : A5) (h : CurOk c) (x : B2) (outs : List De8) : Re (fun k => Am3 k c ([x], Cr0, outs, ())) F95 := by
 have go : ∀ (v4 : Int) (c : A5), CurOk c → Re (fun k => U1 k k c.1 c.2.1 c.2.2.1 ([x], Cr0, outs, ()) v4) F95 := by
  intro v4 c hc
  refine Re.enter (f := fun k n => U1 k n c.1 c.2.1 c.2.2.1 ([x], Cr0, outs, ()) v4) J1 ?_
  have := Re.loop (ι := Nat) (l := fun k n (s : Unit) => U1 k n c.1 c.2.1 c.2.2.1 ([x], Cr0, outs, ()) v4) (I := fun _ => True) (fun _ => 0) (Q := fun _ => F95) (fun s hi ih => by
   simp only [U1, Ay9]
   have hl : ((1 : Nat) : Int) = 1 := rfl
   refine Re.brn (fun _ => ?_) (fun _ => Bo4 _ _ _ _ hc.eta)
   refine Re.brd (fun _ => ?_) (fun h => absurd (by simp) h)
   refine Re.b2 (I7 _ _ hc.eta) fun r4 h4 => ?_
   obtain ⟨⟨g1, g2⟩, g3⟩ := h4
   have g4 : r4.1 < (([x].length : Nat) : Int) := by simp only [List.length_singleton] at g2 ⊢; omega
   refine Re.gdd g1 (Re.gdd g4 ?_)
   refine Re.b2 (I7 _ 10 g3) fun r5 h5 => ?_
   refine Re.bre (fun _ => Re.b2 (I7 _ _ h5.2) fun r6 h6 => Bo4 _ _ _ _ h6.2) (fun _ => ?_)
   exact Re.bre (fun _ => Re.b2 (I7 _ 12 h5.2) fun r6 h6 => Bo4 _ _ _ _ h6.2) (fun _ => Bo4 _ _ _ _ h5.2)) () trivial
  exact this
 refine Re.b1 (Dg8 _ _ h (List.cons_ne_nil _ _)) fun r1 h1 => ?_
 refine Re.bre (fun h => absurd h (by simp)) (fun _ => ?_)
 refine Re.brb (Re.brb (Re.b1 (B70 _ 3 h1.2) fun r3 h3 => Re.brb (go _ _ h3) (go _ _ h3)) (go _ _ h1.2)) (go _ _ h1.2)
theorem F96 (c : A5) (h : CurOk c) : Re (fun k => A62 k c) F95 := by
 refine Re.b1 Fd1 fun r1 h1 => ?_
 obtain ⟨outs, rfl⟩ := h1
 refine Re.b1 (I7 _ 5 h) fun r2 h2 => Re.b1 (I7 _ 4 h2.2) fun r3 h3 => Re.b1 (Fd2 _ h3.2 _ _) fun r4 h4 => Re.ret h4
theorem Z6 {n : Int} (h : Am7 n) : (F1 n).size ≤ 5 := D2 h.2
theorem Fy7 {x : I1} (hb : Gx3 x) (h : W4 x = true) : (Cd9 x).size ≤ 100 := by
 obtain ⟨hc, _, g1, g2⟩ := Fy4 h
 obtain ⟨b1, b2, b3⟩ := hb
 have n1 := Z6 g1
 have n2 := Z6 g2
 have hd : ∀ rest : ByteArray, (Dg7 x rest).size ≤ 11 + rest.size := fun rest => by
  unfold Dg7
  have : (I2 x.1).size = 1 := D6 _
  simp only [C8]; omega
 have z0 : (F1 0).size ≤ 5 := D2 (by omega)
 have hm : ∀ y1 y2 y3 y4 : Int, (Dg6 y1 y2 y3 y4 [] ByteArray.empty).size ≤ 30 := fun y1 y2 y3 y4 => by
  unfold Dg6
  have e1 : ∀ y : Int, (I2 y).size = 1 := fun y => D6 _
  simp only [C8, e1, Cx6, List.length_nil, Ce1]
  have : ByteArray.empty.size = 0 := rfl
  have e0 : (F1 ((0 : Nat) : Int)).size ≤ 5 := z0
  have e4 : (F1 (ByteArray.empty.size : Int)).size ≤ 5 := z0
  have e3 : (⟨#[]⟩ : ByteArray).size = 0 := rfl
  omega
 cases hc with
 | sent _ _ _ h4 =>
  rw [h4, b1, b2]
  have := hd (Dg6 (T6 x.2.2.2.1) (S7 x.2.2.2.1) (Af2 x.2.2.2.1) (P7 x.2.2.2.1) [] ByteArray.empty)
  have := hm (T6 x.2.2.2.1) (S7 x.2.2.2.1) (Af2 x.2.2.2.1) (P7 x.2.2.2.1)
  omega
 | come _ _ he h4 =>
  rw [h4]
  obtain ⟨k1, k2, k3, k4, k5, k6, k7, k8, k9, k10, k11⟩ := Eo6 he
  have e := F93 x.2.2.2.1.1 (T6 x.2.2.2.1) (S7 x.2.2.2.1) (Af2 x.2.2.2.1) (P7 x.2.2.2.1) (E8 x.2.2.2.1) (T7 x.2.2.2.1) (I8 x.2.2.2.1) (Ab4 x.2.2.2.1) k1 k2 k3 k4 k5
  have e2 : A70 x.2.2.2.1 = evB x.2.2.2.1.1 (T6 x.2.2.2.1) (S7 x.2.2.2.1) (Af2 x.2.2.2.1) (P7 x.2.2.2.1) (E8 x.2.2.2.1) (T7 x.2.2.2.1) (I8 x.2.2.2.1) (Ab4 x.2.2.2.1) := e
  have hs : (A70 x.2.2.2.1).size ≤ 50 := by
   rw [e2, b1, b2, b3]
   unfold evB
   have := hm (T6 x.2.2.2.1) (S7 x.2.2.2.1) (Af2 x.2.2.2.1) (P7 x.2.2.2.1)
   have m1 := Z6 k8
   have m2 := Z6 k9
   have e0 : (F1 ((0 : Nat) : Int)).size ≤ 5 := z0
   have e3 : (⟨#[]⟩ : ByteArray).size = 0 := rfl
   simp only [C8, List.length_nil, Ce1]
   omega
  have := hd (As2 (A70 x.2.2.2.1))
  have hv : (F1 ((A70 x.2.2.2.1).size : Int)).size ≤ 5 := D2 (by omega)
  rw [Cx6] at this
  omega
 | ack _ _ h2 h3 h4 =>
  rw [h4]
  have := hd (F1 x.2.2.2.2.1 ++ F1 x.2.2.2.2.2.1)
  have := Z6 h2
  have := Z6 h3
  simp only [C8] at *
  omega
 | bare _ _ _ _ h4 =>
  rw [h4]
  have := hd ⟨#[]⟩
  have e3 : (⟨#[]⟩ : ByteArray).size = 0 := rfl
  omega
def Gt2 (t : Int) (e : B2) : Prop := e.1 = t ∧ e.2.2.1.size ≤ 120 ∧ (0 ≤ t → t ≤ 100000 → N6 e = true)
theorem D90 {a b c : Int} (h : b ≤ a) (h2 : a ≤ c) : j5 a b c = true := D4.2 ⟨h, h2⟩
theorem F97 (t : Int) : Gt2 t (t, 1, ByteArray.empty, ()) := ⟨rfl, by show (0 : Nat) ≤ 120; omega, fun h1 h2 => by
 unfold N6
 rw [D90 h1 h2]
 rfl⟩
theorem By9 (c : A5) (h : CurOk c) (t : Int) : Re (fun k => Ai2 k c t) (fun r => Gt2 t r.1 ∧ CurOk r.2.1) := by
 refine Re.b1 (Dg8 _ _ h (List.cons_ne_nil _ _)) fun r1 h1 => ?_
 obtain ⟨g1, c1⟩ := h1
 simp only [List.mem_cons, List.not_mem_nil, or_false] at g1
 refine Re.bre (fun o2 => ?_) (fun o2 => ?_)
 ·refine Re.b1 (Go1 _ c1) fun r2 h2 => ?_
  obtain ⟨hc, c2⟩ := h2
  refine Re.c1 (Dp5 _ (by have := hc.2.1; omega)) (Re.ret ⟨?_, c2⟩)
  unfold Dg9
  rw [Ai6.2 hc]
  refine ⟨rfl, ?_, fun h1 h2 => ?_⟩
  ·simp only [cond_true, D6]; have := hc.2.1; omega
  ·unfold N6
   simp only [cond_true, D90 h1 h2, o2]
   rw [Fd0 hc, Ai6.2 hc]
   rfl
 refine Re.bre (fun o3 => ?_) (fun o3 => Re.ret ⟨?_, c1⟩)
 ·refine Re.b1 (F96 _ c1) fun r4 h4 => ?_
  obtain ⟨hb, c4⟩ := h4
  have hm : Bi2 r4.1 ≤ 1048576 := by
   obtain ⟨b1, b2, b3⟩ := hb
   show (E8 r4.1.2.2.2.1).length + ((T7 r4.1.2.2.2.1).size + ((I8 r4.1.2.2.2.1).length + 0)) + 0 ≤ 1048576
   rw [b1, b2, b3]
   show 0 + (0 + (0 + 0)) + 0 ≤ 1048576; omega
  refine Re.c1 (Cq7 _ hm) (Re.ret ⟨?_, c4⟩)
  have hs : (bif W4 r4.1 then (Cd9 r4.1, true) else ((⟨#[]⟩ : ByteArray), false)).1.size ≤ 100 := by
   cases ho : W4 r4.1 with
   | false => show 0 ≤ 100; omega
   | true => exact Fy7 hb ho
  refine ⟨rfl, by simp only; omega, fun h1 h2 => ?_⟩
  unfold N6
  simp only [D90 h1 h2, o3]
  exact decide_eq_true (by omega)
 ·have o1 : r1.1 = 1 := by omega
  rw [o1]; exact F97 t
def Ae2 (i t k : Int) (d : ByteArray) : ByteArray := I2 69 ++ (F1 i ++ (F1 t ++ (I2 k ++ d)))
noncomputable def Bb8 (i : Int) (e : B2) : ByteArray × Bool := bif N6 e && j5 i 1 1000000 then (Ae2 i e.1 e.2.1 e.2.2.1, true) else (⟨#[]⟩, false)
theorem W8 {e : B2} (h : N6 e = true) : (0 ≤ e.1 ∧ e.1 ≤ 100000) ∧ (e.2.1 = 1 ∨ e.2.1 = 2 ∨ e.2.1 = 3) ∧ e.2.2.1.size ≤ 120 := by
 unfold N6 at h
 simp only [Bool.and_eq_true] at h
 obtain ⟨h1, h2⟩ := h
 refine ⟨D4.1 h1, ?_⟩
 by_cases o1 : e.2.1 = 1
 ·rw [o1] at h2
  have := of_decide_eq_true h2
  exact ⟨.inl o1, by rw [this]; decide⟩
 rw [Am9 o1] at h2
 by_cases o2 : e.2.1 = 2
 ·rw [o2] at h2
  have := (Ai6.1 h2).2.1
  rw [S8] at this
  exact ⟨.inr (.inl o2), by omega⟩
 rw [Am9 o2] at h2
 by_cases o3 : e.2.1 = 3
 ·rw [o3] at h2
  exact ⟨.inr (.inr o3), of_decide_eq_true h2⟩
 rw [Am9 o3] at h2
 cases h2
theorem Gq9 : (⟨#[69]⟩ : ByteArray) = I2 69 := by apply Af3; simp [I2, B6]
theorem Dh1 (i : Int) (e : B2) (hs : e.2.2.1.size ≤ 1048576) : Ev (fun k => Ak2 k i e) (Bb8 i e) := by
 refine Re.eq ?_
 refine Re.c1 (Bo3 e hs) ?_
 unfold Bb8
 cases ho : N6 e with
 | false => exact Re.ret rfl
 | true =>
  refine Re.s1 (N2 · _ _ _) ?_
  cases hi : j5 i 1 1000000 with
  | false => exact Re.ret rfl
  | true =>
   obtain ⟨k1, k2, k3⟩ := W8 ho
   have i1 := D4.1 hi
   refine Re.c1 (D21 [i, e.1] (by simp) (fun n hn => by simp at hn; rcases hn with rfl | rfl <;> omega)) ?_
   have e1 : Bm5 [i, e.1] = F1 i ++ F1 e.1 := by
    rw [Cq9]
    show F1 i ++ (F1 e.1 ++ (⟨#[]⟩ : ByteArray)) = _
    rw [show F1 e.1 ++ (⟨#[]⟩ : ByteArray) = F1 e.1 from ByteArray.append_empty]
   have n1 : (F1 i).size ≤ 5 := D2 (by omega)
   have n2 : (F1 e.1).size ≤ 5 := D2 (by omega)
   have hk : IntKind.wrap .u8 e.2.1 = e.2.1 := Bx1 (by omega) (by omega)
   have n0 : (⟨#[69]⟩ : ByteArray).size = 1 := rfl
   rw [e1, hk]
   refine Re.gdd (by simp only [C8]; unfold A2; omega) (Re.gdd (by simp only [C8, D6, List.length_singleton]; unfold A2; omega) (Re.gdd (by simp only [C8, D6, List.length_singleton]; unfold A2; omega) (Re.ret ?_)))
   unfold Ae2
   rw [Gq9]
   simp only [Am8]
   rfl
theorem Dh2 (i : Int) (e : B2) (ho : N6 e = true) (hi : j5 i 1 1000000 = true) : Ev (fun k => Aw0 k (Ae2 i e.1 e.2.1 e.2.2.1)) (i, e, true) := by
 obtain ⟨k1, k2, k3⟩ := W8 ho
 have i1 := D4.1 hi
 have n1 : (F1 i).size ≤ 5 := D2 (by omega)
 have n2 : (F1 e.1).size ≤ 5 := D2 (by omega)
 have hb : ∀ y : Int, (I2 y).size = 1 := fun y => D6 _
 have hs : z8 (Ae2 i e.1 e.2.1 e.2.2.1) 0 (Ae2 i e.1 e.2.1 e.2.2.1) := B69 _
 have hsz : (Ae2 i e.1 e.2.1 e.2.2.1).size = 1 + ((F1 i).size + ((F1 e.1).size + (1 + e.2.2.1.size))) := by unfold Ae2; simp only [C8, hb]
 generalize ha : Ae2 i e.1 e.2.1 e.2.2.1 = a at hs hsz
 rw [← ha] at hs
 rw [ha] at hs
 have hs2 : z8 a 0 (I2 69 ++ (F1 i ++ (F1 e.1 ++ (I2 e.2.1 ++ e.2.2.1)))) := by rw [← ha] at hs ⊢; exact hs
 obtain ⟨x0, q0, b0, R0, E0⟩ := Cj5 a 0 false (by omega) (by omega)
 obtain ⟨x1, q1, b1, R1, _, E1⟩ := Az3 a q0 b0 (by omega) R0.hi
 obtain ⟨x2, q2, b2, R2, _, E2⟩ := Az3 a q1 b1 (by omega) R1.hi
 obtain ⟨x3, q3, b3, R3, E3⟩ := Cj5 a q2 b2 (by omega) R2.hi
 obtain ⟨c, hs2⟩ := O6.1 hs2
 obtain ⟨rfl, z0, hb0⟩ := R0.full rfl 69 (by unfold R5; omega) c; rw [← z0] at hs2
 obtain ⟨c, hs2⟩ := O6.1 hs2
 obtain ⟨rfl, z1, hb1⟩ := R1.full hb0 i (by unfold Am7; omega) c; rw [← z1] at hs2
 obtain ⟨c, hs2⟩ := O6.1 hs2
 obtain ⟨rfl, z2, hb2⟩ := R2.full hb1 e.1 (by unfold Am7; omega) c; rw [← z2] at hs2
 obtain ⟨c, hs2⟩ := O6.1 hs2
 obtain ⟨rfl, z3, hb3⟩ := R3.full hb2 e.2.1 (by unfold R5; omega) c; rw [← z3] at hs2
 rw [hb] at z0 z3
 have he : a.extract q3 a.size = e.2.2.1 := by
  have := Ae1 hs2
  rwa [show q3 + e.2.2.1.size = a.size by omega] at this
 refine Re.eq ?_
 refine Re.c1 E0 (Re.c1 E1 (Re.c1 E2 (Re.c1 E3 ?_)))
 subst hb3
 refine Re.br (b := false) (fun h => by cases h) (fun _ => ?_)
 refine Re.brn (fun h => absurd rfl h) (fun _ => ?_)
 refine Re.gdd (by show (0 : Int) ≤ (q3 : Int); omega) (Re.gdd (by show (q3 : Int) ≤ (a.size : Int); omega) ?_)
 have e4 : ((e.1, e.2.1, a.extract ((cur a q3 false).2.1).toNat a.size, ()) : B2) = e := by
  show ((e.1, e.2.1, a.extract ((q3 : Int)).toNat a.size, ()) : B2) = e
  rw [Int.toNat_natCast, he]
 refine Re.c1 (v := N6 e) (Ev.congr (Bo3 e (by omega)) fun k => congrArg (Ak1 k) e4) ?_
 rw [ho]
 refine Re.s1 (N2 · _ _ _) ?_
 rw [hi]
 exact Re.ret (Prod.ext rfl (Prod.ext e4 rfl))
end Go.Vm
end
section
set_option linter.unusedVariables false
set_option linter.unusedSimpArgs false
namespace Go.Vm
open Go
noncomputable def eqd {α : Type} (a b : α) : Bool := @decide (a = b) (Classical.propDecidable _)
theorem S9 {α : Type} {a b : α} : eqd a b = true ↔ a = b := by unfold eqd; exact @decide_eq_true_iff _ (Classical.propDecidable _)
theorem An0 {α : Type} {a b : α} (h : a = b) : eqd a b = true := S9.2 h
theorem Z7 {α : Type} {a b : α} (h : a ≠ b) : eqd a b = false := by
 cases e : eqd a b with
 | false => rfl
 | true => exact absurd (S9.1 e) h
end Go.Vm
end
section
set_option linter.unusedVariables false
set_option linter.unusedSimpArgs false
namespace Go.Vm
open Go
def M8 (l : B7) (i : Nat) : Int := if i = 0 then l.2.1 else (rd A8 l.2.2.1 (i - 1)).1
def Ep0 (l : B7) : Prop := ∀ i, i < l.2.2.1.length → N6 (rd A8 l.2.2.1 i) = true ∧ M8 l i ≤ (rd A8 l.2.2.1 i).1
def LogP (l : B7) : Prop := (0 ≤ l.1 ∧ l.1 ≤ 1000000) ∧ (0 ≤ l.2.1 ∧ l.2.1 ≤ 100000) ∧ l.2.2.1.length ≤ 60 ∧ l.1 + l.2.2.1.length ≤ 1000000 ∧ Ep0 l
noncomputable def Ak3 (l : B7) : Bool := @decide (LogP l) (Classical.propDecidable _)
theorem L4 {l : B7} : Ak3 l = true ↔ LogP l := by unfold Ak3; exact @decide_eq_true_iff _ (Classical.propDecidable _)
theorem Ag4 {l : B7} (h : ¬ LogP l) : Ak3 l = false := by
 cases e : Ak3 l with
 | false => rfl
 | true => exact absurd (L4.1 e) h
def D91 (l : B7) : Prop := l.2.2.1.length ≤ 1000 ∧ ∀ i, i < l.2.2.1.length → (rd A8 l.2.2.1 i).2.2.1.size ≤ 1048576
theorem A72 (l : B7) (i : Nat) : M8 l (i + 1) = (rd A8 l.2.2.1 i).1 := by unfold M8; rw [if_neg (by omega)]; rfl
theorem D23 {f : Nat → Nat → Nat → Option Bool} {V : Bool} (l : B7)
  (hs : ∀ i, i < l.2.2.1.length → ((N6 (rd A8 l.2.2.1 i) = true ∧ M8 l i ≤ (rd A8 l.2.2.1 i).1) → Re (fun x : Nat × Nat => f x.1 x.2 (i + 1)) (fun v => v = V)) → (¬ (N6 (rd A8 l.2.2.1 i) = true ∧ M8 l i ≤ (rd A8 l.2.2.1 i).1) → V = false) → Re (fun x : Nat × Nat => f x.1 (x.2 + 1) i) (fun v => v = V))
  (hn : ¬ Ep0 l → V = false) (he : Ep0 l → Re (fun x : Nat × Nat => f x.1 (x.2 + 1) l.2.2.1.length) (fun v => v = V)) : Re (fun x : Nat × Nat => f x.1 x.2 0) (fun v => v = V) := by
 have := Re.loop (ι := Nat) (l := fun k n i => f k n i) (I := fun i => i ≤ l.2.2.1.length ∧ ∀ j, j < i → N6 (rd A8 l.2.2.1 j) = true ∧ M8 l j ≤ (rd A8 l.2.2.1 j).1) (fun i => l.2.2.1.length - i) (Q := fun _ v => v = V) (fun i hi ih => by
  by_cases h : i < l.2.2.1.length
  ·refine hs i h (fun g => ih (i + 1) ⟨by omega, fun j hj => ?_⟩ (by omega)) (fun g => hn fun hr => g (hr i h))
   by_cases hj2 : j < i
   ·exact hi.2 j hj2
   ·have : j = i := by omega
    subst this; exact g
  ·have hi2 : i = l.2.2.1.length := by omega
   subst hi2
   exact he hi.2) 0 ⟨Nat.zero_le _, fun j hj => by omega⟩
 exact this
theorem A73 (l : B7) (hS : D91 l) : Ev (fun k => A19 k l) (Ak3 l) := by
 obtain ⟨hl, hz⟩ := hS
 refine Re.eq ?_
 refine Re.s1 (H9 · _ _ _) ?_
 rw [Au3]
 refine Re.br (fun h => Re.ret (Ag4 fun hc => by simp [hc.1] at h).symm) (fun h => ?_)
 have h1 : 0 ≤ l.1 ∧ l.1 ≤ 1000000 := by simpa using h
 refine Re.s1 (H9 · _ _ _) ?_
 rw [Au3]
 refine Re.br (fun h => Re.ret (Ag4 fun hc => by simp [hc.2.1] at h).symm) (fun h => ?_)
 have h2 : 0 ≤ l.2.1 ∧ l.2.1 ≤ 100000 := by simpa using h
 refine Re.brd (fun h => Re.ret (Ag4 fun hc => by have := hc.2.2.1; omega).symm) (fun h3 => ?_)
 rw [C6 (show -9223372036854775808 ≤ l.1 + (l.2.2.1.length : Int) by omega) (by omega)]
 refine Re.brd (fun h => Re.ret (Ag4 fun hc => by have := hc.2.2.2.1; omega).symm) (fun h4 => ?_)
 refine Re.enter (f := fun k n => Aa8 k n l.2.1 0 l) J1 ?_
 refine D23 (f := fun k n i => Aa8 k n (M8 l i) (i : Int) l) l (fun i hi ih hf => ?_) (fun g => Ag4 fun hc => g hc.2.2.2.2) (fun g => ?_)
 ·simp only [Aa8, Bm9]
  refine Re.brd (fun _ => ?_) (fun h => absurd (by omega : (i : Int) < l.2.2.1.length) h)
  refine Re.gdd (by omega) (Re.gdd (by omega) ?_)
  rw [Int.toNat_natCast]
  refine Re.c2 (Cj6 _ (hz i hi)) ?_
  refine Re.br (fun h => Re.ret (hf fun g => by simp [g.1] at h).symm) (fun h => ?_)
  have he : N6 (rd A8 l.2.2.1 i) = true := by simpa using h
  refine Re.gdd (by omega) (Re.gdd (by omega) ?_)
  refine Re.brd (fun h => Re.ret (hf fun g => by have := g.2; omega).symm) (fun h => ?_)
  refine Re.gdd (by omega) (Re.gdd (by omega) ?_)
  have := ih ⟨he, by omega⟩
  rw [A72] at this
  rw [d9 hi (by omega)]
  exact this
 ·simp only [Aa8, Bm9, Int.lt_irrefl, decide_false, br_false]
  exact Re.ret (L4.2 ⟨h1, h2, by omega, by omega, g⟩).symm
theorem Bo5 (l : B7) (hS : D91 l) : Ev (fun k => Bb4 k l) (Ak3 l) := by
 obtain ⟨hl, hz⟩ := hS
 refine Re.eq ?_
 refine Re.s1 (N2 · _ _ _) ?_
 rw [Au3]
 refine Re.br (fun h => Re.ret (Ag4 fun hc => by simp [hc.1] at h).symm) (fun h => ?_)
 have h1 : 0 ≤ l.1 ∧ l.1 ≤ 1000000 := by simpa using h
 refine Re.s1 (N2 · _ _ _) ?_
 rw [Au3]
 refine Re.br (fun h => Re.ret (Ag4 fun hc => by simp [hc.2.1] at h).symm) (fun h => ?_)
 have h2 : 0 ≤ l.2.1 ∧ l.2.1 ≤ 100000 := by simpa using h
 refine Re.brd (fun h => Re.ret (Ag4 fun hc => by have := hc.2.2.1; omega).symm) (fun h3 => ?_)
 rw [C6 (show -9223372036854775808 ≤ l.1 + (l.2.2.1.length : Int) by omega) (by omega)]
 refine Re.brd (fun h => Re.ret (Ag4 fun hc => by have := hc.2.2.2.1; omega).symm) (fun h4 => ?_)
 refine Re.enter (f := fun k n => Ab1 k n l.2.1 l 0) J1 ?_
 refine D23 (f := fun k n i => Ab1 k n (M8 l i) l (i : Int)) l (fun i hi ih hf => ?_) (fun g => Ag4 fun hc => g hc.2.2.2.2) (fun g => ?_)
 ·simp only [Ab1, Bn6]
  refine Re.brd (fun _ => ?_) (fun h => absurd (by omega : (i : Int) < l.2.2.1.length) h)
  refine Re.gdd (by omega) (Re.gdd (by omega) ?_)
  rw [Int.toNat_natCast]
  refine Re.c2 (Bo3 _ (hz i hi)) ?_
  refine Re.br (fun h => Re.ret (hf fun g => by simp [g.1] at h).symm) (fun h => ?_)
  have he : N6 (rd A8 l.2.2.1 i) = true := by simpa using h
  refine Re.brd (fun h => Re.ret (hf fun g => by have := g.2; omega).symm) (fun h => ?_)
  have := ih ⟨he, by omega⟩
  rw [A72] at this
  rw [d9 hi (by omega)]
  exact this
 ·simp only [Ab1, Bn6, Int.lt_irrefl, decide_false, br_false]
  exact Re.ret (L4.2 ⟨h1, h2, by omega, by omega, g⟩).symm
theorem B72 {α : Type} (d : α) (xs : List α) (y : α) (i : Nat) : rd d (xs ++ [y]) i = if i < xs.length then rd d xs i else if i = xs.length then y else d := by
 unfold rd
 by_cases h : i < xs.length
 ·rw [if_pos h]; simp [List.getElem?_append_left h]
 ·rw [if_neg h]
  by_cases h2 : i = xs.length
  ·subst h2; simp
  ·rw [if_neg h2]; simp [List.getElem?_eq_none (show (xs ++ [y]).length ≤ i by simp; omega)]
theorem Fd3 (s t : Int) (xs : List B2) (y : B2) (i : Nat) (h : i ≤ xs.length) : M8 (s, t, xs ++ [y], ()) i = M8 (s, t, xs, ()) i := by
 unfold M8
 by_cases h0 : i = 0
 ·simp [h0]
 ·rw [if_neg h0, if_neg h0]
  simp only [B72]
  rw [if_pos (by omega)]
def EntsT (s t : Int) (xs : List B2) (T : Int) : Prop := Ep0 (s, t, xs, ()) ∧ M8 (s, t, xs, ()) xs.length ≤ T ∧ ∀ i, i < xs.length → (rd A8 xs i).2.2.1.size ≤ 120
theorem Ce2 {s t : Int} {xs : List B2} {T T' : Int} {e : B2} (h : EntsT s t xs T) (hT : T ≤ T') (h0 : 0 ≤ T') (h1 : T' ≤ 100000) (he : Gt2 T' e) : EntsT s t (xs ++ [e]) T' := by
 obtain ⟨a, b, c⟩ := h
 obtain ⟨d1, d2, d3⟩ := he
 refine ⟨fun i hi => ?_, ?_, fun i hi => ?_⟩
 ·simp only at hi ⊢
  rw [B72, Fd3 s t xs e i (by simp at hi; omega)]
  by_cases q : i < xs.length
  ·rw [if_pos q]; exact a i q
  ·have : i = xs.length := by simp at hi; omega
   subst this
   rw [if_neg q, if_pos rfl]
   exact ⟨d3 h0 h1, by omega⟩
 ·rw [List.length_append, List.length_singleton, A72]
  simp only [B72, Nat.lt_irrefl, if_false, if_true]
  omega
 ·rw [B72]
  by_cases q : i < xs.length
  ·rw [if_pos q]; exact c i q
  ·rw [if_neg q, if_pos (by simp at hi; omega)]; exact d2
def RightL (l : B7) : Prop := (0 ≤ l.1 ∧ l.1 ≤ 20) ∧ (0 ≤ l.2.1 ∧ l.2.1 ≤ 40) ∧ l.2.2.1.length ≤ 20 ∧ EntsT l.1 l.2.1 l.2.2.1 40
theorem RightL.ok {l : B7} (h : RightL l) : LogP l := ⟨⟨h.1.1, by have := h.1.2; omega⟩, ⟨h.2.1.1, by have := h.2.1.2; omega⟩, by have := h.2.2.1; omega, by have := h.1.2; have := h.2.2.1; omega, h.2.2.2.1⟩
theorem RightL.small {l : B7} (h : RightL l) : D91 l := ⟨by have := h.2.2.1; omega, fun i hi => by have := h.2.2.2.2.2 i hi; omega⟩
theorem Ep1 (c : A5) (h : CurOk c) : Re (fun k => A63 k c) (fun r => (RightL r.1 ∧ r.1.2.2.1.length ≤ 8) ∧ CurOk r.2.1) := by
 refine Re.b1 (I7 _ 3 h) fun r1 h1 => Re.b1 (I7 _ 4 h1.2) fun r2 h2 => Re.b1 (I7 _ 3 h2.2) fun r3 h3 => ?_
 have m1 : 0 ≤ r1.1 ∧ r1.1 ≤ 2 := by obtain ⟨⟨a, b⟩, _⟩ := h1; omega
 have m2 : 0 ≤ r2.1 ∧ r2.1 ≤ 3 := by obtain ⟨⟨a, b⟩, _⟩ := h2; omega
 have m3 : 0 ≤ r3.1 ∧ r3.1 ≤ 2 := by obtain ⟨⟨a, b⟩, _⟩ := h3; omega
 have mm : 0 ≤ r1.1 * r2.1 ∧ r1.1 * r2.1 ≤ 6 := by
  rcases (show r1.1 = 0 ∨ r1.1 = 1 ∨ r1.1 = 2 by omega) with e | e | e <;> rw [e] <;> omega
 have hw : B0 (r1.1 * r2.1) = r1.1 * r2.1 := C6 (by omega) (by omega)
 refine Re.enter (f := fun k n => Z4 k n r3.1 0 r3.2.1.1 r3.2.1.2.1 r3.2.1.2.2.1 r1 r2 r3 []) J1 ?_
 have := Re.loop (ι := Nat) (l := fun k n (s : Int × A5 × List B2) => Z4 k n s.1 (s.2.2.length : Int) s.2.1.1 s.2.1.2.1 s.2.1.2.2.1 r1 r2 r3 s.2.2)
  (I := fun s => s.2.2.length ≤ 8 ∧ CurOk s.2.1 ∧ (0 ≤ s.1 ∧ s.1 ≤ 2 + 2 * s.2.2.length) ∧ EntsT (r1.1 * r2.1) r3.1 s.2.2 s.1) (fun s => 8 - s.2.2.length) (Q := fun _ r => (RightL r.1 ∧ r.1.2.2.1.length ≤ 8) ∧ CurOk r.2.1) (fun s hi ih => by
  obtain ⟨T, c, xs⟩ := s
  obtain ⟨i1, i2, i3, i4⟩ := hi
  simp only at i1 i2 i3 i4 ih ⊢
  simp only [Z4, Bc9]
  refine Re.b2 (I7 _ 8 i2.eta) fun r4 h4 => ?_
  refine Re.brd (fun q => ?_) (fun q => ?_)
  ·have hx : xs.length < 8 := by obtain ⟨⟨a, b⟩, _⟩ := h4; omega
   have e1 : B0 ((xs.length : Int) + 1) = ((xs.length + 1 : Nat) : Int) := by rw [C6 (by omega) (by omega)]; rfl
   refine Re.b2 (B70 _ 3 h4.2) fun r5 h5 => ?_
   refine Re.brb (Re.b2 (I7 _ 2 h5) fun r6 h6 => ?_) ?_
   ·have m6 : 0 ≤ r6.1 ∧ r6.1 ≤ 1 := by obtain ⟨⟨a, b⟩, _⟩ := h6; omega
    rw [show B0 (B0 (T + 1) + r6.1) = T + 1 + r6.1 by rw [C6 (show -9223372036854775808 ≤ T + 1 by omega) (by omega)]; exact C6 (by omega) (by omega)]
    refine Re.b2 (By9 _ h6.2 _) fun r7 h7 => Re.gdd (by simp [A2]; omega) ?_
    rw [e1]
    have := ih (T + 1 + r6.1, r7.2.1, xs ++ [r7.1]) ⟨by simp; omega, h7.2, by simp; omega, Ce2 i4 (by omega) (by omega) (by omega) h7.1⟩ (by simp; omega)
    simpa using this
   ·refine Re.b2 (By9 _ h5 _) fun r7 h7 => Re.gdd (by simp [A2]; omega) ?_
    rw [e1]
    have := ih (T, r7.2.1, xs ++ [r7.1]) ⟨by simp; omega, h7.2, by simp; omega, Ce2 i4 (by omega) (by omega) (by omega) h7.1⟩ (by simp; omega)
    simpa using this
  ·rw [hw]
   exact Re.ret ⟨⟨⟨⟨mm.1, by simp only; omega⟩, ⟨m3.1, by simp only; omega⟩, by simp only; omega, ⟨i4.1, by have := i4.2.1; simp only; omega, i4.2.2⟩⟩, i1⟩, h4.2⟩) (r3.1, r3.2.1, []) ⟨by simp, h3.2, by simp; omega, ⟨fun i hi => absurd hi (by simp), by show r3.1 ≤ r3.1; omega, fun i hi => absurd hi (by simp)⟩⟩
 exact this
def AnyL (l : B7) : Prop := (-1 ≤ l.1 ∧ l.1 ≤ 1000001) ∧ l.2.2.1.length ≤ 70 ∧ ∀ i, i < l.2.2.1.length → (rd A8 l.2.2.1 i).2.2.1.size ≤ 121
theorem AnyL.small {l : B7} (h : AnyL l) : D91 l := ⟨by have := h.2.1; omega, fun i hi => by have := h.2.2 i hi; omega⟩
theorem RightL.any {l : B7} (h : RightL l) : AnyL l := ⟨⟨by have := h.1.1; omega, by have := h.1.2; omega⟩, by have := h.2.2.1; omega, fun i hi => by have := h.2.2.2.2.2 i hi; omega⟩
theorem Fy8 {xs : List B2} {y : B2} {n : Nat} (h : ∀ i, i < xs.length → (rd A8 xs i).2.2.1.size ≤ n) (hy : y.2.2.1.size ≤ n) : ∀ i, i < (xs ++ [y]).length → (rd A8 (xs ++ [y]) i).2.2.1.size ≤ n := fun i hi => by
 rw [B72]
 by_cases q : i < xs.length
 ·rw [if_pos q]; exact h i q
 ·rw [if_neg q, if_pos (by simp at hi; omega)]; exact hy
theorem Ce3 (l : B7) (h : AnyL l) : ∀ k, Aj7 k l = some (l.1 + (l.2.2.1.length : Int), M8 l l.2.2.1.length) := fun k => by
 obtain ⟨h1, h2, _⟩ := h
 unfold Aj7 M8
 by_cases h0 : l.2.2.1.length = 0
 ·rw [if_pos h0, h0]
  simp
 ·rw [if_neg h0, Am9 (show (l.2.2.1.length : Int) ≠ 0 by omega), br_false, Ch7 (by omega) (by omega)]
  rw [decide_eq_true (by omega), gd_true, decide_eq_true (by omega), gd_true, C6 (by omega) (by omega)]
  rfl
noncomputable def Bo6 (l : B7) (i : Int) (e : B2) : B7 × Bool :=
 bif Ak3 l && (decide (l.1 + 1 ≤ i ∧ i ≤ l.1 + l.2.2.1.length + 1) && Ak3 (l.1, l.2.1, l.2.2.1.take (i - l.1 - 1).toNat ++ [e], ())) then ((l.1, l.2.1, l.2.2.1.take (i - l.1 - 1).toNat ++ [e], ()), true) else ((0, 0, [], ()), false)
theorem Cr1 {l : B7} {e : B2} (h : AnyL l) (he : e.2.2.1.size ≤ 121) (n : Nat) : D91 (l.1, l.2.1, l.2.2.1.take n ++ [e], ()) := by
 obtain ⟨_, h2, h3⟩ := h
 refine ⟨by simp; omega, fun i hi => ?_⟩
 have := Fy8 (xs := l.2.2.1.take n) (y := e) (n := 1048576) (fun j hj => ?_) (by omega) i hi
 ·exact this
 ·have hj2 : j < n ∧ j < l.2.2.1.length := by simp at hj; omega
  have : rd A8 (l.2.2.1.take n) j = rd A8 l.2.2.1 j := by simp [rd, List.getElem?_take, hj2.1]
  rw [this]
  have := h3 j hj2.2
  omega
theorem Ep2 (l : B7) (i : Int) (e : B2) (h : AnyL l) (he : e.2.2.1.size ≤ 121) : Ev (fun k => Bx3 k l i e) (Bo6 l i e) := by
 refine Re.eq (Re.c1 (A73 l h.small) ?_)
 unfold Bo6
 cases ho : Ak3 l with
 | false => exact Re.ret rfl
 | true =>
  have hp := L4.1 ho
  obtain ⟨p1, p2, p3, p4, p5⟩ := hp
  simp only [Bool.not_true, br_false, Bool.true_and]
  refine Re.s1 (v := l.1 + (l.2.2.1.length : Int)) (fun k => by unfold Ac9; rw [C6 (by omega) (by omega)]) ?_
  refine Re.s1 (H9 · _ _ _) ?_
  rw [C6 (show -9223372036854775808 ≤ l.1 + 1 by omega) (by omega), C6 (show -9223372036854775808 ≤ l.1 + (l.2.2.1.length : Int) + 1 by omega) (by omega), Au3]
  refine Re.br (fun q => ?_) (fun q => ?_)
  ·have : decide (l.1 + 1 ≤ i ∧ i ≤ l.1 + (l.2.2.1.length : Int) + 1) = false := by
    cases hd : decide (l.1 + 1 ≤ i ∧ i ≤ l.1 + (l.2.2.1.length : Int) + 1) with
    | false => rfl
    | true => rw [hd] at q; cases q
   rw [this]
   exact Re.ret rfl
  have hq : l.1 + 1 ≤ i ∧ i ≤ l.1 + (l.2.2.1.length : Int) + 1 := by simpa using q
  rw [decide_eq_true hq]
  rw [C6 (show -9223372036854775808 ≤ i - l.1 by omega) (by omega), C6 (show -9223372036854775808 ≤ i - l.1 - 1 by omega) (by omega)]
  refine Re.gdd (by omega) (Re.gdd (by omega) (Re.gdd (by simp [A2]; omega) (Re.gdd (by simp [A2]; omega) ?_)))
  simp only [List.nil_append, Bool.true_and]
  refine Re.c1 (A73 _ (Cr1 h he _)) ?_
  cases Ak3 (l.1, l.2.1, l.2.2.1.take (i - l.1 - 1).toNat ++ [e], ()) <;> exact Re.ret rfl
theorem Ep3 (l : B7) (i : Int) (e : B2) (h : AnyL l) (he : e.2.2.1.size ≤ 121) : Ev (fun k => By2 k l i e) (Bo6 l i e) := by
 refine Re.eq (Re.c1 (Bo5 l h.small) ?_)
 unfold Bo6
 cases ho : Ak3 l with
 | false => exact Re.ret rfl
 | true =>
  have hp := L4.1 ho
  obtain ⟨p1, p2, p3, p4, p5⟩ := hp
  simp only [Bool.not_true, br_false, Bool.true_and]
  refine Re.s1 (v := l.1 + (l.2.2.1.length : Int)) (fun k => by unfold Df5; rw [C6 (by omega) (by omega)]) ?_
  refine Re.s1 (N2 · _ _ _) ?_
  rw [C6 (show -9223372036854775808 ≤ l.1 + 1 by omega) (by omega), C6 (show -9223372036854775808 ≤ l.1 + (l.2.2.1.length : Int) + 1 by omega) (by omega), Au3]
  refine Re.br (fun q => ?_) (fun q => ?_)
  ·have : decide (l.1 + 1 ≤ i ∧ i ≤ l.1 + (l.2.2.1.length : Int) + 1) = false := by
    cases hd : decide (l.1 + 1 ≤ i ∧ i ≤ l.1 + (l.2.2.1.length : Int) + 1) with
    | false => rfl
    | true => rw [hd] at q; cases q
   rw [this]
   exact Re.ret rfl
  have hq : l.1 + 1 ≤ i ∧ i ≤ l.1 + (l.2.2.1.length : Int) + 1 := by simpa using q
  rw [decide_eq_true hq]
  refine Re.s1 (v := l) (fun k => by unfold I4; rw [decide_eq_true (by unfold A2; omega)]; rfl) ?_
  rw [C6 (show -9223372036854775808 ≤ i - l.1 by omega) (by omega), C6 (show -9223372036854775808 ≤ i - l.1 - 1 by omega) (by omega)]
  refine Re.gdd (by omega) (Re.gdd (by omega) ?_)
  simp only [Nat.zero_add, Bool.true_and, List.length_singleton]
  have e1 : ∀ q, q + 1 ≤ l.2.2.1.length → (app q [e] l.2.2.1).take (q + 1) = l.2.2.1.take q ++ [e] := fun q hq => by
   unfold app
   rw [List.take_append_of_le_length (by simp; omega), List.take_of_length_le (by simp; omega)]
  refine Re.brd (fun q => ?_) (fun q => ?_)
  ·rw [e1 _ q]
   refine Re.c1 (Bo5 _ (Cr1 h he _)) ?_
   cases Ak3 (l.1, l.2.1, l.2.2.1.take (i - l.1 - 1).toNat ++ [e], ()) <;> exact Re.ret rfl
  ·refine Re.gdd (by simp [A2]; omega) ?_
   refine Re.c1 (Bo5 _ (Cr1 h he _)) ?_
   cases Ak3 (l.1, l.2.1, l.2.2.1.take (i - l.1 - 1).toNat ++ [e], ()) <;> exact Re.ret rfl
def Bz0 (l : B7) : Int := l.1 + l.2.2.1.length
def Bz1 (l : B7) (i : Int) : Int := if i = l.1 then l.2.1 else if i < l.1 ∨ i > Bz0 l then -1 else (rd A8 l.2.2.1 (i - l.1 - 1).toNat).1
theorem Fy9 {l : B7} {j : Nat} (h : j ≤ l.2.2.1.length) : Bz1 l (l.1 + j) = M8 l j := by
 unfold Bz1 M8 Bz0
 by_cases h0 : j = 0
 ·subst h0; simp
 ·rw [if_neg (by omega), if_neg (by omega), if_neg h0, show (l.1 + (j : Int) - l.1 - 1).toNat = j - 1 by omega]
def Gx4 (l : B7) (i : Int) : Prop := (-1 ≤ l.1 ∧ l.1 ≤ 2000000) ∧ l.2.2.1.length ≤ 1000 ∧ -1000000000 ≤ i ∧ i ≤ 1000000000
theorem Cj7 {l : B7} {i : Int} (h : Gx4 l i) (k : Nat) : Ar8 k l i = some (Bz1 l i) := by
 obtain ⟨⟨h1, h2⟩, h3, h4, h5⟩ := h
 unfold Ar8 Ac9 Bz1 Bz0
 rw [C6 (show -9223372036854775808 ≤ l.1 + (l.2.2.1.length : Int) by omega) (by omega)]
 by_cases q1 : i = l.1
 ·rw [if_pos q1, q1]; simp
 rw [if_neg q1, Am9 q1, br_false]
 by_cases q2 : i < l.1
 ·rw [decide_eq_true q2, if_pos (.inl q2)]; rfl
 rw [decide_eq_false q2, br_false, bd_some]
 by_cases q3 : i > l.1 + (l.2.2.1.length : Int)
 ·rw [decide_eq_true q3, if_pos (.inr q3)]; rfl
 rw [decide_eq_false q3, br_false, if_neg (by omega), C6 (show -9223372036854775808 ≤ i - l.1 by omega) (by omega), C6 (show -9223372036854775808 ≤ i - l.1 - 1 by omega) (by omega)]
 rw [decide_eq_true (by omega), decide_eq_true (by omega)]
 rfl
noncomputable def Gt3 (a b : B7) (v : Int) : Bool := decide (v < Bz0 a) && (decide (v < Bz0 b) && eqd (rd A8 a.2.2.1 (v - a.1).toNat) (rd A8 b.2.2.1 (v - b.1).toNat))
noncomputable def shN (a b : B7) : Nat → Int → Int
 | 0, v => v
 | f + 1, v => bif Gt3 a b v then shN a b f (v + 1) else v
noncomputable def shared (a b : B7) : Int := bif Ak3 a && Ak3 b then (let s := if b.1 > a.1 then b.1 else a.1; if Bz1 a s < 0 then -1 else if Bz1 a s = Bz1 b s then shN a b 200 s else -1) else -1
theorem Ak4 (x y : B2) : (x.1 == y.1 && (x.2.1 == y.2.1 && (x.2.2.1.toList == y.2.2.1.toList && true))) = eqd x y := by
 obtain ⟨x1, x2, x3, ⟨⟩⟩ := x
 obtain ⟨y1, y2, y3, ⟨⟩⟩ := y
 rw [Bool.eq_iff_iff, S9]
 simp only [b7]
 simp
theorem LogP.near {l : B7} (h : LogP l) {i : Int} (h1 : -1000000000 ≤ i) (h2 : i ≤ 1000000000) : Gx4 l i := ⟨⟨by have := h.1.1; omega, by have := h.1.2; omega⟩, by have := h.2.2.1; omega, h1, h2⟩
theorem B73 {l : B7} (h : LogP l) : ∀ i, i ≤ l.2.2.1.length → 0 ≤ M8 l i := fun i hi => by
 unfold M8
 by_cases h0 : i = 0
 ·rw [if_pos h0]; exact h.2.1.1
 ·rw [if_neg h0]
  have := (h.2.2.2.2 (i - 1) (by omega)).1
  exact (W8 this).1.1
theorem D92 {α : Type} (d : α) (xs : List α) (j i : Nat) : rd d (xs.drop j) i = rd d xs (j + i) := by simp [rd, List.getElem?_drop]
theorem Dh3 (l : B7) (j i : Nat) : M8 (l.1 + j, M8 l j, l.2.2.1.drop j, ()) i = M8 l (j + i) := by
 unfold M8
 by_cases h0 : i = 0
 ·subst h0; rw [if_pos rfl]; rfl
 ·rw [if_neg h0, if_neg (show j + i ≠ 0 by omega)]
  simp only [D92]
  rw [show j + (i - 1) = j + i - 1 by omega]
theorem Fz0 {l : B7} (h : LogP l) {j : Nat} (hj : j ≤ l.2.2.1.length) : LogP (l.1 + j, M8 l j, l.2.2.1.drop j, ()) := by
 have p1 := h.1; have p2 := h.2.1; have p3 := h.2.2.1; have p4 := h.2.2.2.1
 have h0 := B73 h j hj
 have hle : M8 l j ≤ 100000 := by
  unfold M8
  by_cases q : j = 0
  ·rw [if_pos q]; exact p2.2
  ·rw [if_neg q]
   exact (W8 (h.2.2.2.2 (j - 1) (by omega)).1).1.2
 refine ⟨⟨by simp only; omega, by simp only; omega⟩, ⟨h0, hle⟩, by simp; omega, by simp; omega, fun i hi => ?_⟩
 have hi' : j + i < l.2.2.1.length := by simp at hi; omega
 rw [Dh3]
 simp only [D92]
 exact h.2.2.2.2 (j + i) hi'
theorem Dp6 (a : List Int) (h : a.length ≤ 1048576) : Re (fun k => Am6 k a) (fun r => r.length = 12 ∧ ∀ x ∈ r, 0 ≤ x ∧ x < 10000) := by
 have hc : ∀ v : Int, Re (fun k => bd (X6 k (a, 0, v, ())) fun r1 => U2 k k 0 r1.2.1.1 r1.2.1.2.1 r1.2.1.2.2.1 []) (fun r => r.length = 12 ∧ ∀ x ∈ r, 0 ≤ x ∧ x < 10000) → True := fun _ _ => trivial
 have tail : ∀ c : A5, CurOk c → Re (fun x : Nat × Nat => U2 x.1 x.2 0 c.1 c.2.1 c.2.2.1 []) (fun r => r.length = 12 ∧ ∀ x ∈ r, 0 ≤ x ∧ x < 10000) := by
  intro c hc
  have := Re.loop (ι := Nat) (l := fun k n (s : A5 × List Int) => U2 k n (s.2.length : Int) s.1.1 s.1.2.1 s.1.2.2.1 s.2) (I := fun s => s.2.length ≤ 12 ∧ CurOk s.1 ∧ ∀ x ∈ s.2, 0 ≤ x ∧ x < 10000) (fun s => 12 - s.2.length) (Q := fun _ r => r.length = 12 ∧ ∀ x ∈ r, 0 ≤ x ∧ x < 10000) (fun s hi ih => by
   obtain ⟨c, xs⟩ := s
   obtain ⟨i1, i2, i3⟩ := hi
   simp only at i1 i2 i3 ih ⊢
   simp only [U2, Az1]
   refine Re.brd (fun q => ?_) (fun q => Re.ret ⟨by omega, i3⟩)
   refine Re.b2 (I7 _ 10000 i2.eta) fun r hr => Re.gdd (by simp [A2]; omega) ?_
   obtain ⟨⟨g1, g2⟩, g3⟩ := hr
   have e1 : B0 ((xs.length : Int) + 1) = ((xs.length + 1 : Nat) : Int) := by rw [C6 (by omega) (by omega)]; rfl
   rw [e1]
   have := ih (r.2.1, xs ++ [r.1]) ⟨by simp; omega, g3, fun x hx => by
    rcases List.mem_append.1 hx with hx | hx
    ·exact i3 x hx
    ·simp at hx; subst hx; omega⟩ (by simp; omega)
   simpa using this) (c, []) ⟨by simp, hc, fun x hx => by simp at hx⟩
  simpa using this
 refine Re.enter (f := fun k n => U3 k n a (B0 (13101 + (a.length : Int))) 0) J1 ?_
 have := Re.loop (ι := Nat) (l := fun k n (s : Int × Int) => U3 k n a s.1 s.2) (I := fun s => 0 ≤ s.2 ∧ s.2 ≤ a.length) (fun s => (a.length - s.2).toNat) (Q := fun _ r => r.length = 12 ∧ ∀ x ∈ r, 0 ≤ x ∧ x < 10000) (fun s hi ih => by
  obtain ⟨v1, v2⟩ := s
  simp only at hi
  simp only [U3, Az2]
  have hcur : CurOk (a, 0, v1, ()) := ⟨Int.le_refl 0, by show (0 : Int) ≤ _; omega, h⟩
  refine Re.brd (fun h1 => ?_) (fun h1 => Re.b2 (Bo2 _ hcur) fun r hr => tail _ hr.2)
  refine Re.brd (fun h2 => ?_) (fun h2 => Re.b2 (Bo2 _ hcur) fun r hr => tail _ hr.2)
  have e : B0 (v2 + 1) = v2 + 1 := C6 (by omega) (by omega)
  refine Re.gdd hi.1 (Re.gdd h1 ?_)
  rw [e]
  exact ih (_, v2 + 1) (by simp only; omega) (by simp only; omega)) (B0 (13101 + (a.length : Int)), 0) ⟨Int.le_refl 0, by simp only; omega⟩
 exact this
end Go.Vm
end
section
set_option linter.unusedVariables false
set_option linter.unusedSimpArgs false
namespace Go.Vm
open Go
theorem D24 (k : Nat) : ∀ n, R8 k n = S1 k n
 | 0 => rfl
 | n + 1 => by
  show (Al6 k (R8 k n).2, Al7 k (R8 k n).2 (R8 k n).1) = (Bn7 k (S1 k n).2, Bn8 k (S1 k n).2 (S1 k n).1)
  rw [D24 k n]; rfl
theorem Fd4 (k : Nat) (t : ByteArray) : Ci5 k t = Bm7 k t := by
 show bd ((S1 k k).1 4294967295 t 0) _ = bd ((R8 k k).1 4294967295 t 0) _
 rw [D24]
theorem F98 (t : ByteArray) (ht : t.size ≤ 1048576) : Re (fun k => Bm7 k t) (fun _ => True) := by
 refine Re.b1 (P := fun _ => True) ?_ fun v _ => Re.ret trivial
 refine Re.enter (f := fun k n => m9 k n 4294967295 t 0) J1 ?_
 have := Re.wf (l := fun k n (st : (Int × Nat) ⊕ (Int × Nat × Nat)) => match st with
  | .inl (a, i) => m9 k n a t (i : Int)
  | .inr (a, i, j) => Al8 k n a t (i : Int) (j : Int))
  (I := fun st => match st with
  | .inl (_, i) => i ≤ t.size
  | .inr (_, i, j) => i < t.size ∧ j ≤ 8)
  (fun st => match st with
  | .inl (_, i) => (t.size - i, 10)
  | .inr (_, i, j) => (t.size - i, 9 - j)) (Q := fun _ _ => True) (fun st hi ih => by
   rcases st with ⟨a, i⟩ | ⟨a, i, j⟩
   ·simp only at hi ih ⊢
    simp only [D82, Al6]
    refine Re.brd (fun h => Re.gdd (Int.natCast_nonneg _) (Re.gdd h ?_)) (fun h => Re.ret trivial)
    exact ih (.inr (_, i, 0)) ⟨by omega, by omega⟩ (.inr ⟨rfl, by simp only; omega⟩)
   ·obtain ⟨h1, h2⟩ := hi
    simp only at ih ⊢
    simp only [D83, Al7]
    have ej : B0 ((j : Int) + 1) = ((j + 1 : Nat) : Int) := by rw [C6 (by omega) (by omega)]; rfl
    have ei : B0 ((i : Int) + 1) = ((i + 1 : Nat) : Int) := by rw [C6 (by omega) (by omega)]; rfl
    refine Re.brd (fun h => Re.ng (F90 _) (Re.ng (F90 _) ?_)) (fun h => ?_)
    ·rw [ej]
     exact Re.brb (ih (.inr (_, i, j + 1)) ⟨h1, by omega⟩ (.inr ⟨rfl, by simp only; omega⟩)) (ih (.inr (_, i, j + 1)) ⟨h1, by omega⟩ (.inr ⟨rfl, by simp only; omega⟩))
    ·rw [ei]
     exact ih (.inl (a, i + 1)) (by simp only; omega) (.inl (by simp only; omega))) (.inl (4294967295, 0)) (Nat.zero_le _)
 exact this
noncomputable def Fz1 (t : ByteArray) : Int := @dite Int (t.size ≤ 1048576) (Classical.propDecidable _) (fun h => Classical.choose (F98 t h)) (fun _ => 0)
theorem F99 (t : ByteArray) (ht : t.size ≤ 1048576) : Ev (fun k => Bm7 k t) (Fz1 t) := by
 unfold Fz1
 rw [dif_pos ht]
 exact (Classical.choose_spec (F98 t ht)).2
def D25 (x : Int) : ByteArray := B6 [IntKind.wrap .u8 (Int.fdiv x (2 ^ 24)), IntKind.wrap .u8 (Int.fdiv x (2 ^ 16)), IntKind.wrap .u8 (Int.fdiv x (2 ^ 8)), IntKind.wrap .u8 x]
theorem As4 (x : Int) : (D25 x).size = 4 := by unfold D25; rw [D6]; rfl
noncomputable def G4 (t : ByteArray) : ByteArray := F1 (t.size : Int) ++ D25 (Fz1 t) ++ t
def Bs5 (t : ByteArray) : Prop := 1 ≤ t.size ∧ t.size ≤ 9000
theorem l7 (t : ByteArray) : (G4 t).size = (F1 (t.size : Int)).size + 4 + t.size := by unfold G4; rw [C8, C8, As4]
theorem Ai7 (t : ByteArray) (h : Bs5 t) : Ev (fun k => T4 k t) (G4 t, true) := by
 have hv := D2 (n := (t.size : Int)) (by have := h.2; omega)
 have h1 := h.1
 have h2 := h.2
 refine Ev.bd (.of (H9 · _ _ _)) ?_
 rw [D4.2 ⟨by omega, by omega⟩]
 refine Ev.bd (H2 _ (by omega) (by omega)) (Ev.bd (F99 t (by omega)) (Ev.bd (a := D25 (Fz1 t)) (.of fun _ => rfl) ?_))
 exact Ev.gd (decide_eq_true (by rw [As4]; unfold A2; omega)) (Ev.gd (decide_eq_true (by rw [C8, As4]; unfold A2; omega)) (.of fun _ => rfl))
theorem As5 (t : ByteArray) (h : Bs5 t) : Ev (fun k => o0 k t) (G4 t, true) := by
 have hv := D2 (n := (t.size : Int)) (by have := h.2; omega)
 have h1 := h.1
 have h2 := h.2
 refine Ev.bd (.of (N2 · _ _ _)) ?_
 rw [D4.2 ⟨by omega, by omega⟩]
 refine Ev.bd (Bo1 _) ?_
 rw [D86 (by omega) (by omega)]
 refine Ev.bd (((F99 t (by omega))).congr fun k => Fd4 k t) ?_
 exact Ev.gd (decide_eq_true (by show (F1 (t.size : Int)).size + (D25 (Fz1 t)).size ≤ A2; rw [As4]; unfold A2; omega)) (Ev.gd (decide_eq_true (by show (F1 (t.size : Int) ++ D25 (Fz1 t)).size + t.size ≤ A2; rw [C8, As4]; unfold A2; omega)) (.of fun _ => rfl))
noncomputable def B3 : List ByteArray → ByteArray
 | [] => ⟨#[]⟩
 | t :: r => G4 t ++ B3 r
theorem Bz2 (s : ByteArray) : (⟨#[]⟩ : ByteArray) ++ s = s := by apply Af3; simp
theorem N5 : ∀ a b, B3 (a ++ b) = B3 a ++ B3 b
 | [], b => by rw [List.nil_append, B3, Bz2]
 | t :: a, b => by rw [List.cons_append, B3, B3, N5 a b, ByteArray.append_assoc]
theorem l8 (t : ByteArray) : B3 [t] = G4 t := by rw [B3, B3, Dg3]
def Fd5 (j : ByteArray) : Prop := ∃ x, Bs5 x ∧ ∃ m, m < (G4 x).size ∧ j = (G4 x).extract 0 m
theorem Ep4 : Fd5 ⟨#[]⟩ := by
 refine ⟨⟨#[0]⟩, ⟨by decide, by decide⟩, 0, by rw [l7]; omega, ?_⟩
 apply Af3; simp
theorem o8 (a : ByteArray) (m : Nat) : D5 (a.extract 0 m) = (D5 a).take m := by rw [By8, List.drop_zero]
theorem Go2 (a s b : ByteArray) : z8 (a ++ (s ++ b)) a.size s := by
 unfold z8
 rw [N4, N4, ← E4 a, List.drop_left]
 exact List.prefix_append _ _
theorem Ga0 {f j : ByteArray} (hj : Fd5 j) {n : Int} (h0 : 0 ≤ n) (h : z8 (f ++ j) f.size (F1 n)) : (f.size : Int) + j.size < f.size + (F1 n).size + 4 + n := by
 obtain ⟨x, hx, m, hm, rfl⟩ := hj
 unfold z8 at h
 rw [N4, ← E4 f, List.drop_left, Ab5, o8] at h
 have h1 : varL n.toNat <+: D5 (G4 x) := h.trans (List.take_prefix _ _)
 have h2 : varL ((x.size : Int)).toNat <+: D5 (G4 x) := by
  unfold G4
  rw [ByteArray.append_assoc, N4, Ab5]
  exact List.prefix_append _ _
 have e := D19 (A48 _) (A48 _) h1 h2
 have e2 : n = (x.size : Int) := by
  have := congrArg dec e
  rw [Dg5, Dg5] at this
  omega
 subst e2
 rw [l7] at hm
 rw [ByteArray.size_extract]
 omega
end Go.Vm
end
section
set_option linter.unusedVariables false
set_option linter.unusedSimpArgs false
namespace Go.Vm
open Go
theorem Cj8 (file j : ByteArray) (hs : file.size ≤ 20000) (hj : Fd5 j) : ∀ (rest done : List ByteArray), (∀ t ∈ rest, Bs5 t) → file = B3 done ++ (B3 rest ++ j) → done.length + rest.length ≤ 20000 →
  (∃ K, ∀ k, K ≤ k → ∀ n, rest.length < n → n4 k n file ((B3 done).size : Int) done = some (done ++ rest, ((B3 (done ++ rest)).size : Int))) ∧
  (∃ K, ∀ k, K ≤ k → ∀ n, rest.length < n → o5 k n file ((B3 done).size : Int) done = some (done ++ rest, ((B3 (done ++ rest)).size : Int)))
 | [], done, _, hf, _ => by
  rw [B3, Bz2] at hf
  rw [List.append_nil]
  have hsz : file.size = (B3 done).size + j.size := by rw [hf, C8]
  obtain ⟨r, hr, ⟨K1, h1⟩, ⟨K2, h2⟩⟩ := Ce0 file (B3 done).size (by omega) (by omega)
  have key : r.2.2 = true → decide (r.1 > B0 (B0 ((file.size : Int) - r.2.1) - 4)) = true := fun ho => by
   obtain ⟨e1, e2, e3, e4, e5⟩ := hr.sound ho
   rw [hf] at e5
   have := Ga0 hj e1 e5
   have z : B0 ((file.size : Int) - (((B3 done).size + (F1 r.1).size : Nat) : Int)) = (file.size : Int) - (((B3 done).size + (F1 r.1).size : Nat) : Int) := C6 (by omega) (by omega)
   rw [e3, z, C6 (by omega) (by omega)]
   exact decide_eq_true (by omega)
  refine ⟨⟨K1, fun k hk n hn => ?_⟩, ⟨K2, fun k hk n hn => ?_⟩⟩
  ·obtain ⟨n, rfl⟩ : ∃ m, n = m + 1 := ⟨n - 1, by simp at hn; omega⟩
   show br (decide (((B3 done).size : Int) < (file.size : Int))) (bd (u0 k file ((B3 done).size : Int)) _) _ = _
   rw [show u0 k file ((B3 done).size : Int) = some r from h1 k hk, bd_some]
   cases decide (((B3 done).size : Int) < (file.size : Int)) with
   | false => rfl
   | true =>
    rw [br_true]
    cases ho : r.2.2 with
    | false => rfl
    | true => simp only [Bool.not_true, br_false, key ho, br_true]
  ·obtain ⟨n, rfl⟩ : ∃ m, n = m + 1 := ⟨n - 1, by simp at hn; omega⟩
   show bd (u5 k file ((B3 done).size : Int)) _ = _
   rw [show u5 k file ((B3 done).size : Int) = some r from h2 k hk, bd_some]
   cases ho : r.2.2 with
   | false => rfl
   | true => simp only [Bool.not_true, br_false, key ho, br_true]
 | t :: rest, done, hrec, hf, hlen => by
  have ht := hrec t List.mem_cons_self
  have t1 := ht.1
  have t2 := ht.2
  have hf2 : file = B3 done ++ (G4 t ++ (B3 rest ++ j)) := by rw [hf, B3, ByteArray.append_assoc]
  have hf3 : file = B3 (done ++ [t]) ++ (B3 rest ++ j) := by rw [hf2, N5, l8, ByteArray.append_assoc]
  obtain ⟨p, hp⟩ : ∃ p, p = (B3 done).size := ⟨_, rfl⟩
  obtain ⟨V, hV⟩ : ∃ V, V = (F1 (t.size : Int)).size := ⟨_, rfl⟩
  have hfs := l7 t
  rw [← hV] at hfs
  have hsz : file.size = p + (G4 t).size + (B3 rest ++ j).size := by rw [hf2, C8, C8, hp]; omega
  have hS : z8 file p (G4 t) := by rw [hf2, hp]; exact Go2 _ _ _
  have hS2 := hS
  unfold G4 at hS2
  obtain ⟨hS3, hSt⟩ := O6.1 hS2
  obtain ⟨hSv, hS4⟩ := O6.1 hS3
  rw [C8, As4, ← hV] at hSt
  have hx1 : file.extract (p + V + 4) (p + V + 4 + t.size) = t := by
   have := Ae1 hSt
   rwa [show p + (V + 4) = p + V + 4 by omega] at this
  have hx2 : file.extract p (p + V + 4 + t.size) = G4 t := by
   have := Ae1 hS
   rwa [hfs, show p + (V + 4 + t.size) = p + V + 4 + t.size by omega] at this
  obtain ⟨r, hr, ⟨K1, h1⟩, ⟨K2, h2⟩⟩ := Ce0 file p (by omega) (by omega)
  have hr := hr.full (t.size : Int) (by omega) (by omega) hSv
  subst hr
  rw [← hV] at h1 h2
  obtain ⟨K3, h3⟩ := Ai7 t ht
  obtain ⟨K4, h4⟩ := As5 t ht
  obtain ⟨⟨K5, h5⟩, ⟨K6, h6⟩⟩ := Cj8 file j hs hj rest (done ++ [t]) (fun u hu => hrec u (List.mem_cons_of_mem _ hu)) hf3 (by simp at hlen ⊢; omega)
  have hp2 : ((B3 (done ++ [t])).size : Int) = ((p + V + 4 + t.size : Nat) : Int) := by rw [N5, l8, C8, hfs, ← hp]; omega
  have e0 : B0 ((file.size : Int) - ((p + V : Nat) : Int)) = (file.size : Int) - ((p + V : Nat) : Int) := C6 (by omega) (by omega)
  have e1 : B0 ((B0 ((file.size : Int) - ((p + V : Nat) : Int))) - 4) = (file.size : Int) - ((p + V : Nat) : Int) - 4 := by rw [e0, C6 (by omega) (by omega)]
  have e2 : B0 (((p + V : Nat) : Int) + 4) = ((p + V + 4 : Nat) : Int) := by rw [C6 (by omega) (by omega)]; omega
  have e3 : B0 (((p + V + 4 : Nat) : Int) + (t.size : Int)) = ((p + V + 4 + t.size : Nat) : Int) := by rw [C6 (by omega) (by omega)]; omega
  have d1 : decide ((t.size : Int) > (file.size : Int) - ((p + V : Nat) : Int) - 4) = false := decide_eq_false (by omega)
  have d0 : decide ((p : Int) < (file.size : Int)) = true := decide_eq_true (by omega)
  have d2 : decide (0 ≤ ((p + V + 4 + t.size : Nat) : Int)) = true := decide_eq_true (Int.natCast_nonneg _)
  have d3 : decide (((p + V + 4 + t.size : Nat) : Int) ≤ (file.size : Int)) = true := decide_eq_true (by omega)
  have d4 : decide (0 ≤ ((p + V + 4 : Nat) : Int)) = true := decide_eq_true (Int.natCast_nonneg _)
  have d5 : decide (((p + V + 4 : Nat) : Int) ≤ ((p + V + 4 + t.size : Nat) : Int)) = true := decide_eq_true (by omega)
  have d6 : decide (0 ≤ (p : Int)) = true := decide_eq_true (Int.natCast_nonneg _)
  have d7 : decide ((p : Int) ≤ ((p + V + 4 + t.size : Nat) : Int)) = true := decide_eq_true (by omega)
  have d8 : decide (done.length + [t].length ≤ A2) = true := decide_eq_true (by simp at hlen ⊢; unfold A2; omega)
  refine ⟨⟨max K1 (max K3 K5), fun k hk n hn => ?_⟩, ⟨max K2 (max K4 K6), fun k hk n hn => ?_⟩⟩
  ·obtain ⟨n, rfl⟩ : ∃ m, n = m + 1 := ⟨n - 1, by simp at hn; omega⟩
   have g1 : u0 k file (p : Int) = some ((t.size : Int), ((p + V : Nat) : Int), true) := h1 k (by omega)
   have g3 : T4 k t = some (G4 t, true) := h3 k (by omega)
   have g5 := h5 k (by omega) n (by simp at hn; omega)
   rw [hp2] at g5
   rw [List.append_assoc, List.singleton_append] at g5
   rw [← hp]
   simp only [n4, Bm8, d0, br_true, g1, bd_some, Bool.not_true, br_false, e1, d1, e2, e3, d2, d3, d4, d5, gd_true, Int.toNat_natCast, hx1, g3, d6, d7, hx2, beq_self_eq_true, d8]
   exact g5
  ·obtain ⟨n, rfl⟩ : ∃ m, n = m + 1 := ⟨n - 1, by simp at hn; omega⟩
   have g2 : u5 k file (p : Int) = some ((t.size : Int), ((p + V : Nat) : Int), true) := h2 k (by omega)
   have g4 : o0 k t = some (G4 t, true) := h4 k (by omega)
   have g6 := h6 k (by omega) n (by simp at hn; omega)
   rw [hp2] at g6
   rw [List.append_assoc, List.singleton_append] at g6
   rw [← hp]
   simp only [o5, Bo0, br_true, g2, bd_some, Bool.not_true, br_false, e1, d1, e2, e3, d2, d3, d4, d5, gd_true, Int.toNat_natCast, hx1, g4, d6, d7, hx2, beq_self_eq_true, d8]
   exact g6
theorem Bb9 : ∀ rs, rs.length ≤ (B3 rs).size
 | [] => Nat.zero_le _
 | t :: r => by rw [B3, C8, l7, List.length_cons]; have := Bb9 r; omega
theorem Fd6 (rs : List ByteArray) (j : ByteArray) (hr : ∀ t ∈ rs, Bs5 t) (hj : Fd5 j) (hs : (B3 rs ++ j).size ≤ 20000) :
  Ev (fun k => Bh2 k (B3 rs ++ j)) (rs, ((B3 rs).size : Int)) ∧ Ev (fun k => Bh7 k (B3 rs ++ j)) (rs, ((B3 rs).size : Int)) := by
 have hl := Bb9 rs
 have hd : decide (((B3 rs ++ j).size : Int) > 20000) = false := decide_eq_false (by omega)
 obtain ⟨⟨K1, h1⟩, ⟨K2, h2⟩⟩ := Cj8 (B3 rs ++ j) j hs hj rs [] hr (by rw [B3, Bz2]) (by rw [C8] at hs; simp; omega)
 refine ⟨⟨max K1 (rs.length + 1), fun k hk => ?_⟩, ⟨max K2 (rs.length + 1), fun k hk => ?_⟩⟩
 ·show br (decide (((B3 rs ++ j).size : Int) > 20000)) _ (n4 k k (B3 rs ++ j) 0 []) = _
  rw [hd]
  exact h1 k (by omega) k (by omega)
 ·show br (decide (((B3 rs ++ j).size : Int) > 20000)) _ (o5 k k (B3 rs ++ j) 0 []) = _
  rw [hd]
  exact h2 k (by omega) k (by omega)
end Go.Vm
end
