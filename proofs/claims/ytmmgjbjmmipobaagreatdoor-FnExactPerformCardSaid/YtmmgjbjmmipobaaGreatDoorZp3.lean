/- What the functions compute. -/
import Derived.Test.YtmmgjbjmmipobaaGreatDoorZp2
set_option linter.all false
section
namespace Go.Vm
open Go
abbrev A7:Type:=Int×Int×ByteArray×Unit
def A3:A7:=(0,0,ByteArray.empty,())
abbrev A0:Type:=Int×Int×Int×Int×Int×List Int×ByteArray×List Int×Int×Unit
def A4:A0:=(0,0,0,0,0,[],ByteArray.empty,[],0,())
abbrev A1:Type:=Int×Int×Unit
def C0:A1:=(0,0,())
abbrev A6:Type:=List A0×List (List A1)×List Bool×Unit
abbrev C3:Type:=Int×Int×List Int×Unit
def C1:C3:=(0,0,[],())
abbrev B4:Type:=List A7×A6×List C3×Unit
abbrev B7:Type:=Int×Int×Int×A0×Int×Int×Unit
def Av8 (k:Nat) (a0:A7) (a1:Int):Option Int:=(br (decide ((B5 (a1- (a0.2.2.1.size:Int)))<0)) (some (-1)) (some (B5 (a1- (a0.2.2.1.size:Int)))))
noncomputable section
def B16 (k:Nat) (L0:List A7→Int→Int→Option Int) (a0:List A7) (v1:Int) (v2:Int):Option Int:=(br (decide (v2< (a0.length:Int))) (gd (decide (0≤v2)) (gd (decide (v2< (a0.length:Int))) (bd (Av8 k (rd A3 a0 v2.toNat) v1) λr1=> (br (decide (r1<0)) (some (-1)) (L0 a0 r1 (B5 (v2+1))))))) (some v1))
def Ag1 (k:Nat):Nat→List A7→Int→Int→Option Int
 |0,_,_,_=>none
 |n+1,a0,v1,v2=>B16 k (Ag1 k n) a0 v1 v2
def B63 (k:Nat) (L0:List A7→Int→Int→Option Int) (a0:List A7) (a1:Int):Option Int:=(br (decide ((B5 (a1- (a0.length:Int)))<0)) (some (-1)) (L0 a0 (B5 (a1- (a0.length:Int))) 0))
def Bp1 (k:Nat) (a0:List A7) (a1:Int):Option Int:=B63 k (Ag1 k k) a0 a1
end
def B64 (k:Nat) (a0:List Int) (a1:Int):Option Int:=(br (decide ((B5 (a1- (a0.length:Int)))<0)) (some (-1)) (some (B5 (a1- (a0.length:Int)))))
def A27 (k:Nat) (a0:A0) (a1:Int):Option Int:=(bd (B64 k a0.2.2.2.2.2.1 a1) λr1=> (br (decide (r1<0)) (some (-1)) (br (decide ((B5 (r1- (a0.2.2.2.2.2.2.1.size:Int)))<0)) (some (-1)) (bd (B64 k a0.2.2.2.2.2.2.2.1 (B5 (r1- (a0.2.2.2.2.2.2.1.size:Int)))) λr2=> (br (decide (r2<0)) (some (-1)) (some r2))))))
noncomputable section
def Cm7 (k:Nat) (L0:List A0→Int→Int→Option Int) (a0:List A0) (v1:Int) (v2:Int):Option Int:=(br (decide (v2< (a0.length:Int))) (gd (decide (0≤v2)) (gd (decide (v2< (a0.length:Int))) (bd (A27 k (rd A4 a0 v2.toNat) v1) λr1=> (br (decide (r1<0)) (some (-1)) (L0 a0 r1 (B5 (v2+1))))))) (some v1))
def At6 (k:Nat):Nat→List A0→Int→Int→Option Int
 |0,_,_,_=>none
 |n+1,a0,v1,v2=>Cm7 k (At6 k n) a0 v1 v2
def C18 (k:Nat) (L0:List A0→Int→Int→Option Int) (a0:List A0) (a1:Int):Option Int:=(br (decide ((B5 (a1- (a0.length:Int)))<0)) (some (-1)) (L0 a0 (B5 (a1- (a0.length:Int))) 0))
def Cu1 (k:Nat) (a0:List A0) (a1:Int):Option Int:=C18 k (At6 k k) a0 a1
end
def Ci6 (k:Nat) (a0:List A1) (a1:Int):Option Int:=(br (decide ((B5 (a1- (a0.length:Int)))<0)) (some (-1)) (some (B5 (a1- (a0.length:Int)))))
noncomputable section
def Cm8 (k:Nat) (L0:List (List A1)→Int→Int→Option Int) (a0:List (List A1)) (v1:Int) (v2:Int):Option Int:=(br (decide (v2< (a0.length:Int))) (gd (decide (0≤v2)) (gd (decide (v2< (a0.length:Int))) (bd (Ci6 k (rd [] a0 v2.toNat) v1) λr1=> (br (decide (r1<0)) (some (-1)) (L0 a0 r1 (B5 (v2+1))))))) (some v1))
def At7 (k:Nat):Nat→List (List A1)→Int→Int→Option Int
 |0,_,_,_=>none
 |n+1,a0,v1,v2=>Cm8 k (At7 k n) a0 v1 v2
def C19 (k:Nat) (L0:List (List A1)→Int→Int→Option Int) (a0:List (List A1)) (a1:Int):Option Int:=(br (decide ((B5 (a1- (a0.length:Int)))<0)) (some (-1)) (L0 a0 (B5 (a1- (a0.length:Int))) 0))
def Cu2 (k:Nat) (a0:List (List A1)) (a1:Int):Option Int:=C19 k (At7 k k) a0 a1
end
def Dh7 (k:Nat) (a0:List Bool) (a1:Int):Option Int:=(br (decide ((B5 (a1- (a0.length:Int)))<0)) (some (-1)) (some (B5 (a1- (a0.length:Int)))))
def C20 (k:Nat) (a0:A6) (a1:Int):Option Int:=(bd (Cu1 k a0.1 a1) λr1=> (br (decide (r1<0)) (some (-1)) (bd (Cu2 k a0.2.1 r1) λr2=> (br (decide (r2<0)) (some (-1)) (bd (Dh7 k a0.2.2.1 r2) λr3=> (br (decide (r3<0)) (some (-1)) (some r3)))))))
def C21 (k:Nat) (a0:C3) (a1:Int):Option Int:=(bd (B64 k a0.2.2.1 a1) λr1=> (br (decide (r1<0)) (some (-1)) (some r1)))
noncomputable section
def Dn0 (k:Nat) (L0:List C3→Int→Int→Option Int) (a0:List C3) (v1:Int) (v2:Int):Option Int:=(br (decide (v2< (a0.length:Int))) (gd (decide (0≤v2)) (gd (decide (v2< (a0.length:Int))) (bd (C21 k (rd C1 a0 v2.toNat) v1) λr1=> (br (decide (r1<0)) (some (-1)) (L0 a0 r1 (B5 (v2+1))))))) (some v1))
def A94 (k:Nat):Nat→List C3→Int→Int→Option Int
 |0,_,_,_=>none
 |n+1,a0,v1,v2=>Dn0 k (A94 k n) a0 v1 v2
def D71 (k:Nat) (L0:List C3→Int→Int→Option Int) (a0:List C3) (a1:Int):Option Int:=(br (decide ((B5 (a1- (a0.length:Int)))<0)) (some (-1)) (L0 a0 (B5 (a1- (a0.length:Int))) 0))
def D72 (k:Nat) (a0:List C3) (a1:Int):Option Int:=D71 k (A94 k k) a0 a1
end
def C22 (k:Nat) (a0:B4) (a1:Int):Option Int:=(bd (Bp1 k a0.1 a1) λr1=> (br (decide (r1<0)) (some (-1)) (bd (C20 k a0.2.1 r1) λr2=> (br (decide (r2<0)) (some (-1)) (bd (D72 k a0.2.2.1 r2) λr3=> (br (decide (r3<0)) (some (-1)) (some r3)))))))
def A95 (k:Nat) (a0:B7) (a1:Int):Option Int:=(bd (A27 k a0.2.2.2.1 a1) λr1=> (br (decide (r1<0)) (some (-1)) (some r1)))
def F9 (k:Nat) (a0:Int) (a1:Int) (a2:Int):Option Bool:=(br (decide (a0≥a1)) (some (decide (a0≤a2))) (some false))
noncomputable section
def Ak3 (k:Nat) (L0:List Int→Int→Option Bool) (a0:List Int) (v1:Int):Option Bool:=(br (decide (v1< (a0.length:Int))) (gd (decide (0≤v1)) (gd (decide (v1< (a0.length:Int))) (bd (F9 k (rd 0 a0 v1.toNat) 0 100) λr1=> (br (!r1) (some false) (L0 a0 (B5 (v1+1))))))) (some ((a0.length:Int)==5)))
def X9 (k:Nat):Nat→List Int→Int→Option Bool
 |0,_,_=>none
 |n+1,a0,v1=>Ak3 k (X9 k n) a0 v1
def Cm9 (k:Nat) (L0:List Int→Int→Option Bool) (a0:List Int):Option Bool:=(L0 a0 0)
def t8 (k:Nat) (a0:List Int):Option Bool:=Cm9 k (X9 k k) a0
end
def l6 (k:Nat) (a0:A0):Option Bool:=(bd (F9 k a0.2.1 1 5) λr1=> (br (!r1) (some false) (bd (F9 k a0.2.2.1 1 5) λr2=> (br (!r2) (some false) (br (a0.2.1==2) (bd (F9 k a0.2.2.2.1 1 5) λr3=> (br (!r3) (some false) (bd (F9 k a0.2.2.2.2.1 0 3) λr4=> (br (!r4) (some false) (br (a0.2.1 !=2) (br (a0.2.2.2.1 !=0) (some false) (br (a0.2.2.2.2.1 !=0) (some false) (br (a0.2.1==3) (bd (t8 k a0.2.2.2.2.2.1) λr5=> (br (!r5) (some false) (br (a0.2.1 !=3) (br (decide ((a0.2.2.2.2.2.1.length:Int)>0)) (some false) (br (a0.2.1==4) (some (decide ((a0.2.2.2.2.2.2.1.size:Int)≤24))) (br (a0.2.1==5) (some (decide ((a0.2.2.2.2.2.2.1.size:Int)≤24))) (some (a0.2.2.2.2.2.2.1.toList==(⟨#[]⟩:ByteArray).toList))))) (br (a0.2.1==4) (some (decide ((a0.2.2.2.2.2.2.1.size:Int)≤24))) (br (a0.2.1==5) (some (decide ((a0.2.2.2.2.2.2.1.size:Int)≤24))) (some (a0.2.2.2.2.2.2.1.toList==(⟨#[]⟩:ByteArray).toList))))))) (br (a0.2.1 !=3) (br (decide ((a0.2.2.2.2.2.1.length:Int)>0)) (some false) (br (a0.2.1==4) (some (decide ((a0.2.2.2.2.2.2.1.size:Int)≤24))) (br (a0.2.1==5) (some (decide ((a0.2.2.2.2.2.2.1.size:Int)≤24))) (some (a0.2.2.2.2.2.2.1.toList==(⟨#[]⟩:ByteArray).toList))))) (br (a0.2.1==4) (some (decide ((a0.2.2.2.2.2.2.1.size:Int)≤24))) (br (a0.2.1==5) (some (decide ((a0.2.2.2.2.2.2.1.size:Int)≤24))) (some (a0.2.2.2.2.2.2.1.toList==(⟨#[]⟩:ByteArray).toList)))))))) (br (a0.2.1==3) (bd (t8 k a0.2.2.2.2.2.1) λr6=> (br (!r6) (some false) (br (a0.2.1 !=3) (br (decide ((a0.2.2.2.2.2.1.length:Int)>0)) (some false) (br (a0.2.1==4) (some (decide ((a0.2.2.2.2.2.2.1.size:Int)≤24))) (br (a0.2.1==5) (some (decide ((a0.2.2.2.2.2.2.1.size:Int)≤24))) (some (a0.2.2.2.2.2.2.1.toList==(⟨#[]⟩:ByteArray).toList))))) (br (a0.2.1==4) (some (decide ((a0.2.2.2.2.2.2.1.size:Int)≤24))) (br (a0.2.1==5) (some (decide ((a0.2.2.2.2.2.2.1.size:Int)≤24))) (some (a0.2.2.2.2.2.2.1.toList==(⟨#[]⟩:ByteArray).toList))))))) (br (a0.2.1 !=3) (br (decide ((a0.2.2.2.2.2.1.length:Int)>0)) (some false) (br (a0.2.1==4) (some (decide ((a0.2.2.2.2.2.2.1.size:Int)≤24))) (br (a0.2.1==5) (some (decide ((a0.2.2.2.2.2.2.1.size:Int)≤24))) (some (a0.2.2.2.2.2.2.1.toList==(⟨#[]⟩:ByteArray).toList))))) (br (a0.2.1==4) (some (decide ((a0.2.2.2.2.2.2.1.size:Int)≤24))) (br (a0.2.1==5) (some (decide ((a0.2.2.2.2.2.2.1.size:Int)≤24))) (some (a0.2.2.2.2.2.2.1.toList==(⟨#[]⟩:ByteArray).toList))))))))))) (br (a0.2.1 !=2) (br (a0.2.2.2.1 !=0) (some false) (br (a0.2.2.2.2.1 !=0) (some false) (br (a0.2.1==3) (bd (t8 k a0.2.2.2.2.2.1) λr7=> (br (!r7) (some false) (br (a0.2.1 !=3) (br (decide ((a0.2.2.2.2.2.1.length:Int)>0)) (some false) (br (a0.2.1==4) (some (decide ((a0.2.2.2.2.2.2.1.size:Int)≤24))) (br (a0.2.1==5) (some (decide ((a0.2.2.2.2.2.2.1.size:Int)≤24))) (some (a0.2.2.2.2.2.2.1.toList==(⟨#[]⟩:ByteArray).toList))))) (br (a0.2.1==4) (some (decide ((a0.2.2.2.2.2.2.1.size:Int)≤24))) (br (a0.2.1==5) (some (decide ((a0.2.2.2.2.2.2.1.size:Int)≤24))) (some (a0.2.2.2.2.2.2.1.toList==(⟨#[]⟩:ByteArray).toList))))))) (br (a0.2.1 !=3) (br (decide ((a0.2.2.2.2.2.1.length:Int)>0)) (some false) (br (a0.2.1==4) (some (decide ((a0.2.2.2.2.2.2.1.size:Int)≤24))) (br (a0.2.1==5) (some (decide ((a0.2.2.2.2.2.2.1.size:Int)≤24))) (some (a0.2.2.2.2.2.2.1.toList==(⟨#[]⟩:ByteArray).toList))))) (br (a0.2.1==4) (some (decide ((a0.2.2.2.2.2.2.1.size:Int)≤24))) (br (a0.2.1==5) (some (decide ((a0.2.2.2.2.2.2.1.size:Int)≤24))) (some (a0.2.2.2.2.2.2.1.toList==(⟨#[]⟩:ByteArray).toList)))))))) (br (a0.2.1==3) (bd (t8 k a0.2.2.2.2.2.1) λr8=> (br (!r8) (some false) (br (a0.2.1 !=3) (br (decide ((a0.2.2.2.2.2.1.length:Int)>0)) (some false) (br (a0.2.1==4) (some (decide ((a0.2.2.2.2.2.2.1.size:Int)≤24))) (br (a0.2.1==5) (some (decide ((a0.2.2.2.2.2.2.1.size:Int)≤24))) (some (a0.2.2.2.2.2.2.1.toList==(⟨#[]⟩:ByteArray).toList))))) (br (a0.2.1==4) (some (decide ((a0.2.2.2.2.2.2.1.size:Int)≤24))) (br (a0.2.1==5) (some (decide ((a0.2.2.2.2.2.2.1.size:Int)≤24))) (some (a0.2.2.2.2.2.2.1.toList==(⟨#[]⟩:ByteArray).toList))))))) (br (a0.2.1 !=3) (br (decide ((a0.2.2.2.2.2.1.length:Int)>0)) (some false) (br (a0.2.1==4) (some (decide ((a0.2.2.2.2.2.2.1.size:Int)≤24))) (br (a0.2.1==5) (some (decide ((a0.2.2.2.2.2.2.1.size:Int)≤24))) (some (a0.2.2.2.2.2.2.1.toList==(⟨#[]⟩:ByteArray).toList))))) (br (a0.2.1==4) (some (decide ((a0.2.2.2.2.2.2.1.size:Int)≤24))) (br (a0.2.1==5) (some (decide ((a0.2.2.2.2.2.2.1.size:Int)≤24))) (some (a0.2.2.2.2.2.2.1.toList==(⟨#[]⟩:ByteArray).toList))))))))))))
noncomputable section
def Az4 (k:Nat) (L0:Int→A0→Option Bool) (v1:Int) (a0:A0):Option Bool:=(br (decide (v1< (a0.2.2.2.2.2.2.2.1.length:Int))) (gd (decide (0≤v1)) (gd (decide (v1< (a0.2.2.2.2.2.2.2.1.length:Int))) (bd (F9 k (rd 0 a0.2.2.2.2.2.2.2.1 v1.toNat) 1 1000000) λr4=> (br (!r4) (some false) (gd (decide (0≤v1)) (gd (decide (v1< (a0.2.2.2.2.2.2.2.1.length:Int))) (br ((rd 0 a0.2.2.2.2.2.2.2.1 v1.toNat)==a0.1) (some false) (br (decide (v1>0)) (gd (decide (0≤(B5 (v1-1)))) (gd (decide ((B5 (v1-1))< (a0.2.2.2.2.2.2.2.1.length:Int))) (gd (decide (0≤v1)) (gd (decide (v1< (a0.2.2.2.2.2.2.2.1.length:Int))) (br (decide ((rd 0 a0.2.2.2.2.2.2.2.1 (B5 (v1-1)).toNat)≥(rd 0 a0.2.2.2.2.2.2.2.1 v1.toNat))) (some false) (L0 (B5 (v1+1)) a0)))))) (L0 (B5 (v1+1)) a0))))))))) (some true))
def V6 (k:Nat):Nat→Int→A0→Option Bool
 |0,_,_=>none
 |n+1,v1,a0=>Az4 k (V6 k n) v1 a0
def B65 (k:Nat) (L0:Int→A0→Option Bool) (a0:A0):Option Bool:=(bd (l6 k a0) λr1=> (br (!r1) (some false) (bd (F9 k a0.1 1 1000000) λr2=> (br (!r2) (some false) (bd (F9 k a0.2.2.2.2.2.2.2.2.1 0 1000000) λr3=> (br (!r3) (some false) (br (decide ((a0.2.2.2.2.2.2.2.1.length:Int)>3)) (some false) (br (!((a0.2.1==1)==((a0.2.2.2.2.2.2.2.1.length:Int)==0))) (some false) (L0 0 a0)))))))))
def Y0 (k:Nat) (a0:A0):Option Bool:=B65 k (V6 k k) a0
end
noncomputable section
def A96 (k:Nat) (L0:Int→Int→A6→Option Int) (a1:Int) (v1:Int) (a0:A6):Option Int:=(br (decide (v1< (a0.1.length:Int))) (gd (decide (0≤v1)) (gd (decide (v1< (a0.1.length:Int))) (br ((rd A4 a0.1 v1.toNat).1==a1) (some v1) (L0 a1 (B5 (v1+1)) a0)))) (some (-1)))
def Ah4 (k:Nat):Nat→Int→Int→A6→Option Int
 |0,_,_,_=>none
 |n+1,a1,v1,a0=>A96 k (Ah4 k n) a1 v1 a0
def D73 (k:Nat) (L0:Int→Int→A6→Option Int) (a0:A6) (a1:Int):Option Int:=(L0 a1 0 a0)
def B66 (k:Nat) (a0:A6) (a1:Int):Option Int:=D73 k (Ah4 k k) a0 a1
end
noncomputable section
def Az5 (k:Nat) (L0:List A0→Int→Int→Option (A0×Bool)) (a0:List A0) (a1:Int) (v1:Int):Option (A0×Bool):=(br (decide (v1< (a0.length:Int))) (gd (decide (0≤v1)) (gd (decide (v1< (a0.length:Int))) (br ((rd A4 a0 v1.toNat).1==a1) (gd (decide (0≤v1)) (gd (decide (v1< (a0.length:Int))) (some ((rd A4 a0 v1.toNat),true)))) (L0 a0 a1 (B5 (v1+1)))))) (some ((0,0,0,0,0,[],ByteArray.empty,[],0,()),false)))
def Ab0 (k:Nat):Nat→List A0→Int→Int→Option (A0×Bool)
 |0,_,_,_=>none
 |n+1,a0,a1,v1=>Az5 k (Ab0 k n) a0 a1 v1
def Dn1 (k:Nat) (L0:List A0→Int→Int→Option (A0×Bool)) (a0:List A0) (a1:Int):Option (A0×Bool):=(L0 a0 a1 0)
def O0 (k:Nat) (a0:List A0) (a1:Int):Option (A0×Bool):=Dn1 k (Ab0 k k) a0 a1
end
noncomputable section
def D19 (k:Nat) (L0:List A1→Int→Int→Option Int) (a0:List A1) (a1:Int) (v1:Int):Option Int:=(br (decide (v1< (a0.length:Int))) (gd (decide (0≤v1)) (gd (decide (v1< (a0.length:Int))) (br ((rd C0 a0 v1.toNat).1==a1) (gd (decide (0≤v1)) (gd (decide (v1< (a0.length:Int))) (some (rd C0 a0 v1.toNat).2.1))) (L0 a0 a1 (B5 (v1+1)))))) (some 0))
def Ci7 (k:Nat):Nat→List A1→Int→Int→Option Int
 |0,_,_,_=>none
 |n+1,a0,a1,v1=>D19 k (Ci7 k n) a0 a1 v1
def Gg9 (k:Nat) (L0:List A1→Int→Int→Option Int) (a0:List A1) (a1:Int):Option Int:=(L0 a0 a1 0)
def C23 (k:Nat) (a0:List A1) (a1:Int):Option Int:=Gg9 k (Ci7 k k) a0 a1
end
def W9 (k:Nat) (a0:List A0) (a1:List A1) (a2:Int):Option Int:=(bd (F9 k a2 1 5) λr1=> (br (!r1) (some 0) (bd (C23 k a1 (B5 (10+a2))) λr2=> (bd (O0 k a0 r2) λr3=> (br (!r3.2) (some 0) (br (r3.1.2.1 !=2) (some 0) (br (r3.1.2.2.2.1 !=a2) (some 0) (some r3.1.2.2.2.2.1))))))))
def l7 (k:Nat) (a0:List A0) (a1:List A1) (a2:Int):Option Int:=(bd (F9 k a2 1 5) λr1=> (br (!r1) (some 0) (bd (C23 k a1 2) λr2=> (bd (O0 k a0 r2) λr3=> (br r3.2 (br (r3.1.2.1==3) (br ((r3.1.2.2.2.2.2.1.length:Int)==5) (gd (decide (0≤(B5 (a2-1)))) (gd (decide ((B5 (a2-1))< (r3.1.2.2.2.2.2.1.length:Int))) (some (rd 0 r3.1.2.2.2.2.2.1 (B5 (a2-1)).toNat)))) (bd (C23 k a1 1) λr4=> (bd (O0 k a0 r4) λr5=> (br r5.2 (br (r5.1.2.1==1) (br (r5.1.2.2.1==a2) (some 100) (some 0)) (some 0)) (some 0))))) (bd (C23 k a1 1) λr6=> (bd (O0 k a0 r6) λr7=> (br r7.2 (br (r7.1.2.1==1) (br (r7.1.2.2.1==a2) (some 100) (some 0)) (some 0)) (some 0))))) (bd (C23 k a1 1) λr8=> (bd (O0 k a0 r8) λr9=> (br r9.2 (br (r9.1.2.1==1) (br (r9.1.2.2.1==a2) (some 100) (some 0)) (some 0)) (some 0)))))))))
noncomputable section
def At8 (k:Nat) (L0:List A1→Int→Option Bool) (a0:List A1) (v1:Int):Option Bool:=(br (decide (v1< (a0.length:Int))) (gd (decide (0≤v1)) (gd (decide (v1< (a0.length:Int))) (br (decide ((rd C0 a0 v1.toNat).1>10)) (some false) (L0 a0 (B5 (v1+1)))))) (some true))
def l8 (k:Nat):Nat→List A1→Int→Option Bool
 |0,_,_=>none
 |n+1,a0,v1=>At8 k (l8 k n) a0 v1
def C24 (k:Nat) (L0:List A1→Int→Option Bool) (a0:List A1):Option Bool:=(L0 a0 0)
def Cu3 (k:Nat) (a0:List A1):Option Bool:=C24 k (l8 k k) a0
end
def Dh8 (k:Nat) (a0:List A0) (a1:List A1) (a2:A0):Option Bool:=(bd (W9 k a0 a1 a2.2.2.2.1) λr1=> (br (a2.2.2.2.2.1==2) (bd (C23 k a1 1) λr2=> (bd (O0 k a0 r2) λr3=> (br r3.2 (br (r3.1.2.2.1==a2.2.2.1) (bd (Cu3 k a1) λr4=> (br (r1==1) (some true) (br (r1==2) (some true) (some r4)))) (br (r1==1) (some true) (br (r1==2) (some true) (some false)))) (br (r1==1) (some true) (br (r1==2) (some true) (some false)))))) (br (a2.2.2.2.2.1==0) (br (r1==1) (some true) (some (r1==2))) (some false))))
def A97 (k:Nat) (a0:List A0) (a1:List A1) (a2:A0):Option Bool:=(br (a2.2.2.2.1==a2.2.2.1) (bd (Dh8 k a0 a1 a2) λr1=> (some r1)) (bd (W9 k a0 a1 a2.2.2.2.1) λr2=> (bd (l7 k a0 a1 a2.2.2.1) λr3=> (br (decide (r3≥50)) (bd (l7 k a0 a1 a2.2.2.2.1) λr4=> (bd (W9 k a0 a1 a2.2.2.1) λr5=> (br (r5 !=2) (some false) (br (a2.2.2.2.2.1==1) (some (r2==0)) (br (a2.2.2.2.2.1==0) (br (r2==1) (some (decide (r3>r4))) (br (r2==2) (some (decide (r3>r4))) (some false))) (br (a2.2.2.2.2.1==3) (br (r2 !=3) (some (decide (r3>r4))) (some false)) (some false))))))) (bd (W9 k a0 a1 a2.2.2.1) λr6=> (br (r6 !=2) (some false) (br (a2.2.2.2.2.1==1) (some (r2==0)) (br (a2.2.2.2.2.1==0) (br (r2==1) (some false) (br (r2==2) (some false) (some false))) (br (a2.2.2.2.2.1==3) (br (r2 !=3) (some false) (some false)) (some false))))))))))
noncomputable section
def Be6 (k:Nat) (L0:List A0→List A1→Int→Int→A0→Option Bool) (a0:List A0) (a1:List A1) (r1:Int) (v1:Int) (a2:A0):Option Bool:=(br (decide (v1≤5)) (bd (l7 k a0 a1 v1) λr3=> (gd (decide (0≤(B5 (v1-1)))) (gd (decide ((B5 (v1-1))< (a2.2.2.2.2.2.1.length:Int))) (br ((rd 0 a2.2.2.2.2.2.1 (B5 (v1-1)).toNat)==r3) (L0 a0 a1 r1 (B5 (v1+1)) a2) (br (decide ((rd 0 a2.2.2.2.2.2.1 (B5 (v1-1)).toNat)>r1)) (some false) (br (decide (r3≥r1)) (br (v1 !=a2.2.2.1) (some false) (L0 a0 a1 r1 (B5 (v1+1)) a2)) (L0 a0 a1 r1 (B5 (v1+1)) a2))))))) (some true))
def X0 (k:Nat):Nat→List A0→List A1→Int→Int→A0→Option Bool
 |0,_,_,_,_,_=>none
 |n+1,a0,a1,r1,v1,a2=>Be6 k (X0 k n) a0 a1 r1 v1 a2
def C25 (k:Nat) (L0:List A0→List A1→Int→Int→A0→Option Bool) (a0:List A0) (a1:List A1) (a2:A0):Option Bool:=(bd (l7 k a0 a1 a2.2.2.1) λr1=> (bd (W9 k a0 a1 a2.2.2.1) λr2=> (br (r2 !=2) (some false) (br (decide (r1<50)) (some false) (L0 a0 a1 r1 1 a2)))))
def Cu4 (k:Nat) (a0:List A0) (a1:List A1) (a2:A0):Option Bool:=C25 k (X0 k k) a0 a1 a2
end
def Ci8 (k:Nat) (a0:List A0) (a1:List A1) (a2:A0):Option Bool:=(bd (Y0 k a2) λr1=> (br (!r1) (some false) (br (a2.2.1==1) (some ((a1.length:Int)==0)) (bd (C23 k a1 1) λr2=> (bd (O0 k a0 r2) λr3=> (br (!r3.2) (some false) (br (r3.1.2.1 !=1) (some false) (br (a2.2.1==2) (bd (A97 k a0 a1 a2) λr4=> (some r4)) (br (a2.2.1==3) (bd (Cu4 k a0 a1 a2) λr5=> (some r5)) (br (a2.2.1==4) (bd (W9 k a0 a1 a2.2.2.1) λr6=> (br (r6==2) (bd (l7 k a0 a1 a2.2.2.1) λr7=> (some (decide (r7≥50)))) (some false))) (bd (W9 k a0 a1 a2.2.2.1) λr8=> (some (r8==2)))))))))))))
def Bp2 (k:Nat) (a0:A0):Option Int:=(br (a0.2.1==1) (some 1) (br (a0.2.1==3) (some 2) (br (a0.2.1==4) (some 3) (br (a0.2.1==2) (bd (F9 k a0.2.2.2.1 1 5) λr1=> (br r1 (some (B5 (10+a0.2.2.2.1))) (some 0))) (some 0)))))
def C26 (k:Nat) (a0:Int):Option Bool:=(bd (F9 k a0 1 3) λr1=> (br r1 (some true) (bd (F9 k a0 11 15) λr2=> (some r2))))
noncomputable section
def Bp3 (k:Nat) (L0:List A1→Int→Option Bool) (a0:List A1) (v1:Int):Option Bool:=(br (decide (v1< (a0.length:Int))) (gd (decide (0≤v1)) (gd (decide (v1< (a0.length:Int))) (bd (C26 k (rd C0 a0 v1.toNat).1) λr1=> (br (!r1) (some false) (gd (decide (0≤v1)) (gd (decide (v1< (a0.length:Int))) (bd (F9 k (rd C0 a0 v1.toNat).2.1 1 1000000) λr2=> (br (!r2) (some false) (br (decide (v1>0)) (gd (decide (0≤(B5 (v1-1)))) (gd (decide ((B5 (v1-1))< (a0.length:Int))) (gd (decide (0≤v1)) (gd (decide (v1< (a0.length:Int))) (br (decide ((rd C0 a0 (B5 (v1-1)).toNat).1≥(rd C0 a0 v1.toNat).1)) (some false) (L0 a0 (B5 (v1+1)))))))) (L0 a0 (B5 (v1+1)))))))))))) (some true))
def a8 (k:Nat):Nat→List A1→Int→Option Bool
 |0,_,_=>none
 |n+1,a0,v1=>Bp3 k (a8 k n) a0 v1
def Dn2 (k:Nat) (L0:List A1→Int→Option Bool) (a0:List A1):Option Bool:=(br (decide ((a0.length:Int)>8)) (some false) (L0 a0 0))
def Ci9 (k:Nat) (a0:List A1):Option Bool:=Dn2 k (a8 k k) a0
end
noncomputable section
def D74 (k:Nat) (L1:List A1→Int→Int→List A1→Option (List A1)) (a0:List A1) (a1:Int) (v3:Int) (xs4:List A1):Option (List A1):=(br (decide (v3< (a0.length:Int))) (gd (decide (0≤v3)) (gd (decide (v3< (a0.length:Int))) (br (decide ((rd C0 a0 v3.toNat).1>a1)) (gd (decide (0≤v3)) (gd (decide (v3< (a0.length:Int))) (gd (decide (xs4.length+([(rd C0 a0 v3.toNat)]:List A1).length≤A5)) (L1 a0 a1 (B5 (v3+1)) (xs4++([(rd C0 a0 v3.toNat)]:List A1)))))) (L1 a0 a1 (B5 (v3+1)) xs4)))) (bd (Ci9 k a0) λr1=> (br (!r1) (gd (decide (([]:List A1).length+a0.length≤A5)) (some (([]:List A1)++a0))) (bd (Ci9 k xs4) λr2=> (br (!r2) (gd (decide (([]:List A1).length+a0.length≤A5)) (some (([]:List A1)++a0))) (some xs4))))))
def D75 (k:Nat) (L0:List A1→Int→Int→Int→List A1→Option (List A1)) (L1:List A1→Int→Int→List A1→Option (List A1)) (a0:List A1) (a1:Int) (a2:Int) (v1:Int) (xs2:List A1):Option (List A1):=(br (decide (v1< (a0.length:Int))) (gd (decide (0≤v1)) (gd (decide (v1< (a0.length:Int))) (br (decide ((rd C0 a0 v1.toNat).1<a1)) (gd (decide (0≤v1)) (gd (decide (v1< (a0.length:Int))) (gd (decide (xs2.length+([(rd C0 a0 v1.toNat)]:List A1).length≤A5)) (L0 a0 a1 a2 (B5 (v1+1)) (xs2++([(rd C0 a0 v1.toNat)]:List A1)))))) (L0 a0 a1 a2 (B5 (v1+1)) xs2)))) (gd (decide (xs2.length+([(a1,a2,())]:List A1).length≤A5)) (L1 a0 a1 0 (xs2++([(a1,a2,())]:List A1)))))
def B67 (k:Nat):Nat→List A1→Int→Int→List A1→Option (List A1)
 |0,_,_,_,_=>none
 |n+1,a0,a1,v3,xs4=>D74 k (B67 k n) a0 a1 v3 xs4
def Bk0 (k:Nat):Nat→List A1→Int→Int→Int→List A1→Option (List A1)
 |0,_,_,_,_,_=>none
 |n+1,a0,a1,a2,v1,xs2=>D75 k (Bk0 k n) (B67 k n) a0 a1 a2 v1 xs2
def F13 (k:Nat) (L0:List A1→Int→Int→Int→List A1→Option (List A1)) (a0:List A1) (a1:Int) (a2:Int):Option (List A1):=(L0 a0 a1 a2 0 ([]:List A1))
def F14 (k:Nat) (a0:List A1) (a1:Int) (a2:Int):Option (List A1):=F13 k (Bk0 k k) a0 a1 a2
end
noncomputable section
def Az6 (k:Nat) (L1:List (List A1)→Int→Bool→Int→List Int→Option (List Int)) (a0:List (List A1)) (v1:Int) (xs2:List Int):Option (List Int):=(br (decide (v1≤15)) (L1 a0 v1 false 0 xs2) (some xs2))
def Az7 (k:Nat) (L2:List (List A1)→Int→Bool→Int→Int→List Int→Option (List Int)) (L0:List (List A1)→Int→List Int→Option (List Int)) (a0:List (List A1)) (v1:Int) (v3:Bool) (v4:Int) (xs2:List Int):Option (List Int):=(br (decide (v4< (a0.length:Int))) (L2 a0 v1 v3 v4 0 xs2) (br v3 (gd (decide (xs2.length+ [v1].length≤A5)) (L0 a0 (B5 (v1+1)) (xs2++ [v1]))) (L0 a0 (B5 (v1+1)) xs2)))
def Az8 (k:Nat) (L2:List (List A1)→Int→Bool→Int→Int→List Int→Option (List Int)) (L1:List (List A1)→Int→Bool→Int→List Int→Option (List Int)) (a0:List (List A1)) (v1:Int) (v5:Bool) (v4:Int) (v6:Int) (xs2:List Int):Option (List Int):=(gd (decide (0≤v4)) (gd (decide (v4< (a0.length:Int))) (br (decide (v6< (((rd [] a0 v4.toNat).length:Nat):Int))) (br v5 (L2 a0 v1 true v4 (B5 (v6+1)) xs2) (gd (decide (0≤v4)) (gd (decide (v4< (a0.length:Int))) (gd (decide (0≤v6)) (gd (decide (v6< (((rd [] a0 v4.toNat).length:Nat):Int))) (L2 a0 v1 ((rd C0 (rd [] a0 v4.toNat) v6.toNat).1==v1) v4 (B5 (v6+1)) xs2)))))) (L1 a0 v1 v5 (B5 (v4+1)) xs2))))
def V7 (k:Nat):Nat→(List (List A1)→Int→List Int→Option (List Int))×(List (List A1)→Int→Bool→Int→List Int→Option (List Int))×(List (List A1)→Int→Bool→Int→Int→List Int→Option (List Int))
 |0=> (λ_ _ _=>none,λ_ _ _ _ _=>none,λ_ _ _ _ _ _=>none)
 |n+1=> (Az6 k (V7 k n).2.1,Az7 k (V7 k n).2.2 (V7 k n).1,Az8 k (V7 k n).2.2 (V7 k n).2.1)
def Ab1 (k:Nat) (n:Nat):List (List A1)→Int→List Int→Option (List Int):=(V7 k n).1
def Ak4 (k:Nat) (n:Nat):List (List A1)→Int→Bool→Int→List Int→Option (List Int):=(V7 k n).2.1
def Ak5 (k:Nat) (n:Nat):List (List A1)→Int→Bool→Int→Int→List Int→Option (List Int):=(V7 k n).2.2
theorem Ez5 (k:Nat) (n:Nat) (a0:List (List A1)) (v1:Int) (xs2:List Int):Ab1 k (n+1) a0 v1 xs2=Az6 k (Ak4 k n) a0 v1 xs2:=rfl
theorem Ez6 (k:Nat) (n:Nat) (a0:List (List A1)) (v1:Int) (v3:Bool) (v4:Int) (xs2:List Int):Ak4 k (n+1) a0 v1 v3 v4 xs2=Az7 k (Ak5 k n) (Ab1 k n) a0 v1 v3 v4 xs2:=rfl
theorem Ez7 (k:Nat) (n:Nat) (a0:List (List A1)) (v1:Int) (v5:Bool) (v4:Int) (v6:Int) (xs2:List Int):Ak5 k (n+1) a0 v1 v5 v4 v6 xs2=Az8 k (Ak5 k n) (Ak4 k n) a0 v1 v5 v4 v6 xs2:=rfl
def Dn3 (k:Nat) (L0:List (List A1)→Int→List Int→Option (List Int)) (a0:List (List A1)):Option (List Int):=(L0 a0 0 [])
def Cj0 (k:Nat) (a0:List (List A1)):Option (List Int):=Dn3 k (Ab1 k k) a0
end
noncomputable section
def Be7 (k:Nat) (L0:List (List A1)→Int→Int→Option Bool) (a0:List (List A1)) (a1:Int) (v1:Int):Option Bool:=(br (decide (v1< (a0.length:Int))) (gd (decide (0≤v1)) (gd (decide (v1< (a0.length:Int))) (bd (C23 k (rd [] a0 v1.toNat) a1) λr1=> (gd (decide (0< (a0.length:Int))) (bd (C23 k (rd [] a0 0) a1) λr2=> (br (r1 !=r2) (some false) (L0 a0 a1 (B5 (v1+1))))))))) (some true))
def l9 (k:Nat):Nat→List (List A1)→Int→Int→Option Bool
 |0,_,_,_=>none
 |n+1,a0,a1,v1=>Be7 k (l9 k n) a0 a1 v1
def C27 (k:Nat) (L0:List (List A1)→Int→Int→Option Bool) (a0:List (List A1)) (a1:Int):Option Bool:=(L0 a0 a1 1)
def Bp4 (k:Nat) (a0:List (List A1)) (a1:Int):Option Bool:=C27 k (l9 k k) a0 a1
end
noncomputable section
def B68 (k:Nat) (L0:List (List A1)→Int→List A1→List Int→Option (List A1)) (a0:List (List A1)) (v1:Int) (xs2:List A1) (r1:List Int):Option (List A1):=(br (decide (v1< (r1.length:Int))) (gd (decide (0≤v1)) (gd (decide (v1< (r1.length:Int))) (bd (Bp4 k a0 (rd 0 r1 v1.toNat)) λr2=> (br r2 (gd (decide (0≤v1)) (gd (decide (v1< (r1.length:Int))) (gd (decide (0< (a0.length:Int))) (gd (decide (0≤v1)) (gd (decide (v1< (r1.length:Int))) (bd (C23 k (rd [] a0 0) (rd 0 r1 v1.toNat)) λr3=> (gd (decide (xs2.length+([((rd 0 r1 v1.toNat),r3,())]:List A1).length≤A5)) (L0 a0 (B5 (v1+1)) (xs2++([((rd 0 r1 v1.toNat),r3,())]:List A1)) r1)))))))) (L0 a0 (B5 (v1+1)) xs2 r1))))) (some xs2))
def Ah5 (k:Nat):Nat→List (List A1)→Int→List A1→List Int→Option (List A1)
 |0,_,_,_,_=>none
 |n+1,a0,v1,xs2,r1=>B68 k (Ah5 k n) a0 v1 xs2 r1
def D76 (k:Nat) (L0:List (List A1)→Int→List A1→List Int→Option (List A1)) (a0:List (List A1)):Option (List A1):=(bd (Cj0 k a0) λr1=> (L0 a0 0 ([]:List A1) r1))
def C28 (k:Nat) (a0:List (List A1)):Option (List A1):=D76 k (Ah5 k k) a0
end
noncomputable section
def Cu5 (k:Nat) (L0:List (List A1)→Int→List Int→List Int→Option (List Int)) (a0:List (List A1)) (v1:Int) (xs2:List Int) (r1:List Int):Option (List Int):=(br (decide (v1< (r1.length:Int))) (gd (decide (0≤v1)) (gd (decide (v1< (r1.length:Int))) (bd (Bp4 k a0 (rd 0 r1 v1.toNat)) λr2=> (br (!r2) (gd (decide (0≤v1)) (gd (decide (v1< (r1.length:Int))) (gd (decide (xs2.length+ [(rd 0 r1 v1.toNat)].length≤A5)) (L0 a0 (B5 (v1+1)) (xs2++ [(rd 0 r1 v1.toNat)]) r1)))) (L0 a0 (B5 (v1+1)) xs2 r1))))) (some xs2))
def Ap8 (k:Nat):Nat→List (List A1)→Int→List Int→List Int→Option (List Int)
 |0,_,_,_,_=>none
 |n+1,a0,v1,xs2,r1=>Cu5 k (Ap8 k n) a0 v1 xs2 r1
def Es9 (k:Nat) (L0:List (List A1)→Int→List Int→List Int→Option (List Int)) (a0:List (List A1)):Option (List Int):=(bd (Cj0 k a0) λr1=> (L0 a0 0 [] r1))
def Ez8 (k:Nat) (a0:List (List A1)):Option (List Int):=Es9 k (Ap8 k k) a0
end
noncomputable section
def Cu6 (k:Nat) (L0:List Int→Int→Int→Option Bool) (a0:List Int) (a1:Int) (v1:Int):Option Bool:=(br (decide (v1< (a0.length:Int))) (gd (decide (0≤v1)) (gd (decide (v1< (a0.length:Int))) (br ((rd 0 a0 v1.toNat)==a1) (some true) (L0 a0 a1 (B5 (v1+1)))))) (some false))
def Ap9 (k:Nat):Nat→List Int→Int→Int→Option Bool
 |0,_,_,_=>none
 |n+1,a0,a1,v1=>Cu6 k (Ap9 k n) a0 a1 v1
def Et0 (k:Nat) (L0:List Int→Int→Int→Option Bool) (a0:List Int) (a1:Int):Option Bool:=(L0 a0 a1 0)
def A98 (k:Nat) (a0:List Int) (a1:Int):Option Bool:=Et0 k (Ap9 k k) a0 a1
end
noncomputable section
def B69 (k:Nat) (L0:List Int→Int→Bool→Int→List Int→Option (List Int)) (a0:List Int) (a1:Int) (v1:Bool) (v2:Int) (xs3:List Int):Option (List Int):=(br (decide (v2< (a0.length:Int))) (gd (decide (0≤v2)) (gd (decide (v2< (a0.length:Int))) (br (decide ((rd 0 a0 v2.toNat)≥a1)) (br (!v1) (gd (decide (xs3.length+ [a1].length≤A5)) (gd (decide (0≤v2)) (gd (decide (v2< (a0.length:Int))) (br ((rd 0 a0 v2.toNat) !=a1) (gd (decide (0≤v2)) (gd (decide (v2< (a0.length:Int))) (gd (decide ((xs3++ [a1]).length+ [(rd 0 a0 v2.toNat)].length≤A5)) (L0 a0 a1 true (B5 (v2+1)) ((xs3++ [a1])++ [(rd 0 a0 v2.toNat)]))))) (L0 a0 a1 true (B5 (v2+1)) (xs3++ [a1])))))) (gd (decide (0≤v2)) (gd (decide (v2< (a0.length:Int))) (br ((rd 0 a0 v2.toNat) !=a1) (gd (decide (0≤v2)) (gd (decide (v2< (a0.length:Int))) (gd (decide (xs3.length+ [(rd 0 a0 v2.toNat)].length≤A5)) (L0 a0 a1 v1 (B5 (v2+1)) (xs3++ [(rd 0 a0 v2.toNat)]))))) (L0 a0 a1 v1 (B5 (v2+1)) xs3))))) (gd (decide (0≤v2)) (gd (decide (v2< (a0.length:Int))) (br ((rd 0 a0 v2.toNat) !=a1) (gd (decide (0≤v2)) (gd (decide (v2< (a0.length:Int))) (gd (decide (xs3.length+ [(rd 0 a0 v2.toNat)].length≤A5)) (L0 a0 a1 v1 (B5 (v2+1)) (xs3++ [(rd 0 a0 v2.toNat)]))))) (L0 a0 a1 v1 (B5 (v2+1)) xs3))))))) (br (!v1) (gd (decide (xs3.length+ [a1].length≤A5)) (some (xs3++ [a1]))) (some xs3)))
def Z6 (k:Nat):Nat→List Int→Int→Bool→Int→List Int→Option (List Int)
 |0,_,_,_,_,_=>none
 |n+1,a0,a1,v1,v2,xs3=>B69 k (Z6 k n) a0 a1 v1 v2 xs3
def D77 (k:Nat) (L0:List Int→Int→Bool→Int→List Int→Option (List Int)) (a0:List Int) (a1:Int):Option (List Int):=(L0 a0 a1 false 0 [])
def C29 (k:Nat) (a0:List Int) (a1:Int):Option (List Int):=D77 k (Z6 k k) a0 a1
end
noncomputable section
def Ak6 (k:Nat) (L1:List A0→Nat→Int→List Int→List Int→(A0×Bool)→Option (List Int)) (a0:List A0) (u1:Nat) (xs2:List Int) (xs3:List Int):Option (List Int):=(br (decide ((((xs3.length-u1):Nat):Int)>0)) (gd (decide (0< (((xs3.length-u1):Nat):Int))) (bd (O0 k a0 (rd 0 xs3 (u1+0))) λr1=> (gd (decide (1≤(((xs3.length-u1):Nat):Int))) (L1 a0 (u1+1) 0 xs2 xs3 r1)))) (some xs2))
def Ak7 (k:Nat) (L1:List A0→Nat→Int→List Int→List Int→(A0×Bool)→Option (List Int)) (L0:List A0→Nat→List Int→List Int→Option (List Int)) (a0:List A0) (u4:Nat) (v5:Int) (xs6:List Int) (xs7:List Int) (r1:A0×Bool):Option (List Int):=(br (decide (v5< (r1.1.2.2.2.2.2.2.2.1.length:Int))) (gd (decide (0≤v5)) (gd (decide (v5< (r1.1.2.2.2.2.2.2.2.1.length:Int))) (bd (O0 k a0 (rd 0 r1.1.2.2.2.2.2.2.2.1 v5.toNat)) λr2=> (br r2.2 (gd (decide (0≤v5)) (gd (decide (v5< (r1.1.2.2.2.2.2.2.2.1.length:Int))) (bd (A98 k xs6 (rd 0 r1.1.2.2.2.2.2.2.2.1 v5.toNat)) λr3=> (br (!r3) (gd (decide (0≤v5)) (gd (decide (v5< (r1.1.2.2.2.2.2.2.2.1.length:Int))) (gd (decide (xs6.length+ [(rd 0 r1.1.2.2.2.2.2.2.2.1 v5.toNat)].length≤A5)) (gd (decide (0≤v5)) (gd (decide (v5< (r1.1.2.2.2.2.2.2.2.1.length:Int))) (gd (decide ((xs7.drop u4).length+ [(rd 0 r1.1.2.2.2.2.2.2.2.1 v5.toNat)].length≤A5)) (L1 a0 0 (B5 (v5+1)) (xs6++ [(rd 0 r1.1.2.2.2.2.2.2.2.1 v5.toNat)]) ((xs7.drop u4)++ [(rd 0 r1.1.2.2.2.2.2.2.2.1 v5.toNat)]) r1))))))) (L1 a0 u4 (B5 (v5+1)) xs6 xs7 r1))))) (L1 a0 u4 (B5 (v5+1)) xs6 xs7 r1))))) (L0 a0 u4 xs6 xs7))
def u0 (k:Nat):Nat→(List A0→Nat→List Int→List Int→Option (List Int))×(List A0→Nat→Int→List Int→List Int→(A0×Bool)→Option (List Int))
 |0=> (λ_ _ _ _=>none,λ_ _ _ _ _ _=>none)
 |n+1=> (Ak6 k (u0 k n).2,Ak7 k (u0 k n).2 (u0 k n).1)
def Y1 (k:Nat) (n:Nat):List A0→Nat→List Int→List Int→Option (List Int):=(u0 k n).1
def T4 (k:Nat) (n:Nat):List A0→Nat→Int→List Int→List Int→(A0×Bool)→Option (List Int):=(u0 k n).2
theorem D78 (k:Nat) (n:Nat) (a0:List A0) (u1:Nat) (xs2:List Int) (xs3:List Int):Y1 k (n+1) a0 u1 xs2 xs3=Ak6 k (T4 k n) a0 u1 xs2 xs3:=rfl
theorem D79 (k:Nat) (n:Nat) (a0:List A0) (u4:Nat) (v5:Int) (xs6:List Int) (xs7:List Int) (r1:A0×Bool):T4 k (n+1) a0 u4 v5 xs6 xs7 r1=Ak7 k (T4 k n) (Y1 k n) a0 u4 v5 xs6 xs7 r1:=rfl
def Cn0 (k:Nat) (L0:List A0→Nat→List Int→List Int→Option (List Int)) (a0:List A0) (a1:Int):Option (List Int):=(L0 a0 0 [] [a1])
def B70 (k:Nat) (a0:List A0) (a1:Int):Option (List Int):=Cn0 k (Y1 k k) a0 a1
end
noncomputable section
def Be8 (k:Nat) (L0:List Int→List Int→List Int→Int→Option Bool) (a0:List Int) (a1:List Int) (a2:List Int) (v1:Int):Option Bool:=(br (decide (v1< (a0.length:Int))) (gd (decide (0≤v1)) (gd (decide (v1< (a0.length:Int))) (bd (A98 k a1 (rd 0 a0 v1.toNat)) λr1=> (br r1 (gd (decide (0≤v1)) (gd (decide (v1< (a0.length:Int))) (bd (A98 k a2 (rd 0 a0 v1.toNat)) λr2=> (br (!r2) (some false) (L0 a0 a1 a2 (B5 (v1+1))))))) (L0 a0 a1 a2 (B5 (v1+1))))))) (some true))
def X1 (k:Nat):Nat→List Int→List Int→List Int→Int→Option Bool
 |0,_,_,_,_=>none
 |n+1,a0,a1,a2,v1=>Be8 k (X1 k n) a0 a1 a2 v1
def C30 (k:Nat) (L0:List Int→List Int→List Int→Int→Option Bool) (a0:List Int) (a1:List Int) (a2:List Int):Option Bool:=(L0 a0 a1 a2 0)
def Bp5 (k:Nat) (a0:List Int) (a1:List Int) (a2:List Int):Option Bool:=C30 k (X1 k k) a0 a1 a2
end
def Aq0 (k:Nat) (a0:A0):Option Bool:=(br (a0.2.1==3) (some true) (br (a0.2.1==2) (br (a0.2.2.2.2.1==0) (some (a0.2.2.1 !=a0.2.2.2.1)) (br (a0.2.2.2.2.1==3) (some (a0.2.2.1 !=a0.2.2.2.1)) (some false))) (some false)))
def Dh9 (k:Nat) (a0:List A0) (a1:List A1) (a2:A0) (a3:A0):Option Bool:=(bd (Aq0 k a2) λr1=> (bd (Aq0 k a3) λr2=> (br (!(r1==r2)) (bd (Aq0 k a2) λr3=> (some r3)) (bd (l7 k a0 a1 a2.2.2.1) λr4=> (bd (l7 k a0 a1 a3.2.2.1) λr5=> (br (r4 !=r5) (some (decide (r4>r5))) (br (a2.2.2.2.2.2.2.2.2.1 !=a3.2.2.2.2.2.2.2.2.1) (some (decide (a2.2.2.2.2.2.2.2.2.1<a3.2.2.2.2.2.2.2.2.1))) (some (decide (a2.1<a3.1))))))))))
noncomputable section
def Bp6 (k:Nat) (L3:List A0→List A1→Int→List Int→List (List Int)→List Int→Option (List Int)) (a0:List A0) (a1:List A1) (xs2:List Int) (xs4:List (List Int)) (xs5:List Int):Option (List Int):=(br (decide ((xs5.length:Int)< (xs2.length:Int))) (L3 a0 a1 0 xs2 xs4 xs5) (some xs5))
def Bp7 (k:Nat) (L3:List A0→List A1→Int→List Int→List (List Int)→List Int→Option (List Int)) (L4:List A0→List A1→Int→List Int→List (List Int)→List Int→Int→Int→Int→Int→Int→List Int→ByteArray→List Int→Int→Option (List Int)) (a0:List A0) (a1:List A1) (v6:Int) (xs2:List Int) (xs4:List (List Int)) (xs5:List Int):Option (List Int):=(br (decide (v6< (xs2.length:Int))) (gd (decide (0≤v6)) (gd (decide (v6< (xs2.length:Int))) (bd (A98 k xs5 (rd 0 xs2 v6.toNat)) λr4=> (br r4 (L3 a0 a1 (B5 (v6+1)) xs2 xs4 xs5) (gd (decide (0≤v6)) (gd (decide (v6< (xs4.length:Int))) (bd (Bp5 k (rd [] xs4 v6.toNat) xs2 xs5) λr5=> (br (!r5) (L3 a0 a1 (B5 (v6+1)) xs2 xs4 xs5) (gd (decide (0≤v6)) (gd (decide (v6< (xs2.length:Int))) (bd (O0 k a0 (rd 0 xs2 v6.toNat)) λr6=> (L4 a0 a1 (B5 (v6+1)) xs2 xs4 xs5 r6.1.1 r6.1.2.1 r6.1.2.2.1 r6.1.2.2.2.1 r6.1.2.2.2.2.1 r6.1.2.2.2.2.2.1 r6.1.2.2.2.2.2.2.1 r6.1.2.2.2.2.2.2.2.1 r6.1.2.2.2.2.2.2.2.2.1)))))))))))) (some xs5))
def Bp8 (k:Nat) (L4:List A0→List A1→Int→List Int→List (List Int)→List Int→Int→Int→Int→Int→Int→List Int→ByteArray→List Int→Int→Option (List Int)) (L2:List A0→List A1→List Int→List (List Int)→List Int→Option (List Int)) (a0:List A0) (a1:List A1) (v7:Int) (xs2:List Int) (xs4:List (List Int)) (xs5:List Int) (v8:Int) (v9:Int) (v10:Int) (v11:Int) (v12:Int) (v13:List Int) (v14:ByteArray) (v15:List Int) (v16:Int):Option (List Int):=(br (decide (v7< (xs2.length:Int))) (gd (decide (0≤v7)) (gd (decide (v7< (xs2.length:Int))) (bd (A98 k xs5 (rd 0 xs2 v7.toNat)) λr7=> (br r7 (L4 a0 a1 (B5 (v7+1)) xs2 xs4 xs5 v8 v9 v10 v11 v12 v13 v14 v15 v16) (gd (decide (0≤v7)) (gd (decide (v7< (xs4.length:Int))) (bd (Bp5 k (rd [] xs4 v7.toNat) xs2 xs5) λr8=> (br (!r8) (L4 a0 a1 (B5 (v7+1)) xs2 xs4 xs5 v8 v9 v10 v11 v12 v13 v14 v15 v16) (gd (decide (0≤v7)) (gd (decide (v7< (xs2.length:Int))) (bd (O0 k a0 (rd 0 xs2 v7.toNat)) λr9=> (bd (Dh9 k a0 a1 r9.1 (v8,v9,v10,v11,v12,v13,v14,v15,v16,())) λr10=> (br r10 (L4 a0 a1 (B5 (v7+1)) xs2 xs4 xs5 r9.1.1 r9.1.2.1 r9.1.2.2.1 r9.1.2.2.2.1 r9.1.2.2.2.2.1 r9.1.2.2.2.2.2.1 r9.1.2.2.2.2.2.2.1 r9.1.2.2.2.2.2.2.2.1 r9.1.2.2.2.2.2.2.2.2.1) (L4 a0 a1 (B5 (v7+1)) xs2 xs4 xs5 v8 v9 v10 v11 v12 v13 v14 v15 v16)))))))))))))) (gd (decide (xs5.length+ [v8].length≤A5)) (L2 a0 a1 xs2 xs4 (xs5++ [v8]))))
def Cu7 (k:Nat) (L1:List A0→List A1→Int→List Int→List (List Int)→Option (List Int)) (L2:List A0→List A1→List Int→List (List Int)→List Int→Option (List Int)) (a0:List A0) (a1:List A1) (v3:Int) (xs2:List Int) (xs4:List (List Int)):Option (List Int):=(br (decide (v3< (xs2.length:Int))) (gd (decide (0≤v3)) (gd (decide (v3< (xs2.length:Int))) (bd (B70 k a0 (rd 0 xs2 v3.toNat)) λr3=> (gd (decide (xs4.length+ [r3].length≤A5)) (L1 a0 a1 (B5 (v3+1)) xs2 (xs4++ [r3])))))) (L2 a0 a1 xs2 xs4 []))
def Cu8 (k:Nat) (L0:List A0→List A1→List Int→Int→List Int→Option (List Int)) (L1:List A0→List A1→Int→List Int→List (List Int)→Option (List Int)) (a0:List A0) (a1:List A1) (a2:List Int) (v1:Int) (xs2:List Int):Option (List Int):=(br (decide (v1< (a2.length:Int))) (gd (decide (0≤v1)) (gd (decide (v1< (a2.length:Int))) (bd (O0 k a0 (rd 0 a2 v1.toNat)) λr1=> (br r1.2 (gd (decide (0≤v1)) (gd (decide (v1< (a2.length:Int))) (bd (C29 k xs2 (rd 0 a2 v1.toNat)) λr2=> (L0 a0 a1 a2 (B5 (v1+1)) r2)))) (L0 a0 a1 a2 (B5 (v1+1)) xs2))))) (L1 a0 a1 0 xs2 []))
def u5 (k:Nat):Nat→(List A0→List A1→List Int→List (List Int)→List Int→Option (List Int))×(List A0→List A1→Int→List Int→List (List Int)→List Int→Option (List Int))×(List A0→List A1→Int→List Int→List (List Int)→List Int→Int→Int→Int→Int→Int→List Int→ByteArray→List Int→Int→Option (List Int))
 |0=> (λ_ _ _ _ _=>none,λ_ _ _ _ _ _=>none,λ_ _ _ _ _ _ _ _ _ _ _ _ _ _ _=>none)
 |n+1=> (Bp6 k (u5 k n).2.1,Bp7 k (u5 k n).2.1 (u5 k n).2.2,Bp8 k (u5 k n).2.2 (u5 k n).1)
def Aq1 (k:Nat) (n:Nat):List A0→List A1→List Int→List (List Int)→List Int→Option (List Int):=(u5 k n).1
def Aq2 (k:Nat) (n:Nat):List A0→List A1→Int→List Int→List (List Int)→List Int→Option (List Int):=(u5 k n).2.1
def Aq3 (k:Nat) (n:Nat):List A0→List A1→Int→List Int→List (List Int)→List Int→Int→Int→Int→Int→Int→List Int→ByteArray→List Int→Int→Option (List Int):=(u5 k n).2.2
theorem Fr0 (k:Nat) (n:Nat) (a0:List A0) (a1:List A1) (xs2:List Int) (xs4:List (List Int)) (xs5:List Int):Aq1 k (n+1) a0 a1 xs2 xs4 xs5=Bp6 k (Aq2 k n) a0 a1 xs2 xs4 xs5:=rfl
theorem Fr1 (k:Nat) (n:Nat) (a0:List A0) (a1:List A1) (v6:Int) (xs2:List Int) (xs4:List (List Int)) (xs5:List Int):Aq2 k (n+1) a0 a1 v6 xs2 xs4 xs5=Bp7 k (Aq2 k n) (Aq3 k n) a0 a1 v6 xs2 xs4 xs5:=rfl
theorem Fr2 (k:Nat) (n:Nat) (a0:List A0) (a1:List A1) (v7:Int) (xs2:List Int) (xs4:List (List Int)) (xs5:List Int) (v8:Int) (v9:Int) (v10:Int) (v11:Int) (v12:Int) (v13:List Int) (v14:ByteArray) (v15:List Int) (v16:Int):Aq3 k (n+1) a0 a1 v7 xs2 xs4 xs5 v8 v9 v10 v11 v12 v13 v14 v15 v16=Bp8 k (Aq3 k n) (Aq1 k n) a0 a1 v7 xs2 xs4 xs5 v8 v9 v10 v11 v12 v13 v14 v15 v16:=rfl
def Aq4 (k:Nat):Nat→List A0→List A1→Int→List Int→List (List Int)→Option (List Int)
 |0,_,_,_,_,_=>none
 |n+1,a0,a1,v3,xs2,xs4=>Cu7 k (Aq4 k n) (Aq1 k n) a0 a1 v3 xs2 xs4
def Aq5 (k:Nat):Nat→List A0→List A1→List Int→Int→List Int→Option (List Int)
 |0,_,_,_,_,_=>none
 |n+1,a0,a1,a2,v1,xs2=>Cu8 k (Aq5 k n) (Aq4 k n) a0 a1 a2 v1 xs2
def Et1 (k:Nat) (L0:List A0→List A1→List Int→Int→List Int→Option (List Int)) (a0:List A0) (a1:List A1) (a2:List Int):Option (List Int):=(L0 a0 a1 a2 0 [])
def Ez9 (k:Nat) (a0:List A0) (a1:List A1) (a2:List Int):Option (List Int):=Et1 k (Aq5 k k) a0 a1 a2
end
noncomputable section
def Bp9 (k:Nat) (L2:List A0→Int→List A1→List Int→Option (List A1)) (a0:List A0) (v5:Int) (r1:List A1) (r5:List Int):Option (List A1):=(br (decide (v5< (r5.length:Int))) (gd (decide (0≤v5)) (gd (decide (v5< (r5.length:Int))) (bd (O0 k a0 (rd 0 r5 v5.toNat)) λr6=> (bd (Ci8 k a0 r1 r6.1) λr7=> (br r7 (bd (Bp2 k r6.1) λr8=> (br (r8 !=0) (bd (Bp2 k r6.1) λr9=> (bd (F14 k r1 r9 r6.1.1) λr10=> (L2 a0 (B5 (v5+1)) r10 r5))) (L2 a0 (B5 (v5+1)) r1 r5))) (L2 a0 (B5 (v5+1)) r1 r5)))))) (some r1))
def Az9 (k:Nat) (L1:List A0→List (List A1)→Int→Int→List A1→List Int→List Int→Option (List A1)) (L2:List A0→Int→List A1→List Int→Option (List A1)) (a0:List A0) (a1:List (List A1)) (v1:Int) (r1:List A1) (r2:List Int) (xs2:List Int):Option (List A1):=(br (decide (v1< (a1.length:Int))) (L1 a0 a1 v1 0 r1 r2 xs2) (bd (C28 k a1) λr4=> (bd (Ez9 k a0 r4 xs2) λr5=> (L2 a0 0 r1 r5))))
def A00 (k:Nat) (L1:List A0→List (List A1)→Int→Int→List A1→List Int→List Int→Option (List A1)) (L0:List A0→List (List A1)→Int→List A1→List Int→List Int→Option (List A1)) (a0:List A0) (a1:List (List A1)) (v1:Int) (v3:Int) (r1:List A1) (r2:List Int) (xs4:List Int):Option (List A1):=(br (decide (v3< (r2.length:Int))) (gd (decide (0≤v1)) (gd (decide (v1< (a1.length:Int))) (gd (decide (0≤v3)) (gd (decide (v3< (r2.length:Int))) (bd (C23 k (rd [] a1 v1.toNat) (rd 0 r2 v3.toNat)) λr3=> (br (r3 !=0) (gd (decide (xs4.length+ [r3].length≤A5)) (L1 a0 a1 v1 (B5 (v3+1)) r1 r2 (xs4++ [r3]))) (L1 a0 a1 v1 (B5 (v3+1)) r1 r2 xs4))))))) (L0 a0 a1 (B5 (v1+1)) r1 r2 xs4))
def b7 (k:Nat):Nat→List A0→Int→List A1→List Int→Option (List A1)
 |0,_,_,_,_=>none
 |n+1,a0,v5,r1,r5=>Bp9 k (b7 k n) a0 v5 r1 r5
def Ak8 (k:Nat):Nat→(List A0→List (List A1)→Int→List A1→List Int→List Int→Option (List A1))×(List A0→List (List A1)→Int→Int→List A1→List Int→List Int→Option (List A1))
 |0=> (λ_ _ _ _ _ _=>none,λ_ _ _ _ _ _ _=>none)
 |n+1=> (Az9 k (Ak8 k n).2 (b7 k n),A00 k (Ak8 k n).2 (Ak8 k n).1)
def Ab2 (k:Nat) (n:Nat):List A0→List (List A1)→Int→List A1→List Int→List Int→Option (List A1):=(Ak8 k n).1
def Ak9 (k:Nat) (n:Nat):List A0→List (List A1)→Int→Int→List A1→List Int→List Int→Option (List A1):=(Ak8 k n).2
theorem E00 (k:Nat) (n:Nat) (a0:List A0) (a1:List (List A1)) (v1:Int) (r1:List A1) (r2:List Int) (xs2:List Int):Ab2 k (n+1) a0 a1 v1 r1 r2 xs2=Az9 k (Ak9 k n) (b7 k n) a0 a1 v1 r1 r2 xs2:=rfl
theorem E01 (k:Nat) (n:Nat) (a0:List A0) (a1:List (List A1)) (v1:Int) (v3:Int) (r1:List A1) (r2:List Int) (xs4:List Int):Ak9 k (n+1) a0 a1 v1 v3 r1 r2 xs4=A00 k (Ak9 k n) (Ab2 k n) a0 a1 v1 v3 r1 r2 xs4:=rfl
def Dn4 (k:Nat) (L0:List A0→List (List A1)→Int→List A1→List Int→List Int→Option (List A1)) (a0:List A0) (a1:List (List A1)):Option (List A1):=(br ((a1.length:Int)==0) (some ([]:List A1)) (br ((a1.length:Int)==1) (gd (decide (0< (a1.length:Int))) (gd (decide (([]:List A1).length+(rd [] a1 0).length≤A5)) (some (([]:List A1)++(rd [] a1 0))))) (bd (C28 k a1) λr1=> (bd (Ez8 k a1) λr2=> (L0 a0 a1 0 r1 r2 [])))))
def Di0 (k:Nat) (a0:List A0) (a1:List (List A1)):Option (List A1):=Dn4 k (Ab2 k k) a0 a1
end
noncomputable section
def A51 (k:Nat) (L0:List Int→Int→A6→List (List A1)→Option (List A1×Bool)) (a1:List Int) (v1:Int) (a0:A6) (xs2:List (List A1)):Option (List A1×Bool):=(br (decide (v1< (a1.length:Int))) (gd (decide (0≤v1)) (gd (decide (v1< (a1.length:Int))) (bd (B66 k a0 (rd 0 a1 v1.toNat)) λr1=> (br (decide (r1<0)) (some (([]:List A1),false)) (br (decide (r1≥(a0.2.1.length:Int))) (some (([]:List A1),false)) (gd (decide (0≤r1)) (gd (decide (r1< (a0.2.1.length:Int))) (gd (decide (xs2.length+ [(rd [] a0.2.1 r1.toNat)].length≤A5)) (L0 a1 (B5 (v1+1)) a0 (xs2++ [(rd [] a0.2.1 r1.toNat)])))))))))) (bd (Di0 k a0.1 xs2) λr2=> (some (r2,true))))
def Y2 (k:Nat):Nat→List Int→Int→A6→List (List A1)→Option (List A1×Bool)
 |0,_,_,_,_=>none
 |n+1,a1,v1,a0,xs2=>A51 k (Y2 k n) a1 v1 a0 xs2
def Cn1 (k:Nat) (L0:List Int→Int→A6→List (List A1)→Option (List A1×Bool)) (a0:A6) (a1:List Int):Option (List A1×Bool):=(L0 a1 0 a0 [])
def Av9 (k:Nat) (a0:A6) (a1:List Int):Option (List A1×Bool):=Cn1 k (Y2 k k) a0 a1
end
noncomputable section
def Bq0 (k:Nat) (L0:List Int→Int→Int→A6→Option Int) (a1:List Int) (v1:Int) (v2:Int) (a0:A6):Option Int:=(br (decide (v2< (a1.length:Int))) (gd (decide (0≤v2)) (gd (decide (v2< (a1.length:Int))) (bd (B66 k a0 (rd 0 a1 v2.toNat)) λr1=> (br (decide (r1≥0)) (gd (decide (0≤r1)) (gd (decide (r1< (a0.1.length:Int))) (br (decide ((rd A4 a0.1 r1.toNat).2.2.2.2.2.2.2.2.1>v1)) (gd (decide (0≤r1)) (gd (decide (r1< (a0.1.length:Int))) (L0 a1 (rd A4 a0.1 r1.toNat).2.2.2.2.2.2.2.2.1 (B5 (v2+1)) a0))) (L0 a1 v1 (B5 (v2+1)) a0)))) (L0 a1 v1 (B5 (v2+1)) a0))))) (br (decide (v1>1000000)) (some 1000001) (some (B5 (v1+1)))))
def Ab3 (k:Nat):Nat→List Int→Int→Int→A6→Option Int
 |0,_,_,_,_=>none
 |n+1,a1,v1,v2,a0=>Bq0 k (Ab3 k n) a1 v1 v2 a0
def Dn5 (k:Nat) (L0:List Int→Int→Int→A6→Option Int) (a0:A6) (a1:List Int):Option Int:=(L0 a1 (-1) 0 a0)
def U7 (k:Nat) (a0:A6) (a1:List Int):Option Int:=Dn5 k (Ab3 k k) a0 a1
end
def B71 (k:Nat) (a0:A6) (a1:A0):Option (A6×Bool):=(bd (Av9 k a0 a1.2.2.2.2.2.2.2.1) λr1=> (br (!r1.2) (some (([],[],[],()),false)) (bd (Y0 k a1) λr2=> (br (!r2) (some (([],[],[],()),false)) (bd (B66 k a0 a1.1) λr3=> (br (decide (r3≥0)) (some (([],[],[],()),false)) (bd (U7 k a0 a1.2.2.2.2.2.2.2.1) λr4=> (br (a1.2.2.2.2.2.2.2.2.1 !=r4) (some (([],[],[],()),false)) (br (decide ((a0.1.length:Int)≥40)) (some (([],[],[],()),false)) (bd (Ci8 k a0.1 r1.1 a1) λr5=> (br r5 (bd (Bp2 k a1) λr6=> (br (r6 !=0) (bd (Bp2 k a1) λr7=> (bd (F14 k r1.1 r7 a1.1) λr8=> (gd (decide (([]:List A0).length+a0.1.length≤A5)) (gd (decide ((([]:List A0)++a0.1).length+([a1]:List A0).length≤A5)) (gd (decide (([]:List (List A1)).length+a0.2.1.length≤A5)) (gd (decide ((([]:List (List A1))++a0.2.1).length+ [r8].length≤A5)) (gd (decide (([]:List Bool).length+a0.2.2.1.length≤A5)) (gd (decide ((([]:List Bool)++a0.2.2.1).length+ [r5].length≤A5)) (some ((((([]:List A0)++a0.1)++([a1]:List A0)),((([]:List (List A1))++a0.2.1)++ [r8]),((([]:List Bool)++a0.2.2.1)++ [r5]),()),true)))))))))) (gd (decide (([]:List A0).length+a0.1.length≤A5)) (gd (decide ((([]:List A0)++a0.1).length+([a1]:List A0).length≤A5)) (gd (decide (([]:List (List A1)).length+a0.2.1.length≤A5)) (gd (decide ((([]:List (List A1))++a0.2.1).length+ [r1.1].length≤A5)) (gd (decide (([]:List Bool).length+a0.2.2.1.length≤A5)) (gd (decide ((([]:List Bool)++a0.2.2.1).length+ [r5].length≤A5)) (some ((((([]:List A0)++a0.1)++([a1]:List A0)),((([]:List (List A1))++a0.2.1)++ [r1.1]),((([]:List Bool)++a0.2.2.1)++ [r5]),()),true)))))))))) (gd (decide (([]:List A0).length+a0.1.length≤A5)) (gd (decide ((([]:List A0)++a0.1).length+([a1]:List A0).length≤A5)) (gd (decide (([]:List (List A1)).length+a0.2.1.length≤A5)) (gd (decide ((([]:List (List A1))++a0.2.1).length+ [r1.1].length≤A5)) (gd (decide (([]:List Bool).length+a0.2.2.1.length≤A5)) (gd (decide ((([]:List Bool)++a0.2.2.1).length+ [r5].length≤A5)) (some ((((([]:List A0)++a0.1)++([a1]:List A0)),((([]:List (List A1))++a0.2.1)++ [r1.1]),((([]:List Bool)++a0.2.2.1)++ [r5]),()),true)))))))))))))))))))
noncomputable section
def O3 (k:Nat) (L0:List Int→List Int→Int→Option Bool) (a0:List Int) (a1:List Int) (v1:Int):Option Bool:=(br (decide (v1< (a0.length:Int))) (gd (decide (0≤v1)) (gd (decide (v1< (a0.length:Int))) (gd (decide (0≤v1)) (gd (decide (v1< (a1.length:Int))) (br ((rd 0 a0 v1.toNat) !=(rd 0 a1 v1.toNat)) (some false) (L0 a0 a1 (B5 (v1+1)))))))) (some true))
def G2 (k:Nat):Nat→List Int→List Int→Int→Option Bool
 |0,_,_,_=>none
 |n+1,a0,a1,v1=>O3 k (G2 k n) a0 a1 v1
def j1 (k:Nat) (L0:List Int→List Int→Int→Option Bool) (a0:List Int) (a1:List Int):Option Bool:=(br ((a0.length:Int) !=(a1.length:Int)) (some false) (L0 a0 a1 0))
def N3 (k:Nat) (a0:List Int) (a1:List Int):Option Bool:=j1 k (G2 k k) a0 a1
end
def A28 (k:Nat) (a0:A0) (a1:A0):Option Bool:=(br (a0.1==a1.1) (br (a0.2.1==a1.2.1) (br (a0.2.2.1==a1.2.2.1) (br (a0.2.2.2.1==a1.2.2.2.1) (br (a0.2.2.2.2.1==a1.2.2.2.2.1) (br (a0.2.2.2.2.2.2.1.toList==a1.2.2.2.2.2.2.1.toList) (br (a0.2.2.2.2.2.2.2.2.1==a1.2.2.2.2.2.2.2.2.1) (bd (N3 k a0.2.2.2.2.2.1 a1.2.2.2.2.2.1) λr1=> (br r1 (bd (N3 k a0.2.2.2.2.2.2.2.1 a1.2.2.2.2.2.2.2.1) λr2=> (some r2)) (some false))) (some false)) (some false)) (some false)) (some false)) (some false)) (some false)) (some false))
noncomputable section
def p8 (k:Nat) (L0:List A1→List A1→Int→Option Bool) (a0:List A1) (a1:List A1) (v1:Int):Option Bool:=(br (decide (v1< (a0.length:Int))) (gd (decide (0≤v1)) (gd (decide (v1< (a0.length:Int))) (gd (decide (0≤v1)) (gd (decide (v1< (a1.length:Int))) (br (!((rd C0 a0 v1.toNat).1==(rd C0 a1 v1.toNat).1&&((rd C0 a0 v1.toNat).2.1==(rd C0 a1 v1.toNat).2.1&&true))) (some false) (L0 a0 a1 (B5 (v1+1)))))))) (some true))
def N5 (k:Nat):Nat→List A1→List A1→Int→Option Bool
 |0,_,_,_=>none
 |n+1,a0,a1,v1=>p8 k (N5 k n) a0 a1 v1
def Bk1 (k:Nat) (L0:List A1→List A1→Int→Option Bool) (a0:List A1) (a1:List A1):Option Bool:=(br ((a0.length:Int) !=(a1.length:Int)) (some false) (L0 a0 a1 0))
def Al0 (k:Nat) (a0:List A1) (a1:List A1):Option Bool:=Bk1 k (N5 k k) a0 a1
end
noncomputable section
def A01 (k:Nat) (L2:Int→A6→A6→Option Bool) (v3:Int) (a0:A6) (a1:A6):Option Bool:=(br (decide (v3< (a0.2.2.1.length:Int))) (gd (decide (0≤v3)) (gd (decide (v3< (a0.2.2.1.length:Int))) (gd (decide (0≤v3)) (gd (decide (v3< (a1.2.2.1.length:Int))) (br (!((rd false a0.2.2.1 v3.toNat)==(rd false a1.2.2.1 v3.toNat))) (some false) (L2 (B5 (v3+1)) a0 a1)))))) (some true))
def A02 (k:Nat) (L1:Int→A6→A6→Option Bool) (L2:Int→A6→A6→Option Bool) (v2:Int) (a0:A6) (a1:A6):Option Bool:=(br (decide (v2< (a0.2.1.length:Int))) (gd (decide (0≤v2)) (gd (decide (v2< (a0.2.1.length:Int))) (gd (decide (0≤v2)) (gd (decide (v2< (a1.2.1.length:Int))) (bd (Al0 k (rd [] a0.2.1 v2.toNat) (rd [] a1.2.1 v2.toNat)) λr2=> (br (!r2) (some false) (L1 (B5 (v2+1)) a0 a1))))))) (L2 0 a0 a1))
def A03 (k:Nat) (L0:Int→A6→A6→Option Bool) (L1:Int→A6→A6→Option Bool) (v1:Int) (a0:A6) (a1:A6):Option Bool:=(br (decide (v1< (a0.1.length:Int))) (gd (decide (0≤v1)) (gd (decide (v1< (a0.1.length:Int))) (gd (decide (0≤v1)) (gd (decide (v1< (a1.1.length:Int))) (bd (A28 k (rd A4 a0.1 v1.toNat) (rd A4 a1.1 v1.toNat)) λr1=> (br (!r1) (some false) (L0 (B5 (v1+1)) a0 a1))))))) (L1 0 a0 a1))
def Ab4 (k:Nat):Nat→Int→A6→A6→Option Bool
 |0,_,_,_=>none
 |n+1,v3,a0,a1=>A01 k (Ab4 k n) v3 a0 a1
def Ab5 (k:Nat):Nat→Int→A6→A6→Option Bool
 |0,_,_,_=>none
 |n+1,v2,a0,a1=>A02 k (Ab5 k n) (Ab4 k n) v2 a0 a1
def b8 (k:Nat):Nat→Int→A6→A6→Option Bool
 |0,_,_,_=>none
 |n+1,v1,a0,a1=>A03 k (b8 k n) (Ab5 k n) v1 a0 a1
def Dn6 (k:Nat) (L0:Int→A6→A6→Option Bool) (a0:A6) (a1:A6):Option Bool:=(br ((a0.1.length:Int) !=(a1.1.length:Int)) (some false) (br ((a0.2.1.length:Int) !=(a1.2.1.length:Int)) (some false) (br ((a0.2.2.1.length:Int) !=(a1.2.2.1.length:Int)) (some false) (L0 0 a0 a1))))
def Di1 (k:Nat) (a0:A6) (a1:A6):Option Bool:=Dn6 k (b8 k k) a0 a1
end
noncomputable section
def B72 (k:Nat) (L0:Int→A6→List A0→List (List A1)→List Bool→Option Bool) (v1:Int) (a0:A6) (xs2:List A0) (xs3:List (List A1)) (xs4:List Bool):Option Bool:=(br (decide (v1< (a0.1.length:Int))) (gd (decide (0≤v1)) (gd (decide (v1< (a0.1.length:Int))) (bd (B71 k (xs2,xs3,xs4,()) (rd A4 a0.1 v1.toNat)) λr1=> (br (!r1.2) (some false) (L0 (B5 (v1+1)) a0 r1.1.1 r1.1.2.1 r1.1.2.2.1))))) (bd (Di1 k (xs2,xs3,xs4,()) a0) λr2=> (some r2)))
def Ah6 (k:Nat):Nat→Int→A6→List A0→List (List A1)→List Bool→Option Bool
 |0,_,_,_,_,_=>none
 |n+1,v1,a0,xs2,xs3,xs4=>B72 k (Ah6 k n) v1 a0 xs2 xs3 xs4
def D80 (k:Nat) (L0:Int→A6→List A0→List (List A1)→List Bool→Option Bool) (a0:A6):Option Bool:=(br (decide ((a0.1.length:Int)>40)) (some false) (L0 0 a0 [] [] []))
def D81 (k:Nat) (a0:A6):Option Bool:=D80 k (Ah6 k k) a0
end
noncomputable section
def B73 (k:Nat) (L0:Int→A6→List Int→Option (List Int)) (v1:Int) (a0:A6) (xs2:List Int):Option (List Int):=(br (decide (v1< (a0.1.length:Int))) (gd (decide (0≤v1)) (gd (decide (v1< (a0.2.2.1.length:Int))) (br (rd false a0.2.2.1 v1.toNat) (gd (decide (0≤v1)) (gd (decide (v1< (a0.1.length:Int))) (ng ((rd A4 a0.1 v1.toNat).1==(rd A4 a0.1 v1.toNat).1&&(2:Int)==0) (br ((Int.tmod (rd A4 a0.1 v1.toNat).1 2)==0) (gd (decide (0≤v1)) (gd (decide (v1< (a0.1.length:Int))) (gd (decide (xs2.length+ [(rd A4 a0.1 v1.toNat).1].length≤A5)) (L0 (B5 (v1+1)) a0 (xs2++ [(rd A4 a0.1 v1.toNat).1]))))) (L0 (B5 (v1+1)) a0 xs2))))) (L0 (B5 (v1+1)) a0 xs2)))) (some xs2))
def Ah7 (k:Nat):Nat→Int→A6→List Int→Option (List Int)
 |0,_,_,_=>none
 |n+1,v1,a0,xs2=>B73 k (Ah7 k n) v1 a0 xs2
def D82 (k:Nat) (L0:Int→A6→List Int→Option (List Int)) (a0:A6):Option (List Int):=(L0 0 a0 [])
def D83 (k:Nat) (a0:A6):Option (List Int):=D82 k (Ah7 k k) a0
end
noncomputable section
def A99 (k:Nat) (L1:Int→B4→List Int→Option Bool) (v2:Int) (a0:B4) (r4:List Int):Option Bool:=(br (decide (v2< (a0.2.2.1.length:Int))) (gd (decide (0≤v2)) (gd (decide (v2< (a0.2.2.1.length:Int))) (br ((rd C1 a0.2.2.1 v2.toNat).1 !=(B5 (v2+1))) (some false) (bd (N3 k (rd C1 a0.2.2.1 v2.toNat).2.2.1 r4) λr5=> (br (!r5) (some false) (bd (F9 k (rd C1 a0.2.2.1 v2.toNat).2.1 0 (r4.length:Int)) λr6=> (br (!r6) (some false) (L1 (B5 (v2+1)) a0 r4)))))))) (some true))
def Ba0 (k:Nat) (L0:Int→B4→Option Bool) (L1:Int→B4→List Int→Option Bool) (v1:Int) (a0:B4):Option Bool:=(br (decide (v1< (a0.1.length:Int))) (gd (decide (0≤v1)) (gd (decide (v1< (a0.1.length:Int))) (bd (F9 k (rd A3 a0.1 v1.toNat).1 1 1000000) λr2=> (br (!r2) (some false) (bd (F9 k (rd A3 a0.1 v1.toNat).2.1 0 1000000) λr3=> (br (!r3) (some false) (br (decide ((((rd A3 a0.1 v1.toNat).2.2.1.size:Nat):Int)>40)) (some false) (br ((rd A3 a0.1 v1.toNat).2.1==0) (br (!((rd A3 a0.1 v1.toNat).2.2.1.toList==(⟨#[]⟩:ByteArray).toList)) (some false) (br (decide (v1>0)) (gd (decide (0≤(B5 (v1-1)))) (gd (decide ((B5 (v1-1))< (a0.1.length:Int))) (br (decide ((rd A3 a0.1 (B5 (v1-1)).toNat).1≥(rd A3 a0.1 v1.toNat).1)) (some false) (L0 (B5 (v1+1)) a0)))) (L0 (B5 (v1+1)) a0))) (br (decide (v1>0)) (gd (decide (0≤(B5 (v1-1)))) (gd (decide ((B5 (v1-1))< (a0.1.length:Int))) (br (decide ((rd A3 a0.1 (B5 (v1-1)).toNat).1≥(rd A3 a0.1 v1.toNat).1)) (some false) (L0 (B5 (v1+1)) a0)))) (L0 (B5 (v1+1)) a0)))))))))) (bd (D83 k a0.2.1) λr4=> (L1 0 a0 r4)))
def u6 (k:Nat):Nat→Int→B4→List Int→Option Bool
 |0,_,_,_=>none
 |n+1,v2,a0,r4=>A99 k (u6 k n) v2 a0 r4
def P4 (k:Nat):Nat→Int→B4→Option Bool
 |0,_,_=>none
 |n+1,v1,a0=>Ba0 k (P4 k n) (u6 k n) v1 a0
def D84 (k:Nat) (L0:Int→B4→Option Bool) (a0:B4):Option Bool:=(br (decide ((a0.1.length:Int)>3)) (some false) (br ((a0.2.2.1.length:Int) !=2) (some false) (bd (D81 k a0.2.1) λr1=> (br (!r1) (some false) (L0 0 a0)))))
def Bk2 (k:Nat) (a0:B4):Option Bool:=D84 k (P4 k k) a0
end
def Bq1 (k:Nat) (a0:A0):Option Bool:=(bd (A28 k a0 (0,0,0,0,0,[],ByteArray.empty,[],0,())) λr1=> (some r1))
def Ba1 (k:Nat) (a0:B7):Option Bool:=(bd (F9 k a0.1 1 5) λr1=> (br (!r1) (some false) (bd (F9 k a0.2.1 0 1000000) λr2=> (br (!r2) (some false) (bd (F9 k a0.2.2.1 0 1000000) λr3=> (br (!r3) (some false) (br (a0.1 !=2) (br (a0.1 !=3) (bd (Bq1 k a0.2.2.2.1) λr4=> (br (!r4) (some false) (br (a0.1 !=4) (br (a0.2.2.2.2.1 !=0) (some false) (br (a0.2.2.2.2.2.1 !=0) (some false) (br (a0.1==1) (br (a0.2.1==0) (some (a0.2.2.1==0)) (some false)) (br (a0.1==2) (bd (l6 k a0.2.2.2.1) λr5=> (br r5 (br (a0.2.2.2.1.1==0) (br (a0.2.2.2.1.2.2.2.2.2.2.2.2.1==0) (some ((a0.2.2.2.1.2.2.2.2.2.2.2.1.length:Int)==0)) (some false)) (some false)) (some false))) (br (a0.1==3) (bd (Y0 k a0.2.2.2.1) λr6=> (br r6 (ng (a0.2.2.2.1.1==a0.2.2.2.1.1&&(2:Int)==0) (some ((Int.tmod a0.2.2.2.1.1 2)==1))) (some false))) (br (a0.1==4) (bd (F9 k a0.2.2.2.2.1 1 2) λr7=> (br r7 (bd (F9 k a0.2.2.2.2.2.1 0 1000000) λr8=> (some r8)) (some false))) (some true))))))) (br (a0.1==1) (br (a0.2.1==0) (some (a0.2.2.1==0)) (some false)) (br (a0.1==2) (bd (l6 k a0.2.2.2.1) λr9=> (br r9 (br (a0.2.2.2.1.1==0) (br (a0.2.2.2.1.2.2.2.2.2.2.2.2.1==0) (some ((a0.2.2.2.1.2.2.2.2.2.2.2.1.length:Int)==0)) (some false)) (some false)) (some false))) (br (a0.1==3) (bd (Y0 k a0.2.2.2.1) λr10=> (br r10 (ng (a0.2.2.2.1.1==a0.2.2.2.1.1&&(2:Int)==0) (some ((Int.tmod a0.2.2.2.1.1 2)==1))) (some false))) (br (a0.1==4) (bd (F9 k a0.2.2.2.2.1 1 2) λr11=> (br r11 (bd (F9 k a0.2.2.2.2.2.1 0 1000000) λr12=> (some r12)) (some false))) (some true)))))))) (br (a0.1 !=4) (br (a0.2.2.2.2.1 !=0) (some false) (br (a0.2.2.2.2.2.1 !=0) (some false) (br (a0.1==1) (br (a0.2.1==0) (some (a0.2.2.1==0)) (some false)) (br (a0.1==2) (bd (l6 k a0.2.2.2.1) λr13=> (br r13 (br (a0.2.2.2.1.1==0) (br (a0.2.2.2.1.2.2.2.2.2.2.2.2.1==0) (some ((a0.2.2.2.1.2.2.2.2.2.2.2.1.length:Int)==0)) (some false)) (some false)) (some false))) (br (a0.1==3) (bd (Y0 k a0.2.2.2.1) λr14=> (br r14 (ng (a0.2.2.2.1.1==a0.2.2.2.1.1&&(2:Int)==0) (some ((Int.tmod a0.2.2.2.1.1 2)==1))) (some false))) (br (a0.1==4) (bd (F9 k a0.2.2.2.2.1 1 2) λr15=> (br r15 (bd (F9 k a0.2.2.2.2.2.1 0 1000000) λr16=> (some r16)) (some false))) (some true))))))) (br (a0.1==1) (br (a0.2.1==0) (some (a0.2.2.1==0)) (some false)) (br (a0.1==2) (bd (l6 k a0.2.2.2.1) λr17=> (br r17 (br (a0.2.2.2.1.1==0) (br (a0.2.2.2.1.2.2.2.2.2.2.2.2.1==0) (some ((a0.2.2.2.1.2.2.2.2.2.2.2.1.length:Int)==0)) (some false)) (some false)) (some false))) (br (a0.1==3) (bd (Y0 k a0.2.2.2.1) λr18=> (br r18 (ng (a0.2.2.2.1.1==a0.2.2.2.1.1&&(2:Int)==0) (some ((Int.tmod a0.2.2.2.1.1 2)==1))) (some false))) (br (a0.1==4) (bd (F9 k a0.2.2.2.2.1 1 2) λr19=> (br r19 (bd (F9 k a0.2.2.2.2.2.1 0 1000000) λr20=> (some r20)) (some false))) (some true))))))) (br (a0.1 !=4) (br (a0.2.2.2.2.1 !=0) (some false) (br (a0.2.2.2.2.2.1 !=0) (some false) (br (a0.1==1) (br (a0.2.1==0) (some (a0.2.2.1==0)) (some false)) (br (a0.1==2) (bd (l6 k a0.2.2.2.1) λr21=> (br r21 (br (a0.2.2.2.1.1==0) (br (a0.2.2.2.1.2.2.2.2.2.2.2.2.1==0) (some ((a0.2.2.2.1.2.2.2.2.2.2.2.1.length:Int)==0)) (some false)) (some false)) (some false))) (br (a0.1==3) (bd (Y0 k a0.2.2.2.1) λr22=> (br r22 (ng (a0.2.2.2.1.1==a0.2.2.2.1.1&&(2:Int)==0) (some ((Int.tmod a0.2.2.2.1.1 2)==1))) (some false))) (br (a0.1==4) (bd (F9 k a0.2.2.2.2.1 1 2) λr23=> (br r23 (bd (F9 k a0.2.2.2.2.2.1 0 1000000) λr24=> (some r24)) (some false))) (some true))))))) (br (a0.1==1) (br (a0.2.1==0) (some (a0.2.2.1==0)) (some false)) (br (a0.1==2) (bd (l6 k a0.2.2.2.1) λr25=> (br r25 (br (a0.2.2.2.1.1==0) (br (a0.2.2.2.1.2.2.2.2.2.2.2.2.1==0) (some ((a0.2.2.2.1.2.2.2.2.2.2.2.1.length:Int)==0)) (some false)) (some false)) (some false))) (br (a0.1==3) (bd (Y0 k a0.2.2.2.1) λr26=> (br r26 (ng (a0.2.2.2.1.1==a0.2.2.2.1.1&&(2:Int)==0) (some ((Int.tmod a0.2.2.2.1.1 2)==1))) (some false))) (br (a0.1==4) (bd (F9 k a0.2.2.2.2.1 1 2) λr27=> (br r27 (bd (F9 k a0.2.2.2.2.2.1 0 1000000) λr28=> (some r28)) (some false))) (some true)))))))))))))
def A29 (k:Nat) (a0:A0):Option A0:=(gd (decide (([]:List Int).length+a0.2.2.2.2.2.1.length≤A5)) (gd (decide (([]:List Int).length+a0.2.2.2.2.2.2.2.1.length≤A5)) (some (a0.1,a0.2.1,a0.2.2.1,a0.2.2.2.1,a0.2.2.2.2.1,(([]:List Int)++a0.2.2.2.2.2.1),a0.2.2.2.2.2.2.1,(([]:List Int)++a0.2.2.2.2.2.2.2.1),a0.2.2.2.2.2.2.2.2))))
noncomputable section
def Aq6 (k:Nat) (L0:List A0→Int→List A0→Option (List A0)) (a0:List A0) (v1:Int) (xs2:List A0):Option (List A0):=(br (decide (v1< (a0.length:Int))) (gd (decide (0≤v1)) (gd (decide (v1< (a0.length:Int))) (bd (A29 k (rd A4 a0 v1.toNat)) λr1=> (gd (decide (xs2.length+([r1]:List A0).length≤A5)) (L0 a0 (B5 (v1+1)) (xs2++([r1]:List A0))))))) (some xs2))
def S8 (k:Nat):Nat→List A0→Int→List A0→Option (List A0)
 |0,_,_,_=>none
 |n+1,a0,v1,xs2=>Aq6 k (S8 k n) a0 v1 xs2
def B17 (k:Nat) (L0:List A0→Int→List A0→Option (List A0)) (a0:List A0):Option (List A0):=(L0 a0 0 ([]:List A0))
def Be9 (k:Nat) (a0:List A0):Option (List A0):=B17 k (S8 k k) a0
end
noncomputable section
def Bq2 (k:Nat) (L0:Int→A6→List A0→List (List A1)→Option A6) (v1:Int) (a0:A6) (r1:List A0) (xs2:List (List A1)):Option A6:=(br (decide (v1< (a0.2.1.length:Int))) (gd (decide (0≤v1)) (gd (decide (v1< (a0.2.1.length:Int))) (gd (decide (([]:List A1).length+(rd [] a0.2.1 v1.toNat).length≤A5)) (gd (decide (xs2.length+ [(([]:List A1)++(rd [] a0.2.1 v1.toNat))].length≤A5)) (L0 (B5 (v1+1)) a0 r1 (xs2++ [(([]:List A1)++(rd [] a0.2.1 v1.toNat))])))))) (some (r1,xs2,(([]:List Bool)++a0.2.2.1),())))
def Ab6 (k:Nat):Nat→Int→A6→List A0→List (List A1)→Option A6
 |0,_,_,_,_=>none
 |n+1,v1,a0,r1,xs2=>Bq2 k (Ab6 k n) v1 a0 r1 xs2
def Dn7 (k:Nat) (L0:Int→A6→List A0→List (List A1)→Option A6) (a0:A6):Option A6:=(bd (Be9 k a0.1) λr1=> (gd (decide (([]:List Bool).length+a0.2.2.1.length≤A5)) (L0 0 a0 r1 [])))
def Cj1 (k:Nat) (a0:A6):Option A6:=Dn7 k (Ab6 k k) a0
end
noncomputable section
def Bq3 (k:Nat) (L0:Int→B4→A6→List C3→Option B4) (v1:Int) (a0:B4) (r1:A6) (xs2:List C3):Option B4:=(br (decide (v1< (a0.2.2.1.length:Int))) (gd (decide (0≤v1)) (gd (decide (v1< (a0.2.2.1.length:Int))) (gd (decide (([]:List Int).length+(rd C1 a0.2.2.1 v1.toNat).2.2.1.length≤A5)) (gd (decide (xs2.length+([((rd C1 a0.2.2.1 v1.toNat).1,(rd C1 a0.2.2.1 v1.toNat).2.1,(([]:List Int)++(rd C1 a0.2.2.1 v1.toNat).2.2.1),())]:List C3).length≤A5)) (L0 (B5 (v1+1)) a0 r1 (xs2++([((rd C1 a0.2.2.1 v1.toNat).1,(rd C1 a0.2.2.1 v1.toNat).2.1,(([]:List Int)++(rd C1 a0.2.2.1 v1.toNat).2.2.1),())]:List C3))))))) (some ((([]:List A7)++a0.1),r1,xs2,())))
def Ab7 (k:Nat):Nat→Int→B4→A6→List C3→Option B4
 |0,_,_,_,_=>none
 |n+1,v1,a0,r1,xs2=>Bq3 k (Ab7 k n) v1 a0 r1 xs2
def Dn8 (k:Nat) (L0:Int→B4→A6→List C3→Option B4) (a0:B4):Option B4:=(gd (decide (([]:List A7).length+a0.1.length≤A5)) (bd (Cj1 k a0.2.1) λr1=> (L0 0 a0 r1 [])))
def Di2 (k:Nat) (a0:B4):Option B4:=Dn8 k (Ab7 k k) a0
end
def Aw0 (k:Nat) (a0:Int):Option Int:=(br (decide (a0<10)) (some (IntKind.wrap .u8 (B5 (48+a0)))) (some (IntKind.wrap .u8 (B5 ((B5 (97+a0))-10)))))
noncomputable section
def Bq4 (k:Nat) (L0:Int→Bool→ByteArray→Option ByteArray) (a0:Int) (v1:Bool) (v2:ByteArray):Option ByteArray:=(br (a0 !=0) (ng (a0==a0&&(10:Int)==0) (br (decide ((Int.tmod a0 10)<0)) (bd (Aw0 k (B5 (0- (Int.tmod a0 10)))) λr1=> (gd (decide ((N9 [r1]).size+v2.size≤A5)) (ng (a0==a0&&(10:Int)==0) (L0 (B5 (Int.tdiv a0 10)) v1 ((N9 [r1])++v2))))) (bd (Aw0 k (Int.tmod a0 10)) λr2=> (gd (decide ((N9 [r2]).size+v2.size≤A5)) (ng (a0==a0&&(10:Int)==0) (L0 (B5 (Int.tdiv a0 10)) v1 ((N9 [r2])++v2))))))) (br v1 (gd (decide ((⟨#[45]⟩:ByteArray).size+v2.size≤A5)) (some ((⟨#[45]⟩:ByteArray)++v2))) (some v2)))
def Ab8 (k:Nat):Nat→Int→Bool→ByteArray→Option ByteArray
 |0,_,_,_=>none
 |n+1,a0,v1,v2=>Bq4 k (Ab8 k n) a0 v1 v2
def Dn9 (k:Nat) (L0:Int→Bool→ByteArray→Option ByteArray) (a0:Int):Option ByteArray:=(br (a0==0) (some (⟨#[48]⟩:ByteArray)) (L0 a0 (decide (a0<0)) (⟨#[]⟩:ByteArray)))
def Ah8 (k:Nat) (a0:Int):Option ByteArray:=Dn9 k (Ab8 k k) a0
end
def Bq5 (k:Nat) (a0:A6) (a1:A0):Option (A6×Bool):=(br ((a0.1.length:Int) !=(a0.2.1.length:Int)) (some (([],[],[],()),false)) (br ((a0.1.length:Int) !=(a0.2.2.1.length:Int)) (some (([],[],[],()),false)) (bd (B71 k a0 a1) λr1=> (bd (Cj1 k r1.1) λr2=> (some (r2,r1.2))))))
noncomputable section
def Ba2 (k:Nat) (L1:Int→Bool→Int→A6→List Int→Option (List Int)) (v1:Int) (a0:A6) (xs2:List Int):Option (List Int):=(br (decide (v1< (a0.1.length:Int))) (L1 v1 false 0 a0 xs2) (some xs2))
def Ba3 (k:Nat) (L1:Int→Bool→Int→A6→List Int→Option (List Int)) (L0:Int→A6→List Int→Option (List Int)) (v1:Int) (v3:Bool) (v4:Int) (a0:A6) (xs2:List Int):Option (List Int):=(br (decide (v4< (a0.1.length:Int))) (br v3 (L1 v1 true (B5 (v4+1)) a0 xs2) (gd (decide (0≤v4)) (gd (decide (v4< (a0.1.length:Int))) (gd (decide (0≤v1)) (gd (decide (v1< (a0.1.length:Int))) (bd (A98 k (rd A4 a0.1 v4.toNat).2.2.2.2.2.2.2.1 (rd A4 a0.1 v1.toNat).1) λr1=> (L1 v1 r1 (B5 (v4+1)) a0 xs2))))))) (br (!v3) (gd (decide (0≤v1)) (gd (decide (v1< (a0.1.length:Int))) (bd (C29 k xs2 (rd A4 a0.1 v1.toNat).1) λr2=> (L0 (B5 (v1+1)) a0 r2)))) (L0 (B5 (v1+1)) a0 xs2)))
def Aw1 (k:Nat):Nat→(Int→A6→List Int→Option (List Int))×(Int→Bool→Int→A6→List Int→Option (List Int))
 |0=> (λ_ _ _=>none,λ_ _ _ _ _=>none)
 |n+1=> (Ba2 k (Aw1 k n).2,Ba3 k (Aw1 k n).2 (Aw1 k n).1)
def Ah9 (k:Nat) (n:Nat):Int→A6→List Int→Option (List Int):=(Aw1 k n).1
def Aw2 (k:Nat) (n:Nat):Int→Bool→Int→A6→List Int→Option (List Int):=(Aw1 k n).2
theorem Fd7 (k:Nat) (n:Nat) (v1:Int) (a0:A6) (xs2:List Int):Ah9 k (n+1) v1 a0 xs2=Ba2 k (Aw2 k n) v1 a0 xs2:=rfl
theorem Fd8 (k:Nat) (n:Nat) (v1:Int) (v3:Bool) (v4:Int) (a0:A6) (xs2:List Int):Aw2 k (n+1) v1 v3 v4 a0 xs2=Ba3 k (Aw2 k n) (Ah9 k n) v1 v3 v4 a0 xs2:=rfl
def D85 (k:Nat) (L0:Int→A6→List Int→Option (List Int)) (a0:A6):Option (List Int):=(L0 0 a0 [])
def Bk3 (k:Nat) (a0:A6):Option (List Int):=D85 k (Ah9 k k) a0
end
def Di3 (k:Nat) (a0:A6):Option (List A1):=(bd (Bk3 k a0) λr1=> (bd (Av9 k a0 r1) λr2=> (some r2.1)))
noncomputable section
def Bq6 (k:Nat) (L0:Int→A6→List Int→List A1→Option (List Int)) (v1:Int) (a0:A6) (xs2:List Int) (r1:List A1):Option (List Int):=(br (decide (v1≤5)) (bd (W9 k a0.1 r1 v1) λr2=> (br (r2==2) (gd (decide (xs2.length+ [v1].length≤A5)) (L0 (B5 (v1+1)) a0 (xs2++ [v1]) r1)) (L0 (B5 (v1+1)) a0 xs2 r1))) (some xs2))
def Ab9 (k:Nat):Nat→Int→A6→List Int→List A1→Option (List Int)
 |0,_,_,_,_=>none
 |n+1,v1,a0,xs2,r1=>Bq6 k (Ab9 k n) v1 a0 xs2 r1
def Do0 (k:Nat) (L0:Int→A6→List Int→List A1→Option (List Int)) (a0:A6):Option (List Int):=(bd (Di3 k a0) λr1=> (L0 1 a0 [] r1))
def Di4 (k:Nat) (a0:A6):Option (List Int):=Do0 k (Ab9 k k) a0
end
def E02 (k:Nat) (a0:A6) (a1:Int) (a2:A0):Option A0:=(bd (A29 k a2) λr1=> (bd (F9 k a1 0 1000000) λr2=> (br r2 (br (a2.2.1 !=1) (bd (Bk3 k a0) λr3=> (br (decide ((B5 ((r3.length:Int)-3))<0)) (gd (decide (0≤(r3.length:Int))) (gd (decide (([]:List Int).length+(r3.drop 0).length≤A5)) (bd (U7 k a0 (([]:List Int)++(r3.drop 0))) λr4=> (some ((B5 (2*a1)),r1.2.1,r1.2.2.1,r1.2.2.2.1,r1.2.2.2.2.1,r1.2.2.2.2.2.1,r1.2.2.2.2.2.2.1,(([]:List Int)++(r3.drop 0)),r4,()))))) (gd (decide (0≤(B5 ((r3.length:Int)-3)))) (gd (decide ((B5 ((r3.length:Int)-3))≤(r3.length:Int))) (gd (decide (([]:List Int).length+(r3.drop (B5 ((r3.length:Int)-3)).toNat).length≤A5)) (bd (U7 k a0 (([]:List Int)++(r3.drop (B5 ((r3.length:Int)-3)).toNat))) λr5=> (some ((B5 (2*a1)),r1.2.1,r1.2.2.1,r1.2.2.2.1,r1.2.2.2.2.1,r1.2.2.2.2.2.1,r1.2.2.2.2.2.2.1,(([]:List Int)++(r3.drop (B5 ((r3.length:Int)-3)).toNat)),r5,())))))))) (bd (U7 k a0 []) λr6=> (some ((B5 (2*a1)),r1.2.1,r1.2.2.1,r1.2.2.2.1,r1.2.2.2.2.1,r1.2.2.2.2.2.1,r1.2.2.2.2.2.2.1,[],r6,())))) (br (a2.2.1 !=1) (bd (Bk3 k a0) λr7=> (br (decide ((B5 ((r7.length:Int)-3))<0)) (gd (decide (0≤(r7.length:Int))) (gd (decide (([]:List Int).length+(r7.drop 0).length≤A5)) (bd (U7 k a0 (([]:List Int)++(r7.drop 0))) λr8=> (some (0,r1.2.1,r1.2.2.1,r1.2.2.2.1,r1.2.2.2.2.1,r1.2.2.2.2.2.1,r1.2.2.2.2.2.2.1,(([]:List Int)++(r7.drop 0)),r8,()))))) (gd (decide (0≤(B5 ((r7.length:Int)-3)))) (gd (decide ((B5 ((r7.length:Int)-3))≤(r7.length:Int))) (gd (decide (([]:List Int).length+(r7.drop (B5 ((r7.length:Int)-3)).toNat).length≤A5)) (bd (U7 k a0 (([]:List Int)++(r7.drop (B5 ((r7.length:Int)-3)).toNat))) λr9=> (some (0,r1.2.1,r1.2.2.1,r1.2.2.2.1,r1.2.2.2.2.1,r1.2.2.2.2.2.1,r1.2.2.2.2.2.2.1,(([]:List Int)++(r7.drop (B5 ((r7.length:Int)-3)).toNat)),r9,())))))))) (bd (U7 k a0 []) λr10=> (some (0,r1.2.1,r1.2.2.1,r1.2.2.2.1,r1.2.2.2.2.1,r1.2.2.2.2.2.1,r1.2.2.2.2.2.2.1,[],r10,())))))))
noncomputable section
def Al1 (k:Nat) (L0:List A0→Int→List A0→Option (List A0)) (a0:List A0) (v1:Int) (xs2:List A0):Option (List A0):=(br (decide (v1< (a0.length:Int))) (gd (decide (0≤v1)) (gd (decide (v1< (a0.length:Int))) (bd (A29 k (rd A4 a0 v1.toNat)) λr1=> (gd (decide (xs2.length+([r1]:List A0).length≤A5)) (L0 a0 (B5 (v1+1)) (xs2++([r1]:List A0))))))) (some xs2))
def Q1 (k:Nat):Nat→List A0→Int→List A0→Option (List A0)
 |0,_,_,_=>none
 |n+1,a0,v1,xs2=>Al1 k (Q1 k n) a0 v1 xs2
def Bk4 (k:Nat) (L0:List A0→Int→List A0→Option (List A0)) (a0:List A0):Option (List A0):=(L0 a0 0 [])
def A52 (k:Nat) (a0:List A0):Option (List A0):=Bk4 k (Q1 k k) a0
end
noncomputable section
def Bf0 (k:Nat) (L0:Int→A6→List A0→List (List A1)→Option A6) (v1:Int) (a0:A6) (r1:List A0) (xs2:List (List A1)):Option A6:=(br (decide (v1< (a0.2.1.length:Int))) (gd (decide (0≤v1)) (gd (decide (v1< (a0.2.1.length:Int))) (gd (decide (([]:List A1).length+(rd [] a0.2.1 v1.toNat).length≤A5)) (gd (decide (xs2.length+([(([]:List A1)++(rd [] a0.2.1 v1.toNat))]:List (List A1)).length≤A5)) (L0 (B5 (v1+1)) a0 r1 (xs2++([(([]:List A1)++(rd [] a0.2.1 v1.toNat))]:List (List A1)))))))) (some (r1,xs2,(([]:List Bool)++a0.2.2.1),())))
def m6 (k:Nat):Nat→Int→A6→List A0→List (List A1)→Option A6
 |0,_,_,_,_=>none
 |n+1,v1,a0,r1,xs2=>Bf0 k (m6 k n) v1 a0 r1 xs2
def C31 (k:Nat) (L0:Int→A6→List A0→List (List A1)→Option A6) (a0:A6):Option A6:=(bd (A52 k a0.1) λr1=> (gd (decide (([]:List Bool).length+a0.2.2.1.length≤A5)) (L0 0 a0 r1 [])))
def Cu9 (k:Nat) (a0:A6):Option A6:=C31 k (m6 k k) a0
end
noncomputable section
def Bf1 (k:Nat) (L0:Int→B4→A6→List C3→Option B4) (v1:Int) (a0:B4) (r1:A6) (xs2:List C3):Option B4:=(br (decide (v1< (a0.2.2.1.length:Int))) (gd (decide (0≤v1)) (gd (decide (v1< (a0.2.2.1.length:Int))) (gd (decide (([]:List Int).length+(rd C1 a0.2.2.1 v1.toNat).2.2.1.length≤A5)) (gd (decide (xs2.length+([((rd C1 a0.2.2.1 v1.toNat).1,(rd C1 a0.2.2.1 v1.toNat).2.1,(([]:List Int)++(rd C1 a0.2.2.1 v1.toNat).2.2.1),())]:List C3).length≤A5)) (L0 (B5 (v1+1)) a0 r1 (xs2++([((rd C1 a0.2.2.1 v1.toNat).1,(rd C1 a0.2.2.1 v1.toNat).2.1,(([]:List Int)++(rd C1 a0.2.2.1 v1.toNat).2.2.1),())]:List C3))))))) (some ((([]:List A7)++a0.1),r1,xs2,())))
def m7 (k:Nat):Nat→Int→B4→A6→List C3→Option B4
 |0,_,_,_,_=>none
 |n+1,v1,a0,r1,xs2=>Bf1 k (m7 k n) v1 a0 r1 xs2
def C32 (k:Nat) (L0:Int→B4→A6→List C3→Option B4) (a0:B4):Option B4:=(gd (decide (([]:List A7).length+a0.1.length≤A5)) (bd (Cu9 k a0.2.1) λr1=> (L0 0 a0 r1 [])))
def A53 (k:Nat) (a0:B4):Option B4:=C32 k (m7 k k) a0
end
noncomputable section
def Bq7 (k:Nat) (L0:Int→Int→List A7→B4→Option (B4×ByteArray×Bool)) (a1:Int) (v1:Int) (xs2:List A7) (r4:B4):Option (B4×ByteArray×Bool):=(br (decide (v1< (r4.1.length:Int))) (br (decide (v1>0)) (gd (decide (0≤v1)) (gd (decide (v1< (r4.1.length:Int))) (gd (decide (xs2.length+([(rd A3 r4.1 v1.toNat)]:List A7).length≤A5)) (L0 a1 (B5 (v1+1)) (xs2++([(rd A3 r4.1 v1.toNat)]:List A7)) r4)))) (br (decide ((r4.1.length:Int)<3)) (gd (decide (0≤v1)) (gd (decide (v1< (r4.1.length:Int))) (gd (decide (xs2.length+([(rd A3 r4.1 v1.toNat)]:List A7).length≤A5)) (L0 a1 (B5 (v1+1)) (xs2++([(rd A3 r4.1 v1.toNat)]:List A7)) r4)))) (L0 a1 (B5 (v1+1)) xs2 r4))) (gd (decide (xs2.length+([(a1,0,ByteArray.empty,())]:List A7).length≤A5)) (bd (Ah8 k a1) λr5=> (gd (decide ((⟨#[111,112,101,110,32]⟩:ByteArray).size+r5.size≤A5)) (bd (Bk2 k ((xs2++([(a1,0,ByteArray.empty,())]:List A7)),r4.2)) λr6=> (br (!r6) (some (([],([],[],[],()),[],()),(⟨#[]⟩:ByteArray),false)) (bd (A53 k ((xs2++([(a1,0,ByteArray.empty,())]:List A7)),r4.2)) λr7=> (some (r7,((⟨#[111,112,101,110,32]⟩:ByteArray)++r5),true)))))))))
def Ac0 (k:Nat) (L1:Int→ByteArray→Int→B7→List A7→List A0→List (List A1)→List Bool→List C3→Option (B4×ByteArray×Bool)) (L2:Int→A0→B7→List A7→Int→(A6×Bool)→List C3→Int→ByteArray→Option (B4×ByteArray×Bool)) (L3:ByteArray→Int→List Int→B7→List A7→Int→List A0→List (List A1)→List Bool→List C3→Int→ByteArray→Option (B4×ByteArray×Bool)) (a1:Int) (v3:ByteArray) (v4:Int) (a2:B7) (xs5:List A7) (xs6:List A0) (xs7:List (List A1)) (xs8:List Bool) (xs9:List C3):Option (B4×ByteArray×Bool):=(br (decide (v4< (xs5.length:Int))) (gd (decide (0≤v4)) (gd (decide (v4< (xs5.length:Int))) (br ((rd A3 xs5 v4.toNat).1==a2.2.1) (gd (decide (0≤v4)) (gd (decide (v4< (xs5.length:Int))) (br (decide (a2.2.2.1> (B5 ((rd A3 xs5 v4.toNat).2.1+1)))) (L1 a1 (⟨#[103,97,112]⟩:ByteArray) (B5 ((xs5.length:Int)+1)) a2 xs5 xs6 xs7 xs8 xs9) (br (decide (a2.2.2.1< (rd A3 xs5 v4.toNat).2.1)) (L1 a1 (⟨#[111,108,100]⟩:ByteArray) (B5 ((xs5.length:Int)+1)) a2 xs5 xs6 xs7 xs8 xs9) (br (a2.2.2.1==0) (L1 a1 (⟨#[111,108,100]⟩:ByteArray) (B5 ((xs5.length:Int)+1)) a2 xs5 xs6 xs7 xs8 xs9) (br (a2.2.2.1==(rd A3 xs5 v4.toNat).2.1) (L1 a1 (rd A3 xs5 v4.toNat).2.2.1 (B5 ((xs5.length:Int)+1)) a2 xs5 xs6 xs7 xs8 xs9) (br (a2.1==2) (bd (E02 k (xs6,xs7,xs8,()) a1 a2.2.2.2.1) λr8=> (bd (Bq5 k (xs6,xs7,xs8,()) r8) λr9=> (br (!r9.2) (gd (decide (0≤v4)) (gd (decide (v4< (xs5.length:Int))) (L1 a1 (⟨#[114,111,111,109]⟩:ByteArray) (B5 ((((xs5.set v4.toNat ((rd A3 xs5 v4.toNat).1,a2.2.2.1,(⟨#[114,111,111,109]⟩:ByteArray),())).length:Nat):Int)+1)) a2 (xs5.set v4.toNat ((rd A3 xs5 v4.toNat).1,a2.2.2.1,(⟨#[114,111,111,109]⟩:ByteArray),())) xs6 xs7 xs8 xs9))) (gd (decide (0≤(B5 ((r9.1.2.2.1.length:Int)-1)))) (gd (decide ((B5 ((r9.1.2.2.1.length:Int)-1))< (r9.1.2.2.1.length:Int))) (br (!(rd false r9.1.2.2.1 (B5 ((r9.1.2.2.1.length:Int)-1)).toNat)) (gd (decide (0≤v4)) (gd (decide (v4< (xs5.length:Int))) (L1 a1 (⟨#[100,101,110,105,101,100]⟩:ByteArray) (B5 ((((xs5.set v4.toNat ((rd A3 xs5 v4.toNat).1,a2.2.2.1,(⟨#[100,101,110,105,101,100]⟩:ByteArray),())).length:Nat):Int)+1)) a2 (xs5.set v4.toNat ((rd A3 xs5 v4.toNat).1,a2.2.2.1,(⟨#[100,101,110,105,101,100]⟩:ByteArray),())) xs6 xs7 xs8 xs9))) (L2 0 r8 a2 xs5 v4 r9 xs9 a1 v3))))))) (br (a2.1==3) (bd (Bq5 k (xs6,xs7,xs8,()) a2.2.2.2.1) λr11=> (br (!r11.2) (gd (decide (0≤v4)) (gd (decide (v4< (xs5.length:Int))) (L1 a1 (⟨#[114,111,111,109]⟩:ByteArray) (B5 ((((xs5.set v4.toNat ((rd A3 xs5 v4.toNat).1,a2.2.2.1,(⟨#[114,111,111,109]⟩:ByteArray),())).length:Nat):Int)+1)) a2 (xs5.set v4.toNat ((rd A3 xs5 v4.toNat).1,a2.2.2.1,(⟨#[114,111,111,109]⟩:ByteArray),())) xs6 xs7 xs8 xs9))) (gd (decide (0≤(B5 ((r11.1.2.2.1.length:Int)-1)))) (gd (decide ((B5 ((r11.1.2.2.1.length:Int)-1))< (r11.1.2.2.1.length:Int))) (br (rd false r11.1.2.2.1 (B5 ((r11.1.2.2.1.length:Int)-1)).toNat) (bd (Ah8 k a2.2.2.2.1.1) λr12=> (gd (decide ((⟨#[103,111,116,32]⟩:ByteArray).size+r12.size≤A5)) (gd (decide (0≤v4)) (gd (decide (v4< (xs5.length:Int))) (L1 a1 ((⟨#[103,111,116,32]⟩:ByteArray)++r12) (B5 ((((xs5.set v4.toNat ((rd A3 xs5 v4.toNat).1,a2.2.2.1,((⟨#[103,111,116,32]⟩:ByteArray)++r12),())).length:Nat):Int)+1)) a2 (xs5.set v4.toNat ((rd A3 xs5 v4.toNat).1,a2.2.2.1,((⟨#[103,111,116,32]⟩:ByteArray)++r12),())) r11.1.1 r11.1.2.1 r11.1.2.2.1 xs9))))) (bd (Ah8 k a2.2.2.2.1.1) λr13=> (gd (decide ((⟨#[107,101,112,116,32]⟩:ByteArray).size+r13.size≤A5)) (gd (decide (0≤v4)) (gd (decide (v4< (xs5.length:Int))) (L1 a1 ((⟨#[107,101,112,116,32]⟩:ByteArray)++r13) (B5 ((((xs5.set v4.toNat ((rd A3 xs5 v4.toNat).1,a2.2.2.1,((⟨#[107,101,112,116,32]⟩:ByteArray)++r13),())).length:Nat):Int)+1)) a2 (xs5.set v4.toNat ((rd A3 xs5 v4.toNat).1,a2.2.2.1,((⟨#[107,101,112,116,32]⟩:ByteArray)++r13),())) r11.1.1 r11.1.2.1 r11.1.2.2.1 xs9)))))))))) (br (a2.1==4) (gd (decide (0≤(B5 (a2.2.2.2.2.1-1)))) (gd (decide ((B5 (a2.2.2.2.2.1-1))< (xs9.length:Int))) (br (decide (a2.2.2.2.2.2.1> (((rd C1 xs9 (B5 (a2.2.2.2.2.1-1)).toNat).2.2.1.length:Nat):Int))) (br (decide ((((rd C1 xs9 (B5 (a2.2.2.2.2.1-1)).toNat).2.2.1.length:Nat):Int)> (rd C1 xs9 (B5 (a2.2.2.2.2.1-1)).toNat).2.1)) (gd (decide (0≤v4)) (gd (decide (v4< (xs5.length:Int))) (L1 a1 (⟨#[97,99,107,101,100]⟩:ByteArray) (B5 ((((xs5.set v4.toNat ((rd A3 xs5 v4.toNat).1,a2.2.2.1,(⟨#[97,99,107,101,100]⟩:ByteArray),())).length:Nat):Int)+1)) a2 (xs5.set v4.toNat ((rd A3 xs5 v4.toNat).1,a2.2.2.1,(⟨#[97,99,107,101,100]⟩:ByteArray),())) xs6 xs7 xs8 (xs9.set (B5 (a2.2.2.2.2.1-1)).toNat ((rd C1 xs9 (B5 (a2.2.2.2.2.1-1)).toNat).1,(((rd C1 xs9 (B5 (a2.2.2.2.2.1-1)).toNat).2.2.1.length:Nat):Int),(rd C1 xs9 (B5 (a2.2.2.2.2.1-1)).toNat).2.2))))) (gd (decide (0≤v4)) (gd (decide (v4< (xs5.length:Int))) (L1 a1 (⟨#[97,99,107,101,100]⟩:ByteArray) (B5 ((((xs5.set v4.toNat ((rd A3 xs5 v4.toNat).1,a2.2.2.1,(⟨#[97,99,107,101,100]⟩:ByteArray),())).length:Nat):Int)+1)) a2 (xs5.set v4.toNat ((rd A3 xs5 v4.toNat).1,a2.2.2.1,(⟨#[97,99,107,101,100]⟩:ByteArray),())) xs6 xs7 xs8 xs9)))) (br (decide (a2.2.2.2.2.2.1> (rd C1 xs9 (B5 (a2.2.2.2.2.1-1)).toNat).2.1)) (gd (decide (0≤v4)) (gd (decide (v4< (xs5.length:Int))) (L1 a1 (⟨#[97,99,107,101,100]⟩:ByteArray) (B5 ((((xs5.set v4.toNat ((rd A3 xs5 v4.toNat).1,a2.2.2.1,(⟨#[97,99,107,101,100]⟩:ByteArray),())).length:Nat):Int)+1)) a2 (xs5.set v4.toNat ((rd A3 xs5 v4.toNat).1,a2.2.2.1,(⟨#[97,99,107,101,100]⟩:ByteArray),())) xs6 xs7 xs8 (xs9.set (B5 (a2.2.2.2.2.1-1)).toNat ((rd C1 xs9 (B5 (a2.2.2.2.2.1-1)).toNat).1,a2.2.2.2.2.2.1,(rd C1 xs9 (B5 (a2.2.2.2.2.1-1)).toNat).2.2))))) (gd (decide (0≤v4)) (gd (decide (v4< (xs5.length:Int))) (L1 a1 (⟨#[97,99,107,101,100]⟩:ByteArray) (B5 ((((xs5.set v4.toNat ((rd A3 xs5 v4.toNat).1,a2.2.2.1,(⟨#[97,99,107,101,100]⟩:ByteArray),())).length:Nat):Int)+1)) a2 (xs5.set v4.toNat ((rd A3 xs5 v4.toNat).1,a2.2.2.1,(⟨#[97,99,107,101,100]⟩:ByteArray),())) xs6 xs7 xs8 xs9))))))) (bd (Di4 k (xs6,xs7,xs8,())) λr14=> (L3 (⟨#[105,110]⟩:ByteArray) 0 r14 a2 xs5 v4 xs6 xs7 xs8 xs9 a1 v3))))))))))) (L1 a1 v3 (B5 (v4+1)) a2 xs5 xs6 xs7 xs8 xs9)))) (bd (Bk2 k (xs5,(xs6,xs7,xs8,()),xs9,())) λr16=> (br (!r16) (some (([],([],[],[],()),[],()),(⟨#[]⟩:ByteArray),false)) (bd (A53 k (xs5,(xs6,xs7,xs8,()),xs9,())) λr17=> (some (r17,v3,true))))))
def A04 (k:Nat) (L2:Int→A0→B7→List A7→Int→(A6×Bool)→List C3→Int→ByteArray→Option (B4×ByteArray×Bool)) (L1:Int→ByteArray→Int→B7→List A7→List A0→List (List A1)→List Bool→List C3→Option (B4×ByteArray×Bool)) (v10:Int) (r8:A0) (a2:B7) (xs5:List A7) (v4:Int) (r9:A6×Bool) (xs11:List C3) (a1:Int) (v3:ByteArray):Option (B4×ByteArray×Bool):=(br (decide (v10< (xs11.length:Int))) (gd (decide (0≤v10)) (gd (decide (v10< (xs11.length:Int))) (gd (decide (([]:List Int).length+(rd C1 xs11 v10.toNat).2.2.1.length≤A5)) (gd (decide ((([]:List Int)++(rd C1 xs11 v10.toNat).2.2.1).length+ [r8.1].length≤A5)) (gd (decide (0≤v10)) (gd (decide (v10< (xs11.length:Int))) (L2 (B5 (v10+1)) r8 a2 xs5 v4 r9 (xs11.set v10.toNat ((rd C1 xs11 v10.toNat).1,(rd C1 xs11 v10.toNat).2.1,((([]:List Int)++(rd C1 xs11 v10.toNat).2.2.1)++ [r8.1]),())) a1 v3))))))) (bd (Ah8 k r8.1) λr10=> (gd (decide ((⟨#[115,101,110,116,32]⟩:ByteArray).size+r10.size≤A5)) (gd (decide (0≤v4)) (gd (decide (v4< (xs5.length:Int))) (L1 a1 ((⟨#[115,101,110,116,32]⟩:ByteArray)++r10) (B5 ((((xs5.set v4.toNat ((rd A3 xs5 v4.toNat).1,a2.2.2.1,((⟨#[115,101,110,116,32]⟩:ByteArray)++r10),())).length:Nat):Int)+1)) a2 (xs5.set v4.toNat ((rd A3 xs5 v4.toNat).1,a2.2.2.1,((⟨#[115,101,110,116,32]⟩:ByteArray)++r10),())) r9.1.1 r9.1.2.1 r9.1.2.2.1 xs11))))))
def A05 (k:Nat) (L3:ByteArray→Int→List Int→B7→List A7→Int→List A0→List (List A1)→List Bool→List C3→Int→ByteArray→Option (B4×ByteArray×Bool)) (L1:Int→ByteArray→Int→B7→List A7→List A0→List (List A1)→List Bool→List C3→Option (B4×ByteArray×Bool)) (v12:ByteArray) (v13:Int) (r14:List Int) (a2:B7) (xs5:List A7) (v4:Int) (xs6:List A0) (xs7:List (List A1)) (xs8:List Bool) (xs9:List C3) (a1:Int) (v3:ByteArray):Option (B4×ByteArray×Bool):=(br (decide (v13< (r14.length:Int))) (gd (decide (v12.size+(⟨#[32]⟩:ByteArray).size≤A5)) (gd (decide (0≤v13)) (gd (decide (v13< (r14.length:Int))) (bd (Ah8 k (rd 0 r14 v13.toNat)) λr15=> (gd (decide ((v12++(⟨#[32]⟩:ByteArray)).size+r15.size≤A5)) (L3 ((v12++(⟨#[32]⟩:ByteArray))++r15) (B5 (v13+1)) r14 a2 xs5 v4 xs6 xs7 xs8 xs9 a1 v3)))))) (gd (decide (0≤v4)) (gd (decide (v4< (xs5.length:Int))) (L1 a1 v12 (B5 ((((xs5.set v4.toNat ((rd A3 xs5 v4.toNat).1,a2.2.2.1,v12,())).length:Nat):Int)+1)) a2 (xs5.set v4.toNat ((rd A3 xs5 v4.toNat).1,a2.2.2.1,v12,())) xs6 xs7 xs8 xs9))))
def V8 (k:Nat):Nat→Int→Int→List A7→B4→Option (B4×ByteArray×Bool)
 |0,_,_,_,_=>none
 |n+1,a1,v1,xs2,r4=>Bq7 k (V8 k n) a1 v1 xs2 r4
def P0 (k:Nat):Nat→(Int→ByteArray→Int→B7→List A7→List A0→List (List A1)→List Bool→List C3→Option (B4×ByteArray×Bool))×(Int→A0→B7→List A7→Int→(A6×Bool)→List C3→Int→ByteArray→Option (B4×ByteArray×Bool))×(ByteArray→Int→List Int→B7→List A7→Int→List A0→List (List A1)→List Bool→List C3→Int→ByteArray→Option (B4×ByteArray×Bool))
 |0=> (λ_ _ _ _ _ _ _ _ _=>none,λ_ _ _ _ _ _ _ _ _=>none,λ_ _ _ _ _ _ _ _ _ _ _ _=>none)
 |n+1=> (Ac0 k (P0 k n).1 (P0 k n).2.1 (P0 k n).2.2,A04 k (P0 k n).2.1 (P0 k n).1,A05 k (P0 k n).2.2 (P0 k n).1)
def H6 (k:Nat) (n:Nat):Int→ByteArray→Int→B7→List A7→List A0→List (List A1)→List Bool→List C3→Option (B4×ByteArray×Bool):=(P0 k n).1
def Ac1 (k:Nat) (n:Nat):Int→A0→B7→List A7→Int→(A6×Bool)→List C3→Int→ByteArray→Option (B4×ByteArray×Bool):=(P0 k n).2.1
def Ac2 (k:Nat) (n:Nat):ByteArray→Int→List Int→B7→List A7→Int→List A0→List (List A1)→List Bool→List C3→Int→ByteArray→Option (B4×ByteArray×Bool):=(P0 k n).2.2
theorem Bq8 (k:Nat) (n:Nat) (a1:Int) (v3:ByteArray) (v4:Int) (a2:B7) (xs5:List A7) (xs6:List A0) (xs7:List (List A1)) (xs8:List Bool) (xs9:List C3):H6 k (n+1) a1 v3 v4 a2 xs5 xs6 xs7 xs8 xs9=Ac0 k (H6 k n) (Ac1 k n) (Ac2 k n) a1 v3 v4 a2 xs5 xs6 xs7 xs8 xs9:=rfl
theorem E03 (k:Nat) (n:Nat) (v10:Int) (r8:A0) (a2:B7) (xs5:List A7) (v4:Int) (r9:A6×Bool) (xs11:List C3) (a1:Int) (v3:ByteArray):Ac1 k (n+1) v10 r8 a2 xs5 v4 r9 xs11 a1 v3=A04 k (Ac1 k n) (H6 k n) v10 r8 a2 xs5 v4 r9 xs11 a1 v3:=rfl
theorem E04 (k:Nat) (n:Nat) (v12:ByteArray) (v13:Int) (r14:List Int) (a2:B7) (xs5:List A7) (v4:Int) (xs6:List A0) (xs7:List (List A1)) (xs8:List Bool) (xs9:List C3) (a1:Int) (v3:ByteArray):Ac2 k (n+1) v12 v13 r14 a2 xs5 v4 xs6 xs7 xs8 xs9 a1 v3=A05 k (Ac2 k n) (H6 k n) v12 v13 r14 a2 xs5 v4 xs6 xs7 xs8 xs9 a1 v3:=rfl
def Do1 (k:Nat) (L0:Int→Int→List A7→B4→Option (B4×ByteArray×Bool)) (L1:Int→ByteArray→Int→B7→List A7→List A0→List (List A1)→List Bool→List C3→Option (B4×ByteArray×Bool)) (a0:B4) (a1:Int) (a2:B7):Option (B4×ByteArray×Bool):=(bd (Bk2 k a0) λr1=> (br (!r1) (some (([],([],[],[],()),[],()),(⟨#[]⟩:ByteArray),false)) (bd (Ba1 k a2) λr2=> (br (!r2) (some (([],([],[],[],()),[],()),(⟨#[]⟩:ByteArray),false)) (bd (F9 k a1 1 400000) λr3=> (br (!r3) (some (([],([],[],[],()),[],()),(⟨#[]⟩:ByteArray),false)) (bd (Di2 k a0) λr4=> (br (a2.1==1) (L0 a1 0 ([]:List A7) r4) (L1 a1 (⟨#[110,111,110,101]⟩:ByteArray) 0 a2 r4.1 r4.2.1.1 r4.2.1.2.1 r4.2.1.2.2.1 r4.2.2.1)))))))))
def Bk5 (k:Nat) (a0:B4) (a1:Int) (a2:B7):Option (B4×ByteArray×Bool):=Do1 k (V8 k k) (H6 k k) a0 a1 a2
end
def Aw3 (k:Nat) (a0:A7):Option A7:=(some a0)
noncomputable section
def B18 (k:Nat) (L0:List A7→Int→List A7→Option (List A7)) (a0:List A7) (v1:Int) (xs2:List A7):Option (List A7):=(br (decide (v1< (a0.length:Int))) (gd (decide (0≤v1)) (gd (decide (v1< (a0.length:Int))) (bd (Aw3 k (rd A3 a0 v1.toNat)) λr1=> (gd (decide (0≤v1)) (gd (decide (v1< (xs2.length:Int))) (L0 a0 (B5 (v1+1)) (xs2.set v1.toNat r1))))))) (some xs2))
def Ag2 (k:Nat):Nat→List A7→Int→List A7→Option (List A7)
 |0,_,_,_=>none
 |n+1,a0,v1,xs2=>B18 k (Ag2 k n) a0 v1 xs2
def B74 (k:Nat) (L0:List A7→Int→List A7→Option (List A7)) (a0:List A7):Option (List A7):=(gd (decide ((a0.length:Int)=(a0.length:Int))) (gd (decide (0≤(a0.length:Int))) (gd (decide ((a0.length:Int).toNat≤A5)) (L0 a0 0 (List.replicate (a0.length:Int).toNat A3)))))
def Bq9 (k:Nat) (a0:List A7):Option (List A7):=B74 k (Ag2 k k) a0
end
noncomputable section
def Do2 (k:Nat) (L0:List Int→Int→List Int→Option (List Int)) (a0:List Int) (v1:Int) (xs2:List Int):Option (List Int):=(br (decide (v1< (a0.length:Int))) (gd (decide (0≤v1)) (gd (decide (v1< (a0.length:Int))) (gd (decide (0≤v1)) (gd (decide (v1< (xs2.length:Int))) (L0 a0 (B5 (v1+1)) (xs2.set v1.toNat (rd 0 a0 v1.toNat))))))) (some xs2))
def Ba4 (k:Nat):Nat→List Int→Int→List Int→Option (List Int)
 |0,_,_,_=>none
 |n+1,a0,v1,xs2=>Do2 k (Ba4 k n) a0 v1 xs2
def D86 (k:Nat) (L0:List Int→Int→List Int→Option (List Int)) (a0:List Int):Option (List Int):=(gd (decide ((a0.length:Int)=(a0.length:Int))) (gd (decide (0≤(a0.length:Int))) (gd (decide ((a0.length:Int).toNat≤A5)) (L0 a0 0 (List.replicate (a0.length:Int).toNat 0)))))
def B75 (k:Nat) (a0:List Int):Option (List Int):=D86 k (Ba4 k k) a0
end
def A30 (k:Nat) (a0:A0):Option A0:=(bd (B75 k a0.2.2.2.2.2.1) λr1=> (bd (B75 k a0.2.2.2.2.2.2.2.1) λr2=> (some (a0.1,a0.2.1,a0.2.2.1,a0.2.2.2.1,a0.2.2.2.2.1,r1,a0.2.2.2.2.2.2.1,r2,a0.2.2.2.2.2.2.2.2))))
noncomputable section
def Cn2 (k:Nat) (L0:List A0→Int→List A0→Option (List A0)) (a0:List A0) (v1:Int) (xs2:List A0):Option (List A0):=(br (decide (v1< (a0.length:Int))) (gd (decide (0≤v1)) (gd (decide (v1< (a0.length:Int))) (bd (A30 k (rd A4 a0 v1.toNat)) λr1=> (gd (decide (0≤v1)) (gd (decide (v1< (xs2.length:Int))) (L0 a0 (B5 (v1+1)) (xs2.set v1.toNat r1))))))) (some xs2))
def At9 (k:Nat):Nat→List A0→Int→List A0→Option (List A0)
 |0,_,_,_=>none
 |n+1,a0,v1,xs2=>Cn2 k (At9 k n) a0 v1 xs2
def C33 (k:Nat) (L0:List A0→Int→List A0→Option (List A0)) (a0:List A0):Option (List A0):=(gd (decide ((a0.length:Int)=(a0.length:Int))) (gd (decide (0≤(a0.length:Int))) (gd (decide ((a0.length:Int).toNat≤A5)) (L0 a0 0 (List.replicate (a0.length:Int).toNat A4)))))
def Cv0 (k:Nat) (a0:List A0):Option (List A0):=C33 k (At9 k k) a0
end
def B76 (k:Nat) (a0:A1):Option A1:=(some a0)
noncomputable section
def C34 (k:Nat) (L0:List A1→Int→List A1→Option (List A1)) (a0:List A1) (v1:Int) (xs2:List A1):Option (List A1):=(br (decide (v1< (a0.length:Int))) (gd (decide (0≤v1)) (gd (decide (v1< (a0.length:Int))) (bd (B76 k (rd C0 a0 v1.toNat)) λr1=> (gd (decide (0≤v1)) (gd (decide (v1< (xs2.length:Int))) (L0 a0 (B5 (v1+1)) (xs2.set v1.toNat r1))))))) (some xs2))
def A06 (k:Nat):Nat→List A1→Int→List A1→Option (List A1)
 |0,_,_,_=>none
 |n+1,a0,v1,xs2=>C34 k (A06 k n) a0 v1 xs2
def Do3 (k:Nat) (L0:List A1→Int→List A1→Option (List A1)) (a0:List A1):Option (List A1):=(gd (decide ((a0.length:Int)=(a0.length:Int))) (gd (decide (0≤(a0.length:Int))) (gd (decide ((a0.length:Int).toNat≤A5)) (L0 a0 0 (List.replicate (a0.length:Int).toNat C0)))))
def Cj2 (k:Nat) (a0:List A1):Option (List A1):=Do3 k (A06 k k) a0
end
noncomputable section
def Cn3 (k:Nat) (L0:List (List A1)→Int→List (List A1)→Option (List (List A1))) (a0:List (List A1)) (v1:Int) (xs2:List (List A1)):Option (List (List A1)):=(br (decide (v1< (a0.length:Int))) (gd (decide (0≤v1)) (gd (decide (v1< (a0.length:Int))) (bd (Cj2 k (rd [] a0 v1.toNat)) λr1=> (gd (decide (0≤v1)) (gd (decide (v1< (xs2.length:Int))) (L0 a0 (B5 (v1+1)) (xs2.set v1.toNat r1))))))) (some xs2))
def Au0 (k:Nat):Nat→List (List A1)→Int→List (List A1)→Option (List (List A1))
 |0,_,_,_=>none
 |n+1,a0,v1,xs2=>Cn3 k (Au0 k n) a0 v1 xs2
def C35 (k:Nat) (L0:List (List A1)→Int→List (List A1)→Option (List (List A1))) (a0:List (List A1)):Option (List (List A1)):=(gd (decide ((a0.length:Int)=(a0.length:Int))) (gd (decide (0≤(a0.length:Int))) (gd (decide ((a0.length:Int).toNat≤A5)) (L0 a0 0 (List.replicate (a0.length:Int).toNat [])))))
def Cv1 (k:Nat) (a0:List (List A1)):Option (List (List A1)):=C35 k (Au0 k k) a0
end
noncomputable section
def C36 (k:Nat) (L0:List Bool→Int→List Bool→Option (List Bool)) (a0:List Bool) (v1:Int) (xs2:List Bool):Option (List Bool):=(br (decide (v1< (a0.length:Int))) (gd (decide (0≤v1)) (gd (decide (v1< (a0.length:Int))) (gd (decide (0≤v1)) (gd (decide (v1< (xs2.length:Int))) (L0 a0 (B5 (v1+1)) (xs2.set v1.toNat (rd false a0 v1.toNat))))))) (some xs2))
def A07 (k:Nat):Nat→List Bool→Int→List Bool→Option (List Bool)
 |0,_,_,_=>none
 |n+1,a0,v1,xs2=>C36 k (A07 k n) a0 v1 xs2
def Do4 (k:Nat) (L0:List Bool→Int→List Bool→Option (List Bool)) (a0:List Bool):Option (List Bool):=(gd (decide ((a0.length:Int)=(a0.length:Int))) (gd (decide (0≤(a0.length:Int))) (gd (decide ((a0.length:Int).toNat≤A5)) (L0 a0 0 (List.replicate (a0.length:Int).toNat false)))))
def Di5 (k:Nat) (a0:List Bool):Option (List Bool):=Do4 k (A07 k k) a0
end
def C37 (k:Nat) (a0:A6):Option A6:=(bd (Cv0 k a0.1) λr1=> (bd (Cv1 k a0.2.1) λr2=> (bd (Di5 k a0.2.2.1) λr3=> (some (r1,r2,r3,())))))
def C38 (k:Nat) (a0:C3):Option C3:=(bd (B75 k a0.2.2.1) λr1=> (some (a0.1,a0.2.1,r1,())))
noncomputable section
def Do5 (k:Nat) (L0:List C3→Int→List C3→Option (List C3)) (a0:List C3) (v1:Int) (xs2:List C3):Option (List C3):=(br (decide (v1< (a0.length:Int))) (gd (decide (0≤v1)) (gd (decide (v1< (a0.length:Int))) (bd (C38 k (rd C1 a0 v1.toNat)) λr1=> (gd (decide (0≤v1)) (gd (decide (v1< (xs2.length:Int))) (L0 a0 (B5 (v1+1)) (xs2.set v1.toNat r1))))))) (some xs2))
def Ba5 (k:Nat):Nat→List C3→Int→List C3→Option (List C3)
 |0,_,_,_=>none
 |n+1,a0,v1,xs2=>Do5 k (Ba5 k n) a0 v1 xs2
def D87 (k:Nat) (L0:List C3→Int→List C3→Option (List C3)) (a0:List C3):Option (List C3):=(gd (decide ((a0.length:Int)=(a0.length:Int))) (gd (decide (0≤(a0.length:Int))) (gd (decide ((a0.length:Int).toNat≤A5)) (L0 a0 0 (List.replicate (a0.length:Int).toNat C1)))))
def D88 (k:Nat) (a0:List C3):Option (List C3):=D87 k (Ba5 k k) a0
end
def A54 (k:Nat) (a0:B4):Option B4:=(bd (Bq9 k a0.1) λr1=> (bd (C37 k a0.2.1) λr2=> (bd (D88 k a0.2.2.1) λr3=> (some (r1,r2,r3,())))))
def u7 (k:Nat) (a0:B7):Option B7:=(bd (A30 k a0.2.2.2.1) λr1=> (some (a0.1,a0.2.1,a0.2.2.1,r1,a0.2.2.2.2)))
def F7 (k:Nat) (a0:Int) (a1:Int) (a2:Int):Option Bool:=(br (decide (a0≥a1)) (some (decide (a0≤a2))) (some false))
noncomputable section
def Au1 (k:Nat) (L0:A0→Int→Option Bool) (a0:A0) (v1:Int):Option Bool:=(br (decide (v1< (a0.2.2.2.2.2.1.length:Int))) (gd (decide (0≤v1)) (gd (decide (v1< (a0.2.2.2.2.2.1.length:Int))) (bd (F7 k (rd 0 a0.2.2.2.2.2.1 v1.toNat) 0 100) λr1=> (br (!r1) (some false) (L0 a0 (B5 (v1+1))))))) (some ((a0.2.2.2.2.2.1.length:Int)==5)))
def X2 (k:Nat):Nat→A0→Int→Option Bool
 |0,_,_=>none
 |n+1,a0,v1=>Au1 k (X2 k n) a0 v1
def Br0 (k:Nat) (L0:A0→Int→Option Bool) (a0:A0):Option Bool:=(br (a0.2.1 !=3) (some ((a0.2.2.2.2.2.1.length:Int)==0)) (L0 a0 0))
def Br1 (k:Nat) (a0:A0):Option Bool:=Br0 k (X2 k k) a0
end
noncomputable section
def Ba6 (k:Nat) (L0:A0→Int→Option Bool) (a0:A0) (v1:Int):Option Bool:=(br (decide (v1< (a0.2.2.2.2.2.2.2.1.length:Int))) (gd (decide (0≤v1)) (gd (decide (v1< (a0.2.2.2.2.2.2.2.1.length:Int))) (bd (F7 k (rd 0 a0.2.2.2.2.2.2.2.1 v1.toNat) 1 1000000) λr1=> (br (!r1) (some false) (br ((rd 0 a0.2.2.2.2.2.2.2.1 v1.toNat)==a0.1) (some false) (br (decide (v1>0)) (gd (decide (0≤(B5 (v1-1)))) (gd (decide ((B5 (v1-1))< (a0.2.2.2.2.2.2.2.1.length:Int))) (br (decide ((rd 0 a0.2.2.2.2.2.2.2.1 (B5 (v1-1)).toNat)≥(rd 0 a0.2.2.2.2.2.2.2.1 v1.toNat))) (some false) (L0 a0 (B5 (v1+1)))))) (L0 a0 (B5 (v1+1))))))))) (br (decide ((a0.2.2.2.2.2.2.2.1.length:Int)≤3)) (some ((a0.2.1==1)==((a0.2.2.2.2.2.2.2.1.length:Int)==0))) (some false)))
def Ai0 (k:Nat):Nat→A0→Int→Option Bool
 |0,_,_=>none
 |n+1,a0,v1=>Ba6 k (Ai0 k n) a0 v1
def D89 (k:Nat) (L0:A0→Int→Option Bool) (a0:A0):Option Bool:=(L0 a0 0)
def C39 (k:Nat) (a0:A0):Option Bool:=D89 k (Ai0 k k) a0
end
def Ac3 (k:Nat) (a0:A0):Option Bool:=(bd (F7 k a0.1 1 1000000) λr1=> (br (!r1) (some false) (bd (F7 k a0.2.1 1 5) λr2=> (br (!r2) (some false) (bd (F7 k a0.2.2.1 1 5) λr3=> (br (!r3) (some false) (bd (F7 k a0.2.2.2.2.2.2.2.2.1 0 1000000) λr4=> (br (!r4) (some false) (bd (Br1 k a0) λr5=> (br (!r5) (some false) (bd (C39 k a0) λr6=> (br (!r6) (some false) (br (a0.2.1==2) (bd (F7 k a0.2.2.2.1 1 5) λr7=> (br r7 (bd (F7 k a0.2.2.2.2.1 0 3) λr8=> (br r8 (some (a0.2.2.2.2.2.2.1.toList==(⟨#[]⟩:ByteArray).toList)) (some false))) (some false))) (br (a0.2.1==4) (br (a0.2.2.2.1==0) (br (a0.2.2.2.2.1==0) (br (decide ((a0.2.2.2.2.2.2.1.size:Int)≤24)) (some true) (some false)) (some false)) (some false)) (br (a0.2.2.2.1==0) (br (a0.2.2.2.2.1==0) (br (decide ((a0.2.2.2.2.2.2.1.size:Int)≤24)) (br (a0.2.1==5) (some true) (some (a0.2.2.2.2.2.2.1.toList==(⟨#[]⟩:ByteArray).toList))) (some false)) (some false)) (some false))))))))))))))))
def P5 (k:Nat) (a0:A0):Option A0:=(gd (decide (a0.2.2.2.2.2.1.length≤A5)) (gd (decide (a0.2.2.2.2.2.2.2.1.length≤A5)) (some a0)))
def V9 (k:Nat) (a0:List A1):Option (List A1):=(gd (decide (a0.length≤A5)) (some a0))
noncomputable section
def Bf2 (k:Nat) (L1:A6→Int→List A0→List (List A1)→Option A6) (a0:A6) (v3:Int) (xs2:List A0) (xs4:List (List A1)):Option A6:=(br (decide (v3< (a0.2.1.length:Int))) (gd (decide (0≤v3)) (gd (decide (v3< (a0.2.1.length:Int))) (bd (V9 k (rd [] a0.2.1 v3.toNat)) λr2=> (gd (decide (xs4.length+([r2]:List (List A1)).length≤A5)) (L1 a0 (B5 (v3+1)) xs2 (xs4++([r2]:List (List A1)))))))) (some (xs2,xs4,a0.2.2)))
def Bf3 (k:Nat) (L0:A6→Int→List A0→Option A6) (L1:A6→Int→List A0→List (List A1)→Option A6) (a0:A6) (v1:Int) (xs2:List A0):Option A6:=(br (decide (v1< (a0.1.length:Int))) (gd (decide (0≤v1)) (gd (decide (v1< (a0.1.length:Int))) (bd (P5 k (rd A4 a0.1 v1.toNat)) λr1=> (gd (decide (xs2.length+([r1]:List A0).length≤A5)) (L0 a0 (B5 (v1+1)) (xs2++([r1]:List A0))))))) (L1 a0 0 xs2 []))
def m8 (k:Nat):Nat→A6→Int→List A0→List (List A1)→Option A6
 |0,_,_,_,_=>none
 |n+1,a0,v3,xs2,xs4=>Bf2 k (m8 k n) a0 v3 xs2 xs4
def m9 (k:Nat):Nat→A6→Int→List A0→Option A6
 |0,_,_,_=>none
 |n+1,a0,v1,xs2=>Bf3 k (m9 k n) (m8 k n) a0 v1 xs2
def C40 (k:Nat) (L0:A6→Int→List A0→Option A6) (a0:A6):Option A6:=(gd (decide (a0.2.2.1.length≤A5)) (L0 a0 0 []))
def Ag4 (k:Nat) (a0:A6):Option A6:=C40 k (m9 k k) a0
end
noncomputable section
def Br2 (k:Nat) (L0:Int→List A0→Int→Option (A0×Bool)) (a1:Int) (a0:List A0) (v1:Int):Option (A0×Bool):=(br (decide (v1< (a0.length:Int))) (gd (decide (0≤v1)) (gd (decide (v1< (a0.length:Int))) (br ((rd A4 a0 v1.toNat).1==a1) (bd (P5 k (rd A4 a0 v1.toNat)) λr1=> (some (r1,true))) (L0 a1 a0 (B5 (v1+1)))))) (some ((0,0,0,0,0,[],ByteArray.empty,[],0,()),false)))
def Aq7 (k:Nat):Nat→Int→List A0→Int→Option (A0×Bool)
 |0,_,_,_=>none
 |n+1,a1,a0,v1=>Br2 k (Aq7 k n) a1 a0 v1
def Et2 (k:Nat) (L0:Int→List A0→Int→Option (A0×Bool)) (a0:List A0) (a1:Int):Option (A0×Bool):=(L0 a1 a0 0)
def Ba7 (k:Nat) (a0:List A0) (a1:Int):Option (A0×Bool):=Et2 k (Aq7 k k) a0 a1
end
noncomputable section
def Br3 (k:Nat) (L0:Int→List Int→Int→A6→Option Int) (v1:Int) (a1:List Int) (v2:Int) (a0:A6):Option Int:=(br (decide (v2< (a1.length:Int))) (gd (decide (0≤v2)) (gd (decide (v2< (a1.length:Int))) (bd (Ba7 k a0.1 (rd 0 a1 v2.toNat)) λr1=> (br r1.2 (L0 (if r1.1.2.2.2.2.2.2.2.2.1>v1 then r1.1.2.2.2.2.2.2.2.2.1 else v1) a1 (B5 (v2+1)) a0) (L0 v1 a1 (B5 (v2+1)) a0))))) (some (B5 ((if 1000000<v1 then 1000000 else v1)+1))))
def Ac4 (k:Nat):Nat→Int→List Int→Int→A6→Option Int
 |0,_,_,_,_=>none
 |n+1,v1,a1,v2,a0=>Br3 k (Ac4 k n) v1 a1 v2 a0
def Do6 (k:Nat) (L0:Int→List Int→Int→A6→Option Int) (a0:A6) (a1:List Int):Option Int:=(L0 (-1) a1 0 a0)
def Ac5 (k:Nat) (a0:A6) (a1:List Int):Option Int:=Do6 k (Ac4 k k) a0 a1
end
noncomputable section
def A08 (k:Nat) (L0:A6→Int→Int→Option Int) (a0:A6) (v1:Int) (a1:Int):Option Int:=(br (decide (v1< (a0.1.length:Int))) (gd (decide (0≤v1)) (gd (decide (v1< (a0.1.length:Int))) (br ((rd A4 a0.1 v1.toNat).1==a1) (some v1) (L0 a0 (B5 (v1+1)) a1)))) (some (-1)))
def Ac6 (k:Nat):Nat→A6→Int→Int→Option Int
 |0,_,_,_=>none
 |n+1,a0,v1,a1=>A08 k (Ac6 k n) a0 v1 a1
def Do7 (k:Nat) (L0:A6→Int→Int→Option Int) (a0:A6) (a1:Int):Option Int:=(L0 a0 0 a1)
def Cj3 (k:Nat) (a0:A6) (a1:Int):Option Int:=Do7 k (Ac6 k k) a0 a1
end
noncomputable section
def D20 (k:Nat) (L0:Int→List A1→Int→Option Int) (a1:Int) (a0:List A1) (v1:Int):Option Int:=(br (decide (v1< (a0.length:Int))) (gd (decide (0≤v1)) (gd (decide (v1< (a0.length:Int))) (br ((rd C0 a0 v1.toNat).1==a1) (some (rd C0 a0 v1.toNat).2.1) (L0 a1 a0 (B5 (v1+1)))))) (some 0))
def Cj4 (k:Nat):Nat→Int→List A1→Int→Option Int
 |0,_,_,_=>none
 |n+1,a1,a0,v1=>D20 k (Cj4 k n) a1 a0 v1
def Gh0 (k:Nat) (L0:Int→List A1→Int→Option Int) (a0:List A1) (a1:Int):Option Int:=(L0 a1 a0 0)
def Fr3 (k:Nat) (a0:List A1) (a1:Int):Option Int:=Gh0 k (Cj4 k k) a0 a1
end
def Cj5 (k:Nat) (a0:List A0) (a1:List A1) (a2:Int):Option (A0×Bool):=(bd (Fr3 k a1 a2) λr1=> (br (r1==0) (some ((0,0,0,0,0,[],ByteArray.empty,[],0,()),false)) (bd (Ba7 k a0 r1) λr2=> (some (r2.1,r2.2)))))
def Aq8 (k:Nat) (a0:List A0) (a1:List A1) (a2:Int):Option Int:=(bd (F7 k a2 1 5) λr1=> (br (!r1) (some 0) (bd (Cj5 k a0 a1 (B5 (10+a2))) λr2=> (br (!r2.2) (some 0) (br (r2.1.2.1 !=2) (some 0) (br (r2.1.2.2.2.1 !=a2) (some 0) (some r2.1.2.2.2.2.1)))))))
def Ai1 (k:Nat) (a0:List A0) (a1:List A1) (a2:Int):Option Bool:=(bd (Cj5 k a0 a1 1) λr1=> (br r1.2 (br (r1.1.2.1==1) (some (r1.1.2.2.1==a2)) (some false)) (some false)))
def Y3 (k:Nat) (a0:List A0) (a1:List A1) (a2:Int):Option Int:=(bd (F7 k a2 1 5) λr1=> (br (!r1) (some 0) (bd (Cj5 k a0 a1 2) λr2=> (br r2.2 (br (r2.1.2.1==3) (br ((r2.1.2.2.2.2.2.1.length:Int)==5) (gd (decide (0≤(B5 (a2-1)))) (gd (decide ((B5 (a2-1))< (r2.1.2.2.2.2.2.1.length:Int))) (some (rd 0 r2.1.2.2.2.2.2.1 (B5 (a2-1)).toNat)))) (bd (Ai1 k a0 a1 a2) λr3=> (br r3 (some 100) (some 0)))) (bd (Ai1 k a0 a1 a2) λr4=> (br r4 (some 100) (some 0)))) (bd (Ai1 k a0 a1 a2) λr5=> (br r5 (some 100) (some 0)))))))
noncomputable section
def b9 (k:Nat) (L0:List A1→Int→A0→List A0→Int→Int→Bool→Option Bool) (a1:List A1) (v1:Int) (a2:A0) (a0:List A0) (r1:Int) (r2:Int) (r3:Bool):Option Bool:=(br (decide (v1< (a1.length:Int))) (gd (decide (0≤v1)) (gd (decide (v1< (a1.length:Int))) (br (decide ((rd C0 a1 v1.toNat).1>10)) (br (a2.2.2.2.2.1==2) (some true) (br (a2.2.2.2.2.1==0) (some true) (some false))) (L0 a1 (B5 (v1+1)) a2 a0 r1 r2 r3)))) (br (a2.2.2.2.2.1==2) (some true) (br (a2.2.2.2.2.1==0) (some true) (some false))))
def c9 (k:Nat) (L1:List A1→Int→A0→List A0→Int→Int→Bool→Option Bool) (a1:List A1) (v2:Int) (a2:A0) (a0:List A0) (r1:Int) (r2:Int) (r6:Bool):Option Bool:=(br (decide (v2< (a1.length:Int))) (gd (decide (0≤v2)) (gd (decide (v2< (a1.length:Int))) (br (decide ((rd C0 a1 v2.toNat).1>10)) (br (a2.2.2.2.2.1==2) (br (r2==2) (some true) (br (!(decide (v2≥0))) (some true) (br (a2.2.2.2.2.1==0) (some (r2==2)) (some false)))) (br (a2.2.2.2.2.1==0) (some (r2==2)) (some false))) (L1 a1 (B5 (v2+1)) a2 a0 r1 r2 r6)))) (br (a2.2.2.2.2.1==2) (br (r2==2) (some true) (some true)) (br (a2.2.2.2.2.1==0) (some (r2==2)) (some false))))
def O4 (k:Nat):Nat→List A1→Int→A0→List A0→Int→Int→Bool→Option Bool
 |0,_,_,_,_,_,_,_=>none
 |n+1,a1,v1,a2,a0,r1,r2,r3=>b9 k (O4 k n) a1 v1 a2 a0 r1 r2 r3
def O5 (k:Nat):Nat→List A1→Int→A0→List A0→Int→Int→Bool→Option Bool
 |0,_,_,_,_,_,_,_=>none
 |n+1,a1,v2,a2,a0,r1,r2,r6=>c9 k (O5 k n) a1 v2 a2 a0 r1 r2 r6
def Ba8 (k:Nat) (L0:List A1→Int→A0→List A0→Int→Int→Bool→Option Bool) (L1:List A1→Int→A0→List A0→Int→Int→Bool→Option Bool) (a0:List A0) (a1:List A1) (a2:A0):Option Bool:=(bd (Aq8 k a0 a1 a2.2.2.1) λr1=> (bd (Aq8 k a0 a1 a2.2.2.2.1) λr2=> (br (r2==1) (br (a2.2.2.1==a2.2.2.2.1) (bd (Ai1 k a0 a1 a2.2.2.2.1) λr3=> (br r3 (L0 a1 0 a2 a0 r1 r2 r3) (br (a2.2.2.2.2.1==2) (some true) (br (a2.2.2.2.2.1==0) (some true) (some false))))) (br (r1 !=2) (some false) (bd (Y3 k a0 a1 a2.2.2.1) λr4=> (br (decide (r4≥50)) (bd (Y3 k a0 a1 a2.2.2.2.1) λr5=> (br (a2.2.2.2.2.1==1) (some (r2==0)) (br (a2.2.2.2.2.1==0) (some (decide (r4>r5))) (br (a2.2.2.2.2.1==3) (br (r2 !=3) (some (decide (r4>r5))) (some false)) (some false))))) (br (a2.2.2.2.2.1==1) (some (r2==0)) (br (a2.2.2.2.2.1==0) (some false) (br (a2.2.2.2.2.1==3) (br (r2 !=3) (some false) (some false)) (some false)))))))) (br (a2.2.2.1==a2.2.2.2.1) (bd (Ai1 k a0 a1 a2.2.2.2.1) λr6=> (br r6 (L1 a1 0 a2 a0 r1 r2 r6) (br (a2.2.2.2.2.1==2) (br (r2==2) (some true) (br (a2.2.2.2.2.1==0) (some (r2==2)) (some false))) (br (a2.2.2.2.2.1==0) (some (r2==2)) (some false))))) (br (r1 !=2) (some false) (bd (Y3 k a0 a1 a2.2.2.1) λr7=> (br (decide (r7≥50)) (bd (Y3 k a0 a1 a2.2.2.2.1) λr8=> (br (a2.2.2.2.2.1==1) (some (r2==0)) (br (a2.2.2.2.2.1==0) (br (r2==2) (some (decide (r7>r8))) (some false)) (br (a2.2.2.2.2.1==3) (br (r2 !=3) (some (decide (r7>r8))) (some false)) (some false))))) (br (a2.2.2.2.2.1==1) (some (r2==0)) (br (a2.2.2.2.2.1==0) (br (r2==2) (some false) (some false)) (br (a2.2.2.2.2.1==3) (br (r2 !=3) (some false) (some false)) (some false)))))))))))
def Ax5 (k:Nat) (a0:List A0) (a1:List A1) (a2:A0):Option Bool:=Ba8 k (O4 k k) (O5 k k) a0 a1 a2
end
noncomputable section
def Al2 (k:Nat) (L0:List A0→List A1→Int→A0→Int→Option Bool) (a0:List A0) (a1:List A1) (r1:Int) (a2:A0) (v1:Int):Option Bool:=(br (decide (v1< (a2.2.2.2.2.2.1.length:Int))) (gd (decide (0≤v1)) (gd (decide (v1< (a2.2.2.2.2.2.1.length:Int))) (bd (Y3 k a0 a1 (B5 (v1+1))) λr2=> (br ((rd 0 a2.2.2.2.2.2.1 v1.toNat) !=r2) (br (decide ((rd 0 a2.2.2.2.2.2.1 v1.toNat)>r1)) (some false) (br (decide (r2≥r1)) (br ((B5 (v1+1)) !=a2.2.2.1) (some false) (L0 a0 a1 r1 a2 (B5 (v1+1)))) (L0 a0 a1 r1 a2 (B5 (v1+1))))) (L0 a0 a1 r1 a2 (B5 (v1+1))))))) (some (decide (r1≥50))))
def N6 (k:Nat):Nat→List A0→List A1→Int→A0→Int→Option Bool
 |0,_,_,_,_,_=>none
 |n+1,a0,a1,r1,a2,v1=>Al2 k (N6 k n) a0 a1 r1 a2 v1
def Bk6 (k:Nat) (L0:List A0→List A1→Int→A0→Int→Option Bool) (a0:List A0) (a1:List A1) (a2:A0):Option Bool:=(bd (Y3 k a0 a1 a2.2.2.1) λr1=> (L0 a0 a1 r1 a2 0))
def A55 (k:Nat) (a0:List A0) (a1:List A1) (a2:A0):Option Bool:=Bk6 k (N6 k k) a0 a1 a2
end
def Cj6 (k:Nat) (a0:List A0) (a1:List A1) (a2:A0):Option Bool:=(bd (Ac3 k a2) λr1=> (br (!r1) (some false) (br (a2.2.1==1) (some ((a1.length:Int)==0)) (bd (Cj5 k a0 a1 1) λr2=> (br (!r2.2) (some false) (br (r2.1.2.1 !=1) (some false) (br (a2.2.1==2) (bd (Ax5 k a0 a1 a2) λr3=> (some r3)) (bd (Aq8 k a0 a1 a2.2.2.1) λr4=> (br (r4 !=2) (some false) (br (a2.2.1==3) (bd (A55 k a0 a1 a2) λr5=> (some r5)) (br (a2.2.1==4) (bd (Y3 k a0 a1 a2.2.2.1) λr6=> (some (decide (r6≥50)))) (some true))))))))))))
def Cj7 (k:Nat) (a0:A0):Option Int:=(br (a0.2.1==1) (some 1) (br (a0.2.1==3) (some 2) (br (a0.2.1==4) (some 3) (br (a0.2.1==2) (bd (F7 k a0.2.2.2.1 1 5) λr1=> (br r1 (some (B5 (10+a0.2.2.2.1))) (some 0))) (some 0)))))
def D8 (k:Nat) (a0:List A1) (a1:Int) (a2:List A1):Option (List A1):=Fp0 a0 a1 a2
noncomputable section
def Br4 (k:Nat) (L0:List A1→Int→Option Bool) (a0:List A1) (v1:Int):Option Bool:=(br (decide (v1< (a0.length:Int))) (gd (decide (0≤v1)) (gd (decide (v1< (a0.length:Int))) (bd (F7 k (rd C0 a0 v1.toNat).1 1 3) λr1=> (br (!r1) (bd (F7 k (rd C0 a0 v1.toNat).1 11 15) λr2=> (br (!r2) (some false) (bd (F7 k (rd C0 a0 v1.toNat).2.1 1 1000000) λr3=> (br (!r3) (some false) (br (decide (v1>0)) (gd (decide (0≤(B5 (v1-1)))) (gd (decide ((B5 (v1-1))< (a0.length:Int))) (br (decide ((rd C0 a0 (B5 (v1-1)).toNat).1≥(rd C0 a0 v1.toNat).1)) (some false) (L0 a0 (B5 (v1+1)))))) (L0 a0 (B5 (v1+1)))))))) (bd (F7 k (rd C0 a0 v1.toNat).2.1 1 1000000) λr4=> (br (!r4) (some false) (br (decide (v1>0)) (gd (decide (0≤(B5 (v1-1)))) (gd (decide ((B5 (v1-1))< (a0.length:Int))) (br (decide ((rd C0 a0 (B5 (v1-1)).toNat).1≥(rd C0 a0 v1.toNat).1)) (some false) (L0 a0 (B5 (v1+1)))))) (L0 a0 (B5 (v1+1)))))))))) (some (decide ((a0.length:Int)≤8))))
def R7 (k:Nat):Nat→List A1→Int→Option Bool
 |0,_,_=>none
 |n+1,a0,v1=>Br4 k (R7 k n) a0 v1
def Do8 (k:Nat) (L0:List A1→Int→Option Bool) (a0:List A1):Option Bool:=(L0 a0 0)
def M0 (k:Nat) (a0:List A1):Option Bool:=Do8 k (R7 k k) a0
end
noncomputable section
def D90 (k:Nat) (L0:List A1→Int→Int→Int→Option (List A1)) (a0:List A1) (a1:Int) (a2:Int) (v1:Int):Option (List A1):=(br (decide (v1< (a0.length:Int))) (gd (decide (0≤v1)) (gd (decide (v1< (a0.length:Int))) (br (decide ((rd C0 a0 v1.toNat).1<a1)) (L0 a0 a1 a2 (B5 (v1+1))) (br (decide (v1< (a0.length:Int))) (gd (decide (0≤v1)) (gd (decide (v1< (a0.length:Int))) (br ((rd C0 a0 v1.toNat).1==a1) (gd (decide (0≤v1)) (gd (decide (v1< (a0.length:Int))) (bd (M0 k a0) λr1=> (br (!r1) (gd (decide (a0.length≤A5)) (some a0)) (bd (M0 k (a0.set v1.toNat ((rd C0 a0 v1.toNat).1,a2,()))) λr2=> (br (!r2) (gd (decide (a0.length≤A5)) (some a0)) (some (a0.set v1.toNat ((rd C0 a0 v1.toNat).1,a2,()))))))))) (bd (D8 k a0 v1 ([(a1,a2,())]:List A1)) λr3=> (bd (M0 k a0) λr4=> (br (!r4) (gd (decide (a0.length≤A5)) (some a0)) (bd (M0 k r3) λr5=> (br (!r5) (gd (decide (a0.length≤A5)) (some a0)) (some r3))))))))) (bd (D8 k a0 v1 ([(a1,a2,())]:List A1)) λr6=> (bd (M0 k a0) λr7=> (br (!r7) (gd (decide (a0.length≤A5)) (some a0)) (bd (M0 k r6) λr8=> (br (!r8) (gd (decide (a0.length≤A5)) (some a0)) (some r6)))))))))) (br (decide (v1< (a0.length:Int))) (gd (decide (0≤v1)) (gd (decide (v1< (a0.length:Int))) (br ((rd C0 a0 v1.toNat).1==a1) (gd (decide (0≤v1)) (gd (decide (v1< (a0.length:Int))) (bd (M0 k a0) λr9=> (br (!r9) (gd (decide (a0.length≤A5)) (some a0)) (bd (M0 k (a0.set v1.toNat ((rd C0 a0 v1.toNat).1,a2,()))) λr10=> (br (!r10) (gd (decide (a0.length≤A5)) (some a0)) (some (a0.set v1.toNat ((rd C0 a0 v1.toNat).1,a2,()))))))))) (bd (D8 k a0 v1 ([(a1,a2,())]:List A1)) λr11=> (bd (M0 k a0) λr12=> (br (!r12) (gd (decide (a0.length≤A5)) (some a0)) (bd (M0 k r11) λr13=> (br (!r13) (gd (decide (a0.length≤A5)) (some a0)) (some r11))))))))) (bd (D8 k a0 v1 ([(a1,a2,())]:List A1)) λr14=> (bd (M0 k a0) λr15=> (br (!r15) (gd (decide (a0.length≤A5)) (some a0)) (bd (M0 k r14) λr16=> (br (!r16) (gd (decide (a0.length≤A5)) (some a0)) (some r14))))))))
def Bk7 (k:Nat):Nat→List A1→Int→Int→Int→Option (List A1)
 |0,_,_,_,_=>none
 |n+1,a0,a1,a2,v1=>D90 k (Bk7 k n) a0 a1 a2 v1
def F15 (k:Nat) (L0:List A1→Int→Int→Int→Option (List A1)) (a0:List A1) (a1:Int) (a2:Int):Option (List A1):=(gd (decide (a0.length≤A5)) (L0 a0 a1 a2 0))
def F16 (k:Nat) (a0:List A1) (a1:Int) (a2:Int):Option (List A1):=F15 k (Bk7 k k) a0 a1 a2
end
def J8 (k:Nat) (a0:List Int):Option (Unit×List Int×Unit):=Dl2 a0
noncomputable section
def Do9 (k:Nat) (L3:Int→Int→Int→List Int→List (List A1)→Int→Option (List Int)) (v6:Int) (v5:Int) (v7:Int) (xs8:List Int) (a0:List (List A1)) (v1:Int):Option (List Int):=(br (decide (v7< (((xs8.length-v5.toNat):Nat):Int))) (gd (decide (0≤v7)) (gd (decide (v7< (((xs8.length-v5.toNat):Nat):Int))) (gd (decide (0≤(B5 (v7-1)))) (gd (decide ((B5 (v7-1))< (((xs8.length-v5.toNat):Nat):Int))) (br ((rd 0 xs8 (v5.toNat+v7.toNat)) !=(rd 0 xs8 (v5.toNat+(B5 (v7-1)).toNat))) (gd (decide (0≤v7)) (gd (decide (v7< (((xs8.length-v5.toNat):Nat):Int))) (gd (decide (0≤v6)) (gd (decide (v6< (xs8.length:Int))) (L3 (B5 (v6+1)) v5 (B5 (v7+1)) (xs8.set v6.toNat (rd 0 xs8 (v5.toNat+v7.toNat))) a0 v1))))) (L3 v6 v5 (B5 (v7+1)) xs8 a0 v1)))))) (gd (decide (0≤v6)) (gd (decide (v6≤(xs8.length:Int))) (gd (decide (0≤v6)) (gd (decide (v6≤(((clr 0 (some v6.toNat) none xs8).length:Nat):Int))) (some ((clr 0 (some v6.toNat) none xs8).take (0+v6.toNat))))))))
def Dp0 (k:Nat) (L3:Int→Int→Int→List Int→List (List A1)→Int→Option (List Int)) (L2:Int→(Unit×List Int×Unit)→List (List A1)→Int→Option (List Int)) (v5:Int) (r2:Unit×List Int×Unit) (a0:List (List A1)) (v1:Int):Option (List Int):=(br (decide (v5< (r2.2.1.length:Int))) (gd (decide (0≤v5)) (gd (decide (v5< (r2.2.1.length:Int))) (gd (decide (0≤(B5 (v5-1)))) (gd (decide ((B5 (v5-1))< (r2.2.1.length:Int))) (br ((rd 0 r2.2.1 v5.toNat)==(rd 0 r2.2.1 (B5 (v5-1)).toNat)) (gd (decide (0≤v5)) (gd (decide (v5≤(r2.2.1.length:Int))) (L3 v5 v5 1 r2.2.1 a0 v1))) (L2 (B5 (v5+1)) r2 a0 v1)))))) (some r2.2.1))
def Ba9 (k:Nat) (L1:List (List A1)→Int→Int→List Int→Option (List Int)) (L2:Int→(Unit×List Int×Unit)→List (List A1)→Int→Option (List Int)) (a0:List (List A1)) (v1:Int) (xs2:List Int):Option (List Int):=(br (decide (v1< (a0.length:Int))) (gd (decide (0≤v1)) (gd (decide (v1< (a0.length:Int))) (L1 a0 v1 0 xs2))) (bd (J8 k xs2) λr2=> (gd (Nat.beq r2.2.1.length xs2.length) (br (decide ((r2.2.1.length:Int)<2)) (some r2.2.1) (L2 1 r2 a0 v1)))))
def Bb0 (k:Nat) (L1:List (List A1)→Int→Int→List Int→Option (List Int)) (L0:List (List A1)→Int→List Int→Option (List Int)) (a0:List (List A1)) (v1:Int) (v3:Int) (xs4:List Int):Option (List Int):=(br (decide (v3< (((rd [] a0 v1.toNat).length:Nat):Int))) (gd (decide (0≤v3)) (gd (decide (v3< (((rd [] a0 v1.toNat).length:Nat):Int))) (bd (F7 k (rd C0 (rd [] a0 v1.toNat) v3.toNat).1 0 15) λr1=> (br r1 (gd (decide (xs4.length+ [(rd C0 (rd [] a0 v1.toNat) v3.toNat).1].length≤A5)) (L1 a0 v1 (B5 (v3+1)) (xs4++ [(rd C0 (rd [] a0 v1.toNat) v3.toNat).1]))) (L1 a0 v1 (B5 (v3+1)) xs4))))) (L0 a0 (B5 (v1+1)) xs4))
def Bb1 (k:Nat):Nat→Int→Int→Int→List Int→List (List A1)→Int→Option (List Int)
 |0,_,_,_,_,_,_=>none
 |n+1,v6,v5,v7,xs8,a0,v1=>Do9 k (Bb1 k n) v6 v5 v7 xs8 a0 v1
def Ai2 (k:Nat):Nat→Int→(Unit×List Int×Unit)→List (List A1)→Int→Option (List Int)
 |0,_,_,_,_=>none
 |n+1,v5,r2,a0,v1=>Dp0 k (Bb1 k n) (Ai2 k n) v5 r2 a0 v1
def Aw4 (k:Nat):Nat→(List (List A1)→Int→List Int→Option (List Int))×(List (List A1)→Int→Int→List Int→Option (List Int))
 |0=> (λ_ _ _=>none,λ_ _ _ _=>none)
 |n+1=> (Ba9 k (Aw4 k n).2 (Ai2 k n),Bb0 k (Aw4 k n).2 (Aw4 k n).1)
def Ai3 (k:Nat) (n:Nat):List (List A1)→Int→List Int→Option (List Int):=(Aw4 k n).1
def Aw5 (k:Nat) (n:Nat):List (List A1)→Int→Int→List Int→Option (List Int):=(Aw4 k n).2
theorem Fd9 (k:Nat) (n:Nat) (a0:List (List A1)) (v1:Int) (xs2:List Int):Ai3 k (n+1) a0 v1 xs2=Ba9 k (Aw5 k n) (Ai2 k n) a0 v1 xs2:=rfl
theorem Fe0 (k:Nat) (n:Nat) (a0:List (List A1)) (v1:Int) (v3:Int) (xs4:List Int):Aw5 k (n+1) a0 v1 v3 xs4=Bb0 k (Aw5 k n) (Ai3 k n) a0 v1 v3 xs4:=rfl
def D91 (k:Nat) (L0:List (List A1)→Int→List Int→Option (List Int)) (a0:List (List A1)):Option (List Int):=(L0 a0 0 [])
def C41 (k:Nat) (a0:List (List A1)):Option (List Int):=D91 k (Ai3 k k) a0
end
noncomputable section
def Br5 (k:Nat) (L0:List (List A1)→Int→Int→Option Bool) (a0:List (List A1)) (v1:Int) (a1:Int):Option Bool:=(br (decide (v1< (a0.length:Int))) (gd (decide (0≤v1)) (gd (decide (v1< (a0.length:Int))) (bd (Fr3 k (rd [] a0 v1.toNat) a1) λr1=> (gd (decide (0< (a0.length:Int))) (bd (Fr3 k (rd [] a0 0) a1) λr2=> (br (r1 !=r2) (some (!(decide (v1≥0)))) (L0 a0 (B5 (v1+1)) a1))))))) (some true))
def Ac7 (k:Nat):Nat→List (List A1)→Int→Int→Option Bool
 |0,_,_,_=>none
 |n+1,a0,v1,a1=>Br5 k (Ac7 k n) a0 v1 a1
def Dp1 (k:Nat) (L0:List (List A1)→Int→Int→Option Bool) (a0:List (List A1)) (a1:Int):Option Bool:=(L0 a0 0 a1)
def Cj8 (k:Nat) (a0:List (List A1)) (a1:Int):Option Bool:=Dp1 k (Ac7 k k) a0 a1
end
noncomputable section
def B77 (k:Nat) (L0:List (List A1)→List Int→Int→List A1→Option (List A1)) (a0:List (List A1)) (r1:List Int) (v1:Int) (xs2:List A1):Option (List A1):=(br (decide (v1< (r1.length:Int))) (gd (decide (0≤v1)) (gd (decide (v1< (r1.length:Int))) (bd (Cj8 k a0 (rd 0 r1 v1.toNat)) λr2=> (br r2 (gd (decide (0< (a0.length:Int))) (bd (Fr3 k (rd [] a0 0) (rd 0 r1 v1.toNat)) λr3=> (gd (decide (xs2.length+([((rd 0 r1 v1.toNat),r3,())]:List A1).length≤A5)) (L0 a0 r1 (B5 (v1+1)) (xs2++([((rd 0 r1 v1.toNat),r3,())]:List A1)))))) (L0 a0 r1 (B5 (v1+1)) xs2))))) (some xs2))
def Ai4 (k:Nat):Nat→List (List A1)→List Int→Int→List A1→Option (List A1)
 |0,_,_,_,_=>none
 |n+1,a0,r1,v1,xs2=>B77 k (Ai4 k n) a0 r1 v1 xs2
def D92 (k:Nat) (L0:List (List A1)→List Int→Int→List A1→Option (List A1)) (a0:List (List A1)):Option (List A1):=(bd (C41 k a0) λr1=> (L0 a0 r1 0 []))
def D93 (k:Nat) (a0:List (List A1)):Option (List A1):=D92 k (Ai4 k k) a0
end
noncomputable section
def Cv2 (k:Nat) (L0:List (List A1)→List Int→Int→List Int→Option (List Int)) (a0:List (List A1)) (r1:List Int) (v1:Int) (xs2:List Int):Option (List Int):=(br (decide (v1< (r1.length:Int))) (gd (decide (0≤v1)) (gd (decide (v1< (r1.length:Int))) (bd (Cj8 k a0 (rd 0 r1 v1.toNat)) λr2=> (br (!r2) (gd (decide (xs2.length+ [(rd 0 r1 v1.toNat)].length≤A5)) (L0 a0 r1 (B5 (v1+1)) (xs2++ [(rd 0 r1 v1.toNat)]))) (L0 a0 r1 (B5 (v1+1)) xs2))))) (some xs2))
def Aq9 (k:Nat):Nat→List (List A1)→List Int→Int→List Int→Option (List Int)
 |0,_,_,_,_=>none
 |n+1,a0,r1,v1,xs2=>Cv2 k (Aq9 k n) a0 r1 v1 xs2
def Et3 (k:Nat) (L0:List (List A1)→List Int→Int→List Int→Option (List Int)) (a0:List (List A1)):Option (List Int):=(bd (C41 k a0) λr1=> (L0 a0 r1 0 []))
def E05 (k:Nat) (a0:List (List A1)):Option (List Int):=Et3 k (Aq9 k k) a0
end
noncomputable section
def Q2 (k:Nat) (L0:List Int→Int→Int→Option Int) (a0:List Int) (a1:Int) (v1:Int):Option Int:=(br (decide (v1< (a0.length:Int))) (gd (decide (0≤v1)) (gd (decide (v1< (a0.length:Int))) (br (a1==(rd 0 a0 v1.toNat)) (some v1) (L0 a0 a1 (B5 (v1+1)))))) (some (-1)))
def I9 (k:Nat):Nat→List Int→Int→Int→Option Int
 |0,_,_,_=>none
 |n+1,a0,a1,v1=>Q2 k (I9 k n) a0 a1 v1
def Al3 (k:Nat) (L0:List Int→Int→Int→Option Int) (a0:List Int) (a1:Int):Option Int:=(L0 a0 a1 0)
def u9 (k:Nat) (a0:List Int) (a1:Int):Option Int:=Al3 k (I9 k k) a0 a1
end
def J0 (k:Nat) (a0:List Int) (a1:Int):Option Bool:=(bd (u9 k a0 a1) λr1=> (some (decide (r1≥0))))
noncomputable section
def A09 (k:Nat) (L1:List A0→Nat→(A0×Bool)→Int→List Int→List Int→Option (List Int)) (a0:List A0) (u1:Nat) (xs2:List Int) (xs3:List Int):Option (List Int):=(br (decide ((((xs3.length-u1):Nat):Int)>0)) (gd (decide (0< (((xs3.length-u1):Nat):Int))) (bd (Ba7 k a0 (rd 0 xs3 (u1+0))) λr1=> (gd (decide (1≤(((xs3.length-u1):Nat):Int))) (L1 a0 (u1+1) r1 0 xs2 xs3)))) (some xs2))
def A10 (k:Nat) (L1:List A0→Nat→(A0×Bool)→Int→List Int→List Int→Option (List Int)) (L0:List A0→Nat→List Int→List Int→Option (List Int)) (a0:List A0) (u4:Nat) (r1:A0×Bool) (v5:Int) (xs6:List Int) (xs7:List Int):Option (List Int):=(br (decide (v5< (r1.1.2.2.2.2.2.2.2.1.length:Int))) (gd (decide (0≤v5)) (gd (decide (v5< (r1.1.2.2.2.2.2.2.2.1.length:Int))) (bd (Ba7 k a0 (rd 0 r1.1.2.2.2.2.2.2.2.1 v5.toNat)) λr2=> (br r2.2 (bd (J0 k xs6 (rd 0 r1.1.2.2.2.2.2.2.2.1 v5.toNat)) λr3=> (br (!r3) (gd (decide (xs6.length+ [(rd 0 r1.1.2.2.2.2.2.2.2.1 v5.toNat)].length≤A5)) (gd (decide ((xs7.drop u4).length+ [(rd 0 r1.1.2.2.2.2.2.2.2.1 v5.toNat)].length≤A5)) (L1 a0 0 r1 (B5 (v5+1)) (xs6++ [(rd 0 r1.1.2.2.2.2.2.2.2.1 v5.toNat)]) ((xs7.drop u4)++ [(rd 0 r1.1.2.2.2.2.2.2.2.1 v5.toNat)])))) (L1 a0 u4 r1 (B5 (v5+1)) xs6 xs7))) (L1 a0 u4 r1 (B5 (v5+1)) xs6 xs7))))) (L0 a0 u4 xs6 xs7))
def Al4 (k:Nat):Nat→(List A0→Nat→List Int→List Int→Option (List Int))×(List A0→Nat→(A0×Bool)→Int→List Int→List Int→Option (List Int))
 |0=> (λ_ _ _ _=>none,λ_ _ _ _ _ _=>none)
 |n+1=> (A09 k (Al4 k n).2,A10 k (Al4 k n).2 (Al4 k n).1)
def Ac8 (k:Nat) (n:Nat):List A0→Nat→List Int→List Int→Option (List Int):=(Al4 k n).1
def d5 (k:Nat) (n:Nat):List A0→Nat→(A0×Bool)→Int→List Int→List Int→Option (List Int):=(Al4 k n).2
theorem E06 (k:Nat) (n:Nat) (a0:List A0) (u1:Nat) (xs2:List Int) (xs3:List Int):Ac8 k (n+1) a0 u1 xs2 xs3=A09 k (d5 k n) a0 u1 xs2 xs3:=rfl
theorem E07 (k:Nat) (n:Nat) (a0:List A0) (u4:Nat) (r1:A0×Bool) (v5:Int) (xs6:List Int) (xs7:List Int):d5 k (n+1) a0 u4 r1 v5 xs6 xs7=A10 k (d5 k n) (Ac8 k n) a0 u4 r1 v5 xs6 xs7:=rfl
def Dp2 (k:Nat) (L0:List A0→Nat→List Int→List Int→Option (List Int)) (a0:List A0) (a1:Int):Option (List Int):=(L0 a0 0 [] [a1])
def Di6 (k:Nat) (a0:List A0) (a1:Int):Option (List Int):=Dp2 k (Ac8 k k) a0 a1
end
def A31 (k:Nat) (a0:A0):Option Bool:=(br (a0.2.1==3) (some true) (br (a0.2.1==2) (br (a0.2.2.2.2.1==0) (some (a0.2.2.1 !=a0.2.2.2.1)) (br (a0.2.2.2.2.1==3) (some (a0.2.2.1 !=a0.2.2.2.1)) (some false))) (some false)))
def A32 (k:Nat) (a0:List A0) (a1:List A1) (a2:A0) (a3:A0):Option Bool:=(bd (A31 k a2) λr1=> (bd (A31 k a3) λr2=> (br (!(r1==r2)) (bd (A31 k a2) λr3=> (some r3)) (bd (Y3 k a0 a1 a2.2.2.1) λr4=> (bd (Y3 k a0 a1 a3.2.2.1) λr5=> (br (r4 !=r5) (some (decide (r4>r5))) (br (a2.2.2.2.2.2.2.2.2.1 !=a3.2.2.2.2.2.2.2.2.1) (some (decide (a2.2.2.2.2.2.2.2.2.1<a3.2.2.2.2.2.2.2.2.1))) (some (decide (a2.1<a3.1))))))))))
noncomputable section
def Br6 (k:Nat) (L4:List A0→List A1→Int→List A0→Int→List Int→(List (Int×List Int))→Option (List Int)) (a0:List A0) (a1:List A1) (xs2:List A0) (xs6:List Int) (ms5:List (Int×List Int)):Option (List Int):=(L4 a0 a1 (-1) xs2 0 xs6 ms5)
def Br7 (k:Nat) (L5:List A0→Int→Int→List Int→(List (Int×List Int))→List A0→List A1→Int→Option (List Int)) (L3:List A0→List A1→List A0→List Int→(List (Int×List Int))→Option (List Int)) (L6:List A0→List A1→Nat→List A0→List Int→(List (Int×List Int))→Option (List Int)) (a0:List A0) (a1:List A1) (v7:Int) (xs2:List A0) (v8:Int) (xs6:List Int) (ms5:List (Int×List Int)):Option (List Int):=(br (decide (v8< (xs2.length:Int))) (gd (decide (0≤v8)) (gd (decide (v8< (xs2.length:Int))) (L5 xs2 0 v8 xs6 ms5 a0 a1 v7))) (br (decide (v7<0)) (some xs6) (gd (decide (0≤v7)) (gd (decide (v7< (xs2.length:Int))) (gd (decide (xs6.length+ [(rd A4 xs2 v7.toNat).1].length≤A5)) (gd (decide (0≤(xs2.length:Int))) (gd (decide ((xs2.length:Int)≤(xs2.length:Int))) (gd (decide (0≤(B5 (v7+1)))) (gd (decide ((B5 (v7+1))≤(xs2.length:Int))) (gd (decide (0≤v7)) (gd (decide (v7≤(B5 (v7+1)))) (br (v7==(B5 (v7+1))) (L3 a0 a1 xs2 (xs6++ [(rd A4 xs2 v7.toNat).1]) ms5) (gd (decide (0≤v7)) (gd (decide (v7≤(xs2.length:Int))) (gd (decide (0≤(B5 (v7+1)))) (gd (decide ((B5 (v7+1))≤(xs2.length:Int))) (br (decide (((0+v7.toNat)+(xs2.drop (B5 (v7+1)).toNat).length)≤xs2.length)) (gd (decide (0≤(xs2.length:Int))) (gd (decide ((xs2.length:Int)≤(((app (0+v7.toNat) (xs2.drop (B5 (v7+1)).toNat) xs2).length:Nat):Int))) (gd (decide (0≤((((0+v7.toNat)+(xs2.drop (B5 (v7+1)).toNat).length):Nat):Int))) (gd (decide (((((0+v7.toNat)+(xs2.drop (B5 (v7+1)).toNat).length):Nat):Int)≤(xs2.length:Int))) (L6 a0 a1 ((0+v7.toNat)+(xs2.drop (B5 (v7+1)).toNat).length) (clr A4 (some ((((0+v7.toNat)+(xs2.drop (B5 (v7+1)).toNat).length):Nat):Int).toNat) (some (0+(xs2.length:Int).toNat)) (app (0+v7.toNat) (xs2.drop (B5 (v7+1)).toNat) xs2)) (xs6++ [(rd A4 xs2 v7.toNat).1]) ms5))))) (gd (decide ((xs2.take (0+v7.toNat)).length+(xs2.drop (B5 (v7+1)).toNat).length≤A5)) (gd (decide (0≤(xs2.length:Int))) (gd (decide ((xs2.length:Int)≤((((xs2.take (0+v7.toNat))++(xs2.drop (B5 (v7+1)).toNat)).length:Nat):Int))) (gd (decide (0≤((((xs2.take (0+v7.toNat))++(xs2.drop (B5 (v7+1)).toNat)).length:Nat):Int))) (gd (decide (((((xs2.take (0+v7.toNat))++(xs2.drop (B5 (v7+1)).toNat)).length:Nat):Int)≤(xs2.length:Int))) (L3 a0 a1 (clr A4 (some ((((xs2.take (0+v7.toNat))++(xs2.drop (B5 (v7+1)).toNat)).length:Nat):Int).toNat) (some (0+(xs2.length:Int).toNat)) ((xs2.take (0+v7.toNat))++(xs2.drop (B5 (v7+1)).toNat))) (xs6++ [(rd A4 xs2 v7.toNat).1]) ms5)))))))))))))))))))))))
def Br8 (k:Nat) (L4:List A0→List A1→Int→List A0→Int→List Int→(List (Int×List Int))→Option (List Int)) (L5:List A0→Int→Int→List Int→(List (Int×List Int))→List A0→List A1→Int→Option (List Int)) (xs2:List A0) (v9:Int) (v8:Int) (xs6:List Int) (ms5:List (Int×List Int)) (a0:List A0) (a1:List A1) (v7:Int):Option (List Int):=(br (decide (v9< (xs2.length:Int))) (gd (decide (0≤v9)) (gd (decide (v9< (xs2.length:Int))) (bd (J0 k (Ad9 [] ms5 (rd A4 xs2 v8.toNat).1) (rd A4 xs2 v9.toNat).1) λr3=> (br r3 (br (!(decide (v9≥0))) (br (decide (v7<0)) (L4 a0 a1 v8 xs2 (B5 (v8+1)) xs6 ms5) (gd (decide (0≤v7)) (gd (decide (v7< (xs2.length:Int))) (bd (A32 k a0 a1 (rd A4 xs2 v8.toNat) (rd A4 xs2 v7.toNat)) λr4=> (br r4 (L4 a0 a1 v8 xs2 (B5 (v8+1)) xs6 ms5) (L4 a0 a1 v7 xs2 (B5 (v8+1)) xs6 ms5)))))) (L4 a0 a1 v7 xs2 (B5 (v8+1)) xs6 ms5)) (L5 xs2 (B5 (v9+1)) v8 xs6 ms5 a0 a1 v7))))) (br (decide (v7<0)) (L4 a0 a1 v8 xs2 (B5 (v8+1)) xs6 ms5) (gd (decide (0≤v7)) (gd (decide (v7< (xs2.length:Int))) (bd (A32 k a0 a1 (rd A4 xs2 v8.toNat) (rd A4 xs2 v7.toNat)) λr5=> (br r5 (L4 a0 a1 v8 xs2 (B5 (v8+1)) xs6 ms5) (L4 a0 a1 v7 xs2 (B5 (v8+1)) xs6 ms5)))))))
def Br9 (k:Nat) (L7:List A0→List A1→Nat→Int→Int→List A0→List Int→(List (Int×List Int))→Option (List Int)) (a0:List A0) (a1:List A1) (u10:Nat) (xs11:List A0) (xs12:List Int) (ms5:List (Int×List Int)):Option (List Int):=(L7 a0 a1 u10 (-1) 0 xs11 xs12 ms5)
def Bs0 (k:Nat) (L8:Nat→Int→List A0→Int→List Int→(List (Int×List Int))→List A0→List A1→Int→Option (List Int)) (L6:List A0→List A1→Nat→List A0→List Int→(List (Int×List Int))→Option (List Int)) (L3:List A0→List A1→List A0→List Int→(List (Int×List Int))→Option (List Int)) (a0:List A0) (a1:List A1) (u10:Nat) (v13:Int) (v14:Int) (xs11:List A0) (xs12:List Int) (ms5:List (Int×List Int)):Option (List Int):=(br (decide (v14< (u10:Int))) (gd (decide (0≤v14)) (gd (decide (v14< (u10:Int))) (L8 u10 0 xs11 v14 xs12 ms5 a0 a1 v13))) (br (decide (v13<0)) (some xs12) (gd (decide (0≤v13)) (gd (decide (v13< (u10:Int))) (gd (decide (xs12.length+ [(rd A4 xs11 v13.toNat).1].length≤A5)) (gd (decide (0≤(u10:Int))) (gd (decide ((u10:Int)≤(xs11.length:Int))) (gd (decide (0≤(B5 (v13+1)))) (gd (decide ((B5 (v13+1))≤(u10:Int))) (gd (decide (0≤v13)) (gd (decide (v13≤(B5 (v13+1)))) (br (v13==(B5 (v13+1))) (L6 a0 a1 u10 xs11 (xs12++ [(rd A4 xs11 v13.toNat).1]) ms5) (gd (decide (0≤v13)) (gd (decide (v13≤(xs11.length:Int))) (gd (decide (0≤(B5 (v13+1)))) (gd (decide ((B5 (v13+1))≤(u10:Int))) (br (decide (((0+v13.toNat)+((xs11.take u10).drop (B5 (v13+1)).toNat).length)≤xs11.length)) (gd (decide (0≤(u10:Int))) (gd (decide ((u10:Int)≤(((app (0+v13.toNat) ((xs11.take u10).drop (B5 (v13+1)).toNat) xs11).length:Nat):Int))) (gd (decide (0≤((((0+v13.toNat)+((xs11.take u10).drop (B5 (v13+1)).toNat).length):Nat):Int))) (gd (decide (((((0+v13.toNat)+((xs11.take u10).drop (B5 (v13+1)).toNat).length):Nat):Int)≤(u10:Int))) (L6 a0 a1 ((0+v13.toNat)+((xs11.take u10).drop (B5 (v13+1)).toNat).length) (clr A4 (some ((((0+v13.toNat)+((xs11.take u10).drop (B5 (v13+1)).toNat).length):Nat):Int).toNat) (some (0+(u10:Int).toNat)) (app (0+v13.toNat) ((xs11.take u10).drop (B5 (v13+1)).toNat) xs11)) (xs12++ [(rd A4 xs11 v13.toNat).1]) ms5))))) (gd (decide ((xs11.take (0+v13.toNat)).length+((xs11.take u10).drop (B5 (v13+1)).toNat).length≤A5)) (gd (decide (0≤(u10:Int))) (gd (decide ((u10:Int)≤((((xs11.take (0+v13.toNat))++((xs11.take u10).drop (B5 (v13+1)).toNat)).length:Nat):Int))) (gd (decide (0≤((((xs11.take (0+v13.toNat))++((xs11.take u10).drop (B5 (v13+1)).toNat)).length:Nat):Int))) (gd (decide (((((xs11.take (0+v13.toNat))++((xs11.take u10).drop (B5 (v13+1)).toNat)).length:Nat):Int)≤(u10:Int))) (L3 a0 a1 (clr A4 (some ((((xs11.take (0+v13.toNat))++((xs11.take u10).drop (B5 (v13+1)).toNat)).length:Nat):Int).toNat) (some (0+(u10:Int).toNat)) ((xs11.take (0+v13.toNat))++((xs11.take u10).drop (B5 (v13+1)).toNat))) (xs12++ [(rd A4 xs11 v13.toNat).1]) ms5)))))))))))))))))))))))
def Bs1 (k:Nat) (L7:List A0→List A1→Nat→Int→Int→List A0→List Int→(List (Int×List Int))→Option (List Int)) (L8:Nat→Int→List A0→Int→List Int→(List (Int×List Int))→List A0→List A1→Int→Option (List Int)) (u10:Nat) (v15:Int) (xs11:List A0) (v14:Int) (xs12:List Int) (ms5:List (Int×List Int)) (a0:List A0) (a1:List A1) (v13:Int):Option (List Int):=(br (decide (v15< (u10:Int))) (gd (decide (0≤v15)) (gd (decide (v15< (u10:Int))) (bd (J0 k (Ad9 [] ms5 (rd A4 xs11 v14.toNat).1) (rd A4 xs11 v15.toNat).1) λr6=> (br r6 (br (!(decide (v15≥0))) (br (decide (v13<0)) (L7 a0 a1 u10 v14 (B5 (v14+1)) xs11 xs12 ms5) (gd (decide (0≤v13)) (gd (decide (v13< (u10:Int))) (bd (A32 k a0 a1 (rd A4 xs11 v14.toNat) (rd A4 xs11 v13.toNat)) λr7=> (br r7 (L7 a0 a1 u10 v14 (B5 (v14+1)) xs11 xs12 ms5) (L7 a0 a1 u10 v13 (B5 (v14+1)) xs11 xs12 ms5)))))) (L7 a0 a1 u10 v13 (B5 (v14+1)) xs11 xs12 ms5)) (L8 u10 (B5 (v15+1)) xs11 v14 xs12 ms5 a0 a1 v13))))) (br (decide (v13<0)) (L7 a0 a1 u10 v14 (B5 (v14+1)) xs11 xs12 ms5) (gd (decide (0≤v13)) (gd (decide (v13< (u10:Int))) (bd (A32 k a0 a1 (rd A4 xs11 v14.toNat) (rd A4 xs11 v13.toNat)) λr8=> (br r8 (L7 a0 a1 u10 v14 (B5 (v14+1)) xs11 xs12 ms5) (L7 a0 a1 u10 v13 (B5 (v14+1)) xs11 xs12 ms5)))))))
def Cv3 (k:Nat) (L2:List A0→List A1→List A0→Int→(List (Int×List Int))→Option (List Int)) (L3:List A0→List A1→List A0→List Int→(List (Int×List Int))→Option (List Int)) (a0:List A0) (a1:List A1) (xs2:List A0) (v4:Int) (ms5:List (Int×List Int)):Option (List Int):=(br (decide (v4< (xs2.length:Int))) (gd (decide (0≤v4)) (gd (decide (v4< (xs2.length:Int))) (bd (Di6 k a0 (rd A4 xs2 v4.toNat).1) λr2=> (L2 a0 a1 xs2 (B5 (v4+1)) (Cl3 ms5 (rd A4 xs2 v4.toNat).1 r2))))) (L3 a0 a1 xs2 [] ms5))
def Bs2 (k:Nat) (L1:List A0→Int→List Int→Int→(A0×Bool)→List A0→List A1→Option (List Int)) (L0:List A0→List A1→List Int→Int→List A0→Option (List Int)) (L2:List A0→List A1→List A0→Int→(List (Int×List Int))→Option (List Int)) (a0:List A0) (a1:List A1) (a2:List Int) (v1:Int) (xs2:List A0):Option (List Int):=(br (decide (v1< (a2.length:Int))) (gd (decide (0≤v1)) (gd (decide (v1< (a2.length:Int))) (bd (Ba7 k a0 (rd 0 a2 v1.toNat)) λr1=> (br r1.2 (L1 xs2 0 a2 v1 r1 a0 a1) (L0 a0 a1 a2 (B5 (v1+1)) xs2))))) (L2 a0 a1 xs2 0 []))
def Bs3 (k:Nat) (L0:List A0→List A1→List Int→Int→List A0→Option (List Int)) (L1:List A0→Int→List Int→Int→(A0×Bool)→List A0→List A1→Option (List Int)) (xs2:List A0) (v3:Int) (a2:List Int) (v1:Int) (r1:A0×Bool) (a0:List A0) (a1:List A1):Option (List Int):=(br (decide (v3< (xs2.length:Int))) (gd (decide (0≤v3)) (gd (decide (v3< (xs2.length:Int))) (br ((rd A4 xs2 v3.toNat).1==(rd 0 a2 v1.toNat)) (br (!(decide (v3≥0))) (gd (decide (xs2.length+([r1.1]:List A0).length≤A5)) (L0 a0 a1 a2 (B5 (v1+1)) (xs2++([r1.1]:List A0)))) (L0 a0 a1 a2 (B5 (v1+1)) xs2)) (L1 xs2 (B5 (v3+1)) a2 v1 r1 a0 a1)))) (gd (decide (xs2.length+([r1.1]:List A0).length≤A5)) (L0 a0 a1 a2 (B5 (v1+1)) (xs2++([r1.1]:List A0)))))
def I4 (k:Nat):Nat→(List A0→List A1→List A0→List Int→(List (Int×List Int))→Option (List Int))×(List A0→List A1→Int→List A0→Int→List Int→(List (Int×List Int))→Option (List Int))×(List A0→Int→Int→List Int→(List (Int×List Int))→List A0→List A1→Int→Option (List Int))×(List A0→List A1→Nat→List A0→List Int→(List (Int×List Int))→Option (List Int))×(List A0→List A1→Nat→Int→Int→List A0→List Int→(List (Int×List Int))→Option (List Int))×(Nat→Int→List A0→Int→List Int→(List (Int×List Int))→List A0→List A1→Int→Option (List Int))
 |0=> (λ_ _ _ _ _=>none,λ_ _ _ _ _ _ _=>none,λ_ _ _ _ _ _ _ _=>none,λ_ _ _ _ _ _=>none,λ_ _ _ _ _ _ _ _=>none,λ_ _ _ _ _ _ _ _ _=>none)
 |n+1=> (Br6 k (I4 k n).2.1,Br7 k (I4 k n).2.2.1 (I4 k n).1 (I4 k n).2.2.2.1,Br8 k (I4 k n).2.1 (I4 k n).2.2.1,Br9 k (I4 k n).2.2.2.2.1,Bs0 k (I4 k n).2.2.2.2.2 (I4 k n).2.2.2.1 (I4 k n).1,Bs1 k (I4 k n).2.2.2.2.1 (I4 k n).2.2.2.2.2)
def w5 (k:Nat) (n:Nat):List A0→List A1→List A0→List Int→(List (Int×List Int))→Option (List Int):=(I4 k n).1
def Ag5 (k:Nat) (n:Nat):List A0→List A1→Int→List A0→Int→List Int→(List (Int×List Int))→Option (List Int):=(I4 k n).2.1
def A56 (k:Nat) (n:Nat):List A0→Int→Int→List Int→(List (Int×List Int))→List A0→List A1→Int→Option (List Int):=(I4 k n).2.2.1
def Ar0 (k:Nat) (n:Nat):List A0→List A1→Nat→List A0→List Int→(List (Int×List Int))→Option (List Int):=(I4 k n).2.2.2.1
def Ag6 (k:Nat) (n:Nat):List A0→List A1→Nat→Int→Int→List A0→List Int→(List (Int×List Int))→Option (List Int):=(I4 k n).2.2.2.2.1
def A57 (k:Nat) (n:Nat):Nat→Int→List A0→Int→List Int→(List (Int×List Int))→List A0→List A1→Int→Option (List Int):=(I4 k n).2.2.2.2.2
theorem Fr4 (k:Nat) (n:Nat) (a0:List A0) (a1:List A1) (xs2:List A0) (xs6:List Int) (ms5:List (Int×List Int)):w5 k (n+1) a0 a1 xs2 xs6 ms5=Br6 k (Ag5 k n) a0 a1 xs2 xs6 ms5:=rfl
theorem Fr5 (k:Nat) (n:Nat) (a0:List A0) (a1:List A1) (v7:Int) (xs2:List A0) (v8:Int) (xs6:List Int) (ms5:List (Int×List Int)):Ag5 k (n+1) a0 a1 v7 xs2 v8 xs6 ms5=Br7 k (A56 k n) (w5 k n) (Ar0 k n) a0 a1 v7 xs2 v8 xs6 ms5:=rfl
theorem Fr6 (k:Nat) (n:Nat) (xs2:List A0) (v9:Int) (v8:Int) (xs6:List Int) (ms5:List (Int×List Int)) (a0:List A0) (a1:List A1) (v7:Int):A56 k (n+1) xs2 v9 v8 xs6 ms5 a0 a1 v7=Br8 k (Ag5 k n) (A56 k n) xs2 v9 v8 xs6 ms5 a0 a1 v7:=rfl
theorem Fr7 (k:Nat) (n:Nat) (a0:List A0) (a1:List A1) (u10:Nat) (xs11:List A0) (xs12:List Int) (ms5:List (Int×List Int)):Ar0 k (n+1) a0 a1 u10 xs11 xs12 ms5=Br9 k (Ag6 k n) a0 a1 u10 xs11 xs12 ms5:=rfl
theorem Fr8 (k:Nat) (n:Nat) (a0:List A0) (a1:List A1) (u10:Nat) (v13:Int) (v14:Int) (xs11:List A0) (xs12:List Int) (ms5:List (Int×List Int)):Ag6 k (n+1) a0 a1 u10 v13 v14 xs11 xs12 ms5=Bs0 k (A57 k n) (Ar0 k n) (w5 k n) a0 a1 u10 v13 v14 xs11 xs12 ms5:=rfl
theorem Fr9 (k:Nat) (n:Nat) (u10:Nat) (v15:Int) (xs11:List A0) (v14:Int) (xs12:List Int) (ms5:List (Int×List Int)) (a0:List A0) (a1:List A1) (v13:Int):A57 k (n+1) u10 v15 xs11 v14 xs12 ms5 a0 a1 v13=Bs1 k (Ag6 k n) (A57 k n) u10 v15 xs11 v14 xs12 ms5 a0 a1 v13:=rfl
def Ag7 (k:Nat):Nat→List A0→List A1→List A0→Int→(List (Int×List Int))→Option (List Int)
 |0,_,_,_,_,_=>none
 |n+1,a0,a1,xs2,v4,ms5=>Cv3 k (Ag7 k n) (w5 k n) a0 a1 xs2 v4 ms5
def Ar1 (k:Nat):Nat→(List A0→List A1→List Int→Int→List A0→Option (List Int))×(List A0→Int→List Int→Int→(A0×Bool)→List A0→List A1→Option (List Int))
 |0=> (λ_ _ _ _ _=>none,λ_ _ _ _ _ _ _=>none)
 |n+1=> (Bs2 k (Ar1 k n).2 (Ar1 k n).1 (Ag7 k n),Bs3 k (Ar1 k n).1 (Ar1 k n).2)
def w7 (k:Nat) (n:Nat):List A0→List A1→List Int→Int→List A0→Option (List Int):=(Ar1 k n).1
def A58 (k:Nat) (n:Nat):List A0→Int→List Int→Int→(A0×Bool)→List A0→List A1→Option (List Int):=(Ar1 k n).2
theorem Fs0 (k:Nat) (n:Nat) (a0:List A0) (a1:List A1) (a2:List Int) (v1:Int) (xs2:List A0):w7 k (n+1) a0 a1 a2 v1 xs2=Bs2 k (A58 k n) (w7 k n) (Ag7 k n) a0 a1 a2 v1 xs2:=rfl
theorem Fs1 (k:Nat) (n:Nat) (xs2:List A0) (v3:Int) (a2:List Int) (v1:Int) (r1:A0×Bool) (a0:List A0) (a1:List A1):A58 k (n+1) xs2 v3 a2 v1 r1 a0 a1=Bs3 k (w7 k n) (A58 k n) xs2 v3 a2 v1 r1 a0 a1:=rfl
def Et4 (k:Nat) (L0:List A0→List A1→List Int→Int→List A0→Option (List Int)) (a0:List A0) (a1:List A1) (a2:List Int):Option (List Int):=(L0 a0 a1 a2 0 [])
def E08 (k:Nat) (a0:List A0) (a1:List A1) (a2:List Int):Option (List Int):=Et4 k (w7 k k) a0 a1 a2
end
noncomputable section
def Bs4 (k:Nat) (L2:List A0→List Int→Int→List A1→Option (List A1)) (a0:List A0) (r6:List Int) (v5:Int) (r5:List A1):Option (List A1):=(br (decide (v5< (r6.length:Int))) (gd (decide (0≤v5)) (gd (decide (v5< (r6.length:Int))) (bd (Ba7 k a0 (rd 0 r6 v5.toNat)) λr7=> (bd (Cj6 k a0 r5 r7.1) λr8=> (br r8 (bd (Cj7 k r7.1) λr9=> (bd (F16 k r5 r9 (rd 0 r6 v5.toNat)) λr10=> (L2 a0 r6 (B5 (v5+1)) r10))) (L2 a0 r6 (B5 (v5+1)) r5)))))) (some r5))
def A11 (k:Nat) (L1:List A0→List (List A1)→List Int→Int→Int→List A1→List Int→Option (List A1)) (L2:List A0→List Int→Int→List A1→Option (List A1)) (a0:List A0) (a1:List (List A1)) (r3:List Int) (v1:Int) (r2:List A1) (xs2:List Int):Option (List A1):=(br (decide (v1< (r3.length:Int))) (gd (decide (0≤v1)) (gd (decide (v1< (r3.length:Int))) (L1 a0 a1 r3 v1 0 r2 xs2))) (bd (V9 k r2) λr5=> (bd (E08 k a0 r2 xs2) λr6=> (L2 a0 r6 0 r5))))
def A12 (k:Nat) (L1:List A0→List (List A1)→List Int→Int→Int→List A1→List Int→Option (List A1)) (L0:List A0→List (List A1)→List Int→Int→List A1→List Int→Option (List A1)) (a0:List A0) (a1:List (List A1)) (r3:List Int) (v1:Int) (v3:Int) (r2:List A1) (xs4:List Int):Option (List A1):=(br (decide (v3< (a1.length:Int))) (gd (decide (0≤v3)) (gd (decide (v3< (a1.length:Int))) (bd (Fr3 k (rd [] a1 v3.toNat) (rd 0 r3 v1.toNat)) λr4=> (br (r4 !=0) (gd (decide (xs4.length+ [r4].length≤A5)) (L1 a0 a1 r3 v1 (B5 (v3+1)) r2 (xs4++ [r4]))) (L1 a0 a1 r3 v1 (B5 (v3+1)) r2 xs4))))) (L0 a0 a1 r3 (B5 (v1+1)) r2 xs4))
def d6 (k:Nat):Nat→List A0→List Int→Int→List A1→Option (List A1)
 |0,_,_,_,_=>none
 |n+1,a0,r6,v5,r5=>Bs4 k (d6 k n) a0 r6 v5 r5
def Al5 (k:Nat):Nat→(List A0→List (List A1)→List Int→Int→List A1→List Int→Option (List A1))×(List A0→List (List A1)→List Int→Int→Int→List A1→List Int→Option (List A1))
 |0=> (λ_ _ _ _ _ _=>none,λ_ _ _ _ _ _ _=>none)
 |n+1=> (A11 k (Al5 k n).2 (d6 k n),A12 k (Al5 k n).2 (Al5 k n).1)
def Ac9 (k:Nat) (n:Nat):List A0→List (List A1)→List Int→Int→List A1→List Int→Option (List A1):=(Al5 k n).1
def Al6 (k:Nat) (n:Nat):List A0→List (List A1)→List Int→Int→Int→List A1→List Int→Option (List A1):=(Al5 k n).2
theorem E09 (k:Nat) (n:Nat) (a0:List A0) (a1:List (List A1)) (r3:List Int) (v1:Int) (r2:List A1) (xs2:List Int):Ac9 k (n+1) a0 a1 r3 v1 r2 xs2=A11 k (Al6 k n) (d6 k n) a0 a1 r3 v1 r2 xs2:=rfl
theorem E10 (k:Nat) (n:Nat) (a0:List A0) (a1:List (List A1)) (r3:List Int) (v1:Int) (v3:Int) (r2:List A1) (xs4:List Int):Al6 k (n+1) a0 a1 r3 v1 v3 r2 xs4=A12 k (Al6 k n) (Ac9 k n) a0 a1 r3 v1 v3 r2 xs4:=rfl
def Dp3 (k:Nat) (L0:List A0→List (List A1)→List Int→Int→List A1→List Int→Option (List A1)) (a0:List A0) (a1:List (List A1)):Option (List A1):=(br ((a1.length:Int)==0) (some []) (br ((a1.length:Int)==1) (gd (decide (0< (a1.length:Int))) (bd (V9 k (rd [] a1 0)) λr1=> (some r1))) (bd (D93 k a1) λr2=> (bd (E05 k a1) λr3=> (L0 a0 a1 r3 0 r2 [])))))
def Di7 (k:Nat) (a0:List A0) (a1:List (List A1)):Option (List A1):=Dp3 k (Ac9 k k) a0 a1
end
noncomputable section
def B78 (k:Nat) (L0:List Int→Int→A6→List (List A1)→Option (List A1×Bool)) (a1:List Int) (v1:Int) (a0:A6) (xs2:List (List A1)):Option (List A1×Bool):=(br (decide (v1< (a1.length:Int))) (gd (decide (0≤v1)) (gd (decide (v1< (a1.length:Int))) (bd (Cj3 k a0 (rd 0 a1 v1.toNat)) λr1=> (br (decide (r1<0)) (some ([],false)) (br (decide (r1≥(a0.2.1.length:Int))) (some ([],false)) (gd (decide (0≤r1)) (gd (decide (r1< (a0.2.1.length:Int))) (gd (decide (xs2.length+ [(rd [] a0.2.1 r1.toNat)].length≤A5)) (L0 a1 (B5 (v1+1)) a0 (xs2++ [(rd [] a0.2.1 r1.toNat)])))))))))) (bd (Di7 k a0.1 xs2) λr2=> (some (r2,true))))
def Ai5 (k:Nat):Nat→List Int→Int→A6→List (List A1)→Option (List A1×Bool)
 |0,_,_,_,_=>none
 |n+1,a1,v1,a0,xs2=>B78 k (Ai5 k n) a1 v1 a0 xs2
def D94 (k:Nat) (L0:List Int→Int→A6→List (List A1)→Option (List A1×Bool)) (a0:A6) (a1:List Int):Option (List A1×Bool):=(L0 a1 0 a0 [])
def C42 (k:Nat) (a0:A6) (a1:List Int):Option (List A1×Bool):=D94 k (Ai5 k k) a0 a1
end
def Ar2 (k:Nat) (a0:A6) (a1:A0):Option (A6×Bool):=(br ((a0.2.1.length:Int) !=(a0.1.length:Int)) (some (([],[],[],()),false)) (br ((a0.2.2.1.length:Int) !=(a0.1.length:Int)) (some (([],[],[],()),false)) (bd (Ac3 k a1) λr1=> (br (!r1) (some (([],[],[],()),false)) (br (decide ((a0.1.length:Int)≥40)) (some (([],[],[],()),false)) (bd (Cj3 k a0 a1.1) λr2=> (br (decide (r2≥0)) (some (([],[],[],()),false)) (bd (C42 k a0 a1.2.2.2.2.2.2.2.1) λr3=> (br (!r3.2) (some (([],[],[],()),false)) (bd (Ac5 k a0 a1.2.2.2.2.2.2.2.1) λr4=> (br (a1.2.2.2.2.2.2.2.2.1 !=r4) (some (([],[],[],()),false)) (bd (Cj6 k a0.1 r3.1 a1) λr5=> (br r5 (bd (Cj7 k a1) λr6=> (br (r6 !=0) (bd (Cj7 k a1) λr7=> (bd (F16 k r3.1 r7 a1.1) λr8=> (bd (Ag4 k a0) λr9=> (bd (P5 k a1) λr10=> (gd (decide (r9.1.length+([r10]:List A0).length≤A5)) (gd (decide (r9.2.1.length+([r8]:List (List A1)).length≤A5)) (gd (decide (r9.2.2.1.length+ [r5].length≤A5)) (some (((r9.1++([r10]:List A0)),(r9.2.1++([r8]:List (List A1))),(r9.2.2.1++ [r5]),()),true))))))))) (bd (Ag4 k a0) λr11=> (bd (P5 k a1) λr12=> (gd (decide (r11.1.length+([r12]:List A0).length≤A5)) (gd (decide (r11.2.1.length+([r3.1]:List (List A1)).length≤A5)) (gd (decide (r11.2.2.1.length+ [r5].length≤A5)) (some (((r11.1++([r12]:List A0)),(r11.2.1++([r3.1]:List (List A1))),(r11.2.2.1++ [r5]),()),true))))))))) (bd (Ag4 k a0) λr13=> (bd (P5 k a1) λr14=> (gd (decide (r13.1.length+([r14]:List A0).length≤A5)) (gd (decide (r13.2.1.length+([r3.1]:List (List A1)).length≤A5)) (gd (decide (r13.2.2.1.length+ [r5].length≤A5)) (some (((r13.1++([r14]:List A0)),(r13.2.1++([r3.1]:List (List A1))),(r13.2.2.1++ [r5]),()),true))))))))))))))))))))
noncomputable section
def B79 (k:Nat) (L0:List A0→Int→List A0→List (List A1)→List Bool→Option (A6×Bool)) (a0:List A0) (v1:Int) (xs2:List A0) (xs3:List (List A1)) (xs4:List Bool):Option (A6×Bool):=(br (decide (v1< (a0.length:Int))) (gd (decide (0≤v1)) (gd (decide (v1< (a0.length:Int))) (bd (Ar2 k (xs2,xs3,xs4,()) (rd A4 a0 v1.toNat)) λr1=> (br (!r1.2) (some (([],[],[],()),false)) (L0 a0 (B5 (v1+1)) r1.1.1 r1.1.2.1 r1.1.2.2.1))))) (some ((xs2,xs3,xs4,()),true)))
def Ai6 (k:Nat):Nat→List A0→Int→List A0→List (List A1)→List Bool→Option (A6×Bool)
 |0,_,_,_,_,_=>none
 |n+1,a0,v1,xs2,xs3,xs4=>B79 k (Ai6 k n) a0 v1 xs2 xs3 xs4
def D95 (k:Nat) (L0:List A0→Int→List A0→List (List A1)→List Bool→Option (A6×Bool)) (a0:List A0):Option (A6×Bool):=(L0 a0 0 [] [] [])
def D96 (k:Nat) (a0:List A0):Option (A6×Bool):=D95 k (Ai6 k k) a0
end
noncomputable section
def M7 (k:Nat) (L0:List Int→List Int→Int→Option Bool) (a0:List Int) (a1:List Int) (v1:Int):Option Bool:=(br (decide (v1< (a0.length:Int))) (gd (decide (0≤v1)) (gd (decide (v1< (a0.length:Int))) (gd (decide (0≤v1)) (gd (decide (v1< (a1.length:Int))) (br ((rd 0 a0 v1.toNat) !=(rd 0 a1 v1.toNat)) (some false) (L0 a0 a1 (B5 (v1+1)))))))) (some true))
def F3 (k:Nat):Nat→List Int→List Int→Int→Option Bool
 |0,_,_,_=>none
 |n+1,a0,a1,v1=>M7 k (F3 k n) a0 a1 v1
def d7 (k:Nat) (L0:List Int→List Int→Int→Option Bool) (a0:List Int) (a1:List Int):Option Bool:=(br ((a0.length:Int) !=(a1.length:Int)) (some false) (L0 a0 a1 0))
def E9 (k:Nat) (a0:List Int) (a1:List Int):Option Bool:=d7 k (F3 k k) a0 a1
end
noncomputable section
def H0 (k:Nat) (L0:List A1→List A1→Int→Option Bool) (a0:List A1) (a1:List A1) (v1:Int):Option Bool:=(br (decide (v1< (a0.length:Int))) (gd (decide (0≤v1)) (gd (decide (v1< (a0.length:Int))) (gd (decide (0≤v1)) (gd (decide (v1< (a1.length:Int))) (br (!((rd C0 a0 v1.toNat).1==(rd C0 a1 v1.toNat).1&&((rd C0 a0 v1.toNat).2.1==(rd C0 a1 v1.toNat).2.1&&true))) (some false) (L0 a0 a1 (B5 (v1+1)))))))) (some true))
def D6 (k:Nat):Nat→List A1→List A1→Int→Option Bool
 |0,_,_,_=>none
 |n+1,a0,a1,v1=>H0 k (D6 k n) a0 a1 v1
def T5 (k:Nat) (L0:List A1→List A1→Int→Option Bool) (a0:List A1) (a1:List A1):Option Bool:=(br ((a0.length:Int) !=(a1.length:Int)) (some false) (L0 a0 a1 0))
def I6 (k:Nat) (a0:List A1) (a1:List A1):Option Bool:=T5 k (D6 k k) a0 a1
end
noncomputable section
def O2 (k:Nat) (L0:List Bool→List Bool→Int→Option Bool) (a0:List Bool) (a1:List Bool) (v1:Int):Option Bool:=(br (decide (v1< (a0.length:Int))) (gd (decide (0≤v1)) (gd (decide (v1< (a0.length:Int))) (gd (decide (0≤v1)) (gd (decide (v1< (a1.length:Int))) (br (!((rd false a0 v1.toNat)==(rd false a1 v1.toNat))) (some false) (L0 a0 a1 (B5 (v1+1)))))))) (some true))
def G1 (k:Nat):Nat→List Bool→List Bool→Int→Option Bool
 |0,_,_,_=>none
 |n+1,a0,a1,v1=>O2 k (G1 k n) a0 a1 v1
def Ae7 (k:Nat) (L0:List Bool→List Bool→Int→Option Bool) (a0:List Bool) (a1:List Bool):Option Bool:=(br ((a0.length:Int) !=(a1.length:Int)) (some false) (L0 a0 a1 0))
def R8 (k:Nat) (a0:List Bool) (a1:List Bool):Option Bool:=Ae7 k (G1 k k) a0 a1
end
noncomputable section
def Au2 (k:Nat) (L1:A6→A6→Int→Option Bool) (a1:A6) (a0:A6) (v2:Int):Option Bool:=(br (decide (v2< (a0.2.1.length:Int))) (gd (decide (0≤v2)) (gd (decide (v2< (a0.2.1.length:Int))) (gd (decide (0≤v2)) (gd (decide (v2< (a1.2.1.length:Int))) (bd (I6 k (rd [] a0.2.1 v2.toNat) (rd [] a1.2.1 v2.toNat)) λr3=> (br (!r3) (some false) (L1 a1 a0 (B5 (v2+1))))))))) (bd (R8 k a0.2.2.1 a1.2.2.1) λr4=> (some r4)))
def Au3 (k:Nat) (L0:A6→A6→Int→Option Bool) (L1:A6→A6→Int→Option Bool) (a1:A6) (a0:A6) (v1:Int):Option Bool:=(br (decide (v1< (a0.1.length:Int))) (gd (decide (0≤v1)) (gd (decide (v1< (a0.1.length:Int))) (gd (decide (0≤v1)) (gd (decide (v1< (a1.1.length:Int))) (br ((rd A4 a0.1 v1.toNat).1==(rd A4 a1.1 v1.toNat).1) (br ((rd A4 a0.1 v1.toNat).2.1==(rd A4 a1.1 v1.toNat).2.1) (br ((rd A4 a0.1 v1.toNat).2.2.1==(rd A4 a1.1 v1.toNat).2.2.1) (br ((rd A4 a0.1 v1.toNat).2.2.2.1==(rd A4 a1.1 v1.toNat).2.2.2.1) (br ((rd A4 a0.1 v1.toNat).2.2.2.2.1==(rd A4 a1.1 v1.toNat).2.2.2.2.1) (bd (E9 k (rd A4 a0.1 v1.toNat).2.2.2.2.2.1 (rd A4 a1.1 v1.toNat).2.2.2.2.2.1) λr1=> (br r1 (br ((rd A4 a0.1 v1.toNat).2.2.2.2.2.2.1.toList==(rd A4 a1.1 v1.toNat).2.2.2.2.2.2.1.toList) (bd (E9 k (rd A4 a0.1 v1.toNat).2.2.2.2.2.2.2.1 (rd A4 a1.1 v1.toNat).2.2.2.2.2.2.2.1) λr2=> (br r2 (br (!((rd A4 a0.1 v1.toNat).2.2.2.2.2.2.2.2.1==(rd A4 a1.1 v1.toNat).2.2.2.2.2.2.2.2.1)) (some false) (L0 a1 a0 (B5 (v1+1)))) (some false))) (some false)) (some false))) (some false)) (some false)) (some false)) (some false)) (some false)))))) (br ((a0.2.1.length:Int) !=(a1.2.1.length:Int)) (some false) (L1 a1 a0 0)))
def n6 (k:Nat):Nat→A6→A6→Int→Option Bool
 |0,_,_,_=>none
 |n+1,a1,a0,v2=>Au2 k (n6 k n) a1 a0 v2
def X3 (k:Nat):Nat→A6→A6→Int→Option Bool
 |0,_,_,_=>none
 |n+1,a1,a0,v1=>Au3 k (X3 k n) (n6 k n) a1 a0 v1
def C43 (k:Nat) (L0:A6→A6→Int→Option Bool) (a0:A6) (a1:A6):Option Bool:=(br ((a0.1.length:Int) !=(a1.1.length:Int)) (some false) (L0 a1 a0 0))
def Cv4 (k:Nat) (a0:A6) (a1:A6):Option Bool:=C43 k (X3 k k) a0 a1
end
def D97 (k:Nat) (a0:A6):Option Bool:=(br (decide ((a0.1.length:Int)>40)) (some false) (bd (D96 k a0.1) λr1=> (br r1.2 (bd (Cv4 k r1.1 a0) λr2=> (some r2)) (some false))))
def C44 (k:Nat) (a0:A6) (a1:Int):Option Bool:=(br (decide (a1< (a0.2.2.1.length:Int))) (gd (decide (0≤a1)) (gd (decide (a1< (a0.2.2.1.length:Int))) (some (rd false a0.2.2.1 a1.toNat)))) (some false))
noncomputable section
def Bs5 (k:Nat) (L0:A6→Int→List Int→Option (List Int)) (a0:A6) (v1:Int) (xs2:List Int):Option (List Int):=(br (decide (v1< (a0.1.length:Int))) (gd (decide (0≤v1)) (gd (decide (v1< (a0.1.length:Int))) (ng ((rd A4 a0.1 v1.toNat).1==(rd A4 a0.1 v1.toNat).1&&(2:Int)==0) (br ((Int.tmod (rd A4 a0.1 v1.toNat).1 2)==0) (bd (C44 k a0 v1) λr1=> (br r1 (gd (decide (xs2.length+ [(rd A4 a0.1 v1.toNat).1].length≤A5)) (L0 a0 (B5 (v1+1)) (xs2++ [(rd A4 a0.1 v1.toNat).1]))) (L0 a0 (B5 (v1+1)) xs2))) (L0 a0 (B5 (v1+1)) xs2))))) (some xs2))
def Ad0 (k:Nat):Nat→A6→Int→List Int→Option (List Int)
 |0,_,_,_=>none
 |n+1,a0,v1,xs2=>Bs5 k (Ad0 k n) a0 v1 xs2
def Dp4 (k:Nat) (L0:A6→Int→List Int→Option (List Int)) (a0:A6):Option (List Int):=(L0 a0 0 [])
def Di8 (k:Nat) (a0:A6):Option (List Int):=Dp4 k (Ad0 k k) a0
end
noncomputable section
def Bb2 (k:Nat) (L1:B4→Int→List Int→Option Bool) (a0:B4) (v2:Int) (r4:List Int):Option Bool:=(br (decide (v2< (a0.2.2.1.length:Int))) (gd (decide (0≤v2)) (gd (decide (v2< (a0.2.2.1.length:Int))) (br ((rd C1 a0.2.2.1 v2.toNat).1 !=(B5 (v2+1))) (some false) (bd (E9 k (rd C1 a0.2.2.1 v2.toNat).2.2.1 r4) λr5=> (br (!r5) (some false) (bd (F7 k (rd C1 a0.2.2.1 v2.toNat).2.1 0 (r4.length:Int)) λr6=> (br (!r6) (some false) (L1 a0 (B5 (v2+1)) r4)))))))) (some true))
def Bb3 (k:Nat) (L0:B4→Int→Option Bool) (L1:B4→Int→List Int→Option Bool) (a0:B4) (v1:Int):Option Bool:=(br (decide (v1< (a0.1.length:Int))) (gd (decide (0≤v1)) (gd (decide (v1< (a0.1.length:Int))) (bd (F7 k (rd A3 a0.1 v1.toNat).1 1 1000000) λr2=> (br (!r2) (some false) (bd (F7 k (rd A3 a0.1 v1.toNat).2.1 0 1000000) λr3=> (br (!r3) (some false) (br (decide ((((rd A3 a0.1 v1.toNat).2.2.1.size:Nat):Int)>40)) (some false) (br ((rd A3 a0.1 v1.toNat).2.1==0) (br (!((rd A3 a0.1 v1.toNat).2.2.1.toList==(⟨#[]⟩:ByteArray).toList)) (some false) (br (decide (v1>0)) (gd (decide (0≤(B5 (v1-1)))) (gd (decide ((B5 (v1-1))< (a0.1.length:Int))) (br (decide ((rd A3 a0.1 (B5 (v1-1)).toNat).1≥(rd A3 a0.1 v1.toNat).1)) (some false) (L0 a0 (B5 (v1+1)))))) (L0 a0 (B5 (v1+1))))) (br (decide (v1>0)) (gd (decide (0≤(B5 (v1-1)))) (gd (decide ((B5 (v1-1))< (a0.1.length:Int))) (br (decide ((rd A3 a0.1 (B5 (v1-1)).toNat).1≥(rd A3 a0.1 v1.toNat).1)) (some false) (L0 a0 (B5 (v1+1)))))) (L0 a0 (B5 (v1+1)))))))))))) (bd (Di8 k a0.2.1) λr4=> (L1 a0 0 r4)))
def w9 (k:Nat):Nat→B4→Int→List Int→Option Bool
 |0,_,_,_=>none
 |n+1,a0,v2,r4=>Bb2 k (w9 k n) a0 v2 r4
def P6 (k:Nat):Nat→B4→Int→Option Bool
 |0,_,_=>none
 |n+1,a0,v1=>Bb3 k (P6 k n) (w9 k n) a0 v1
def D98 (k:Nat) (L0:B4→Int→Option Bool) (a0:B4):Option Bool:=(br (decide ((a0.1.length:Int)>3)) (some false) (bd (D97 k a0.2.1) λr1=> (br (!r1) (some false) (br ((a0.2.2.1.length:Int) !=2) (some false) (L0 a0 0)))))
def Bk8 (k:Nat) (a0:B4):Option Bool:=D98 k (P6 k k) a0
end
def Bb4 (k:Nat) (a0:A0) (a1:A0):Option Bool:=(br (a0.1==a1.1) (br (a0.2.1==a1.2.1) (br (a0.2.2.1==a1.2.2.1) (br (a0.2.2.2.1==a1.2.2.2.1) (br (a0.2.2.2.2.1==a1.2.2.2.2.1) (bd (E9 k a0.2.2.2.2.2.1 a1.2.2.2.2.2.1) λr1=> (br r1 (br (a0.2.2.2.2.2.2.1.toList==a1.2.2.2.2.2.2.1.toList) (bd (E9 k a0.2.2.2.2.2.2.2.1 a1.2.2.2.2.2.2.2.1) λr2=> (br r2 (some (a0.2.2.2.2.2.2.2.2.1==a1.2.2.2.2.2.2.2.2.1)) (some false))) (some false)) (some false))) (some false)) (some false)) (some false)) (some false)) (some false))
def C45 (k:Nat) (a0:A0):Option Bool:=(br (a0.1 !=0) (some false) (br (a0.2.2.2.2.2.2.2.2.1 !=0) (some false) (br (decide ((a0.2.2.2.2.2.2.2.1.length:Int)>0)) (some false) (br (a0.2.1 !=1) (bd (Ac3 k (2,a0.2.1,a0.2.2.1,a0.2.2.2.1,a0.2.2.2.2.1,a0.2.2.2.2.2.1,a0.2.2.2.2.2.2.1,[1],a0.2.2.2.2.2.2.2.2)) λr1=> (some r1)) (bd (Ac3 k (2,a0.2)) λr2=> (some r2))))))
def Bb5 (k:Nat) (a0:B7):Option Bool:=(bd (Bb4 k a0.2.2.2.1 (0,0,0,0,0,[],ByteArray.empty,[],0,())) λr1=> (br (a0.2.2.2.2.1==0) (bd (F7 k a0.2.1 0 1000000) λr2=> (br (!r2) (some false) (bd (F7 k a0.2.2.1 0 1000000) λr3=> (br (!r3) (some false) (br (a0.1==1) (br r1 (br (a0.2.2.2.2.2.1==0) (br (a0.2.1==0) (some (a0.2.2.1==0)) (some false)) (some false)) (some false)) (br (a0.1==2) (br (a0.2.2.2.2.2.1==0) (bd (C45 k a0.2.2.2.1) λr4=> (some r4)) (some false)) (br (a0.1==3) (br (a0.2.2.2.2.2.1==0) (bd (Ac3 k a0.2.2.2.1) λr5=> (br r5 (ng (a0.2.2.2.1.1==a0.2.2.2.1.1&&(2:Int)==0) (some ((Int.tmod a0.2.2.2.1.1 2)==1))) (some false))) (some false)) (br (a0.1==4) (br r1 (bd (F7 k a0.2.2.2.2.1 1 2) λr6=> (br r6 (bd (F7 k a0.2.2.2.2.2.1 0 1000000) λr7=> (some r7)) (some false))) (some false)) (br (a0.1==5) (br r1 (some (a0.2.2.2.2.2.1==0)) (some false)) (some false)))))))))) (bd (F7 k a0.2.1 0 1000000) λr8=> (br (!r8) (some false) (bd (F7 k a0.2.2.1 0 1000000) λr9=> (br (!r9) (some false) (br (a0.1==1) (br r1 (some false) (some false)) (br (a0.1==2) (some false) (br (a0.1==3) (some false) (br (a0.1==4) (br r1 (bd (F7 k a0.2.2.2.2.1 1 2) λr10=> (br r10 (bd (F7 k a0.2.2.2.2.2.1 0 1000000) λr11=> (some r11)) (some false))) (some false)) (br (a0.1==5) (br r1 (some false) (some false)) (some false))))))))))))
noncomputable section
def Bf4 (k:Nat) (L0:B4→Int→A6→List C3→Option B4) (a0:B4) (v1:Int) (r1:A6) (xs2:List C3):Option B4:=(br (decide (v1< (a0.2.2.1.length:Int))) (gd (decide (0≤v1)) (gd (decide (v1< (a0.2.2.1.length:Int))) (gd (decide ((rd C1 a0.2.2.1 v1.toNat).2.2.1.length≤A5)) (gd (decide (xs2.length+([(rd C1 a0.2.2.1 v1.toNat)]:List C3).length≤A5)) (L0 a0 (B5 (v1+1)) r1 (xs2++([(rd C1 a0.2.2.1 v1.toNat)]:List C3))))))) (some (a0.1,r1,xs2,())))
def n7 (k:Nat):Nat→B4→Int→A6→List C3→Option B4
 |0,_,_,_,_=>none
 |n+1,a0,v1,r1,xs2=>Bf4 k (n7 k n) a0 v1 r1 xs2
def C46 (k:Nat) (L0:B4→Int→A6→List C3→Option B4) (a0:B4):Option B4:=(gd (decide (a0.1.length≤A5)) (bd (Ag4 k a0.2.1) λr1=> (L0 a0 0 r1 [])))
def Cv5 (k:Nat) (a0:B4):Option B4:=C46 k (n7 k k) a0
end
def strconv_Itoa (k:Nat) (a0:Int):Option ByteArray:=E93 a0
def G9 (k:Nat) (a0:Int):Option ByteArray:=(bd (strconv_Itoa k a0) λr1=> (some r1))
noncomputable section
def Dp5 (k:Nat) (L3:Int→Int→Int→List Int→A6→Int→Option (List Int)) (v5:Int) (v4:Int) (v6:Int) (xs7:List Int) (a0:A6) (v1:Int):Option (List Int):=(br (decide (v6< (((xs7.length-v4.toNat):Nat):Int))) (gd (decide (0≤v6)) (gd (decide (v6< (((xs7.length-v4.toNat):Nat):Int))) (gd (decide (0≤(B5 (v6-1)))) (gd (decide ((B5 (v6-1))< (((xs7.length-v4.toNat):Nat):Int))) (br ((rd 0 xs7 (v4.toNat+v6.toNat)) !=(rd 0 xs7 (v4.toNat+(B5 (v6-1)).toNat))) (gd (decide (0≤v6)) (gd (decide (v6< (((xs7.length-v4.toNat):Nat):Int))) (gd (decide (0≤v5)) (gd (decide (v5< (xs7.length:Int))) (L3 (B5 (v5+1)) v4 (B5 (v6+1)) (xs7.set v5.toNat (rd 0 xs7 (v4.toNat+v6.toNat))) a0 v1))))) (L3 v5 v4 (B5 (v6+1)) xs7 a0 v1)))))) (gd (decide (0≤v5)) (gd (decide (v5≤(xs7.length:Int))) (gd (decide (0≤v5)) (gd (decide (v5≤(((clr 0 (some v5.toNat) none xs7).length:Nat):Int))) (some ((clr 0 (some v5.toNat) none xs7).take (0+v5.toNat))))))))
def Dp6 (k:Nat) (L3:Int→Int→Int→List Int→A6→Int→Option (List Int)) (L2:Int→(Unit×List Int×Unit)→A6→Int→Option (List Int)) (v4:Int) (r2:Unit×List Int×Unit) (a0:A6) (v1:Int):Option (List Int):=(br (decide (v4< (r2.2.1.length:Int))) (gd (decide (0≤v4)) (gd (decide (v4< (r2.2.1.length:Int))) (gd (decide (0≤(B5 (v4-1)))) (gd (decide ((B5 (v4-1))< (r2.2.1.length:Int))) (br ((rd 0 r2.2.1 v4.toNat)==(rd 0 r2.2.1 (B5 (v4-1)).toNat)) (gd (decide (0≤v4)) (gd (decide (v4≤(r2.2.1.length:Int))) (L3 v4 v4 1 r2.2.1 a0 v1))) (L2 (B5 (v4+1)) r2 a0 v1)))))) (some r2.2.1))
def Bb6 (k:Nat) (L1:A6→Int→Int→List Int→Option (List Int)) (L2:Int→(Unit×List Int×Unit)→A6→Int→Option (List Int)) (a0:A6) (v1:Int) (xs2:List Int):Option (List Int):=(br (decide (v1< (a0.1.length:Int))) (gd (decide (0≤v1)) (gd (decide (v1< (a0.1.length:Int))) (L1 a0 0 v1 xs2))) (bd (J8 k xs2) λr2=> (gd (Nat.beq r2.2.1.length xs2.length) (br (decide ((r2.2.1.length:Int)<2)) (some r2.2.1) (L2 1 r2 a0 v1)))))
def Bb7 (k:Nat) (L0:A6→Int→List Int→Option (List Int)) (L1:A6→Int→Int→List Int→Option (List Int)) (a0:A6) (v3:Int) (v1:Int) (xs2:List Int):Option (List Int):=(br (decide (v3< (a0.1.length:Int))) (gd (decide (0≤v3)) (gd (decide (v3< (a0.1.length:Int))) (bd (J0 k (rd A4 a0.1 v3.toNat).2.2.2.2.2.2.2.1 (rd A4 a0.1 v1.toNat).1) λr1=> (br r1 (br (!(decide (v3≥0))) (gd (decide (xs2.length+ [(rd A4 a0.1 v1.toNat).1].length≤A5)) (L0 a0 (B5 (v1+1)) (xs2++ [(rd A4 a0.1 v1.toNat).1]))) (L0 a0 (B5 (v1+1)) xs2)) (L1 a0 (B5 (v3+1)) v1 xs2))))) (gd (decide (xs2.length+ [(rd A4 a0.1 v1.toNat).1].length≤A5)) (L0 a0 (B5 (v1+1)) (xs2++ [(rd A4 a0.1 v1.toNat).1]))))
def Bb8 (k:Nat):Nat→Int→Int→Int→List Int→A6→Int→Option (List Int)
 |0,_,_,_,_,_,_=>none
 |n+1,v5,v4,v6,xs7,a0,v1=>Dp5 k (Bb8 k n) v5 v4 v6 xs7 a0 v1
def Ai7 (k:Nat):Nat→Int→(Unit×List Int×Unit)→A6→Int→Option (List Int)
 |0,_,_,_,_=>none
 |n+1,v4,r2,a0,v1=>Dp6 k (Bb8 k n) (Ai7 k n) v4 r2 a0 v1
def Aw6 (k:Nat):Nat→(A6→Int→List Int→Option (List Int))×(A6→Int→Int→List Int→Option (List Int))
 |0=> (λ_ _ _=>none,λ_ _ _ _=>none)
 |n+1=> (Bb6 k (Aw6 k n).2 (Ai7 k n),Bb7 k (Aw6 k n).1 (Aw6 k n).2)
def Ai8 (k:Nat) (n:Nat):A6→Int→List Int→Option (List Int):=(Aw6 k n).1
def Aw7 (k:Nat) (n:Nat):A6→Int→Int→List Int→Option (List Int):=(Aw6 k n).2
theorem Fe1 (k:Nat) (n:Nat) (a0:A6) (v1:Int) (xs2:List Int):Ai8 k (n+1) a0 v1 xs2=Bb6 k (Aw7 k n) (Ai7 k n) a0 v1 xs2:=rfl
theorem Fe2 (k:Nat) (n:Nat) (a0:A6) (v3:Int) (v1:Int) (xs2:List Int):Aw7 k (n+1) a0 v3 v1 xs2=Bb7 k (Ai8 k n) (Aw7 k n) a0 v3 v1 xs2:=rfl
def D99 (k:Nat) (L0:A6→Int→List Int→Option (List Int)) (a0:A6):Option (List Int):=(L0 a0 0 [])
def Bk9 (k:Nat) (a0:A6):Option (List Int):=D99 k (Ai8 k k) a0
end
def E11 (k:Nat) (a0:A6) (a1:Int) (a2:A0):Option A0:=(bd (P5 k a2) λr1=> (bd (F7 k a1 0 1000000) λr2=> (br r2 (br (a2.2.1 !=1) (bd (Bk9 k a0) λr3=> (gd (decide (0≤(if(B5 ((r3.length:Int)-3))>0 then(B5 ((r3.length:Int)-3))else 0))) (gd (decide ((if(B5 ((r3.length:Int)-3))>0 then(B5 ((r3.length:Int)-3))else 0)≤(r3.length:Int))) (gd (decide ((r3.drop (if(B5 ((r3.length:Int)-3))>0 then(B5 ((r3.length:Int)-3))else 0).toNat).length≤A5)) (bd (Ac5 k a0 (r3.drop (if(B5 ((r3.length:Int)-3))>0 then(B5 ((r3.length:Int)-3))else 0).toNat)) λr4=> (some ((B5 (2*a1)),r1.2.1,r1.2.2.1,r1.2.2.2.1,r1.2.2.2.2.1,r1.2.2.2.2.2.1,r1.2.2.2.2.2.2.1,(r3.drop (if(B5 ((r3.length:Int)-3))>0 then(B5 ((r3.length:Int)-3))else 0).toNat),r4,()))))))) (bd (Ac5 k a0 []) λr5=> (some ((B5 (2*a1)),r1.2.1,r1.2.2.1,r1.2.2.2.1,r1.2.2.2.2.1,r1.2.2.2.2.2.1,r1.2.2.2.2.2.2.1,[],r5,())))) (br (a2.2.1 !=1) (bd (Bk9 k a0) λr6=> (gd (decide (0≤(if(B5 ((r6.length:Int)-3))>0 then(B5 ((r6.length:Int)-3))else 0))) (gd (decide ((if(B5 ((r6.length:Int)-3))>0 then(B5 ((r6.length:Int)-3))else 0)≤(r6.length:Int))) (gd (decide ((r6.drop (if(B5 ((r6.length:Int)-3))>0 then(B5 ((r6.length:Int)-3))else 0).toNat).length≤A5)) (bd (Ac5 k a0 (r6.drop (if(B5 ((r6.length:Int)-3))>0 then(B5 ((r6.length:Int)-3))else 0).toNat)) λr7=> (some (0,r1.2.1,r1.2.2.1,r1.2.2.2.1,r1.2.2.2.2.1,r1.2.2.2.2.2.1,r1.2.2.2.2.2.2.1,(r6.drop (if(B5 ((r6.length:Int)-3))>0 then(B5 ((r6.length:Int)-3))else 0).toNat),r7,()))))))) (bd (Ac5 k a0 []) λr8=> (some (0,r1.2.1,r1.2.2.1,r1.2.2.2.1,r1.2.2.2.2.1,r1.2.2.2.2.2.1,r1.2.2.2.2.2.2.1,[],r8,())))))))
def Di9 (k:Nat) (a0:A6):Option (List A1):=(bd (Bk9 k a0) λr1=> (bd (C42 k a0 r1) λr2=> (some r2.1)))
noncomputable section
def Bs6 (k:Nat) (L0:Int→A6→List A1→List Int→Option (List Int)) (v1:Int) (a0:A6) (r1:List A1) (xs2:List Int):Option (List Int):=(br (decide (v1≤5)) (bd (Aq8 k a0.1 r1 v1) λr2=> (br (r2==2) (gd (decide (xs2.length+ [v1].length≤A5)) (L0 (B5 (v1+1)) a0 r1 (xs2++ [v1]))) (L0 (B5 (v1+1)) a0 r1 xs2))) (some xs2))
def Ad1 (k:Nat):Nat→Int→A6→List A1→List Int→Option (List Int)
 |0,_,_,_,_=>none
 |n+1,v1,a0,r1,xs2=>Bs6 k (Ad1 k n) v1 a0 r1 xs2
def Dp7 (k:Nat) (L0:Int→A6→List A1→List Int→Option (List Int)) (a0:A6):Option (List Int):=(bd (Di9 k a0) λr1=> (L0 1 a0 r1 []))
def Dj0 (k:Nat) (a0:A6):Option (List Int):=Dp7 k (Ad1 k k) a0
end
noncomputable section
def Bs7 (k:Nat) (L1:(A6×Bool)→B4→Int→A0→B7→B4→List C3→Int→Int→Bool→Bool→Bool→Option (B4×ByteArray×Bool)) (r10:A6×Bool) (r4:B4) (v2:Int) (r9:A0) (a2:B7) (a0:B4) (xs3:List C3) (a1:Int) (v1:Int) (r1:Bool) (r2:Bool) (r3:Bool):Option (B4×ByteArray×Bool):=(br (decide (v2< (r4.2.2.1.length:Int))) (gd (decide (0≤v2)) (gd (decide (v2< (xs3.length:Int))) (gd (decide ((rd C1 xs3 v2.toNat).2.2.1.length+ [r9.1].length≤A5)) (lt (xs3.set v2.toNat ((rd C1 xs3 v2.toNat).1,(rd C1 xs3 v2.toNat).2.1,((rd C1 xs3 v2.toNat).2.2.1++ [r9.1]),(rd C1 xs3 v2.toNat).2.2.2)) λz11=> (gd (decide (0≤v2)) (gd (decide (v2< (z11.length:Int))) (gd (Nat.beq v2.toNat v2.toNat) (gd (Nat.ble 1 ((rd C1 xs3 v2.toNat).2.2.1.length+ [r9.1].length)) (L1 r10 r4 (B5 (v2+1)) r9 a2 a0 z11 a1 v1 r1 r2 r3))))))))) (br (!(rd false r10.1.2.2.1 (B5 ((r10.1.2.2.1.length:Int)-1)).toNat)) (some ((((r4.1.set v1.toNat ((rd A3 r4.1 v1.toNat).1,a2.2.2.1,(rd A3 r4.1 v1.toNat).2.2)).set v1.toNat ((rd A3 (r4.1.set v1.toNat ((rd A3 r4.1 v1.toNat).1,a2.2.2.1,(rd A3 r4.1 v1.toNat).2.2)) v1.toNat).1,(rd A3 (r4.1.set v1.toNat ((rd A3 r4.1 v1.toNat).1,a2.2.2.1,(rd A3 r4.1 v1.toNat).2.2)) v1.toNat).2.1,(⟨#[100,101,110,105,101,100]⟩:ByteArray),())),r10.1,xs3,()),(⟨#[100,101,110,105,101,100]⟩:ByteArray),true)) (bd (G9 k r9.1) λr12=> (gd (decide ((⟨#[115,101,110,116,32]⟩:ByteArray).size+r12.size≤A5)) (some ((((r4.1.set v1.toNat ((rd A3 r4.1 v1.toNat).1,a2.2.2.1,(rd A3 r4.1 v1.toNat).2.2)).set v1.toNat ((rd A3 (r4.1.set v1.toNat ((rd A3 r4.1 v1.toNat).1,a2.2.2.1,(rd A3 r4.1 v1.toNat).2.2)) v1.toNat).1,(rd A3 (r4.1.set v1.toNat ((rd A3 r4.1 v1.toNat).1,a2.2.2.1,(rd A3 r4.1 v1.toNat).2.2)) v1.toNat).2.1,((⟨#[115,101,110,116,32]⟩:ByteArray)++r12),())),r10.1,xs3,()),((⟨#[115,101,110,116,32]⟩:ByteArray)++r12),true))))))
def C47 (k:Nat) (L2:(A6×Bool)→B4→Int→A0→B7→B4→List C3→Int→Int→Bool→Bool→Bool→Option (B4×ByteArray×Bool)) (r10:A6×Bool) (r4:B4) (v4:Int) (r9:A0) (a2:B7) (a0:B4) (xs5:List C3) (a1:Int) (v1:Int) (r1:Bool) (r2:Bool) (r3:Bool):Option (B4×ByteArray×Bool):=(br (decide (v4< (r4.2.2.1.length:Int))) (gd (decide (0≤v4)) (gd (decide (v4< (xs5.length:Int))) (gd (decide ((rd C1 xs5 v4.toNat).2.2.1.length+ [r9.1].length≤A5)) (lt (xs5.set v4.toNat ((rd C1 xs5 v4.toNat).1,(rd C1 xs5 v4.toNat).2.1,((rd C1 xs5 v4.toNat).2.2.1++ [r9.1]),(rd C1 xs5 v4.toNat).2.2.2)) λz15=> (gd (decide (0≤v4)) (gd (decide (v4< (z15.length:Int))) (gd (Nat.beq v4.toNat v4.toNat) (gd (Nat.ble 1 ((rd C1 xs5 v4.toNat).2.2.1.length+ [r9.1].length)) (L2 r10 r4 (B5 (v4+1)) r9 a2 a0 z15 a1 v1 r1 r2 r3))))))))) (br (!(rd false r10.1.2.2.1 (B5 ((r10.1.2.2.1.length:Int)-1)).toNat)) (some ((((r4.1.set v1.toNat ((rd A3 r4.1 v1.toNat).1,a2.2.2.1,(rd A3 r4.1 v1.toNat).2.2)).set v1.toNat ((rd A3 (r4.1.set v1.toNat ((rd A3 r4.1 v1.toNat).1,a2.2.2.1,(rd A3 r4.1 v1.toNat).2.2)) v1.toNat).1,(rd A3 (r4.1.set v1.toNat ((rd A3 r4.1 v1.toNat).1,a2.2.2.1,(rd A3 r4.1 v1.toNat).2.2)) v1.toNat).2.1,(⟨#[100,101,110,105,101,100]⟩:ByteArray),())),r4.2.1,xs5,()),(⟨#[100,101,110,105,101,100]⟩:ByteArray),true)) (bd (G9 k r9.1) λr16=> (gd (decide ((⟨#[115,101,110,116,32]⟩:ByteArray).size+r16.size≤A5)) (some ((((r4.1.set v1.toNat ((rd A3 r4.1 v1.toNat).1,a2.2.2.1,(rd A3 r4.1 v1.toNat).2.2)).set v1.toNat ((rd A3 (r4.1.set v1.toNat ((rd A3 r4.1 v1.toNat).1,a2.2.2.1,(rd A3 r4.1 v1.toNat).2.2)) v1.toNat).1,(rd A3 (r4.1.set v1.toNat ((rd A3 r4.1 v1.toNat).1,a2.2.2.1,(rd A3 r4.1 v1.toNat).2.2)) v1.toNat).2.1,((⟨#[115,101,110,116,32]⟩:ByteArray)++r16),())),r4.2.1,xs5,()),((⟨#[115,101,110,116,32]⟩:ByteArray)++r16),true))))))
def C48 (k:Nat) (L3:(A6×Bool)→B4→Int→B7→B4→List C3→Int→Int→Bool→Bool→Bool→Option (B4×ByteArray×Bool)) (r19:A6×Bool) (r4:B4) (v6:Int) (a2:B7) (a0:B4) (xs7:List C3) (a1:Int) (v1:Int) (r1:Bool) (r2:Bool) (r3:Bool):Option (B4×ByteArray×Bool):=(br (decide (v6< (r4.2.2.1.length:Int))) (gd (decide (0≤v6)) (gd (decide (v6< (xs7.length:Int))) (gd (decide ((rd C1 xs7 v6.toNat).2.2.1.length+ [a2.2.2.2.1.1].length≤A5)) (lt (xs7.set v6.toNat ((rd C1 xs7 v6.toNat).1,(rd C1 xs7 v6.toNat).2.1,((rd C1 xs7 v6.toNat).2.2.1++ [a2.2.2.2.1.1]),(rd C1 xs7 v6.toNat).2.2.2)) λz20=> (gd (decide (0≤v6)) (gd (decide (v6< (z20.length:Int))) (gd (Nat.beq v6.toNat v6.toNat) (gd (Nat.ble 1 ((rd C1 xs7 v6.toNat).2.2.1.length+ [a2.2.2.2.1.1].length)) (L3 r19 r4 (B5 (v6+1)) a2 a0 z20 a1 v1 r1 r2 r3))))))))) (br (rd false r19.1.2.2.1 (B5 ((r19.1.2.2.1.length:Int)-1)).toNat) (bd (G9 k a2.2.2.2.1.1) λr21=> (gd (decide ((⟨#[103,111,116,32]⟩:ByteArray).size+r21.size≤A5)) (some ((((r4.1.set v1.toNat ((rd A3 r4.1 v1.toNat).1,a2.2.2.1,(rd A3 r4.1 v1.toNat).2.2)).set v1.toNat ((rd A3 (r4.1.set v1.toNat ((rd A3 r4.1 v1.toNat).1,a2.2.2.1,(rd A3 r4.1 v1.toNat).2.2)) v1.toNat).1,(rd A3 (r4.1.set v1.toNat ((rd A3 r4.1 v1.toNat).1,a2.2.2.1,(rd A3 r4.1 v1.toNat).2.2)) v1.toNat).2.1,((⟨#[103,111,116,32]⟩:ByteArray)++r21),())),r19.1,xs7,()),((⟨#[103,111,116,32]⟩:ByteArray)++r21),true)))) (bd (G9 k a2.2.2.2.1.1) λr22=> (gd (decide ((⟨#[107,101,112,116,32]⟩:ByteArray).size+r22.size≤A5)) (some ((((r4.1.set v1.toNat ((rd A3 r4.1 v1.toNat).1,a2.2.2.1,(rd A3 r4.1 v1.toNat).2.2)).set v1.toNat ((rd A3 (r4.1.set v1.toNat ((rd A3 r4.1 v1.toNat).1,a2.2.2.1,(rd A3 r4.1 v1.toNat).2.2)) v1.toNat).1,(rd A3 (r4.1.set v1.toNat ((rd A3 r4.1 v1.toNat).1,a2.2.2.1,(rd A3 r4.1 v1.toNat).2.2)) v1.toNat).2.1,((⟨#[107,101,112,116,32]⟩:ByteArray)++r22),())),r19.1,xs7,()),((⟨#[107,101,112,116,32]⟩:ByteArray)++r22),true))))))
def Bs8 (k:Nat) (L4:ByteArray→List Int→Int→B4→B7→B4→Int→Int→Bool→Bool→Bool→Option (B4×ByteArray×Bool)) (v8:ByteArray) (r32:List Int) (v9:Int) (a0:B4) (a2:B7) (r4:B4) (a1:Int) (v1:Int) (r1:Bool) (r2:Bool) (r3:Bool):Option (B4×ByteArray×Bool):=(br (decide (v9< (r32.length:Int))) (gd (decide (0≤v9)) (gd (decide (v9< (r32.length:Int))) (bd (G9 k (rd 0 r32 v9.toNat)) λr33=> (gd (decide ((⟨#[32]⟩:ByteArray).size+r33.size≤A5)) (gd (decide (v8.size+((⟨#[32]⟩:ByteArray)++r33).size≤A5)) (L4 (v8++((⟨#[32]⟩:ByteArray)++r33)) r32 (B5 (v9+1)) a0 a2 r4 a1 v1 r1 r2 r3)))))) (some ((((r4.1.set v1.toNat ((rd A3 r4.1 v1.toNat).1,a2.2.2.1,(rd A3 r4.1 v1.toNat).2.2)).set v1.toNat ((rd A3 (r4.1.set v1.toNat ((rd A3 r4.1 v1.toNat).1,a2.2.2.1,(rd A3 r4.1 v1.toNat).2.2)) v1.toNat).1,(rd A3 (r4.1.set v1.toNat ((rd A3 r4.1 v1.toNat).1,a2.2.2.1,(rd A3 r4.1 v1.toNat).2.2)) v1.toNat).2.1,v8,())),r4.2),v8,true)))
def Bs9 (k:Nat) (L1:(A6×Bool)→B4→Int→A0→B7→B4→List C3→Int→Int→Bool→Bool→Bool→Option (B4×ByteArray×Bool)) (L2:(A6×Bool)→B4→Int→A0→B7→B4→List C3→Int→Int→Bool→Bool→Bool→Option (B4×ByteArray×Bool)) (L3:(A6×Bool)→B4→Int→B7→B4→List C3→Int→Int→Bool→Bool→Bool→Option (B4×ByteArray×Bool)) (L4:ByteArray→List Int→Int→B4→B7→B4→Int→Int→Bool→Bool→Bool→Option (B4×ByteArray×Bool)) (L0:B4→Int→B7→B4→Int→Bool→Bool→Bool→Option (B4×ByteArray×Bool)) (a0:B4) (v1:Int) (a2:B7) (r4:B4) (a1:Int) (r1:Bool) (r2:Bool) (r3:Bool):Option (B4×ByteArray×Bool):=(br (decide (v1< (a0.1.length:Int))) (gd (decide (0≤v1)) (gd (decide (v1< (a0.1.length:Int))) (br ((rd A3 a0.1 v1.toNat).1==a2.2.1) (br (decide (v1<0)) (some (r4,(⟨#[110,111,110,101]⟩:ByteArray),true)) (gd (decide (0≤v1)) (gd (decide (v1< (r4.1.length:Int))) (br (decide (a2.2.2.1> (B5 ((rd A3 r4.1 v1.toNat).2.1+1)))) (some (r4,(⟨#[103,97,112]⟩:ByteArray),true)) (br (decide (a2.2.2.1< (rd A3 r4.1 v1.toNat).2.1)) (some (r4,(⟨#[111,108,100]⟩:ByteArray),true)) (br (a2.2.2.1==0) (some (r4,(⟨#[111,108,100]⟩:ByteArray),true)) (br (a2.2.2.1==(rd A3 r4.1 v1.toNat).2.1) (some (r4,(rd A3 r4.1 v1.toNat).2.2.1,true)) (br (a2.1==2) (bd (E11 k r4.2.1 a1 a2.2.2.2.1) λr9=> (bd (Ar2 k r4.2.1 r9) λr10=> (br (!r10.2) (some ((((r4.1.set v1.toNat ((rd A3 r4.1 v1.toNat).1,a2.2.2.1,(rd A3 r4.1 v1.toNat).2.2)).set v1.toNat ((rd A3 (r4.1.set v1.toNat ((rd A3 r4.1 v1.toNat).1,a2.2.2.1,(rd A3 r4.1 v1.toNat).2.2)) v1.toNat).1,(rd A3 (r4.1.set v1.toNat ((rd A3 r4.1 v1.toNat).1,a2.2.2.1,(rd A3 r4.1 v1.toNat).2.2)) v1.toNat).2.1,(⟨#[114,111,111,109]⟩:ByteArray),())),r4.2),(⟨#[114,111,111,109]⟩:ByteArray),true)) (gd (decide (0≤(B5 ((r10.1.2.2.1.length:Int)-1)))) (gd (decide ((B5 ((r10.1.2.2.1.length:Int)-1))< (r10.1.2.2.1.length:Int))) (br (rd false r10.1.2.2.1 (B5 ((r10.1.2.2.1.length:Int)-1)).toNat) (br (rd false r10.1.2.2.1 (B5 ((r10.1.2.2.1.length:Int)-1)).toNat) (ng (r9.1==r9.1&&(2:Int)==0) (br ((Int.tmod r9.1 2)==0) (L1 r10 r4 0 r9 a2 a0 r4.2.2.1 a1 v1 r1 r2 r3) (br (!(rd false r10.1.2.2.1 (B5 ((r10.1.2.2.1.length:Int)-1)).toNat)) (some ((((r4.1.set v1.toNat ((rd A3 r4.1 v1.toNat).1,a2.2.2.1,(rd A3 r4.1 v1.toNat).2.2)).set v1.toNat ((rd A3 (r4.1.set v1.toNat ((rd A3 r4.1 v1.toNat).1,a2.2.2.1,(rd A3 r4.1 v1.toNat).2.2)) v1.toNat).1,(rd A3 (r4.1.set v1.toNat ((rd A3 r4.1 v1.toNat).1,a2.2.2.1,(rd A3 r4.1 v1.toNat).2.2)) v1.toNat).2.1,(⟨#[100,101,110,105,101,100]⟩:ByteArray),())),r10.1,r4.2.2),(⟨#[100,101,110,105,101,100]⟩:ByteArray),true)) (bd (G9 k r9.1) λr13=> (gd (decide ((⟨#[115,101,110,116,32]⟩:ByteArray).size+r13.size≤A5)) (some ((((r4.1.set v1.toNat ((rd A3 r4.1 v1.toNat).1,a2.2.2.1,(rd A3 r4.1 v1.toNat).2.2)).set v1.toNat ((rd A3 (r4.1.set v1.toNat ((rd A3 r4.1 v1.toNat).1,a2.2.2.1,(rd A3 r4.1 v1.toNat).2.2)) v1.toNat).1,(rd A3 (r4.1.set v1.toNat ((rd A3 r4.1 v1.toNat).1,a2.2.2.1,(rd A3 r4.1 v1.toNat).2.2)) v1.toNat).2.1,((⟨#[115,101,110,116,32]⟩:ByteArray)++r13),())),r10.1,r4.2.2),((⟨#[115,101,110,116,32]⟩:ByteArray)++r13),true))))))) (br (!(rd false r10.1.2.2.1 (B5 ((r10.1.2.2.1.length:Int)-1)).toNat)) (some ((((r4.1.set v1.toNat ((rd A3 r4.1 v1.toNat).1,a2.2.2.1,(rd A3 r4.1 v1.toNat).2.2)).set v1.toNat ((rd A3 (r4.1.set v1.toNat ((rd A3 r4.1 v1.toNat).1,a2.2.2.1,(rd A3 r4.1 v1.toNat).2.2)) v1.toNat).1,(rd A3 (r4.1.set v1.toNat ((rd A3 r4.1 v1.toNat).1,a2.2.2.1,(rd A3 r4.1 v1.toNat).2.2)) v1.toNat).2.1,(⟨#[100,101,110,105,101,100]⟩:ByteArray),())),r10.1,r4.2.2),(⟨#[100,101,110,105,101,100]⟩:ByteArray),true)) (bd (G9 k r9.1) λr14=> (gd (decide ((⟨#[115,101,110,116,32]⟩:ByteArray).size+r14.size≤A5)) (some ((((r4.1.set v1.toNat ((rd A3 r4.1 v1.toNat).1,a2.2.2.1,(rd A3 r4.1 v1.toNat).2.2)).set v1.toNat ((rd A3 (r4.1.set v1.toNat ((rd A3 r4.1 v1.toNat).1,a2.2.2.1,(rd A3 r4.1 v1.toNat).2.2)) v1.toNat).1,(rd A3 (r4.1.set v1.toNat ((rd A3 r4.1 v1.toNat).1,a2.2.2.1,(rd A3 r4.1 v1.toNat).2.2)) v1.toNat).2.1,((⟨#[115,101,110,116,32]⟩:ByteArray)++r14),())),r10.1,r4.2.2),((⟨#[115,101,110,116,32]⟩:ByteArray)++r14),true)))))) (br (rd false r10.1.2.2.1 (B5 ((r10.1.2.2.1.length:Int)-1)).toNat) (ng (r9.1==r9.1&&(2:Int)==0) (br ((Int.tmod r9.1 2)==0) (L2 r10 r4 0 r9 a2 a0 r4.2.2.1 a1 v1 r1 r2 r3) (br (!(rd false r10.1.2.2.1 (B5 ((r10.1.2.2.1.length:Int)-1)).toNat)) (some ((((r4.1.set v1.toNat ((rd A3 r4.1 v1.toNat).1,a2.2.2.1,(rd A3 r4.1 v1.toNat).2.2)).set v1.toNat ((rd A3 (r4.1.set v1.toNat ((rd A3 r4.1 v1.toNat).1,a2.2.2.1,(rd A3 r4.1 v1.toNat).2.2)) v1.toNat).1,(rd A3 (r4.1.set v1.toNat ((rd A3 r4.1 v1.toNat).1,a2.2.2.1,(rd A3 r4.1 v1.toNat).2.2)) v1.toNat).2.1,(⟨#[100,101,110,105,101,100]⟩:ByteArray),())),r4.2),(⟨#[100,101,110,105,101,100]⟩:ByteArray),true)) (bd (G9 k r9.1) λr17=> (gd (decide ((⟨#[115,101,110,116,32]⟩:ByteArray).size+r17.size≤A5)) (some ((((r4.1.set v1.toNat ((rd A3 r4.1 v1.toNat).1,a2.2.2.1,(rd A3 r4.1 v1.toNat).2.2)).set v1.toNat ((rd A3 (r4.1.set v1.toNat ((rd A3 r4.1 v1.toNat).1,a2.2.2.1,(rd A3 r4.1 v1.toNat).2.2)) v1.toNat).1,(rd A3 (r4.1.set v1.toNat ((rd A3 r4.1 v1.toNat).1,a2.2.2.1,(rd A3 r4.1 v1.toNat).2.2)) v1.toNat).2.1,((⟨#[115,101,110,116,32]⟩:ByteArray)++r17),())),r4.2),((⟨#[115,101,110,116,32]⟩:ByteArray)++r17),true))))))) (br (!(rd false r10.1.2.2.1 (B5 ((r10.1.2.2.1.length:Int)-1)).toNat)) (some ((((r4.1.set v1.toNat ((rd A3 r4.1 v1.toNat).1,a2.2.2.1,(rd A3 r4.1 v1.toNat).2.2)).set v1.toNat ((rd A3 (r4.1.set v1.toNat ((rd A3 r4.1 v1.toNat).1,a2.2.2.1,(rd A3 r4.1 v1.toNat).2.2)) v1.toNat).1,(rd A3 (r4.1.set v1.toNat ((rd A3 r4.1 v1.toNat).1,a2.2.2.1,(rd A3 r4.1 v1.toNat).2.2)) v1.toNat).2.1,(⟨#[100,101,110,105,101,100]⟩:ByteArray),())),r4.2),(⟨#[100,101,110,105,101,100]⟩:ByteArray),true)) (bd (G9 k r9.1) λr18=> (gd (decide ((⟨#[115,101,110,116,32]⟩:ByteArray).size+r18.size≤A5)) (some ((((r4.1.set v1.toNat ((rd A3 r4.1 v1.toNat).1,a2.2.2.1,(rd A3 r4.1 v1.toNat).2.2)).set v1.toNat ((rd A3 (r4.1.set v1.toNat ((rd A3 r4.1 v1.toNat).1,a2.2.2.1,(rd A3 r4.1 v1.toNat).2.2)) v1.toNat).1,(rd A3 (r4.1.set v1.toNat ((rd A3 r4.1 v1.toNat).1,a2.2.2.1,(rd A3 r4.1 v1.toNat).2.2)) v1.toNat).2.1,((⟨#[115,101,110,116,32]⟩:ByteArray)++r18),())),r4.2),((⟨#[115,101,110,116,32]⟩:ByteArray)++r18),true)))))))))))) (br (a2.1==3) (bd (Ar2 k r4.2.1 a2.2.2.2.1) λr19=> (br (!r19.2) (some ((((r4.1.set v1.toNat ((rd A3 r4.1 v1.toNat).1,a2.2.2.1,(rd A3 r4.1 v1.toNat).2.2)).set v1.toNat ((rd A3 (r4.1.set v1.toNat ((rd A3 r4.1 v1.toNat).1,a2.2.2.1,(rd A3 r4.1 v1.toNat).2.2)) v1.toNat).1,(rd A3 (r4.1.set v1.toNat ((rd A3 r4.1 v1.toNat).1,a2.2.2.1,(rd A3 r4.1 v1.toNat).2.2)) v1.toNat).2.1,(⟨#[114,111,111,109]⟩:ByteArray),())),r4.2),(⟨#[114,111,111,109]⟩:ByteArray),true)) (gd (decide (0≤(B5 ((r19.1.2.2.1.length:Int)-1)))) (gd (decide ((B5 ((r19.1.2.2.1.length:Int)-1))< (r19.1.2.2.1.length:Int))) (br (rd false r19.1.2.2.1 (B5 ((r19.1.2.2.1.length:Int)-1)).toNat) (br (rd false r19.1.2.2.1 (B5 ((r19.1.2.2.1.length:Int)-1)).toNat) (ng (a2.2.2.2.1.1==a2.2.2.2.1.1&&(2:Int)==0) (br ((Int.tmod a2.2.2.2.1.1 2)==0) (L3 r19 r4 0 a2 a0 r4.2.2.1 a1 v1 r1 r2 r3) (br (rd false r19.1.2.2.1 (B5 ((r19.1.2.2.1.length:Int)-1)).toNat) (bd (G9 k a2.2.2.2.1.1) λr23=> (gd (decide ((⟨#[103,111,116,32]⟩:ByteArray).size+r23.size≤A5)) (some ((((r4.1.set v1.toNat ((rd A3 r4.1 v1.toNat).1,a2.2.2.1,(rd A3 r4.1 v1.toNat).2.2)).set v1.toNat ((rd A3 (r4.1.set v1.toNat ((rd A3 r4.1 v1.toNat).1,a2.2.2.1,(rd A3 r4.1 v1.toNat).2.2)) v1.toNat).1,(rd A3 (r4.1.set v1.toNat ((rd A3 r4.1 v1.toNat).1,a2.2.2.1,(rd A3 r4.1 v1.toNat).2.2)) v1.toNat).2.1,((⟨#[103,111,116,32]⟩:ByteArray)++r23),())),r19.1,r4.2.2),((⟨#[103,111,116,32]⟩:ByteArray)++r23),true)))) (bd (G9 k a2.2.2.2.1.1) λr24=> (gd (decide ((⟨#[107,101,112,116,32]⟩:ByteArray).size+r24.size≤A5)) (some ((((r4.1.set v1.toNat ((rd A3 r4.1 v1.toNat).1,a2.2.2.1,(rd A3 r4.1 v1.toNat).2.2)).set v1.toNat ((rd A3 (r4.1.set v1.toNat ((rd A3 r4.1 v1.toNat).1,a2.2.2.1,(rd A3 r4.1 v1.toNat).2.2)) v1.toNat).1,(rd A3 (r4.1.set v1.toNat ((rd A3 r4.1 v1.toNat).1,a2.2.2.1,(rd A3 r4.1 v1.toNat).2.2)) v1.toNat).2.1,((⟨#[107,101,112,116,32]⟩:ByteArray)++r24),())),r19.1,r4.2.2),((⟨#[107,101,112,116,32]⟩:ByteArray)++r24),true))))))) (br (rd false r19.1.2.2.1 (B5 ((r19.1.2.2.1.length:Int)-1)).toNat) (bd (G9 k a2.2.2.2.1.1) λr25=> (gd (decide ((⟨#[103,111,116,32]⟩:ByteArray).size+r25.size≤A5)) (some ((((r4.1.set v1.toNat ((rd A3 r4.1 v1.toNat).1,a2.2.2.1,(rd A3 r4.1 v1.toNat).2.2)).set v1.toNat ((rd A3 (r4.1.set v1.toNat ((rd A3 r4.1 v1.toNat).1,a2.2.2.1,(rd A3 r4.1 v1.toNat).2.2)) v1.toNat).1,(rd A3 (r4.1.set v1.toNat ((rd A3 r4.1 v1.toNat).1,a2.2.2.1,(rd A3 r4.1 v1.toNat).2.2)) v1.toNat).2.1,((⟨#[103,111,116,32]⟩:ByteArray)++r25),())),r19.1,r4.2.2),((⟨#[103,111,116,32]⟩:ByteArray)++r25),true)))) (bd (G9 k a2.2.2.2.1.1) λr26=> (gd (decide ((⟨#[107,101,112,116,32]⟩:ByteArray).size+r26.size≤A5)) (some ((((r4.1.set v1.toNat ((rd A3 r4.1 v1.toNat).1,a2.2.2.1,(rd A3 r4.1 v1.toNat).2.2)).set v1.toNat ((rd A3 (r4.1.set v1.toNat ((rd A3 r4.1 v1.toNat).1,a2.2.2.1,(rd A3 r4.1 v1.toNat).2.2)) v1.toNat).1,(rd A3 (r4.1.set v1.toNat ((rd A3 r4.1 v1.toNat).1,a2.2.2.1,(rd A3 r4.1 v1.toNat).2.2)) v1.toNat).2.1,((⟨#[107,101,112,116,32]⟩:ByteArray)++r26),())),r19.1,r4.2.2),((⟨#[107,101,112,116,32]⟩:ByteArray)++r26),true)))))) (br (rd false r19.1.2.2.1 (B5 ((r19.1.2.2.1.length:Int)-1)).toNat) (ng (a2.2.2.2.1.1==a2.2.2.2.1.1&&(2:Int)==0) (br ((Int.tmod a2.2.2.2.1.1 2)==0) (L3 r19 r4 0 a2 a0 r4.2.2.1 a1 v1 r1 r2 r3) (br (rd false r19.1.2.2.1 (B5 ((r19.1.2.2.1.length:Int)-1)).toNat) (bd (G9 k a2.2.2.2.1.1) λr27=> (gd (decide ((⟨#[103,111,116,32]⟩:ByteArray).size+r27.size≤A5)) (some ((((r4.1.set v1.toNat ((rd A3 r4.1 v1.toNat).1,a2.2.2.1,(rd A3 r4.1 v1.toNat).2.2)).set v1.toNat ((rd A3 (r4.1.set v1.toNat ((rd A3 r4.1 v1.toNat).1,a2.2.2.1,(rd A3 r4.1 v1.toNat).2.2)) v1.toNat).1,(rd A3 (r4.1.set v1.toNat ((rd A3 r4.1 v1.toNat).1,a2.2.2.1,(rd A3 r4.1 v1.toNat).2.2)) v1.toNat).2.1,((⟨#[103,111,116,32]⟩:ByteArray)++r27),())),r19.1,r4.2.2),((⟨#[103,111,116,32]⟩:ByteArray)++r27),true)))) (bd (G9 k a2.2.2.2.1.1) λr28=> (gd (decide ((⟨#[107,101,112,116,32]⟩:ByteArray).size+r28.size≤A5)) (some ((((r4.1.set v1.toNat ((rd A3 r4.1 v1.toNat).1,a2.2.2.1,(rd A3 r4.1 v1.toNat).2.2)).set v1.toNat ((rd A3 (r4.1.set v1.toNat ((rd A3 r4.1 v1.toNat).1,a2.2.2.1,(rd A3 r4.1 v1.toNat).2.2)) v1.toNat).1,(rd A3 (r4.1.set v1.toNat ((rd A3 r4.1 v1.toNat).1,a2.2.2.1,(rd A3 r4.1 v1.toNat).2.2)) v1.toNat).2.1,((⟨#[107,101,112,116,32]⟩:ByteArray)++r28),())),r19.1,r4.2.2),((⟨#[107,101,112,116,32]⟩:ByteArray)++r28),true))))))) (br (rd false r19.1.2.2.1 (B5 ((r19.1.2.2.1.length:Int)-1)).toNat) (bd (G9 k a2.2.2.2.1.1) λr29=> (gd (decide ((⟨#[103,111,116,32]⟩:ByteArray).size+r29.size≤A5)) (some ((((r4.1.set v1.toNat ((rd A3 r4.1 v1.toNat).1,a2.2.2.1,(rd A3 r4.1 v1.toNat).2.2)).set v1.toNat ((rd A3 (r4.1.set v1.toNat ((rd A3 r4.1 v1.toNat).1,a2.2.2.1,(rd A3 r4.1 v1.toNat).2.2)) v1.toNat).1,(rd A3 (r4.1.set v1.toNat ((rd A3 r4.1 v1.toNat).1,a2.2.2.1,(rd A3 r4.1 v1.toNat).2.2)) v1.toNat).2.1,((⟨#[103,111,116,32]⟩:ByteArray)++r29),())),r19.1,r4.2.2),((⟨#[103,111,116,32]⟩:ByteArray)++r29),true)))) (bd (G9 k a2.2.2.2.1.1) λr30=> (gd (decide ((⟨#[107,101,112,116,32]⟩:ByteArray).size+r30.size≤A5)) (some ((((r4.1.set v1.toNat ((rd A3 r4.1 v1.toNat).1,a2.2.2.1,(rd A3 r4.1 v1.toNat).2.2)).set v1.toNat ((rd A3 (r4.1.set v1.toNat ((rd A3 r4.1 v1.toNat).1,a2.2.2.1,(rd A3 r4.1 v1.toNat).2.2)) v1.toNat).1,(rd A3 (r4.1.set v1.toNat ((rd A3 r4.1 v1.toNat).1,a2.2.2.1,(rd A3 r4.1 v1.toNat).2.2)) v1.toNat).2.1,((⟨#[107,101,112,116,32]⟩:ByteArray)++r30),())),r19.1,r4.2.2),((⟨#[107,101,112,116,32]⟩:ByteArray)++r30),true))))))))))) (br (a2.1==4) (gd (decide (0≤(B5 (a2.2.2.2.2.1-1)))) (gd (decide ((B5 (a2.2.2.2.2.1-1))< (r4.2.2.1.length:Int))) (lt (r4.2.2.1.set (B5 (a2.2.2.2.2.1-1)).toNat ((rd C1 r4.2.2.1 (B5 (a2.2.2.2.2.1-1)).toNat).1,(if(((rd C1 r4.2.2.1 (B5 (a2.2.2.2.2.1-1)).toNat).2.2.1.length:Nat):Int)< (if a2.2.2.2.2.2.1> (rd C1 r4.2.2.1 (B5 (a2.2.2.2.2.1-1)).toNat).2.1 then a2.2.2.2.2.2.1 else(rd C1 r4.2.2.1 (B5 (a2.2.2.2.2.1-1)).toNat).2.1)then(((rd C1 r4.2.2.1 (B5 (a2.2.2.2.2.1-1)).toNat).2.2.1.length:Nat):Int)else(if a2.2.2.2.2.2.1> (rd C1 r4.2.2.1 (B5 (a2.2.2.2.2.1-1)).toNat).2.1 then a2.2.2.2.2.2.1 else(rd C1 r4.2.2.1 (B5 (a2.2.2.2.2.1-1)).toNat).2.1)),(rd C1 r4.2.2.1 (B5 (a2.2.2.2.2.1-1)).toNat).2.2)) λz31=> (some ((((r4.1.set v1.toNat ((rd A3 r4.1 v1.toNat).1,a2.2.2.1,(rd A3 r4.1 v1.toNat).2.2)).set v1.toNat ((rd A3 (r4.1.set v1.toNat ((rd A3 r4.1 v1.toNat).1,a2.2.2.1,(rd A3 r4.1 v1.toNat).2.2)) v1.toNat).1,(rd A3 (r4.1.set v1.toNat ((rd A3 r4.1 v1.toNat).1,a2.2.2.1,(rd A3 r4.1 v1.toNat).2.2)) v1.toNat).2.1,(⟨#[97,99,107,101,100]⟩:ByteArray),())),r4.2.1,z31,()),(⟨#[97,99,107,101,100]⟩:ByteArray),true))))) (bd (Dj0 k r4.2.1) λr32=> (L4 (⟨#[105,110]⟩:ByteArray) r32 0 a0 a2 r4 a1 v1 r1 r2 r3)))))))))))) (L0 a0 (B5 (v1+1)) a2 r4 a1 r1 r2 r3)))) (some (r4,(⟨#[110,111,110,101]⟩:ByteArray),true)))
def Ad2 (k:Nat):Nat→(A6×Bool)→B4→Int→A0→B7→B4→List C3→Int→Int→Bool→Bool→Bool→Option (B4×ByteArray×Bool)
 |0,_,_,_,_,_,_,_,_,_,_,_,_=>none
 |n+1,r10,r4,v2,r9,a2,a0,xs3,a1,v1,r1,r2,r3=>Bs7 k (Ad2 k n) r10 r4 v2 r9 a2 a0 xs3 a1 v1 r1 r2 r3
def Bt0 (k:Nat):Nat→(A6×Bool)→B4→Int→A0→B7→B4→List C3→Int→Int→Bool→Bool→Bool→Option (B4×ByteArray×Bool)
 |0,_,_,_,_,_,_,_,_,_,_,_,_=>none
 |n+1,r10,r4,v4,r9,a2,a0,xs5,a1,v1,r1,r2,r3=>C47 k (Bt0 k n) r10 r4 v4 r9 a2 a0 xs5 a1 v1 r1 r2 r3
def Bt1 (k:Nat):Nat→(A6×Bool)→B4→Int→B7→B4→List C3→Int→Int→Bool→Bool→Bool→Option (B4×ByteArray×Bool)
 |0,_,_,_,_,_,_,_,_,_,_,_=>none
 |n+1,r19,r4,v6,a2,a0,xs7,a1,v1,r1,r2,r3=>C48 k (Bt1 k n) r19 r4 v6 a2 a0 xs7 a1 v1 r1 r2 r3
def Ad3 (k:Nat):Nat→ByteArray→List Int→Int→B4→B7→B4→Int→Int→Bool→Bool→Bool→Option (B4×ByteArray×Bool)
 |0,_,_,_,_,_,_,_,_,_,_,_=>none
 |n+1,v8,r32,v9,a0,a2,r4,a1,v1,r1,r2,r3=>Bs8 k (Ad3 k n) v8 r32 v9 a0 a2 r4 a1 v1 r1 r2 r3
def d8 (k:Nat):Nat→B4→Int→B7→B4→Int→Bool→Bool→Bool→Option (B4×ByteArray×Bool)
 |0,_,_,_,_,_,_,_,_=>none
 |n+1,a0,v1,a2,r4,a1,r1,r2,r3=>Bs9 k (Ad2 k n) (Bt0 k n) (Bt1 k n) (Ad3 k n) (d8 k n) a0 v1 a2 r4 a1 r1 r2 r3
def Dp8 (k:Nat) (L0:B4→Int→B7→B4→Int→Bool→Bool→Bool→Option (B4×ByteArray×Bool)) (a0:B4) (a1:Int) (a2:B7):Option (B4×ByteArray×Bool):=(bd (Bk8 k a0) λr1=> (br (!r1) (some (([],([],[],[],()),[],()),(⟨#[]⟩:ByteArray),false)) (bd (F7 k a1 1 400000) λr2=> (br (!r2) (some (([],([],[],[],()),[],()),(⟨#[]⟩:ByteArray),false)) (bd (Bb5 k a2) λr3=> (br (!r3) (some (([],([],[],[],()),[],()),(⟨#[]⟩:ByteArray),false)) (bd (Cv5 k a0) λr4=> (br (a2.1==1) (gd (decide (r4.1.length+([(a1,0,ByteArray.empty,())]:List A7).length≤A5)) (br (decide ((((r4.1++([(a1,0,ByteArray.empty,())]:List A7)).length:Nat):Int)>3)) (gd (decide (1≤(((r4.1++([(a1,0,ByteArray.empty,())]:List A7)).length:Nat):Int))) (bd (Bk8 k (((r4.1++([(a1,0,ByteArray.empty,())]:List A7)).drop 1),r4.2)) λr5=> (br (!r5) (some (([],([],[],[],()),[],()),(⟨#[]⟩:ByteArray),false)) (bd (G9 k a1) λr6=> (gd (decide ((⟨#[111,112,101,110,32]⟩:ByteArray).size+r6.size≤A5)) (some ((((r4.1++([(a1,0,ByteArray.empty,())]:List A7)).drop 1),r4.2),((⟨#[111,112,101,110,32]⟩:ByteArray)++r6),true))))))) (bd (Bk8 k ((r4.1++([(a1,0,ByteArray.empty,())]:List A7)),r4.2)) λr7=> (br (!r7) (some (([],([],[],[],()),[],()),(⟨#[]⟩:ByteArray),false)) (bd (G9 k a1) λr8=> (gd (decide ((⟨#[111,112,101,110,32]⟩:ByteArray).size+r8.size≤A5)) (some (((r4.1++([(a1,0,ByteArray.empty,())]:List A7)),r4.2),((⟨#[111,112,101,110,32]⟩:ByteArray)++r8),true)))))))) (L0 a0 0 a2 r4 a1 r1 r2 r3)))))))))
def A33 (k:Nat) (a0:B4) (a1:Int) (a2:B7):Option (B4×ByteArray×Bool):=Dp8 k (d8 k k) a0 a1 a2
end
def Aw8 (k:Nat) (a0:A7) (a1:A7):Option Bool:=(br (a0.1 !=a1.1) (some false) (br (a0.2.1 !=a1.2.1) (some false) (br (!(a0.2.2.1.toList==a1.2.2.1.toList)) (some false) (some true))))
noncomputable section
def B19 (k:Nat) (L0:List A7→List A7→Int→Option Bool) (a0:List A7) (a1:List A7) (v1:Int):Option Bool:=(br (decide (v1< (a0.length:Int))) (gd (decide (0≤v1)) (gd (decide (v1< (a0.length:Int))) (gd (decide (0≤v1)) (gd (decide (v1< (a1.length:Int))) (bd (Aw8 k (rd A3 a0 v1.toNat) (rd A3 a1 v1.toNat)) λr1=> (br (!r1) (some false) (L0 a0 a1 (B5 (v1+1))))))))) (some true))
def Ag3 (k:Nat):Nat→List A7→List A7→Int→Option Bool
 |0,_,_,_=>none
 |n+1,a0,a1,v1=>B19 k (Ag3 k n) a0 a1 v1
def B80 (k:Nat) (L0:List A7→List A7→Int→Option Bool) (a0:List A7) (a1:List A7):Option Bool:=(br ((a0.length:Int) !=(a1.length:Int)) (some false) (L0 a0 a1 0))
def Bt2 (k:Nat) (a0:List A7) (a1:List A7):Option Bool:=B80 k (Ag3 k k) a0 a1
end
noncomputable section
def Bb9 (k:Nat) (L0:List Int→List Int→Int→Option Bool) (a0:List Int) (a1:List Int) (v1:Int):Option Bool:=(br (decide (v1< (a0.length:Int))) (gd (decide (0≤v1)) (gd (decide (v1< (a0.length:Int))) (gd (decide (0≤v1)) (gd (decide (v1< (a1.length:Int))) (br ((rd 0 a0 v1.toNat) !=(rd 0 a1 v1.toNat)) (some false) (L0 a0 a1 (B5 (v1+1)))))))) (some true))
def Ai9 (k:Nat):Nat→List Int→List Int→Int→Option Bool
 |0,_,_,_=>none
 |n+1,a0,a1,v1=>Bb9 k (Ai9 k n) a0 a1 v1
def Ea0 (k:Nat) (L0:List Int→List Int→Int→Option Bool) (a0:List Int) (a1:List Int):Option Bool:=(br ((a0.length:Int) !=(a1.length:Int)) (some false) (L0 a0 a1 0))
def B81 (k:Nat) (a0:List Int) (a1:List Int):Option Bool:=Ea0 k (Ai9 k k) a0 a1
end
def A34 (k:Nat) (a0:A0) (a1:A0):Option Bool:=(br (a0.1 !=a1.1) (some false) (br (a0.2.1 !=a1.2.1) (some false) (br (a0.2.2.1 !=a1.2.2.1) (some false) (br (a0.2.2.2.1 !=a1.2.2.2.1) (some false) (br (a0.2.2.2.2.1 !=a1.2.2.2.2.1) (some false) (bd (B81 k a0.2.2.2.2.2.1 a1.2.2.2.2.2.1) λr1=> (br (!r1) (some false) (br (!(a0.2.2.2.2.2.2.1.toList==a1.2.2.2.2.2.2.1.toList)) (some false) (bd (B81 k a0.2.2.2.2.2.2.2.1 a1.2.2.2.2.2.2.2.1) λr2=> (br (!r2) (some false) (br (a0.2.2.2.2.2.2.2.2.1 !=a1.2.2.2.2.2.2.2.2.1) (some false) (some true))))))))))))
noncomputable section
def Cn4 (k:Nat) (L0:List A0→List A0→Int→Option Bool) (a0:List A0) (a1:List A0) (v1:Int):Option Bool:=(br (decide (v1< (a0.length:Int))) (gd (decide (0≤v1)) (gd (decide (v1< (a0.length:Int))) (gd (decide (0≤v1)) (gd (decide (v1< (a1.length:Int))) (bd (A34 k (rd A4 a0 v1.toNat) (rd A4 a1 v1.toNat)) λr1=> (br (!r1) (some false) (L0 a0 a1 (B5 (v1+1))))))))) (some true))
def Au4 (k:Nat):Nat→List A0→List A0→Int→Option Bool
 |0,_,_,_=>none
 |n+1,a0,a1,v1=>Cn4 k (Au4 k n) a0 a1 v1
def C49 (k:Nat) (L0:List A0→List A0→Int→Option Bool) (a0:List A0) (a1:List A0):Option Bool:=(br ((a0.length:Int) !=(a1.length:Int)) (some false) (L0 a0 a1 0))
def Cv6 (k:Nat) (a0:List A0) (a1:List A0):Option Bool:=C49 k (Au4 k k) a0 a1
end
def B82 (k:Nat) (a0:A1) (a1:A1):Option Bool:=(br (a0.1 !=a1.1) (some false) (br (a0.2.1 !=a1.2.1) (some false) (some true)))
noncomputable section
def C50 (k:Nat) (L0:List A1→List A1→Int→Option Bool) (a0:List A1) (a1:List A1) (v1:Int):Option Bool:=(br (decide (v1< (a0.length:Int))) (gd (decide (0≤v1)) (gd (decide (v1< (a0.length:Int))) (gd (decide (0≤v1)) (gd (decide (v1< (a1.length:Int))) (bd (B82 k (rd C0 a0 v1.toNat) (rd C0 a1 v1.toNat)) λr1=> (br (!r1) (some false) (L0 a0 a1 (B5 (v1+1))))))))) (some true))
def A13 (k:Nat):Nat→List A1→List A1→Int→Option Bool
 |0,_,_,_=>none
 |n+1,a0,a1,v1=>C50 k (A13 k n) a0 a1 v1
def Dp9 (k:Nat) (L0:List A1→List A1→Int→Option Bool) (a0:List A1) (a1:List A1):Option Bool:=(br ((a0.length:Int) !=(a1.length:Int)) (some false) (L0 a0 a1 0))
def Cj9 (k:Nat) (a0:List A1) (a1:List A1):Option Bool:=Dp9 k (A13 k k) a0 a1
end
noncomputable section
def Cn5 (k:Nat) (L0:List (List A1)→List (List A1)→Int→Option Bool) (a0:List (List A1)) (a1:List (List A1)) (v1:Int):Option Bool:=(br (decide (v1< (a0.length:Int))) (gd (decide (0≤v1)) (gd (decide (v1< (a0.length:Int))) (gd (decide (0≤v1)) (gd (decide (v1< (a1.length:Int))) (bd (Cj9 k (rd [] a0 v1.toNat) (rd [] a1 v1.toNat)) λr1=> (br (!r1) (some false) (L0 a0 a1 (B5 (v1+1))))))))) (some true))
def Au5 (k:Nat):Nat→List (List A1)→List (List A1)→Int→Option Bool
 |0,_,_,_=>none
 |n+1,a0,a1,v1=>Cn5 k (Au5 k n) a0 a1 v1
def C51 (k:Nat) (L0:List (List A1)→List (List A1)→Int→Option Bool) (a0:List (List A1)) (a1:List (List A1)):Option Bool:=(br ((a0.length:Int) !=(a1.length:Int)) (some false) (L0 a0 a1 0))
def Cv7 (k:Nat) (a0:List (List A1)) (a1:List (List A1)):Option Bool:=C51 k (Au5 k k) a0 a1
end
noncomputable section
def A14 (k:Nat) (L0:List Bool→List Bool→Int→Option Bool) (a0:List Bool) (a1:List Bool) (v1:Int):Option Bool:=(br (decide (v1< (a0.length:Int))) (gd (decide (0≤v1)) (gd (decide (v1< (a0.length:Int))) (gd (decide (0≤v1)) (gd (decide (v1< (a1.length:Int))) (br (!((rd false a0 v1.toNat)==(rd false a1 v1.toNat))) (some false) (L0 a0 a1 (B5 (v1+1)))))))) (some true))
def Ad4 (k:Nat):Nat→List Bool→List Bool→Int→Option Bool
 |0,_,_,_=>none
 |n+1,a0,a1,v1=>A14 k (Ad4 k n) a0 a1 v1
def Dq0 (k:Nat) (L0:List Bool→List Bool→Int→Option Bool) (a0:List Bool) (a1:List Bool):Option Bool:=(br ((a0.length:Int) !=(a1.length:Int)) (some false) (L0 a0 a1 0))
def Dj1 (k:Nat) (a0:List Bool) (a1:List Bool):Option Bool:=Dq0 k (Ad4 k k) a0 a1
end
def C52 (k:Nat) (a0:A6) (a1:A6):Option Bool:=(bd (Cv6 k a0.1 a1.1) λr1=> (br (!r1) (some false) (bd (Cv7 k a0.2.1 a1.2.1) λr2=> (br (!r2) (some false) (bd (Dj1 k a0.2.2.1 a1.2.2.1) λr3=> (br (!r3) (some false) (some true)))))))
def C53 (k:Nat) (a0:C3) (a1:C3):Option Bool:=(br (a0.1 !=a1.1) (some false) (br (a0.2.1 !=a1.2.1) (some false) (bd (B81 k a0.2.2.1 a1.2.2.1) λr1=> (br (!r1) (some false) (some true)))))
noncomputable section
def Dq1 (k:Nat) (L0:List C3→List C3→Int→Option Bool) (a0:List C3) (a1:List C3) (v1:Int):Option Bool:=(br (decide (v1< (a0.length:Int))) (gd (decide (0≤v1)) (gd (decide (v1< (a0.length:Int))) (gd (decide (0≤v1)) (gd (decide (v1< (a1.length:Int))) (bd (C53 k (rd C1 a0 v1.toNat) (rd C1 a1 v1.toNat)) λr1=> (br (!r1) (some false) (L0 a0 a1 (B5 (v1+1))))))))) (some true))
def Bc0 (k:Nat):Nat→List C3→List C3→Int→Option Bool
 |0,_,_,_=>none
 |n+1,a0,a1,v1=>Dq1 k (Bc0 k n) a0 a1 v1
def Ea1 (k:Nat) (L0:List C3→List C3→Int→Option Bool) (a0:List C3) (a1:List C3):Option Bool:=(br ((a0.length:Int) !=(a1.length:Int)) (some false) (L0 a0 a1 0))
def Ea2 (k:Nat) (a0:List C3) (a1:List C3):Option Bool:=Ea1 k (Bc0 k k) a0 a1
end
def A59 (k:Nat) (a0:B4) (a1:B4):Option Bool:=(bd (Bt2 k a0.1 a1.1) λr1=> (br (!r1) (some false) (bd (C52 k a0.2.1 a1.2.1) λr2=> (br (!r2) (some false) (bd (Ea2 k a0.2.2.1 a1.2.2.1) λr3=> (br (!r3) (some false) (some true)))))))
def Bc1 (k:Nat) (a0:B7) (a1:B7):Option Bool:=(br (a0.1 !=a1.1) (some false) (br (a0.2.1 !=a1.2.1) (some false) (br (a0.2.2.1 !=a1.2.2.1) (some false) (bd (A34 k a0.2.2.2.1 a1.2.2.2.1) λr1=> (br (!r1) (some false) (br (a0.2.2.2.2.1 !=a1.2.2.2.2.1) (some false) (br (a0.2.2.2.2.2.1 !=a1.2.2.2.2.2.1) (some false) (some true))))))))
noncomputable section
def Au6 (k:Nat) (L0:Int→ByteArray→Option ByteArray) (a0:Int) (v1:ByteArray):Option ByteArray:=(br (decide (a0>0)) (ng (a0==a0&&(10:Int)==0) (gd (decide ((N9 [(IntKind.wrap .u8 (B5 (48+(Int.tmod a0 10))))]).size+v1.size≤A5)) (ng (a0==a0&&(10:Int)==0) (L0 (B5 (Int.tdiv a0 10)) ((N9 [(IntKind.wrap .u8 (B5 (48+(Int.tmod a0 10))))])++v1))))) (gd (decide ((⟨#[109]⟩:ByteArray).size+v1.size≤A5)) (some ((⟨#[109]⟩:ByteArray)++v1))))
def X4 (k:Nat):Nat→Int→ByteArray→Option ByteArray
 |0,_,_=>none
 |n+1,a0,v1=>Au6 k (X4 k n) a0 v1
def Bt3 (k:Nat) (L0:Int→ByteArray→Option ByteArray) (a0:Int):Option ByteArray:=(br (decide (a0≤0)) (some (⟨#[109,48]⟩:ByteArray)) (L0 a0 (⟨#[]⟩:ByteArray)))
def d9 (k:Nat) (a0:Int):Option ByteArray:=Bt3 k (X4 k k) a0
end
noncomputable section
def W0 (k:Nat) (L0:List A7→Int→Int→Option Int) (a0:List A7) (a1:Int) (v1:Int):Option Int:=(br (decide (v1< (a0.length:Int))) (gd (decide (0≤v1)) (gd (decide (v1< (a0.length:Int))) (br ((rd A3 a0 v1.toNat).1 !=a1) (some (-1)) (gd (decide (0≤v1)) (gd (decide (v1< (a0.length:Int))) (br ((rd A3 a0 v1.toNat).2.1 !=(B5 (a1+1))) (some (-1)) (gd (decide (0≤v1)) (gd (decide (v1< (a0.length:Int))) (bd (d9 k (B5 ((B5 (a1+1))+1))) λr1=> (br (!((rd A3 a0 v1.toNat).2.2.1.toList==r1.toList)) (some (-1)) (L0 a0 (B5 ((B5 ((B5 (a1+1))+1))+1)) (B5 (v1+1))))))))))))) (some a1))
def Q3 (k:Nat):Nat→List A7→Int→Int→Option Int
 |0,_,_,_=>none
 |n+1,a0,a1,v1=>W0 k (Q3 k n) a0 a1 v1
def Bl0 (k:Nat) (L0:List A7→Int→Int→Option Int) (a0:List A7) (a1:Int):Option Int:=(L0 a0 a1 0)
def A60 (k:Nat) (a0:List A7) (a1:Int):Option Int:=Bl0 k (Q3 k k) a0 a1
end
noncomputable section
def Au7 (k:Nat) (L0:List Int→Int→Int→Option Int) (a0:List Int) (a1:Int) (v1:Int):Option Int:=(br (decide (v1< (a0.length:Int))) (gd (decide (0≤v1)) (gd (decide (v1< (a0.length:Int))) (br ((rd 0 a0 v1.toNat) !=a1) (some (-1)) (L0 a0 (B5 (a1+1)) (B5 (v1+1)))))) (some a1))
def n8 (k:Nat):Nat→List Int→Int→Int→Option Int
 |0,_,_,_=>none
 |n+1,a0,a1,v1=>Au7 k (n8 k n) a0 a1 v1
def C54 (k:Nat) (L0:List Int→Int→Int→Option Int) (a0:List Int) (a1:Int):Option Int:=(L0 a0 a1 0)
def Ar3 (k:Nat) (a0:List Int) (a1:Int):Option Int:=C54 k (n8 k k) a0 a1
end
noncomputable section
def j3 (k:Nat) (L0:List A0→Int→Int→Option Int) (a0:List A0) (a1:Int) (v1:Int):Option Int:=(br (decide (v1< (a0.length:Int))) (gd (decide (0≤v1)) (gd (decide (v1< (a0.length:Int))) (br ((rd A4 a0 v1.toNat).1 !=a1) (some (-1)) (gd (decide (0≤v1)) (gd (decide (v1< (a0.length:Int))) (br ((rd A4 a0 v1.toNat).2.1 !=(B5 (a1+1))) (some (-1)) (gd (decide (0≤v1)) (gd (decide (v1< (a0.length:Int))) (br ((rd A4 a0 v1.toNat).2.2.1 !=(B5 ((B5 (a1+1))+1))) (some (-1)) (gd (decide (0≤v1)) (gd (decide (v1< (a0.length:Int))) (br ((rd A4 a0 v1.toNat).2.2.2.1 !=(B5 ((B5 ((B5 (a1+1))+1))+1))) (some (-1)) (gd (decide (0≤v1)) (gd (decide (v1< (a0.length:Int))) (br ((rd A4 a0 v1.toNat).2.2.2.2.1 !=(B5 ((B5 ((B5 ((B5 (a1+1))+1))+1))+1))) (some (-1)) (gd (decide (0≤v1)) (gd (decide (v1< (a0.length:Int))) (bd (Ar3 k (rd A4 a0 v1.toNat).2.2.2.2.2.1 (B5 ((B5 ((B5 ((B5 ((B5 (a1+1))+1))+1))+1))+1))) λr1=> (br (decide (r1<0)) (some (-1)) (gd (decide (0≤v1)) (gd (decide (v1< (a0.length:Int))) (bd (d9 k r1) λr2=> (br (!((rd A4 a0 v1.toNat).2.2.2.2.2.2.1.toList==r2.toList)) (some (-1)) (gd (decide (0≤v1)) (gd (decide (v1< (a0.length:Int))) (bd (Ar3 k (rd A4 a0 v1.toNat).2.2.2.2.2.2.2.1 (B5 (r1+1))) λr3=> (br (decide (r3<0)) (some (-1)) (gd (decide (0≤v1)) (gd (decide (v1< (a0.length:Int))) (br ((rd A4 a0 v1.toNat).2.2.2.2.2.2.2.2.1 !=r3) (some (-1)) (L0 a0 (B5 (r3+1)) (B5 (v1+1))))))))))))))))))))))))))))))))) (some a1))
def U8 (k:Nat):Nat→List A0→Int→Int→Option Int
 |0,_,_,_=>none
 |n+1,a0,a1,v1=>j3 k (U8 k n) a0 a1 v1
def B83 (k:Nat) (L0:List A0→Int→Int→Option Int) (a0:List A0) (a1:Int):Option Int:=(L0 a0 a1 0)
def Bt4 (k:Nat) (a0:List A0) (a1:Int):Option Int:=B83 k (U8 k k) a0 a1
end
noncomputable section
def Al7 (k:Nat) (L0:List A1→Int→Int→Option Int) (a0:List A1) (a1:Int) (v1:Int):Option Int:=(br (decide (v1< (a0.length:Int))) (gd (decide (0≤v1)) (gd (decide (v1< (a0.length:Int))) (br ((rd C0 a0 v1.toNat).1 !=a1) (some (-1)) (gd (decide (0≤v1)) (gd (decide (v1< (a0.length:Int))) (br ((rd C0 a0 v1.toNat).2.1 !=(B5 (a1+1))) (some (-1)) (L0 a0 (B5 ((B5 (a1+1))+1)) (B5 (v1+1))))))))) (some a1))
def Y4 (k:Nat):Nat→List A1→Int→Int→Option Int
 |0,_,_,_=>none
 |n+1,a0,a1,v1=>Al7 k (Y4 k n) a0 a1 v1
def Cn6 (k:Nat) (L0:List A1→Int→Int→Option Int) (a0:List A1) (a1:Int):Option Int:=(L0 a0 a1 0)
def Bc2 (k:Nat) (a0:List A1) (a1:Int):Option Int:=Cn6 k (Y4 k k) a0 a1
end
noncomputable section
def j4 (k:Nat) (L0:List (List A1)→Int→Int→Option Int) (a0:List (List A1)) (a1:Int) (v1:Int):Option Int:=(br (decide (v1< (a0.length:Int))) (gd (decide (0≤v1)) (gd (decide (v1< (a0.length:Int))) (bd (Bc2 k (rd [] a0 v1.toNat) a1) λr1=> (br (decide (r1<0)) (some (-1)) (L0 a0 r1 (B5 (v1+1))))))) (some a1))
def U9 (k:Nat):Nat→List (List A1)→Int→Int→Option Int
 |0,_,_,_=>none
 |n+1,a0,a1,v1=>j4 k (U9 k n) a0 a1 v1
def B84 (k:Nat) (L0:List (List A1)→Int→Int→Option Int) (a0:List (List A1)) (a1:Int):Option Int:=(L0 a0 a1 0)
def Bt5 (k:Nat) (a0:List (List A1)) (a1:Int):Option Int:=B84 k (U9 k k) a0 a1
end
noncomputable section
def Al8 (k:Nat) (L0:List Bool→Int→Int→Option Int) (a0:List Bool) (a1:Int) (v1:Int):Option Int:=(br (decide (v1< (a0.length:Int))) (gd (decide (0≤v1)) (gd (decide (v1< (a0.length:Int))) (ng (a1==a1&&(3:Int)==0) (br (!((rd false a0 v1.toNat)==((Int.tmod a1 3)==0))) (some (-1)) (L0 a0 (B5 (a1+1)) (B5 (v1+1))))))) (some a1))
def Y5 (k:Nat):Nat→List Bool→Int→Int→Option Int
 |0,_,_,_=>none
 |n+1,a0,a1,v1=>Al8 k (Y5 k n) a0 a1 v1
def Cn7 (k:Nat) (L0:List Bool→Int→Int→Option Int) (a0:List Bool) (a1:Int):Option Int:=(L0 a0 a1 0)
def B85 (k:Nat) (a0:List Bool) (a1:Int):Option Int:=Cn7 k (Y5 k k) a0 a1
end
def Bt6 (k:Nat) (a0:A6) (a1:Int):Option Int:=(bd (Bt4 k a0.1 a1) λr1=> (br (decide (r1<0)) (some (-1)) (bd (Bt5 k a0.2.1 r1) λr2=> (br (decide (r2<0)) (some (-1)) (bd (B85 k a0.2.2.1 r2) λr3=> (br (decide (r3<0)) (some (-1)) (some r3)))))))
noncomputable section
def Ae8 (k:Nat) (L0:List C3→Int→Int→Option Int) (a0:List C3) (a1:Int) (v1:Int):Option Int:=(br (decide (v1< (a0.length:Int))) (gd (decide (0≤v1)) (gd (decide (v1< (a0.length:Int))) (br ((rd C1 a0 v1.toNat).1 !=a1) (some (-1)) (gd (decide (0≤v1)) (gd (decide (v1< (a0.length:Int))) (br ((rd C1 a0 v1.toNat).2.1 !=(B5 (a1+1))) (some (-1)) (gd (decide (0≤v1)) (gd (decide (v1< (a0.length:Int))) (bd (Ar3 k (rd C1 a0 v1.toNat).2.2.1 (B5 ((B5 (a1+1))+1))) λr1=> (br (decide (r1<0)) (some (-1)) (L0 a0 r1 (B5 (v1+1))))))))))))) (some a1))
def n9 (k:Nat):Nat→List C3→Int→Int→Option Int
 |0,_,_,_=>none
 |n+1,a0,a1,v1=>Ae8 k (n9 k n) a0 a1 v1
def C55 (k:Nat) (L0:List C3→Int→Int→Option Int) (a0:List C3) (a1:Int):Option Int:=(L0 a0 a1 0)
def Cv8 (k:Nat) (a0:List C3) (a1:Int):Option Int:=C55 k (n9 k k) a0 a1
end
def A61 (k:Nat) (a0:B4) (a1:Int):Option Int:=(bd (A60 k a0.1 a1) λr1=> (br (decide (r1<0)) (some (-1)) (bd (Bt6 k a0.2.1 r1) λr2=> (br (decide (r2<0)) (some (-1)) (bd (Cv8 k a0.2.2.1 r2) λr3=> (br (decide (r3<0)) (some (-1)) (some r3)))))))
noncomputable section
def W2 (k:Nat) (L0:Int→Int→List A7→Option (Int×List A7×Unit)) (a1:Int) (v1:Int) (a0:List A7):Option (Int×List A7×Unit):=(br (decide (v1< (a0.length:Int))) (gd (decide (0≤v1)) (gd (decide (v1< (a0.length:Int))) (gd (decide (0≤v1)) (gd (decide (v1< (((a0.set v1.toNat (a1,(rd A3 a0 v1.toNat).2)).length:Nat):Int))) (bd (d9 k (B5 ((B5 (a1+1))+1))) λr1=> (gd (decide (0≤v1)) (gd (decide (v1< ((((a0.set v1.toNat (a1,(rd A3 a0 v1.toNat).2)).set v1.toNat ((rd A3 (a0.set v1.toNat (a1,(rd A3 a0 v1.toNat).2)) v1.toNat).1,(B5 (a1+1)),(rd A3 (a0.set v1.toNat (a1,(rd A3 a0 v1.toNat).2)) v1.toNat).2.2)).length:Nat):Int))) (L0 (B5 ((B5 ((B5 (a1+1))+1))+1)) (B5 (v1+1)) (((a0.set v1.toNat (a1,(rd A3 a0 v1.toNat).2)).set v1.toNat ((rd A3 (a0.set v1.toNat (a1,(rd A3 a0 v1.toNat).2)) v1.toNat).1,(B5 (a1+1)),(rd A3 (a0.set v1.toNat (a1,(rd A3 a0 v1.toNat).2)) v1.toNat).2.2)).set v1.toNat ((rd A3 ((a0.set v1.toNat (a1,(rd A3 a0 v1.toNat).2)).set v1.toNat ((rd A3 (a0.set v1.toNat (a1,(rd A3 a0 v1.toNat).2)) v1.toNat).1,(B5 (a1+1)),(rd A3 (a0.set v1.toNat (a1,(rd A3 a0 v1.toNat).2)) v1.toNat).2.2)) v1.toNat).1,(rd A3 ((a0.set v1.toNat (a1,(rd A3 a0 v1.toNat).2)).set v1.toNat ((rd A3 (a0.set v1.toNat (a1,(rd A3 a0 v1.toNat).2)) v1.toNat).1,(B5 (a1+1)),(rd A3 (a0.set v1.toNat (a1,(rd A3 a0 v1.toNat).2)) v1.toNat).2.2)) v1.toNat).2.1,r1,())))))))))) (some (a1,a0,())))
def Q4 (k:Nat):Nat→Int→Int→List A7→Option (Int×List A7×Unit)
 |0,_,_,_=>none
 |n+1,a1,v1,a0=>W2 k (Q4 k n) a1 v1 a0
def Bl1 (k:Nat) (L0:Int→Int→List A7→Option (Int×List A7×Unit)) (a0:List A7) (a1:Int):Option (Int×List A7×Unit):=(L0 a1 0 a0)
def z8 (k:Nat) (a0:List A7) (a1:Int):Option (Int×List A7×Unit):=Bl1 k (Q4 k k) a0 a1
end
noncomputable section
def Au8 (k:Nat) (L0:Int→Int→List Int→Option (Int×List Int×Unit)) (a1:Int) (v1:Int) (a0:List Int):Option (Int×List Int×Unit):=(br (decide (v1< (a0.length:Int))) (gd (decide (0≤v1)) (gd (decide (v1< (a0.length:Int))) (L0 (B5 (a1+1)) (B5 (v1+1)) (a0.set v1.toNat a1)))) (some (a1,a0,())))
def o5 (k:Nat):Nat→Int→Int→List Int→Option (Int×List Int×Unit)
 |0,_,_,_=>none
 |n+1,a1,v1,a0=>Au8 k (o5 k n) a1 v1 a0
def C56 (k:Nat) (L0:Int→Int→List Int→Option (Int×List Int×Unit)) (a0:List Int) (a1:Int):Option (Int×List Int×Unit):=(L0 a1 0 a0)
def e7 (k:Nat) (a0:List Int) (a1:Int):Option (Int×List Int×Unit):=C56 k (o5 k k) a0 a1
end
noncomputable section
def Ae9 (k:Nat) (L0:Int→Int→List C3→Option (Int×List C3×Unit)) (a1:Int) (v1:Int) (a0:List C3):Option (Int×List C3×Unit):=(br (decide (v1< (a0.length:Int))) (gd (decide (0≤v1)) (gd (decide (v1< (a0.length:Int))) (lt (a0.set v1.toNat (a1,(rd C1 a0 v1.toNat).2)) λz1=> (gd (decide (0≤v1)) (gd (decide (v1< (z1.length:Int))) (lt (z1.set v1.toNat ((rd C1 z1 v1.toNat).1,(B5 (a1+1)),(rd C1 z1 v1.toNat).2.2)) λz2=> (gd (decide (0≤v1)) (gd (decide (v1< (z2.length:Int))) (bd (e7 k (rd C1 z2 v1.toNat).2.2.1 (B5 ((B5 (a1+1))+1))) λr3=> (gd (Nat.beq r3.2.1.length (rd C1 z2 v1.toNat).2.2.1.length) (lt (z2.set v1.toNat ((rd C1 z2 v1.toNat).1,(rd C1 z2 v1.toNat).2.1,r3.2.1,(rd C1 z2 v1.toNat).2.2.2)) λz4=> (L0 r3.1 (B5 (v1+1)) z4)))))))))))) (some (a1,a0,())))
def o6 (k:Nat):Nat→Int→Int→List C3→Option (Int×List C3×Unit)
 |0,_,_,_=>none
 |n+1,a1,v1,a0=>Ae9 k (o6 k n) a1 v1 a0
def C57 (k:Nat) (L0:Int→Int→List C3→Option (Int×List C3×Unit)) (a0:List C3) (a1:Int):Option (Int×List C3×Unit):=(L0 a1 0 a0)
def A62 (k:Nat) (a0:List C3) (a1:Int):Option (Int×List C3×Unit):=C57 k (o6 k k) a0 a1
end
noncomputable section
def j5 (k:Nat) (L0:Int→Int→List A0→Option (Int×List A0×Unit)) (a1:Int) (v1:Int) (a0:List A0):Option (Int×List A0×Unit):=(br (decide (v1< (a0.length:Int))) (gd (decide (0≤v1)) (gd (decide (v1< (a0.length:Int))) (lt (a0.set v1.toNat (a1,(rd A4 a0 v1.toNat).2)) λz1=> (gd (decide (0≤v1)) (gd (decide (v1< (z1.length:Int))) (lt (z1.set v1.toNat ((rd A4 z1 v1.toNat).1,(B5 (a1+1)),(rd A4 z1 v1.toNat).2.2)) λz2=> (gd (decide (0≤v1)) (gd (decide (v1< (z2.length:Int))) (lt (z2.set v1.toNat ((rd A4 z2 v1.toNat).1,(rd A4 z2 v1.toNat).2.1,(B5 ((B5 (a1+1))+1)),(rd A4 z2 v1.toNat).2.2.2)) λz3=> (gd (decide (0≤v1)) (gd (decide (v1< (z3.length:Int))) (lt (z3.set v1.toNat ((rd A4 z3 v1.toNat).1,(rd A4 z3 v1.toNat).2.1,(rd A4 z3 v1.toNat).2.2.1,(B5 ((B5 ((B5 (a1+1))+1))+1)),(rd A4 z3 v1.toNat).2.2.2.2)) λz4=> (gd (decide (0≤v1)) (gd (decide (v1< (z4.length:Int))) (lt (z4.set v1.toNat ((rd A4 z4 v1.toNat).1,(rd A4 z4 v1.toNat).2.1,(rd A4 z4 v1.toNat).2.2.1,(rd A4 z4 v1.toNat).2.2.2.1,(B5 ((B5 ((B5 ((B5 (a1+1))+1))+1))+1)),(rd A4 z4 v1.toNat).2.2.2.2.2)) λz5=> (gd (decide (0≤v1)) (gd (decide (v1< (z5.length:Int))) (bd (e7 k (rd A4 z5 v1.toNat).2.2.2.2.2.1 (B5 ((B5 ((B5 ((B5 ((B5 (a1+1))+1))+1))+1))+1))) λr6=> (gd (Nat.beq r6.2.1.length (rd A4 z5 v1.toNat).2.2.2.2.2.1.length) (lt (z5.set v1.toNat ((rd A4 z5 v1.toNat).1,(rd A4 z5 v1.toNat).2.1,(rd A4 z5 v1.toNat).2.2.1,(rd A4 z5 v1.toNat).2.2.2.1,(rd A4 z5 v1.toNat).2.2.2.2.1,r6.2.1,(rd A4 z5 v1.toNat).2.2.2.2.2.2)) λz7=> (bd (d9 k r6.1) λr8=> (gd (decide (0≤v1)) (gd (decide (v1< (z7.length:Int))) (lt (z7.set v1.toNat ((rd A4 z7 v1.toNat).1,(rd A4 z7 v1.toNat).2.1,(rd A4 z7 v1.toNat).2.2.1,(rd A4 z7 v1.toNat).2.2.2.1,(rd A4 z7 v1.toNat).2.2.2.2.1,(rd A4 z7 v1.toNat).2.2.2.2.2.1,r8,(rd A4 z7 v1.toNat).2.2.2.2.2.2.2)) λz9=> (gd (decide (0≤v1)) (gd (decide (v1< (z9.length:Int))) (bd (e7 k (rd A4 z9 v1.toNat).2.2.2.2.2.2.2.1 (B5 (r6.1+1))) λr10=> (gd (Nat.beq r10.2.1.length (rd A4 z9 v1.toNat).2.2.2.2.2.2.2.1.length) (lt (z9.set v1.toNat ((rd A4 z9 v1.toNat).1,(rd A4 z9 v1.toNat).2.1,(rd A4 z9 v1.toNat).2.2.1,(rd A4 z9 v1.toNat).2.2.2.1,(rd A4 z9 v1.toNat).2.2.2.2.1,(rd A4 z9 v1.toNat).2.2.2.2.2.1,(rd A4 z9 v1.toNat).2.2.2.2.2.2.1,r10.2.1,(rd A4 z9 v1.toNat).2.2.2.2.2.2.2.2)) λz11=> (gd (decide (0≤v1)) (gd (decide (v1< (z11.length:Int))) (lt (z11.set v1.toNat ((rd A4 z11 v1.toNat).1,(rd A4 z11 v1.toNat).2.1,(rd A4 z11 v1.toNat).2.2.1,(rd A4 z11 v1.toNat).2.2.2.1,(rd A4 z11 v1.toNat).2.2.2.2.1,(rd A4 z11 v1.toNat).2.2.2.2.2.1,(rd A4 z11 v1.toNat).2.2.2.2.2.2.1,(rd A4 z11 v1.toNat).2.2.2.2.2.2.2.1,r10.1,())) λz12=> (L0 (B5 (r10.1+1)) (B5 (v1+1)) z12))))))))))))))))))))))))))))))))) (some (a1,a0,())))
def V0 (k:Nat):Nat→Int→Int→List A0→Option (Int×List A0×Unit)
 |0,_,_,_=>none
 |n+1,a1,v1,a0=>j5 k (V0 k n) a1 v1 a0
def B86 (k:Nat) (L0:Int→Int→List A0→Option (Int×List A0×Unit)) (a0:List A0) (a1:Int):Option (Int×List A0×Unit):=(L0 a1 0 a0)
def Al9 (k:Nat) (a0:List A0) (a1:Int):Option (Int×List A0×Unit):=B86 k (V0 k k) a0 a1
end
noncomputable section
def Am0 (k:Nat) (L0:Int→Int→List A1→Option (Int×List A1×Unit)) (a1:Int) (v1:Int) (a0:List A1):Option (Int×List A1×Unit):=(br (decide (v1< (a0.length:Int))) (gd (decide (0≤v1)) (gd (decide (v1< (a0.length:Int))) (gd (decide (0≤v1)) (gd (decide (v1< (((a0.set v1.toNat (a1,(rd C0 a0 v1.toNat).2)).length:Nat):Int))) (L0 (B5 ((B5 (a1+1))+1)) (B5 (v1+1)) ((a0.set v1.toNat (a1,(rd C0 a0 v1.toNat).2)).set v1.toNat ((rd C0 (a0.set v1.toNat (a1,(rd C0 a0 v1.toNat).2)) v1.toNat).1,(B5 (a1+1)),()))))))) (some (a1,a0,())))
def Y6 (k:Nat):Nat→Int→Int→List A1→Option (Int×List A1×Unit)
 |0,_,_,_=>none
 |n+1,a1,v1,a0=>Am0 k (Y6 k n) a1 v1 a0
def Cn8 (k:Nat) (L0:Int→Int→List A1→Option (Int×List A1×Unit)) (a0:List A1) (a1:Int):Option (Int×List A1×Unit):=(L0 a1 0 a0)
def Aw9 (k:Nat) (a0:List A1) (a1:Int):Option (Int×List A1×Unit):=Cn8 k (Y6 k k) a0 a1
end
noncomputable section
def j6 (k:Nat) (L0:Int→Int→List (List A1)→Option (Int×List (List A1)×Unit)) (a1:Int) (v1:Int) (a0:List (List A1)):Option (Int×List (List A1)×Unit):=(br (decide (v1< (a0.length:Int))) (gd (decide (0≤v1)) (gd (decide (v1< (a0.length:Int))) (bd (Aw9 k (rd [] a0 v1.toNat) a1) λr1=> (gd (Nat.beq r1.2.1.length (rd [] a0 v1.toNat).length) (lt (a0.set v1.toNat r1.2.1) λz2=> (L0 r1.1 (B5 (v1+1)) z2)))))) (some (a1,a0,())))
def V2 (k:Nat):Nat→Int→Int→List (List A1)→Option (Int×List (List A1)×Unit)
 |0,_,_,_=>none
 |n+1,a1,v1,a0=>j6 k (V2 k n) a1 v1 a0
def B87 (k:Nat) (L0:Int→Int→List (List A1)→Option (Int×List (List A1)×Unit)) (a0:List (List A1)) (a1:Int):Option (Int×List (List A1)×Unit):=(L0 a1 0 a0)
def Am1 (k:Nat) (a0:List (List A1)) (a1:Int):Option (Int×List (List A1)×Unit):=B87 k (V2 k k) a0 a1
end
noncomputable section
def Am2 (k:Nat) (L0:Int→Int→List Bool→Option (Int×List Bool×Unit)) (a1:Int) (v1:Int) (a0:List Bool):Option (Int×List Bool×Unit):=(br (decide (v1< (a0.length:Int))) (ng (a1==a1&&(3:Int)==0) (gd (decide (0≤v1)) (gd (decide (v1< (a0.length:Int))) (L0 (B5 (a1+1)) (B5 (v1+1)) (a0.set v1.toNat ((Int.tmod a1 3)==0)))))) (some (a1,a0,())))
def Y7 (k:Nat):Nat→Int→Int→List Bool→Option (Int×List Bool×Unit)
 |0,_,_,_=>none
 |n+1,a1,v1,a0=>Am2 k (Y7 k n) a1 v1 a0
def Cn9 (k:Nat) (L0:Int→Int→List Bool→Option (Int×List Bool×Unit)) (a0:List Bool) (a1:Int):Option (Int×List Bool×Unit):=(L0 a1 0 a0)
def Aj0 (k:Nat) (a0:List Bool) (a1:Int):Option (Int×List Bool×Unit):=Cn9 k (Y7 k k) a0 a1
end
def Y8 (k:Nat) (a0:B4) (a1:Int) (a2:B7):Option Bool:=(bd (C22 k a0 1048576) λr1=> (br (decide (r1<0)) (some true) (bd (A95 k a2 r1) λr2=> (br (decide (r2<0)) (some true) (bd (A54 k a0) λr3=> (bd (u7 k a2) λr4=> (bd (Bk5 k r3 a1 r4) λr5=> (bd (A54 k a0) λr6=> (bd (u7 k a2) λr7=> (bd (A33 k r6 a1 r7) λr8=> (bd (A59 k r8.1 r5.1) λr9=> (br (!r9) (some false) (br (!(r8.2.1.toList==r5.2.1.toList)) (some false) (br (!(r8.2.2==r5.2.2)) (some false) (bd (A54 k a0) λr10=> (bd (A59 k r6 r10) λr11=> (br (!r11) (some false) (bd (u7 k a2) λr12=> (bd (Bc1 k r7 r12) λr13=> (br (!r13) (some false) (bd (z8 k r6.1 1) λr14=> (gd (Nat.beq r14.2.1.length r6.1.length) (bd (Al9 k r6.2.1.1 r14.1) λr15=> (gd (Nat.beq r15.2.1.length r6.2.1.1.length) (bd (Am1 k r6.2.1.2.1 r15.1) λr16=> (gd (Nat.beq r16.2.1.length r6.2.1.2.1.length) (bd (Aj0 k r6.2.1.2.2.1 r16.1) λr17=> (gd (Nat.beq r17.2.1.length r6.2.1.2.2.1.length) (bd (A62 k r6.2.2.1 r17.1) λr18=> (gd (Nat.beq r18.2.1.length r6.2.2.1.length) (bd (e7 k r7.2.2.2.1.2.2.2.2.2.1 r18.1) λr19=> (gd (Nat.beq r19.2.1.length r7.2.2.2.1.2.2.2.2.2.1.length) (bd (e7 k r7.2.2.2.1.2.2.2.2.2.2.2.1 r19.1) λr20=> (gd (Nat.beq r20.2.1.length r7.2.2.2.1.2.2.2.2.2.2.2.1.length) (br (decide (r20.1<0)) (some false) (bd (A59 k r8.1 r5.1) λr21=> (br (!r21) (some false) (br (!(r8.2.1.toList==r5.2.1.toList)) (some false) (br (!(r8.2.2==r5.2.2)) (some false) (bd (z8 k r8.1.1 1) λr22=> (gd (Nat.beq r22.2.1.length r8.1.1.length) (bd (Al9 k r8.1.2.1.1 r22.1) λr23=> (gd (Nat.beq r23.2.1.length r8.1.2.1.1.length) (bd (Am1 k r8.1.2.1.2.1 r23.1) λr24=> (gd (Nat.beq r24.2.1.length r8.1.2.1.2.1.length) (bd (Aj0 k r8.1.2.1.2.2.1 r24.1) λr25=> (gd (Nat.beq r25.2.1.length r8.1.2.1.2.2.1.length) (bd (A62 k r8.1.2.2.1 r25.1) λr26=> (gd (Nat.beq r26.2.1.length r8.1.2.2.1.length) (bd (A61 k (r22.2.1,(r23.2.1,r24.2.1,r25.2.1,()),r26.2.1,()) 1) λr27=> (br (decide (r27<0)) (some false) (br (r27 !=r26.1) (some false) (bd (A54 k a0) λr28=> (bd (u7 k a2) λr29=> (bd (A33 k r28 a1 r29) λr30=> (bd (A59 k r30.1 r5.1) λr31=> (br (!r31) (some false) (br (!(r30.2.1.toList==r5.2.1.toList)) (some false) (br (!(r30.2.2==r5.2.2)) (some false) (bd (A61 k (r22.2.1,(r23.2.1,r24.2.1,r25.2.1,()),r26.2.1,()) 1) λr32=> (br (decide (r32<0)) (some false) (br (r32 !=r26.1) (some false) (some true)))))))))))))))))))))))))))))))))))))))))))))))))))))))))))))))
end Go.Vm
end
section
namespace Go.Vm
open Go
def J6 (x:A7):Nat:=x.2.2.1.size+(0)
def Dj2 (x:A7):Prop:=x.2.2.1.size≤9223372036854775807
theorem E12 (x:A7) (w:Dj2 x) (left:Int) (h0:0≤left) (h1:left≤1048576):Ev (λk=>Av8 k x left) (lft (J6 x) left):=by
 unfold Av8 J6
 refine Gm9 h0 h1 w (λhc=> ?_)
 rw[C17 h0 h1 w]
 have k0:0≤left- (x.2.2.1.size:Int):=by omega
 have k1:left- (x.2.2.1.size:Int)≤1048576:=by omega
 generalize left- (x.2.2.1.size:Int)=left at*
 clear h0 h1;rename_i left0;clear hc;have h0:=k0;have h1:=k1;clear k0 k1
 exact Dh5 h0
def G5 (x:List A7):Nat:=x.length+(x.map J6).sum
def Cv9 (x:List A7):Prop:=x.length≤9223372036854775807∧∀y∈x,Dj2 y
theorem El3 (x:List A7) (w:Cv9 x) (left:Int) (h0:0≤left) (h1:left≤1048576):Ev (λk=>Bp1 k x left) (lft (G5 x) left):=Ez3 A3 J6 (λk y q=>Av8 k y q) x w.1 (λy hy q h0 h1=>E12 y (w.2 y hy) q h0 h1) (λk n q i=>Ag1 k n x q i) (λ_ _ _ _=>rfl) left h0 h1
def Q9 (x:List Int):Nat:=x.length
def Ea3 (x:List Int):Prop:=x.length≤9223372036854775807
theorem Dj3 (x:List Int) (w:Ea3 x) (left:Int) (h0:0≤left) (h1:left≤1048576):Ev (λk=>B64 k x left) (lft (Q9 x) left):= .of λk=>Gp3 h0 h1 w
def D1 (x:A0):Nat:=Q9 x.2.2.2.2.2.1+(x.2.2.2.2.2.2.1.size+(Q9 x.2.2.2.2.2.2.2.1+(0)))
def D21 (x:A0):Prop:=Ea3 x.2.2.2.2.2.1∧x.2.2.2.2.2.2.1.size≤9223372036854775807∧Ea3 x.2.2.2.2.2.2.2.1
theorem Ea4 (x:A0) (w:D21 x) (left:Int) (h0:0≤left) (h1:left≤1048576):Ev (λk=>A27 k x left) (lft (D1 x) left):=by
 unfold A27 D1
 refine Cm6 h0 (Dj3 x.2.2.2.2.2.1 w.1 left h0 h1) (λleft h0 h1=> ?_) h1
 refine Gm9 h0 h1 w.2.1 (λhc=> ?_)
 rw[C17 h0 h1 w.2.1]
 have k0:0≤left- (x.2.2.2.2.2.2.1.size:Int):=by omega
 have k1:left- (x.2.2.2.2.2.2.1.size:Int)≤1048576:=by omega
 generalize left- (x.2.2.2.2.2.2.1.size:Int)=left at*
 clear h0 h1;rename_i left0;clear hc;have h0:=k0;have h1:=k1;clear k0 k1
 refine Cm6 h0 (Dj3 x.2.2.2.2.2.2.2.1 w.2.2 left h0 h1) (λleft h0 h1=> ?_) h1
 exact Dh5 h0
def F6 (x:List A0):Nat:=x.length+(x.map D1).sum
def Ea5 (x:List A0):Prop:=x.length≤9223372036854775807∧∀y∈x,D21 y
theorem Fe3 (x:List A0) (w:Ea5 x) (left:Int) (h0:0≤left) (h1:left≤1048576):Ev (λk=>Cu1 k x left) (lft (F6 x) left):=Ez3 A4 D1 (λk y q=>A27 k y q) x w.1 (λy hy q h0 h1=>Ea4 y (w.2 y hy) q h0 h1) (λk n q i=>At6 k n x q i) (λ_ _ _ _=>rfl) left h0 h1
def H1 (x:List A1):Nat:=x.length
def E13 (x:List A1):Prop:=x.length≤9223372036854775807
theorem Fs2 (x:List A1) (w:E13 x) (left:Int) (h0:0≤left) (h1:left≤1048576):Ev (λk=>Ci6 k x left) (lft (H1 x) left):= .of λk=>Gp3 h0 h1 w
def H9 (x:List (List A1)):Nat:=x.length+(x.map H1).sum
def Ea6 (x:List (List A1)):Prop:=x.length≤9223372036854775807∧∀y∈x,E13 y
theorem Fe4 (x:List (List A1)) (w:Ea6 x) (left:Int) (h0:0≤left) (h1:left≤1048576):Ev (λk=>Cu2 k x left) (lft (H9 x) left):=Ez3 [] H1 (λk y q=>Ci6 k y q) x w.1 (λy hy q h0 h1=>Fs2 y (w.2 y hy) q h0 h1) (λk n q i=>At7 k n x q i) (λ_ _ _ _=>rfl) left h0 h1
def Q5 (x:List Bool):Nat:=x.length
def E14 (x:List Bool):Prop:=x.length≤9223372036854775807
theorem Fs3 (x:List Bool) (w:E14 x) (left:Int) (h0:0≤left) (h1:left≤1048576):Ev (λk=>Dh7 k x left) (lft (Q5 x) left):= .of λk=>Gp3 h0 h1 w
def P7 (x:A6):Nat:=F6 x.1+(H9 x.2.1+(Q5 x.2.2.1+(0)))
def Fs4 (x:A6):Prop:=Ea5 x.1∧Ea6 x.2.1∧E14 x.2.2.1
theorem F66 (x:A6) (w:Fs4 x) (left:Int) (h0:0≤left) (h1:left≤1048576):Ev (λk=>C20 k x left) (lft (P7 x) left):=by
 unfold C20 P7
 refine Cm6 h0 (Fe3 x.1 w.1 left h0 h1) (λleft h0 h1=> ?_) h1
 refine Cm6 h0 (Fe4 x.2.1 w.2.1 left h0 h1) (λleft h0 h1=> ?_) h1
 refine Cm6 h0 (Fs3 x.2.2.1 w.2.2 left h0 h1) (λleft h0 h1=> ?_) h1
 exact Dh5 h0
def Af0 (x:C3):Nat:=Q9 x.2.2.1+(0)
def Gh1 (x:C3):Prop:=Ea3 x.2.2.1
theorem Gh2 (x:C3) (w:Gh1 x) (left:Int) (h0:0≤left) (h1:left≤1048576):Ev (λk=>C21 k x left) (lft (Af0 x) left):=by
 unfold C21 Af0
 refine Cm6 h0 (Dj3 x.2.2.1 w left h0 h1) (λleft h0 h1=> ?_) h1
 exact Dh5 h0
def X5 (x:List C3):Nat:=x.length+(x.map Af0).sum
def Fs5 (x:List C3):Prop:=x.length≤9223372036854775807∧∀y∈x,Gh1 y
theorem F67 (x:List C3) (w:Fs5 x) (left:Int) (h0:0≤left) (h1:left≤1048576):Ev (λk=>D72 k x left) (lft (X5 x) left):=Ez3 C1 Af0 (λk y q=>C21 k y q) x w.1 (λy hy q h0 h1=>Gh2 y (w.2 y hy) q h0 h1) (λk n q i=>A94 k n x q i) (λ_ _ _ _=>rfl) left h0 h1
def J5 (x:B4):Nat:=G5 x.1+(P7 x.2.1+(X5 x.2.2.1+(0)))
def Fs6 (x:B4):Prop:=Cv9 x.1∧Fs4 x.2.1∧Fs5 x.2.2.1
theorem F68 (x:B4) (w:Fs6 x) (left:Int) (h0:0≤left) (h1:left≤1048576):Ev (λk=>C22 k x left) (lft (J5 x) left):=by
 unfold C22 J5
 refine Cm6 h0 (El3 x.1 w.1 left h0 h1) (λleft h0 h1=> ?_) h1
 refine Cm6 h0 (F66 x.2.1 w.2.1 left h0 h1) (λleft h0 h1=> ?_) h1
 refine Cm6 h0 (F67 x.2.2.1 w.2.2 left h0 h1) (λleft h0 h1=> ?_) h1
 exact Dh5 h0
def J7 (x:B7):Nat:=D1 x.2.2.2.1+(0)
def Dj4 (x:B7):Prop:=D21 x.2.2.2.1
theorem E15 (x:B7) (w:Dj4 x) (left:Int) (h0:0≤left) (h1:left≤1048576):Ev (λk=>A95 k x left) (lft (J7 x) left):=by
 unfold A95 J7
 refine Cm6 h0 (Ea4 x.2.2.2.1 w left h0 h1) (λleft h0 h1=> ?_) h1
 exact Dh5 h0
theorem E16 (x:A7) (h:J6 x≤1048576):Ev (λk=>Aw3 k x) x:=by
 unfold J6 at h
 unfold Aw3
 exact .of λ_=>rfl
theorem El4 (x:List A7) (h:G5 x≤1048576):Ev (λk=>Bq9 k x) x:=Ct9 A3 (λk y=>Aw3 k y) x (by unfold G5 at h;omega) (λy hy=>E16 y (by have:=N4 J6 hy;unfold G5 at h;omega)) (λk n i ys=>Ag2 k n x i ys) (λ_ _ _ _=>rfl)
theorem Dj5 (x:List Int) (h:Q9 x≤1048576):Ev (λk=>B75 k x) x:=Ct9 0 (λ_ y=>some y) x (by unfold Q9 at h;omega) (λy hy=> .of λ_=>rfl) (λk n i ys=>Ba4 k n x i ys) (λ_ _ _ _=>rfl)
theorem Ea7 (x:A0) (h:D1 x≤1048576):Ev (λk=>A30 k x) x:=by
 unfold D1 at h
 unfold A30
 refine(Dj5 x.2.2.2.2.2.1 (by omega)).bd ?_
 refine(Dj5 x.2.2.2.2.2.2.2.1 (by omega)).bd ?_
 exact .of λ_=>rfl
theorem Fe5 (x:List A0) (h:F6 x≤1048576):Ev (λk=>Cv0 k x) x:=Ct9 A4 (λk y=>A30 k y) x (by unfold F6 at h;omega) (λy hy=>Ea7 y (by have:=N4 D1 hy;unfold F6 at h;omega)) (λk n i ys=>At9 k n x i ys) (λ_ _ _ _=>rfl)
def Dj6 (x:A1):Nat:=0
theorem F69 (x:A1) (h:Dj6 x≤1048576):Ev (λk=>B76 k x) x:=by
 unfold Dj6 at h
 unfold B76
 exact .of λ_=>rfl
theorem Fs7 (x:List A1) (h:H1 x≤1048576):Ev (λk=>Cj2 k x) x:=Ct9 C0 (λk y=>B76 k y) x (by unfold H1 at h;omega) (λy hy=>F69 y (by unfold Dj6;omega)) (λk n i ys=>A06 k n x i ys) (λ_ _ _ _=>rfl)
theorem Fe6 (x:List (List A1)) (h:H9 x≤1048576):Ev (λk=>Cv1 k x) x:=Ct9 [] (λk y=>Cj2 k y) x (by unfold H9 at h;omega) (λy hy=>Fs7 y (by have:=N4 H1 hy;unfold H9 at h;omega)) (λk n i ys=>Au0 k n x i ys) (λ_ _ _ _=>rfl)
theorem Fs8 (x:List Bool) (h:Q5 x≤1048576):Ev (λk=>Di5 k x) x:=Ct9 false (λ_ y=>some y) x (by unfold Q5 at h;omega) (λy hy=> .of λ_=>rfl) (λk n i ys=>A07 k n x i ys) (λ_ _ _ _=>rfl)
theorem F70 (x:A6) (h:P7 x≤1048576):Ev (λk=>C37 k x) x:=by
 unfold P7 at h
 unfold C37
 refine(Fe5 x.1 (by omega)).bd ?_
 refine(Fe6 x.2.1 (by omega)).bd ?_
 refine(Fs8 x.2.2.1 (by omega)).bd ?_
 exact .of λ_=>rfl
theorem Gh3 (x:C3) (h:Af0 x≤1048576):Ev (λk=>C38 k x) x:=by
 unfold Af0 at h
 unfold C38
 refine(Dj5 x.2.2.1 (by omega)).bd ?_
 exact .of λ_=>rfl
theorem F71 (x:List C3) (h:X5 x≤1048576):Ev (λk=>D88 k x) x:=Ct9 C1 (λk y=>C38 k y) x (by unfold X5 at h;omega) (λy hy=>Gh3 y (by have:=N4 Af0 hy;unfold X5 at h;omega)) (λk n i ys=>Ba5 k n x i ys) (λ_ _ _ _=>rfl)
theorem Ck0 (x:B4) (h:J5 x≤1048576):Ev (λk=>A54 k x) x:=by
 unfold J5 at h
 unfold A54
 refine(El4 x.1 (by omega)).bd ?_
 refine(F70 x.2.1 (by omega)).bd ?_
 refine(F71 x.2.2.1 (by omega)).bd ?_
 exact .of λ_=>rfl
theorem A15 (x:B7) (h:J7 x≤1048576):Ev (λk=>u7 k x) x:=by
 unfold J7 at h
 unfold u7
 refine(Ea7 x.2.2.2.1 (by omega)).bd ?_
 exact .of λ_=>rfl
theorem E17 (x:A7) (h:J6 x≤1048576):Ev (λk=>Aw8 k x x) true:=by
 unfold J6 at h
 unfold Aw8
 try simp
 exact .of λ_=>rfl
theorem El5 (x:List A7) (h:G5 x≤1048576):Ev (λk=>Bt2 k x x) true:=D66 A3 (λk y z=>Aw8 k y z) x (by unfold G5 at h;omega) (λy hy=>E17 y (by have:=N4 J6 hy;unfold G5 at h;omega)) (λk n i=>Ag3 k n x x i) (λ_ _ _=>rfl)
theorem Dj7 (x:List Int) (h:Q9 x≤1048576):Ev (λk=>B81 k x x) true:=Fd5 0 x (by unfold Q9 at h;omega) (λk n i=>Ai9 k n x x i) (λk n i h0 h1=>by simp[Ai9,Bb9,h0,h1]) (λk n=>by simp[Ai9,Bb9])
theorem Ea8 (x:A0) (h:D1 x≤1048576):Ev (λk=>A34 k x x) true:=by
 unfold D1 at h
 unfold A34
 try simp
 refine(Dj7 x.2.2.2.2.2.1 (by omega)).bd ?_
 try simp
 refine(Dj7 x.2.2.2.2.2.2.2.1 (by omega)).bd ?_
 try simp
 exact .of λ_=>rfl
theorem Fe7 (x:List A0) (h:F6 x≤1048576):Ev (λk=>Cv6 k x x) true:=D66 A4 (λk y z=>A34 k y z) x (by unfold F6 at h;omega) (λy hy=>Ea8 y (by have:=N4 D1 hy;unfold F6 at h;omega)) (λk n i=>Au4 k n x x i) (λ_ _ _=>rfl)
theorem F72 (x:A1) (h:Dj6 x≤1048576):Ev (λk=>B82 k x x) true:=by
 unfold Dj6 at h
 unfold B82
 try simp
 exact .of λ_=>rfl
theorem Fs9 (x:List A1) (h:H1 x≤1048576):Ev (λk=>Cj9 k x x) true:=D66 C0 (λk y z=>B82 k y z) x (by unfold H1 at h;omega) (λy hy=>F72 y (by unfold Dj6;omega)) (λk n i=>A13 k n x x i) (λ_ _ _=>rfl)
theorem Fe8 (x:List (List A1)) (h:H9 x≤1048576):Ev (λk=>Cv7 k x x) true:=D66 [] (λk y z=>Cj9 k y z) x (by unfold H9 at h;omega) (λy hy=>Fs9 y (by have:=N4 H1 hy;unfold H9 at h;omega)) (λk n i=>Au5 k n x x i) (λ_ _ _=>rfl)
theorem Ft0 (x:List Bool) (h:Q5 x≤1048576):Ev (λk=>Dj1 k x x) true:=Fd5 false x (by unfold Q5 at h;omega) (λk n i=>Ad4 k n x x i) (λk n i h0 h1=>by simp[Ad4,A14,h0,h1]) (λk n=>by simp[Ad4,A14])
theorem F73 (x:A6) (h:P7 x≤1048576):Ev (λk=>C52 k x x) true:=by
 unfold P7 at h
 unfold C52
 try simp
 refine(Fe7 x.1 (by omega)).bd ?_
 try simp
 refine(Fe8 x.2.1 (by omega)).bd ?_
 try simp
 refine(Ft0 x.2.2.1 (by omega)).bd ?_
 try simp
 exact .of λ_=>rfl
theorem Gh4 (x:C3) (h:Af0 x≤1048576):Ev (λk=>C53 k x x) true:=by
 unfold Af0 at h
 unfold C53
 try simp
 refine(Dj7 x.2.2.1 (by omega)).bd ?_
 try simp
 exact .of λ_=>rfl
theorem F74 (x:List C3) (h:X5 x≤1048576):Ev (λk=>Ea2 k x x) true:=D66 C1 (λk y z=>C53 k y z) x (by unfold X5 at h;omega) (λy hy=>Gh4 y (by have:=N4 Af0 hy;unfold X5 at h;omega)) (λk n i=>Bc0 k n x x i) (λ_ _ _=>rfl)
theorem Ck1 (x:B4) (h:J5 x≤1048576):Ev (λk=>A59 k x x) true:=by
 unfold J5 at h
 unfold A59
 try simp
 refine(El5 x.1 (by omega)).bd ?_
 try simp
 refine(F73 x.2.1 (by omega)).bd ?_
 try simp
 refine(F74 x.2.2.1 (by omega)).bd ?_
 try simp
 exact .of λ_=>rfl
theorem E18 (x:B7) (h:J7 x≤1048576):Ev (λk=>Bc1 k x x) true:=by
 unfold J7 at h
 unfold Bc1
 try simp
 refine(Ea8 x.2.2.2.1 (by omega)).bd ?_
 try simp
 exact .of λ_=>rfl
theorem El6 (k:Int) (h0:0≤k) (h1:k≤274877906944):∃v,Ev (λn=>d9 n k) v:=by
 unfold d9 Bt3
 by_cases hk:k≤0
 ·exact⟨_, .of λn=>by rw[show decide (k≤0)=true by simpa using hk];rfl⟩
 ·have hr:Re (λx:Nat×Nat=>X4 x.1 x.2 k (⟨#[]⟩:ByteArray)) (λ_=>True):=by
   refine Re.loop (l:=λx n (s:Int×ByteArray)=>X4 x n s.1 s.2) (I:=λs=>0≤s.1∧s.1≤274877906944∧s.2.size+s.1.toNat≤274877906945) (λs=>s.1.toNat) (Q:=λ_ _=>True) (λs hs ih=> ?_) (k,(⟨#[]⟩:ByteArray)) ⟨h0,h1,by show 0+k.toNat≤_;omega⟩
   obtain⟨a,b⟩:=s
   obtain⟨g0,g1,g2⟩:=hs
   show Re (λx:Nat×Nat=>Au6 x.1 (X4 x.1 x.2) a b) _
   unfold Au6
   dsimp only at g0 g1 g2 ih ⊢
   have hsz:∀n:Int,(N9 [n]).size=1:=λn=>rfl
   have hsz2:∀n:Int,((N9 [n])++b).size=1+b.size:=λn=>by rw[ByteArray.size_append];rfl
   refine Re.br (λhp=> ?_) (λhp=> ?_)
   ·have hp:a>0:=G62 hp
    refine Re.ng (by simp) ?_
    refine Re.gd (G54 (by rw[hsz];unfold A5;omega)) ?_
    refine Re.ng (by simp) ?_
    have hq:Int.tdiv a 10=a/10:=Int.tdiv_eq_ediv_of_nonneg g0
    have hw:B5 (Int.tdiv a 10)=a/10:=by rw[hq];exact D7 (by omega) (by omega)
    rw[hw]
    exact ih (a/10,_) ⟨by dsimp only;omega,by dsimp only;omega,by dsimp only;rw[hsz2];omega⟩ (by dsimp only;omega)
   ·have h4:(⟨#[109]⟩:ByteArray).size=1:=rfl
    refine Re.gd (G54 (by rw[h4];unfold A5;omega)) (Re.ret trivial)
  obtain⟨v,_,K,hK⟩:=Re.enter (f:=λx n=>X4 x n k (⟨#[]⟩:ByteArray)) (κ:=λk:Nat=>k) B9 hr
  exact⟨v,K,λn hn=>by
   rw[show decide (k≤0)=false by simpa using hk]
   exact hK n hn⟩
open Classical in
noncomputable def E19 (k:Int):ByteArray:=if h:∃v,Ev (λn=>d9 n k) v then h.choose else ByteArray.empty
theorem Ck2 (k:Int) (h0:0≤k) (h1:k≤274877906944):Ev (λn=>d9 n k) (E19 k):=by
 have h:=El6 k h0 h1
 unfold E19
 rw[dif_pos h]
 exact h.choose_spec
noncomputable def Ad5 (y:A7) (k:Int):A7:=(k,(k+1),E19 (k+1+1),())
def H7 (y:A7):Nat:=3
noncomputable def Aa0 (x:List A7) (k:Int):List A7:=mkL Ad5 H7 x k
abbrev Aj1 (x:List A7):Nat:=ctL H7 x
theorem Af1 (x:List A7):Aj1 x≤1000*G5 x:=by
 refine Bp0 H7 J6 (λy=> ?_) x
 unfold H7 J6
 omega
theorem B88 (x:List A7) (k:Int) (h0:0≤k) (h1:k+1000*G5 x≤274877906944) (h2:G5 x≤1048576):Ev (λn=>z8 n x k) (k+(Aj1 x:Int),Aa0 x k,()):=by
 have hct:ctL H7 x≤1000*G5 x:=Af1 x
 have hlen:x.length≤1048576:=by unfold G5 at h2;omega
 refine A49 (l:=λk n a i ys=>Q4 k n a (i:Int) ys) Ad5 H7 x k (λi hi a ys ha hl hy=> ?_) (λa ys hl k n=>by simp[Q4,W2,hl])
 have hb:=Ak2 H7 hi
 have hrd:∀(d w:A7),rd d (ys.set i w) i=w:=λd w=>Cu0 (by omega)
 have e2:=B2 hi (by omega)
 have hm:=N4 J6 (G47 hi)
 have h3:=h2
 unfold G5 at h3
 have hc:H7 x[i]=3:=rfl
 have hm2:J6 x[i]=x[i].2.2.1.size+(0):=rfl
 have w0:B5 (a+1)=a+1:=D7 (by omega) (by omega)
 have w1:B5 (a+1+1)=a+1+1:=D7 (by omega) (by omega)
 obtain⟨K2,q2⟩:=Ck2 (a+1+1) (by omega) (by omega)
 have w2:B5 (a+1+1+1)=a+1+1+1:=D7 (by omega) (by omega)
 refine⟨K2,λk hk n=> ?_⟩
 have pq2:=q2 k (by omega)
 show W2 k (Q4 k n) a (i:Int) ys=_
 unfold W2
 simp only[hl,hy,hrd,G93,Hc3,e2,hi,G61,G42,G56,br_true,gd_true,bd_some,G33,G98,w0,w1,w2,pq2]
 repeat(rw[Eq2];try simp only[hl,hy,hrd,G93,Hc3,e2,hi,G61,G42,G56,br_true,gd_true,bd_some,G33,G98,w0,w1,w2,pq2])
 simp only[Ad5,H7]
 try congr 1
 all_goals(try simp)
 all_goals(try omega)
def Am3 (x:List Int) (k:Int):List Int:=mkL (λ(y:Int) k=>k) (λ_=>1) x k
abbrev E7 (x:List Int):Nat:=ctL (λ_=>1) x
theorem A35 (x:List Int) (k:Int):(Am3 x k).length=x.length:=D5 _ _ _ _
theorem S9 (x:List Int):E7 x≤1000*Q9 x:=by
 have e:E7 x=1*x.length:=Bj9 _ _
 unfold Q9
 omega
noncomputable def Ar4 (y:A0) (k:Int):A0:=(k,(k+1),(k+1+1),(k+1+1+1),(k+1+1+1+1),Am3 y.2.2.2.2.2.1 (k+1+1+1+1+1),E19 (k+1+1+1+1+1+(E7 y.2.2.2.2.2.1:Int)),Am3 y.2.2.2.2.2.2.2.1 (k+1+1+1+1+1+(E7 y.2.2.2.2.2.1:Int)+1),(k+1+1+1+1+1+(E7 y.2.2.2.2.2.1:Int)+1+(E7 y.2.2.2.2.2.2.2.1:Int)),())
def M4 (y:A0):Nat:=E7 y.2.2.2.2.2.1+(E7 y.2.2.2.2.2.2.2.1+(7))
noncomputable def Ar5 (x:List A0) (k:Int):List A0:=mkL Ar4 M4 x k
abbrev A36 (x:List A0):Nat:=ctL M4 x
theorem Aj2 (x:List A0):A36 x≤1000*F6 x:=by
 refine Bp0 M4 D1 (λy=> ?_) x
 have h5:=S9 y.2.2.2.2.2.1
 have h7:=S9 y.2.2.2.2.2.2.2.1
 unfold M4 D1
 omega
theorem Fe9 (x:List Int) (k:Int) (h0:0≤k) (h1:k+E7 x≤1099511627776) (h2:x.length≤1048576):Ev (λn=>e7 n x k) (k+(E7 x:Int),Am3 x k,()):=by
 refine A49 (l:=λk n a i ys=>o5 k n a (i:Int) ys) (λ(y:Int) k=>k) (λ_=>1) x k (λi hi a ys ha hl hy=> ⟨0,λk _ n=> ?_⟩) (λa ys hl k n=>by simp[o5,Au8,hl])
 unfold E7 at h1
 have hb:=Ak2 (λ_:Int=>1) hi
 have e2:=B2 hi (by omega)
 have w0:B5 (a+1)=a+1:=D7 (by omega) (by omega)
 simp only[o5,Au8,G93,hl,hi,hy,e2,Cu0,G61,G42,G56,br_true,gd_true,G33,Hc3,w0]
 try simp[Ha6]
theorem A63 (x:List Int) (k:Int) (h0:0≤k) (h1:k+1000*Q9 x≤1099511627776) (h2:Q9 x≤1048576):Ev (λn=>e7 n x k) (k+(E7 x:Int),Am3 x k,()):=by
 have e:=S9 x
 exact Fe9 x k h0 (by omega) (by unfold Q9 at h2;omega)
theorem C58 (x:List A0) (k:Int) (h0:0≤k) (h1:k+1000*F6 x≤274877906944) (h2:F6 x≤1048576):Ev (λn=>Al9 n x k) (k+(A36 x:Int),Ar5 x k,()):=by
 have hct:ctL M4 x≤1000*F6 x:=Aj2 x
 have hlen:x.length≤1048576:=by unfold F6 at h2;omega
 refine A49 (l:=λk n a i ys=>V0 k n a (i:Int) ys) Ar4 M4 x k (λi hi a ys ha hl hy=> ?_) (λa ys hl k n=>by simp[V0,j5,hl])
 have hb:=Ak2 M4 hi
 have hrd:∀(d w:A0),rd d (ys.set i w) i=w:=λd w=>Cu0 (by omega)
 have e2:=B2 hi (by omega)
 have hm:=N4 D1 (G47 hi)
 have h3:=h2
 unfold F6 at h3
 have hc:M4 x[i]=E7 x[i].2.2.2.2.2.1+(E7 x[i].2.2.2.2.2.2.2.1+(7)):=rfl
 have hm2:D1 x[i]=Q9 x[i].2.2.2.2.2.1+(x[i].2.2.2.2.2.2.1.size+(Q9 x[i].2.2.2.2.2.2.2.1+(0))):=rfl
 have c0:=S9 (x[i].2.2.2.2.2.1)
 have c1:=S9 (x[i].2.2.2.2.2.2.2.1)
 have w0:B5 (a+1)=a+1:=D7 (by omega) (by omega)
 have w1:B5 (a+1+1)=a+1+1:=D7 (by omega) (by omega)
 have w2:B5 (a+1+1+1)=a+1+1+1:=D7 (by omega) (by omega)
 have w3:B5 (a+1+1+1+1)=a+1+1+1+1:=D7 (by omega) (by omega)
 have w4:B5 (a+1+1+1+1+1)=a+1+1+1+1+1:=D7 (by omega) (by omega)
 obtain⟨K5,q5⟩:=A63 (x[i].2.2.2.2.2.1) (a+1+1+1+1+1) (by omega) (by omega) (by omega)
 obtain⟨K6,q6⟩:=Ck2 (a+1+1+1+1+1+(E7 x[i].2.2.2.2.2.1:Int)) (by omega) (by omega)
 have w6:B5 (a+1+1+1+1+1+(E7 x[i].2.2.2.2.2.1:Int)+1)=a+1+1+1+1+1+(E7 x[i].2.2.2.2.2.1:Int)+1:=D7 (by omega) (by omega)
 obtain⟨K7,q7⟩:=A63 (x[i].2.2.2.2.2.2.2.1) (a+1+1+1+1+1+(E7 x[i].2.2.2.2.2.1:Int)+1) (by omega) (by omega) (by omega)
 have w8:B5 (a+1+1+1+1+1+(E7 x[i].2.2.2.2.2.1:Int)+1+(E7 x[i].2.2.2.2.2.2.2.1:Int)+1)=a+1+1+1+1+1+(E7 x[i].2.2.2.2.2.1:Int)+1+(E7 x[i].2.2.2.2.2.2.2.1:Int)+1:=D7 (by omega) (by omega)
 refine⟨K5+K6+K7,λk hk n=> ?_⟩
 have pq5:=q5 k (by omega)
 have pq6:=q6 k (by omega)
 have pq7:=q7 k (by omega)
 show j5 k (V0 k n) a (i:Int) ys=_
 unfold j5
 simp only[hl,hy,hrd,G93,Hc3,e2,hi,G61,G42,G56,br_true,gd_true,bd_some,G33,G98,A35,A35,w0,w1,w2,w3,w4,w6,w8,pq5,pq6,pq7]
 repeat(rw[Eq2];try simp only[hl,hy,hrd,G93,Hc3,e2,hi,G61,G42,G56,br_true,gd_true,bd_some,G33,G98,A35,A35,w0,w1,w2,w3,w4,w6,w8,pq5,pq6,pq7])
 simp only[Ar4,M4]
 try congr 1
 all_goals(try simp)
 all_goals(try omega)
def Am4 (x:List A1) (k:Int):List A1:=mkL (λ(y:A1) k=> (k,(k+1),())) (λ_=>2) x k
abbrev W3 (x:List A1):Nat:=ctL (λ_=>2) x
theorem Ea9 (x:List A1) (k:Int):(Am4 x k).length=x.length:=D5 _ _ _ _
theorem A64 (x:List A1):W3 x≤1000*H1 x:=by
 have e:W3 x=2*x.length:=Bj9 _ _
 unfold H1
 omega
noncomputable def Ar6 (y:List A1) (k:Int):List A1:=Am4 y k
def M5 (y:List A1):Nat:=W3 y+(0)
noncomputable def Ar7 (x:List (List A1)) (k:Int):List (List A1):=mkL Ar6 M5 x k
abbrev Bl2 (x:List (List A1)):Nat:=ctL M5 x
theorem Aj3 (x:List (List A1)):Bl2 x≤1000*H9 x:=by
 refine Bp0 M5 H1 (λy=> ?_) x
 have h0:=A64 y
 unfold M5
 omega
theorem E20 (x:List A1) (k:Int) (h0:0≤k) (h1:k+W3 x≤1099511627776) (h2:x.length≤1048576):Ev (λn=>Aw9 n x k) (k+(W3 x:Int),Am4 x k,()):=by
 refine A49 (l:=λk n a i ys=>Y6 k n a (i:Int) ys) (λ(y:A1) k=> (k,(k+1),())) (λ_=>2) x k (λi hi a ys ha hl hy=> ⟨0,λk _ n=> ?_⟩) (λa ys hl k n=>by simp[Y6,Am0,hl])
 unfold W3 at h1
 have hb:=Ak2 (λ_:A1=>2) hi
 have e2:=B2 hi (by omega)
 have w0:B5 (a+1)=a+1:=D7 (by omega) (by omega)
 have w1:B5 (a+1+1)=a+1+1:=D7 (by omega) (by omega)
 simp only[Y6,Am0,G93,hl,hi,hy,e2,Cu0,G61,G42,G56,br_true,gd_true,G33,Hc3,w0,w1]
 try simp[Ha6]
theorem Ff0 (x:List A1) (k:Int) (h0:0≤k) (h1:k+1000*H1 x≤1099511627776) (h2:H1 x≤1048576):Ev (λn=>Aw9 n x k) (k+(W3 x:Int),Am4 x k,()):=by
 have e:=A64 x
 exact E20 x k h0 (by omega) (by unfold H1 at h2;omega)
theorem C59 (x:List (List A1)) (k:Int) (h0:0≤k) (h1:k+1000*H9 x≤274877906944) (h2:H9 x≤1048576):Ev (λn=>Am1 n x k) (k+(Bl2 x:Int),Ar7 x k,()):=by
 have hct:ctL M5 x≤1000*H9 x:=Aj3 x
 have hlen:x.length≤1048576:=by unfold H9 at h2;omega
 refine A49 (l:=λk n a i ys=>V2 k n a (i:Int) ys) Ar6 M5 x k (λi hi a ys ha hl hy=> ?_) (λa ys hl k n=>by simp[V2,j6,hl])
 have hb:=Ak2 M5 hi
 have hrd:∀(d w:List A1),rd d (ys.set i w) i=w:=λd w=>Cu0 (by omega)
 have e2:=B2 hi (by omega)
 have hm:=N4 H1 (G47 hi)
 have h3:=h2
 unfold H9 at h3
 have hc:M5 x[i]=W3 x[i]+(0):=rfl
 have c0:=A64 (x[i])
 obtain⟨K0,q0⟩:=Ff0 (x[i]) (a) (by omega) (by omega) (by omega)
 refine⟨K0,λk hk n=> ?_⟩
 have pq0:=q0 k (by omega)
 show j6 k (V2 k n) a (i:Int) ys=_
 unfold j6
 simp only[hl,hy,hrd,G93,Hc3,e2,hi,G61,G42,G56,br_true,gd_true,bd_some,G33,G98,Ea9,pq0]
 repeat(rw[Eq2];try simp only[hl,hy,hrd,G93,Hc3,e2,hi,G61,G42,G56,br_true,gd_true,bd_some,G33,G98,Ea9,pq0])
 simp only[Ar6,M5]
 try congr 1
 all_goals(try simp)
 all_goals(try omega)
def A65 (x:List Bool) (k:Int):List Bool:=mkL (λ(y:Bool) k=> (Int.tmod k 3==0)) (λ_=>1) x k
abbrev j7 (x:List Bool):Nat:=ctL (λ_=>1) x
theorem Cw0 (x:List Bool):j7 x≤1000*Q5 x:=by
 have e:j7 x=1*x.length:=Bj9 _ _
 unfold Q5
 omega
theorem E21 (x:List Bool) (k:Int) (h0:0≤k) (h1:k+j7 x≤1099511627776) (h2:x.length≤1048576):Ev (λn=>Aj0 n x k) (k+(j7 x:Int),A65 x k,()):=by
 refine A49 (l:=λk n a i ys=>Y7 k n a (i:Int) ys) (λ(y:Bool) k=> (Int.tmod k 3==0)) (λ_=>1) x k (λi hi a ys ha hl hy=> ⟨0,λk _ n=> ?_⟩) (λa ys hl k n=>by simp[Y7,Am2,hl])
 unfold j7 at h1
 have hb:=Ak2 (λ_:Bool=>1) hi
 have e2:=B2 hi (by omega)
 have w0:B5 (a+1)=a+1:=D7 (by omega) (by omega)
 simp only[Y7,Am2,G93,hl,hi,hy,e2,Cu0,G61,G42,G56,br_true,gd_true,G33,Hc3,w0]
 try simp[Ha6]
theorem Dq2 (x:List Bool) (k:Int) (h0:0≤k) (h1:k+1000*Q5 x≤1099511627776) (h2:Q5 x≤1048576):Ev (λn=>Aj0 n x k) (k+(j7 x:Int),A65 x k,()):=by
 have e:=Cw0 x
 exact E21 x k h0 (by omega) (by unfold Q5 at h2;omega)
noncomputable def Bl3 (y:C3) (k:Int):C3:=(k,(k+1),Am3 y.2.2.1 (k+1+1),())
def T6 (y:C3):Nat:=E7 y.2.2.1+(2)
noncomputable def Bt7 (x:List C3) (k:Int):List C3:=mkL Bl3 T6 x k
abbrev D22 (x:List C3):Nat:=ctL T6 x
theorem Bl4 (x:List C3):D22 x≤1000*X5 x:=by
 refine Bp0 T6 Af0 (λy=> ?_) x
 have h2:=S9 y.2.2.1
 unfold T6 Af0
 omega
theorem Eb0 (x:List C3) (k:Int) (h0:0≤k) (h1:k+1000*X5 x≤274877906944) (h2:X5 x≤1048576):Ev (λn=>A62 n x k) (k+(D22 x:Int),Bt7 x k,()):=by
 have hct:ctL T6 x≤1000*X5 x:=Bl4 x
 have hlen:x.length≤1048576:=by unfold X5 at h2;omega
 refine A49 (l:=λk n a i ys=>o6 k n a (i:Int) ys) Bl3 T6 x k (λi hi a ys ha hl hy=> ?_) (λa ys hl k n=>by simp[o6,Ae9,hl])
 have hb:=Ak2 T6 hi
 have hrd:∀(d w:C3),rd d (ys.set i w) i=w:=λd w=>Cu0 (by omega)
 have e2:=B2 hi (by omega)
 have hm:=N4 Af0 (G47 hi)
 have h3:=h2
 unfold X5 at h3
 have hc:T6 x[i]=E7 x[i].2.2.1+(2):=rfl
 have hm2:Af0 x[i]=Q9 x[i].2.2.1+(0):=rfl
 have c0:=S9 (x[i].2.2.1)
 have w0:B5 (a+1)=a+1:=D7 (by omega) (by omega)
 have w1:B5 (a+1+1)=a+1+1:=D7 (by omega) (by omega)
 obtain⟨K2,q2⟩:=A63 (x[i].2.2.1) (a+1+1) (by omega) (by omega) (by omega)
 refine⟨K2,λk hk n=> ?_⟩
 have pq2:=q2 k (by omega)
 show Ae9 k (o6 k n) a (i:Int) ys=_
 unfold Ae9
 simp only[hl,hy,hrd,G93,Hc3,e2,hi,G61,G42,G56,br_true,gd_true,bd_some,G33,G98,A35,w0,w1,pq2]
 repeat(rw[Eq2];try simp only[hl,hy,hrd,G93,Hc3,e2,hi,G61,G42,G56,br_true,gd_true,bd_some,G33,G98,A35,w0,w1,pq2])
 simp only[Bl3,T6]
 try congr 1
 all_goals(try simp)
 all_goals(try omega)
noncomputable abbrev D23 (x:A6) (k:Int):A6:=(Ar5 x.1 k,Ar7 x.2.1 (k+(A36 x.1:Int)),A65 x.2.2.1 (k+(A36 x.1:Int)+(Bl2 x.2.1:Int)),())
abbrev Bc3 (x:A6):Nat:=A36 x.1+Bl2 x.2.1+j7 x.2.2.1
noncomputable abbrev E22 (x:B4) (k:Int):B4:=(Aa0 x.1 k,D23 x.2.1 (k+(Aj1 x.1:Int)),Bt7 x.2.2.1 (k+(Aj1 x.1:Int)+(Bc3 x.2.1:Int)),())
abbrev F17 (x:B4):Nat:=Aj1 x.1+Bc3 x.2.1+D22 x.2.2.1
theorem Eb1 (x:List A7) (k0:Int) (h0:0≤k0) (h1:k0+1000*G5 x≤274877906944) (h2:G5 x≤1048576):Ev (λn=>A60 n (Aa0 x k0) k0) (k0+(Aj1 x:Int)):=by
 have hct:ctL H7 x≤1000*G5 x:=Af1 x
 have hlen:x.length≤1048576:=by unfold G5 at h2;omega
 have hl:(Aa0 x k0).length=x.length:=D5 _ _ _ _
 refine A50 (l:=λk n a i=>Q3 k n (Aa0 x k0) a (i:Int)) Ad5 H7 x k0 (λi hi a ha hy=> ?_) (λa k n=>by simp[Q3,W0,hl])
 have hb:=Ak2 H7 hi
 have e2:=B2 hi (by omega)
 have hm:=N4 J6 (G47 hi)
 have h3:=h2
 unfold G5 at h3
 have hc:H7 x[i]=3:=rfl
 have hm2:J6 x[i]=x[i].2.2.1.size+(0):=rfl
 have ha0:0≤a∧a+(H7 x[i]:Int)≤274877906944:=by omega
 have w0:B5 (a+1)=a+1:=D7 (by omega) (by omega)
 have w1:B5 (a+1+1)=a+1+1:=D7 (by omega) (by omega)
 obtain⟨K2,q2⟩:=Ck2 (a+1+1) (by omega) (by omega)
 have w2:B5 (a+1+1+1)=a+1+1+1:=D7 (by omega) (by omega)
 refine⟨K2,λk hk n=> ?_⟩
 have pq2:=q2 k (by omega)
 have hz:∀d,rd d (Aa0 x k0) i=Ad5 x[i] a:=hy
 show W0 k (Q3 k n) (Aa0 x k0) a (i:Int)=_
 unfold W0
 have n0:∀(f:List A7) (c:Nat) (b:Int),0≤b→decide (b+(c:Int)<0)=false:=λ_ c b hb=>by simp;omega
 simp only[hl,hz,Ad5,e2,hi,G61,G42,G56,br_true,br_false,gd_true,bd_some,G33,bne_self_eq_false,beq_self_eq_true,Bool.not_true,w0,w1,w2,pq2]
 simp only[H7]
 try(simp[show∀z:Int,0≤z→¬z<0 fromλz h=>by omega])
 all_goals(try congr 1)
 all_goals(try omega)
theorem Ff1 (x:List Int) (k0:Int) (h0:0≤k0) (h1:k0+E7 x≤1099511627776) (h2:x.length≤1048576):Ev (λn=>Ar3 n (Am3 x k0) k0) (k0+(E7 x:Int)):=by
 have hl:(Am3 x k0).length=x.length:=D5 _ _ _ _
 refine A50 (l:=λk n a i=>n8 k n (Am3 x k0) a (i:Int)) (λ(y:Int) k=>k) (λ_=>1) x k0 (λi hi a ha hy=> ⟨0,λk _ n=> ?_⟩) (λa k n=>by simp[n8,Au7,hl])
 unfold E7 at h1
 have hb:=Ak2 (λ_:Int=>1) hi
 have e2:=B2 hi (by omega)
 have hz:∀d,rd d (Am3 x k0) i=_:=hy
 have w0:B5 (a+1)=a+1:=D7 (by omega) (by omega)
 simp only[n8,Au7,hl,hi,hz,e2,G61,G42,G56,br_true,gd_true,G33,w0]
 try simp[Ha6]
theorem Cw1 (x:List Int) (k0:Int) (h0:0≤k0) (h1:k0+1000*Q9 x≤1099511627776) (h2:Q9 x≤1048576):Ev (λn=>Ar3 n (Am3 x k0) k0) (k0+(E7 x:Int)):=by
 have e:=S9 x
 exact Ff1 x k0 h0 (by omega) (by unfold Q9 at h2;omega)
theorem E23 (x:List A0) (k0:Int) (h0:0≤k0) (h1:k0+1000*F6 x≤274877906944) (h2:F6 x≤1048576):Ev (λn=>Bt4 n (Ar5 x k0) k0) (k0+(A36 x:Int)):=by
 have hct:ctL M4 x≤1000*F6 x:=Aj2 x
 have hlen:x.length≤1048576:=by unfold F6 at h2;omega
 have hl:(Ar5 x k0).length=x.length:=D5 _ _ _ _
 refine A50 (l:=λk n a i=>U8 k n (Ar5 x k0) a (i:Int)) Ar4 M4 x k0 (λi hi a ha hy=> ?_) (λa k n=>by simp[U8,j3,hl])
 have hb:=Ak2 M4 hi
 have e2:=B2 hi (by omega)
 have hm:=N4 D1 (G47 hi)
 have h3:=h2
 unfold F6 at h3
 have hc:M4 x[i]=E7 x[i].2.2.2.2.2.1+(E7 x[i].2.2.2.2.2.2.2.1+(7)):=rfl
 have hm2:D1 x[i]=Q9 x[i].2.2.2.2.2.1+(x[i].2.2.2.2.2.2.1.size+(Q9 x[i].2.2.2.2.2.2.2.1+(0))):=rfl
 have c0:=S9 (x[i].2.2.2.2.2.1)
 have c1:=S9 (x[i].2.2.2.2.2.2.2.1)
 have ha0:0≤a∧a+(M4 x[i]:Int)≤274877906944:=by omega
 have w0:B5 (a+1)=a+1:=D7 (by omega) (by omega)
 have w1:B5 (a+1+1)=a+1+1:=D7 (by omega) (by omega)
 have w2:B5 (a+1+1+1)=a+1+1+1:=D7 (by omega) (by omega)
 have w3:B5 (a+1+1+1+1)=a+1+1+1+1:=D7 (by omega) (by omega)
 have w4:B5 (a+1+1+1+1+1)=a+1+1+1+1+1:=D7 (by omega) (by omega)
 obtain⟨K5,q5⟩:=Cw1 (x[i].2.2.2.2.2.1) (a+1+1+1+1+1) (by omega) (by omega) (by omega)
 obtain⟨K6,q6⟩:=Ck2 (a+1+1+1+1+1+(E7 x[i].2.2.2.2.2.1:Int)) (by omega) (by omega)
 have w6:B5 (a+1+1+1+1+1+(E7 x[i].2.2.2.2.2.1:Int)+1)=a+1+1+1+1+1+(E7 x[i].2.2.2.2.2.1:Int)+1:=D7 (by omega) (by omega)
 obtain⟨K7,q7⟩:=Cw1 (x[i].2.2.2.2.2.2.2.1) (a+1+1+1+1+1+(E7 x[i].2.2.2.2.2.1:Int)+1) (by omega) (by omega) (by omega)
 have w8:B5 (a+1+1+1+1+1+(E7 x[i].2.2.2.2.2.1:Int)+1+(E7 x[i].2.2.2.2.2.2.2.1:Int)+1)=a+1+1+1+1+1+(E7 x[i].2.2.2.2.2.1:Int)+1+(E7 x[i].2.2.2.2.2.2.2.1:Int)+1:=D7 (by omega) (by omega)
 refine⟨K5+K6+K7,λk hk n=> ?_⟩
 have pq5:=q5 k (by omega)
 have pq6:=q6 k (by omega)
 have pq7:=q7 k (by omega)
 have hz:∀d,rd d (Ar5 x k0) i=Ar4 x[i] a:=hy
 show j3 k (U8 k n) (Ar5 x k0) a (i:Int)=_
 unfold j3
 have dn5:decide (a+1+1+1+1+1+(E7 (x[i].2.2.2.2.2.1):Int)<0)=false:=G55 (by omega)
 have dn7:decide (a+1+1+1+1+1+(E7 x[i].2.2.2.2.2.1:Int)+1+(E7 (x[i].2.2.2.2.2.2.2.1):Int)<0)=false:=G55 (by omega)
 have n0:∀(f:List A0) (c:Nat) (b:Int),0≤b→decide (b+(c:Int)<0)=false:=λ_ c b hb=>by simp;omega
 simp only[hl,hz,Ar4,e2,hi,G61,G42,G56,br_true,br_false,gd_true,bd_some,G33,bne_self_eq_false,beq_self_eq_true,Bool.not_true,w0,w1,w2,w3,w4,w6,w8,pq5,pq6,pq7,dn5,dn7]
 simp only[M4]
 try(simp[show∀z:Int,0≤z→¬z<0 fromλz h=>by omega])
 all_goals(try congr 1)
 all_goals(try omega)
theorem E24 (x:List A1) (k0:Int) (h0:0≤k0) (h1:k0+W3 x≤1099511627776) (h2:x.length≤1048576):Ev (λn=>Bc2 n (Am4 x k0) k0) (k0+(W3 x:Int)):=by
 have hl:(Am4 x k0).length=x.length:=D5 _ _ _ _
 refine A50 (l:=λk n a i=>Y4 k n (Am4 x k0) a (i:Int)) (λ(y:A1) k=> (k,(k+1),())) (λ_=>2) x k0 (λi hi a ha hy=> ⟨0,λk _ n=> ?_⟩) (λa k n=>by simp[Y4,Al7,hl])
 unfold W3 at h1
 have hb:=Ak2 (λ_:A1=>2) hi
 have e2:=B2 hi (by omega)
 have hz:∀d,rd d (Am4 x k0) i=_:=hy
 have w0:B5 (a+1)=a+1:=D7 (by omega) (by omega)
 have w1:B5 (a+1+1)=a+1+1:=D7 (by omega) (by omega)
 simp only[Y4,Al7,hl,hi,hz,e2,G61,G42,G56,br_true,gd_true,G33,w0,w1]
 try simp[Ha6]
theorem Ff2 (x:List A1) (k0:Int) (h0:0≤k0) (h1:k0+1000*H1 x≤1099511627776) (h2:H1 x≤1048576):Ev (λn=>Bc2 n (Am4 x k0) k0) (k0+(W3 x:Int)):=by
 have e:=A64 x
 exact E24 x k0 h0 (by omega) (by unfold H1 at h2;omega)
theorem E25 (x:List (List A1)) (k0:Int) (h0:0≤k0) (h1:k0+1000*H9 x≤274877906944) (h2:H9 x≤1048576):Ev (λn=>Bt5 n (Ar7 x k0) k0) (k0+(Bl2 x:Int)):=by
 have hct:ctL M5 x≤1000*H9 x:=Aj3 x
 have hlen:x.length≤1048576:=by unfold H9 at h2;omega
 have hl:(Ar7 x k0).length=x.length:=D5 _ _ _ _
 refine A50 (l:=λk n a i=>U9 k n (Ar7 x k0) a (i:Int)) Ar6 M5 x k0 (λi hi a ha hy=> ?_) (λa k n=>by simp[U9,j4,hl])
 have hb:=Ak2 M5 hi
 have e2:=B2 hi (by omega)
 have hm:=N4 H1 (G47 hi)
 have h3:=h2
 unfold H9 at h3
 have hc:M5 x[i]=W3 x[i]+(0):=rfl
 have c0:=A64 (x[i])
 have ha0:0≤a∧a+(M5 x[i]:Int)≤274877906944:=by omega
 obtain⟨K0,q0⟩:=Ff2 (x[i]) (a) (by omega) (by omega) (by omega)
 refine⟨K0,λk hk n=> ?_⟩
 have pq0:=q0 k (by omega)
 have hz:∀d,rd d (Ar7 x k0) i=Ar6 x[i] a:=hy
 show j4 k (U9 k n) (Ar7 x k0) a (i:Int)=_
 unfold j4
 have dn0:decide (a+(W3 (x[i]):Int)<0)=false:=G55 (by omega)
 have n0:∀(f:List (List A1)) (c:Nat) (b:Int),0≤b→decide (b+(c:Int)<0)=false:=λ_ c b hb=>by simp;omega
 simp only[hl,hz,Ar6,e2,hi,G61,G42,G56,br_true,br_false,gd_true,bd_some,G33,bne_self_eq_false,beq_self_eq_true,Bool.not_true,pq0,dn0]
 simp only[M5]
 try(simp[show∀z:Int,0≤z→¬z<0 fromλz h=>by omega])
 all_goals(try congr 1)
 all_goals(try omega)
theorem E26 (x:List Bool) (k0:Int) (h0:0≤k0) (h1:k0+j7 x≤1099511627776) (h2:x.length≤1048576):Ev (λn=>B85 n (A65 x k0) k0) (k0+(j7 x:Int)):=by
 have hl:(A65 x k0).length=x.length:=D5 _ _ _ _
 refine A50 (l:=λk n a i=>Y5 k n (A65 x k0) a (i:Int)) (λ(y:Bool) k=> (Int.tmod k 3==0)) (λ_=>1) x k0 (λi hi a ha hy=> ⟨0,λk _ n=> ?_⟩) (λa k n=>by simp[Y5,Al8,hl])
 unfold j7 at h1
 have hb:=Ak2 (λ_:Bool=>1) hi
 have e2:=B2 hi (by omega)
 have hz:∀d,rd d (A65 x k0) i=_:=hy
 have w0:B5 (a+1)=a+1:=D7 (by omega) (by omega)
 simp only[Y5,Al8,hl,hi,hz,e2,G61,G42,G56,br_true,gd_true,G33,w0]
 try simp[Ha6]
theorem F75 (x:A6):Bc3 x≤1000*P7 x:=by
 unfold Bc3 P7
 have e_0:=Aj2 x.1
 have e_1:=Aj3 x.2.1
 have e_2:j7 x.2.2.1=1*Q5 x.2.2.1:=Bj9 _ _
 omega
theorem Ff3 (x:A6) (k:Int) (h0:0≤k) (h1:k+1000*P7 x≤274877906944) (h2:P7 x≤1048576):Ev (λn=>Bt6 n (D23 x k) k) (k+(Bc3 x:Int)):=by
 unfold P7 at h1 h2
 have e_0:=Aj2 x.1
 have e_1:=Aj3 x.2.1
 have e_2:j7 x.2.2.1=1*Q5 x.2.2.1:=Bj9 _ _
 have l_2:Q5 x.2.2.1=x.2.2.1.length:=rfl
 unfold Bt6
 refine(E23 _ _ (by omega) (by omega) (by omega)).bd ?_
 refine B62 (by omega) ?_
 refine(E25 _ _ (by omega) (by omega) (by omega)).bd ?_
 refine B62 (by omega) ?_
 refine(E26 _ _ (by omega) (by omega) (by omega)).bd ?_
 refine B62 (by omega) ?_
 refine .of λ_=> ?_
 simp[Bc3,Ha6]
theorem Ft1 (x:List C3) (k0:Int) (h0:0≤k0) (h1:k0+1000*X5 x≤274877906944) (h2:X5 x≤1048576):Ev (λn=>Cv8 n (Bt7 x k0) k0) (k0+(D22 x:Int)):=by
 have hct:ctL T6 x≤1000*X5 x:=Bl4 x
 have hlen:x.length≤1048576:=by unfold X5 at h2;omega
 have hl:(Bt7 x k0).length=x.length:=D5 _ _ _ _
 refine A50 (l:=λk n a i=>n9 k n (Bt7 x k0) a (i:Int)) Bl3 T6 x k0 (λi hi a ha hy=> ?_) (λa k n=>by simp[n9,Ae8,hl])
 have hb:=Ak2 T6 hi
 have e2:=B2 hi (by omega)
 have hm:=N4 Af0 (G47 hi)
 have h3:=h2
 unfold X5 at h3
 have hc:T6 x[i]=E7 x[i].2.2.1+(2):=rfl
 have hm2:Af0 x[i]=Q9 x[i].2.2.1+(0):=rfl
 have c0:=S9 (x[i].2.2.1)
 have ha0:0≤a∧a+(T6 x[i]:Int)≤274877906944:=by omega
 have w0:B5 (a+1)=a+1:=D7 (by omega) (by omega)
 have w1:B5 (a+1+1)=a+1+1:=D7 (by omega) (by omega)
 obtain⟨K2,q2⟩:=Cw1 (x[i].2.2.1) (a+1+1) (by omega) (by omega) (by omega)
 refine⟨K2,λk hk n=> ?_⟩
 have pq2:=q2 k (by omega)
 have hz:∀d,rd d (Bt7 x k0) i=Bl3 x[i] a:=hy
 show Ae8 k (n9 k n) (Bt7 x k0) a (i:Int)=_
 unfold Ae8
 have dn2:decide (a+1+1+(E7 (x[i].2.2.1):Int)<0)=false:=G55 (by omega)
 have n0:∀(f:List C3) (c:Nat) (b:Int),0≤b→decide (b+(c:Int)<0)=false:=λ_ c b hb=>by simp;omega
 simp only[hl,hz,Bl3,e2,hi,G61,G42,G56,br_true,br_false,gd_true,bd_some,G33,bne_self_eq_false,beq_self_eq_true,Bool.not_true,w0,w1,pq2,dn2]
 simp only[T6]
 try(simp[show∀z:Int,0≤z→¬z<0 fromλz h=>by omega])
 all_goals(try congr 1)
 all_goals(try omega)
theorem Dq3 (x:B4) (k:Int) (h0:0≤k) (h1:k+1000*J5 x≤274877906944) (h2:J5 x≤1048576):Ev (λn=>A61 n (E22 x k) k) (k+(F17 x:Int)):=by
 unfold J5 at h1 h2
 have e_0:=Af1 x.1
 have e_1:=F75 x.2.1
 have e_2:=Bl4 x.2.2.1
 unfold A61
 refine(Eb1 _ _ (by omega) (by omega) (by omega)).bd ?_
 refine B62 (by omega) ?_
 refine(Ff3 _ _ (by omega) (by omega) (by omega)).bd ?_
 refine B62 (by omega) ?_
 refine(Ft1 _ _ (by omega) (by omega) (by omega)).bd ?_
 refine B62 (by omega) ?_
 refine .of λ_=> ?_
 simp[F17,Ha6]
end Go.Vm
end
section
namespace Go.Vm
open Go
theorem C60 (a0:B4) (a1:Int) (a2:B7) (w0:Fs6 a0) (w2:Dj4 a2) (h:J5 a0≤1048576→J7 a2≤1048576→J5 a0+J7 a2≤1048576→∃v:B4×ByteArray×Bool,J5 v.1≤1048576∧Ev (λk=>Bk5 k a0 a1 a2) v∧Ev (λk=>A33 k a0 a1 a2) v):Ev (λk=>Y8 k a0 a1 a2) true:=by
 unfold Y8
 refine Gn0 (F68 a0 w0 (1048576) (by omega) (by omega)) (λc0=> ?_)
 have c0:J5 a0≤1048576:=by omega
 refine Gn0 (E15 a2 w2 (1048576- (J5 a0:Int)) (by omega) (by omega)) (λc2=> ?_)
 have c2:J7 a2≤1048576:=by omega
 have cs:J5 a0+J7 a2≤1048576:=by omega
 obtain⟨v,r0,hs,hi⟩:=h c0 c2 cs
 refine(Ck0 a0 c0).bd ?_
 refine(A15 a2 c2).bd ?_
 refine hs.bd ?_
 refine(Ck0 a0 c0).bd ?_
 refine(A15 a2 c2).bd ?_
 refine hi.bd ?_
 refine(Ck1 v.1 r0).bd ?_
 try simp
 try simp
 try simp
 refine(Ck0 a0 c0).bd ?_
 refine(Ck1 a0 c0).bd ?_
 try simp
 refine(A15 a2 c2).bd ?_
 refine(E18 a2 c2).bd ?_
 try simp
 have f_r14:=Af1 ((a0.1):List A7)
 have g_r14:=c0
 unfold J5 P7 at g_r14
 refine(B88 _ _ (by omega) (by omega) (by omega)).bd ?_
 refine .gd (D07 (D5 _ _ _ _)) ?_
 have f_r15:=Aj2 ((a0.2.1.1):List A0)
 refine(C58 _ _ (by omega) (by omega) (by omega)).bd ?_
 refine .gd (D07 (D5 _ _ _ _)) ?_
 have f_r16:=Aj3 ((a0.2.1.2.1):List (List A1))
 refine(C59 _ _ (by omega) (by omega) (by omega)).bd ?_
 refine .gd (D07 (D5 _ _ _ _)) ?_
 have f_r17:=Cw0 ((a0.2.1.2.2.1):List Bool)
 refine(Dq2 _ _ (by omega) (by omega) (by omega)).bd ?_
 refine .gd (D07 (D5 _ _ _ _)) ?_
 have f_r18:=Bl4 ((a0.2.2.1):List C3)
 refine(Eb0 _ _ (by omega) (by omega) (by omega)).bd ?_
 refine .gd (D07 (D5 _ _ _ _)) ?_
 have f_r19:=S9 ((a2.2.2.2.1.2.2.2.2.2.1):List Int)
 have g_r19:=c2
 unfold J7 D1 at g_r19
 refine(A63 _ _ (by omega) (by omega) (by omega)).bd ?_
 refine .gd (D07 (D5 _ _ _ _)) ?_
 have f_r20:=S9 ((a2.2.2.2.1.2.2.2.2.2.2.2.1):List Int)
 refine(A63 _ _ (by omega) (by omega) (by omega)).bd ?_
 refine .gd (D07 (D5 _ _ _ _)) ?_
 try simp
 refine(Ck1 v.1 r0).bd ?_
 try simp
 try simp
 try simp
 have f_r22:=Af1 ((v.1.1):List A7)
 have g_r22:=r0
 unfold J5 P7 at g_r22
 refine(B88 _ _ (by omega) (by omega) (by omega)).bd ?_
 refine .gd (D07 (D5 _ _ _ _)) ?_
 have f_r23:=Aj2 ((v.1.2.1.1):List A0)
 refine(C58 _ _ (by omega) (by omega) (by omega)).bd ?_
 refine .gd (D07 (D5 _ _ _ _)) ?_
 have f_r24:=Aj3 ((v.1.2.1.2.1):List (List A1))
 refine(C59 _ _ (by omega) (by omega) (by omega)).bd ?_
 refine .gd (D07 (D5 _ _ _ _)) ?_
 have f_r25:=Cw0 ((v.1.2.1.2.2.1):List Bool)
 refine(Dq2 _ _ (by omega) (by omega) (by omega)).bd ?_
 refine .gd (D07 (D5 _ _ _ _)) ?_
 have f_r26:=Bl4 ((v.1.2.2.1):List C3)
 refine(Eb0 _ _ (by omega) (by omega) (by omega)).bd ?_
 refine .gd (D07 (D5 _ _ _ _)) ?_
 refine(Ev.congr (Dq3 (v.1) 1 (by omega) (by omega) (by first|assumption|omega)) (λn=>by simp[E22,D23,Bc3,Int.natCast_add,Ha6])).bd ?_
 refine B62 (by omega) ?_
 refine Gn1 (by first|rfl|(simp[Ha6];done)|omega) ?_
 refine(Ck0 a0 c0).bd ?_
 refine(A15 a2 c2).bd ?_
 refine hi.bd ?_
 refine(Ck1 v.1 r0).bd ?_
 try simp
 try simp
 try simp
 refine(Ev.congr (Dq3 (v.1) 1 (by omega) (by omega) (by first|assumption|omega)) (λn=>by simp[E22,D23,Bc3,Int.natCast_add,Ha6])).bd ?_
 refine B62 (by omega) ?_
 refine Gn1 (by first|rfl|(simp[Ha6];done)|omega) ?_
 exact .of λ_=>rfl
end Go.Vm
end
section
namespace Go.Vm
open Go
def W6 (a b c:Int):Bool:=decide (b≤a)&&decide (a≤c)
theorem P8 (k:Nat) (a b c:Int):F9 k a b c=some (W6 a b c):=by
 unfold F9 W6
 by_cases h:a≥b
 ·have:b≤a:=h
  simp[h,this]
 ·have:¬b≤a:=h
  simp[h,this]
theorem O1 (k:Nat) (a b c:Int):F7 k a b c=some (W6 a b c):=P8 k a b c
abbrev j8 (e:A0):Int:=e.2.1
abbrev Bc4 (e:A0):Int:=e.2.2.1
abbrev C61 (e:A0):Int:=e.2.2.2.1
abbrev A16 (e:A0):Int:=e.2.2.2.2.1
abbrev G3 (e:A0):List Int:=e.2.2.2.2.2.1
abbrev j9 (e:A0):ByteArray:=e.2.2.2.2.2.2.1
abbrev F8 (e:A0):List Int:=e.2.2.2.2.2.2.2.1
abbrev Ar8 (e:A0):Int:=e.2.2.2.2.2.2.2.2.1
def Ff4 (l:List Int):Bool:=S7 l.length (λi=>W6 (rd 0 l i) 0 100)&&((l.length:Int)==5)
theorem Eb2 (l:List Int) (hs:l.length≤1048576):Ev (λk=>t8 k l) (Ff4 l):=by
 have h:=Ct7 (l:=λk n i=>X9 k n l (i:Int)) l.length (λi=>W6 (rd 0 l i) 0 100) ((l.length:Int)==5) false (λi hi=> ⟨0,λk _ n=>by
  have e:=B2 hi (by omega)
  simp only[X9,Ak3,hi,G61,G42,G56,br_true,gd_true,G33,e,P8,bd_some,Ct6]⟩) ⟨0,λk _ n=>by simp[X9,Ak3]⟩
 refine h.congr_val (g:=λk=>t8 k l) (λk=>rfl) ?_
 unfold Ff4
 cases S7 l.length (λi=>W6 (rd 0 l i) 0 100)<;>rfl
def A66 {α:Type} (l:List α):Bool:=(l.length:Int)==0
theorem gt0 {α:Type} (l:List α):decide ((l.length:Int)>0)= !A66 l:=by
 unfold A66
 cases l with
 |nil=>rfl
 |cons x l=>simp;omega
def Dq4 (e:A0):Bool:=bif j8 e==3 then Ff4 (G3 e)else A66 (G3 e)
theorem El7 (e:A0) (hs:(G3 e).length≤1048576):Ev (λk=>Br1 k e) (Dq4 e):=by
 have h:=Ct7 (l:=λk n i=>X2 k n e (i:Int)) (G3 e).length (λi=>W6 (rd 0 (G3 e) i) 0 100) (((G3 e).length:Int)==5) false (λi hi=> ⟨0,λk _ n=>by
   have e:=B2 hi (by omega)
   simp only[X2,Au1,hi,G61,G42,G56,br_true,gd_true,G33,e,O1,bd_some,Ct6]⟩) ⟨0,λk _ n=>by simp[X2,Au1]⟩
 obtain⟨K,hK⟩:=h.congr (g:=λk=>X2 k k e 0) λk=>rfl
 refine⟨K,λk hk=> ?_⟩
 have h1:=hK k hk
 have h2:(((G3 e).length:Int)==0)=A66 (G3 e):=rfl
 simp only[Br1,Br0,h1,h2,Dq4,Ff4,bne,j8]
 cases(e.2.1==3)
 ·rfl
 ·cases S7 (G3 e).length (λi=>W6 (rd 0 (G3 e) i) 0 100)<;>rfl
def Ax6 (e:A0) (i:Nat):Bool:=W6 (rd 0 (F8 e) i) 1 1000000&& !(rd 0 (F8 e) i==e.1)&&(i==0||decide (rd 0 (F8 e) (i-1)<rd 0 (F8 e) i))
def Bt8 (e:A0):Bool:=S7 (F8 e).length (Ax6 e)&&(decide (((F8 e).length:Int)≤3)&&((j8 e==1)==A66 (F8 e)))
theorem F76 (e:A0) (hs:(F8 e).length≤1048576):Ev (λk=>V6 k k 0 e) (S7 (F8 e).length (Ax6 e)):=by
 have h:=Ct7 (l:=λk n i=>V6 k n (i:Int) e) (F8 e).length (Ax6 e) true false (λi hi=> ⟨0,λk _ n=>by
  have e1:=B2 hi (by omega)
  simp only[V6,Az4,hi,G61,G42,G56,br_true,gd_true,G33,e1,P8,bd_some,Ct6,Ax6]
  cases W6 (rd 0 (F8 e) i) 1 1000000<;>cases(rd 0 (F8 e) i==e.1)<;>simp
  cases i with
  |zero=>simp
  |succ j=>
   have e2:=Bj8 (i:=j+1) (by omega) (by omega)
   have h3:(j:Int)< (F8 e).length:=by omega
   have h4:(0:Int)< ((j+1:Nat):Int):=by omega
   simp only[e2,Nat.add_sub_cancel,h3,h4,G56,br_true,gd_true,G33,G42]
   by_cases h5:rd 0 (F8 e) (j+1)≤rd 0 (F8 e) j
   ·simp[h5,Int.not_lt.2 h5]
   ·simp[h5,Int.not_le.1 h5]⟩) ⟨0,λk _ n=>by simp[V6,Az4]⟩
 refine h.congr_val (g:=λk=>V6 k k 0 e) (λk=>rfl) ?_
 cases S7 (F8 e).length (Ax6 e)<;>rfl
theorem Ff5 (e:A0) (hs:(F8 e).length≤1048576):Ev (λk=>C39 k e) (Bt8 e):=by
 have h:=Ct7 (l:=λk n i=>Ai0 k n e (i:Int)) (F8 e).length (Ax6 e) (decide (((F8 e).length:Int)≤3)&&((j8 e==1)==A66 (F8 e))) false (λi hi=> ⟨0,λk _ n=>by
  have e1:=B2 hi (by omega)
  simp only[Ai0,Ba6,hi,G61,G42,G56,br_true,gd_true,G33,e1,O1,bd_some,Ct6,Ax6]
  cases W6 (rd 0 (F8 e) i) 1 1000000<;>cases(rd 0 (F8 e) i==e.1)<;>simp
  cases i with
  |zero=>simp
  |succ j=>
   have e2:=Bj8 (i:=j+1) (by omega) (by omega)
   have h3:(j:Int)< (F8 e).length:=by omega
   have h4:(0:Int)< ((j+1:Nat):Int):=by omega
   simp only[e2,Nat.add_sub_cancel,h3,h4,G56,br_true,gd_true,G33,G42]
   by_cases h5:rd 0 (F8 e) (j+1)≤rd 0 (F8 e) j
   ·simp[h5,Int.not_lt.2 h5]
   ·simp[h5,Int.not_le.1 h5]⟩) ⟨0,λk _ n=>by
  simp only[Ai0,Ba6,G77,G76,br_false]
  have h1:(((F8 e).length:Int)==0)=A66 (F8 e):=rfl
  simp only[h1]
  cases decide (((F8 e).length:Int)≤3)<;>rfl⟩
 refine h.congr_val (g:=λk=>C39 k e) (λk=>rfl) ?_
 unfold Bt8
 cases S7 (F8 e).length (Ax6 e)<;>rfl
def emp (s:ByteArray):Bool:=s.toList==(⟨#[]⟩:ByteArray).toList
def F77 (s:ByteArray):Bool:=decide ((s.size:Int)≤24)
theorem Ff6 (s:ByteArray):(emp s=true∧F77 s=true)∨emp s=false:=by
 cases h:emp s with
 |false=>exact .inr rfl
 |true=>
  refine .inl ⟨rfl, ?_⟩
  unfold emp at h
  rw[Ez4]at h
  rw[G62 h];rfl
theorem Ff7 (n:Int):((n==1)=true∧(n==2)=false∧(n==3)=false∧(n==4)=false∧(n==5)=false∧W6 n 1 5=true)∨
  ((n==1)=false∧(n==2)=true∧(n==3)=false∧(n==4)=false∧(n==5)=false∧W6 n 1 5=true)∨
  ((n==1)=false∧(n==2)=false∧(n==3)=true∧(n==4)=false∧(n==5)=false∧W6 n 1 5=true)∨
  ((n==1)=false∧(n==2)=false∧(n==3)=false∧(n==4)=true∧(n==5)=false∧W6 n 1 5=true)∨
  ((n==1)=false∧(n==2)=false∧(n==3)=false∧(n==4)=false∧(n==5)=true∧W6 n 1 5=true)∨
  ((n==1)=false∧(n==2)=false∧(n==3)=false∧(n==4)=false∧(n==5)=false∧W6 n 1 5=false):=by
 simp only[W6,beq_eq_false_iff_ne,beq_iff_eq,G37,Bool.and_eq_false_iff,G81,decide_eq_false_iff_not,ne_eq]
 omega
def body (e:A0):Bool:=W6 (j8 e) 1 5&&W6 (Bc4 e) 1 5&&Dq4 e&&
 (bif j8 e==2 then W6 (C61 e) 1 5&&W6 (A16 e) 0 3&&emp (j9 e)else(C61 e==0)&&(A16 e==0)&&F77 (j9 e)&&(j8 e==4||j8 e==5||emp (j9 e)))
def J9 (e:A0):Bool:=body e&&W6 e.1 1 1000000&&W6 (Ar8 e) 0 1000000&&Bt8 e
theorem C62 (e:A0) (hs:D1 e≤1048576):Ev (λk=>l6 k e) (body e):=by
 obtain⟨K,hK⟩:=Eb2 (G3 e) (by unfold D1 Q9 at hs;simp only[G3];omega)
 refine⟨K,λk hk=> ?_⟩
 have h1:=hK k hk
 have he:(e.2.2.2.2.2.2.1.toList==(⟨#[]⟩:ByteArray).toList)=emp (j9 e):=rfl
 have hz:decide ((e.2.2.2.2.2.2.1.size:Int)≤24)=F77 (j9 e):=rfl
 simp only[l6,P8,bd_some,he,hz,gt0,h1,body,Dq4,j8,bne]
 rcases Ff6 (j9 e)with⟨g1,g2⟩|g1<;>simp only[g1]
 ·simp only[g2]
  rcases Ff7 e.2.1 with⟨q1,q2,q3,q4,q5,q6⟩|⟨q1,q2,q3,q4,q5,q6⟩|⟨q1,q2,q3,q4,q5,q6⟩|⟨q1,q2,q3,q4,q5,q6⟩|⟨q1,q2,q3,q4,q5,q6⟩|⟨q1,q2,q3,q4,q5,q6⟩<;>simp only[q1,q2,q3,q4,q5,q6]<;>
  (generalize W6 e.2.2.1 1 5=x1;generalize W6 e.2.2.2.1 1 5=x2;generalize W6 e.2.2.2.2.1 0 3=x3;generalize(e.2.2.2.1==0)=x4;generalize(e.2.2.2.2.1==0)=x5;generalize A66 (G3 e)=x6;generalize Ff4 (G3 e)=x7;revert x1 x2 x3 x4 x5 x6 x7;decide)
 ·generalize F77 (j9 e)=x8
  rcases Ff7 e.2.1 with⟨q1,q2,q3,q4,q5,q6⟩|⟨q1,q2,q3,q4,q5,q6⟩|⟨q1,q2,q3,q4,q5,q6⟩|⟨q1,q2,q3,q4,q5,q6⟩|⟨q1,q2,q3,q4,q5,q6⟩|⟨q1,q2,q3,q4,q5,q6⟩<;>simp only[q1,q2,q3,q4,q5,q6]<;>
  (generalize W6 e.2.2.1 1 5=x1;generalize W6 e.2.2.2.1 1 5=x2;generalize W6 e.2.2.2.2.1 0 3=x3;generalize(e.2.2.2.1==0)=x4;generalize(e.2.2.2.2.1==0)=x5;generalize A66 (G3 e)=x6;generalize Ff4 (G3 e)=x7;revert x1 x2 x3 x4 x5 x6 x7 x8;decide)
theorem R0 {e:A0} (h:D1 e≤1048576):(G3 e).length≤1048576∧(j9 e).size≤1048576∧(F8 e).length≤1048576:=by
 unfold D1 Q9 at h
 simp only[G3,j9,F8]
 omega
theorem Bt9 (e:A0) (hs:D1 e≤1048576):Ev (λk=>Y0 k e) (J9 e):=by
 obtain⟨a1,a2,a3⟩:=R0 hs
 obtain⟨K,hK⟩:=C62 e hs
 obtain⟨L,hL⟩:=F76 e a3
 refine⟨max K L,λk hk=> ?_⟩
 have h1:=hK k (by omega)
 have h2:=hL k (by omega)
 have h3:(((F8 e).length:Int)==0)=A66 (F8 e):=rfl
 simp only[Y0,B65,P8,bd_some,h1,h2,h3,Gt6,J9,Bt8]
 generalize body e=x1;generalize W6 e.1 1 1000000=x2;generalize W6 e.2.2.2.2.2.2.2.2.1 0 1000000=x3;generalize decide (((F8 e).length:Int)≤3)=x4
 generalize((j8 e==1)==A66 (F8 e))=x5;generalize S7 (F8 e).length (Ax6 e)=x6
 revert x1 x2 x3 x4 x5 x6;decide
theorem Bf5 (e:A0) (a1:(G3 e).length≤1048576) (a3:(F8 e).length≤1048576):Ev (λk=>Ac3 k e) (J9 e):=by
 obtain⟨K,hK⟩:=El7 e a1
 obtain⟨L,hL⟩:=Ff5 e a3
 refine⟨max K L,λk hk=> ?_⟩
 have h1:=hK k (by omega)
 have h2:=hL k (by omega)
 have he:(e.2.2.2.2.2.2.1.toList==(⟨#[]⟩:ByteArray).toList)=emp (j9 e):=rfl
 have hz:decide ((e.2.2.2.2.2.2.1.size:Int)≤24)=F77 (j9 e):=rfl
 simp only[Ac3,O1,bd_some,h1,h2,he,hz,J9,body,j8]
 generalize W6 e.1 1 1000000=x2;generalize W6 e.2.2.2.2.2.2.2.2.1 0 1000000=x3;generalize W6 e.2.2.1 1 5=x4;generalize Dq4 e=x5;generalize Bt8 e=x6
 generalize W6 e.2.2.2.1 1 5=x7;generalize W6 e.2.2.2.2.1 0 3=x8;generalize(e.2.2.2.1==0)=x9;generalize(e.2.2.2.2.1==0)=x10;generalize emp (j9 e)=x11;generalize F77 (j9 e)=x12
 rcases Ff7 e.2.1 with⟨q1,q2,q3,q4,q5,q6⟩|⟨q1,q2,q3,q4,q5,q6⟩|⟨q1,q2,q3,q4,q5,q6⟩|⟨q1,q2,q3,q4,q5,q6⟩|⟨q1,q2,q3,q4,q5,q6⟩|⟨q1,q2,q3,q4,q5,q6⟩<;>simp only[q1,q2,q3,q4,q5,q6]<;>clear q1 q2 q3 q4 q5 q6<;>
  cases x2<;>cases x3<;>cases x4<;>cases x5<;>cases x6<;>try rfl
 all_goals(revert x7 x8 x9 x10 x11 x12;decide)
theorem Bu0 (e:A0) (hs:D1 e≤1048576):Ev (λk=>Ac3 k e) (J9 e):=Bf5 e (R0 hs).1 (R0 hs).2.2
theorem M2 {a b c:Int}:W6 a b c=true↔b≤a∧a≤c:=by simp[W6]
theorem Eb3 {α:Type} {l:List α}:A66 l=true↔l=[]:=by
 unfold A66
 cases l with
 |nil=>simp
 |cons x l=>simp;omega
theorem F78 {e:A0} (h:Dq4 e=true):(G3 e).length≤5∧(j8 e=3→(G3 e).length=5):=by
 unfold Dq4 at h
 cases hk:(j8 e==3)with
 |true=>
  rw[hk]at h
  simp only[G52,Ff4,G37,beq_iff_eq]at h
  omega
 |false=>
  rw[hk]at h
  simp only[G72]at h
  rw[Eb3.1 h]
  simp only[beq_eq_false_iff_ne]at hk
  exact⟨by simp,λh=>absurd h hk⟩
theorem Eb4 {e:A0} (h:body e=true):(1≤j8 e∧j8 e≤5)∧(1≤Bc4 e∧Bc4 e≤5)∧(G3 e).length≤5∧(j9 e).size≤24∧(0≤C61 e∧C61 e≤5)∧(0≤A16 e∧A16 e≤3):=by
 unfold body at h
 simp only[G37,M2]at h
 obtain⟨⟨⟨h1,h2⟩,h3⟩,h4⟩:=h
 have h5:=(F78 h3).1
 cases hk:(j8 e==2)with
 |true=>
  rw[hk]at h4
  simp only[G52,G37,M2]at h4
  obtain⟨⟨h6,h7⟩,h8⟩:=h4
  rcases Ff6 (j9 e)with⟨_,h9⟩|h9
  ·have:=G62 h9
   exact⟨h1,h2,h5,by omega,by omega,by omega⟩
  ·rw[h8]at h9;cases h9
 |false=>
  rw[hk]at h4
  simp only[G72,G37,beq_iff_eq]at h4
  obtain⟨⟨⟨h6,h7⟩,h8⟩,_⟩:=h4
  have:=G62 h8
  exact⟨h1,h2,h5,by omega,by omega,by omega⟩
theorem Aj4 {e:A0} (h:J9 e=true):body e=true∧(1≤e.1∧e.1≤1000000)∧(0≤Ar8 e∧Ar8 e≤1000000)∧(F8 e).length≤3∧(∀n∈F8 e,1≤n∧n≤1000000)∧(j8 e=1↔F8 e=[]):=by
 unfold J9 at h
 simp only[G37,M2]at h
 obtain⟨⟨⟨h1,h2⟩,h3⟩,h4⟩:=h
 unfold Bt8 at h4
 simp only[G37,P3,G81]at h4
 obtain⟨h5,h6,h7⟩:=h4
 refine⟨h1,h2,h3,by omega,λn hn=> ?_, ?_⟩
 ·obtain⟨i,hi,rfl⟩:=G63 hn
  have:=h5 i hi
  simp only[Ax6,G37,M2,C2 hi]at this
  exact this.1.1
 ·rw[←Eb3]
  cases hk:(j8 e==1)<;>cases hl:A66 (F8 e)<;>rw[hk,hl]at h7<;>simp at hk h7 ⊢ <;>exact hk
def Bf6 (a b:List Int):Bool:=((a.length:Int)==(b.length:Int))&&S7 a.length (λi=>rd 0 a i==rd 0 b i)
theorem Ar9 (a b:List Int) (h:a.length≤1048576):Ev (λk=>N3 k a b) (Bf6 a b):=by
 by_cases hl:a.length=b.length
 ·have hl2:(a.length:Int)=(b.length:Int):=by omega
  have loop:=Ct7 (l:=λk n i=>G2 k n a b (i:Int)) a.length (λi=>rd 0 a i==rd 0 b i) true false (λi hi=> ⟨0,λk _ n=>by
   have e:=B2 hi (by omega)
   have hi2:i<b.length:=by omega
   simp only[G2,O3,hi,hi2,G61,G42,G56,br_true,gd_true,G33,e,bne,Ct6]⟩) ⟨0,λk _ n=>by simp[G2,O3]⟩
  refine loop.congr_val (g:=λk=>N3 k a b) (λk=>by simp only[N3,j1,bne,hl2,beq_self_eq_true,Bool.not_true,br_false];rfl) ?_
  simp only[Bf6,hl2,beq_self_eq_true,Hb6]
  cases S7 a.length (λi=>rd 0 a i==rd 0 b i)<;>rfl
 ·have hl2:((a.length:Int)==(b.length:Int))=false:=by simp;omega
  exact .of λk=>by simp only[N3,j1,bne,hl2,Bool.not_false,br_true,Bf6,Bool.false_and]
theorem B20 (a b:List Int) (h:a.length≤1048576):Ev (λk=>E9 k a b) (Bf6 a b):=by
 refine(Ar9 a b h).congr λk=> ?_
 have:∀k n i,F3 k n a b i=G2 k n a b i:=by
  intro k n
  induction n with
  |zero=>intro i;rfl
  |succ n ih=>intro i;simp only[F3,M7,G2,O3,ih]
 simp only[E9,d7,N3,j1,this]
def Eb5 (a b:ByteArray):Bool:=a.toList==b.toList
def Ax7 (a b:A0):Bool:=(a.1==b.1)&&(j8 a==j8 b)&&(Bc4 a==Bc4 b)&&(C61 a==C61 b)&&(A16 a==A16 b)&&Eb5 (j9 a) (j9 b)&&(Ar8 a==Ar8 b)&&Bf6 (G3 a) (G3 b)&&Bf6 (F8 a) (F8 b)
theorem Gh5 (b x:Bool):br b (some x) (some false)=some (b&&x):=by cases b<;>rfl
theorem C63 (a b:A0) (h:D1 a≤1048576):Ev (λk=>A28 k a b) (Ax7 a b):=by
 obtain⟨a1,a2,a3⟩:=R0 h
 obtain⟨K,hK⟩:=Ar9 (G3 a) (G3 b) a1
 obtain⟨L,hL⟩:=Ar9 (F8 a) (F8 b) a3
 refine⟨max K L,λk hk=> ?_⟩
 have h1:=hK k (by omega)
 have h2:=hL k (by omega)
 have h3:(a.2.2.2.2.2.2.1.toList==b.2.2.2.2.2.2.1.toList)=Eb5 (j9 a) (j9 b):=rfl
 simp only[A28,h1,h2,h3,bd_some,Gh5,Ax7,j8,Bc4,C61,A16,Ar8,Bool.and_assoc]
theorem Eb6 (a b:A0) (h:D1 a≤1048576):Ev (λk=>Bb4 k a b) (Ax7 a b):=by
 obtain⟨a1,a2,a3⟩:=R0 h
 obtain⟨K,hK⟩:=B20 (G3 a) (G3 b) a1
 obtain⟨L,hL⟩:=B20 (F8 a) (F8 b) a3
 refine⟨max K L,λk hk=> ?_⟩
 have h1:=hK k (by omega)
 have h2:=hL k (by omega)
 have h3:(a.2.2.2.2.2.2.1.toList==b.2.2.2.2.2.2.1.toList)=Eb5 (j9 a) (j9 b):=rfl
 simp only[Bb4,h1,h2,h3,bd_some,Gh5,Ax7,j8,Bc4,C61,A16,Ar8]
 congr 1
 generalize Bf6 (G3 a) (G3 b)=x1;generalize Bf6 (F8 a) (F8 b)=x2;generalize Eb5 (j9 a) (j9 b)=x3;generalize(a.2.2.2.2.2.2.2.2.1==b.2.2.2.2.2.2.2.2.1)=x4
 cases(a.1==b.1)<;>cases(a.2.1==b.2.1)<;>cases(a.2.2.1==b.2.2.1)<;>cases(a.2.2.2.1==b.2.2.2.1)<;>cases(a.2.2.2.2.1==b.2.2.2.2.1)<;>cases x1<;>cases x2<;>cases x3<;>cases x4<;>rfl
abbrev Cl5:A0:=(0,0,0,0,0,[],ByteArray.empty,[],0,())
def Bu1 (e:A0):Bool:=(e.1==0)&&(Ar8 e==0)&&A66 (F8 e)&&body e
theorem Ff8 (e:A0) (h:D1 e≤1048576):Ev (λk=>C45 k e) (Bu1 e):=by
 obtain⟨a1,a2,a3⟩:=R0 h
 obtain⟨K,hK⟩:=Bf5 (2,e.2.1,e.2.2.1,e.2.2.2.1,e.2.2.2.2.1,e.2.2.2.2.2.1,e.2.2.2.2.2.2.1,[1],e.2.2.2.2.2.2.2.2) a1 (by simp[F8])
 obtain⟨L,hL⟩:=Bf5 (2,e.2) a1 a3
 refine⟨max K L,λk hk=> ?_⟩
 have h1:=hK k (by omega)
 have h2:=hL k (by omega)
 have hg:decide ((e.2.2.2.2.2.2.2.1.length:Int)>0)= !A66 (F8 e):=gt0 _
 simp only[C45,bne,h1,h2,bd_some,hg,Bu1,Ct6]
 cases h3:(e.1==0)with
 |false=>rfl
 |true=>
  have h4:(Ar8 e==0)=(e.2.2.2.2.2.2.2.2.1==0):=rfl
  cases h5:(e.2.2.2.2.2.2.2.2.1==0)with
  |false=>rfl
  |true=>
   cases h6:A66 (F8 e)with
   |false=>rfl
   |true=>
    have hd:e.2.2.2.2.2.2.2.2.1=0:=by simpa using h5
    have hp:e.2.2.2.2.2.2.2.1=[]:=Eb3.1 h6
    simp only[br_true,Hb6,J9]
    have b1:body (2,e.2.1,e.2.2.1,e.2.2.2.1,e.2.2.2.2.1,e.2.2.2.2.2.1,e.2.2.2.2.2.2.1,[1],e.2.2.2.2.2.2.2.2)=body e:=rfl
    have b2:body (2,e.2)=body e:=rfl
    have i1:W6 2 1 1000000=true:=by decide
    have i2:W6 (Ar8 (2,e.2.1,e.2.2.1,e.2.2.2.1,e.2.2.2.2.1,e.2.2.2.2.2.1,e.2.2.2.2.2.2.1,[1],e.2.2.2.2.2.2.2.2)) 0 1000000=true:=by simp[Ar8,hd,W6]
    rw[b1,b2,i1,i2]
    cases hk:(e.2.1==1)with
    |true=>
     have p2:Bt8 (2,e.2)=true:=by simp[Bt8,F8,hp,j8,hk,S7,A66]
     rw[p2];simp
    |false=>
     have p1:Bt8 (2,e.2.1,e.2.2.1,e.2.2.2.1,e.2.2.2.2.1,e.2.2.2.2.2.1,e.2.2.2.2.2.2.1,[1],e.2.2.2.2.2.2.2.2)=true:=by
      have e0:S7 1 (Ax6 (2,e.2.1,e.2.2.1,e.2.2.2.1,e.2.2.2.2.1,e.2.2.2.2.2.1,e.2.2.2.2.2.2.1,[1],e.2.2.2.2.2.2.2.2))=true:=by
       rw[P3]
       intro i hi
       have:i=0:=by omega
       subst this
       rfl
      show(S7 1 (Ax6 _)&&(decide ((1:Int)≤3)&&((e.2.1==1)==A66 [(1:Int)])))=true
      rw[e0,hk];rfl
     rw[p1];simp
def odd (n:Int):Bool:=Int.tmod n 2==1
def I2 (x:B7):Bool:=W6 x.2.1 0 1000000&&W6 x.2.2.1 0 1000000&&
 (bif x.1==1 then Ax7 x.2.2.2.1 Cl5&&(x.2.2.2.2.1==0)&&(x.2.2.2.2.2.1==0)&&(x.2.1==0)&&(x.2.2.1==0)
 else bif x.1==2 then(x.2.2.2.2.1==0)&&(x.2.2.2.2.2.1==0)&&Bu1 x.2.2.2.1
 else bif x.1==3 then(x.2.2.2.2.1==0)&&(x.2.2.2.2.2.1==0)&&J9 x.2.2.2.1&&odd x.2.2.2.1.1
 else bif x.1==4 then Ax7 x.2.2.2.1 Cl5&&W6 x.2.2.2.2.1 1 2&&W6 x.2.2.2.2.2.1 0 1000000
 else bif x.1==5 then Ax7 x.2.2.2.1 Cl5&&(x.2.2.2.2.1==0)&&(x.2.2.2.2.2.1==0)else false)
theorem Eb7 (x:B7) (h:J7 x≤1048576):Ev (λk=>Ba1 k x) (I2 x):=by
 have hm:D1 x.2.2.2.1≤1048576:=by unfold J7 at h;omega
 obtain⟨K1,h1⟩:=C63 x.2.2.2.1 Cl5 hm
 obtain⟨K2,h2⟩:=C62 x.2.2.2.1 hm
 obtain⟨K3,h3⟩:=Bt9 x.2.2.2.1 hm
 refine⟨max K1 (max K2 K3),λk hk=> ?_⟩
 have g1:Bq1 k x.2.2.2.1=some (Ax7 x.2.2.2.1 Cl5):=by
  have g0:=h1 k (by omega)
  simp only[Cl5]at g0
  simp only[Bq1,g0,bd_some]
 have g2:=h2 k (by omega)
 have g3:=h3 k (by omega)
 have g4:((x.2.2.2.1.2.2.2.2.2.2.2.1.length:Int)==0)=A66 (F8 x.2.2.2.1):=rfl
 have g5:(Int.tmod x.2.2.2.1.1 2==1)=odd x.2.2.2.1.1:=rfl
 simp only[Ba1,P8,bd_some,g1,g2,g3,g4,g5,I2,Bu1,bne,Gn2,ng_false,Ar8]
 generalize W6 x.2.1 0 1000000=y1;generalize W6 x.2.2.1 0 1000000=y2
 generalize Ax7 x.2.2.2.1 Cl5=y3;generalize(x.2.2.2.2.1==0)=y4;generalize(x.2.2.2.2.2.1==0)=y5;generalize(x.2.1==0)=y6;generalize(x.2.2.1==0)=y7
 generalize body x.2.2.2.1=y8;generalize(x.2.2.2.1.1==0)=y9;generalize(x.2.2.2.1.2.2.2.2.2.2.2.2.1==0)=y10;generalize A66 (F8 x.2.2.2.1)=y11
 generalize J9 x.2.2.2.1=y12;generalize odd x.2.2.2.1.1=y13;generalize W6 x.2.2.2.2.1 1 2=y14;generalize W6 x.2.2.2.2.2.1 0 1000000=y15
 rcases Ff7 x.1 with⟨q1,q2,q3,q4,q5,q6⟩|⟨q1,q2,q3,q4,q5,q6⟩|⟨q1,q2,q3,q4,q5,q6⟩|⟨q1,q2,q3,q4,q5,q6⟩|⟨q1,q2,q3,q4,q5,q6⟩|⟨q1,q2,q3,q4,q5,q6⟩<;>simp only[q1,q2,q3,q4,q5,q6]<;>clear q1 q2 q3 q4 q5 q6<;>cases y1<;>cases y2<;>try rfl
 ·cases y3<;>cases y4<;>cases y5<;>cases y6<;>cases y7<;>rfl
 ·cases y4<;>cases y5<;>cases y8<;>cases y9<;>cases y10<;>cases y11<;>rfl
 ·cases y4<;>cases y5<;>cases y12<;>cases y13<;>rfl
 ·cases y3<;>cases y14<;>cases y15<;>rfl
 ·cases y3<;>cases y4<;>cases y5<;>rfl
theorem Eb8 (x:B7) (h:J7 x≤1048576):Ev (λk=>Bb5 k x) (I2 x):=by
 have hm:D1 x.2.2.2.1≤1048576:=by unfold J7 at h;omega
 obtain⟨K1,h1⟩:=Eb6 x.2.2.2.1 Cl5 hm
 obtain⟨K2,h2⟩:=Ff8 x.2.2.2.1 hm
 obtain⟨K3,h3⟩:=Bu0 x.2.2.2.1 hm
 refine⟨max K1 (max K2 K3),λk hk=> ?_⟩
 have g1:=h1 k (by omega)
 have g2:=h2 k (by omega)
 have g3:=h3 k (by omega)
 have g5:(Int.tmod x.2.2.2.1.1 2==1)=odd x.2.2.2.1.1:=rfl
 simp only[Cl5]at g1
 simp only[Bb5,O1,bd_some,g1,g2,g3,g5,I2,Cl5,bne,Gn2,ng_false]
 generalize W6 x.2.1 0 1000000=y1;generalize W6 x.2.2.1 0 1000000=y2
 generalize Ax7 x.2.2.2.1 _=y3;generalize(x.2.2.2.2.1==0)=y4;generalize(x.2.2.2.2.2.1==0)=y5;generalize(x.2.1==0)=y6;generalize(x.2.2.1==0)=y7
 generalize Bu1 x.2.2.2.1=y8
 generalize J9 x.2.2.2.1=y12;generalize odd x.2.2.2.1.1=y13;generalize W6 x.2.2.2.2.1 1 2=y14;generalize W6 x.2.2.2.2.2.1 0 1000000=y15
 rcases Ff7 x.1 with⟨q1,q2,q3,q4,q5,q6⟩|⟨q1,q2,q3,q4,q5,q6⟩|⟨q1,q2,q3,q4,q5,q6⟩|⟨q1,q2,q3,q4,q5,q6⟩|⟨q1,q2,q3,q4,q5,q6⟩|⟨q1,q2,q3,q4,q5,q6⟩<;>simp only[q1,q2,q3,q4,q5]<;>clear q1 q2 q3 q4 q5 q6<;>cases y1<;>cases y2<;>cases y4<;>try rfl
 all_goals first
  |(cases y3<;>cases y5<;>cases y6<;>cases y7<;>rfl)
  |(cases y5<;>cases y8<;>rfl)
  |(cases y5<;>cases y12<;>cases y13<;>rfl)
  |(cases y3<;>cases y14<;>cases y15<;>rfl)
theorem Gp6 (s:ByteArray):s++(⟨#[]⟩:ByteArray)=s:=by apply Dh6;simp
end Go.Vm
end
section
namespace Go.Vm
open Go
theorem Re.b1 {α R:Type} {g:Nat→Option α} {F:Nat→α→Option R} {P:α→Prop} {Q:R→Prop} (h:Re g P) (h2:∀a,P a→Re (λk=>F k a) Q):Re (λk=>Vm.bd (g k) (F k)) Q:=Re.bd B9 h h2
theorem Re.b2 {α R:Type} {g:Nat→Option α} {F:Nat×Nat→α→Option R} {P:α→Prop} {Q:R→Prop} (h:Re g P) (h2:∀a,P a→Re (λx=>F x a) Q):Re (λx:Nat×Nat=>Vm.bd (g x.1) (F x)) Q:=Re.bd (k9 B9) h h2
theorem Re.c1 {α R:Type} {g:Nat→Option α} {F:Nat→α→Option R} {v:α} {Q:R→Prop} (h:Ev g v) (h2:Re (λk=>F k v) Q):Re (λk=>Vm.bd (g k) (F k)) Q:=Re.b1 (P:=λa=>a=v) (Ev.re h rfl) λa ha=>by subst ha;exact h2
theorem Re.s1 {α R:Type} {g:Nat→Option α} {F:Nat→α→Option R} {v:α} {Q:R→Prop} (h:∀k,g k=some v) (h2:Re (λk=>F k v) Q):Re (λk=>Vm.bd (g k) (F k)) Q:=Re.c1 (Ev.of h) h2
theorem R9 {a b:Int} (h:a≠b):(a==b)=false:=by simpa using h
theorem Re.s2 {α R:Type} {g:Nat→Option α} {F:Nat×Nat→α→Option R} {v:α} {Q:R→Prop} (h:∀k,g k=some v) (h2:Re (λx=>F x v) Q):Re (λx:Nat×Nat=>Vm.bd (g x.1) (F x)) Q:=Re.b2 (P:=λa=>a=v) (Ev.re (Ev.of h) rfl) λa ha=>by subst ha;exact h2
theorem Re.c2 {α R:Type} {g:Nat→Option α} {F:Nat×Nat→α→Option R} {v:α} {Q:R→Prop} (h:Ev g v) (h2:Re (λx=>F x v) Q):Re (λx:Nat×Nat=>Vm.bd (g x.1) (F x)) Q:=Re.b2 (P:=λa=>a=v) (Ev.re h rfl) λa ha=>by subst ha;exact h2
theorem Re.gdd {ι R:Type} [Fuel ι] {p:Prop} [Decidable p] {f:ι→Option R} {Q:R→Prop} (hp:p) (h:Re f Q):Re (λx=>Vm.gd (decide p) (f x)) Q:=Re.gd (G54 hp) h
theorem Re.brd {ι R:Type} [Fuel ι] {p:Prop} [Decidable p] {f g:ι→Option R} {Q:R→Prop} (h1:p→Re f Q) (h2:¬p→Re g Q):Re (λx=>Vm.br (decide p) (f x) (g x)) Q:=Re.br (λh=>h1 (G62 h)) (λh=>h2 (of_decide_eq_false h))
theorem Re.bre {ι R:Type} [Fuel ι] {a b:Int} {f g:ι→Option R} {Q:R→Prop} (h1:a=b→Re f Q) (h2:a≠b→Re g Q):Re (λx=>Vm.br (a==b) (f x) (g x)) Q:=Re.br (λh=>h1 (by simpa using h)) (λh=>h2 (by simpa using h))
theorem Re.brn {ι R:Type} [Fuel ι] {a b:Int} {f g:ι→Option R} {Q:R→Prop} (h1:a≠b→Re f Q) (h2:a=b→Re g Q):Re (λx=>Vm.br (a !=b) (f x) (g x)) Q:=Re.br (λh=>h1 (by simpa using h)) (λh=>h2 (by simpa using h))
theorem Re.wf {σ R:Type} {l:Nat→Nat→σ→Option R} {I:σ→Prop} (μ:σ→Nat×Nat) {Q:σ→R→Prop}
  (step:∀s,I s→(∀s',I s'→((μ s').1< (μ s).1∨((μ s').1=(μ s).1∧(μ s').2< (μ s).2))→Re (λx:Nat×Nat=>l x.1 x.2 s') (Q s'))→Re (λx:Nat×Nat=>l x.1 (x.2+1) s) (Q s)):∀s,I s→Re (λx:Nat×Nat=>l x.1 x.2 s) (Q s):=by
 have:∀a b s,(μ s).1=a→(μ s).2=b→I s→Re (λx:Nat×Nat=>l x.1 x.2 s) (Q s):=by
  intro a
  induction a using Nat.strongRecOn with
  |_ a iha=>
   intro b
   induction b using Nat.strongRecOn with
   |_ b ihb=>
    intro s h1 h2 hI
    obtain⟨v,hv,K,hK⟩:=step s hI λs' g1 g2=>by
     rcases g2 with g2|⟨g2,g3⟩
     ·exact iha (μ s').1 (by omega) (μ s').2 s' rfl rfl g1
     ·exact ihb (μ s').2 (by omega) s' (by omega) rfl g1
    refine⟨v,hv,K+1,λx hx=> ?_⟩
    obtain⟨y,n⟩:=x
    obtain⟨m,rfl⟩:∃m,n=m+1:=⟨n-1,by have:=hx.2;simp only at this;omega⟩
    exact hK (y,m) ⟨Fuel.mono (Nat.le_succ K) hx.1,by have:=hx.2;simp only at this ⊢;omega⟩
 exactλs hI=>this _ _ s rfl rfl hI
end Go.Vm
end
section
namespace Go.Vm
open Go
def C5 (es:List A0) (id:Int):A0×Bool:=((es.find? λe=>e.1==id).map λe=> (e,true)).getD (Cl5,false)
def q9 (s:List A1) (key:Int):Int:=((s.find? λx=>x.1==key).map λx=>x.2.1).getD 0
theorem Y9 (es:List A0) (h:es.length≤1048576) (id:Int):Ev (λk=>O0 k es id) (C5 es id):=by
 have:=D18 (l:=λk n i=>Ab0 k n es id (i:Int)) es (λe=>e.1==id) (λe=> (e,true)) (Cl5,false) (λi hi=> ⟨0,λk _ n=>by
  simp only[Ab0,Az5,G61,hi,G42,G56,br_true,gd_true,G33,C2,B2 hi (by omega)]⟩) ⟨0,λk _ n=>by
  simp only[Ab0,Az5,G77,G76,br_false]⟩
 exact this
theorem A17 (s:List A1) (h:s.length≤1048576) (key:Int):Ev (λk=>C23 k s key) (q9 s key):=by
 have:=D18 (l:=λk n i=>Ci7 k n s key (i:Int)) s (λx=>x.1==key) (λx=>x.2.1) 0 (λi hi=> ⟨0,λk _ n=>by
  simp only[Ci7,D19,G61,hi,G42,G56,br_true,gd_true,G33,C2,B2 hi (by omega)]⟩) ⟨0,λk _ n=>by
  simp only[Ci7,D19,G77,G76,br_false]⟩
 exact this
def E27 (es:List A0) (s:List A1):Prop:=es.length≤1048576∧s.length≤1048576
def C64 (es:List A0) (s:List A1) (u:Int):Int:=bif (C5 es (q9 s 1)).2&&((C5 es (q9 s 1)).1.2.1==1&&(C5 es (q9 s 1)).1.2.2.1==u)then 100 else 0
def I0 (es:List A0) (s:List A1) (u:Int):Int:=bif W6 u 1 5 then(bif (C5 es (q9 s 2)).2&&((C5 es (q9 s 2)).1.2.1==3&&(((C5 es (q9 s 2)).1.2.2.2.2.2.1.length:Int)==5))then rd 0 (C5 es (q9 s 2)).1.2.2.2.2.2.1 (u-1).toNat else C64 es s u)else 0
theorem e8 (es:List A0) (s:List A1) (h:E27 es s) (u:Int):Ev (λk=>l7 k es s u) (I0 es s u):=by
 obtain⟨h1,h2⟩:=h
 refine Re.eq (Re.s1 (P8 · _ _ _) ?_)
 unfold I0
 cases hu:W6 u 1 5 with
 |false=>exact Re.ret rfl
 |true=>
  have hr:=M2.1 hu
  have tail:Re (λk=>bd (C23 k s 1) λr4=> (bd (O0 k es r4) λr5=> (br r5.2 (br (r5.1.2.1==1) (br (r5.1.2.2.1==u) (some 100) (some 0)) (some 0)) (some (0:Int))))) (λv=>v=C64 es s u):=by
   refine Re.c1 (A17 s h2 1) (Re.c1 (Y9 es h1 _) ?_)
   unfold C64
   cases(C5 es (q9 s 1)).2 with
   |false=>exact Re.ret rfl
   |true=>
    cases((C5 es (q9 s 1)).1.2.1==1)with
    |false=>exact Re.ret rfl
    |true=>cases((C5 es (q9 s 1)).1.2.2.1==u)<;>exact Re.ret rfl
  refine Re.br (b:=false) (λh=>by cases h) (λ_=>Re.c1 (A17 s h2 2) (Re.c1 (Y9 es h1 _) ?_))
  simp only[G52]
  cases hf:(C5 es (q9 s 2)).2 with
  |false=>exact tail
  |true=>
   cases hk:((C5 es (q9 s 2)).1.2.1==3)with
   |false=>exact tail
   |true=>
    cases hl:(((C5 es (q9 s 2)).1.2.2.2.2.2.1.length:Int)==5)with
    |false=>exact tail
    |true=>
     have hl5:((C5 es (q9 s 2)).1.2.2.2.2.2.1.length:Int)=5:=by simpa using hl
     have e1:B5 (u-1)=u-1:=D7 (by omega) (by omega)
     simp only[e1,br_true,Bool.and_self,G52]
     exact Re.gdd (by omega) (Re.gdd (by omega) (Re.ret rfl))
def D9 (es:List A0) (s:List A1) (u:Int):Int:=bif W6 u 1 5&&((C5 es (q9 s (10+u))).2&&((C5 es (q9 s (10+u))).1.2.1==2&&(C5 es (q9 s (10+u))).1.2.2.2.1==u))then(C5 es (q9 s (10+u))).1.2.2.2.2.1 else 0
theorem S3 (es:List A0) (s:List A1) (h:E27 es s) (u:Int):Ev (λk=>W9 k es s u) (D9 es s u):=by
 obtain⟨h1,h2⟩:=h
 refine Re.eq (Re.s1 (P8 · _ _ _) ?_)
 unfold D9
 cases hu:W6 u 1 5 with
 |false=>exact Re.ret rfl
 |true=>
  have hr:=M2.1 hu
  have e1:B5 (10+u)=10+u:=D7 (by omega) (by omega)
  rw[e1]
  refine Re.br (b:=false) (λh=>by cases h) (λ_=>Re.c1 (A17 s h2 _) (Re.c1 (Y9 es h1 _) ?_))
  cases hf:(C5 es (q9 s (10+u))).2 with
  |false=>exact Re.ret rfl
  |true=>
   refine Re.br (b:=false) (λh=>by cases h) (λ_=> ?_)
   refine Re.brn (λq=>Re.ret (by rw[R9 q];rfl)) (λq=> ?_)
   rw[show((C5 es (q9 s (10+u))).1.2.1==2)=true by simp[q]]
   refine Re.brn (λq2=>Re.ret (by rw[R9 q2];rfl)) (λq2=> ?_)
   rw[show((C5 es (q9 s (10+u))).1.2.2.2.1==u)=true by simp[q2]]
   exact Re.ret rfl
def A67 (s:List A1):Bool:=S7 s.length λi=> !decide ((rd C0 s i).1>10)
theorem El8 (s:List A1) (h:s.length≤1048576):Ev (λk=>Cu3 k s) (A67 s):=by
 have:=Ct7 (l:=λk n i=>l8 k n s (i:Int)) s.length (λi=> !decide ((rd C0 s i).1>10)) true false (λi hi=> ⟨0,λk _ n=>by
  simp only[l8,At8,G61,hi,G42,G56,br_true,gd_true,G33,B2 hi (by omega),Ct6]⟩) ⟨0,λk _ n=>by
  simp only[l8,At8,G77,G76,br_false]⟩
 exact this.congr_val (λk=>rfl) (by unfold A67;cases S7 s.length _<;>rfl)
def E28 (es:List A0) (s:List A1) (e:A0):Bool:=
 bif e.2.2.2.2.1==2 then D9 es s e.2.2.2.1==1||(D9 es s e.2.2.2.1==2||((C5 es (q9 s 1)).2&&((C5 es (q9 s 1)).1.2.2.1==e.2.2.1&&A67 s)))
 else bif e.2.2.2.2.1==0 then D9 es s e.2.2.2.1==1||D9 es s e.2.2.2.1==2 else false
theorem E29 (es:List A0) (s:List A1) (h:E27 es s) (e:A0):Ev (λk=>Dh8 k es s e) (E28 es s e):=by
 refine Re.eq (Re.c1 (S3 es s h _) ?_)
 unfold E28
 cases e.2.2.2.2.1==2 with
 |true=>
  refine Re.c1 (A17 s h.2 1) (Re.c1 (Y9 es h.1 _) ?_)
  cases(C5 es (q9 s 1)).2 with
  |true=>
   cases(C5 es (q9 s 1)).1.2.2.1==e.2.2.1 with
   |true=>
    refine Re.c1 (El8 s h.2) ?_
    cases D9 es s e.2.2.2.1==1<;>cases D9 es s e.2.2.2.1==2<;>exact Re.ret rfl
   |false=>cases D9 es s e.2.2.2.1==1<;>cases D9 es s e.2.2.2.1==2<;>exact Re.ret rfl
  |false=>cases D9 es s e.2.2.2.1==1<;>cases D9 es s e.2.2.2.1==2<;>exact Re.ret rfl
 |false=>
  cases e.2.2.2.2.1==0 with
  |true=>cases D9 es s e.2.2.2.1==1<;>exact Re.ret rfl
  |false=>exact Re.ret rfl
def E30 (es:List A0) (s:List A1) (e:A0):Bool:=
 D9 es s e.2.2.1==2&&(bif e.2.2.2.2.1==1 then D9 es s e.2.2.2.1==0
  else bif e.2.2.2.2.1==0 then(D9 es s e.2.2.2.1==1||D9 es s e.2.2.2.1==2)&&(decide (I0 es s e.2.2.1≥50)&&decide (I0 es s e.2.2.1>I0 es s e.2.2.2.1))
  else bif e.2.2.2.2.1==3 then(D9 es s e.2.2.2.1 !=3)&&(decide (I0 es s e.2.2.1≥50)&&decide (I0 es s e.2.2.1>I0 es s e.2.2.2.1))else false)
def B89 (es:List A0) (s:List A1) (e:A0):Bool:=bif e.2.2.2.1==e.2.2.1 then E28 es s e else E30 es s e
theorem Eb9 (es:List A0) (s:List A1) (h:E27 es s) (e:A0):Ev (λk=>A97 k es s e) (B89 es s e):=by
 refine Re.eq ?_
 simp only[A97]
 unfold B89
 cases e.2.2.2.1==e.2.2.1 with
 |true=>exact Re.c1 (E29 es s h e) (Re.ret rfl)
 |false=>
  unfold E30
  refine Re.c1 (S3 es s h _) (Re.c1 (e8 es s h _) ?_)
  cases decide (I0 es s e.2.2.1≥50)with
  |true=>
   refine Re.c1 (e8 es s h _) (Re.c1 (S3 es s h _) ?_)
   refine Re.brn (λq=>Re.ret (by rw[R9 q];rfl)) (λq=> ?_)
   rw[show(D9 es s e.2.2.1==2)=true by simp[q]]
   cases e.2.2.2.2.1==1 with
   |true=>exact Re.ret rfl
   |false=>
    cases e.2.2.2.2.1==0 with
    |true=>cases D9 es s e.2.2.2.1==1<;>cases D9 es s e.2.2.2.1==2<;>exact Re.ret rfl
    |false=>
     cases e.2.2.2.2.1==3 with
     |true=>cases D9 es s e.2.2.2.1 !=3<;>exact Re.ret rfl
     |false=>exact Re.ret rfl
  |false=>
   refine Re.c1 (S3 es s h _) ?_
   refine Re.brn (λq=>Re.ret (by rw[R9 q];rfl)) (λq=> ?_)
   rw[show(D9 es s e.2.2.1==2)=true by simp[q]]
   cases e.2.2.2.2.1==1 with
   |true=>exact Re.ret rfl
   |false=>
    cases e.2.2.2.2.1==0 with
    |true=>cases D9 es s e.2.2.2.1==1<;>cases D9 es s e.2.2.2.1==2<;>exact Re.ret rfl
    |false=>
     cases e.2.2.2.2.1==3 with
     |true=>cases D9 es s e.2.2.2.1 !=3<;>exact Re.ret rfl
     |false=>exact Re.ret rfl
def N0 (es:List A0) (s:List A1) (e:A0) (i:Nat):Bool:=
 rd 0 e.2.2.2.2.2.1 i==I0 es s ((i+1:Nat):Int)||(!decide (rd 0 e.2.2.2.2.2.1 i>I0 es s e.2.2.1)&&(!decide (I0 es s ((i+1:Nat):Int)≥I0 es s e.2.2.1)||((i+1:Nat):Int)==e.2.2.1))
def C65 (es:List A0) (s:List A1) (e:A0):Bool:=D9 es s e.2.2.1==2&&(!decide (I0 es s e.2.2.1<50)&&S7 5 (N0 es s e))
theorem El9 (es:List A0) (s:List A1) (h:E27 es s) (e:A0) (hl:e.2.2.2.2.2.1.length=5):Ev (λk=>Cu4 k es s e) (C65 es s e):=by
 refine Re.eq (Re.c1 (e8 es s h _) (Re.c1 (S3 es s h _) ?_))
 unfold C65
 refine Re.brn (λq=>Re.ret (by rw[R9 q];rfl)) (λq=> ?_)
 rw[show(D9 es s e.2.2.1==2)=true by simp[q]]
 refine Re.brd (λq=>Re.ret (by rw[G54 q];rfl)) (λq=> ?_)
 rw[G55 q]
 have hev:∀u:Int,Ev (λk=>l7 k es s u) (I0 es s u):=λu=>e8 es s h u
 refine Re.enter (f:=λk n=>X0 k n es s (I0 es s e.2.2.1) 1 e) B9 ?_
 have:=Re.loop (ι:=Nat) (l:=λk n (i:Nat)=>X0 k n es s (I0 es s e.2.2.1) ((i+1:Nat):Int) e) (I:=λi=>i≤5∧∀j,j<i→N0 es s e j=true) (λi=>5-i) (Q:=λ_ v=>v=(true&&(!false&&S7 5 (N0 es s e)))) (λi hi ih=>by
  simp only[X0,Be6]
  refine Re.brd (λq=> ?_) (λq=>Re.ret ?_)
  ·have hi5:i<5:=by omega
   refine Re.c2 (hev _) ?_
   have e1:B5 (((i+1:Nat):Int)-1)=(i:Int):=by rw[D7 (by omega) (by omega)];omega
   have e2:B5 (((i+1:Nat):Int)+1)=((i+1+1:Nat):Int):=by rw[D7 (by omega) (by omega)];omega
   rw[e1,e2,G33]
   refine Re.gdd (by omega) (Re.gdd (by omega) ?_)
   have next:N0 es s e i=true→Re (λx:Nat×Nat=>X0 x.1 x.2 es s (I0 es s e.2.2.1) ((i+1+1:Nat):Int) e) (λv=>v=(true&&(!false&&S7 5 (N0 es s e)))):=λg=>ih (i+1) ⟨by omega,λj hj=>by
    by_cases hj2:j<i
    ·exact hi.2 j hj2
    ·have:j=i:=by omega
     subst this;exact g⟩ (by omega)
   have no:N0 es s e i=false→false=(true&&(!false&&S7 5 (N0 es s e))):=λg=>by
    have:S7 5 (N0 es s e)=false:=by
     cases ha:S7 5 (N0 es s e)with
     |false=>rfl
     |true=>rw[P3]at ha;rw[ha i hi5]at g;cases g
    rw[this];rfl
   have hp:N0 es s e i=(rd 0 e.2.2.2.2.2.1 i==I0 es s ((i+1:Nat):Int)||(!decide (rd 0 e.2.2.2.2.2.1 i>I0 es s e.2.2.1)&&(!decide (I0 es s ((i+1:Nat):Int)≥I0 es s e.2.2.1)||((i+1:Nat):Int)==e.2.2.1))):=rfl
   refine Re.br (λg=>next (by rw[hp,g];rfl)) (λg=> ?_)
   rw[g,Bool.false_or]at hp
   refine Re.br (λg=>Re.ret (no (by rw[hp,g];rfl))) (λg=> ?_)
   rw[g,Bool.not_false,Hb6]at hp
   refine Re.br (λg=> ?_) (λg=>next (by rw[hp,g];rfl))
   rw[g,Bool.not_true,Bool.false_or]at hp
   exact Re.brn (λg=>Re.ret (no (by rw[hp,R9 g]))) (λg=>next (by rw[hp];simp[g]))
  ·have:S7 5 (N0 es s e)=true:=P3.2 λj hj=>hi.2 j (by omega)
   rw[this];rfl) 0 ⟨by omega,λj hj=>by omega⟩
 exact this
def p9 (es:List A0) (s:List A1) (e:A0):Bool:=
 J9 e&&(bif e.2.1==1 then(s.length:Int)==0 else(C5 es (q9 s 1)).2&&((C5 es (q9 s 1)).1.2.1==1&&(bif e.2.1==2 then B89 es s e else bif e.2.1==3 then C65 es s e
  else bif e.2.1==4 then D9 es s e.2.2.1==2&&decide (I0 es s e.2.2.1≥50)else D9 es s e.2.2.1==2)))
theorem Dq5 {e:A0} (h:J9 e=true) (h3:e.2.1=3):e.2.2.2.2.2.1.length=5:=by
 have hb:=(Aj4 h).1
 unfold body at hb
 simp only[G37]at hb
 have:=hb.1.2
 unfold Dq4 Ff4 at this
 rw[show(j8 e==3)=true by show(e.2.1==3)=true;rw[h3];rfl]at this
 simp only[G52,G37,beq_iff_eq]at this
 have h5:(((G3 e).length:Nat):Int)=5:=by first|exact this.1|exact this.2
 show(G3 e).length=5
 omega
theorem C66 (es:List A0) (s:List A1) (h:E27 es s) (e:A0) (hm:D1 e≤1048576):Ev (λk=>Ci8 k es s e) (p9 es s e):=by
 refine Re.eq (Re.c1 (Bt9 e hm) ?_)
 unfold p9
 cases ho:J9 e with
 |false=>exact Re.ret rfl
 |true=>
  refine Re.br (b:=false) (λh=>by cases h) (λ_=> ?_)
  refine Re.br (λq=>Re.ret (by rw[q];rfl)) (λq=> ?_)
  rw[q]
  refine Re.c1 (A17 s h.2 1) (Re.c1 (Y9 es h.1 _) ?_)
  cases(C5 es (q9 s 1)).2 with
  |false=>exact Re.ret rfl
  |true=>
   refine Re.br (b:=false) (λh=>by cases h) (λ_=> ?_)
   refine Re.brn (λg=>Re.ret (by rw[R9 g];rfl)) (λg=> ?_)
   rw[show((C5 es (q9 s 1)).1.2.1==1)=true by simp[g]]
   refine Re.br (λg=> ?_) (λg=> ?_)
   ·rw[g];exact Re.c1 (Eb9 es s h e) (Re.ret rfl)
   rw[g]
   refine Re.bre (λg=> ?_) (λg=> ?_)
   ·have h5:=Dq5 ho g
    rw[g];exact Re.c1 (El9 es s h e h5) (Re.ret rfl)
   rw[R9 g]
   refine Re.br (λg=> ?_) (λg=> ?_)
   ·rw[g]
    refine Re.c1 (S3 es s h _) ?_
    cases D9 es s e.2.2.1==2 with
    |true=>exact Re.c1 (e8 es s h _) (Re.ret rfl)
    |false=>exact Re.ret rfl
   ·rw[g]
    exact Re.c1 (S3 es s h _) (Re.ret rfl)
def A68 (e:A0):Int:=bif e.2.1==1 then 1 else bif e.2.1==3 then 2 else bif e.2.1==4 then 3 else bif e.2.1==2&&W6 e.2.2.2.1 1 5 then 10+e.2.2.2.1 else 0
theorem Bu2 (e:A0) (k:Nat):Bp2 k e=some (A68 e):=by
 unfold Bp2 A68
 cases e.2.1==1 with
 |true=>rfl
 |false=>
  cases e.2.1==3 with
  |true=>rfl
  |false=>
   cases e.2.1==4 with
   |true=>rfl
   |false=>
    cases e.2.1==2 with
    |false=>rfl
    |true=>
     simp only[br_true,br_false,P8,bd_some]
     cases hu:W6 e.2.2.2.1 1 5 with
     |false=>rfl
     |true=>
      have:=M2.1 hu
      rw[br_true,D7 (by omega) (by omega)]
      rfl
end Go.Vm
end
section
namespace Go.Vm
open Go
theorem As0 (xs:List Int) (hx:xs.length≤1048576) (y:Int):Ev (λk=>A98 k xs y) (decide (y∈xs)):=by
 refine Re.eq (Re.enter (f:=λk n=>Ap9 k n xs y 0) B9 ?_)
 have:=Re.loop (ι:=Nat) (l:=λk n (i:Nat)=>Ap9 k n xs y (i:Int)) (I:=λi=>i≤xs.length∧∀j,j<i→rd 0 xs j≠y) (λi=>xs.length-i) (Q:=λ_ r=>r=decide (y∈xs)) (λi hi ih=>by
  simp only[Ap9,Cu6]
  refine Re.brd (λh=> ?_) (λh=> ?_)
  ·have hl:i<xs.length:=by omega
   refine Re.gdd (by omega) (Re.gdd h ?_)
   rw[G33]
   refine Re.bre (λe=>Re.ret ?_) (λe=> ?_)
   ·exact(G54 (by rw[←e,C2 hl];exact G47 _)).symm
   ·rw[B2 hl (by omega)]
    refine ih (i+1) ⟨by omega,λj hj=> ?_⟩ (by omega)
    by_cases q:j<i
    ·exact hi.2 j q
    ·have:j=i:=by omega
     subst this;exact e
  ·refine Re.ret (G55 λhm=> ?_).symm
   obtain⟨j,hj,e⟩:=G63 hm
   exact absurd (by rw[C2 hj];exact e) (hi.2 j (by omega))) 0 ⟨G49 _,λj hj=>by omega⟩
 exact this
def U3 (y:Int):List Int→Bool→List Int
 | [],d=>if d then []else [y]
 |x::xs,d=>if x≥y∧d=false then y::(if x=y then U3 y xs true else x::U3 y xs true)else(if x=y then U3 y xs d else x::U3 y xs d)
def Ff9 (xs:List Int) (y:Int):List Int:=U3 y xs false
theorem Bu3 (y:Int):∀(xs:List Int) (d:Bool),(U3 y xs d).length≤xs.length+1
 | [],d=>by unfold U3;split<;>simp
 |x::xs,d=>by
  have h1:=Bu3 y xs true
  have h2:=Bu3 y xs d
  have h3:(U3 y xs true).length≤xs.length:=by
   clear h1 h2
   induction xs with
   |nil=>simp[U3]
   |cons z zs ih=>
    unfold U3
    rw[G41 (by simp)]
    split<;>simp<;>omega
  unfold U3
  split
  ·split<;>simp<;>omega
  ·split<;>simp<;>omega
theorem Dq6 (xs:List Int) (y:Int):(Ff9 xs y).length≤xs.length+1:=Bu3 y xs false
theorem Aj5 (y:Int):∀(xs:List Int) (d:Bool) (z:Int),z∈U3 y xs d↔(z∈xs∧z≠y)∨(d=false∧z=y)
 | [],d,z=>by cases d<;>simp[U3]
 |x::xs,d,z=>by
  have h1:=Aj5 y xs true z
  have h2:=Aj5 y xs d z
  unfold U3
  by_cases hd:x≥y∧d=false
  ·rw[G45 hd]
   by_cases hx:x=y
   ·rw[G45 hx]
    simp only[G67,h1,hd.2,hx]
    constructor
    ·rintro(h|h|h)
     ·exact .inr ⟨trivial,h⟩
     ·exact .inl ⟨.inr h.1,h.2⟩
     ·cases h.1
    ·rintro(h|h)
     ·rcases h.1 with h3|h3
      ·exact .inl h3
      ·exact .inr (.inl ⟨h3,h.2⟩)
     ·exact .inl h.2
   ·rw[G41 hx]
    simp only[G67,h1,hd.2]
    constructor
    ·rintro(h|h|h|h)
     ·exact .inr ⟨trivial,h⟩
     ·subst h;exact .inl ⟨.inl rfl,hx⟩
     ·exact .inl ⟨.inr h.1,h.2⟩
     ·cases h.1
    ·rintro(h|h)
     ·rcases h.1 with h3|h3
      ·exact .inr (.inl h3)
      ·exact .inr (.inr (.inl ⟨h3,h.2⟩))
     ·exact .inl h.2
  ·rw[G41 hd]
   by_cases hx:x=y
   ·rw[G45 hx,h2]
    simp only[G67,hx]
    constructor
    ·rintro(h|h)
     ·exact .inl ⟨.inr h.1,h.2⟩
     ·exact .inr h
    ·rintro(h|h)
     ·rcases h.1 with h3|h3
      ·exact absurd h3 h.2
      ·exact .inl ⟨h3,h.2⟩
     ·exact .inr h
   ·rw[G41 hx]
    simp only[G67,h2]
    constructor
    ·rintro(h|h|h)
     ·subst h;exact .inl ⟨.inl rfl,hx⟩
     ·exact .inl ⟨.inr h.1,h.2⟩
     ·exact .inr h
    ·rintro(h|h)
     ·rcases h.1 with h3|h3
      ·exact .inl h3
      ·exact .inr (.inl ⟨h3,h.2⟩)
     ·exact .inr (.inr h)
theorem Fg0 {xs:List Int} {y z:Int}:z∈Ff9 xs y↔z∈xs∨z=y:=by
 unfold Ff9
 rw[Aj5]
 by_cases h:z=y
 ·simp[h]
 ·simp[h]
theorem Dq7 (xs:List Int) (hx:xs.length≤1048576) (y:Int):Ev (λk=>C29 k xs y) (Ff9 xs y):=by
 refine Re.eq (Re.enter (f:=λk n=>Z6 k n xs y false 0 []) B9 ?_)
 have:=Re.loop (ι:=Nat) (l:=λk n (s:Nat×Bool×List Int)=>Z6 k n xs y s.2.1 (s.1:Int) s.2.2) (I:=λs=>s.1≤xs.length∧s.2.2.length≤s.1+(bif s.2.1 then 1 else 0)) (λs=>xs.length-s.1) (Q:=λs r=>r=s.2.2++U3 y (xs.drop s.1) s.2.1) (λs hi ih=>by
  obtain⟨i,d,out⟩:=s
  obtain⟨h1,h2⟩:=hi
  simp only at h1 h2 ih ⊢
  have h2':out.length≤i+1:=by cases d<;>simp at h2<;>omega
  simp only[Z6,B69]
  refine Re.brd (λh=> ?_) (λh=> ?_)
  ·have hl:i<xs.length:=by omega
   have hdr:xs.drop i=rd 0 xs i::xs.drop (i+1):=by rw[C2 hl];exact G89 hl
   rw[hdr,B2 hl (by omega),G33]
   have m1:∀a:Int,out.length+ [a].length≤A5:=λa=>by simp[A5];omega
   have m2:∀a b:Int,(out++ [a]).length+ [b].length≤A5:=λa b=>by simp[A5];omega
   refine Re.gdd (by omega) (Re.gdd h ?_)
   have plain:¬(rd 0 xs i≥y∧d=false)→Re (λx:Nat×Nat=> (br ((rd 0 xs i) !=y) (gd (decide (0≤(i:Int))) (gd (decide ((i:Int)< (xs.length:Int))) (gd (decide (out.length+ [(rd 0 xs i)].length≤A5)) (Z6 x.1 x.2 xs y d ((i+1:Nat):Int) (out++ [(rd 0 xs i)]))))) (Z6 x.1 x.2 xs y d ((i+1:Nat):Int) out))) (λr=>r=out++U3 y (rd 0 xs i::xs.drop (i+1)) d):=λg=>by
    refine Re.brn (λq=> ?_) (λq=> ?_)
    ·refine Re.gdd (by omega) (Re.gdd h (Re.gdd (m1 _) ?_))
     refine(ih (i+1,d,out++ [rd 0 xs i]) ⟨by simp only;omega,by cases d<;>simp at h2 ⊢ <;>omega⟩ (by simp only;omega)).mono λr hr=> ?_
     rw[hr,U3,G41 g,G41 q];simp
    ·refine(ih (i+1,d,out) ⟨by simp only;omega,by cases d<;>simp at h2 ⊢ <;>omega⟩ (by simp only;omega)).mono λr hr=> ?_
     rw[hr,U3,G41 g,G45 q]
   refine Re.brd (λhge=> ?_) (λhge=>Re.gdd (by omega) (Re.gdd h (plain λg=>hge g.1)))
   cases d with
   |true=>exact Re.br (b:=false) (λh=>by cases h) (λ_=>Re.gdd (by omega) (Re.gdd h (plain λg=>by cases g.2)))
   |false=>
    simp only[G72]at h2
    refine Re.br (b:=true) (λ_=> ?_) (λh=>by cases h)
    refine Re.gdd (m1 _) (Re.gdd (by omega) (Re.gdd h ?_))
    refine Re.brn (λq=> ?_) (λq=> ?_)
    ·refine Re.gdd (by omega) (Re.gdd h (Re.gdd (m2 _ _) ?_))
     refine(ih (i+1,true,(out++ [y])++ [rd 0 xs i]) ⟨by simp only;omega,by simp;omega⟩ (by simp only;omega)).mono λr hr=> ?_
     rw[hr,U3,G45 ⟨hge,rfl⟩,G41 q];simp
    ·refine(ih (i+1,true,out++ [y]) ⟨by simp only;omega,by simp;omega⟩ (by simp only;omega)).mono λr hr=> ?_
     rw[hr,U3,G45 ⟨hge,rfl⟩,G45 q];simp
  ·have e:xs.drop i=[]:=Hc0 (by omega)
   rw[e]
   cases d with
   |true=>exact Re.ret (by simp[U3])
   |false=>exact Re.gdd (by simp[A5];omega) (Re.ret (by simp[U3]))) (0,false,[]) ⟨G49 _,by simp⟩
 simpa [Ff9]using this
def Ad6 (es:List A0) (id:Int):Int:=if es.findIdx (λe=>e.1==id)<es.length then((es.findIdx λe=>e.1==id:Nat):Int)else -1
theorem B90 (r:A6) (h:r.1.length≤1048576) (id:Int):Ev (λk=>B66 k r id) (Ad6 r.1 id):=by
 have:=Ct8 (l:=λk n i=>Ah4 k n id (i:Int) r) r.1 (λe=>e.1==id) (λi=> ((i:Nat):Int)) (-1) (λi hi=> ⟨0,λk _ n=>by
  simp only[Ah4,A96,G61,hi,G42,G56,br_true,gd_true,G33,C2,B2 hi (by omega)]⟩) ⟨0,λk _ n=>by
  simp only[Ah4,A96,G77,G76,br_false]⟩
 exact this
theorem Dj8 (es:List A0) (id:Int):(Ad6 es id= -1∧∀e∈es,e.1≠id)∨(∃i:Nat,i<es.length∧Ad6 es id=i∧(rd A4 es i).1=id∧∀j,j<i→(rd A4 es j).1≠id):=by
 unfold Ad6
 by_cases h:es.findIdx (λe=>e.1==id)<es.length
 ·rw[G45 h]
  refine .inr ⟨_,h,rfl, ?_,λj hj=> ?_⟩
  ·rw[C2 h]
   have:=List.findIdx_getElem (w:=h)
   simpa using this
  ·have:=List.not_of_lt_findIdx hj
   rw[C2 (Nat.lt_trans hj h)]
   simpa using this
 ·rw[G41 h]
  refine .inl ⟨rfl,λe he g=>h ?_⟩
  exact List.findIdx_lt_length_of_exists ⟨e,he,by simp[g]⟩
def A69 (es:List A0) (m:Int) (p:Int):Int:=if Ad6 es p≥0∧(rd A4 es (Ad6 es p).toNat).2.2.2.2.2.2.2.2.1>m then(rd A4 es (Ad6 es p).toNat).2.2.2.2.2.2.2.2.1 else m
def Fg1 (es:List A0) (prev:List Int):Int:=prev.foldl (A69 es) (-1)
def Ad7 (es:List A0) (prev:List Int):Int:=if Fg1 es prev>1000000 then 1000001 else Fg1 es prev+1
theorem Aa1 {α β:Type} (f:β→α→β) (d:α) (xs:List α) (b:β) {i:Nat} (h:i<xs.length):(xs.take (i+1)).foldl f b=f ((xs.take i).foldl f b) (rd d xs i):=by
 rw[G66,G36 h,C2 h,Hc1]
 rfl
theorem Ec0 (es:List A0):∀(prev:List Int) (m:Int),m≤prev.foldl (A69 es) m
 | [],m=>Int.le_refl m
 |p::ps,m=>by
  rw[Hd1]
  have:m≤A69 es m p:=by unfold A69;split<;>omega
  exact Int.le_trans this (Ec0 es ps _)
theorem A18 (r:A6) (h:r.1.length≤1048576) (prev:List Int) (hp:prev.length≤1048576):Ev (λk=>U7 k r prev) (Ad7 r.1 prev):=by
 refine Re.eq (Re.enter (f:=λk n=>Ab3 k n prev (-1) 0 r) B9 ?_)
 have:=Re.loop (ι:=Nat) (l:=λk n (i:Nat)=>Ab3 k n prev ((prev.take i).foldl (A69 r.1) (-1)) (i:Int) r) (I:=λi=>i≤prev.length) (λi=>prev.length-i) (Q:=λ_ v=>v=Ad7 r.1 prev) (λi hi ih=>by
  simp only[Ab3,Bq0]
  refine Re.brd (λq=> ?_) (λq=> ?_)
  ·have hl:i<prev.length:=by omega
   refine Re.gdd (by omega) (Re.gdd q ?_)
   rw[G33]
   refine Re.c2 (B90 r h _) ?_
   have hf:=Aa1 (A69 r.1) 0 prev (-1) hl
   have next:=ih (i+1) (by omega) (by omega)
   rw[hf]at next
   rw[B2 hl (by omega)]
   generalize(prev.take i).foldl (A69 r.1) (-1)=m at next ⊢
   have hs:=Dj8 r.1 (rd 0 prev i)
   refine Re.brd (λg=> ?_) (λg=> ?_)
   ·have hlt:Ad6 r.1 (rd 0 prev i)<r.1.length:=by
     rcases hs with⟨e,_⟩|⟨j,hj,e,_⟩<;>omega
    refine Re.gdd (by omega) (Re.gdd hlt ?_)
    refine Re.brd (λg2=>Re.gdd (by omega) (Re.gdd hlt ?_)) (λg2=> ?_)
    ·unfold A69 at next;rw[G45 ⟨g,g2⟩]at next;exact next
    ·unfold A69 at next;rw[G41 (λx=>g2 x.2)]at next;exact next
   ·unfold A69 at next;rw[G41 (λx=>g x.1)]at next;exact next
  ·have e:prev.take i=prev:=G40 (by omega)
   rw[e]
   have hge:=Ec0 r.1 prev (-1)
   unfold Ad7 Fg1
   refine Re.brd (λg=>Re.ret (by rw[G45 g])) (λg=>Re.ret ?_)
   rw[G41 g,D7 (by omega) (by omega)]) 0 (G49 _)
 exact this
def named (es:List A0) (id:Int):Bool:=es.any λf=>decide (id∈f.2.2.2.2.2.2.2.1)
def q8 (es:List A0) (a:List Int) (e:A0):List Int:=bif named es e.1 then a else Ff9 a e.1
def W4 (es:List A0):List Int:=es.foldl (q8 es) []
theorem Am5 (es:List A0):∀(xs:List A0) (a:List Int),(xs.foldl (q8 es) a).length≤a.length+xs.length
 | [],a=>by simp
 |x::xs,a=>by
  rw[Hd1]
  have h1:=Am5 es xs (q8 es a x)
  have h2:(q8 es a x).length≤a.length+1:=by
   unfold q8
   have:=Dq6 a x.1
   cases named es x.1<;>simp<;>omega
  simp;omega
def Gh6 (es:List A0):Prop:=es.length≤100000∧∀i,i<es.length→(rd A4 es i).2.2.2.2.2.2.2.1.length≤1048576
theorem Dq8 (r:A6) (h:Gh6 r.1):Ev (λk=>Bk3 k r) (W4 r.1):=by
 obtain⟨h1,h2⟩:=h
 refine Re.eq (Re.enter (f:=λk n=>Ah9 k n 0 r []) B9 ?_)
 have:=Re.wf (l:=λk n (s:Nat ⊕ (Nat×Nat×Bool))=>match s with
   | .inl i=>Ah9 k n (i:Int) r ((r.1.take i).foldl (q8 r.1) [])
   | .inr (i,j,b)=>Aw2 k n (i:Int) b (j:Int) r ((r.1.take i).foldl (q8 r.1) []))
  (I:=λs=>match s with
   | .inl i=>i≤r.1.length
   | .inr (i,j,b)=>i<r.1.length∧j≤r.1.length∧b=(r.1.take j).any λf=>decide ((rd A4 r.1 i).1∈f.2.2.2.2.2.2.2.1))
  (λs=>match s with| .inl i=> (r.1.length-i,0)| .inr (i,j,_)=> (r.1.length- (i+1),r.1.length+1-j)) (Q:=λ_ v=>v=W4 r.1) (λs hi ih=>by
  rcases s with i|⟨i,j,b⟩
  ·simp only at hi ih ⊢
   simp only[Fd7,Ba2]
   refine Re.brd (λq=> ?_) (λq=>Re.ret ?_)
   ·exact ih (.inr (i,0,false)) ⟨by omega,G49 _,by simp⟩ (.inl (by simp only;omega))
   ·rw[G40 (by omega)];rfl
  ·obtain⟨h3,h4,h5⟩:=hi
   simp only at ih ⊢
   have hlen:=Am5 r.1 (r.1.take i) []
   have hlen2:((r.1.take i).foldl (q8 r.1) []).length≤100000:=by simp at hlen;omega
   have hf:=Aa1 (q8 r.1) A4 r.1 [] h3
   simp only[Fd8,Ba3]
   refine Re.brd (λq=> ?_) (λq=> ?_)
   ·have hj:j<r.1.length:=by omega
    have e1:B5 ((j:Int)+1)=((j+1:Nat):Int):=B2 hj (by omega)
    have ht:(r.1.take (j+1)).any (λf=>decide ((rd A4 r.1 i).1∈f.2.2.2.2.2.2.2.1))=(b||decide ((rd A4 r.1 i).1∈(rd A4 r.1 j).2.2.2.2.2.2.2.1)):=by
     rw[G66,G36 hj,C2 hj,List.any_append,h5,C2 h3]
     simp
    have next:=ih (.inr (i,j+1,b||decide ((rd A4 r.1 i).1∈(rd A4 r.1 j).2.2.2.2.2.2.2.1))) ⟨h3,by omega,ht.symm⟩ (.inr ⟨rfl,by simp only;omega⟩)
    rw[e1]
    cases b with
    |true=>
     rw[Bool.true_or]at next
     exact next
    |false=>
     refine Re.br (b:=false) (λh=>by cases h) (λ_=> ?_)
     refine Re.gdd (by omega) (Re.gdd q (Re.gdd (by omega) (Re.gdd (by omega) ?_)))
     simp only[G33]
     refine Re.c2 (As0 _ (h2 j hj) _) ?_
     rw[Bool.false_or]at next
     exact next
   ·have ej:r.1.take j=r.1:=G40 (by omega)
    rw[ej]at h5
    have next:=ih (.inl (i+1)) (by simp only;omega) (.inr ⟨rfl,by simp only;omega⟩)
    simp only[hf]at next
    rw[B2 h3 (by omega)]
    have hn:named r.1 (rd A4 r.1 i).1=b:=h5.symm
    cases b with
    |true=>
     refine Re.br (b:=false) (λh=>by cases h) (λ_=> ?_)
     unfold q8 at next
     rw[hn]at next
     exact next
    |false=>
     refine Re.br (b:=true) (λ_=> ?_) (λh=>by cases h)
     refine Re.gdd (by omega) (Re.gdd (by omega) ?_)
     simp only[G33]
     refine Re.c2 (Dq7 _ (by omega) _) ?_
     unfold q8 at next
     rw[hn]at next
     exact next) (.inl 0) (G49 _)
 exact this
end Go.Vm
end
section
namespace Go.Vm
open Go
noncomputable def eqd {α:Type} (a b:α):Bool:=@decide (a=b) (Classical.propDecidable _)
theorem Bu4 {α:Type} {a b:α}:eqd a b=true↔a=b:=by unfold eqd;exact@decide_eq_true_iff _ (Classical.propDecidable _)
theorem Ft2 {α:Type} {a b:α} (h:a=b):eqd a b=true:=Bu4.2 h
theorem Bf7 {α:Type} {a b:α} (h:a≠b):eqd a b=false:=by
 cases e:eqd a b with
 |false=>rfl
 |true=>exact absurd (Bu4.1 e) h
end Go.Vm
end
