/- The machine computes them. -/
import Derived.Test.YtmmgjbjmmipobaaGreatDoorZp4
import Derived.Test.YtmmgjbjmmipobaaGreatDoorProg
import Derived.KernelRfl
set_option linter.all false
section
namespace Go.Vm
open Go Go.Proofs
abbrev C9:Ty:=(.fld (.int .i64) (.fld (.int .i64) (.fld .str .nil)))
abbrev B0:Ty:=(.fld (.int .i64) (.fld (.int .i64) (.fld (.int .i64) (.fld (.int .i64) (.fld (.int .i64) (.fld (.slice 3 (.int .i64)) (.fld .str (.fld (.slice 3 (.int .i64)) (.fld (.int .i64) .nil)))))))))
abbrev B6:Ty:=(.fld (.int .i64) (.fld (.int .i64) .nil))
abbrev Fi8:Ty:=(.fld (.slice 33 B0) (.fld (.slice 122 (.slice 147 B6)) (.fld (.slice 4 .bool) .nil)))
abbrev T0:Ty:=(.fld (.int .i64) (.fld (.int .i64) (.fld (.slice 3 (.int .i64)) .nil)))
abbrev Ds3:Ty:=(.fld (.slice 88 C9) (.fld Fi8 (.fld (.slice 94 T0) .nil)))
abbrev G4:Ty:=(.fld (.int .i64) (.fld (.int .i64) (.fld (.int .i64) (.fld B0 (.fld (.int .i64) (.fld (.int .i64) .nil))))))
abbrev C8:Ty:=(.fld (.slice 49 B0) (.fld (.slice 127 (.slice 145 B6)) (.fld (.slice 4 .bool) .nil)))
abbrev R1:Ty:=(.fld (.slice 67 C9) (.fld C8 (.fld (.slice 98 T0) .nil)))
noncomputable section
def eqA:List TypeId:=[145]
def tbA:List (TypeId×Ty):=[(3,(.int .i64)),(4, .bool),(5,(.int .u8)),(9, .str),(22,(.slice 88 C9)),(23,(.slice 33 B0)),(24,(.slice 122 (.slice 147 B6))),(25,(.slice 4 .bool)),(27,Fi8),(28,(.slice 94 T0)),(30,Ds3),(31,(.slice 3 (.int .i64))),(33,B0),(35,G4),(38,(.slice 67 C9)),(39,(.slice 49 B0)),(40,(.slice 127 (.slice 145 B6))),(42,C8),(43,(.slice 98 T0)),(45,R1),(49,B0),(51,G4),(67,C9),(88,C9),(94,T0),(98,T0),(103,(.slice 5 (.int .u8))),(122,(.slice 147 B6)),(127,(.slice 145 B6)),(145,B6),(147,B6),(196,(.slice 31 (.slice 3 (.int .i64))))]
def ptA:List TypeId:=[]
def mpA:List (TypeId×Ty):=[(206,(.slice 3 (.int .i64)))]
noncomputable def cf (k:Nat) (f:Nat) (F:Func) (sp:List (FuncId×Spec)) (ms:List (FuncId×MSpec)) (il:List (FuncId×Func)) (kp:List (Nat×List Nat)) (ho:List (Nat×List (Nat×List Nat×TypeId×Ty×Bool×Bool))) (tr:List TypeId) (al:List (FuncId×Nat×Spec)) (kk:List (Nat×List (List Nat))):Cfg:=
 {eqs:=eqA,tab:=tbA,spec:=sp,mspec:=ms,inl:=(f,F)::il,keep:=kp,join:=[],hold:=ho,ptrs:=ptA,maps:=mpA,fuel:=k,trees:=tr,alt:=al,keeps:=kk}
noncomputable abbrev cg (k:Nat) (f:Nat) (F:Func) (sp:List (FuncId×Spec)) (kp:List (Nat×List Nat)):Cfg:=cf k f F sp [] [] kp [] [] [] []
noncomputable abbrev sP (rs:List Ty) (md:List Md) (ts:List Ty) (G:Args ts→Option (ResT rs)):Spec:=B61 (Cl4 rs md) ts G
noncomputable abbrev sM (rs:List Ty) (md:List Md) (kk:List PK) (G:PArgs kk→Option (ResT rs×PoT kk)):MSpec:=mkM (λr=>Cl4 rs md r.1) (λr=>poV kk r.2) kk G
abbrev cI (x:Int):Cell:= .int .i64 x
abbrev cR (n:Nat):Cell:= .row n none none
abbrev oI (n:Nat) (x:Int):Nat×VV:=(n,one (.int .i64 x))
abbrev oB (n:Nat) (x:Bool):Nat×VV:=(n,one (.bool x))
abbrev oP (n p f:Nat):Nat×VV:=(n,one (.ptr p f))
abbrev oR (n r:Nat):Nat×VV:=(n,one (.row r none none))
abbrev fS (p:List Nat) (F:Func):Fr:= .s (cd p (bo F))
abbrev fO (p:List Nat) (F:Func) (i d:Nat):Fr:= .op (rg (cd p (bo F))) ((rg (cd p (bo F))).drop i) i (some d)
noncomputable abbrev lV {R:Type} (c:Cfg) (fin:VV→Ms→Option R) (n key:Nat) (p:List Nat) (F:Func) (fs:List Fr) (m:Ms):Option R:=lpN c fin n true key (cd p (bo F)) fs m
def B40:VV→Ms→Option Int:=Az3 [(.int .i64)] []
def Em8 (k:Nat):Cfg:=cg k 48 Tryz.f48 [] []
def Ca1 (k:Nat):Spec:=sP [(.int .i64)] [] [C9,(.int .i64)] λx=>Av8 k x.1 x.2.1
def Ca2 (k:Nat):Cfg:=cg k 15 Tryz.f15 [(48,Ca1 k)] [(1500001005,[0,1,5])]
def Ay0 (k n:Nat) (a0:List A7) (v1:Int) (v2:Int):=lV (Ca2 k) B40 n 1500001005 [1,1,1,0,1,0,0] Tryz.f15 [.b 0,fS [1,1,1,1] Tryz.f15, .fn Tryz.f15] ⟨⟨(C4 27 0 [(0,one (.slc 88 C9 a0)),oI 1 v1,oI 5 v2]),[]⟩,1500001000,1,[(0,(C4 0 0 []))]⟩
theorem Ca3 (k:Nat):∀n:Nat,Ay0 k n=Ag1 k n
 |0=>by kernel_rfl
 |n+1=>by
  obtain h0:=Ca3 k n
  exact(by kernel_rfl:_=B16 k (Ay0 k n)).trans (by rw[h0];kernel_rfl)
def B25 (k:Nat):Spec:=sP [(.int .i64)] [] [(.slice 88 C9),(.int .i64)] λx=>Bp1 k x.1 x.2.1
def Fv6 (k:Nat):Cfg:=cg k 53 Tryz.f53 [] []
def Ca4 (k:Nat):Spec:=sP [(.int .i64)] [] [(.slice 3 (.int .i64)),(.int .i64)] λx=>B64 k x.1 x.2.1
def Fi9 (k:Nat):Cfg:=cg k 18 Tryz.f18 [(53,Ca4 k)] []
def Bv2 (k:Nat):Spec:=sP [(.int .i64)] [] [B0,(.int .i64)] λx=>A27 k x.1 x.2.1
def C85 (k:Nat):Cfg:=cg k 49 Tryz.f49 [(18,Bv2 k)] [(4900001005,[0,1,5])]
def Bg0 (k n:Nat) (a0:List A0) (v1:Int) (v2:Int):=lV (C85 k) B40 n 4900001005 [1,1,1,0,1,0,0] Tryz.f49 [.b 0,fS [1,1,1,1] Tryz.f49, .fn Tryz.f49] ⟨⟨(C4 27 0 [(0,one (.slc 33 B0 a0)),oI 1 v1,oI 5 v2]),[]⟩,4900001000,1,[(0,(C4 0 0 []))]⟩
theorem C86 (k:Nat):∀n:Nat,Bg0 k n=At6 k n
 |0=>by kernel_rfl
 |n+1=>by
  obtain h0:=C86 k n
  exact(by kernel_rfl:_=Cm7 k (Bg0 k n)).trans (by rw[h0];kernel_rfl)
def Cp0 (k:Nat):Spec:=sP [(.int .i64)] [] [(.slice 33 B0),(.int .i64)] λx=>Cu1 k x.1 x.2.1
def Fj0 (k:Nat):Cfg:=cg k 95 Tryz.f95 [] []
def C87 (k:Nat):Spec:=sP [(.int .i64)] [] [(.slice 147 B6),(.int .i64)] λx=>Ci6 k x.1 x.2.1
def C88 (k:Nat):Cfg:=cg k 50 Tryz.f50 [(95,C87 k)] [(5000001005,[0,1,5])]
def Bg1 (k n:Nat) (a0:List (List A1)) (v1:Int) (v2:Int):=lV (C88 k) B40 n 5000001005 [1,1,1,0,1,0,0] Tryz.f50 [.b 0,fS [1,1,1,1] Tryz.f50, .fn Tryz.f50] ⟨⟨(C4 27 0 [(0,one (.slc 122 (.slice 147 B6) a0)),oI 1 v1,oI 5 v2]),[]⟩,5000001000,1,[(0,(C4 0 0 []))]⟩
theorem C89 (k:Nat):∀n:Nat,Bg1 k n=At7 k n
 |0=>by kernel_rfl
 |n+1=>by
  obtain h0:=C89 k n
  exact(by kernel_rfl:_=Cm8 k (Bg1 k n)).trans (by rw[h0];kernel_rfl)
def Cp1 (k:Nat):Spec:=sP [(.int .i64)] [] [(.slice 122 (.slice 147 B6)),(.int .i64)] λx=>Cu2 k x.1 x.2.1
def Fj1 (k:Nat):Cfg:=cg k 51 Tryz.f51 [] []
def C90 (k:Nat):Spec:=sP [(.int .i64)] [] [(.slice 4 .bool),(.int .i64)] λx=>Dh7 k x.1 x.2.1
def Fv7 (k:Nat):Cfg:=cg k 16 Tryz.f16 [(49,Cp0 k),(50,Cp1 k),(51,C90 k)] []
def Ds4 (k:Nat):Spec:=sP [(.int .i64)] [] [Fi8,(.int .i64)] λx=>C20 k x.1 x.2.1
def F97 (k:Nat):Cfg:=cg k 52 Tryz.f52 [(53,Ca4 k)] []
def Ed8 (k:Nat):Spec:=sP [(.int .i64)] [] [T0,(.int .i64)] λx=>C21 k x.1 x.2.1
def Ed9 (k:Nat):Cfg:=cg k 17 Tryz.f17 [(52,Ed8 k)] [(1700001005,[0,1,5])]
def Ca5 (k n:Nat) (a0:List C3) (v1:Int) (v2:Int):=lV (Ed9 k) B40 n 1700001005 [1,1,1,0,1,0,0] Tryz.f17 [.b 0,fS [1,1,1,1] Tryz.f17, .fn Tryz.f17] ⟨⟨(C4 27 0 [(0,one (.slc 94 T0 a0)),oI 1 v1,oI 5 v2]),[]⟩,1700001000,1,[(0,(C4 0 0 []))]⟩
theorem Ee0 (k:Nat):∀n:Nat,Ca5 k n=A94 k n
 |0=>by kernel_rfl
 |n+1=>by
  obtain h0:=Ee0 k n
  exact(by kernel_rfl:_=Dn0 k (Ca5 k n)).trans (by rw[h0];kernel_rfl)
def Ds5 (k:Nat):Spec:=sP [(.int .i64)] [] [(.slice 94 T0),(.int .i64)] λx=>D72 k x.1 x.2.1
def Fv8 (k:Nat):Cfg:=cg k 4 Tryz.f4 [(15,B25 k),(16,Ds4 k),(17,Ds5 k)] []
def Ds6 (k:Nat):Spec:=sP [(.int .i64)] [] [Ds3,(.int .i64)] λx=>C22 k x.1 x.2.1
def Em9 (k:Nat):Cfg:=cg k 5 Tryz.f5 [(18,Bv2 k)] []
def Ca6 (k:Nat):Spec:=sP [(.int .i64)] [] [G4,(.int .i64)] λx=>A95 k x.1 x.2.1
def p6:VV→Ms→Option Bool:=Az3 [.bool] []
def F98 (k:Nat):Cfg:=cg k 21 Tryz.f21 [] []
def O6 (k:Nat):Spec:=sP [.bool] [] [(.int .i64),(.int .i64),(.int .i64)] λx=>F9 k x.1 x.2.1 x.2.2.1
def Cp2 (k:Nat):Cfg:=cg k 99 Tryz.f99 [(21,O6 k)] [(9900001002,[0,3])]
def A74 (k n:Nat) (a0:List Int) (v1:Int):=lV (Cp2 k) p6 n 9900001002 [1,0,1,0,0] Tryz.f99 [.b 0,fS [1,1] Tryz.f99, .fn Tryz.f99] ⟨⟨(C4 19 0 [(0,one (.slc 3 (.int .i64) a0)),oI 3 v1]),[]⟩,9900001000,1,[(0,(C4 0 0 []))]⟩
theorem Cp3 (k:Nat):∀n:Nat,A74 k n=X9 k n
 |0=>by kernel_rfl
 |n+1=>by
  obtain h0:=Cp3 k n
  exact(by kernel_rfl:_=Ak3 k (A74 k n)).trans (by rw[h0];kernel_rfl)
def Ca7 (k:Nat):Spec:=sP [.bool] [] [(.slice 3 (.int .i64))] λx=>t8 k x.1
def Fj2 (k:Nat):Cfg:=cg k 58 Tryz.f58 [(21,O6 k),(99,Ca7 k)] []
def Bv3 (k:Nat):Spec:=sP [.bool] [] [B0] λx=>l6 k x.1
def Ds7 (k:Nat):Cfg:=cg k 59 Tryz.f59 [(21,O6 k),(58,Bv3 k)] [(5900001004,[1,3])]
def Bv4 (k n:Nat) (v1:Int) (a0:A0):=lV (Ds7 k) p6 n 5900001004 [1,1,0,1,0,0] Tryz.f59 [.b 0,fS [1,1,1] Tryz.f59, .fn Tryz.f59] ⟨⟨(C4 77 0 [oP 1 100 0,oI 3 v1]),[(100, .box (B1 B0 a0))]⟩,5900001000,1,[(0,(C4 0 0 []))]⟩
theorem Ds8 (k:Nat):∀n:Nat,Bv4 k n=V6 k n
 |0=>by kernel_rfl
 |n+1=>by
  obtain h0:=Ds8 k n
  exact(by kernel_rfl:_=Az4 k (Bv4 k n)).trans (by rw[h0];kernel_rfl)
def A21 (k:Nat):Spec:=sP [.bool] [] [B0] λx=>Y0 k x.1
def Ee1 (k:Nat):Cfg:=cg k 122 Tryz.f122 [] [(12200001002,[1,2,5])]
def Ca8 (k n:Nat) (a1:Int) (v1:Int) (a0:A6):=lV (Ee1 k) B40 n 12200001002 [1,0,1,0,0] Tryz.f122 [.b 0,fS [1,1] Tryz.f122, .fn Tryz.f122] ⟨⟨(C4 22 0 [oI 1 a1,oP 2 100 0,oI 5 v1]),[(100, .box (B1 C8 a0))]⟩,12200001000,1,[(0,(C4 0 0 []))]⟩
theorem Ee2 (k:Nat):∀n:Nat,Ca8 k n=Ah4 k n
 |0=>by kernel_rfl
 |n+1=>by
  obtain h0:=Ee2 k n
  exact(by kernel_rfl:_=A96 k (Ca8 k n)).trans (by rw[h0];kernel_rfl)
def Bc7 (k:Nat):Spec:=sP [(.int .i64)] [] [C8,(.int .i64)] λx=>B66 k x.1 x.2.1
def Gz3:VV→Ms→Option (A0×Bool):=Az3 [B0, .bool] [.s, .s]
def Ds9 (k:Nat):Cfg:=cg k 153 Tryz.f153 [] [(15300001002,[0,1,4,6])]
def Bv5 (k n:Nat) (a0:List A0) (a1:Int) (v1:Int):=lV (Ds9 k) Gz3 n 15300001002 [1,0,1,0,0] Tryz.f153 [.b 0,fS [1,1] Tryz.f153, .fn Tryz.f153] ⟨⟨(C4 25 0 [(0,one (.slc 49 B0 a0)),oI 1 a1,oP 4 100 0,oI 6 v1]),[(100, .box [cI 0,cI 0,cI 0,cI 0,cI 0, .nilS, .str ByteArray.empty, .nilS,cI 0])]⟩,15300001000,1,[(0,(C4 0 0 []))]⟩
theorem Dt0 (k:Nat):∀n:Nat,Bv5 k n=Ab0 k n
 |0=>by kernel_rfl
 |n+1=>by
  obtain h0:=Dt0 k n
  exact(by kernel_rfl:_=Az5 k (Bv5 k n)).trans (by rw[h0];kernel_rfl)
def W5 (k:Nat):Spec:=sP [B0, .bool] [.s, .s] [(.slice 49 B0),(.int .i64)] λx=>O0 k x.1 x.2.1
def Gi7 (k:Nat):Cfg:=cg k 154 Tryz.f154 [] [(15400001002,[0,1,5])]
def E53 (k n:Nat) (a0:List A1) (a1:Int) (v1:Int):=lV (Gi7 k) B40 n 15400001002 [1,0,1,0,0] Tryz.f154 [.b 0,fS [1,1] Tryz.f154, .fn Tryz.f154] ⟨⟨(C4 24 0 [(0,one (.slc 145 B6 a0)),oI 1 a1,oI 5 v1]),[]⟩,15400001000,1,[(0,(C4 0 0 []))]⟩
theorem Gi8 (k:Nat):∀n:Nat,E53 k n=Ci7 k n
 |0=>by kernel_rfl
 |n+1=>by
  obtain h0:=Gi8 k n
  exact(by kernel_rfl:_=D19 k (E53 k n)).trans (by rw[h0];kernel_rfl)
def Bc8 (k:Nat):Spec:=sP [(.int .i64)] [] [(.slice 145 B6),(.int .i64)] λx=>C23 k x.1 x.2.1
def E54 (k:Nat):Cfg:=cg k 131 Tryz.f131 [(21,O6 k),(153,W5 k),(154,Bc8 k)] []
def o8 (k:Nat):Spec:=sP [(.int .i64)] [] [(.slice 49 B0),(.slice 145 B6),(.int .i64)] λx=>W9 k x.1 x.2.1 x.2.2.1
def Fj3 (k:Nat):Cfg:=cg k 157 Tryz.f157 [(21,O6 k),(153,W5 k),(154,Bc8 k)] []
def An3 (k:Nat):Spec:=sP [(.int .i64)] [] [(.slice 49 B0),(.slice 145 B6),(.int .i64)] λx=>l7 k x.1 x.2.1 x.2.2.1
def C91 (k:Nat):Cfg:=cg k 211 Tryz.f211 [] [(21100001002,[0,3])]
def Bg2 (k n:Nat) (a0:List A1) (v1:Int):=lV (C91 k) p6 n 21100001002 [1,0,1,0,0] Tryz.f211 [.b 0,fS [1,1] Tryz.f211, .fn Tryz.f211] ⟨⟨(C4 16 0 [(0,one (.slc 145 B6 a0)),oI 3 v1]),[]⟩,21100001000,1,[(0,(C4 0 0 []))]⟩
theorem C92 (k:Nat):∀n:Nat,Bg2 k n=l8 k n
 |0=>by kernel_rfl
 |n+1=>by
  obtain h0:=C92 k n
  exact(by kernel_rfl:_=At8 k (Bg2 k n)).trans (by rw[h0];kernel_rfl)
def Cp4 (k:Nat):Spec:=sP [.bool] [] [(.slice 145 B6)] λx=>Cu3 k x.1
def Fj4 (k:Nat):Cfg:=cg k 179 Tryz.f179 [(131,o8 k),(153,W5 k),(154,Bc8 k),(211,Cp4 k)] []
def C93 (k:Nat):Spec:=sP [.bool] [] [(.slice 49 B0),(.slice 145 B6),B0] λx=>Dh8 k x.1 x.2.1 x.2.2.1
def En0 (k:Nat):Cfg:=cg k 155 Tryz.f155 [(131,o8 k),(157,An3 k),(179,C93 k)] []
def Ca9 (k:Nat):Spec:=sP [.bool] [] [(.slice 49 B0),(.slice 145 B6),B0] λx=>A97 k x.1 x.2.1 x.2.2.1
def C94 (k:Nat):Cfg:=cg k 156 Tryz.f156 [(131,o8 k),(157,An3 k)] [(15600001005,[0,1,5,7,8])]
def Bg3 (k n:Nat) (a0:List A0) (a1:List A1) (r1:Int) (v1:Int) (a2:A0):=lV (C94 k) p6 n 15600001005 [1,1,1,0,1,0,0] Tryz.f156 [.b 0,fS [1,1,1,1] Tryz.f156, .fn Tryz.f156] ⟨⟨(C4 57 0 [(0,one (.slc 49 B0 a0)),(1,one (.slc 145 B6 a1)),oP 5 100 0,oI 7 r1,oI 8 v1]),[(100, .box (B1 B0 a2))]⟩,15600001000,1,[(0,(C4 0 0 []))]⟩
theorem C95 (k:Nat):∀n:Nat,Bg3 k n=X0 k n
 |0=>by kernel_rfl
 |n+1=>by
  obtain h0:=C95 k n
  exact(by kernel_rfl:_=Be6 k (Bg3 k n)).trans (by rw[h0];kernel_rfl)
def Cp5 (k:Nat):Spec:=sP [.bool] [] [(.slice 49 B0),(.slice 145 B6),B0] λx=>Cu4 k x.1 x.2.1 x.2.2.1
def Fj5 (k:Nat):Cfg:=cg k 124 Tryz.f124 [(59,A21 k),(131,o8 k),(153,W5 k),(154,Bc8 k),(155,Ca9 k),(156,Cp5 k),(157,An3 k)] []
def Bv6 (k:Nat):Spec:=sP [.bool] [] [(.slice 49 B0),(.slice 145 B6),B0] λx=>Ci8 k x.1 x.2.1 x.2.2.1
def F99 (k:Nat):Cfg:=cg k 125 Tryz.f125 [(21,O6 k)] []
def Cx1 (k:Nat):Spec:=sP [(.int .i64)] [] [B0] λx=>Bp2 k x.1
def Fv9 (k:Nat):Cfg:=cg k 180 Tryz.f180 [(21,O6 k)] []
def Dt1 (k:Nat):Spec:=sP [.bool] [] [(.int .i64)] λx=>C26 k x.1
def Dt2 (k:Nat):Cfg:=cg k 158 Tryz.f158 [(21,O6 k),(180,Dt1 k)] [(15800001004,[0,3])]
def Bv7 (k n:Nat) (a0:List A1) (v1:Int):=lV (Dt2 k) p6 n 15800001004 [1,1,0,1,0,0] Tryz.f158 [.b 0,fS [1,1,1] Tryz.f158, .fn Tryz.f158] ⟨⟨(C4 47 0 [(0,one (.slc 145 B6 a0)),oI 3 v1]),[]⟩,15800001000,1,[(0,(C4 0 0 []))]⟩
theorem Dt3 (k:Nat):∀n:Nat,Bv7 k n=a8 k n
 |0=>by kernel_rfl
 |n+1=>by
  obtain h0:=Dt3 k n
  exact(by kernel_rfl:_=Bp3 k (Bv7 k n)).trans (by rw[h0];kernel_rfl)
def C96 (k:Nat):Spec:=sP [.bool] [] [(.slice 145 B6)] λx=>Ci9 k x.1
def D08:VV→Ms→Option (List A1):=Az3 [(.slice 145 B6)] [.o]
def E55 (k:Nat):Cfg:=cg k 126 Tryz.f126 [(158,C96 k)] [(12600001003,[0,1,2,7,8]),(12600001009,[0,1,7,9])]
def Ee3 (k n:Nat) (a0:List A1) (a1:Int) (v3:Int) (xs4:List A1):=lV (E55 k) D08 n 12600001009 [1,1,1,1,0,1,0,0] Tryz.f126 [.b 2,fS [1,1,1,1,1] Tryz.f126, .fn Tryz.f126] ⟨⟨(C4 69 0 [(0,one (.slc 145 B6 a0)),oI 1 a1,oR 7 100,oI 9 v3]),[(100, .row 145 B6 xs4 true)]⟩,12600001000,1,[(0,(C4 0 0 []))]⟩
def Ee4 (k n:Nat) (a0:List A1) (a1:Int) (a2:Int) (v1:Int) (xs2:List A1):=lV (E55 k) D08 n 12600001003 [1,1,0,1,0,0] Tryz.f126 [.b 0,fS [1,1,1] Tryz.f126, .fn Tryz.f126] ⟨⟨(C4 69 0 [(0,one (.slc 145 B6 a0)),oI 1 a1,oI 2 a2,oR 7 100,oI 8 v1]),[(100, .row 145 B6 xs2 true)]⟩,12600001000,1,[(0,(C4 0 0 []))]⟩
theorem F30 (k:Nat):∀n:Nat,Ee3 k n=B67 k n∧Ee4 k n=Bk0 k n
 |0=> ⟨by kernel_rfl,by kernel_rfl⟩
 |n+1=>by
  obtain⟨h1,h0⟩:=F30 k n
  exact⟨(by kernel_rfl:_=D74 k (Ee3 k n)).trans (by rw[h1];kernel_rfl),(by kernel_rfl:_=D75 k (Ee4 k n) (Ee3 k n)).trans (by rw[h0,h1];kernel_rfl)⟩
def Ee5 (k:Nat):Spec:=sP [(.slice 145 B6)] [.o] [(.slice 145 B6),(.int .i64),(.int .i64)] λx=>F14 k x.1 x.2.1 x.2.2.1
def i6:VV→Ms→Option (List Int):=Az3 [(.slice 3 (.int .i64))] [.o]
def Bc9 (k:Nat):Cfg:=cg k 206 Tryz.f206 [] [(20600001003,[0,3,4]),(20600001007,[0,3,4,5,6]),(20600001010,[0,3,4,5,6,7])]
def Bv8 (k n:Nat) (a0:List (List A1)) (v1:Int) (xs2:List Int):=lV (Bc9 k) i6 n 20600001003 [1,1,0,1,0,0] Tryz.f206 [.b 0,fS [1,1,1] Tryz.f206, .fn Tryz.f206] ⟨⟨(C4 47 0 [(0,one (.slc 127 (.slice 145 B6) a0)),oR 3 100,oI 4 v1]),[(100, .row 3 (.int .i64) xs2 true)]⟩,20600001000,1,[(0,(C4 0 0 []))]⟩
def Bv9 (k n:Nat) (a0:List (List A1)) (v1:Int) (v3:Bool) (v4:Int) (xs2:List Int):=lV (Bc9 k) i6 n 20600001007 [1,1,0,1,0,0,1,0,0,1,0,1,0,0] Tryz.f206 [.b 2,fS [1,1,0,1,0,0,1,0,0,1,1] Tryz.f206, .b 1,fS [1,1,0,1,0,0,1,1] Tryz.f206, .l 20600001003 (cd [1,1,0,1,0,0] (bo Tryz.f206)), .b 0,fS [1,1,1] Tryz.f206, .fn Tryz.f206] ⟨⟨(C4 47 0 [(0,one (.slc 127 (.slice 145 B6) a0)),oR 3 100,oI 4 v1,oB 5 v3,oI 6 v4]),[(100, .row 3 (.int .i64) xs2 true)]⟩,20600001000,1,[(0,(C4 0 0 []))]⟩
def Bw0 (k n:Nat) (a0:List (List A1)) (v1:Int) (v5:Bool) (v4:Int) (v6:Int) (xs2:List Int):=lV (Bc9 k) i6 n 20600001010 [1,1,0,1,0,0,1,0,0,1,0,1,0,0,1,0,0,1,0,0] Tryz.f206 [.b 4, .b 3,fS [1,1,0,1,0,0,1,0,0,1,0,1,0,0,1,1] Tryz.f206, .l 20600001007 (cd [1,1,0,1,0,0,1,0,0,1,0,1,0,0] (bo Tryz.f206)), .b 2,fS [1,1,0,1,0,0,1,0,0,1,1] Tryz.f206, .b 1,fS [1,1,0,1,0,0,1,1] Tryz.f206, .l 20600001003 (cd [1,1,0,1,0,0] (bo Tryz.f206)), .b 0,fS [1,1,1] Tryz.f206, .fn Tryz.f206] ⟨⟨(C4 47 0 [(0,one (.slc 127 (.slice 145 B6) a0)),oR 3 100,oI 4 v1,oB 5 v5,oI 6 v4,oI 7 v6]),[(100, .row 3 (.int .i64) xs2 true)]⟩,20600001000,1,[(0,(C4 0 0 []))]⟩
theorem Dt4 (k:Nat):∀n:Nat,Bv8 k n=Ab1 k n∧Bv9 k n=Ak4 k n∧Bw0 k n=Ak5 k n
 |0=> ⟨by kernel_rfl,by kernel_rfl,by kernel_rfl⟩
 |n+1=>by
  obtain⟨h0,h1,h2⟩:=Dt4 k n
  exact⟨(by kernel_rfl:_=Az6 k (Bv9 k n)).trans (by rw[h1];kernel_rfl),(by kernel_rfl:_=Az7 k (Bw0 k n) (Bv8 k n)).trans (by rw[h2,h0];kernel_rfl),(by kernel_rfl:_=Az8 k (Bw0 k n) (Bv9 k n)).trans (by rw[h2,h1];kernel_rfl)⟩
def Bw1 (k:Nat):Spec:=sP [(.slice 3 (.int .i64))] [.o] [(.slice 127 (.slice 145 B6))] λx=>Cj0 k x.1
def C97 (k:Nat):Cfg:=cg k 207 Tryz.f207 [(154,Bc8 k)] [(20700001002,[0,1,5])]
def Bg4 (k n:Nat) (a0:List (List A1)) (a1:Int) (v1:Int):=lV (C97 k) p6 n 20700001002 [1,0,1,0,0] Tryz.f207 [.b 0,fS [1,1] Tryz.f207, .fn Tryz.f207] ⟨⟨(C4 24 0 [(0,one (.slc 127 (.slice 145 B6) a0)),oI 1 a1,oI 5 v1]),[]⟩,20700001000,1,[(0,(C4 0 0 []))]⟩
theorem C98 (k:Nat):∀n:Nat,Bg4 k n=l9 k n
 |0=>by kernel_rfl
 |n+1=>by
  obtain h0:=C98 k n
  exact(by kernel_rfl:_=Be7 k (Bg4 k n)).trans (by rw[h0];kernel_rfl)
def Bg5 (k:Nat):Spec:=sP [.bool] [] [(.slice 127 (.slice 145 B6)),(.int .i64)] λx=>Bp4 k x.1 x.2.1
def Ee6 (k:Nat):Cfg:=cg k 176 Tryz.f176 [(154,Bc8 k),(206,Bw1 k),(207,Bg5 k)] [(17600001004,[0,3,4,5])]
def Cb0 (k n:Nat) (a0:List (List A1)) (v1:Int) (xs2:List A1) (r1:List Int):=lV (Ee6 k) D08 n 17600001004 [1,1,1,0,1,0,0] Tryz.f176 [.b 0,fS [1,1,1,1] Tryz.f176, .fn Tryz.f176] ⟨⟨(C4 38 0 [(0,one (.slc 127 (.slice 145 B6) a0)),oR 3 100,oR 4 101,oI 5 v1]),[(100, .row 145 B6 xs2 true),(101, .row 3 (.int .i64) r1 true)]⟩,17600001000,1,[(0,(C4 0 0 []))]⟩
theorem Ee7 (k:Nat):∀n:Nat,Cb0 k n=Ah5 k n
 |0=>by kernel_rfl
 |n+1=>by
  obtain h0:=Ee7 k n
  exact(by kernel_rfl:_=B68 k (Cb0 k n)).trans (by rw[h0];kernel_rfl)
def Dt5 (k:Nat):Spec:=sP [(.slice 145 B6)] [.o] [(.slice 127 (.slice 145 B6))] λx=>C28 k x.1
def Eu7 (k:Nat):Cfg:=cg k 177 Tryz.f177 [(206,Bw1 k),(207,Bg5 k)] [(17700001004,[0,3,4,5])]
def Cx2 (k n:Nat) (a0:List (List A1)) (v1:Int) (xs2:List Int) (r1:List Int):=lV (Eu7 k) i6 n 17700001004 [1,1,1,0,1,0,0] Tryz.f177 [.b 0,fS [1,1,1,1] Tryz.f177, .fn Tryz.f177] ⟨⟨(C4 30 0 [(0,one (.slc 127 (.slice 145 B6) a0)),oR 3 100,oR 4 101,oI 5 v1]),[(100, .row 3 (.int .i64) xs2 true),(101, .row 3 (.int .i64) r1 true)]⟩,17700001000,1,[(0,(C4 0 0 []))]⟩
theorem Eu8 (k:Nat):∀n:Nat,Cx2 k n=Ap8 k n
 |0=>by kernel_rfl
 |n+1=>by
  obtain h0:=Eu8 k n
  exact(by kernel_rfl:_=Cu5 k (Cx2 k n)).trans (by rw[h0];kernel_rfl)
def Ee8 (k:Nat):Spec:=sP [(.slice 3 (.int .i64))] [.o] [(.slice 127 (.slice 145 B6))] λx=>Ez8 k x.1
def Eu9 (k:Nat):Cfg:=cg k 181 Tryz.f181 [] [(18100001002,[0,1,5])]
def Cx3 (k n:Nat) (a0:List Int) (a1:Int) (v1:Int):=lV (Eu9 k) p6 n 18100001002 [1,0,1,0,0] Tryz.f181 [.b 0,fS [1,1] Tryz.f181, .fn Tryz.f181] ⟨⟨(C4 18 0 [(0,one (.slc 3 (.int .i64) a0)),oI 1 a1,oI 5 v1]),[]⟩,18100001000,1,[(0,(C4 0 0 []))]⟩
theorem Ev0 (k:Nat):∀n:Nat,Cx3 k n=Ap9 k n
 |0=>by kernel_rfl
 |n+1=>by
  obtain h0:=Ev0 k n
  exact(by kernel_rfl:_=Cu6 k (Cx3 k n)).trans (by rw[h0];kernel_rfl)
def A75 (k:Nat):Spec:=sP [.bool] [] [(.slice 3 (.int .i64)),(.int .i64)] λx=>A98 k x.1 x.2.1
def Ee9 (k:Nat):Cfg:=cg k 182 Tryz.f182 [] [(18200001004,[0,1,5,6,7])]
def Cb1 (k n:Nat) (a0:List Int) (a1:Int) (v1:Bool) (v2:Int) (xs3:List Int):=lV (Ee9 k) i6 n 18200001004 [1,1,1,0,1,0,0] Tryz.f182 [.b 0,fS [1,1,1,1] Tryz.f182, .fn Tryz.f182] ⟨⟨(C4 49 0 [(0,one (.slc 3 (.int .i64) a0)),oI 1 a1,oR 5 100,oB 6 v1,oI 7 v2]),[(100, .row 3 (.int .i64) xs3 true)]⟩,18200001000,1,[(0,(C4 0 0 []))]⟩
theorem Ef0 (k:Nat):∀n:Nat,Cb1 k n=Z6 k n
 |0=>by kernel_rfl
 |n+1=>by
  obtain h0:=Ef0 k n
  exact(by kernel_rfl:_=B69 k (Cb1 k n)).trans (by rw[h0];kernel_rfl)
def Cb2 (k:Nat):Spec:=sP [(.slice 3 (.int .i64))] [.o] [(.slice 3 (.int .i64)),(.int .i64)] λx=>C29 k x.1 x.2.1
def Bg6 (k:Nat):Cfg:=cf k 208 Tryz.f208 [(153,W5 k),(181,A75 k)] [] [] [(20800001003,[0,5,6]),(20800001007,[0,5,6,7,9])] [(20800001003,[(6,[0],3,(.int .i64),false,true)]),(20800001007,[(6,[0],3,(.int .i64),false,true)])] [] [] []
def A76 (k n:Nat) (a0:List A0) (u1:Nat) (xs2:List Int) (xs3:List Int):=lV (Bg6 k) i6 n 20800001003 [1,1,1,0,0,0] Tryz.f208 [.b 0,fS [1,1,1,1] Tryz.f208, .fn Tryz.f208] ⟨⟨(C4 73 0 [(0,one (.slc 49 B0 a0)),oR 5 100,(6,one (.row 101 (some u1) none))]),[(100, .row 3 (.int .i64) xs2 true),(101, .row 3 (.int .i64) xs3 true)]⟩,20800001000,1,[(0,(C4 0 0 []))]⟩
def A77 (k n:Nat) (a0:List A0) (u4:Nat) (v5:Int) (xs6:List Int) (xs7:List Int) (r1:A0×Bool):=lV (Bg6 k) i6 n 20800001007 [1,1,1,0,0,0,1,0,1,1,1,0,0] Tryz.f208 [.b 2, .b 1, .l 20800001003 (cd [1,1,1,0,0,0] (bo Tryz.f208)), .b 0,fS [1,1,1,1] Tryz.f208, .fn Tryz.f208] ⟨⟨(C4 73 0 [(0,one (.slc 49 B0 a0)),oR 5 100,(6,one (.row 101 (some u4) none)),oP 7 102 0,oI 9 v5]),[(100, .row 3 (.int .i64) xs6 true),(101, .row 3 (.int .i64) xs7 true),(102, .box (B1 B0 r1.1))]⟩,20800001000,1,[(0,(C4 0 0 []))]⟩
theorem Cp6 (k:Nat):∀n:Nat,A76 k n=Y1 k n∧A77 k n=T4 k n
 |0=> ⟨by kernel_rfl,by kernel_rfl⟩
 |n+1=>by
  obtain⟨h0,h1⟩:=Cp6 k n
  exact⟨(by kernel_rfl:_=Ak6 k (A77 k n)).trans (by rw[h1];kernel_rfl),(by kernel_rfl:_=Ak7 k (A77 k n) (A76 k n)).trans (by rw[h1,h0];kernel_rfl)⟩
def Cb3 (k:Nat):Spec:=sP [(.slice 3 (.int .i64))] [.o] [(.slice 49 B0),(.int .i64)] λx=>B70 k x.1 x.2.1
def C99 (k:Nat):Cfg:=cg k 209 Tryz.f209 [(181,A75 k)] [(20900001002,[0,1,2,7])]
def Bg7 (k n:Nat) (a0:List Int) (a1:List Int) (a2:List Int) (v1:Int):=lV (C99 k) p6 n 20900001002 [1,0,1,0,0] Tryz.f209 [.b 0,fS [1,1] Tryz.f209, .fn Tryz.f209] ⟨⟨(C4 29 0 [(0,one (.slc 3 (.int .i64) a0)),(1,one (.slc 3 (.int .i64) a1)),(2,one (.slc 3 (.int .i64) a2)),oI 7 v1]),[]⟩,20900001000,1,[(0,(C4 0 0 []))]⟩
theorem Da0 (k:Nat):∀n:Nat,Bg7 k n=X1 k n
 |0=>by kernel_rfl
 |n+1=>by
  obtain h0:=Da0 k n
  exact(by kernel_rfl:_=Be8 k (Bg7 k n)).trans (by rw[h0];kernel_rfl)
def Cp7 (k:Nat):Spec:=sP [.bool] [] [(.slice 3 (.int .i64)),(.slice 3 (.int .i64)),(.slice 3 (.int .i64))] λx=>Bp5 k x.1 x.2.1 x.2.2.1
def E56 (k:Nat):Cfg:=cg k 229 Tryz.f229 [] []
def Cp8 (k:Nat):Spec:=sP [.bool] [] [B0] λx=>Aq0 k x.1
def Fj6 (k:Nat):Cfg:=cg k 210 Tryz.f210 [(157,An3 k),(229,Cp8 k)] []
def Da1 (k:Nat):Spec:=sP [.bool] [] [(.slice 49 B0),(.slice 145 B6),B0,B0] λx=>Dh9 k x.1 x.2.1 x.2.2.1 x.2.2.2.1
def A39 (k:Nat):Cfg:=cg k 178 Tryz.f178 [(153,W5 k),(181,A75 k),(182,Cb2 k),(208,Cb3 k),(209,Cp7 k),(210,Da1 k)] [(17800001003,[0,1,2,7,8]),(17800001010,[0,1,7,11,12]),(17800001014,[0,1,7,11,13]),(17800001018,[0,1,7,11,13,14,15,16])]
def Cx4 (k n:Nat) (a0:List A0) (a1:List A1) (xs2:List Int) (xs4:List (List Int)) (xs5:List Int):=lV (A39 k) i6 n 17800001014 [1,1,1,1,1,1,0,0,0] Tryz.f178 [.b 4,fS [1,1,1,1,1,1,1] Tryz.f178, .fn Tryz.f178] ⟨⟨(C4 115 0 [(0,one (.slc 49 B0 a0)),(1,one (.slc 145 B6 a1)),oR 7 100,oR 11 101,oR 13 102]),[(100, .row 3 (.int .i64) xs2 true),(101, .row 31 (.slice 3 (.int .i64)) xs4 true),(102, .row 3 (.int .i64) xs5 true)]⟩,17800001000,1,[(0,(C4 0 0 []))]⟩
def Cx5 (k n:Nat) (a0:List A0) (a1:List A1) (v6:Int) (xs2:List Int) (xs4:List (List Int)) (xs5:List Int):=lV (A39 k) i6 n 17800001018 [1,1,1,1,1,1,0,0,0,1,0,1,1,0,1,0,0] Tryz.f178 [.b 6,fS [1,1,1,1,1,1,0,0,0,1,0,1,1,1] Tryz.f178, .b 5, .l 17800001014 (cd [1,1,1,1,1,1,0,0,0] (bo Tryz.f178)), .b 4,fS [1,1,1,1,1,1,1] Tryz.f178, .fn Tryz.f178] ⟨⟨(C4 115 0 [(0,one (.slc 49 B0 a0)),(1,one (.slc 145 B6 a1)),oR 7 100,oR 11 101,oR 13 102,oP 14 103 0,oB 15 false,oI 16 v6]),[(100, .row 3 (.int .i64) xs2 true),(101, .row 31 (.slice 3 (.int .i64)) xs4 true),(102, .row 3 (.int .i64) xs5 true),(103, .box [cI 0,cI 0,cI 0,cI 0,cI 0, .nilS, .str ByteArray.empty, .nilS,cI 0])]⟩,17800001000,1,[(0,(C4 0 0 []))]⟩
def Cx6 (k n:Nat) (a0:List A0) (a1:List A1) (v7:Int) (xs2:List Int) (xs4:List (List Int)) (xs5:List Int) (v8:Int) (v9:Int) (v10:Int) (v11:Int) (v12:Int) (v13:List Int) (v14:ByteArray) (v15:List Int) (v16:Int):=lV (A39 k) i6 n 17800001018 [1,1,1,1,1,1,0,0,0,1,0,1,1,0,1,0,0] Tryz.f178 [.b 6,fS [1,1,1,1,1,1,0,0,0,1,0,1,1,1] Tryz.f178, .b 5, .l 17800001014 (cd [1,1,1,1,1,1,0,0,0] (bo Tryz.f178)), .b 4,fS [1,1,1,1,1,1,1] Tryz.f178, .fn Tryz.f178] ⟨⟨(C4 115 0 [(0,one (.slc 49 B0 a0)),(1,one (.slc 145 B6 a1)),oR 7 100,oR 11 101,oR 13 102,oP 14 103 0,oB 15 true,oI 16 v7]),[(100, .row 3 (.int .i64) xs2 true),(101, .row 31 (.slice 3 (.int .i64)) xs4 true),(102, .row 3 (.int .i64) xs5 true),(103, .box [cI v8,cI v9,cI v10,cI v11,cI v12, .slc 3 (.int .i64) v13, .str v14, .slc 3 (.int .i64) v15,cI v16])]⟩,17800001000,1,[(0,(C4 0 0 []))]⟩
def Cx7 (k n:Nat) (a0:List A0) (a1:List A1) (v3:Int) (xs2:List Int) (xs4:List (List Int)):=lV (A39 k) i6 n 17800001010 [1,1,1,1,0,1,0,0] Tryz.f178 [.b 2,fS [1,1,1,1,1] Tryz.f178, .fn Tryz.f178] ⟨⟨(C4 115 0 [(0,one (.slc 49 B0 a0)),(1,one (.slc 145 B6 a1)),oR 7 100,oR 11 101,oI 12 v3]),[(100, .row 3 (.int .i64) xs2 true),(101, .row 31 (.slice 3 (.int .i64)) xs4 true)]⟩,17800001000,1,[(0,(C4 0 0 []))]⟩
def Cx8 (k n:Nat) (a0:List A0) (a1:List A1) (a2:List Int) (v1:Int) (xs2:List Int):=lV (A39 k) i6 n 17800001003 [1,1,0,1,0,0] Tryz.f178 [.b 0,fS [1,1,1] Tryz.f178, .fn Tryz.f178] ⟨⟨(C4 115 0 [(0,one (.slc 49 B0 a0)),(1,one (.slc 145 B6 a1)),(2,one (.slc 3 (.int .i64) a2)),oR 7 100,oI 8 v1]),[(100, .row 3 (.int .i64) xs2 true)]⟩,17800001000,1,[(0,(C4 0 0 []))]⟩
theorem Ev1 (k:Nat):∀n:Nat,Cx4 k n=Aq1 k n∧Cx5 k n=Aq2 k n∧Cx6 k n=Aq3 k n∧Cx7 k n=Aq4 k n∧Cx8 k n=Aq5 k n
 |0=> ⟨by kernel_rfl,by kernel_rfl,by kernel_rfl,by kernel_rfl,by kernel_rfl⟩
 |n+1=>by
  obtain⟨h2,h3,h4,h1,h0⟩:=Ev1 k n
  exact⟨(by kernel_rfl:_=Bp6 k (Cx5 k n)).trans (by rw[h3];kernel_rfl),(by kernel_rfl:_=Bp7 k (Cx5 k n) (Cx6 k n)).trans (by rw[h3,h4];kernel_rfl),(by kernel_rfl:_=Bp8 k (Cx6 k n) (Cx4 k n)).trans (by rw[h4,h2];kernel_rfl),(by kernel_rfl:_=Cu7 k (Cx7 k n) (Cx4 k n)).trans (by rw[h1,h2];kernel_rfl),(by kernel_rfl:_=Cu8 k (Cx8 k n) (Cx7 k n)).trans (by rw[h0,h1];kernel_rfl)⟩
def Ef1 (k:Nat):Spec:=sP [(.slice 3 (.int .i64))] [.o] [(.slice 49 B0),(.slice 145 B6),(.slice 3 (.int .i64))] λx=>Ez9 k x.1 x.2.1 x.2.2.1
def Bd0 (k:Nat):Cfg:=cg k 152 Tryz.f152 [(124,Bv6 k),(125,Cx1 k),(126,Ee5 k),(153,W5 k),(154,Bc8 k),(176,Dt5 k),(177,Ee8 k),(178,Ef1 k)] [(15200001009,[0,1,5,6,7,8]),(15200001012,[0,1,5,6,7,8,9]),(15200001019,[0,5,11,12])]
def Bw2 (k n:Nat) (a0:List A0) (v5:Int) (r1:List A1) (r5:List Int):=lV (Bd0 k) D08 n 15200001019 [1,1,1,1,1,1,1,1,0,1,0,0] Tryz.f152 [.b 4,fS [1,1,1,1,1,1,1,1,1] Tryz.f152, .fn Tryz.f152] ⟨⟨(C4 95 0 [(0,one (.slc 49 B0 a0)),oR 5 100,oR 11 101,oI 12 v5]),[(100, .row 145 B6 r1 true),(101, .row 3 (.int .i64) r5 true)]⟩,15200001000,1,[(0,(C4 0 0 []))]⟩
def Bw3 (k n:Nat) (a0:List A0) (a1:List (List A1)) (v1:Int) (r1:List A1) (r2:List Int) (xs2:List Int):=lV (Bd0 k) D08 n 15200001009 [1,1,1,1,1,1,0,1,0,0] Tryz.f152 [.b 0,fS [1,1,1,1,1,1,1] Tryz.f152, .fn Tryz.f152] ⟨⟨(C4 95 0 [(0,one (.slc 49 B0 a0)),(1,one (.slc 127 (.slice 145 B6) a1)),oR 5 100,oR 6 101,oR 7 102,oI 8 v1]),[(100, .row 145 B6 r1 true),(101, .row 3 (.int .i64) r2 true),(102, .row 3 (.int .i64) xs2 true)]⟩,15200001000,1,[(0,(C4 0 0 []))]⟩
def Bw4 (k n:Nat) (a0:List A0) (a1:List (List A1)) (v1:Int) (v3:Int) (r1:List A1) (r2:List Int) (xs4:List Int):=lV (Bd0 k) D08 n 15200001012 [1,1,1,1,1,1,0,1,0,0,1,0,0,1,0,0] Tryz.f152 [.b 2, .b 1,fS [1,1,1,1,1,1,0,1,0,0,1,1] Tryz.f152, .l 15200001009 (cd [1,1,1,1,1,1,0,1,0,0] (bo Tryz.f152)), .b 0,fS [1,1,1,1,1,1,1] Tryz.f152, .fn Tryz.f152] ⟨⟨(C4 95 0 [(0,one (.slc 49 B0 a0)),(1,one (.slc 127 (.slice 145 B6) a1)),oR 5 100,oR 6 101,oR 7 102,oI 8 v1,oI 9 v3]),[(100, .row 145 B6 r1 true),(101, .row 3 (.int .i64) r2 true),(102, .row 3 (.int .i64) xs4 true)]⟩,15200001000,1,[(0,(C4 0 0 []))]⟩
theorem Dt6 (k:Nat):∀n:Nat,Bw2 k n=b7 k n∧Bw3 k n=Ab2 k n∧Bw4 k n=Ak9 k n
 |0=> ⟨by kernel_rfl,by kernel_rfl,by kernel_rfl⟩
 |n+1=>by
  obtain⟨h2,h0,h1⟩:=Dt6 k n
  exact⟨(by kernel_rfl:_=Bp9 k (Bw2 k n)).trans (by rw[h2];kernel_rfl),(by kernel_rfl:_=Az9 k (Bw4 k n) (Bw2 k n)).trans (by rw[h1,h2];kernel_rfl),(by kernel_rfl:_=A00 k (Bw4 k n) (Bw3 k n)).trans (by rw[h1,h0];kernel_rfl)⟩
def Da2 (k:Nat):Spec:=sP [(.slice 145 B6)] [.o] [(.slice 49 B0),(.slice 127 (.slice 145 B6))] λx=>Di0 k x.1 x.2.1
def Gu8:VV→Ms→Option (List A1×Bool):=Az3 [(.slice 145 B6), .bool] [.o]
def Cp9 (k:Nat):Cfg:=cg k 121 Tryz.f121 [(122,Bc7 k),(152,Da2 k)] [(12100001003,[1,2,6,7])]
def A78 (k n:Nat) (a1:List Int) (v1:Int) (a0:A6) (xs2:List (List A1)):=lV (Cp9 k) Gu8 n 12100001003 [1,1,0,1,0,0] Tryz.f121 [.b 0,fS [1,1,1] Tryz.f121, .fn Tryz.f121] ⟨⟨(C4 44 0 [(1,one (.slc 3 (.int .i64) a1)),oP 2 100 0,oR 6 101,oI 7 v1]),[(100, .box (B1 C8 a0)),(101, .row 127 (.slice 145 B6) xs2 true)]⟩,12100001000,1,[(0,(C4 0 0 []))]⟩
theorem Cq0 (k:Nat):∀n:Nat,A78 k n=Y2 k n
 |0=>by kernel_rfl
 |n+1=>by
  obtain h0:=Cq0 k n
  exact(by kernel_rfl:_=A51 k (A78 k n)).trans (by rw[h0];kernel_rfl)
def A79 (k:Nat):Spec:=sP [(.slice 145 B6), .bool] [.o] [C8,(.slice 3 (.int .i64))] λx=>Av9 k x.1 x.2.1
def Dt7 (k:Nat):Cfg:=cg k 123 Tryz.f123 [(122,Bc7 k)] [(12300001003,[1,2,5,6])]
def Bw5 (k n:Nat) (a1:List Int) (v1:Int) (v2:Int) (a0:A6):=lV (Dt7 k) B40 n 12300001003 [1,1,0,1,0,0] Tryz.f123 [.b 0,fS [1,1,1] Tryz.f123, .fn Tryz.f123] ⟨⟨(C4 42 0 [(1,one (.slc 3 (.int .i64) a1)),oP 2 100 0,oI 5 v1,oI 6 v2]),[(100, .box (B1 C8 a0))]⟩,12300001000,1,[(0,(C4 0 0 []))]⟩
theorem Dt8 (k:Nat):∀n:Nat,Bw5 k n=Ab3 k n
 |0=>by kernel_rfl
 |n+1=>by
  obtain h0:=Dt8 k n
  exact(by kernel_rfl:_=Bq0 k (Bw5 k n)).trans (by rw[h0];kernel_rfl)
def Bw6 (k:Nat):Spec:=sP [(.int .i64)] [] [C8,(.slice 3 (.int .i64))] λx=>U7 k x.1 x.2.1
def Fw0 (k:Nat):Cfg:=cg k 96 Tryz.f96 [(59,A21 k),(121,A79 k),(122,Bc7 k),(123,Bw6 k),(124,Bv6 k),(125,Cx1 k),(126,Ee5 k)] []
def Cb4 (k:Nat):Spec:=sP [C8, .bool] [.o, .o, .o] [C8,B0] λx=>B71 k x.1 x.2.1
def B26 (k:Nat):Cfg:=cg k 56 Tryz.f56 [] [(5600001004,[0,1,5])]
def As8 (k n:Nat) (a0:List Int) (a1:List Int) (v1:Int):=lV (B26 k) p6 n 5600001004 [1,1,0,1,0,0] Tryz.f56 [.b 0,fS [1,1,1] Tryz.f56, .fn Tryz.f56] ⟨⟨(C4 26 0 [(0,one (.slc 3 (.int .i64) a0)),(1,one (.slc 3 (.int .i64) a1)),oI 5 v1]),[]⟩,5600001000,1,[(0,(C4 0 0 []))]⟩
theorem B27 (k:Nat):∀n:Nat,As8 k n=G2 k n
 |0=>by kernel_rfl
 |n+1=>by
  obtain h0:=B27 k n
  exact(by kernel_rfl:_=O3 k (As8 k n)).trans (by rw[h0];kernel_rfl)
def As9 (k:Nat):Spec:=sP [.bool] [] [(.slice 3 (.int .i64)),(.slice 3 (.int .i64))] λx=>N3 k x.1 x.2.1
def Fj7 (k:Nat):Cfg:=cg k 98 Tryz.f98 [(56,As9 k)] []
def Bw7 (k:Nat):Spec:=sP [.bool] [] [B0,B0] λx=>A28 k x.1 x.2.1
def Bl7 (k:Nat):Cfg:=cg k 127 Tryz.f127 [] [(12700001004,[0,1,5])]
def An4 (k n:Nat) (a0:List A1) (a1:List A1) (v1:Int):=lV (Bl7 k) p6 n 12700001004 [1,1,0,1,0,0] Tryz.f127 [.b 0,fS [1,1,1] Tryz.f127, .fn Tryz.f127] ⟨⟨(C4 26 0 [(0,one (.slc 145 B6 a0)),(1,one (.slc 145 B6 a1)),oI 5 v1]),[]⟩,12700001000,1,[(0,(C4 0 0 []))]⟩
theorem Bl8 (k:Nat):∀n:Nat,An4 k n=N5 k n
 |0=>by kernel_rfl
 |n+1=>by
  obtain h0:=Bl8 k n
  exact(by kernel_rfl:_=p8 k (An4 k n)).trans (by rw[h0];kernel_rfl)
def Bd1 (k:Nat):Spec:=sP [.bool] [] [(.slice 145 B6),(.slice 145 B6)] λx=>Al0 k x.1 x.2.1
def Bd2 (k:Nat):Cfg:=cg k 97 Tryz.f97 [(98,Bw7 k),(127,Bd1 k)] [(9700001004,[2,3,5]),(9700001009,[2,3,6]),(9700001014,[2,3,7])]
def Bw8 (k n:Nat) (v3:Int) (a0:A6) (a1:A6):=lV (Bd2 k) p6 n 9700001014 [1,1,1,1,0,1,0,0] Tryz.f97 [.b 4,fS [1,1,1,1,1] Tryz.f97, .fn Tryz.f97] ⟨⟨(C4 89 0 [oP 2 100 0,oP 3 101 0,oI 7 v3]),[(100, .box (B1 C8 a0)),(101, .box (B1 C8 a1))]⟩,9700001000,1,[(0,(C4 0 0 []))]⟩
def Bw9 (k n:Nat) (v2:Int) (a0:A6) (a1:A6):=lV (Bd2 k) p6 n 9700001009 [1,1,1,0,1,0,0] Tryz.f97 [.b 2,fS [1,1,1,1] Tryz.f97, .fn Tryz.f97] ⟨⟨(C4 89 0 [oP 2 100 0,oP 3 101 0,oI 6 v2]),[(100, .box (B1 C8 a0)),(101, .box (B1 C8 a1))]⟩,9700001000,1,[(0,(C4 0 0 []))]⟩
def Bx0 (k n:Nat) (v1:Int) (a0:A6) (a1:A6):=lV (Bd2 k) p6 n 9700001004 [1,1,0,1,0,0] Tryz.f97 [.b 0,fS [1,1,1] Tryz.f97, .fn Tryz.f97] ⟨⟨(C4 89 0 [oP 2 100 0,oP 3 101 0,oI 5 v1]),[(100, .box (B1 C8 a0)),(101, .box (B1 C8 a1))]⟩,9700001000,1,[(0,(C4 0 0 []))]⟩
theorem Dt9 (k:Nat):∀n:Nat,Bw8 k n=Ab4 k n∧Bw9 k n=Ab5 k n∧Bx0 k n=b8 k n
 |0=> ⟨by kernel_rfl,by kernel_rfl,by kernel_rfl⟩
 |n+1=>by
  obtain⟨h2,h1,h0⟩:=Dt9 k n
  exact⟨(by kernel_rfl:_=A01 k (Bw8 k n)).trans (by rw[h2];kernel_rfl),(by kernel_rfl:_=A02 k (Bw9 k n) (Bw8 k n)).trans (by rw[h1,h2];kernel_rfl),(by kernel_rfl:_=A03 k (Bx0 k n) (Bw9 k n)).trans (by rw[h0,h1];kernel_rfl)⟩
def Da3 (k:Nat):Spec:=sP [.bool] [] [C8,C8] λx=>Di1 k x.1 x.2.1
def Ef2 (k:Nat):Cfg:=cf k 54 Tryz.f54 [(96,Cb4 k),(97,Da3 k)] [] [] [(5400001005,[1,3,4])] [(5400001005,[(3,[0,0],49,B0,false,false),(3,[0,1],127,(.slice 145 B6),false,false),(3,[0,2],4, .bool,false,false)])] [] [] []
def Cb5 (k n:Nat) (v1:Int) (a0:A6) (xs2:List A0) (xs3:List (List A1)) (xs4:List Bool):=lV (Ef2 k) p6 n 5400001005 [1,1,1,0,1,0,0] Tryz.f54 [.b 0,fS [1,1,1,1] Tryz.f54, .fn Tryz.f54] ⟨⟨(C4 35 0 [oP 1 100 0,oP 3 101 0,oI 4 v1]),[(100, .box (B1 C8 a0)),(101, .box [cR 102,cR 103,cR 104]),(102, .row 49 B0 xs2 true),(103, .row 127 (.slice 145 B6) xs3 true),(104, .row 4 .bool xs4 true)]⟩,5400001000,1,[(0,(C4 0 0 []))]⟩
theorem Ef3 (k:Nat):∀n:Nat,Cb5 k n=Ah6 k n
 |0=>by kernel_rfl
 |n+1=>by
  obtain h0:=Ef3 k n
  exact(by kernel_rfl:_=B72 k (Cb5 k n)).trans (by rw[h0];kernel_rfl)
def Du0 (k:Nat):Spec:=sP [.bool] [] [C8] λx=>D81 k x.1
def Ef4 (k:Nat):Cfg:=cg k 55 Tryz.f55 [] [(5500001003,[1,3,4])]
def Cb6 (k n:Nat) (v1:Int) (a0:A6) (xs2:List Int):=lV (Ef4 k) i6 n 5500001003 [1,1,0,1,0,0] Tryz.f55 [.b 0,fS [1,1,1] Tryz.f55, .fn Tryz.f55] ⟨⟨(C4 38 0 [oP 1 100 0,oR 3 101,oI 4 v1]),[(100, .box (B1 C8 a0)),(101, .row 3 (.int .i64) xs2 true)]⟩,5500001000,1,[(0,(C4 0 0 []))]⟩
theorem Ef5 (k:Nat):∀n:Nat,Cb6 k n=Ah7 k n
 |0=>by kernel_rfl
 |n+1=>by
  obtain h0:=Ef5 k n
  exact(by kernel_rfl:_=B73 k (Cb6 k n)).trans (by rw[h0];kernel_rfl)
def Du1 (k:Nat):Spec:=sP [(.slice 3 (.int .i64))] [.o] [C8] λx=>D83 k x.1
def Cx9 (k:Nat):Cfg:=cg k 19 Tryz.f19 [(21,O6 k),(54,Du0 k),(55,Du1 k),(56,As9 k)] [(1900001004,[1,3]),(1900001011,[1,5,6])]
def Cb7 (k n:Nat) (v2:Int) (a0:B4) (r4:List Int):=lV (Cx9 k) p6 n 1900001011 [1,1,1,1,0,1,0,0] Tryz.f19 [.b 2,fS [1,1,1,1,1] Tryz.f19, .fn Tryz.f19] ⟨⟨(C4 113 0 [oP 1 100 0,oR 5 101,oI 6 v2]),[(100, .box (B1 R1 a0)),(101, .row 3 (.int .i64) r4 true)]⟩,1900001000,1,[(0,(C4 0 0 []))]⟩
def Cb8 (k n:Nat) (v1:Int) (a0:B4):=lV (Cx9 k) p6 n 1900001004 [1,1,0,1,0,0] Tryz.f19 [.b 0,fS [1,1,1] Tryz.f19, .fn Tryz.f19] ⟨⟨(C4 113 0 [oP 1 100 0,oI 3 v1]),[(100, .box (B1 R1 a0))]⟩,1900001000,1,[(0,(C4 0 0 []))]⟩
theorem Ef6 (k:Nat):∀n:Nat,Cb7 k n=u6 k n∧Cb8 k n=P4 k n
 |0=> ⟨by kernel_rfl,by kernel_rfl⟩
 |n+1=>by
  obtain⟨h1,h0⟩:=Ef6 k n
  exact⟨(by kernel_rfl:_=A99 k (Cb7 k n)).trans (by rw[h1];kernel_rfl),(by kernel_rfl:_=Ba0 k (Cb8 k n) (Cb7 k n)).trans (by rw[h0,h1];kernel_rfl)⟩
def Du2 (k:Nat):Spec:=sP [.bool] [] [R1] λx=>Bk2 k x.1
def E57 (k:Nat):Cfg:=cg k 57 Tryz.f57 [(98,Bw7 k)] []
def Cq1 (k:Nat):Spec:=sP [.bool] [] [B0] λx=>Bq1 k x.1
def En1 (k:Nat):Cfg:=cg k 20 Tryz.f20 [(21,O6 k),(57,Cq1 k),(58,Bv3 k),(59,A21 k)] []
def Cb9 (k:Nat):Spec:=sP [.bool] [] [G4] λx=>Ba1 k x.1
def Fj8 (k:Nat):Cfg:=cg k 128 Tryz.f128 [] []
def A22 (k:Nat):Spec:=sP [B0] [.o, .o] [B0] λx=>A29 k x.1
def Gu9:VV→Ms→Option (List A0):=Az3 [(.slice 49 B0)] [.o]
def B28 (k:Nat):Cfg:=cg k 100 Tryz.f100 [(128,A22 k)] [(10000001003,[0,3,4])]
def At0 (k n:Nat) (a0:List A0) (v1:Int) (xs2:List A0):=lV (B28 k) Gu9 n 10000001003 [1,1,0,1,0,0] Tryz.f100 [.b 0,fS [1,1,1] Tryz.f100, .fn Tryz.f100] ⟨⟨(C4 21 0 [(0,one (.slc 49 B0 a0)),oR 3 100,oI 4 v1]),[(100, .row 49 B0 xs2 true)]⟩,10000001000,1,[(0,(C4 0 0 []))]⟩
theorem B29 (k:Nat):∀n:Nat,At0 k n=S8 k n
 |0=>by kernel_rfl
 |n+1=>by
  obtain h0:=B29 k n
  exact(by kernel_rfl:_=Aq6 k (At0 k n)).trans (by rw[h0];kernel_rfl)
def Bl9 (k:Nat):Spec:=sP [(.slice 49 B0)] [.o] [(.slice 49 B0)] λx=>Be9 k x.1
def Gv0:VV→Ms→Option A6:=Az3 [C8] [.o, .o, .o]
def Du3 (k:Nat):Cfg:=cf k 60 Tryz.f60 [(100,Bl9 k)] [] [] [(6000001003,[1,2,3,4])] [(6000001003,[(3,[0,1],127,(.slice 145 B6),false,false)])] [] [] []
def Bx1 (k n:Nat) (v1:Int) (a0:A6) (r1:List A0) (xs2:List (List A1)):=lV (Du3 k) Gv0 n 6000001003 [1,1,0,1,0,0] Tryz.f60 [.b 0,fS [1,1,1] Tryz.f60, .fn Tryz.f60] ⟨⟨(C4 33 0 [oP 1 100 0,oP 2 101 0,oP 3 102 0,oI 4 v1]),[(100, .box (B1 C8 a0)),(101, .box [.nilS, .nilS, .nilS]),(102, .box [cR 103,cR 104,cR 105]),(103, .row 49 B0 r1 true),(104, .row 127 (.slice 145 B6) xs2 true),(105, .row 4 .bool (([]:List Bool)++a0.2.2.1) true)]⟩,6000001000,1,[(0,(C4 0 0 []))]⟩
theorem Du4 (k:Nat):∀n:Nat,Bx1 k n=Ab6 k n
 |0=>by kernel_rfl
 |n+1=>by
  obtain h0:=Du4 k n
  exact(by kernel_rfl:_=Bq2 k (Bx1 k n)).trans (by rw[h0];kernel_rfl)
def Bx2 (k:Nat):Spec:=sP [C8] [.o, .o, .o] [C8] λx=>Cj1 k x.1
def Gv1:VV→Ms→Option B4:=Az3 [R1] [.o, .o, .o, .o, .o]
def Du5 (k:Nat):Cfg:=cf k 22 Tryz.f22 [(60,Bx2 k)] [] [] [(2200001003,[1,2,3,4])] [(2200001003,[(3,[0,4],98,T0,false,false)])] [] [] []
def Bx3 (k n:Nat) (v1:Int) (a0:B4) (r1:A6) (xs2:List C3):=lV (Du5 k) Gv1 n 2200001003 [1,1,0,1,0,0] Tryz.f22 [.b 0,fS [1,1,1] Tryz.f22, .fn Tryz.f22] ⟨⟨(C4 38 0 [oP 1 100 0,oP 2 101 0,oP 3 102 0,oI 4 v1]),[(100, .box (B1 R1 a0)),(101, .box [.nilS, .nilS, .nilS, .nilS, .nilS]),(102, .box [cR 103,cR 104,cR 105,cR 106,cR 107]),(103, .row 67 C9 (([]:List A7)++a0.1) true),(104, .row 49 B0 r1.1 true),(105, .row 127 (.slice 145 B6) r1.2.1 true),(106, .row 4 .bool r1.2.2.1 true),(107, .row 98 T0 xs2 true)]⟩,2200001000,1,[(0,(C4 0 0 []))]⟩
theorem Du6 (k:Nat):∀n:Nat,Bx3 k n=Ab7 k n
 |0=>by kernel_rfl
 |n+1=>by
  obtain h0:=Du6 k n
  exact(by kernel_rfl:_=Bq3 k (Bx3 k n)).trans (by rw[h0];kernel_rfl)
def Da4 (k:Nat):Spec:=sP [R1] [.o, .o, .o, .o, .o] [R1] λx=>Di2 k x.1
def En2 (k:Nat):Cfg:=cg k 61 Tryz.f61 [] []
def Cc0 (k:Nat):Spec:=sP [(.int .u8)] [] [(.int .i64)] λx=>Aw0 k x.1
def Gn5:VV→Ms→Option ByteArray:=Az3 [.str] []
def Du7 (k:Nat):Cfg:=cg k 23 Tryz.f23 [(61,Cc0 k)] [(2300001005,[0,3,4])]
def Bx4 (k n:Nat) (a0:Int) (v1:Bool) (v2:ByteArray):=lV (Du7 k) Gn5 n 2300001005 [1,1,1,1,0,0,0] Tryz.f23 [.b 0,fS [1,1,1,1,1] Tryz.f23, .fn Tryz.f23] ⟨⟨(C4 30 0 [oI 0 a0,oB 3 v1,(4,one (.str v2))]),[]⟩,2300001000,1,[(0,(C4 0 0 []))]⟩
theorem Du8 (k:Nat):∀n:Nat,Bx4 k n=Ab8 k n
 |0=>by kernel_rfl
 |n+1=>by
  obtain h0:=Du8 k n
  exact(by kernel_rfl:_=Bq4 k (Bx4 k n)).trans (by rw[h0];kernel_rfl)
def Da5 (k:Nat):Spec:=sP [.str] [] [(.int .i64)] λx=>Ah8 k x.1
def E58 (k:Nat):Cfg:=cg k 102 Tryz.f102 [(60,Bx2 k),(96,Cb4 k)] []
def Cq2 (k:Nat):Spec:=sP [C8, .bool] [.o, .o, .o] [C8,B0] λx=>Bq5 k x.1 x.2.1
def Cy0 (k:Nat):Cfg:=cg k 159 Tryz.f159 [(181,A75 k),(182,Cb2 k)] [(15900001003,[1,3,4]),(15900001007,[1,3,4,5,6])]
def Cc1 (k n:Nat) (v1:Int) (a0:A6) (xs2:List Int):=lV (Cy0 k) i6 n 15900001003 [1,1,0,1,0,0] Tryz.f159 [.b 0,fS [1,1,1] Tryz.f159, .fn Tryz.f159] ⟨⟨(C4 49 0 [oP 1 100 0,oR 3 101,oI 4 v1]),[(100, .box (B1 C8 a0)),(101, .row 3 (.int .i64) xs2 true)]⟩,15900001000,1,[(0,(C4 0 0 []))]⟩
def Cc2 (k n:Nat) (v1:Int) (v3:Bool) (v4:Int) (a0:A6) (xs2:List Int):=lV (Cy0 k) i6 n 15900001007 [1,1,0,1,0,0,1,0,0,1,0,1,0,0] Tryz.f159 [.b 2,fS [1,1,0,1,0,0,1,0,0,1,1] Tryz.f159, .b 1,fS [1,1,0,1,0,0,1,1] Tryz.f159, .l 15900001003 (cd [1,1,0,1,0,0] (bo Tryz.f159)), .b 0,fS [1,1,1] Tryz.f159, .fn Tryz.f159] ⟨⟨(C4 49 0 [oP 1 100 0,oR 3 101,oI 4 v1,oB 5 v3,oI 6 v4]),[(100, .box (B1 C8 a0)),(101, .row 3 (.int .i64) xs2 true)]⟩,15900001000,1,[(0,(C4 0 0 []))]⟩
theorem Ef7 (k:Nat):∀n:Nat,Cc1 k n=Ah9 k n∧Cc2 k n=Aw2 k n
 |0=> ⟨by kernel_rfl,by kernel_rfl⟩
 |n+1=>by
  obtain⟨h0,h1⟩:=Ef7 k n
  exact⟨(by kernel_rfl:_=Ba2 k (Cc2 k n)).trans (by rw[h1];kernel_rfl),(by kernel_rfl:_=Ba3 k (Cc2 k n) (Cc1 k n)).trans (by rw[h1,h0];kernel_rfl)⟩
def Cc3 (k:Nat):Spec:=sP [(.slice 3 (.int .i64))] [.o] [C8] λx=>Bk3 k x.1
def Fj9 (k:Nat):Cfg:=cg k 130 Tryz.f130 [(121,A79 k),(159,Cc3 k)] []
def Da6 (k:Nat):Spec:=sP [(.slice 145 B6)] [.o] [C8] λx=>Di3 k x.1
def Du9 (k:Nat):Cfg:=cg k 103 Tryz.f103 [(130,Da6 k),(131,o8 k)] [(10300001004,[1,3,4,5])]
def Bx5 (k n:Nat) (v1:Int) (a0:A6) (xs2:List Int) (r1:List A1):=lV (Du9 k) i6 n 10300001004 [1,1,1,0,1,0,0] Tryz.f103 [.b 0,fS [1,1,1,1] Tryz.f103, .fn Tryz.f103] ⟨⟨(C4 24 0 [oP 1 100 0,oR 3 101,oR 4 102,oI 5 v1]),[(100, .box (B1 C8 a0)),(101, .row 3 (.int .i64) xs2 true),(102, .row 145 B6 r1 true)]⟩,10300001000,1,[(0,(C4 0 0 []))]⟩
theorem Dv0 (k:Nat):∀n:Nat,Bx5 k n=Ab9 k n
 |0=>by kernel_rfl
 |n+1=>by
  obtain h0:=Dv0 k n
  exact(by kernel_rfl:_=Bq6 k (Bx5 k n)).trans (by rw[h0];kernel_rfl)
def Da7 (k:Nat):Spec:=sP [(.slice 3 (.int .i64))] [.o] [C8] λx=>Di4 k x.1
def Ga0 (k:Nat):Cfg:=cg k 129 Tryz.f129 [(21,O6 k),(123,Bw6 k),(128,A22 k),(159,Cc3 k)] []
def Ef8 (k:Nat):Spec:=sP [B0] [.o, .o] [C8,(.int .i64),B0] λx=>E02 k x.1 x.2.1 x.2.2.1
def Gv2:VV→Ms→Option (List A0):=Az3 [(.slice 49 B0)] [.t]
def Bm0 (k:Nat):Cfg:=cf k 100 Tryz.f100 [(128,A22 k)] [] [] [(10000001003,[0,3,4])] [] [49] [] []
def An5 (k n:Nat) (a0:List A0) (v1:Int) (xs2:List A0):=lV (Bm0 k) Gv2 n 10000001003 [1,1,0,1,0,0] Tryz.f100 [.b 0,fS [1,1,1] Tryz.f100, .fn Tryz.f100] ⟨⟨(C4 21 0 [(0,one (.slc 49 B0 a0)),oR 3 100,oI 4 v1]),[(100, .tree 49 B0 xs2 1)]⟩,10000001000,1,[(0,(C4 0 0 []))]⟩
theorem Bm1 (k:Nat):∀n:Nat,An5 k n=Q1 k n
 |0=>by kernel_rfl
 |n+1=>by
  obtain h0:=Bm1 k n
  exact(by kernel_rfl:_=Al1 k (An5 k n)).trans (by rw[h0];kernel_rfl)
def Bd3 (k:Nat):Spec:=sP [(.slice 49 B0)] [.t] [(.slice 49 B0)] λx=>A52 k x.1
def Gp9:VV→Ms→Option A6:=Az3 [C8] [.t, .t, .o]
def Da8 (k:Nat):Cfg:=cf k 60 Tryz.f60 [(100,Bd3 k)] [] [] [(6000001003,[1,2,3,4])] [(6000001003,[(3,[999999,0,1],127,(.slice 145 B6),false,false)])] [127] [] []
def Bg8 (k n:Nat) (v1:Int) (a0:A6) (r1:List A0) (xs2:List (List A1)):=lV (Da8 k) Gp9 n 6000001003 [1,1,0,1,0,0] Tryz.f60 [.b 0,fS [1,1,1] Tryz.f60, .fn Tryz.f60] ⟨⟨(C4 33 0 [oP 1 100 0,oP 2 101 0,oP 3 102 0,oI 4 v1]),[(100, .box (B1 C8 a0)),(101, .box [.nilS, .nilS, .nilS]),(102, .box [cR 103,cR 104,cR 105]),(103, .tree 49 B0 r1 0),(104, .tree 127 (.slice 145 B6) xs2 1),(105, .row 4 .bool (([]:List Bool)++a0.2.2.1) true)]⟩,6000001000,1,[(0,(C4 0 0 []))]⟩
theorem Da9 (k:Nat):∀n:Nat,Bg8 k n=m6 k n
 |0=>by kernel_rfl
 |n+1=>by
  obtain h0:=Da9 k n
  exact(by kernel_rfl:_=Bf0 k (Bg8 k n)).trans (by rw[h0];kernel_rfl)
def Cq3 (k:Nat):Spec:=sP [C8] [.t, .t, .o] [C8] λx=>Cu9 k x.1
def Gn6:VV→Ms→Option B4:=Az3 [R1] [.o, .t, .t, .o, .t]
def Db0 (k:Nat):Cfg:=cf k 22 Tryz.f22 [(60,Cq3 k)] [] [] [(2200001003,[1,2,3,4])] [(2200001003,[(3,[999999,0,4],98,T0,false,false)])] [98] [] []
def Bg9 (k n:Nat) (v1:Int) (a0:B4) (r1:A6) (xs2:List C3):=lV (Db0 k) Gn6 n 2200001003 [1,1,0,1,0,0] Tryz.f22 [.b 0,fS [1,1,1] Tryz.f22, .fn Tryz.f22] ⟨⟨(C4 38 0 [oP 1 100 0,oP 2 101 0,oP 3 102 0,oI 4 v1]),[(100, .box (B1 R1 a0)),(101, .box [.nilS, .nilS, .nilS, .nilS, .nilS]),(102, .box [cR 103,cR 104,cR 105,cR 106,cR 107]),(103, .row 67 C9 (([]:List A7)++a0.1) true),(104, .tree 49 B0 r1.1 0),(105, .tree 127 (.slice 145 B6) r1.2.1 0),(106, .row 4 .bool r1.2.2.1 true),(107, .tree 98 T0 xs2 1)]⟩,2200001000,1,[(0,(C4 0 0 []))]⟩
theorem Db1 (k:Nat):∀n:Nat,Bg9 k n=m7 k n
 |0=>by kernel_rfl
 |n+1=>by
  obtain h0:=Db1 k n
  exact(by kernel_rfl:_=Bf1 k (Bg9 k n)).trans (by rw[h0];kernel_rfl)
def Cq4 (k:Nat):Spec:=sP [R1] [.o, .t, .t, .o, .t] [R1] λx=>A53 k x.1
def Db2:VV→Ms→Option (B4×ByteArray×Bool):=Az3 [R1, .str, .bool] [.o, .t, .t, .o, .t]
def Ax2 (k:Nat):Cfg:=cf k 6 Tryz.f6 [(19,Du2 k),(20,Cb9 k),(21,O6 k),(22,Da4 k),(23,Da5 k),(102,Cq2 k),(103,Da7 k),(129,Ef8 k)] [] [(24,Tryz.f24),(62,Tryz.f62),(101,Tryz.f101)] [(600001008,[1,6,9,11,12]),(600001015,[1,5,6,9,10,13]),(6200003023,[11,12,13]),(10100004009,[0,7,10])] [(600001015,[(9,[0,1],49,B0,true,false),(9,[0,2],127,(.slice 145 B6),true,false),(9,[0,3],4, .bool,true,false)])] [] [(22,94,Cq4 k)] [(6200003023,[[0,1,7,9,47],[1,5,6,9,85]]),(10100004009,[[22],[0,1,7,9,47],[1,5,6,9,85]])]
def Bx6 (k n:Nat) (a1:Int) (v1:Int) (xs2:List A7) (r4:B4):=lV (Ax2 k) Db2 n 600001008 [1,1,1,1,0,1,0,1,0,1,0,0] Tryz.f6 [.b 0,fS [1,1,1,1,0,1,0,1,1] Tryz.f6,fS [1,1,1,1,1] Tryz.f6, .fn Tryz.f6] ⟨⟨(C4 96 0 [oI 1 a1,oP 6 100 0,oP 9 101 0,oR 11 102,oI 12 v1]),[(100, .box [.nilS, .nilS, .nilS, .nilS, .nilS]),(101, .box [cR 103,cR 104,cR 105,cR 106,cR 107]),(102, .row 67 C9 xs2 true),(103, .row 67 C9 r4.1 true),(104, .row 49 B0 r4.2.1.1 true),(105, .row 127 (.slice 145 B6) r4.2.1.2.1 true),(106, .row 4 .bool r4.2.1.2.2.1 true),(107, .row 98 T0 r4.2.2.1 true)]⟩,600001000,1,[(0,(C4 0 0 []))]⟩
def An6 (k n:Nat) (a1:Int) (v3:ByteArray) (v4:Int) (a2:B7) (xs5:List A7) (xs6:List A0) (xs7:List (List A1)) (xs8:List Bool) (xs9:List C3):=lV (Ax2 k) Db2 n 600001015 [1,1,1,1,0,1,1,1,0,0] Tryz.f6 [.b 2,fS [1,1,1,1,1] Tryz.f6, .fn Tryz.f6] ⟨⟨(C4 96 0 [oI 1 a1,oP 5 100 0,oP 6 101 0,oP 9 102 0,(10,one (.str v3)),oI 13 v4]),[(100, .box (B1 G4 a2)),(101, .box [.nilS, .nilS, .nilS, .nilS, .nilS]),(102, .box [cR 103,cR 104,cR 105,cR 106,cR 107]),(103, .row 67 C9 xs5 true),(104, .row 49 B0 xs6 false),(105, .row 127 (.slice 145 B6) xs7 false),(106, .row 4 .bool xs8 false),(107, .row 98 T0 xs9 true)]⟩,600001000,1,[(0,(C4 0 0 []))]⟩
def Bx7 (k n:Nat) (v10:Int) (r8:A0) (a2:B7) (xs5:List A7) (v4:Int) (r9:A6×Bool) (xs11:List C3) (a1:Int) (v3:ByteArray):=lV (Ax2 k) Db2 n 10100004009 [1,1,1,1,1,1,0,1,0,0] Tryz.f101 [.b 0,fS [1,1,1,1,1,1,1] Tryz.f101, .fn Tryz.f101,fO [1,0,1,0,1,0,0] Tryz.f62 5 22,fS [1,0,1,0,1,0,1] Tryz.f62, .b 0,fS [1,1] Tryz.f62, .fn Tryz.f62,fO [1,1,1,0] Tryz.f24 4 47,fS [1,1,1,1] Tryz.f24, .fn Tryz.f24,fO [1,1,1,1,0,1,1,1,0,0,1,0,0,1,0,0] Tryz.f6 4 85,fS [1,1,1,1,0,1,1,1,0,0,1,0,0,1,0,1] Tryz.f6, .b 3,fS [1,1,1,1,0,1,1,1,0,0,1,1] Tryz.f6, .l 600001015 (cd [1,1,1,1,0,1,1,1,0,0] (bo Tryz.f6)), .b 2,fS [1,1,1,1,1] Tryz.f6, .fn Tryz.f6] ⟨⟨(C4 76 0 [oP 0 100 0,oP 7 101 0,oI 10 v10]),[(100, .box [cR 106,cR 107,cR 108,cR 109,cR 110]),(101, .box [cI r8.1,cI r8.2.1,cI r8.2.2.1,cI r8.2.2.2.1,cI r8.2.2.2.2.1,cR 111, .str r8.2.2.2.2.2.2.1,cR 112,cI r8.2.2.2.2.2.2.2.2.1]),(102, .box (B1 G4 a2)),(103, .box (B1 C9 (rd A3 xs5 v4.toNat))),(104, .box (B1 G4 a2)),(105, .box [.nilS, .nilS, .nilS, .nilS, .nilS]),(106, .row 67 C9 xs5 true),(107, .row 49 B0 r9.1.1 true),(108, .row 127 (.slice 145 B6) r9.1.2.1 true),(109, .row 4 .bool r9.1.2.2.1 true),(110, .row 98 T0 xs11 true),(111, .row 3 (.int .i64) r8.2.2.2.2.2.1 false),(112, .row 3 (.int .i64) r8.2.2.2.2.2.2.2.1 false)]⟩,10100004000,4,[(6200003000,(C4 113 0 [])),(2400002000,(C4 61 0 [oP 0 100 0,oI 1 v4,oP 7 102 0,oP 9 103 0])),(600001000,(C4 96 0 [oI 1 a1,oP 5 104 0,oP 6 105 0,oP 9 100 0])),(0,(C4 0 0 []))]⟩
def Bx8 (k n:Nat) (v12:ByteArray) (v13:Int) (r14:List Int) (a2:B7) (xs5:List A7) (v4:Int) (xs6:List A0) (xs7:List (List A1)) (xs8:List Bool) (xs9:List C3) (a1:Int) (v3:ByteArray):=lV (Ax2 k) Db2 n 6200003023 [1,1,1,1,0,1,0,0] Tryz.f62 [.b 1,fS [1,1,1,1,1] Tryz.f62, .fn Tryz.f62,fO [1,1,1,0] Tryz.f24 4 47,fS [1,1,1,1] Tryz.f24, .fn Tryz.f24,fO [1,1,1,1,0,1,1,1,0,0,1,0,0,1,0,0] Tryz.f6 4 85,fS [1,1,1,1,0,1,1,1,0,0,1,0,0,1,0,1] Tryz.f6, .b 3,fS [1,1,1,1,0,1,1,1,0,0,1,1] Tryz.f6, .l 600001015 (cd [1,1,1,1,0,1,1,1,0,0] (bo Tryz.f6)), .b 2,fS [1,1,1,1,1] Tryz.f6, .fn Tryz.f6] ⟨⟨(C4 113 0 [(11,one (.str v12)),oR 12 100,oI 13 v13]),[(100, .row 3 (.int .i64) r14 true),(101, .box [cR 106,cR 107,cR 108,cR 109,cR 110]),(102, .box (B1 G4 a2)),(103, .box (B1 C9 (rd A3 xs5 v4.toNat))),(104, .box (B1 G4 a2)),(105, .box [.nilS, .nilS, .nilS, .nilS, .nilS]),(106, .row 67 C9 xs5 true),(107, .row 49 B0 xs6 false),(108, .row 127 (.slice 145 B6) xs7 false),(109, .row 4 .bool xs8 false),(110, .row 98 T0 xs9 true)]⟩,6200003000,3,[(2400002000,(C4 61 0 [oP 0 101 0,oI 1 v4,oP 7 102 0,oP 9 103 0])),(600001000,(C4 96 0 [oI 1 a1,oP 5 104 0,oP 6 105 0,oP 9 101 0])),(0,(C4 0 0 []))]⟩
theorem Cc4 (k:Nat):∀n:Nat,Bx6 k n=V8 k n∧An6 k n=H6 k n∧Bx7 k n=Ac1 k n∧Bx8 k n=Ac2 k n
 |0=> ⟨by kernel_rfl,by kernel_rfl,by kernel_rfl,by kernel_rfl⟩
 |n+1=>by
  obtain⟨h0,h1,h2,h3⟩:=Cc4 k n
  exact⟨(by kernel_rfl:_=Bq7 k (Bx6 k n)).trans (by rw[h0];kernel_rfl),(by kernel_rfl:_=Ac0 k (An6 k n) (Bx7 k n) (Bx8 k n)).trans (by rw[h1,h2,h3];kernel_rfl),(by kernel_rfl:_=A04 k (Bx7 k n) (An6 k n)).trans (by rw[h2,h1];kernel_rfl),(by kernel_rfl:_=A05 k (Bx8 k n) (An6 k n)).trans (by rw[h3,h1];kernel_rfl)⟩
def Db3 (k:Nat):Spec:=sP [R1, .str, .bool] [.o, .t, .t, .o, .t] [R1,(.int .i64),G4] λx=>Bk5 k x.1 x.2.1 x.2.2.1
def En3 (k:Nat):Cfg:=cg k 63 Tryz.f63 [] []
def Cc5 (k:Nat):Spec:=sP [C9] [] [C9] λx=>Aw3 k x.1
def Gv3:VV→Ms→Option (List A7):=Az3 [(.slice 67 C9)] [.o]
def Cc6 (k:Nat):Cfg:=cg k 25 Tryz.f25 [(63,Cc5 k)] [(2500001003,[0,3,4])]
def Ay1 (k n:Nat) (a0:List A7) (v1:Int) (xs2:List A7):=lV (Cc6 k) Gv3 n 2500001003 [1,1,0,1,0,0] Tryz.f25 [.b 0,fS [1,1,1] Tryz.f25, .fn Tryz.f25] ⟨⟨(C4 23 0 [(0,one (.slc 88 C9 a0)),oR 3 100,oI 4 v1]),[(100, .row 67 C9 xs2 true)]⟩,2500001000,1,[(0,(C4 0 0 []))]⟩
theorem Cc7 (k:Nat):∀n:Nat,Ay1 k n=Ag2 k n
 |0=>by kernel_rfl
 |n+1=>by
  obtain h0:=Cc7 k n
  exact(by kernel_rfl:_=B18 k (Ay1 k n)).trans (by rw[h0];kernel_rfl)
def B30 (k:Nat):Spec:=sP [(.slice 67 C9)] [.o] [(.slice 88 C9)] λx=>Bq9 k x.1
def Ef9 (k:Nat):Cfg:=cg k 68 Tryz.f68 [] [(6800001003,[0,3,4])]
def Cc8 (k n:Nat) (a0:List Int) (v1:Int) (xs2:List Int):=lV (Ef9 k) i6 n 6800001003 [1,1,0,1,0,0] Tryz.f68 [.b 0,fS [1,1,1] Tryz.f68, .fn Tryz.f68] ⟨⟨(C4 22 0 [(0,one (.slc 3 (.int .i64) a0)),oR 3 100,oI 4 v1]),[(100, .row 3 (.int .i64) xs2 true)]⟩,6800001000,1,[(0,(C4 0 0 []))]⟩
theorem Eg0 (k:Nat):∀n:Nat,Cc8 k n=Ba4 k n
 |0=>by kernel_rfl
 |n+1=>by
  obtain h0:=Eg0 k n
  exact(by kernel_rfl:_=Do2 k (Cc8 k n)).trans (by rw[h0];kernel_rfl)
def Cc9 (k:Nat):Spec:=sP [(.slice 3 (.int .i64))] [.o] [(.slice 3 (.int .i64))] λx=>B75 k x.1
def Fk0 (k:Nat):Cfg:=cg k 28 Tryz.f28 [(68,Cc9 k)] []
def Bx9 (k:Nat):Spec:=sP [B0] [.o, .o] [B0] λx=>A30 k x.1
def Db4 (k:Nat):Cfg:=cf k 64 Tryz.f64 [(28,Bx9 k)] [] [] [(6400001003,[0,3,4])] [] [49] [] []
def Bh0 (k n:Nat) (a0:List A0) (v1:Int) (xs2:List A0):=lV (Db4 k) Gv2 n 6400001003 [1,1,0,1,0,0] Tryz.f64 [.b 0,fS [1,1,1] Tryz.f64, .fn Tryz.f64] ⟨⟨(C4 23 0 [(0,one (.slc 33 B0 a0)),oR 3 100,oI 4 v1]),[(100, .tree 49 B0 xs2 1)]⟩,6400001000,1,[(0,(C4 0 0 []))]⟩
theorem Db5 (k:Nat):∀n:Nat,Bh0 k n=At9 k n
 |0=>by kernel_rfl
 |n+1=>by
  obtain h0:=Db5 k n
  exact(by kernel_rfl:_=Cn2 k (Bh0 k n)).trans (by rw[h0];kernel_rfl)
def Cq5 (k:Nat):Spec:=sP [(.slice 49 B0)] [.t] [(.slice 33 B0)] λx=>Cv0 k x.1
def Fw1 (k:Nat):Cfg:=cg k 132 Tryz.f132 [] []
def Dv1 (k:Nat):Spec:=sP [B6] [] [B6] λx=>B76 k x.1
def Dv2 (k:Nat):Cfg:=cg k 104 Tryz.f104 [(132,Dv1 k)] [(10400001003,[0,3,4])]
def By0 (k n:Nat) (a0:List A1) (v1:Int) (xs2:List A1):=lV (Dv2 k) D08 n 10400001003 [1,1,0,1,0,0] Tryz.f104 [.b 0,fS [1,1,1] Tryz.f104, .fn Tryz.f104] ⟨⟨(C4 23 0 [(0,one (.slc 147 B6 a0)),oR 3 100,oI 4 v1]),[(100, .row 145 B6 xs2 true)]⟩,10400001000,1,[(0,(C4 0 0 []))]⟩
theorem Dv3 (k:Nat):∀n:Nat,By0 k n=A06 k n
 |0=>by kernel_rfl
 |n+1=>by
  obtain h0:=Dv3 k n
  exact(by kernel_rfl:_=C34 k (By0 k n)).trans (by rw[h0];kernel_rfl)
def Db6 (k:Nat):Spec:=sP [(.slice 145 B6)] [.o] [(.slice 147 B6)] λx=>Cj2 k x.1
def Gv4:VV→Ms→Option (List (List A1)):=Az3 [(.slice 127 (.slice 145 B6))] [.t]
def Db7 (k:Nat):Cfg:=cf k 65 Tryz.f65 [(104,Db6 k)] [] [] [(6500001003,[0,3,4])] [] [127] [] []
def Bh1 (k n:Nat) (a0:List (List A1)) (v1:Int) (xs2:List (List A1)):=lV (Db7 k) Gv4 n 6500001003 [1,1,0,1,0,0] Tryz.f65 [.b 0,fS [1,1,1] Tryz.f65, .fn Tryz.f65] ⟨⟨(C4 23 0 [(0,one (.slc 122 (.slice 147 B6) a0)),oR 3 100,oI 4 v1]),[(100, .tree 127 (.slice 145 B6) xs2 1)]⟩,6500001000,1,[(0,(C4 0 0 []))]⟩
theorem Db8 (k:Nat):∀n:Nat,Bh1 k n=Au0 k n
 |0=>by kernel_rfl
 |n+1=>by
  obtain h0:=Db8 k n
  exact(by kernel_rfl:_=Cn3 k (Bh1 k n)).trans (by rw[h0];kernel_rfl)
def Cq6 (k:Nat):Spec:=sP [(.slice 127 (.slice 145 B6))] [.t] [(.slice 122 (.slice 147 B6))] λx=>Cv1 k x.1
def Gv5:VV→Ms→Option (List Bool):=Az3 [(.slice 4 .bool)] [.o]
def Dv4 (k:Nat):Cfg:=cg k 66 Tryz.f66 [] [(6600001003,[0,3,4])]
def By1 (k n:Nat) (a0:List Bool) (v1:Int) (xs2:List Bool):=lV (Dv4 k) Gv5 n 6600001003 [1,1,0,1,0,0] Tryz.f66 [.b 0,fS [1,1,1] Tryz.f66, .fn Tryz.f66] ⟨⟨(C4 22 0 [(0,one (.slc 4 .bool a0)),oR 3 100,oI 4 v1]),[(100, .row 4 .bool xs2 true)]⟩,6600001000,1,[(0,(C4 0 0 []))]⟩
theorem Dv5 (k:Nat):∀n:Nat,By1 k n=A07 k n
 |0=>by kernel_rfl
 |n+1=>by
  obtain h0:=Dv5 k n
  exact(by kernel_rfl:_=C36 k (By1 k n)).trans (by rw[h0];kernel_rfl)
def Db9 (k:Nat):Spec:=sP [(.slice 4 .bool)] [.o] [(.slice 4 .bool)] λx=>Di5 k x.1
def Fw2 (k:Nat):Cfg:=cg k 26 Tryz.f26 [(64,Cq5 k),(65,Cq6 k),(66,Db9 k)] []
def Dv6 (k:Nat):Spec:=sP [C8] [.t, .t, .o] [Fi8] λx=>C37 k x.1
def Ga1 (k:Nat):Cfg:=cg k 67 Tryz.f67 [(68,Cc9 k)] []
def Eg1 (k:Nat):Spec:=sP [T0] [.o] [T0] λx=>C38 k x.1
def Gv6:VV→Ms→Option (List C3):=Az3 [(.slice 98 T0)] [.t]
def Eg2 (k:Nat):Cfg:=cf k 27 Tryz.f27 [(67,Eg1 k)] [] [] [(2700001003,[0,3,4])] [] [98] [] []
def Cd0 (k n:Nat) (a0:List C3) (v1:Int) (xs2:List C3):=lV (Eg2 k) Gv6 n 2700001003 [1,1,0,1,0,0] Tryz.f27 [.b 0,fS [1,1,1] Tryz.f27, .fn Tryz.f27] ⟨⟨(C4 23 0 [(0,one (.slc 94 T0 a0)),oR 3 100,oI 4 v1]),[(100, .tree 98 T0 xs2 1)]⟩,2700001000,1,[(0,(C4 0 0 []))]⟩
theorem Eg3 (k:Nat):∀n:Nat,Cd0 k n=Ba5 k n
 |0=>by kernel_rfl
 |n+1=>by
  obtain h0:=Eg3 k n
  exact(by kernel_rfl:_=Do5 k (Cd0 k n)).trans (by rw[h0];kernel_rfl)
def Dv7 (k:Nat):Spec:=sP [(.slice 98 T0)] [.t] [(.slice 94 T0)] λx=>D88 k x.1
def Fw3 (k:Nat):Cfg:=cg k 7 Tryz.f7 [(25,B30 k),(26,Dv6 k),(27,Dv7 k)] []
def Dv8 (k:Nat):Spec:=sP [R1] [.o, .t, .t, .o, .t] [Ds3] λx=>A54 k x.1
def En4 (k:Nat):Cfg:=cg k 8 Tryz.f8 [(28,Bx9 k)] []
def Cd1 (k:Nat):Spec:=sP [G4] [.o, .o] [G4] λx=>u7 k x.1
def Fw4 (k:Nat):Cfg:=cg k 30 Tryz.f30 [] []
def M9 (k:Nat):Spec:=sP [.bool] [] [(.int .i64),(.int .i64),(.int .i64)] λx=>F7 k x.1 x.2.1 x.2.2.1
def Dc0 (k:Nat):Cfg:=cg k 108 Tryz.f108 [(30,M9 k)] [(10800001004,[1,13,14,15])]
def Bh2 (k n:Nat) (a0:A0) (v1:Int):=lV (Dc0 k) p6 n 10800001004 [1,1,0,1,0,0] Tryz.f108 [.b 0,fS [1,1,1] Tryz.f108, .fn Tryz.f108] ⟨⟨(C4 27 0 [oP 1 100 0,(13,one (.slc 3 (.int .i64) a0.2.2.2.2.2.1)),oI 14 (a0.2.2.2.2.2.1.length:Int),oI 15 v1]),[(100, .box (B1 B0 a0))]⟩,10800001000,1,[(0,(C4 0 0 []))]⟩
theorem Dc1 (k:Nat):∀n:Nat,Bh2 k n=X2 k n
 |0=>by kernel_rfl
 |n+1=>by
  obtain h0:=Dc1 k n
  exact(by kernel_rfl:_=Au1 k (Bh2 k n)).trans (by rw[h0];kernel_rfl)
def Cq7 (k:Nat):Spec:=sP [.bool] [] [B0] λx=>Br1 k x.1
def Eg4 (k:Nat):Cfg:=cg k 109 Tryz.f109 [(30,M9 k)] [(10900001002,[1,6,7,8])]
def Cd2 (k n:Nat) (a0:A0) (v1:Int):=lV (Eg4 k) p6 n 10900001002 [1,0,1,0,0] Tryz.f109 [.b 0,fS [1,1] Tryz.f109, .fn Tryz.f109] ⟨⟨(C4 51 0 [oP 1 100 0,(6,one (.slc 3 (.int .i64) a0.2.2.2.2.2.2.2.1)),oI 7 (a0.2.2.2.2.2.2.2.1.length:Int),oI 8 v1]),[(100, .box (B1 B0 a0))]⟩,10900001000,1,[(0,(C4 0 0 []))]⟩
theorem Eg5 (k:Nat):∀n:Nat,Cd2 k n=Ai0 k n
 |0=>by kernel_rfl
 |n+1=>by
  obtain h0:=Eg5 k n
  exact(by kernel_rfl:_=Ba6 k (Cd2 k n)).trans (by rw[h0];kernel_rfl)
def Dv9 (k:Nat):Spec:=sP [.bool] [] [B0] λx=>C39 k x.1
def Fk1 (k:Nat):Cfg:=cg k 74 Tryz.f74 [(30,M9 k),(108,Cq7 k),(109,Dv9 k)] []
def An7 (k:Nat):Spec:=sP [.bool] [] [B0] λx=>Ac3 k x.1
def En5 (k:Nat):Cfg:=cg k 110 Tryz.f110 [] []
def Aa5 (k:Nat):Spec:=sP [B0] [.o, .o] [B0] λx=>P5 k x.1
def En6 (k:Nat):Cfg:=cg k 111 Tryz.f111 [] []
def A80 (k:Nat):Spec:=sP [(.slice 145 B6)] [.o] [(.slice 145 B6)] λx=>V9 k x.1
def By2 (k:Nat):Cfg:=cf k 75 Tryz.f75 [(110,Aa5 k),(111,A80 k)] [] [] [(7500001003,[1,2,3,13,14,15]),(7500001008,[2,3,28,29,30])] [(7500001003,[(3,[999999,0,0],49,B0,false,false)]),(7500001008,[(3,[999999,0,1],127,(.slice 145 B6),false,false)])] [49,127] [] []
def Bh3 (k n:Nat) (a0:A6) (v3:Int) (xs2:List A0) (xs4:List (List A1)):=lV (By2 k) Gp9 n 7500001008 [1,1,1,0,1,0,0] Tryz.f75 [.b 2,fS [1,1,1,1] Tryz.f75, .fn Tryz.f75] ⟨⟨(C4 43 0 [oP 2 100 0,oP 3 101 0,(28,one (.slc 127 (.slice 145 B6) a0.2.1)),oI 29 (a0.2.1.length:Int),oI 30 v3]),[(100, .box [.nilS, .nilS, .nilS]),(101, .box [cR 102,cR 103,cR 104]),(102, .tree 49 B0 xs2 1),(103, .tree 127 (.slice 145 B6) xs4 1),(104, .row 4 .bool a0.2.2.1 true)]⟩,7500001000,1,[(0,(C4 0 0 []))]⟩
def Bh4 (k n:Nat) (a0:A6) (v1:Int) (xs2:List A0):=lV (By2 k) Gp9 n 7500001003 [1,1,0,1,0,0] Tryz.f75 [.b 0,fS [1,1,1] Tryz.f75, .fn Tryz.f75] ⟨⟨(C4 43 0 [oP 1 100 0,oP 2 101 0,oP 3 102 0,(13,one (.slc 49 B0 a0.1)),oI 14 (a0.1.length:Int),oI 15 v1]),[(100, .box (B1 C8 a0)),(101, .box [.nilS, .nilS, .nilS]),(102, .box [cR 103, .nilS,cR 104]),(103, .tree 49 B0 xs2 1),(104, .row 4 .bool a0.2.2.1 true)]⟩,7500001000,1,[(0,(C4 0 0 []))]⟩
theorem Dc2 (k:Nat):∀n:Nat,Bh3 k n=m8 k n∧Bh4 k n=m9 k n
 |0=> ⟨by kernel_rfl,by kernel_rfl⟩
 |n+1=>by
  obtain⟨h1,h0⟩:=Dc2 k n
  exact⟨(by kernel_rfl:_=Bf2 k (Bh3 k n)).trans (by rw[h1];kernel_rfl),(by kernel_rfl:_=Bf3 k (Bh4 k n) (Bh3 k n)).trans (by rw[h0,h1];kernel_rfl)⟩
def Bh5 (k:Nat):Spec:=sP [C8] [.t, .t, .o] [C8] λx=>Ag4 k x.1
def Gv7:VV→Ms→Option (A0×Bool):=Az3 [B0, .bool] [.o, .o]
def Ev2 (k:Nat):Cfg:=cg k 144 Tryz.f144 [(110,Aa5 k)] [(14400001002,[1,4,8,9,10])]
def Cy1 (k n:Nat) (a1:Int) (a0:List A0) (v1:Int):=lV (Ev2 k) Gv7 n 14400001002 [1,0,1,0,0] Tryz.f144 [.b 0,fS [1,1] Tryz.f144, .fn Tryz.f144] ⟨⟨(C4 22 0 [oI 1 a1,oP 4 100 0,(8,one (.slc 49 B0 a0)),oI 9 (a0.length:Int),oI 10 v1]),[(100, .box [cI 0,cI 0,cI 0,cI 0,cI 0, .nilS, .str ByteArray.empty, .nilS,cI 0])]⟩,14400001000,1,[(0,(C4 0 0 []))]⟩
theorem Ev3 (k:Nat):∀n:Nat,Cy1 k n=Aq7 k n
 |0=>by kernel_rfl
 |n+1=>by
  obtain h0:=Ev3 k n
  exact(by kernel_rfl:_=Br2 k (Cy1 k n)).trans (by rw[h0];kernel_rfl)
def At1 (k:Nat):Spec:=sP [B0, .bool] [.o, .o] [(.slice 49 B0),(.int .i64)] λx=>Ba7 k x.1 x.2.1
def Dw0 (k:Nat):Cfg:=cg k 114 Tryz.f114 [(144,At1 k)] [(11400001003,[2,5,10,11,12])]
def By3 (k n:Nat) (v1:Int) (a1:List Int) (v2:Int) (a0:A6):=lV (Dw0 k) B40 n 11400001003 [1,1,0,1,0,0] Tryz.f114 [.b 0,fS [1,1,1] Tryz.f114, .fn Tryz.f114] ⟨⟨(C4 32 0 [oP 2 100 0,oI 5 v1,(10,one (.slc 3 (.int .i64) a1)),oI 11 (a1.length:Int),oI 12 v2]),[(100, .box (B1 C8 a0))]⟩,11400001000,1,[(0,(C4 0 0 []))]⟩
theorem Dw1 (k:Nat):∀n:Nat,By3 k n=Ac4 k n
 |0=>by kernel_rfl
 |n+1=>by
  obtain h0:=Dw1 k n
  exact(by kernel_rfl:_=Br3 k (By3 k n)).trans (by rw[h0];kernel_rfl)
def By4 (k:Nat):Spec:=sP [(.int .i64)] [] [C8,(.slice 3 (.int .i64))] λx=>Ac5 k x.1 x.2.1
def Dw2 (k:Nat):Cfg:=cf k 145 Tryz.f145 [] [] [(164,Tryz.f164),(168,Tryz.f168)] [(16400002002,[0,1,7,8])] [] [] [] [(16400002002,[[8]])]
def By5 (k n:Nat) (a0:A6) (v1:Int) (a1:Int):=lV (Dw2 k) B40 n 16400002002 [1,0,1,0,0] Tryz.f164 [.b 0,fS [1,1] Tryz.f164, .fn Tryz.f164,fO [1,0] Tryz.f145 4 8,fS [1,1] Tryz.f145, .fn Tryz.f145] ⟨⟨(C4 19 0 [(0,one (.slc 49 B0 a0.1)),(1,one (.fn 168 [100])),oI 7 (a0.1.length:Int),oI 8 v1]),[(100, .box [cI a1])]⟩,16400002000,2,[(14500001000,(C4 9 0 [])),(0,(C4 0 0 []))]⟩
theorem Dw3 (k:Nat):∀n:Nat,By5 k n=Ac6 k n
 |0=>by kernel_rfl
 |n+1=>by
  obtain h0:=Dw3 k n
  exact(by kernel_rfl:_=A08 k (By5 k n)).trans (by rw[h0];kernel_rfl)
def By6 (k:Nat):Spec:=sP [(.int .i64)] [] [C8,(.int .i64)] λx=>Cj3 k x.1 x.2.1
def Gi9 (k:Nat):Cfg:=cg k 175 Tryz.f175 [] [(17500001002,[1,7,8,9])]
def E59 (k n:Nat) (a1:Int) (a0:List A1) (v1:Int):=lV (Gi9 k) B40 n 17500001002 [1,0,1,0,0] Tryz.f175 [.b 0,fS [1,1] Tryz.f175, .fn Tryz.f175] ⟨⟨(C4 20 0 [oI 1 a1,(7,one (.slc 145 B6 a0)),oI 8 (a0.length:Int),oI 9 v1]),[]⟩,17500001000,1,[(0,(C4 0 0 []))]⟩
theorem Gj0 (k:Nat):∀n:Nat,E59 k n=Cj4 k n
 |0=>by kernel_rfl
 |n+1=>by
  obtain h0:=Gj0 k n
  exact(by kernel_rfl:_=D20 k (E59 k n)).trans (by rw[h0];kernel_rfl)
def Dc3 (k:Nat):Spec:=sP [(.int .i64)] [] [(.slice 145 B6),(.int .i64)] λx=>Fr3 k x.1 x.2.1
def Ga2 (k:Nat):Cfg:=cg k 150 Tryz.f150 [(144,At1 k),(175,Dc3 k)] []
def A81 (k:Nat):Spec:=sP [B0, .bool] [.o, .o] [(.slice 49 B0),(.slice 145 B6),(.int .i64)] λx=>Cj5 k x.1 x.2.1 x.2.2.1
def E60 (k:Nat):Cfg:=cg k 117 Tryz.f117 [(30,M9 k),(150,A81 k)] []
def Av1 (k:Nat):Spec:=sP [(.int .i64)] [] [(.slice 49 B0),(.slice 145 B6),(.int .i64)] λx=>Aq8 k x.1 x.2.1 x.2.2.1
def Fk2 (k:Nat):Cfg:=cg k 201 Tryz.f201 [(150,A81 k)] []
def By7 (k:Nat):Spec:=sP [.bool] [] [(.slice 49 B0),(.slice 145 B6),(.int .i64)] λx=>Ai1 k x.1 x.2.1 x.2.2.1
def Fk3 (k:Nat):Cfg:=cg k 172 Tryz.f172 [(30,M9 k),(150,A81 k),(201,By7 k)] []
def An8 (k:Nat):Spec:=sP [(.int .i64)] [] [(.slice 49 B0),(.slice 145 B6),(.int .i64)] λx=>Y3 k x.1 x.2.1 x.2.2.1
def An9 (k:Nat):Cfg:=cf k 170 Tryz.f170 [(117,Av1 k),(172,An8 k),(201,By7 k)] [] [(202,Tryz.f202),(203,Tryz.f203),(227,Tryz.f227)] [(22700003002,[0,1,7,8])] [] [] [] [(22700003002,[[7],[5,9,39,41]])]
def Ag9 (k n:Nat) (a1:List A1) (v1:Int) (a2:A0) (a0:List A0) (r1:Int) (r2:Int) (r3:Bool):=lV (An9 k) p6 n 22700003002 [1,0,1,0,0] Tryz.f227 [.b 0,fS [1,1] Tryz.f227, .fn Tryz.f227,fO [1,0] Tryz.f202 3 7,fS [1,1] Tryz.f202, .fn Tryz.f202,fO [1,1,1,0,1,0,0] Tryz.f170 8 41,fS [1,1,1,0,1,0,1] Tryz.f170,fS [1,1,1,1] Tryz.f170, .fn Tryz.f170] ⟨⟨(C4 19 0 [(0,one (.slc 145 B6 a1)),(1,one (.fn 203 [])),oI 7 (a1.length:Int),oI 8 v1]),[(100, .box (B1 B0 a2))]⟩,22700003000,3,[(20200002000,(C4 9 0 [])),(17000001000,(C4 98 0 [oP 5 100 0,oB 9 true,oB 39 true])),(0,(C4 0 0 []))]⟩
def Ah0 (k n:Nat) (a1:List A1) (v2:Int) (a2:A0) (a0:List A0) (r1:Int) (r2:Int) (r6:Bool):=lV (An9 k) p6 n 22700003002 [1,0,1,0,0] Tryz.f227 [.b 0,fS [1,1] Tryz.f227, .fn Tryz.f227,fO [1,0] Tryz.f202 3 7,fS [1,1] Tryz.f202, .fn Tryz.f202,fO [1,1,1,0,1,0,0] Tryz.f170 8 41,fS [1,1,1,0,1,0,1] Tryz.f170,fS [1,1,1,1] Tryz.f170, .fn Tryz.f170] ⟨⟨(C4 19 0 [(0,one (.slc 145 B6 a1)),(1,one (.fn 203 [])),oI 7 (a1.length:Int),oI 8 v2]),[(100, .box (B1 B0 a2))]⟩,22700003000,3,[(20200002000,(C4 9 0 [])),(17000001000,(C4 98 0 [oP 5 100 0,oB 9 (r2==2),oB 39 true])),(0,(C4 0 0 []))]⟩
theorem Ao0 (k:Nat):∀n:Nat,Ag9 k n=O4 k n∧Ah0 k n=O5 k n
 |0=> ⟨by kernel_rfl,by kernel_rfl⟩
 |n+1=>by
  obtain⟨h0,h1⟩:=Ao0 k n
  exact⟨(by kernel_rfl:_=b9 k (Ag9 k n)).trans (by rw[h0];kernel_rfl),(by kernel_rfl:_=c9 k (Ah0 k n)).trans (by rw[h1];kernel_rfl)⟩
def A82 (k:Nat):Spec:=sP [.bool] [] [(.slice 49 B0),(.slice 145 B6),B0] λx=>Ax5 k x.1 x.2.1 x.2.2.1
def Bm2 (k:Nat):Cfg:=cg k 171 Tryz.f171 [(172,An8 k)] [(17100001003,[0,1,5,7,17,18,19])]
def Ao1 (k n:Nat) (a0:List A0) (a1:List A1) (r1:Int) (a2:A0) (v1:Int):=lV (Bm2 k) p6 n 17100001003 [1,1,0,1,0,0] Tryz.f171 [.b 0,fS [1,1,1] Tryz.f171, .fn Tryz.f171] ⟨⟨(C4 52 0 [(0,one (.slc 49 B0 a0)),(1,one (.slc 145 B6 a1)),oP 5 100 0,oI 7 r1,(17,one (.slc 3 (.int .i64) a2.2.2.2.2.2.1)),oI 18 (a2.2.2.2.2.2.1.length:Int),oI 19 v1]),[(100, .box (B1 B0 a2))]⟩,17100001000,1,[(0,(C4 0 0 []))]⟩
theorem Bm3 (k:Nat):∀n:Nat,Ao1 k n=N6 k n
 |0=>by kernel_rfl
 |n+1=>by
  obtain h0:=Bm3 k n
  exact(by kernel_rfl:_=Al2 k (Ao1 k n)).trans (by rw[h0];kernel_rfl)
def Bd4 (k:Nat):Spec:=sP [.bool] [] [(.slice 49 B0),(.slice 145 B6),B0] λx=>A55 k x.1 x.2.1 x.2.2.1
def Fk4 (k:Nat):Cfg:=cg k 147 Tryz.f147 [(74,An7 k),(117,Av1 k),(150,A81 k),(170,A82 k),(171,Bd4 k),(172,An8 k)] []
def By8 (k:Nat):Spec:=sP [.bool] [] [(.slice 49 B0),(.slice 145 B6),B0] λx=>Cj6 k x.1 x.2.1 x.2.2.1
def Ga3 (k:Nat):Cfg:=cg k 148 Tryz.f148 [(30,M9 k)] []
def Cy2 (k:Nat):Spec:=sP [(.int .i64)] [] [B0] λx=>Cj7 k x.1
noncomputable def R5 (k:Nat):MSpec:= .row 145 B6 λ(a0:List A1)=> .imm (.int .i64) λ(a1:Int)=> .imm (.slice 145 B6) λ(a2:List A1)=> .body (D8 k a0 a1 a2) (λr=> [(false,[.own 145 B6 r])]) (λ_=> [.gone])
def Dw4 (k:Nat):Cfg:=cg k 174 Tryz.f174 [(30,M9 k)] [(17400001002,[0,5,6,7])]
def By9 (k n:Nat) (a0:List A1) (v1:Int):=lV (Dw4 k) p6 n 17400001002 [1,0,1,0,0] Tryz.f174 [.b 0,fS [1,1] Tryz.f174, .fn Tryz.f174] ⟨⟨(C4 47 0 [(0,one (.slc 145 B6 a0)),(5,one (.slc 145 B6 a0)),oI 6 (a0.length:Int),oI 7 v1]),[]⟩,17400001000,1,[(0,(C4 0 0 []))]⟩
theorem Dw5 (k:Nat):∀n:Nat,By9 k n=R7 k n
 |0=>by kernel_rfl
 |n+1=>by
  obtain h0:=Dw5 k n
  exact(by kernel_rfl:_=Br4 k (By9 k n)).trans (by rw[h0];kernel_rfl)
def Dc4 (k:Nat):Spec:=sP [.bool] [] [(.slice 145 B6)] λx=>M0 k x.1
def F31 (k:Nat):Cfg:=cf k 149 Tryz.f149 [(174,Dc4 k)] [(173,R5 k)] [] [(14900001003,[0,1,2,7,8])] [] [] [] []
def Eg6 (k n:Nat) (a0:List A1) (a1:Int) (a2:Int) (v1:Int):=lV (F31 k) D08 n 14900001003 [1,1,1,0,0,0] Tryz.f149 [.b 0,fS [1,1,1,1] Tryz.f149, .fn Tryz.f149] ⟨⟨(C4 62 0 [(0,one (.slc 145 B6 a0)),oI 1 a1,oI 2 a2,oR 7 100,oI 8 v1]),[(100, .row 145 B6 a0 true)]⟩,14900001000,1,[(0,(C4 0 0 []))]⟩
theorem F32 (k:Nat):∀n:Nat,Eg6 k n=Bk7 k n
 |0=>by kernel_rfl
 |n+1=>by
  obtain h0:=F32 k n
  exact(by kernel_rfl:_=D90 k (Eg6 k n)).trans (by rw[h0];kernel_rfl)
def Eg7 (k:Nat):Spec:=sP [(.slice 145 B6)] [.o] [(.slice 145 B6),(.int .i64),(.int .i64)] λx=>F16 k x.1 x.2.1 x.2.2.1
noncomputable def i7 (k:Nat):MSpec:= .row 3 (.int .i64) λ(a0:List Int)=> .body (J8 k a0) (λr=>Cl4 [] [] r.1) (λr=>poV [.row 3 (.int .i64)] r.2)
def A83 (k:Nat):Cfg:=cf k 220 Tryz.f220 [(30,M9 k)] [(142,i7 k)] [(143,Tryz.f143)] [(14300002004,[0,3]),(14300002009,[0,3,4,5]),(22000001003,[3,8,9,10]),(22000001006,[3,8,9,10,14,15,16])] [(22000001003,[(3,[0],3,(.int .i64),false,false)]),(22000001006,[(3,[0],3,(.int .i64),false,false)])] [] [] [(14300002004,[[33]]),(14300002009,[[33]])]
def Cd3 (k n:Nat) (v6:Int) (v5:Int) (v7:Int) (xs8:List Int) (a0:List (List A1)) (v1:Int):=lV (A83 k) i6 n 14300002009 [1,1,0,1,0,0,1,0,0,1,0,1,0,1,0,0] Tryz.f143 [.b 2,fS [1,1,0,1,0,0,1,0,0,1,0,1,1] Tryz.f143, .b 1,fS [1,1,0,1,0,0,1,1] Tryz.f143, .l 14300002004 (cd [1,1,0,1,0,0] (bo Tryz.f143)), .b 0,fS [1,1,1] Tryz.f143, .fn Tryz.f143,fO [1,1,1,1,0] Tryz.f220 2 33,fS [1,1,1,1,1] Tryz.f220, .fn Tryz.f220] ⟨⟨(C4 61 0 [oR 0 100,oI 3 v6,(4,one (.row 100 (some v5.toNat) none)),oI 5 v7]),[(100, .row 3 (.int .i64) xs8 true)]⟩,14300002000,2,[(22000001000,(C4 34 0 [])),(0,(C4 0 0 []))]⟩
def Cd4 (k n:Nat) (v5:Int) (r2:Unit×List Int×Unit) (a0:List (List A1)) (v1:Int):=lV (A83 k) i6 n 14300002004 [1,1,0,1,0,0] Tryz.f143 [.b 0,fS [1,1,1] Tryz.f143, .fn Tryz.f143,fO [1,1,1,1,0] Tryz.f220 2 33,fS [1,1,1,1,1] Tryz.f220, .fn Tryz.f220] ⟨⟨(C4 61 0 [oR 0 100,oI 3 v5]),[(100, .row 3 (.int .i64) r2.2.1 true)]⟩,14300002000,2,[(22000001000,(C4 34 0 [])),(0,(C4 0 0 []))]⟩
def Cd5 (k n:Nat) (a0:List (List A1)) (v1:Int) (xs2:List Int):=lV (A83 k) i6 n 22000001003 [1,1,0,1,0,0] Tryz.f220 [.b 0,fS [1,1,1] Tryz.f220, .fn Tryz.f220] ⟨⟨(C4 34 0 [oR 3 100,(8,one (.slc 127 (.slice 145 B6) a0)),oI 9 (a0.length:Int),oI 10 v1]),[(100, .row 3 (.int .i64) xs2 true)]⟩,22000001000,1,[(0,(C4 0 0 []))]⟩
def Cd6 (k n:Nat) (a0:List (List A1)) (v1:Int) (v3:Int) (xs4:List Int):=lV (A83 k) i6 n 22000001006 [1,1,0,1,0,0,1,1,0,0,1,1,0,0] Tryz.f220 [.b 2, .b 1,fS [1,1,0,1,0,0,1,1,1] Tryz.f220, .l 22000001003 (cd [1,1,0,1,0,0] (bo Tryz.f220)), .b 0,fS [1,1,1] Tryz.f220, .fn Tryz.f220] ⟨⟨(C4 34 0 [oR 3 100,(8,one (.slc 127 (.slice 145 B6) a0)),oI 9 (a0.length:Int),oI 10 v1,(14,one (.slc 145 B6 (rd [] a0 v1.toNat))),oI 15 (((rd [] a0 v1.toNat).length:Nat):Int),oI 16 v3]),[(100, .row 3 (.int .i64) xs4 true)]⟩,22000001000,1,[(0,(C4 0 0 []))]⟩
theorem Eg8 (k:Nat):∀n:Nat,Cd3 k n=Bb1 k n∧Cd4 k n=Ai2 k n∧Cd5 k n=Ai3 k n∧Cd6 k n=Aw5 k n
 |0=> ⟨by kernel_rfl,by kernel_rfl,by kernel_rfl,by kernel_rfl⟩
 |n+1=>by
  obtain⟨h3,h2,h0,h1⟩:=Eg8 k n
  exact⟨(by kernel_rfl:_=Do9 k (Cd3 k n)).trans (by rw[h3];kernel_rfl),(by kernel_rfl:_=Dp0 k (Cd3 k n) (Cd4 k n)).trans (by rw[h3,h2];kernel_rfl),(by kernel_rfl:_=Ba9 k (Cd6 k n) (Cd4 k n)).trans (by rw[h1,h2];kernel_rfl),(by kernel_rfl:_=Bb0 k (Cd6 k n) (Cd5 k n)).trans (by rw[h1,h0];kernel_rfl)⟩
def Cd7 (k:Nat):Spec:=sP [(.slice 3 (.int .i64))] [.o] [(.slice 127 (.slice 145 B6))] λx=>C41 k x.1
def Dw6 (k:Nat):Cfg:=cf k 221 Tryz.f221 [(175,Dc3 k)] [] [(231,Tryz.f231),(232,Tryz.f232),(235,Tryz.f235)] [(23500003002,[0,1,7,8])] [] [] [] [(23500003002,[[7],[7]])]
def Bz0 (k n:Nat) (a0:List (List A1)) (v1:Int) (a1:Int):=lV (Dw6 k) p6 n 23500003002 [1,0,1,0,0] Tryz.f235 [.b 0,fS [1,1] Tryz.f235, .fn Tryz.f235,fO [1,0] Tryz.f231 3 7,fS [1,1] Tryz.f231, .fn Tryz.f231,fO [1,0] Tryz.f221 3 7,fS [1,1] Tryz.f221, .fn Tryz.f221] ⟨⟨(C4 19 0 [(0,one (.slc 127 (.slice 145 B6) a0)),(1,one (.fn 232 [100,101])),oI 7 (a0.length:Int),oI 8 v1]),[(100, .box [cI a1]),(101, .box [.slc 127 (.slice 145 B6) a0])]⟩,23500003000,3,[(23100002000,(C4 9 0 [])),(22100001000,(C4 9 0 [])),(0,(C4 0 0 []))]⟩
theorem Dw7 (k:Nat):∀n:Nat,Bz0 k n=Ac7 k n
 |0=>by kernel_rfl
 |n+1=>by
  obtain h0:=Dw7 k n
  exact(by kernel_rfl:_=Br5 k (Bz0 k n)).trans (by rw[h0];kernel_rfl)
def Bz1 (k:Nat):Spec:=sP [.bool] [] [(.slice 127 (.slice 145 B6)),(.int .i64)] λx=>Cj8 k x.1 x.2.1
def Eg9 (k:Nat):Cfg:=cf k 198 Tryz.f198 [(175,Dc3 k),(220,Cd7 k),(221,Bz1 k)] [] [] [(19800001003,[0,3,7,8,9])] [(19800001003,[(3,[0],145,B6,false,false)])] [] [] []
def Cd8 (k n:Nat) (a0:List (List A1)) (r1:List Int) (v1:Int) (xs2:List A1):=lV (Eg9 k) D08 n 19800001003 [1,1,0,1,0,0] Tryz.f198 [.b 0,fS [1,1,1] Tryz.f198, .fn Tryz.f198] ⟨⟨(C4 28 0 [(0,one (.slc 127 (.slice 145 B6) a0)),oR 3 100,oR 7 101,oI 8 (r1.length:Int),oI 9 v1]),[(100, .row 145 B6 xs2 true),(101, .row 3 (.int .i64) r1 true)]⟩,19800001000,1,[(0,(C4 0 0 []))]⟩
theorem Eh0 (k:Nat):∀n:Nat,Cd8 k n=Ai4 k n
 |0=>by kernel_rfl
 |n+1=>by
  obtain h0:=Eh0 k n
  exact(by kernel_rfl:_=B77 k (Cd8 k n)).trans (by rw[h0];kernel_rfl)
def Dw8 (k:Nat):Spec:=sP [(.slice 145 B6)] [.o] [(.slice 127 (.slice 145 B6))] λx=>D93 k x.1
def Ev4 (k:Nat):Cfg:=cf k 199 Tryz.f199 [(220,Cd7 k),(221,Bz1 k)] [] [] [(19900001003,[0,3,7,8,9])] [(19900001003,[(3,[0],3,(.int .i64),false,false)])] [] [] []
def Cy3 (k n:Nat) (a0:List (List A1)) (r1:List Int) (v1:Int) (xs2:List Int):=lV (Ev4 k) i6 n 19900001003 [1,1,0,1,0,0] Tryz.f199 [.b 0,fS [1,1,1] Tryz.f199, .fn Tryz.f199] ⟨⟨(C4 23 0 [(0,one (.slc 127 (.slice 145 B6) a0)),oR 3 100,oR 7 101,oI 8 (r1.length:Int),oI 9 v1]),[(100, .row 3 (.int .i64) xs2 true),(101, .row 3 (.int .i64) r1 true)]⟩,19900001000,1,[(0,(C4 0 0 []))]⟩
theorem Ev5 (k:Nat):∀n:Nat,Cy3 k n=Aq9 k n
 |0=>by kernel_rfl
 |n+1=>by
  obtain h0:=Ev5 k n
  exact(by kernel_rfl:_=Cv2 k (Cy3 k n)).trans (by rw[h0];kernel_rfl)
def Eh1 (k:Nat):Spec:=sP [(.slice 3 (.int .i64))] [.o] [(.slice 127 (.slice 145 B6))] λx=>E05 k x.1
def Ao2 (k:Nat):Cfg:=cg k 165 Tryz.f165 [] [(16500001002,[0,1,7,8])]
def Z4 (k n:Nat) (a0:List Int) (a1:Int) (v1:Int):=lV (Ao2 k) B40 n 16500001002 [1,0,1,0,0] Tryz.f165 [.b 0,fS [1,1] Tryz.f165, .fn Tryz.f165] ⟨⟨(C4 19 0 [(0,one (.slc 3 (.int .i64) a0)),oI 1 a1,oI 7 (a0.length:Int),oI 8 v1]),[]⟩,16500001000,1,[(0,(C4 0 0 []))]⟩
theorem Ao3 (k:Nat):∀n:Nat,Z4 k n=I9 k n
 |0=>by kernel_rfl
 |n+1=>by
  obtain h0:=Ao3 k n
  exact(by kernel_rfl:_=Q2 k (Z4 k n)).trans (by rw[h0];kernel_rfl)
def Aj6 (k:Nat):Spec:=sP [(.int .i64)] [] [(.slice 3 (.int .i64)),(.int .i64)] λx=>u9 k x.1 x.2.1
def A89 (k:Nat):Cfg:=cg k 141 Tryz.f141 [(165,Aj6 k)] []
def N8 (k:Nat):Spec:=sP [.bool] [] [(.slice 3 (.int .i64)),(.int .i64)] λx=>J0 k x.1 x.2.1
def Cd9 (k:Nat):Cfg:=cf k 223 Tryz.f223 [(141,N8 k),(144,At1 k)] [] [] [(22300001003,[0,5,6]),(22300001007,[0,5,6,30,31,32])] [(22300001003,[(6,[0],3,(.int .i64),false,true)]),(22300001007,[(6,[0],3,(.int .i64),false,true)])] [] [] []
def Bz2 (k n:Nat) (a0:List A0) (u1:Nat) (xs2:List Int) (xs3:List Int):=lV (Cd9 k) i6 n 22300001003 [1,1,1,0,0,0] Tryz.f223 [.b 0,fS [1,1,1,1] Tryz.f223, .fn Tryz.f223] ⟨⟨(C4 59 0 [(0,one (.slc 49 B0 a0)),oR 5 100,(6,one (.row 101 (some u1) none))]),[(100, .row 3 (.int .i64) xs2 true),(101, .row 3 (.int .i64) xs3 true)]⟩,22300001000,1,[(0,(C4 0 0 []))]⟩
def Bz3 (k n:Nat) (a0:List A0) (u4:Nat) (r1:A0×Bool) (v5:Int) (xs6:List Int) (xs7:List Int):=lV (Cd9 k) i6 n 22300001007 [1,1,1,0,0,0,1,0,1,1,1,0,0] Tryz.f223 [.b 2, .b 1, .l 22300001003 (cd [1,1,1,0,0,0] (bo Tryz.f223)), .b 0,fS [1,1,1,1] Tryz.f223, .fn Tryz.f223] ⟨⟨(C4 59 0 [(0,one (.slc 49 B0 a0)),oR 5 100,(6,one (.row 101 (some u4) none)),oR 30 102,oI 31 (r1.1.2.2.2.2.2.2.2.1.length:Int),oI 32 v5]),[(100, .row 3 (.int .i64) xs6 true),(101, .row 3 (.int .i64) xs7 true),(102, .row 3 (.int .i64) r1.1.2.2.2.2.2.2.2.1 true)]⟩,22300001000,1,[(0,(C4 0 0 []))]⟩
theorem Dw9 (k:Nat):∀n:Nat,Bz2 k n=Ac8 k n∧Bz3 k n=d5 k n
 |0=> ⟨by kernel_rfl,by kernel_rfl⟩
 |n+1=>by
  obtain⟨h0,h1⟩:=Dw9 k n
  exact⟨(by kernel_rfl:_=A09 k (Bz3 k n)).trans (by rw[h1];kernel_rfl),(by kernel_rfl:_=A10 k (Bz3 k n) (Bz2 k n)).trans (by rw[h1,h0];kernel_rfl)⟩
def Dc5 (k:Nat):Spec:=sP [(.slice 3 (.int .i64))] [.o] [(.slice 49 B0),(.int .i64)] λx=>Di6 k x.1 x.2.1
def Fk5 (k:Nat):Cfg:=cg k 233 Tryz.f233 [] []
def Dc6 (k:Nat):Spec:=sP [.bool] [] [B0] λx=>A31 k x.1
def Fk6 (k:Nat):Cfg:=cg k 225 Tryz.f225 [(172,An8 k),(233,Dc6 k)] []
def Dc7 (k:Nat):Spec:=sP [.bool] [] [(.slice 49 B0),(.slice 145 B6),B0,B0] λx=>A32 k x.1 x.2.1 x.2.2.1 x.2.2.2.1
def o9 (k:Nat):Cfg:=cf k 200 Tryz.f200 [(141,N8 k),(144,At1 k),(223,Dc5 k),(225,Dc7 k)] [] [(139,Tryz.f139),(164,Tryz.f164),(222,Tryz.f222),(224,Tryz.f224),(226,Tryz.f226)] [(16400003002,[0,1,7,8]),(20000001003,[0,1,7,20,21,22]),(20000001011,[0,1,7,12,45,46,47]),(20000001016,[0,1,7,12,15]),(20000001018,[0,1,7,12,15,16,59,60,61])] [(20000001003,[(7,[0],49,B0,false,false)]),(20000001016,[(15,[0],3,(.int .i64),false,false)])] [] [] [(16400003002,[[7],[0,1,7,10,12,15,16,17,18,20,21,22,33,36,59,60,61,68]])]
def Bz4 (k n:Nat) (a0:List A0) (a1:List A1) (xs2:List A0) (xs6:List Int) (ms5:List (Int×List Int)):=lV (o9 k) i6 n 20000001016 [1,1,1,1,1,1,0,0] Tryz.f200 [.b 4, .fn Tryz.f200] ⟨⟨(C4 103 0 [(0,one (.slc 49 B0 a0)),(1,one (.slc 145 B6 a1)),oR 7 100,oP 12 101 0,oR 15 102]),[(100, .row 49 B0 xs2 true),(101, .box [.mp 103]),(102, .row 3 (.int .i64) xs6 true),(103, .mp (.slice 3 (.int .i64)) ms5)]⟩,20000001000,1,[(0,(C4 0 0 []))]⟩
def Cy4 (k n:Nat) (a0:List A0) (a1:List A1) (v7:Int) (xs2:List A0) (v8:Int) (xs6:List Int) (ms5:List (Int×List Int)):=lV (o9 k) i6 n 20000001018 [1,1,1,1,1,1,0,0,0,1,0,1,0,0] Tryz.f200 [.b 6,fS [1,1,1,1,1,1,0,0,0,1,1] Tryz.f200, .b 5, .l 20000001016 (cd [1,1,1,1,1,1,0,0] (bo Tryz.f200)), .b 4, .fn Tryz.f200] ⟨⟨(C4 103 0 [(0,one (.slc 49 B0 a0)),(1,one (.slc 145 B6 a1)),oR 7 100,oP 12 101 0,oR 15 102,oI 16 v7,oR 59 100,oI 60 (xs2.length:Int),oI 61 v8]),[(100, .row 49 B0 xs2 true),(101, .box [.mp 103]),(102, .row 3 (.int .i64) xs6 true),(103, .mp (.slice 3 (.int .i64)) ms5)]⟩,20000001000,1,[(0,(C4 0 0 []))]⟩
def Cy5 (k n:Nat) (xs2:List A0) (v9:Int) (v8:Int) (xs6:List Int) (ms5:List (Int×List Int)) (a0:List A0) (a1:List A1) (v7:Int):=lV (o9 k) i6 n 16400003002 [1,0,1,0,0] Tryz.f164 [.b 0,fS [1,1] Tryz.f164, .fn Tryz.f164,fO [1,0] Tryz.f139 3 7,fS [1,1] Tryz.f139, .fn Tryz.f139,fO [1,1,1,1,1,1,0,0,0,1,0,1,0,0,1,1,0,0,1,0] Tryz.f200 3 68,fS [1,1,1,1,1,1,0,0,0,1,0,1,0,0,1,1,0,0,1,1] Tryz.f200, .b 7,fS [1,1,1,1,1,1,0,0,0,1,0,1,0,0,1,1,1] Tryz.f200, .l 20000001018 (cd [1,1,1,1,1,1,0,0,0,1,0,1,0,0] (bo Tryz.f200)), .b 6,fS [1,1,1,1,1,1,0,0,0,1,1] Tryz.f200, .b 5, .l 20000001016 (cd [1,1,1,1,1,1,0,0] (bo Tryz.f200)), .b 4, .fn Tryz.f200] ⟨⟨(C4 19 0 [oR 0 100,(1,one (.fn 224 [101,102])),oI 7 (xs2.length:Int),oI 8 v9]),[(100, .row 49 B0 xs2 true),(101, .box [.mp 104]),(102, .box (B1 B0 (rd A4 xs2 v8.toNat))),(103, .row 3 (.int .i64) xs6 true),(104, .mp (.slice 3 (.int .i64)) ms5)]⟩,16400003000,3,[(13900002000,(C4 9 0 [])),(20000001000,(C4 103 0 [(0,one (.slc 49 B0 a0)),(1,one (.slc 145 B6 a1)),oR 7 100,oP 12 101 0,oR 15 103,oI 16 v7,oI 17 v8,oP 18 102 0,oR 59 100,oI 60 (xs2.length:Int),oI 61 v8])),(0,(C4 0 0 []))]⟩
def Cy6 (k n:Nat) (a0:List A0) (a1:List A1) (u10:Nat) (xs11:List A0) (xs12:List Int) (ms5:List (Int×List Int)):=lV (o9 k) i6 n 20000001016 [1,1,1,1,1,1,0,0] Tryz.f200 [.b 4, .fn Tryz.f200] ⟨⟨(C4 103 0 [(0,one (.slc 49 B0 a0)),(1,one (.slc 145 B6 a1)),(7,one (.row 100 none (some u10))),oP 12 101 0,oR 15 102]),[(100, .row 49 B0 xs11 true),(101, .box [.mp 103]),(102, .row 3 (.int .i64) xs12 true),(103, .mp (.slice 3 (.int .i64)) ms5)]⟩,20000001000,1,[(0,(C4 0 0 []))]⟩
def Cy7 (k n:Nat) (a0:List A0) (a1:List A1) (u10:Nat) (v13:Int) (v14:Int) (xs11:List A0) (xs12:List Int) (ms5:List (Int×List Int)):=lV (o9 k) i6 n 20000001018 [1,1,1,1,1,1,0,0,0,1,0,1,0,0] Tryz.f200 [.b 6,fS [1,1,1,1,1,1,0,0,0,1,1] Tryz.f200, .b 5, .l 20000001016 (cd [1,1,1,1,1,1,0,0] (bo Tryz.f200)), .b 4, .fn Tryz.f200] ⟨⟨(C4 103 0 [(0,one (.slc 49 B0 a0)),(1,one (.slc 145 B6 a1)),(7,one (.row 100 none (some u10))),oP 12 101 0,oR 15 102,oI 16 v13,(59,one (.row 100 none (some u10))),oI 60 (u10:Int),oI 61 v14]),[(100, .row 49 B0 xs11 true),(101, .box [.mp 103]),(102, .row 3 (.int .i64) xs12 true),(103, .mp (.slice 3 (.int .i64)) ms5)]⟩,20000001000,1,[(0,(C4 0 0 []))]⟩
def Cy8 (k n:Nat) (u10:Nat) (v15:Int) (xs11:List A0) (v14:Int) (xs12:List Int) (ms5:List (Int×List Int)) (a0:List A0) (a1:List A1) (v13:Int):=lV (o9 k) i6 n 16400003002 [1,0,1,0,0] Tryz.f164 [.b 0,fS [1,1] Tryz.f164, .fn Tryz.f164,fO [1,0] Tryz.f139 3 7,fS [1,1] Tryz.f139, .fn Tryz.f139,fO [1,1,1,1,1,1,0,0,0,1,0,1,0,0,1,1,0,0,1,0] Tryz.f200 3 68,fS [1,1,1,1,1,1,0,0,0,1,0,1,0,0,1,1,0,0,1,1] Tryz.f200, .b 7,fS [1,1,1,1,1,1,0,0,0,1,0,1,0,0,1,1,1] Tryz.f200, .l 20000001018 (cd [1,1,1,1,1,1,0,0,0,1,0,1,0,0] (bo Tryz.f200)), .b 6,fS [1,1,1,1,1,1,0,0,0,1,1] Tryz.f200, .b 5, .l 20000001016 (cd [1,1,1,1,1,1,0,0] (bo Tryz.f200)), .b 4, .fn Tryz.f200] ⟨⟨(C4 19 0 [(0,one (.row 100 none (some u10))),(1,one (.fn 224 [101,102])),oI 7 (u10:Int),oI 8 v15]),[(100, .row 49 B0 xs11 true),(101, .box [.mp 104]),(102, .box (B1 B0 (rd A4 xs11 v14.toNat))),(103, .row 3 (.int .i64) xs12 true),(104, .mp (.slice 3 (.int .i64)) ms5)]⟩,16400003000,3,[(13900002000,(C4 9 0 [])),(20000001000,(C4 103 0 [(0,one (.slc 49 B0 a0)),(1,one (.slc 145 B6 a1)),(7,one (.row 100 none (some u10))),oP 12 101 0,oR 15 103,oI 16 v13,oI 17 v14,oP 18 102 0,(59,one (.row 100 none (some u10))),oI 60 (u10:Int),oI 61 v14])),(0,(C4 0 0 []))]⟩
def Cy9 (k n:Nat) (a0:List A0) (a1:List A1) (xs2:List A0) (v4:Int) (ms5:List (Int×List Int)):=lV (o9 k) i6 n 20000001011 [1,1,1,1,0,1,0,0] Tryz.f200 [.b 2,fS [1,1,1,1,1] Tryz.f200, .fn Tryz.f200] ⟨⟨(C4 103 0 [(0,one (.slc 49 B0 a0)),(1,one (.slc 145 B6 a1)),oR 7 100,oP 12 101 0,oR 45 100,oI 46 (xs2.length:Int),oI 47 v4]),[(100, .row 49 B0 xs2 true),(101, .box [.mp 102]),(102, .mp (.slice 3 (.int .i64)) ms5)]⟩,20000001000,1,[(0,(C4 0 0 []))]⟩
def Bz5 (k n:Nat) (a0:List A0) (a1:List A1) (a2:List Int) (v1:Int) (xs2:List A0):=lV (o9 k) i6 n 20000001003 [1,1,0,1,0,0] Tryz.f200 [.b 0,fS [1,1,1] Tryz.f200, .fn Tryz.f200] ⟨⟨(C4 103 0 [(0,one (.slc 49 B0 a0)),(1,one (.slc 145 B6 a1)),oR 7 100,(20,one (.slc 3 (.int .i64) a2)),oI 21 (a2.length:Int),oI 22 v1]),[(100, .row 49 B0 xs2 true)]⟩,20000001000,1,[(0,(C4 0 0 []))]⟩
def Cz0 (k n:Nat) (xs2:List A0) (v3:Int) (a2:List Int) (v1:Int) (r1:A0×Bool) (a0:List A0) (a1:List A1):=lV (o9 k) i6 n 16400003002 [1,0,1,0,0] Tryz.f164 [.b 0,fS [1,1] Tryz.f164, .fn Tryz.f164,fO [1,0] Tryz.f139 3 7,fS [1,1] Tryz.f139, .fn Tryz.f139,fO [1,1,0,1,0,0,1,1,0,0,1,1,0] Tryz.f200 5 36,fS [1,1,0,1,0,0,1,1,0,0,1,1,1] Tryz.f200, .b 1,fS [1,1,0,1,0,0,1,1,1] Tryz.f200, .l 20000001003 (cd [1,1,0,1,0,0] (bo Tryz.f200)), .b 0,fS [1,1,1] Tryz.f200, .fn Tryz.f200] ⟨⟨(C4 19 0 [oR 0 100,(1,one (.fn 222 [101])),oI 7 (xs2.length:Int),oI 8 v3]),[(100, .row 49 B0 xs2 true),(101, .box [cI (rd 0 a2 v1.toNat)]),(102, .box [cI r1.1.1,cI r1.1.2.1,cI r1.1.2.2.1,cI r1.1.2.2.2.1,cI r1.1.2.2.2.2.1,cR 103, .str r1.1.2.2.2.2.2.2.1,cR 104,cI r1.1.2.2.2.2.2.2.2.2.1]),(103, .row 3 (.int .i64) r1.1.2.2.2.2.2.1 true),(104, .row 3 (.int .i64) r1.1.2.2.2.2.2.2.2.1 true)]⟩,16400003000,3,[(13900002000,(C4 9 0 [])),(20000001000,(C4 103 0 [(0,one (.slc 49 B0 a0)),(1,one (.slc 145 B6 a1)),oR 7 100,oP 10 102 0,(20,one (.slc 3 (.int .i64) a2)),oI 21 (a2.length:Int),oI 22 v1,oB 33 true])),(0,(C4 0 0 []))]⟩
theorem Ev6 (k:Nat):∀n:Nat,Bz4 k n=w5 k n∧Cy4 k n=Ag5 k n∧Cy5 k n=A56 k n∧Cy6 k n=Ar0 k n∧Cy7 k n=Ag6 k n∧Cy8 k n=A57 k n∧Cy9 k n=Ag7 k n∧Bz5 k n=w7 k n∧Cz0 k n=A58 k n
 |0=> ⟨by kernel_rfl,by kernel_rfl,by kernel_rfl,by kernel_rfl,by kernel_rfl,by kernel_rfl,by kernel_rfl,by kernel_rfl,by kernel_rfl⟩
 |n+1=>by
  obtain⟨h3,h4,h5,h6,h7,h8,h2,h0,h1⟩:=Ev6 k n
  exact⟨(by kernel_rfl:_=Br6 k (Cy4 k n)).trans (by rw[h4];kernel_rfl),(by kernel_rfl:_=Br7 k (Cy5 k n) (Bz4 k n) (Cy6 k n)).trans (by rw[h5,h3,h6];kernel_rfl),(by kernel_rfl:_=Br8 k (Cy4 k n) (Cy5 k n)).trans (by rw[h4,h5];kernel_rfl),(by kernel_rfl:_=Br9 k (Cy7 k n)).trans (by rw[h7];kernel_rfl),(by kernel_rfl:_=Bs0 k (Cy8 k n) (Cy6 k n) (Bz4 k n)).trans (by rw[h8,h6,h3];kernel_rfl),(by kernel_rfl:_=Bs1 k (Cy7 k n) (Cy8 k n)).trans (by rw[h7,h8];kernel_rfl),(by kernel_rfl:_=Cv3 k (Cy9 k n) (Bz4 k n)).trans (by rw[h2,h3];kernel_rfl),(by kernel_rfl:_=Bs2 k (Cz0 k n) (Bz5 k n) (Cy9 k n)).trans (by rw[h1,h0,h2];kernel_rfl),(by kernel_rfl:_=Bs3 k (Bz5 k n) (Cz0 k n)).trans (by rw[h0,h1];kernel_rfl)⟩
def Eh2 (k:Nat):Spec:=sP [(.slice 3 (.int .i64))] [.o] [(.slice 49 B0),(.slice 145 B6),(.slice 3 (.int .i64))] λx=>E08 k x.1 x.2.1 x.2.2.1
def Bd5 (k:Nat):Cfg:=cf k 169 Tryz.f169 [(111,A80 k),(144,At1 k),(147,By8 k),(148,Cy2 k),(149,Eg7 k),(175,Dc3 k),(198,Dw8 k),(199,Eh1 k),(200,Eh2 k)] [] [] [(16900001009,[0,1,5,6,30,31,32]),(16900001012,[0,1,5,6,8,30,31,32,36,37,38]),(16900001021,[0,12,58,59,60])] [(16900001009,[(6,[0],3,(.int .i64),false,false)]),(16900001012,[(6,[0],3,(.int .i64),false,false)])] [] [] []
def Bz6 (k n:Nat) (a0:List A0) (r6:List Int) (v5:Int) (r5:List A1):=lV (Bd5 k) D08 n 16900001021 [1,1,1,1,1,1,0,1,0,0] Tryz.f169 [.b 5,fS [1,1,1,1,1,1,1] Tryz.f169, .fn Tryz.f169] ⟨⟨(C4 81 0 [(0,one (.slc 49 B0 a0)),oR 12 100,oR 58 101,oI 59 (r6.length:Int),oI 60 v5]),[(100, .row 145 B6 r5 true),(101, .row 3 (.int .i64) r6 true)]⟩,16900001000,1,[(0,(C4 0 0 []))]⟩
def Bz7 (k n:Nat) (a0:List A0) (a1:List (List A1)) (r3:List Int) (v1:Int) (r2:List A1) (xs2:List Int):=lV (Bd5 k) D08 n 16900001009 [1,1,1,1,0,1,0,0] Tryz.f169 [.b 1,fS [1,1,1,1,1] Tryz.f169, .fn Tryz.f169] ⟨⟨(C4 81 0 [(0,one (.slc 49 B0 a0)),(1,one (.slc 127 (.slice 145 B6) a1)),oR 5 100,oR 6 101,oR 30 102,oI 31 (r3.length:Int),oI 32 v1]),[(100, .row 145 B6 r2 true),(101, .row 3 (.int .i64) xs2 true),(102, .row 3 (.int .i64) r3 true)]⟩,16900001000,1,[(0,(C4 0 0 []))]⟩
def Bz8 (k n:Nat) (a0:List A0) (a1:List (List A1)) (r3:List Int) (v1:Int) (v3:Int) (r2:List A1) (xs4:List Int):=lV (Bd5 k) D08 n 16900001012 [1,1,1,1,0,1,0,0,1,1,0,0,1,1,0,0] Tryz.f169 [.b 3, .b 2,fS [1,1,1,1,0,1,0,0,1,1,1] Tryz.f169, .l 16900001009 (cd [1,1,1,1,0,1,0,0] (bo Tryz.f169)), .b 1,fS [1,1,1,1,1] Tryz.f169, .fn Tryz.f169] ⟨⟨(C4 81 0 [(0,one (.slc 49 B0 a0)),(1,one (.slc 127 (.slice 145 B6) a1)),oR 5 100,oR 6 101,oI 8 (rd 0 r3 v1.toNat),oR 30 102,oI 31 (r3.length:Int),oI 32 v1,(36,one (.slc 127 (.slice 145 B6) a1)),oI 37 (a1.length:Int),oI 38 v3]),[(100, .row 145 B6 r2 true),(101, .row 3 (.int .i64) xs4 true),(102, .row 3 (.int .i64) r3 true)]⟩,16900001000,1,[(0,(C4 0 0 []))]⟩
theorem Dx0 (k:Nat):∀n:Nat,Bz6 k n=d6 k n∧Bz7 k n=Ac9 k n∧Bz8 k n=Al6 k n
 |0=> ⟨by kernel_rfl,by kernel_rfl,by kernel_rfl⟩
 |n+1=>by
  obtain⟨h2,h0,h1⟩:=Dx0 k n
  exact⟨(by kernel_rfl:_=Bs4 k (Bz6 k n)).trans (by rw[h2];kernel_rfl),(by kernel_rfl:_=A11 k (Bz8 k n) (Bz6 k n)).trans (by rw[h1,h2];kernel_rfl),(by kernel_rfl:_=A12 k (Bz8 k n) (Bz7 k n)).trans (by rw[h1,h0];kernel_rfl)⟩
def Dc8 (k:Nat):Spec:=sP [(.slice 145 B6)] [.o] [(.slice 49 B0),(.slice 127 (.slice 145 B6))] λx=>Di7 k x.1 x.2.1
def Eh3 (k:Nat):Cfg:=cf k 146 Tryz.f146 [(145,By6 k),(169,Dc8 k)] [] [] [(14600001003,[2,6,10,11,12])] [(14600001003,[(6,[0],127,(.slice 145 B6),false,false)])] [] [] []
def Ce0 (k n:Nat) (a1:List Int) (v1:Int) (a0:A6) (xs2:List (List A1)):=lV (Eh3 k) Gu8 n 14600001003 [1,1,0,1,0,0] Tryz.f146 [.b 0,fS [1,1,1] Tryz.f146, .fn Tryz.f146] ⟨⟨(C4 41 0 [oP 2 100 0,oR 6 101,(10,one (.slc 3 (.int .i64) a1)),oI 11 (a1.length:Int),oI 12 v1]),[(100, .box (B1 C8 a0)),(101, .row 127 (.slice 145 B6) xs2 true)]⟩,14600001000,1,[(0,(C4 0 0 []))]⟩
theorem Eh4 (k:Nat):∀n:Nat,Ce0 k n=Ai5 k n
 |0=>by kernel_rfl
 |n+1=>by
  obtain h0:=Eh4 k n
  exact(by kernel_rfl:_=B78 k (Ce0 k n)).trans (by rw[h0];kernel_rfl)
def Ce1 (k:Nat):Spec:=sP [(.slice 145 B6), .bool] [.o] [C8,(.slice 3 (.int .i64))] λx=>C42 k x.1 x.2.1
def Gv8:VV→Ms→Option (A6×Bool):=Az3 [C8, .bool] [.t, .t, .o]
def E61 (k:Nat):Cfg:=cf k 115 Tryz.f115 [(74,An7 k),(75,Bh5 k),(110,Aa5 k),(114,By4 k),(145,By6 k),(146,Ce1 k),(147,By8 k),(148,Cy2 k),(149,Eg7 k)] [] [] [] [] [49,127] [] []
def Bh6 (k:Nat):Spec:=sP [C8, .bool] [.t, .t, .o] [C8,B0] λx=>Ar2 k x.1 x.2.1
def Eh5 (k:Nat):Cfg:=cf k 105 Tryz.f105 [(115,Bh6 k)] [] [] [(10500001003,[2,4,9,10,11])] [(10500001003,[(4,[999999,0,0],49,B0,false,false),(4,[999999,0,1],127,(.slice 145 B6),false,false),(4,[0,2],4, .bool,false,false)])] [] [] []
def Ce2 (k n:Nat) (a0:List A0) (v1:Int) (xs2:List A0) (xs3:List (List A1)) (xs4:List Bool):=lV (Eh5 k) Gv8 n 10500001003 [1,1,0,1,0,0] Tryz.f105 [.b 0,fS [1,1,1] Tryz.f105, .fn Tryz.f105] ⟨⟨(C4 27 0 [oP 2 100 0,oP 4 101 0,(9,one (.slc 49 B0 a0)),oI 10 (a0.length:Int),oI 11 v1]),[(100, .box [.nilS, .nilS, .nilS]),(101, .box [cR 102,cR 103,cR 104]),(102, .tree 49 B0 xs2 1),(103, .tree 127 (.slice 145 B6) xs3 1),(104, .row 4 .bool xs4 true)]⟩,10500001000,1,[(0,(C4 0 0 []))]⟩
theorem Eh6 (k:Nat):∀n:Nat,Ce2 k n=Ai6 k n
 |0=>by kernel_rfl
 |n+1=>by
  obtain h0:=Eh6 k n
  exact(by kernel_rfl:_=B79 k (Ce2 k n)).trans (by rw[h0];kernel_rfl)
def Dx1 (k:Nat):Spec:=sP [C8, .bool] [.t, .t, .o] [(.slice 49 B0)] λx=>D96 k x.1
def Ao4 (k:Nat):Cfg:=cg k 71 Tryz.f71 [] [(7100001004,[0,1,12,13])]
def Z5 (k n:Nat) (a0:List Int) (a1:List Int) (v1:Int):=lV (Ao4 k) p6 n 7100001004 [1,1,0,1,0,0] Tryz.f71 [.b 0,fS [1,1,1] Tryz.f71, .fn Tryz.f71] ⟨⟨(C4 26 0 [(0,one (.slc 3 (.int .i64) a0)),(1,one (.slc 3 (.int .i64) a1)),oI 12 (a0.length:Int),oI 13 v1]),[]⟩,7100001000,1,[(0,(C4 0 0 []))]⟩
theorem Ao5 (k:Nat):∀n:Nat,Z5 k n=F3 k n
 |0=>by kernel_rfl
 |n+1=>by
  obtain h0:=Ao5 k n
  exact(by kernel_rfl:_=M7 k (Z5 k n)).trans (by rw[h0];kernel_rfl)
def Q8 (k:Nat):Spec:=sP [.bool] [] [(.slice 3 (.int .i64)),(.slice 3 (.int .i64))] λx=>E9 k x.1 x.2.1
def T8 (k:Nat):Cfg:=cg k 134 Tryz.f134 [] [(13400001004,[0,1,12,13])]
def M1 (k n:Nat) (a0:List A1) (a1:List A1) (v1:Int):=lV (T8 k) p6 n 13400001004 [1,1,0,1,0,0] Tryz.f134 [.b 0,fS [1,1,1] Tryz.f134, .fn Tryz.f134] ⟨⟨(C4 26 0 [(0,one (.slc 145 B6 a0)),(1,one (.slc 145 B6 a1)),oI 12 (a0.length:Int),oI 13 v1]),[]⟩,13400001000,1,[(0,(C4 0 0 []))]⟩
theorem T9 (k:Nat):∀n:Nat,M1 k n=D6 k n
 |0=>by kernel_rfl
 |n+1=>by
  obtain h0:=T9 k n
  exact(by kernel_rfl:_=H0 k (M1 k n)).trans (by rw[h0];kernel_rfl)
def S4 (k:Nat):Spec:=sP [.bool] [] [(.slice 145 B6),(.slice 145 B6)] λx=>I6 k x.1 x.2.1
def Af5 (k:Nat):Cfg:=cg k 137 Tryz.f137 [] [(13700001004,[0,1,12,13])]
def U4 (k n:Nat) (a0:List Bool) (a1:List Bool) (v1:Int):=lV (Af5 k) p6 n 13700001004 [1,1,0,1,0,0] Tryz.f137 [.b 0,fS [1,1,1] Tryz.f137, .fn Tryz.f137] ⟨⟨(C4 26 0 [(0,one (.slc 4 .bool a0)),(1,one (.slc 4 .bool a1)),oI 12 (a0.length:Int),oI 13 v1]),[]⟩,13700001000,1,[(0,(C4 0 0 []))]⟩
theorem Af6 (k:Nat):∀n:Nat,U4 k n=G1 k n
 |0=>by kernel_rfl
 |n+1=>by
  obtain h0:=Af6 k n
  exact(by kernel_rfl:_=O2 k (U4 k n)).trans (by rw[h0];kernel_rfl)
def Ae0 (k:Nat):Spec:=sP [.bool] [] [(.slice 4 .bool),(.slice 4 .bool)] λx=>R8 k x.1 x.2.1
def Bz9 (k:Nat):Cfg:=cf k 106 Tryz.f106 [(71,Q8 k),(134,S4 k),(137,Ae0 k)] [] [(72,Tryz.f72),(133,Tryz.f133),(135,Tryz.f135),(136,Tryz.f136)] [(13500002004,[1,2,15,16,17]),(13600003004,[1,2,15,16,17])] [] [] [] [(13500002004,[[2,3,5,10]]),(13600003004,[[2,3,11,17]])]
def Bh7 (k n:Nat) (a1:A6) (a0:A6) (v2:Int):=lV (Bz9 k) p6 n 13600003004 [1,1,0,1,0,0] Tryz.f136 [.b 0,fS [1,1,1] Tryz.f136, .fn Tryz.f136,fO [1,1,0] Tryz.f106 12 17,fS [1,1,1] Tryz.f106, .fn Tryz.f106] ⟨⟨(C4 32 0 [(1,one (.slc 127 (.slice 145 B6) a1.2.1)),(2,one (.fn 133 [])),(15,one (.slc 127 (.slice 145 B6) a0.2.1)),oI 16 (a0.2.1.length:Int),oI 17 v2]),[(100, .box (B1 C8 a0)),(101, .box (B1 C8 a1))]⟩,13600003000,3,[(10600001000,(C4 26 0 [oP 2 100 0,oP 3 101 0,oB 11 true])),(0,(C4 0 0 []))]⟩
def Bh8 (k n:Nat) (a1:A6) (a0:A6) (v1:Int):=lV (Bz9 k) p6 n 13500002004 [1,1,0,1,0,0] Tryz.f135 [.b 0,fS [1,1,1] Tryz.f135, .fn Tryz.f135,fO [1,1,0] Tryz.f106 5 10,fS [1,1,1] Tryz.f106, .fn Tryz.f106] ⟨⟨(C4 32 0 [(1,one (.slc 49 B0 a1.1)),(2,one (.fn 72 [])),(15,one (.slc 49 B0 a0.1)),oI 16 (a0.1.length:Int),oI 17 v1]),[(100, .box (B1 C8 a0)),(101, .box (B1 C8 a1))]⟩,13500002000,2,[(10600001000,(C4 26 0 [oP 2 100 0,oP 3 101 0,(5,one (.fn 133 []))])),(0,(C4 0 0 []))]⟩
theorem Dc9 (k:Nat):∀n:Nat,Bh7 k n=n6 k n∧Bh8 k n=X3 k n
 |0=> ⟨by kernel_rfl,by kernel_rfl⟩
 |n+1=>by
  obtain⟨h1,h0⟩:=Dc9 k n
  exact⟨(by kernel_rfl:_=Au2 k (Bh7 k n)).trans (by rw[h1];kernel_rfl),(by kernel_rfl:_=Au3 k (Bh8 k n) (Bh7 k n)).trans (by rw[h0,h1];kernel_rfl)⟩
def Cq8 (k:Nat):Spec:=sP [.bool] [] [C8,C8] λx=>Cv4 k x.1 x.2.1
def Fw5 (k:Nat):Cfg:=cg k 69 Tryz.f69 [(105,Dx1 k),(106,Cq8 k)] []
def Dx2 (k:Nat):Spec:=sP [.bool] [] [C8] λx=>D97 k x.1
def Fw6 (k:Nat):Cfg:=cg k 107 Tryz.f107 [] []
def Dx3 (k:Nat):Spec:=sP [.bool] [] [C8,(.int .i64)] λx=>C44 k x.1 x.2.1
def Dx4 (k:Nat):Cfg:=cf k 70 Tryz.f70 [(107,Dx3 k)] [] [] [(7000001003,[1,3,7,8,9])] [(7000001003,[(3,[0],3,(.int .i64),false,false)])] [] [] []
def B00 (k n:Nat) (a0:A6) (v1:Int) (xs2:List Int):=lV (Dx4 k) i6 n 7000001003 [1,1,0,1,0,0] Tryz.f70 [.b 0,fS [1,1,1] Tryz.f70, .fn Tryz.f70] ⟨⟨(C4 30 0 [oP 1 100 0,oR 3 101,(7,one (.slc 49 B0 a0.1)),oI 8 (a0.1.length:Int),oI 9 v1]),[(100, .box (B1 C8 a0)),(101, .row 3 (.int .i64) xs2 true)]⟩,7000001000,1,[(0,(C4 0 0 []))]⟩
theorem Dx5 (k:Nat):∀n:Nat,B00 k n=Ad0 k n
 |0=>by kernel_rfl
 |n+1=>by
  obtain h0:=Dx5 k n
  exact(by kernel_rfl:_=Bs5 k (B00 k n)).trans (by rw[h0];kernel_rfl)
def Dd0 (k:Nat):Spec:=sP [(.slice 3 (.int .i64))] [.o] [C8] λx=>Di8 k x.1
def Cz1 (k:Nat):Cfg:=cg k 29 Tryz.f29 [(30,M9 k),(69,Dx2 k),(70,Dd0 k),(71,Q8 k)] [(2900001004,[1,25,26,27]),(2900001011,[5,79,80,81])]
def Ce3 (k n:Nat) (a0:B4) (v2:Int) (r4:List Int):=lV (Cz1 k) p6 n 2900001011 [1,1,1,1,0,1,0,0] Tryz.f29 [.b 2,fS [1,1,1,1,1] Tryz.f29, .fn Tryz.f29] ⟨⟨(C4 107 0 [oR 5 100,(79,one (.slc 98 T0 a0.2.2.1)),oI 80 (a0.2.2.1.length:Int),oI 81 v2]),[(100, .row 3 (.int .i64) r4 true)]⟩,2900001000,1,[(0,(C4 0 0 []))]⟩
def Ce4 (k n:Nat) (a0:B4) (v1:Int):=lV (Cz1 k) p6 n 2900001004 [1,1,0,1,0,0] Tryz.f29 [.b 0,fS [1,1,1] Tryz.f29, .fn Tryz.f29] ⟨⟨(C4 107 0 [oP 1 100 0,(25,one (.slc 67 C9 a0.1)),oI 26 (a0.1.length:Int),oI 27 v1]),[(100, .box (B1 R1 a0))]⟩,2900001000,1,[(0,(C4 0 0 []))]⟩
theorem Eh7 (k:Nat):∀n:Nat,Ce3 k n=w9 k n∧Ce4 k n=P6 k n
 |0=> ⟨by kernel_rfl,by kernel_rfl⟩
 |n+1=>by
  obtain⟨h1,h0⟩:=Eh7 k n
  exact⟨(by kernel_rfl:_=Bb2 k (Ce3 k n)).trans (by rw[h1];kernel_rfl),(by kernel_rfl:_=Bb3 k (Ce4 k n) (Ce3 k n)).trans (by rw[h0,h1];kernel_rfl)⟩
def Dx6 (k:Nat):Spec:=sP [.bool] [] [R1] λx=>Bk8 k x.1
def En7 (k:Nat):Cfg:=cg k 72 Tryz.f72 [(71,Q8 k)] []
def Ce5 (k:Nat):Spec:=sP [.bool] [] [B0,B0] λx=>Bb4 k x.1 x.2.1
def Fw7 (k:Nat):Cfg:=cg k 73 Tryz.f73 [(74,An7 k)] []
def Dx7 (k:Nat):Spec:=sP [.bool] [] [B0] λx=>C45 k x.1
def En8 (k:Nat):Cfg:=cg k 31 Tryz.f31 [(30,M9 k),(72,Ce5 k),(73,Dx7 k),(74,An7 k)] []
def Ce6 (k:Nat):Spec:=sP [.bool] [] [G4] λx=>Bb5 k x.1
def Dd1 (k:Nat):Cfg:=cf k 32 Tryz.f32 [(75,Bh5 k)] [] [] [(3200001003,[2,3,14,15,16])] [(3200001003,[(3,[999999,0,4],98,T0,false,false)])] [98] [] []
def Bh9 (k n:Nat) (a0:B4) (v1:Int) (r1:A6) (xs2:List C3):=lV (Dd1 k) Gn6 n 3200001003 [1,1,0,1,0,0] Tryz.f32 [.b 0,fS [1,1,1] Tryz.f32, .fn Tryz.f32] ⟨⟨(C4 32 0 [oP 2 100 0,oP 3 101 0,(14,one (.slc 98 T0 a0.2.2.1)),oI 15 (a0.2.2.1.length:Int),oI 16 v1]),[(100, .box [.nilS, .nilS, .nilS, .nilS, .nilS]),(101, .box [cR 102,cR 103,cR 104,cR 105,cR 106]),(102, .row 67 C9 a0.1 true),(103, .tree 49 B0 r1.1 0),(104, .tree 127 (.slice 145 B6) r1.2.1 0),(105, .row 4 .bool r1.2.2.1 true),(106, .tree 98 T0 xs2 1)]⟩,3200001000,1,[(0,(C4 0 0 []))]⟩
theorem Dd2 (k:Nat):∀n:Nat,Bh9 k n=n7 k n
 |0=>by kernel_rfl
 |n+1=>by
  obtain h0:=Dd2 k n
  exact(by kernel_rfl:_=Bf4 k (Bh9 k n)).trans (by rw[h0];kernel_rfl)
def Cq9 (k:Nat):Spec:=sP [R1] [.o, .t, .t, .o, .t] [R1] λx=>Cv5 k x.1
noncomputable def B31 (k:Nat):Spec:=B61 (Cl4 [.str] []) [.int .i64] λx=>strconv_Itoa k x.1
def Fk7 (k:Nat):Cfg:=cg k 33 Tryz.f33 [(76,B31 k)] []
def Dd3 (k:Nat):Spec:=sP [.str] [] [(.int .i64)] λx=>G9 k x.1
def A84 (k:Nat):Cfg:=cf k 113 Tryz.f113 [(141,N8 k)] [(142,i7 k)] [(139,Tryz.f139),(140,Tryz.f140),(143,Tryz.f143),(164,Tryz.f164)] [(11300001003,[1,3,8,9,10]),(14300002004,[0,3]),(14300002009,[0,3,4,5]),(16400003002,[0,1,7,8])] [(11300001003,[(3,[0],3,(.int .i64),false,false)])] [] [] [(14300002004,[[29]]),(14300002009,[[29]]),(16400003002,[[7],[1,3,5,8,9,10,17]])]
def Ce7 (k n:Nat) (v5:Int) (v4:Int) (v6:Int) (xs7:List Int) (a0:A6) (v1:Int):=lV (A84 k) i6 n 14300002009 [1,1,0,1,0,0,1,0,0,1,0,1,0,1,0,0] Tryz.f143 [.b 2,fS [1,1,0,1,0,0,1,0,0,1,0,1,1] Tryz.f143, .b 1,fS [1,1,0,1,0,0,1,1] Tryz.f143, .l 14300002004 (cd [1,1,0,1,0,0] (bo Tryz.f143)), .b 0,fS [1,1,1] Tryz.f143, .fn Tryz.f143,fO [1,1,1,1,0] Tryz.f113 2 29,fS [1,1,1,1,1] Tryz.f113, .fn Tryz.f113] ⟨⟨(C4 61 0 [oR 0 100,oI 3 v5,(4,one (.row 100 (some v4.toNat) none)),oI 5 v6]),[(100, .row 3 (.int .i64) xs7 true)]⟩,14300002000,2,[(11300001000,(C4 30 0 [])),(0,(C4 0 0 []))]⟩
def Ce8 (k n:Nat) (v4:Int) (r2:Unit×List Int×Unit) (a0:A6) (v1:Int):=lV (A84 k) i6 n 14300002004 [1,1,0,1,0,0] Tryz.f143 [.b 0,fS [1,1,1] Tryz.f143, .fn Tryz.f143,fO [1,1,1,1,0] Tryz.f113 2 29,fS [1,1,1,1,1] Tryz.f113, .fn Tryz.f113] ⟨⟨(C4 61 0 [oR 0 100,oI 3 v4]),[(100, .row 3 (.int .i64) r2.2.1 true)]⟩,14300002000,2,[(11300001000,(C4 30 0 [])),(0,(C4 0 0 []))]⟩
def Ce9 (k n:Nat) (a0:A6) (v1:Int) (xs2:List Int):=lV (A84 k) i6 n 11300001003 [1,1,0,1,0,0] Tryz.f113 [.b 0,fS [1,1,1] Tryz.f113, .fn Tryz.f113] ⟨⟨(C4 30 0 [oP 1 100 0,oR 3 101,(8,one (.slc 49 B0 a0.1)),oI 9 (a0.1.length:Int),oI 10 v1]),[(100, .box (B1 C8 a0)),(101, .row 3 (.int .i64) xs2 true)]⟩,11300001000,1,[(0,(C4 0 0 []))]⟩
def Cf0 (k n:Nat) (a0:A6) (v3:Int) (v1:Int) (xs2:List Int):=lV (A84 k) i6 n 16400003002 [1,0,1,0,0] Tryz.f164 [.b 0,fS [1,1] Tryz.f164, .fn Tryz.f164,fO [1,0] Tryz.f139 3 7,fS [1,1] Tryz.f139, .fn Tryz.f139,fO [1,1,0,1,0,0,1,1,0,0,1,0] Tryz.f113 4 17,fS [1,1,0,1,0,0,1,1,0,0,1,1] Tryz.f113, .b 1,fS [1,1,0,1,0,0,1,1,1] Tryz.f113, .l 11300001003 (cd [1,1,0,1,0,0] (bo Tryz.f113)), .b 0,fS [1,1,1] Tryz.f113, .fn Tryz.f113] ⟨⟨(C4 19 0 [(0,one (.slc 49 B0 a0.1)),(1,one (.fn 140 [100])),oI 7 (a0.1.length:Int),oI 8 v3]),[(100, .box (B1 B0 (rd A4 a0.1 v1.toNat))),(101, .box (B1 C8 a0)),(102, .row 3 (.int .i64) xs2 true)]⟩,16400003000,3,[(13900002000,(C4 9 0 [])),(11300001000,(C4 30 0 [oP 1 101 0,oR 3 102,oP 5 100 0,(8,one (.slc 49 B0 a0.1)),oI 9 (a0.1.length:Int),oI 10 v1])),(0,(C4 0 0 []))]⟩
theorem Eh8 (k:Nat):∀n:Nat,Ce7 k n=Bb8 k n∧Ce8 k n=Ai7 k n∧Ce9 k n=Ai8 k n∧Cf0 k n=Aw7 k n
 |0=> ⟨by kernel_rfl,by kernel_rfl,by kernel_rfl,by kernel_rfl⟩
 |n+1=>by
  obtain⟨h3,h2,h0,h1⟩:=Eh8 k n
  exact⟨(by kernel_rfl:_=Dp5 k (Ce7 k n)).trans (by rw[h3];kernel_rfl),(by kernel_rfl:_=Dp6 k (Ce7 k n) (Ce8 k n)).trans (by rw[h3,h2];kernel_rfl),(by kernel_rfl:_=Bb6 k (Cf0 k n) (Ce8 k n)).trans (by rw[h1,h2];kernel_rfl),(by kernel_rfl:_=Bb7 k (Ce9 k n) (Cf0 k n)).trans (by rw[h0,h1];kernel_rfl)⟩
def Cf1 (k:Nat):Spec:=sP [(.slice 3 (.int .i64))] [.o] [C8] λx=>Bk9 k x.1
def Ga4 (k:Nat):Cfg:=cg k 77 Tryz.f77 [(30,M9 k),(110,Aa5 k),(113,Cf1 k),(114,By4 k)] []
def Eh9 (k:Nat):Spec:=sP [B0] [.o, .o] [C8,(.int .i64),B0] λx=>E11 k x.1 x.2.1 x.2.2.1
def Fk8 (k:Nat):Cfg:=cg k 116 Tryz.f116 [(113,Cf1 k),(146,Ce1 k)] []
def Dd4 (k:Nat):Spec:=sP [(.slice 145 B6)] [.o] [C8] λx=>Di9 k x.1
def Dx8 (k:Nat):Cfg:=cf k 79 Tryz.f79 [(116,Dd4 k),(117,Av1 k)] [] [] [(7900001004,[1,3,4,5])] [(7900001004,[(4,[0],3,(.int .i64),false,false)])] [] [] []
def B01 (k n:Nat) (v1:Int) (a0:A6) (r1:List A1) (xs2:List Int):=lV (Dx8 k) i6 n 7900001004 [1,1,1,0,1,0,0] Tryz.f79 [.b 0,fS [1,1,1,1] Tryz.f79, .fn Tryz.f79] ⟨⟨(C4 23 0 [oP 1 100 0,oR 3 101,oR 4 102,oI 5 v1]),[(100, .box (B1 C8 a0)),(101, .row 145 B6 r1 true),(102, .row 3 (.int .i64) xs2 true)]⟩,7900001000,1,[(0,(C4 0 0 []))]⟩
theorem Dx9 (k:Nat):∀n:Nat,B01 k n=Ad1 k n
 |0=>by kernel_rfl
 |n+1=>by
  obtain h0:=Dx9 k n
  exact(by kernel_rfl:_=Bs6 k (B01 k n)).trans (by rw[h0];kernel_rfl)
def Dd5 (k:Nat):Spec:=sP [(.slice 3 (.int .i64))] [.o] [C8] λx=>Dj0 k x.1
def Aj7 (k:Nat):Cfg:=cf k 9 Tryz.f9 [(29,Dx6 k),(30,M9 k),(31,Ce6 k),(32,Cq9 k),(33,Dd3 k),(77,Eh9 k),(79,Dd5 k),(115,Bh6 k)] [] [(34,Tryz.f34),(35,Tryz.f35),(36,Tryz.f36),(78,Tryz.f78)] [(3400002002,[0,1,7,8]),(3600004023,[13,98,99,100]),(7800005009,[0,4,10,51,52])] [(7800005009,[(0,[999999,0,4],98,T0,false,false)])] [] [] [(3400002002,[[1,5,6,9,58]]),(3600004023,[[5,6,9,11,105]]),(7800005009,[[5,7,31,50],[5,6,9,11,105]])]
def B02 (k n:Nat) (r10:A6×Bool) (r4:B4) (v2:Int) (r9:A0) (a2:B7) (a0:B4) (xs3:List C3) (a1:Int) (v1:Int) (r1:Bool) (r2:Bool) (r3:Bool):=lV (Aj7 k) Db2 n 7800005009 [1,1,1,1,1,0,1,0,1,0,0] Tryz.f78 [.b 0,fS [1,1,1,1,1,1] Tryz.f78, .fn Tryz.f78,fO [1,0,1,0,1,0,1,0] Tryz.f36 3 31,fS [1,0,1,0,1,0,1,1] Tryz.f36, .b 0,fS [1,1] Tryz.f36, .fn Tryz.f36,fO [1,1,1,1,1,1,1,1,0] Tryz.f9 3 105,fS [1,1,1,1,1,1,1,1,1] Tryz.f9, .fn Tryz.f9] ⟨⟨(C4 76 0 [oP 0 100 0,oP 4 101 0,oB 10 (rd false r10.1.2.2.1 (B5 ((r10.1.2.2.1.length:Int)-1)).toNat),oI 51 (r4.2.2.1.length:Int),oI 52 v2]),[(100, .box [cR 106,cR 107,cR 108,cR 109,cR 110]),(101, .box [cI r9.1,cI r9.2.1,cI r9.2.2.1,cI r9.2.2.2.1,cI r9.2.2.2.2.1,cR 111, .str r9.2.2.2.2.2.2.1,cR 112,cI r9.2.2.2.2.2.2.2.2.1]),(102, .box (B1 G4 a2)),(103, .box [cI r9.1,cI r9.2.1,cI r9.2.2.1,cI r9.2.2.2.1,cI r9.2.2.2.2.1,cR 111, .str r9.2.2.2.2.2.2.1,cR 112,cI r9.2.2.2.2.2.2.2.2.1]),(104, .box (B1 G4 a2)),(105, .box [.nilS, .nilS, .nilS, .nilS, .nilS]),(106, .row 67 C9 r4.1 true),(107, .tree 49 B0 r10.1.1 0),(108, .tree 127 (.slice 145 B6) r10.1.2.1 0),(109, .row 4 .bool r10.1.2.2.1 true),(110, .tree 98 T0 xs3 1),(111, .row 3 (.int .i64) r9.2.2.2.2.2.1 true),(112, .row 3 (.int .i64) r9.2.2.2.2.2.2.2.1 true)]⟩,7800005000,5,[(3600004000,(C4 111 0 [oP 5 102 0,oP 7 103 0])),(900001000,(C4 117 0 [oP 5 104 0,oP 6 105 0,oP 9 100 0,(11,one (.eptr 106 v1.toNat 0))])),(0,(C4 0 0 []))]⟩
def B03 (k n:Nat) (r10:A6×Bool) (r4:B4) (v4:Int) (r9:A0) (a2:B7) (a0:B4) (xs5:List C3) (a1:Int) (v1:Int) (r1:Bool) (r2:Bool) (r3:Bool):=lV (Aj7 k) Db2 n 7800005009 [1,1,1,1,1,0,1,0,1,0,0] Tryz.f78 [.b 0,fS [1,1,1,1,1,1] Tryz.f78, .fn Tryz.f78,fO [1,0,1,0,1,0,1,0] Tryz.f36 3 31,fS [1,0,1,0,1,0,1,1] Tryz.f36, .b 0,fS [1,1] Tryz.f36, .fn Tryz.f36,fO [1,1,1,1,1,1,1,1,0] Tryz.f9 3 105,fS [1,1,1,1,1,1,1,1,1] Tryz.f9, .fn Tryz.f9] ⟨⟨(C4 76 0 [oP 0 100 0,oP 4 101 0,oB 10 (rd false r10.1.2.2.1 (B5 ((r10.1.2.2.1.length:Int)-1)).toNat),oI 51 (r4.2.2.1.length:Int),oI 52 v4]),[(100, .box [cR 106,cR 107,cR 108,cR 109,cR 110]),(101, .box [cI r9.1,cI r9.2.1,cI r9.2.2.1,cI r9.2.2.2.1,cI r9.2.2.2.2.1,cR 111, .str r9.2.2.2.2.2.2.1,cR 112,cI r9.2.2.2.2.2.2.2.2.1]),(102, .box (B1 G4 a2)),(103, .box [cI r9.1,cI r9.2.1,cI r9.2.2.1,cI r9.2.2.2.1,cI r9.2.2.2.2.1,cR 111, .str r9.2.2.2.2.2.2.1,cR 112,cI r9.2.2.2.2.2.2.2.2.1]),(104, .box (B1 G4 a2)),(105, .box [.nilS, .nilS, .nilS, .nilS, .nilS]),(106, .row 67 C9 r4.1 true),(107, .tree 49 B0 r4.2.1.1 0),(108, .tree 127 (.slice 145 B6) r4.2.1.2.1 0),(109, .row 4 .bool r4.2.1.2.2.1 true),(110, .tree 98 T0 xs5 1),(111, .row 3 (.int .i64) r9.2.2.2.2.2.1 true),(112, .row 3 (.int .i64) r9.2.2.2.2.2.2.2.1 true)]⟩,7800005000,5,[(3600004000,(C4 111 0 [oP 5 102 0,oP 7 103 0])),(900001000,(C4 117 0 [oP 5 104 0,oP 6 105 0,oP 9 100 0,(11,one (.eptr 106 v1.toNat 0))])),(0,(C4 0 0 []))]⟩
def B04 (k n:Nat) (r19:A6×Bool) (r4:B4) (v6:Int) (a2:B7) (a0:B4) (xs7:List C3) (a1:Int) (v1:Int) (r1:Bool) (r2:Bool) (r3:Bool):=lV (Aj7 k) Db2 n 7800005009 [1,1,1,1,1,0,1,0,1,0,0] Tryz.f78 [.b 0,fS [1,1,1,1,1,1] Tryz.f78, .fn Tryz.f78,fO [1,0,1,0,1,1,1,0,0] Tryz.f36 4 50,fS [1,0,1,0,1,1,1,0,1] Tryz.f36, .b 0,fS [1,1] Tryz.f36, .fn Tryz.f36,fO [1,1,1,1,1,1,1,1,0] Tryz.f9 3 105,fS [1,1,1,1,1,1,1,1,1] Tryz.f9, .fn Tryz.f9] ⟨⟨(C4 76 0 [oP 0 100 0,oP 4 101 0,oB 10 (rd false r19.1.2.2.1 (B5 ((r19.1.2.2.1.length:Int)-1)).toNat),oI 51 (r4.2.2.1.length:Int),oI 52 v6]),[(100, .box [cR 105,cR 106,cR 107,cR 108,cR 109]),(101, .box (B1 B0 a2.2.2.2.1)),(102, .box (B1 G4 a2)),(103, .box (B1 G4 a2)),(104, .box [.nilS, .nilS, .nilS, .nilS, .nilS]),(105, .row 67 C9 r4.1 true),(106, .tree 49 B0 r19.1.1 0),(107, .tree 127 (.slice 145 B6) r19.1.2.1 0),(108, .row 4 .bool r19.1.2.2.1 true),(109, .tree 98 T0 xs7 1)]⟩,7800005000,5,[(3600004000,(C4 111 0 [oP 5 102 0])),(900001000,(C4 117 0 [oP 5 103 0,oP 6 104 0,oP 9 100 0,(11,one (.eptr 105 v1.toNat 0))])),(0,(C4 0 0 []))]⟩
def B05 (k n:Nat) (v8:ByteArray) (r32:List Int) (v9:Int) (a0:B4) (a2:B7) (r4:B4) (a1:Int) (v1:Int) (r1:Bool) (r2:Bool) (r3:Bool):=lV (Aj7 k) Db2 n 3600004023 [1,1,1,0,1,0,0] Tryz.f36 [.b 3,fS [1,1,1,1] Tryz.f36, .fn Tryz.f36,fO [1,1,1,1,1,1,1,1,0] Tryz.f9 3 105,fS [1,1,1,1,1,1,1,1,1] Tryz.f9, .fn Tryz.f9] ⟨⟨(C4 111 0 [(13,one (.str v8)),oR 98 100,oI 99 (r32.length:Int),oI 100 v9]),[(100, .row 3 (.int .i64) r32 true),(101, .box (B1 G4 a2)),(102, .box [.nilS, .nilS, .nilS, .nilS, .nilS]),(103, .box [cR 104,cR 105,cR 106,cR 107,cR 108]),(104, .row 67 C9 r4.1 true),(105, .tree 49 B0 r4.2.1.1 0),(106, .tree 127 (.slice 145 B6) r4.2.1.2.1 0),(107, .row 4 .bool r4.2.1.2.2.1 true),(108, .tree 98 T0 r4.2.2.1 0)]⟩,3600004000,4,[(900001000,(C4 117 0 [oP 5 101 0,oP 6 102 0,oP 9 103 0,(11,one (.eptr 104 v1.toNat 0))])),(0,(C4 0 0 []))]⟩
def B06 (k n:Nat) (a0:B4) (v1:Int) (a2:B7) (r4:B4) (a1:Int) (r1:Bool) (r2:Bool) (r3:Bool):=lV (Aj7 k) Db2 n 3400002002 [1,0,1,0,0] Tryz.f34 [.b 0,fS [1,1] Tryz.f34, .fn Tryz.f34,fO [1,1,1,1,0] Tryz.f9 4 58,fS [1,1,1,1,1] Tryz.f9, .fn Tryz.f9] ⟨⟨(C4 19 0 [(0,one (.slc 67 C9 a0.1)),(1,one (.fn 35 [100])),oI 7 (a0.1.length:Int),oI 8 v1]),[(100, .box (B1 G4 a2)),(101, .box [.nilS, .nilS, .nilS, .nilS, .nilS]),(102, .box [cR 103,cR 104,cR 105,cR 106,cR 107]),(103, .row 67 C9 r4.1 true),(104, .tree 49 B0 r4.2.1.1 0),(105, .tree 127 (.slice 145 B6) r4.2.1.2.1 0),(106, .row 4 .bool r4.2.1.2.2.1 true),(107, .tree 98 T0 r4.2.2.1 0)]⟩,3400002000,2,[(900001000,(C4 117 0 [oI 1 a1,oP 5 100 0,oP 6 101 0,oP 9 102 0])),(0,(C4 0 0 []))]⟩
theorem Dy0 (k:Nat):∀n:Nat,B02 k n=Ad2 k n∧B03 k n=Bt0 k n∧B04 k n=Bt1 k n∧B05 k n=Ad3 k n∧B06 k n=d8 k n
 |0=> ⟨by kernel_rfl,by kernel_rfl,by kernel_rfl,by kernel_rfl,by kernel_rfl⟩
 |n+1=>by
  obtain⟨h1,h2,h3,h4,h0⟩:=Dy0 k n
  exact⟨(by kernel_rfl:_=Bs7 k (B02 k n)).trans (by rw[h1];kernel_rfl),(by kernel_rfl:_=C47 k (B03 k n)).trans (by rw[h2];kernel_rfl),(by kernel_rfl:_=C48 k (B04 k n)).trans (by rw[h3];kernel_rfl),(by kernel_rfl:_=Bs8 k (B05 k n)).trans (by rw[h4];kernel_rfl),(by kernel_rfl:_=Bs9 k (B02 k n) (B03 k n) (B04 k n) (B05 k n) (B06 k n)).trans (by rw[h1,h2,h3,h4,h0];kernel_rfl)⟩
def Dd6 (k:Nat):Spec:=sP [R1, .str, .bool] [.o, .t, .t, .o, .t] [R1,(.int .i64),G4] λx=>A33 k x.1 x.2.1 x.2.2.1
def En9 (k:Nat):Cfg:=cg k 80 Tryz.f80 [] []
def Cf2 (k:Nat):Spec:=sP [.bool] [] [C9,C9] λx=>Aw8 k x.1 x.2.1
def Cf3 (k:Nat):Cfg:=cg k 37 Tryz.f37 [(80,Cf2 k)] [(3700001004,[0,1,5])]
def Ay2 (k n:Nat) (a0:List A7) (a1:List A7) (v1:Int):=lV (Cf3 k) p6 n 3700001004 [1,1,0,1,0,0] Tryz.f37 [.b 0,fS [1,1,1] Tryz.f37, .fn Tryz.f37] ⟨⟨(C4 27 0 [(0,one (.slc 67 C9 a0)),(1,one (.slc 67 C9 a1)),oI 5 v1]),[]⟩,3700001000,1,[(0,(C4 0 0 []))]⟩
theorem Cf4 (k:Nat):∀n:Nat,Ay2 k n=Ag3 k n
 |0=>by kernel_rfl
 |n+1=>by
  obtain h0:=Cf4 k n
  exact(by kernel_rfl:_=B19 k (Ay2 k n)).trans (by rw[h0];kernel_rfl)
def B32 (k:Nat):Spec:=sP [.bool] [] [(.slice 67 C9),(.slice 67 C9)] λx=>Bt2 k x.1 x.2.1
def Ei0 (k:Nat):Cfg:=cg k 85 Tryz.f85 [] [(8500001004,[0,1,5])]
def Cf5 (k n:Nat) (a0:List Int) (a1:List Int) (v1:Int):=lV (Ei0 k) p6 n 8500001004 [1,1,0,1,0,0] Tryz.f85 [.b 0,fS [1,1,1] Tryz.f85, .fn Tryz.f85] ⟨⟨(C4 26 0 [(0,one (.slc 3 (.int .i64) a0)),(1,one (.slc 3 (.int .i64) a1)),oI 5 v1]),[]⟩,8500001000,1,[(0,(C4 0 0 []))]⟩
theorem Ei1 (k:Nat):∀n:Nat,Cf5 k n=Ai9 k n
 |0=>by kernel_rfl
 |n+1=>by
  obtain h0:=Ei1 k n
  exact(by kernel_rfl:_=Bb9 k (Cf5 k n)).trans (by rw[h0];kernel_rfl)
def Cf6 (k:Nat):Spec:=sP [.bool] [] [(.slice 3 (.int .i64)),(.slice 3 (.int .i64))] λx=>B81 k x.1 x.2.1
def Fk9 (k:Nat):Cfg:=cg k 40 Tryz.f40 [(85,Cf6 k)] []
def B07 (k:Nat):Spec:=sP [.bool] [] [B0,B0] λx=>A34 k x.1 x.2.1
def Dd7 (k:Nat):Cfg:=cg k 81 Tryz.f81 [(40,B07 k)] [(8100001004,[0,1,5])]
def Bi0 (k n:Nat) (a0:List A0) (a1:List A0) (v1:Int):=lV (Dd7 k) p6 n 8100001004 [1,1,0,1,0,0] Tryz.f81 [.b 0,fS [1,1,1] Tryz.f81, .fn Tryz.f81] ⟨⟨(C4 27 0 [(0,one (.slc 49 B0 a0)),(1,one (.slc 49 B0 a1)),oI 5 v1]),[]⟩,8100001000,1,[(0,(C4 0 0 []))]⟩
theorem Dd8 (k:Nat):∀n:Nat,Bi0 k n=Au4 k n
 |0=>by kernel_rfl
 |n+1=>by
  obtain h0:=Dd8 k n
  exact(by kernel_rfl:_=Cn4 k (Bi0 k n)).trans (by rw[h0];kernel_rfl)
def Cr0 (k:Nat):Spec:=sP [.bool] [] [(.slice 49 B0),(.slice 49 B0)] λx=>Cv6 k x.1 x.2.1
def Fw8 (k:Nat):Cfg:=cg k 151 Tryz.f151 [] []
def Dy1 (k:Nat):Spec:=sP [.bool] [] [B6,B6] λx=>B82 k x.1 x.2.1
def Dy2 (k:Nat):Cfg:=cg k 118 Tryz.f118 [(151,Dy1 k)] [(11800001004,[0,1,5])]
def B08 (k n:Nat) (a0:List A1) (a1:List A1) (v1:Int):=lV (Dy2 k) p6 n 11800001004 [1,1,0,1,0,0] Tryz.f118 [.b 0,fS [1,1,1] Tryz.f118, .fn Tryz.f118] ⟨⟨(C4 27 0 [(0,one (.slc 145 B6 a0)),(1,one (.slc 145 B6 a1)),oI 5 v1]),[]⟩,11800001000,1,[(0,(C4 0 0 []))]⟩
theorem Dy3 (k:Nat):∀n:Nat,B08 k n=A13 k n
 |0=>by kernel_rfl
 |n+1=>by
  obtain h0:=Dy3 k n
  exact(by kernel_rfl:_=C50 k (B08 k n)).trans (by rw[h0];kernel_rfl)
def Dd9 (k:Nat):Spec:=sP [.bool] [] [(.slice 145 B6),(.slice 145 B6)] λx=>Cj9 k x.1 x.2.1
def De0 (k:Nat):Cfg:=cg k 82 Tryz.f82 [(118,Dd9 k)] [(8200001004,[0,1,5])]
def Bi1 (k n:Nat) (a0:List (List A1)) (a1:List (List A1)) (v1:Int):=lV (De0 k) p6 n 8200001004 [1,1,0,1,0,0] Tryz.f82 [.b 0,fS [1,1,1] Tryz.f82, .fn Tryz.f82] ⟨⟨(C4 27 0 [(0,one (.slc 127 (.slice 145 B6) a0)),(1,one (.slc 127 (.slice 145 B6) a1)),oI 5 v1]),[]⟩,8200001000,1,[(0,(C4 0 0 []))]⟩
theorem De1 (k:Nat):∀n:Nat,Bi1 k n=Au5 k n
 |0=>by kernel_rfl
 |n+1=>by
  obtain h0:=De1 k n
  exact(by kernel_rfl:_=Cn5 k (Bi1 k n)).trans (by rw[h0];kernel_rfl)
def Cr1 (k:Nat):Spec:=sP [.bool] [] [(.slice 127 (.slice 145 B6)),(.slice 127 (.slice 145 B6))] λx=>Cv7 k x.1 x.2.1
def Dy4 (k:Nat):Cfg:=cg k 83 Tryz.f83 [] [(8300001004,[0,1,5])]
def B09 (k n:Nat) (a0:List Bool) (a1:List Bool) (v1:Int):=lV (Dy4 k) p6 n 8300001004 [1,1,0,1,0,0] Tryz.f83 [.b 0,fS [1,1,1] Tryz.f83, .fn Tryz.f83] ⟨⟨(C4 26 0 [(0,one (.slc 4 .bool a0)),(1,one (.slc 4 .bool a1)),oI 5 v1]),[]⟩,8300001000,1,[(0,(C4 0 0 []))]⟩
theorem Dy5 (k:Nat):∀n:Nat,B09 k n=Ad4 k n
 |0=>by kernel_rfl
 |n+1=>by
  obtain h0:=Dy5 k n
  exact(by kernel_rfl:_=A14 k (B09 k n)).trans (by rw[h0];kernel_rfl)
def De2 (k:Nat):Spec:=sP [.bool] [] [(.slice 4 .bool),(.slice 4 .bool)] λx=>Dj1 k x.1 x.2.1
def Fw9 (k:Nat):Cfg:=cg k 38 Tryz.f38 [(81,Cr0 k),(82,Cr1 k),(83,De2 k)] []
def Dy6 (k:Nat):Spec:=sP [.bool] [] [C8,C8] λx=>C52 k x.1 x.2.1
def Ga5 (k:Nat):Cfg:=cg k 84 Tryz.f84 [(85,Cf6 k)] []
def Ei2 (k:Nat):Spec:=sP [.bool] [] [T0,T0] λx=>C53 k x.1 x.2.1
def Ei3 (k:Nat):Cfg:=cg k 39 Tryz.f39 [(84,Ei2 k)] [(3900001004,[0,1,5])]
def Cf7 (k n:Nat) (a0:List C3) (a1:List C3) (v1:Int):=lV (Ei3 k) p6 n 3900001004 [1,1,0,1,0,0] Tryz.f39 [.b 0,fS [1,1,1] Tryz.f39, .fn Tryz.f39] ⟨⟨(C4 27 0 [(0,one (.slc 98 T0 a0)),(1,one (.slc 98 T0 a1)),oI 5 v1]),[]⟩,3900001000,1,[(0,(C4 0 0 []))]⟩
theorem Ei4 (k:Nat):∀n:Nat,Cf7 k n=Bc0 k n
 |0=>by kernel_rfl
 |n+1=>by
  obtain h0:=Ei4 k n
  exact(by kernel_rfl:_=Dq1 k (Cf7 k n)).trans (by rw[h0];kernel_rfl)
def Dy7 (k:Nat):Spec:=sP [.bool] [] [(.slice 98 T0),(.slice 98 T0)] λx=>Ea2 k x.1 x.2.1
def Fx0 (k:Nat):Cfg:=cg k 10 Tryz.f10 [(37,B32 k),(38,Dy6 k),(39,Dy7 k)] []
def Dy8 (k:Nat):Spec:=sP [.bool] [] [R1,R1] λx=>A59 k x.1 x.2.1
def Eo0 (k:Nat):Cfg:=cg k 11 Tryz.f11 [(40,B07 k)] []
def Cf8 (k:Nat):Spec:=sP [.bool] [] [G4,G4] λx=>Bc1 k x.1 x.2.1
def De3 (k:Nat):Cfg:=cg k 86 Tryz.f86 [] [(8600001004,[0,3])]
def Bi2 (k n:Nat) (a0:Int) (v1:ByteArray):=lV (De3 k) Gn5 n 8600001004 [1,1,1,0,0,0] Tryz.f86 [.b 0,fS [1,1,1,1] Tryz.f86, .fn Tryz.f86] ⟨⟨(C4 20 0 [oI 0 a0,(3,one (.str v1))]),[]⟩,8600001000,1,[(0,(C4 0 0 []))]⟩
theorem De4 (k:Nat):∀n:Nat,Bi2 k n=X4 k n
 |0=>by kernel_rfl
 |n+1=>by
  obtain h0:=De4 k n
  exact(by kernel_rfl:_=Au6 k (Bi2 k n)).trans (by rw[h0];kernel_rfl)
def Af7 (k:Nat):Spec:=sP [.str] [] [(.int .i64)] λx=>d9 k x.1
def Bm4 (k:Nat):Cfg:=cg k 45 Tryz.f45 [(86,Af7 k)] [(4500001002,[0,1,5])]
def Ao6 (k n:Nat) (a0:List A7) (a1:Int) (v1:Int):=lV (Bm4 k) B40 n 4500001002 [1,0,1,0,0] Tryz.f45 [.b 0,fS [1,1] Tryz.f45, .fn Tryz.f45] ⟨⟨(C4 41 0 [(0,one (.slc 67 C9 a0)),oI 1 a1,oI 5 v1]),[]⟩,4500001000,1,[(0,(C4 0 0 []))]⟩
theorem Bm5 (k:Nat):∀n:Nat,Ao6 k n=Q3 k n
 |0=>by kernel_rfl
 |n+1=>by
  obtain h0:=Bm5 k n
  exact(by kernel_rfl:_=W0 k (Ao6 k n)).trans (by rw[h0];kernel_rfl)
def Bd6 (k:Nat):Spec:=sP [(.int .i64)] [] [(.slice 67 C9),(.int .i64)] λx=>A60 k x.1 x.2.1
def De5 (k:Nat):Cfg:=cg k 94 Tryz.f94 [] [(9400001002,[0,1,5])]
def Bi3 (k n:Nat) (a0:List Int) (a1:Int) (v1:Int):=lV (De5 k) B40 n 9400001002 [1,0,1,0,0] Tryz.f94 [.b 0,fS [1,1] Tryz.f94, .fn Tryz.f94] ⟨⟨(C4 21 0 [(0,one (.slc 3 (.int .i64) a0)),oI 1 a1,oI 5 v1]),[]⟩,9400001000,1,[(0,(C4 0 0 []))]⟩
theorem De6 (k:Nat):∀n:Nat,Bi3 k n=n8 k n
 |0=>by kernel_rfl
 |n+1=>by
  obtain h0:=De6 k n
  exact(by kernel_rfl:_=Au7 k (Bi3 k n)).trans (by rw[h0];kernel_rfl)
def Bi4 (k:Nat):Spec:=sP [(.int .i64)] [] [(.slice 3 (.int .i64)),(.int .i64)] λx=>Ar3 k x.1 x.2.1
def Cf9 (k:Nat):Cfg:=cg k 91 Tryz.f91 [(86,Af7 k),(94,Bi4 k)] [(9100001002,[0,1,5])]
def Ay3 (k n:Nat) (a0:List A0) (a1:Int) (v1:Int):=lV (Cf9 k) B40 n 9100001002 [1,0,1,0,0] Tryz.f91 [.b 0,fS [1,1] Tryz.f91, .fn Tryz.f91] ⟨⟨(C4 95 0 [(0,one (.slc 49 B0 a0)),oI 1 a1,oI 5 v1]),[]⟩,9100001000,1,[(0,(C4 0 0 []))]⟩
theorem Cg0 (k:Nat):∀n:Nat,Ay3 k n=U8 k n
 |0=>by kernel_rfl
 |n+1=>by
  obtain h0:=Cg0 k n
  exact(by kernel_rfl:_=j3 k (Ay3 k n)).trans (by rw[h0];kernel_rfl)
def B33 (k:Nat):Spec:=sP [(.int .i64)] [] [(.slice 49 B0),(.int .i64)] λx=>Bt4 k x.1 x.2.1
def Cr2 (k:Nat):Cfg:=cg k 120 Tryz.f120 [] [(12000001002,[0,1,5])]
def A85 (k n:Nat) (a0:List A1) (a1:Int) (v1:Int):=lV (Cr2 k) B40 n 12000001002 [1,0,1,0,0] Tryz.f120 [.b 0,fS [1,1] Tryz.f120, .fn Tryz.f120] ⟨⟨(C4 31 0 [(0,one (.slc 145 B6 a0)),oI 1 a1,oI 5 v1]),[]⟩,12000001000,1,[(0,(C4 0 0 []))]⟩
theorem Cr3 (k:Nat):∀n:Nat,A85 k n=Y4 k n
 |0=>by kernel_rfl
 |n+1=>by
  obtain h0:=Cr3 k n
  exact(by kernel_rfl:_=Al7 k (A85 k n)).trans (by rw[h0];kernel_rfl)
def Cg1 (k:Nat):Spec:=sP [(.int .i64)] [] [(.slice 145 B6),(.int .i64)] λx=>Bc2 k x.1 x.2.1
def Cg2 (k:Nat):Cfg:=cg k 92 Tryz.f92 [(120,Cg1 k)] [(9200001002,[0,1,5])]
def Ay4 (k n:Nat) (a0:List (List A1)) (a1:Int) (v1:Int):=lV (Cg2 k) B40 n 9200001002 [1,0,1,0,0] Tryz.f92 [.b 0,fS [1,1] Tryz.f92, .fn Tryz.f92] ⟨⟨(C4 21 0 [(0,one (.slc 127 (.slice 145 B6) a0)),oI 1 a1,oI 5 v1]),[]⟩,9200001000,1,[(0,(C4 0 0 []))]⟩
theorem Cg3 (k:Nat):∀n:Nat,Ay4 k n=U9 k n
 |0=>by kernel_rfl
 |n+1=>by
  obtain h0:=Cg3 k n
  exact(by kernel_rfl:_=j4 k (Ay4 k n)).trans (by rw[h0];kernel_rfl)
def B34 (k:Nat):Spec:=sP [(.int .i64)] [] [(.slice 127 (.slice 145 B6)),(.int .i64)] λx=>Bt5 k x.1 x.2.1
def Cr4 (k:Nat):Cfg:=cg k 93 Tryz.f93 [] [(9300001002,[0,1,5])]
def A86 (k n:Nat) (a0:List Bool) (a1:Int) (v1:Int):=lV (Cr4 k) B40 n 9300001002 [1,0,1,0,0] Tryz.f93 [.b 0,fS [1,1] Tryz.f93, .fn Tryz.f93] ⟨⟨(C4 23 0 [(0,one (.slc 4 .bool a0)),oI 1 a1,oI 5 v1]),[]⟩,9300001000,1,[(0,(C4 0 0 []))]⟩
theorem Cr5 (k:Nat):∀n:Nat,A86 k n=Y5 k n
 |0=>by kernel_rfl
 |n+1=>by
  obtain h0:=Cr5 k n
  exact(by kernel_rfl:_=Al8 k (A86 k n)).trans (by rw[h0];kernel_rfl)
def Cg4 (k:Nat):Spec:=sP [(.int .i64)] [] [(.slice 4 .bool),(.int .i64)] λx=>B85 k x.1 x.2.1
def E62 (k:Nat):Cfg:=cg k 46 Tryz.f46 [(91,B33 k),(92,B34 k),(93,Cg4 k)] []
def Cr6 (k:Nat):Spec:=sP [(.int .i64)] [] [C8,(.int .i64)] λx=>Bt6 k x.1 x.2.1
def De7 (k:Nat):Cfg:=cg k 47 Tryz.f47 [(94,Bi4 k)] [(4700001002,[0,1,5])]
def Bi5 (k n:Nat) (a0:List C3) (a1:Int) (v1:Int):=lV (De7 k) B40 n 4700001002 [1,0,1,0,0] Tryz.f47 [.b 0,fS [1,1] Tryz.f47, .fn Tryz.f47] ⟨⟨(C4 40 0 [(0,one (.slc 98 T0 a0)),oI 1 a1,oI 5 v1]),[]⟩,4700001000,1,[(0,(C4 0 0 []))]⟩
theorem De8 (k:Nat):∀n:Nat,Bi5 k n=n9 k n
 |0=>by kernel_rfl
 |n+1=>by
  obtain h0:=De8 k n
  exact(by kernel_rfl:_=Ae8 k (Bi5 k n)).trans (by rw[h0];kernel_rfl)
def Cr7 (k:Nat):Spec:=sP [(.int .i64)] [] [(.slice 98 T0),(.int .i64)] λx=>Cv8 k x.1 x.2.1
def E63 (k:Nat):Cfg:=cg k 14 Tryz.f14 [(45,Bd6 k),(46,Cr6 k),(47,Cr7 k)] []
def Cr8 (k:Nat):Spec:=sP [(.int .i64)] [] [R1,(.int .i64)] λx=>A61 k x.1 x.2.1
def Gv9:VV→Ms→Option (Int×List A7×Unit):=El2 [(.int .i64)] [] [.row 67 C9, .imm (.int .i64)]
def Bm6 (k:Nat):Cfg:=cg k 41 Tryz.f41 [(86,Af7 k)] [(4100001002,[0,1,5])]
def Ao7 (k n:Nat) (a1:Int) (v1:Int) (a0:List A7):=lV (Bm6 k) Gv9 n 4100001002 [1,0,1,0,0] Tryz.f41 [.b 0,fS [1,1] Tryz.f41, .fn Tryz.f41] ⟨⟨(C4 35 0 [oR 0 100,oI 1 a1,oI 5 v1]),[(100, .row 67 C9 a0 true)]⟩,4100001000,1,[(0,(C4 2 0 [oR 0 100]))]⟩
theorem Bm7 (k:Nat):∀n:Nat,Ao7 k n=Q4 k n
 |0=>by kernel_rfl
 |n+1=>by
  obtain h0:=Bm7 k n
  exact(by kernel_rfl:_=W2 k (Ao7 k n)).trans (by rw[h0];kernel_rfl)
def Bd7 (k:Nat):MSpec:=sM [(.int .i64)] [] [.row 67 C9, .imm (.int .i64)] λx=>z8 k x.1 x.2.1
def Gw0:VV→Ms→Option (Int×List Int×Unit):=El2 [(.int .i64)] [] [.row 3 (.int .i64), .imm (.int .i64)]
def De9 (k:Nat):Cfg:=cg k 90 Tryz.f90 [] [(9000001002,[0,1,5])]
def Bi6 (k n:Nat) (a1:Int) (v1:Int) (a0:List Int):=lV (De9 k) Gw0 n 9000001002 [1,0,1,0,0] Tryz.f90 [.b 0,fS [1,1] Tryz.f90, .fn Tryz.f90] ⟨⟨(C4 19 0 [oR 0 100,oI 1 a1,oI 5 v1]),[(100, .row 3 (.int .i64) a0 true)]⟩,9000001000,1,[(0,(C4 2 0 [oR 0 100]))]⟩
theorem Df0 (k:Nat):∀n:Nat,Bi6 k n=o5 k n
 |0=>by kernel_rfl
 |n+1=>by
  obtain h0:=Df0 k n
  exact(by kernel_rfl:_=Au8 k (Bi6 k n)).trans (by rw[h0];kernel_rfl)
def Av2 (k:Nat):MSpec:=sM [(.int .i64)] [] [.row 3 (.int .i64), .imm (.int .i64)] λx=>e7 k x.1 x.2.1
def Gw1:VV→Ms→Option (Int×List C3×Unit):=El2 [(.int .i64)] [] [.tree 98 T0, .imm (.int .i64)]
def Df1 (k:Nat):Cfg:=cf k 43 Tryz.f43 [] [(90,Av2 k)] [] [(4300001002,[0,1,5])] [] [] [] []
def Bi7 (k n:Nat) (a1:Int) (v1:Int) (a0:List C3):=lV (Df1 k) Gw1 n 4300001002 [1,0,1,0,0] Tryz.f43 [.b 0,fS [1,1] Tryz.f43, .fn Tryz.f43] ⟨⟨(C4 34 0 [oR 0 100,oI 1 a1,oI 5 v1]),[(100, .tree 98 T0 a0 0)]⟩,4300001000,1,[(0,(C4 2 0 [oR 0 100]))]⟩
theorem Df2 (k:Nat):∀n:Nat,Bi7 k n=o6 k n
 |0=>by kernel_rfl
 |n+1=>by
  obtain h0:=Df2 k n
  exact(by kernel_rfl:_=Ae9 k (Bi7 k n)).trans (by rw[h0];kernel_rfl)
def Cr9 (k:Nat):MSpec:=sM [(.int .i64)] [] [.tree 98 T0, .imm (.int .i64)] λx=>A62 k x.1 x.2.1
def Gw2:VV→Ms→Option (Int×List A0×Unit):=El2 [(.int .i64)] [] [.tree 49 B0, .imm (.int .i64)]
def Cg5 (k:Nat):Cfg:=cf k 87 Tryz.f87 [(86,Af7 k)] [(90,Av2 k)] [] [(8700001002,[0,1,5])] [] [] [] []
def Ay5 (k n:Nat) (a1:Int) (v1:Int) (a0:List A0):=lV (Cg5 k) Gw2 n 8700001002 [1,0,1,0,0] Tryz.f87 [.b 0,fS [1,1] Tryz.f87, .fn Tryz.f87] ⟨⟨(C4 77 0 [oR 0 100,oI 1 a1,oI 5 v1]),[(100, .tree 49 B0 a0 0)]⟩,8700001000,1,[(0,(C4 2 0 [oR 0 100]))]⟩
theorem Cg6 (k:Nat):∀n:Nat,Ay5 k n=V0 k n
 |0=>by kernel_rfl
 |n+1=>by
  obtain h0:=Cg6 k n
  exact(by kernel_rfl:_=j5 k (Ay5 k n)).trans (by rw[h0];kernel_rfl)
def B35 (k:Nat):MSpec:=sM [(.int .i64)] [] [.tree 49 B0, .imm (.int .i64)] λx=>Al9 k x.1 x.2.1
def Gw3:VV→Ms→Option (Int×List A1×Unit):=El2 [(.int .i64)] [] [.row 145 B6, .imm (.int .i64)]
def Cs0 (k:Nat):Cfg:=cg k 119 Tryz.f119 [] [(11900001002,[0,1,5])]
def A87 (k n:Nat) (a1:Int) (v1:Int) (a0:List A1):=lV (Cs0 k) Gw3 n 11900001002 [1,0,1,0,0] Tryz.f119 [.b 0,fS [1,1] Tryz.f119, .fn Tryz.f119] ⟨⟨(C4 27 0 [oR 0 100,oI 1 a1,oI 5 v1]),[(100, .row 145 B6 a0 true)]⟩,11900001000,1,[(0,(C4 2 0 [oR 0 100]))]⟩
theorem Cs1 (k:Nat):∀n:Nat,A87 k n=Y6 k n
 |0=>by kernel_rfl
 |n+1=>by
  obtain h0:=Cs1 k n
  exact(by kernel_rfl:_=Am0 k (A87 k n)).trans (by rw[h0];kernel_rfl)
def Cg7 (k:Nat):MSpec:=sM [(.int .i64)] [] [.row 145 B6, .imm (.int .i64)] λx=>Aw9 k x.1 x.2.1
def Gw4:VV→Ms→Option (Int×List (List A1)×Unit):=El2 [(.int .i64)] [] [.tree 127 (.slice 145 B6), .imm (.int .i64)]
def Cg8 (k:Nat):Cfg:=cf k 88 Tryz.f88 [] [(119,Cg7 k)] [] [(8800001002,[0,1,5])] [] [] [] []
def Ay6 (k n:Nat) (a1:Int) (v1:Int) (a0:List (List A1)):=lV (Cg8 k) Gw4 n 8800001002 [1,0,1,0,0] Tryz.f88 [.b 0,fS [1,1] Tryz.f88, .fn Tryz.f88] ⟨⟨(C4 19 0 [oR 0 100,oI 1 a1,oI 5 v1]),[(100, .tree 127 (.slice 145 B6) a0 0)]⟩,8800001000,1,[(0,(C4 2 0 [oR 0 100]))]⟩
theorem Cg9 (k:Nat):∀n:Nat,Ay6 k n=V2 k n
 |0=>by kernel_rfl
 |n+1=>by
  obtain h0:=Cg9 k n
  exact(by kernel_rfl:_=j6 k (Ay6 k n)).trans (by rw[h0];kernel_rfl)
def B36 (k:Nat):MSpec:=sM [(.int .i64)] [] [.tree 127 (.slice 145 B6), .imm (.int .i64)] λx=>Am1 k x.1 x.2.1
def Gw5:VV→Ms→Option (Int×List Bool×Unit):=El2 [(.int .i64)] [] [.row 4 .bool, .imm (.int .i64)]
def Cs2 (k:Nat):Cfg:=cg k 89 Tryz.f89 [] [(8900001002,[0,1,5])]
def A88 (k n:Nat) (a1:Int) (v1:Int) (a0:List Bool):=lV (Cs2 k) Gw5 n 8900001002 [1,0,1,0,0] Tryz.f89 [.b 0,fS [1,1] Tryz.f89, .fn Tryz.f89] ⟨⟨(C4 21 0 [oR 0 100,oI 1 a1,oI 5 v1]),[(100, .row 4 .bool a0 true)]⟩,8900001000,1,[(0,(C4 2 0 [oR 0 100]))]⟩
theorem Cs3 (k:Nat):∀n:Nat,A88 k n=Y7 k n
 |0=>by kernel_rfl
 |n+1=>by
  obtain h0:=Cs3 k n
  exact(by kernel_rfl:_=Am2 k (A88 k n)).trans (by rw[h0];kernel_rfl)
def Ch0 (k:Nat):MSpec:=sM [(.int .i64)] [] [.row 4 .bool, .imm (.int .i64)] λx=>Aj0 k x.1 x.2.1
def Cz2 (k:Nat):Cfg:=cf k 3 Tryz.f3 [(4,Ds6 k),(5,Ca6 k),(6,Db3 k),(7,Dv8 k),(8,Cd1 k),(9,Dd6 k),(10,Dy8 k),(11,Cf8 k),(14,Cr8 k)] [(41,Bd7 k),(43,Cr9 k),(87,B35 k),(88,B36 k),(89,Ch0 k),(90,Av2 k)] [(12,Tryz.f12),(13,Tryz.f13),(42,Tryz.f42),(44,Tryz.f44)] [] [] [] [] []
def Cl6 (k:Nat):Spec:=sP [.bool] [] [Ds3,(.int .i64),G4] λx=>Y8 k x.1 x.2.1 x.2.2.1
end
end Go.Vm
end
