/- The functions keep their specifications. -/
import Derived.Test.YtmmgjbjmmipobaaGreatDoorZp6
import Derived.Test.YtmmgjbjmmipobaaGreatDoorChecked
set_option linter.all false
section
namespace Go.Vm
open Go Go.Proofs
abbrev SG (f:FuncId) (s:Spec):Prop:=t7 Tryz.prog f s∧Ak1 Tryz.prog f
abbrev MG (f:FuncId) (s:MSpec):Prop:=C06 Tryz.prog f s∧Ak1 Tryz.prog f
abbrev FI (n:FuncId) (f:Func):Prop:=Tryz.prog.funcs[n]? =some f∧Ak1 Tryz.prog n
theorem Gz4:TyOk Tryz.prog (.int .i64) 3:=C7 _ _ _ [] (by kernel_rfl)
theorem Gw6:TyOk Tryz.prog Ds3 30:=C7 _ _ _ [] (by kernel_rfl)
theorem Gw7:TyOk Tryz.prog G4 35:=C7 _ _ _ [] (by kernel_rfl)
theorem tbL:Gg7 Tryz.prog tbA:=Ae6 (C7 _ _ _ [] (by kernel_rfl)) (Ae6 (C7 _ _ _ [] (by kernel_rfl)) (Ae6 (C7 _ _ _ [] (by kernel_rfl)) (Ae6 (C7 _ _ _ [] (by kernel_rfl)) (Ae6 (C7 _ _ _ [] (by kernel_rfl)) (Ae6 (C7 _ _ _ [] (by kernel_rfl)) (Ae6 (C7 _ _ _ [] (by kernel_rfl)) (Ae6 (C7 _ _ _ [] (by kernel_rfl)) (Ae6 (C7 _ _ _ [] (by kernel_rfl)) (Ae6 (C7 _ _ _ [] (by kernel_rfl)) (Ae6 (C7 _ _ _ [] (by kernel_rfl)) (Ae6 (C7 _ _ _ [] (by kernel_rfl)) (Ae6 (C7 _ _ _ [] (by kernel_rfl)) (Ae6 (C7 _ _ _ [] (by kernel_rfl)) (Ae6 (C7 _ _ _ [] (by kernel_rfl)) (Ae6 (C7 _ _ _ [] (by kernel_rfl)) (Ae6 (C7 _ _ _ [] (by kernel_rfl)) (Ae6 (C7 _ _ _ [] (by kernel_rfl)) (Ae6 (C7 _ _ _ [] (by kernel_rfl)) (Ae6 (C7 _ _ _ [] (by kernel_rfl)) (Ae6 (C7 _ _ _ [] (by kernel_rfl)) (Ae6 (C7 _ _ _ [] (by kernel_rfl)) (Ae6 (C7 _ _ _ [] (by kernel_rfl)) (Ae6 (C7 _ _ _ [] (by kernel_rfl)) (Ae6 (C7 _ _ _ [] (by kernel_rfl)) (Ae6 (C7 _ _ _ [] (by kernel_rfl)) (Ae6 (C7 _ _ _ [] (by kernel_rfl)) (Ae6 (C7 _ _ _ [] (by kernel_rfl)) (Ae6 (C7 _ _ _ [] (by kernel_rfl)) (Ae6 (C7 _ _ _ [] (by kernel_rfl)) (Ae6 (C7 _ _ _ [] (by kernel_rfl)) (Ae6 (C7 _ _ _ [] (by kernel_rfl)) (Gy7))))))))))))))))))))))))))))))))
theorem ptL:Gp0 Tryz.prog ptA:=Gy8
theorem mpL:Gg8 Tryz.prog mpA:=Gz0 (Fq8 (by kernel_rfl)) (Gy9)
theorem eqL:EqL Tryz.prog eqA:=eq1 (⟨by kernel_rfl,by kernel_rfl⟩) (eq0)
theorem fi {n : FuncId} {F : Func} (h : Tryz.prog.funcs[n]? = some F) (h1 : (F.name == "runtime.NumGoroutine") = false := by kernel_rfl) (h2 : F.body.isSome = true := by kernel_rfl) : FI n F := by
 obtain⟨c,hc⟩:=G74.1 h2
 exact⟨h,F62 h h1 hc⟩
section
variable {c : Cfg} {k f : Nat} {F : Func} {sp : List (FuncId × Spec)} {ms : List (FuncId × MSpec)} {il : List (FuncId × Func)} {kp : List (Nat × List Nat)} {ho : List (Nat × List (Nat × List Nat × TypeId × Ty × Bool × Bool))} {tr : List TypeId} {al : List (FuncId × Nat × Spec)} {kk : List (Nat × List (List Nat))} {ts rs : List Ty} {md : List Md}
theorem okc (hc:c=cf k f F sp ms il kp ho tr al kk) (hf:FI f F) (hs:Dm7 Tryz.prog sp) (hm:Ct3 Tryz.prog ms) (hi:Ey7 Tryz.prog il) (ha:Fq9 Tryz.prog al):Ok Tryz.prog c∧Ey7 Tryz.prog c.inl:=by
 subst hc
 have hI:Ey7 Tryz.prog ((f,F)::il):=Aa9 hf hi
 exact⟨Gt4 mpL ptL eqL tbL hI hs hm ha,hI⟩
theorem sgA {G:Args ts→Option (ResT rs)} (c:Cfg) (hc:c=cf k f F sp ms il kp ho tr al kk) (hf:FI f F) (hs:Dm7 Tryz.prog sp) (hm:Ct3 Tryz.prog ms) (hi:Ey7 Tryz.prog il) (ha:Fq9 Tryz.prog al) (hr:∀x,Fc7 c (Az3 rs md) k f (Es7 ts x) ms0=G x):
  SG f (sP rs md ts G):=by
 obtain⟨h1,h2⟩:=okc hc hf hs hm hi ha
 exact⟨Ey6 h1 Tryz.checked.mixed (λg fn e=> (h2 g fn e).1) ts rs md G hr,hf.2⟩
theorem I5 {G:Args ts→Option (ResT rs)} (c:Cfg) (hc:c=cf k f F sp [] [] kp ho tr [] kk) (hf:FI f F) (hs:Dm7 Tryz.prog sp) (hr:∀x,Fc7 c (Az3 rs md) k f (Es7 ts x) ms0=G x):SG f (sP rs md ts G):=
 sgA c hc hf hs a7 Bo9 Bj7 hr
theorem mgA (rs:List Ty) (md:List Md) (pk:List PK) {G:PArgs pk→Option (ResT rs×PoT pk)} (c:Cfg) (hc:c=cf k f F sp ms il kp ho tr al kk) (hf:FI f F) (hs:Dm7 Tryz.prog sp) (hm:Ct3 Tryz.prog ms) (hi:Ey7 Tryz.prog il) (ha:Fq9 Tryz.prog al) (hr:∀x,Fc7 c (El2 rs md pk) k f (Ct4 1 pk x) (ms1 pk x)=G x):
  MG f (sM rs md pk G):=by
 obtain⟨h1,h2⟩:=okc hc hf hs hm hi ha
 exact⟨F65 h1 Tryz.checked.mixed (λg fn e=> (h2 g fn e).1) pk rs md G hr,hf.2⟩
end
theorem Gw8:FI 12 Tryz.f12:=fi Tryz.func12
theorem Gw9:FI 13 Tryz.f13:=fi Tryz.func13
theorem Gx0:FI 24 Tryz.f24:=fi Tryz.func24
theorem Gx1:FI 34 Tryz.f34:=fi Tryz.func34
theorem Gx2:FI 35 Tryz.f35:=fi Tryz.func35
theorem Gx3:FI 36 Tryz.f36:=fi Tryz.func36
theorem Gx4:FI 42 Tryz.f42:=fi Tryz.func42
theorem Gx5:FI 44 Tryz.f44:=fi Tryz.func44
theorem Gx6:FI 62 Tryz.f62:=fi Tryz.func62
theorem Gx7:FI 72 Tryz.f72:=fi Tryz.func72
theorem Gx8:FI 76 Tryz.f76:=fi Tryz.func76
theorem Gx9:FI 78 Tryz.f78:=fi Tryz.func78
theorem Gq1:FI 101 Tryz.f101:=fi Tryz.func101
theorem Gq2:FI 133 Tryz.f133:=fi Tryz.func133
theorem Gq3:FI 135 Tryz.f135:=fi Tryz.func135
theorem Gq4:FI 136 Tryz.f136:=fi Tryz.func136
theorem Gj1:FI 139 Tryz.f139:=fi Tryz.func139
theorem Gq5:FI 140 Tryz.f140:=fi Tryz.func140
theorem Gq6:FI 142 Tryz.f142:=fi Tryz.func142
theorem Gj2:FI 143 Tryz.f143:=fi Tryz.func143
theorem Fx3:FI 164 Tryz.f164:=fi Tryz.func164
theorem Gq7:FI 168 Tryz.f168:=fi Tryz.func168
theorem Gq8:FI 173 Tryz.f173:=fi Tryz.func173
theorem Gq9:FI 202 Tryz.f202:=fi Tryz.func202
theorem Gr0:FI 203 Tryz.f203:=fi Tryz.func203
theorem Gr1:FI 222 Tryz.f222:=fi Tryz.func222
theorem Gr2:FI 224 Tryz.f224:=fi Tryz.func224
theorem Gr3:FI 226 Tryz.f226:=fi Tryz.func226
theorem Gr4:FI 227 Tryz.f227:=fi Tryz.func227
theorem Gr5:FI 231 Tryz.f231:=fi Tryz.func231
theorem Gr6:FI 232 Tryz.f232:=fi Tryz.func232
theorem Gr7:FI 235 Tryz.f235:=fi Tryz.func235
theorem Eo1 (k:Nat):SG 48 (Ca1 k):=I5 (Em8 k) rfl (fi Tryz.func48) (B8) λx=>by kernel_rfl
theorem Ei6 (k:Nat):SG 15 (B25 k):=I5 (Ca2 k) rfl (fi Tryz.func15) (A8 (Eo1 k) (B8)) λx=> (by kernel_rfl:_=B63 k (Ay0 k k) x.1 x.2.1).trans (by rw[(Ca3 k k)]<;>rfl)
theorem Ei7 (k:Nat):SG 53 (Ca4 k):=I5 (Fv6 k) rfl (fi Tryz.func53) (B8) λx=>by kernel_rfl
theorem Dz2 (k:Nat):SG 18 (Bv2 k):=I5 (Fi9 k) rfl (fi Tryz.func18) (A8 (Ei7 k) (B8)) λx=>by kernel_rfl
theorem E67 (k:Nat):SG 49 (Cp0 k):=I5 (C85 k) rfl (fi Tryz.func49) (A8 (Dz2 k) (B8)) λx=> (by kernel_rfl:_=C18 k (Bg0 k k) x.1 x.2.1).trans (by rw[(C86 k k)]<;>rfl)
theorem Fl4 (k:Nat):SG 95 (C87 k):=I5 (Fj0 k) rfl (fi Tryz.func95) (B8) λx=>by kernel_rfl
theorem E68 (k:Nat):SG 50 (Cp1 k):=I5 (C88 k) rfl (fi Tryz.func50) (A8 (Fl4 k) (B8)) λx=> (by kernel_rfl:_=C19 k (Bg1 k k) x.1 x.2.1).trans (by rw[(C89 k k)]<;>rfl)
theorem Fl5 (k:Nat):SG 51 (C90 k):=I5 (Fj1 k) rfl (fi Tryz.func51) (B8) λx=>by kernel_rfl
theorem Fx4 (k:Nat):SG 16 (Ds4 k):=I5 (Fv7 k) rfl (fi Tryz.func16) (A8 (E67 k) (A8 (E68 k) (A8 (Fl5 k) (B8)))) λx=>by kernel_rfl
theorem Ga9 (k:Nat):SG 52 (Ed8 k):=I5 (F97 k) rfl (fi Tryz.func52) (A8 (Ei7 k) (B8)) λx=>by kernel_rfl
theorem Fx5 (k:Nat):SG 17 (Ds5 k):=I5 (Ed9 k) rfl (fi Tryz.func17) (A8 (Ga9 k) (B8)) λx=> (by kernel_rfl:_=D71 k (Ca5 k k) x.1 x.2.1).trans (by rw[(Ee0 k k)]<;>rfl)
theorem Fx6 (k:Nat):SG 4 (Ds6 k):=I5 (Fv8 k) rfl (fi Tryz.func4) (A8 (Ei6 k) (A8 (Fx4 k) (A8 (Fx5 k) (B8)))) λx=>by kernel_rfl
theorem Eo2 (k:Nat):SG 5 (Ca6 k):=I5 (Em9 k) rfl (fi Tryz.func5) (A8 (Dz2 k) (B8)) λx=>by kernel_rfl
theorem V3 (k:Nat):SG 21 (O6 k):=I5 (F98 k) rfl (fi Tryz.func21) (B8) λx=>by kernel_rfl
theorem Eo3 (k:Nat):SG 99 (Ca7 k):=I5 (Cp2 k) rfl (fi Tryz.func99) (A8 (V3 k) (B8)) λx=> (by kernel_rfl:_=Cm9 k (A74 k k) x.1).trans (by rw[(Cp3 k k)]<;>rfl)
theorem Dz3 (k:Nat):SG 58 (Bv3 k):=I5 (Fj2 k) rfl (fi Tryz.func58) (A8 (V3 k) (A8 (Eo3 k) (B8))) λx=>by kernel_rfl
theorem Ch3 (k:Nat):SG 59 (A21 k):=I5 (Ds7 k) rfl (fi Tryz.func59) (A8 (V3 k) (A8 (Dz3 k) (B8))) λx=> (by kernel_rfl:_=B65 k (Bv4 k k) x.1).trans (by rw[(Ds8 k k)]<;>rfl)
theorem Cz3 (k:Nat):SG 122 (Bc7 k):=I5 (Ee1 k) rfl (fi Tryz.func122) (B8) λx=> (by kernel_rfl:_=D73 k (Ca8 k k) x.1 x.2.1).trans (by rw[(Ee2 k k)]<;>rfl)
theorem Aa6 (k:Nat):SG 153 (W5 k):=I5 (Ds9 k) rfl (fi Tryz.func153) (B8) λx=> (by kernel_rfl:_=Dn1 k (Bv5 k k) x.1 x.2.1).trans (by rw[(Dt0 k k)]<;>rfl)
theorem Cz4 (k:Nat):SG 154 (Bc8 k):=I5 (Gi7 k) rfl (fi Tryz.func154) (B8) λx=> (by kernel_rfl:_=Gg9 k (E53 k k) x.1 x.2.1).trans (by rw[(Gi8 k k)]<;>rfl)
theorem Ao8 (k:Nat):SG 131 (o8 k):=I5 (E54 k) rfl (fi Tryz.func131) (A8 (V3 k) (A8 (Aa6 k) (A8 (Cz4 k) (B8)))) λx=>by kernel_rfl
theorem Bd8 (k:Nat):SG 157 (An3 k):=I5 (Fj3 k) rfl (fi Tryz.func157) (A8 (V3 k) (A8 (Aa6 k) (A8 (Cz4 k) (B8)))) λx=>by kernel_rfl
theorem E69 (k:Nat):SG 211 (Cp4 k):=I5 (C91 k) rfl (fi Tryz.func211) (B8) λx=> (by kernel_rfl:_=C24 k (Bg2 k k) x.1).trans (by rw[(C92 k k)]<;>rfl)
theorem Fl6 (k:Nat):SG 179 (C93 k):=I5 (Fj4 k) rfl (fi Tryz.func179) (A8 (Ao8 k) (A8 (Aa6 k) (A8 (Cz4 k) (A8 (E69 k) (B8))))) λx=>by kernel_rfl
theorem Eo4 (k:Nat):SG 155 (Ca9 k):=I5 (En0 k) rfl (fi Tryz.func155) (A8 (Ao8 k) (A8 (Bd8 k) (A8 (Fl6 k) (B8)))) λx=>by kernel_rfl
theorem E70 (k:Nat):SG 156 (Cp5 k):=I5 (C94 k) rfl (fi Tryz.func156) (A8 (Ao8 k) (A8 (Bd8 k) (B8))) λx=> (by kernel_rfl:_=C25 k (Bg3 k k) x.1 x.2.1 x.2.2.1).trans (by rw[(C95 k k)]<;>rfl)
theorem Dz4 (k:Nat):SG 124 (Bv6 k):=I5 (Fj5 k) rfl (fi Tryz.func124) (A8 (Ch3 k) (A8 (Ao8 k) (A8 (Aa6 k) (A8 (Cz4 k) (A8 (Eo4 k) (A8 (E70 k) (A8 (Bd8 k) (B8)))))))) λx=>by kernel_rfl
theorem Ev8 (k:Nat):SG 125 (Cx1 k):=I5 (F99 k) rfl (fi Tryz.func125) (A8 (V3 k) (B8)) λx=>by kernel_rfl
theorem Fx7 (k:Nat):SG 180 (Dt1 k):=I5 (Fv9 k) rfl (fi Tryz.func180) (A8 (V3 k) (B8)) λx=>by kernel_rfl
theorem Fl7 (k:Nat):SG 158 (C96 k):=I5 (Dt2 k) rfl (fi Tryz.func158) (A8 (V3 k) (A8 (Fx7 k) (B8))) λx=> (by kernel_rfl:_=Dn2 k (Bv7 k k) x.1).trans (by rw[(Dt3 k k)]<;>rfl)
theorem F34 (k:Nat):SG 126 (Ee5 k):=I5 (E55 k) rfl (fi Tryz.func126) (A8 (Fl7 k) (B8)) λx=> (by kernel_rfl:_=F13 k (Ee4 k k) x.1 x.2.1 x.2.2.1).trans (by rw[(F30 k k).2]<;>rfl)
theorem Dz5 (k:Nat):SG 206 (Bw1 k):=I5 (Bc9 k) rfl (fi Tryz.func206) (B8) λx=> (by kernel_rfl:_=Dn3 k (Bv8 k k) x.1).trans (by rw[(Dt4 k k).1]<;>rfl)
theorem Df5 (k:Nat):SG 207 (Bg5 k):=I5 (C97 k) rfl (fi Tryz.func207) (A8 (Cz4 k) (B8)) λx=> (by kernel_rfl:_=C27 k (Bg4 k k) x.1 x.2.1).trans (by rw[(C98 k k)]<;>rfl)
theorem Fx8 (k:Nat):SG 176 (Dt5 k):=I5 (Ee6 k) rfl (fi Tryz.func176) (A8 (Cz4 k) (A8 (Dz5 k) (A8 (Df5 k) (B8)))) λx=> (by kernel_rfl:_=D76 k (Cb0 k k) x.1).trans (by rw[(Ee7 k k)]<;>rfl)
theorem Gb0 (k:Nat):SG 177 (Ee8 k):=I5 (Eu7 k) rfl (fi Tryz.func177) (A8 (Dz5 k) (A8 (Df5 k) (B8))) λx=> (by kernel_rfl:_=Es9 k (Cx2 k k) x.1).trans (by rw[(Eu8 k k)]<;>rfl)
theorem Cl0 (k:Nat):SG 181 (A75 k):=I5 (Eu9 k) rfl (fi Tryz.func181) (B8) λx=> (by kernel_rfl:_=Et0 k (Cx3 k k) x.1 x.2.1).trans (by rw[(Ev0 k k)]<;>rfl)
theorem Ei8 (k:Nat):SG 182 (Cb2 k):=I5 (Ee9 k) rfl (fi Tryz.func182) (B8) λx=> (by kernel_rfl:_=D77 k (Cb1 k k) x.1 x.2.1).trans (by rw[(Ef0 k k)]<;>rfl)
theorem Eo5 (k:Nat):SG 208 (Cb3 k):=I5 (Bg6 k) rfl (fi Tryz.func208) (A8 (Aa6 k) (A8 (Cl0 k) (B8))) λx=> (by kernel_rfl:_=Cn0 k (A76 k k) x.1 x.2.1).trans (by rw[(Cp6 k k).1]<;>rfl)
theorem E71 (k:Nat):SG 209 (Cp7 k):=I5 (C99 k) rfl (fi Tryz.func209) (A8 (Cl0 k) (B8)) λx=> (by kernel_rfl:_=C30 k (Bg7 k k) x.1 x.2.1 x.2.2.1).trans (by rw[(Da0 k k)]<;>rfl)
theorem E72 (k:Nat):SG 229 (Cp8 k):=I5 (E56 k) rfl (fi Tryz.func229) (B8) λx=>by kernel_rfl
theorem Fl8 (k:Nat):SG 210 (Da1 k):=I5 (Fj6 k) rfl (fi Tryz.func210) (A8 (Bd8 k) (A8 (E72 k) (B8))) λx=>by kernel_rfl
theorem Gb1 (k:Nat):SG 178 (Ef1 k):=I5 (A39 k) rfl (fi Tryz.func178) (A8 (Aa6 k) (A8 (Cl0 k) (A8 (Ei8 k) (A8 (Eo5 k) (A8 (E71 k) (A8 (Fl8 k) (B8))))))) λx=> (by kernel_rfl:_=Et1 k (Cx8 k k) x.1 x.2.1 x.2.2.1).trans (by rw[(Ev1 k k).2.2.2.2]<;>rfl)
theorem Fl9 (k:Nat):SG 152 (Da2 k):=I5 (Bd0 k) rfl (fi Tryz.func152) (A8 (Dz4 k) (A8 (Ev8 k) (A8 (F34 k) (A8 (Aa6 k) (A8 (Cz4 k) (A8 (Fx8 k) (A8 (Gb0 k) (A8 (Gb1 k) (B8))))))))) λx=> (by kernel_rfl:_=Dn4 k (Bw3 k k) x.1 x.2.1).trans (by rw[(Dt6 k k).2.1]<;>rfl)
theorem Cs4 (k:Nat):SG 121 (A79 k):=I5 (Cp9 k) rfl (fi Tryz.func121) (A8 (Cz3 k) (A8 (Fl9 k) (B8))) λx=> (by kernel_rfl:_=Cn1 k (A78 k k) x.1 x.2.1).trans (by rw[(Cq0 k k)]<;>rfl)
theorem Dz6 (k:Nat):SG 123 (Bw6 k):=I5 (Dt7 k) rfl (fi Tryz.func123) (A8 (Cz3 k) (B8)) λx=> (by kernel_rfl:_=Dn5 k (Bw5 k k) x.1 x.2.1).trans (by rw[(Dt8 k k)]<;>rfl)
theorem Ei9 (k:Nat):SG 96 (Cb4 k):=I5 (Fw0 k) rfl (fi Tryz.func96) (A8 (Ch3 k) (A8 (Cs4 k) (A8 (Cz3 k) (A8 (Dz6 k) (A8 (Dz4 k) (A8 (Ev8 k) (A8 (F34 k) (B8)))))))) λx=>by kernel_rfl
theorem B37 (k:Nat):SG 56 (As9 k):=I5 (B26 k) rfl (fi Tryz.func56) (B8) λx=> (by kernel_rfl:_=j1 k (As8 k k) x.1 x.2.1).trans (by rw[(B27 k k)]<;>rfl)
theorem Dz7 (k:Nat):SG 98 (Bw7 k):=I5 (Fj7 k) rfl (fi Tryz.func98) (A8 (B37 k) (B8)) λx=>by kernel_rfl
theorem Dk6 (k:Nat):SG 127 (Bd1 k):=I5 (Bl7 k) rfl (fi Tryz.func127) (B8) λx=> (by kernel_rfl:_=Bk1 k (An4 k k) x.1 x.2.1).trans (by rw[(Bl8 k k)]<;>rfl)
theorem Fm0 (k:Nat):SG 97 (Da3 k):=I5 (Bd2 k) rfl (fi Tryz.func97) (A8 (Dz7 k) (A8 (Dk6 k) (B8))) λx=> (by kernel_rfl:_=Dn6 k (Bx0 k k) x.1 x.2.1).trans (by rw[(Dt9 k k).2.2]<;>rfl)
theorem Fx9 (k:Nat):SG 54 (Du0 k):=I5 (Ef2 k) rfl (fi Tryz.func54) (A8 (Ei9 k) (A8 (Fm0 k) (B8))) λx=> (by kernel_rfl:_=D80 k (Cb5 k k) x.1).trans (by rw[(Ef3 k k)]<;>rfl)
theorem Fy0 (k:Nat):SG 55 (Du1 k):=I5 (Ef4 k) rfl (fi Tryz.func55) (B8) λx=> (by kernel_rfl:_=D82 k (Cb6 k k) x.1).trans (by rw[(Ef5 k k)]<;>rfl)
theorem Fy1 (k:Nat):SG 19 (Du2 k):=I5 (Cx9 k) rfl (fi Tryz.func19) (A8 (V3 k) (A8 (Fx9 k) (A8 (Fy0 k) (A8 (B37 k) (B8))))) λx=> (by kernel_rfl:_=D84 k (Cb8 k k) x.1).trans (by rw[(Ef6 k k).2]<;>rfl)
theorem E73 (k:Nat):SG 57 (Cq1 k):=I5 (E57 k) rfl (fi Tryz.func57) (A8 (Dz7 k) (B8)) λx=>by kernel_rfl
theorem Eo6 (k:Nat):SG 20 (Cb9 k):=I5 (En1 k) rfl (fi Tryz.func20) (A8 (V3 k) (A8 (E73 k) (A8 (Dz3 k) (A8 (Ch3 k) (B8))))) λx=>by kernel_rfl
theorem Ch4 (k:Nat):SG 128 (A22 k):=I5 (Fj8 k) rfl (fi Tryz.func128) (B8) λx=>by kernel_rfl
theorem D11 (k:Nat):SG 100 (Bl9 k):=I5 (B28 k) rfl (fi Tryz.func100) (A8 (Ch4 k) (B8)) λx=> (by kernel_rfl:_=B17 k (At0 k k) x.1).trans (by rw[(B29 k k)]<;>rfl)
theorem Dz8 (k:Nat):SG 60 (Bx2 k):=I5 (Du3 k) rfl (fi Tryz.func60) (A8 (D11 k) (B8)) λx=> (by kernel_rfl:_=Dn7 k (Bx1 k k) x.1).trans (by rw[(Du4 k k)]<;>rfl)
theorem Fm1 (k:Nat):SG 22 (Da4 k):=I5 (Du5 k) rfl (fi Tryz.func22) (A8 (Dz8 k) (B8)) λx=> (by kernel_rfl:_=Dn8 k (Bx3 k k) x.1).trans (by rw[(Du6 k k)]<;>rfl)
theorem Eo7 (k:Nat):SG 61 (Cc0 k):=I5 (En2 k) rfl (fi Tryz.func61) (B8) λx=>by kernel_rfl
theorem Fm2 (k:Nat):SG 23 (Da5 k):=I5 (Du7 k) rfl (fi Tryz.func23) (A8 (Eo7 k) (B8)) λx=> (by kernel_rfl:_=Dn9 k (Bx4 k k) x.1).trans (by rw[(Du8 k k)]<;>rfl)
theorem E74 (k:Nat):SG 102 (Cq2 k):=I5 (E58 k) rfl (fi Tryz.func102) (A8 (Dz8 k) (A8 (Ei9 k) (B8))) λx=>by kernel_rfl
theorem Ej0 (k:Nat):SG 159 (Cc3 k):=I5 (Cy0 k) rfl (fi Tryz.func159) (A8 (Cl0 k) (A8 (Ei8 k) (B8))) λx=> (by kernel_rfl:_=D85 k (Cc1 k k) x.1).trans (by rw[(Ef7 k k).1]<;>rfl)
theorem Fm3 (k:Nat):SG 130 (Da6 k):=I5 (Fj9 k) rfl (fi Tryz.func130) (A8 (Cs4 k) (A8 (Ej0 k) (B8))) λx=>by kernel_rfl
theorem Fm4 (k:Nat):SG 103 (Da7 k):=I5 (Du9 k) rfl (fi Tryz.func103) (A8 (Fm3 k) (A8 (Ao8 k) (B8))) λx=> (by kernel_rfl:_=Do0 k (Bx5 k k) x.1).trans (by rw[(Dv0 k k)]<;>rfl)
theorem Gb2 (k:Nat):SG 129 (Ef8 k):=I5 (Ga0 k) rfl (fi Tryz.func129) (A8 (V3 k) (A8 (Dz6 k) (A8 (Ch4 k) (A8 (Ej0 k) (B8))))) λx=>by kernel_rfl
theorem Dk7 (k:Nat):SG 100 (Bd3 k):=I5 (Bm0 k) rfl (fi Tryz.func100) (A8 (Ch4 k) (B8)) λx=> (by kernel_rfl:_=Bk4 k (An5 k k) x.1).trans (by rw[(Bm1 k k)]<;>rfl)
theorem E75 (k:Nat):SG 60 (Cq3 k):=I5 (Da8 k) rfl (fi Tryz.func60) (A8 (Dk7 k) (B8)) λx=> (by kernel_rfl:_=C31 k (Bg8 k k) x.1).trans (by rw[(Da9 k k)]<;>rfl)
theorem E76 (k:Nat):SG 22 (Cq4 k):=I5 (Db0 k) rfl (fi Tryz.func22) (A8 (E75 k) (B8)) λx=> (by kernel_rfl:_=C32 k (Bg9 k k) x.1).trans (by rw[(Db1 k k)]<;>rfl)
theorem Fm5 (k:Nat):SG 6 (Db3 k):=sgA (Ax2 k) rfl (fi Tryz.func6) (A8 (Fy1 k) (A8 (Eo6 k) (A8 (V3 k) (A8 (Fm1 k) (A8 (Fm2 k) (A8 (E74 k) (A8 (Fm4 k) (A8 (Gb2 k) (B8))))))))) (a7) (Aa9 (Gx0) (Aa9 (Gx6) (Aa9 (Gq1) (Bo9)))) (Gz1 (E76 k) (Bj7)) λx=> (by kernel_rfl:_=Do1 k (Bx6 k k) (An6 k k) x.1 x.2.1 x.2.2.1).trans (by rw[(Cc4 k k).1,(Cc4 k k).2.1]<;>rfl)
theorem Eo8 (k:Nat):SG 63 (Cc5 k):=I5 (En3 k) rfl (fi Tryz.func63) (B8) λx=>by kernel_rfl
theorem Ej1 (k:Nat):SG 25 (B30 k):=I5 (Cc6 k) rfl (fi Tryz.func25) (A8 (Eo8 k) (B8)) λx=> (by kernel_rfl:_=B74 k (Ay1 k k) x.1).trans (by rw[(Cc7 k k)]<;>rfl)
theorem Ej2 (k:Nat):SG 68 (Cc9 k):=I5 (Ef9 k) rfl (fi Tryz.func68) (B8) λx=> (by kernel_rfl:_=D86 k (Cc8 k k) x.1).trans (by rw[(Eg0 k k)]<;>rfl)
theorem Dz9 (k:Nat):SG 28 (Bx9 k):=I5 (Fk0 k) rfl (fi Tryz.func28) (A8 (Ej2 k) (B8)) λx=>by kernel_rfl
theorem E77 (k:Nat):SG 64 (Cq5 k):=I5 (Db4 k) rfl (fi Tryz.func64) (A8 (Dz9 k) (B8)) λx=> (by kernel_rfl:_=C33 k (Bh0 k k) x.1).trans (by rw[(Db5 k k)]<;>rfl)
theorem Fy2 (k:Nat):SG 132 (Dv1 k):=I5 (Fw1 k) rfl (fi Tryz.func132) (B8) λx=>by kernel_rfl
theorem Fm6 (k:Nat):SG 104 (Db6 k):=I5 (Dv2 k) rfl (fi Tryz.func104) (A8 (Fy2 k) (B8)) λx=> (by kernel_rfl:_=Do3 k (By0 k k) x.1).trans (by rw[(Dv3 k k)]<;>rfl)
theorem E78 (k:Nat):SG 65 (Cq6 k):=I5 (Db7 k) rfl (fi Tryz.func65) (A8 (Fm6 k) (B8)) λx=> (by kernel_rfl:_=C35 k (Bh1 k k) x.1).trans (by rw[(Db8 k k)]<;>rfl)
theorem Fm7 (k:Nat):SG 66 (Db9 k):=I5 (Dv4 k) rfl (fi Tryz.func66) (B8) λx=> (by kernel_rfl:_=Do4 k (By1 k k) x.1).trans (by rw[(Dv5 k k)]<;>rfl)
theorem Fy3 (k:Nat):SG 26 (Dv6 k):=I5 (Fw2 k) rfl (fi Tryz.func26) (A8 (E77 k) (A8 (E78 k) (A8 (Fm7 k) (B8)))) λx=>by kernel_rfl
theorem Gb3 (k:Nat):SG 67 (Eg1 k):=I5 (Ga1 k) rfl (fi Tryz.func67) (A8 (Ej2 k) (B8)) λx=>by kernel_rfl
theorem Fy4 (k:Nat):SG 27 (Dv7 k):=I5 (Eg2 k) rfl (fi Tryz.func27) (A8 (Gb3 k) (B8)) λx=> (by kernel_rfl:_=D87 k (Cd0 k k) x.1).trans (by rw[(Eg3 k k)]<;>rfl)
theorem Fy5 (k:Nat):SG 7 (Dv8 k):=I5 (Fw3 k) rfl (fi Tryz.func7) (A8 (Ej1 k) (A8 (Fy3 k) (A8 (Fy4 k) (B8)))) λx=>by kernel_rfl
theorem Eo9 (k:Nat):SG 8 (Cd1 k):=I5 (En4 k) rfl (fi Tryz.func8) (A8 (Dz9 k) (B8)) λx=>by kernel_rfl
theorem R3 (k:Nat):SG 30 (M9 k):=I5 (Fw4 k) rfl (fi Tryz.func30) (B8) λx=>by kernel_rfl
theorem E79 (k:Nat):SG 108 (Cq7 k):=I5 (Dc0 k) rfl (fi Tryz.func108) (A8 (R3 k) (B8)) λx=> (by kernel_rfl:_=Br0 k (Bh2 k k) x.1).trans (by rw[(Dc1 k k)]<;>rfl)
theorem Fy6 (k:Nat):SG 109 (Dv9 k):=I5 (Eg4 k) rfl (fi Tryz.func109) (A8 (R3 k) (B8)) λx=> (by kernel_rfl:_=D89 k (Cd2 k k) x.1).trans (by rw[(Eg5 k k)]<;>rfl)
theorem Bd9 (k:Nat):SG 74 (An7 k):=I5 (Fk1 k) rfl (fi Tryz.func74) (A8 (R3 k) (A8 (E79 k) (A8 (Fy6 k) (B8)))) λx=>by kernel_rfl
theorem Av3 (k:Nat):SG 110 (Aa5 k):=I5 (En5 k) rfl (fi Tryz.func110) (B8) λx=>by kernel_rfl
theorem Cs5 (k:Nat):SG 111 (A80 k):=I5 (En6 k) rfl (fi Tryz.func111) (B8) λx=>by kernel_rfl
theorem Df6 (k:Nat):SG 75 (Bh5 k):=I5 (By2 k) rfl (fi Tryz.func75) (A8 (Av3 k) (A8 (Cs5 k) (B8))) λx=> (by kernel_rfl:_=C40 k (Bh4 k k) x.1).trans (by rw[(Dc2 k k).2]<;>rfl)
theorem Bm8 (k:Nat):SG 144 (At1 k):=I5 (Ev2 k) rfl (fi Tryz.func144) (A8 (Av3 k) (B8)) λx=> (by kernel_rfl:_=Et2 k (Cy1 k k) x.1 x.2.1).trans (by rw[(Ev3 k k)]<;>rfl)
theorem D00 (k:Nat):SG 114 (By4 k):=I5 (Dw0 k) rfl (fi Tryz.func114) (A8 (Bm8 k) (B8)) λx=> (by kernel_rfl:_=Do6 k (By3 k k) x.1 x.2.1).trans (by rw[(Dw1 k k)]<;>rfl)
theorem D01 (k:Nat):SG 145 (By6 k):=sgA (Dw2 k) rfl (fi Tryz.func145) (B8) (a7) (Aa9 (Fx3) (Aa9 (Gq7) (Bo9))) (Bj7) λx=> (by kernel_rfl:_=Do7 k (By5 k k) x.1 x.2.1).trans (by rw[(Dw3 k k)]<;>rfl)
theorem E80 (k:Nat):SG 175 (Dc3 k):=I5 (Gi9 k) rfl (fi Tryz.func175) (B8) λx=> (by kernel_rfl:_=Gh0 k (E59 k k) x.1 x.2.1).trans (by rw[(Gj0 k k)]<;>rfl)
theorem Cl1 (k:Nat):SG 150 (A81 k):=I5 (Ga2 k) rfl (fi Tryz.func150) (A8 (Bm8 k) (A8 (E80 k) (B8))) λx=>by kernel_rfl
theorem B11 (k:Nat):SG 117 (Av1 k):=I5 (E60 k) rfl (fi Tryz.func117) (A8 (R3 k) (A8 (Cl1 k) (B8))) λx=>by kernel_rfl
theorem D02 (k:Nat):SG 201 (By7 k):=I5 (Fk2 k) rfl (fi Tryz.func201) (A8 (Cl1 k) (B8)) λx=>by kernel_rfl
theorem Be0 (k:Nat):SG 172 (An8 k):=I5 (Fk3 k) rfl (fi Tryz.func172) (A8 (R3 k) (A8 (Cl1 k) (A8 (D02 k) (B8)))) λx=>by kernel_rfl
theorem Df7 (k:Nat):SG 170 (A82 k):=sgA (An9 k) rfl (fi Tryz.func170) (A8 (B11 k) (A8 (Be0 k) (A8 (D02 k) (B8)))) (a7) (Aa9 (Gq9) (Aa9 (Gr0) (Aa9 (Gr4) (Bo9)))) (Bj7) λx=> (by kernel_rfl:_=Ba8 k (Ag9 k k) (Ah0 k k) x.1 x.2.1 x.2.2.1).trans (by rw[(Ao0 k k).1,(Ao0 k k).2]<;>rfl)
theorem Dk8 (k:Nat):SG 171 (Bd4 k):=I5 (Bm2 k) rfl (fi Tryz.func171) (A8 (Be0 k) (B8)) λx=> (by kernel_rfl:_=Bk6 k (Ao1 k k) x.1 x.2.1 x.2.2.1).trans (by rw[(Bm3 k k)]<;>rfl)
theorem D03 (k:Nat):SG 147 (By8 k):=I5 (Fk4 k) rfl (fi Tryz.func147) (A8 (Bd9 k) (A8 (B11 k) (A8 (Cl1 k) (A8 (Df7 k) (A8 (Dk8 k) (A8 (Be0 k) (B8))))))) λx=>by kernel_rfl
theorem Ev9 (k:Nat):SG 148 (Cy2 k):=I5 (Ga3 k) rfl (fi Tryz.func148) (A8 (R3 k) (B8)) λx=>by kernel_rfl
theorem Af8 (k:Nat):C06 Tryz.prog 173 (R5 k)∧Ak1 Tryz.prog 173:=⟨Ga7 145 B6 (by decide) (by intro h;injection h) Fl2,(Gq8).2⟩
theorem Fm8 (k:Nat):SG 174 (Dc4 k):=I5 (Dw4 k) rfl (fi Tryz.func174) (A8 (R3 k) (B8)) λx=> (by kernel_rfl:_=Do8 k (By9 k k) x.1).trans (by rw[(Dw5 k k)]<;>rfl)
theorem F35 (k:Nat):SG 149 (Eg7 k):=sgA (F31 k) rfl (fi Tryz.func149) (A8 (Fm8 k) (B8)) (Ax4 (Af8 k) (a7)) (Bo9) (Bj7) λx=> (by kernel_rfl:_=F15 k (Eg6 k k) x.1 x.2.1 x.2.2.1).trans (by rw[(F32 k k)]<;>rfl)
theorem Ap4 (k:Nat):C06 Tryz.prog 142 (i7 k)∧Ak1 Tryz.prog 142:=⟨Fx1 Tryz.sortL 3,(Gq6).2⟩
theorem Ej3 (k:Nat):SG 220 (Cd7 k):=sgA (A83 k) rfl (fi Tryz.func220) (A8 (R3 k) (B8)) (Ax4 (Ap4 k) (a7)) (Aa9 (Gj2) (Bo9)) (Bj7) λx=> (by kernel_rfl:_=D91 k (Cd5 k k) x.1).trans (by rw[(Eg8 k k).2.2.1]<;>rfl)
theorem D04 (k:Nat):SG 221 (Bz1 k):=sgA (Dw6 k) rfl (fi Tryz.func221) (A8 (E80 k) (B8)) (a7) (Aa9 (Gr5) (Aa9 (Gr6) (Aa9 (Gr7) (Bo9)))) (Bj7) λx=> (by kernel_rfl:_=Dp1 k (Bz0 k k) x.1 x.2.1).trans (by rw[(Dw7 k k)]<;>rfl)
theorem Fy7 (k:Nat):SG 198 (Dw8 k):=I5 (Eg9 k) rfl (fi Tryz.func198) (A8 (E80 k) (A8 (Ej3 k) (A8 (D04 k) (B8)))) λx=> (by kernel_rfl:_=D92 k (Cd8 k k) x.1).trans (by rw[(Eh0 k k)]<;>rfl)
theorem Gb4 (k:Nat):SG 199 (Eh1 k):=I5 (Ev4 k) rfl (fi Tryz.func199) (A8 (Ej3 k) (A8 (D04 k) (B8))) λx=> (by kernel_rfl:_=Et3 k (Cy3 k k) x.1).trans (by rw[(Ev5 k k)]<;>rfl)
theorem B12 (k:Nat):SG 165 (Aj6 k):=I5 (Ao2 k) rfl (fi Tryz.func165) (B8) λx=> (by kernel_rfl:_=Al3 k (Z4 k k) x.1 x.2.1).trans (by rw[(Ao3 k k)]<;>rfl)
theorem U5 (k:Nat):SG 141 (N8 k):=I5 (A89 k) rfl (fi Tryz.func141) (A8 (B12 k) (B8)) λx=>by kernel_rfl
theorem Fm9 (k:Nat):SG 223 (Dc5 k):=I5 (Cd9 k) rfl (fi Tryz.func223) (A8 (U5 k) (A8 (Bm8 k) (B8))) λx=> (by kernel_rfl:_=Dp2 k (Bz2 k k) x.1 x.2.1).trans (by rw[(Dw9 k k).1]<;>rfl)
theorem Fn0 (k:Nat):SG 233 (Dc6 k):=I5 (Fk5 k) rfl (fi Tryz.func233) (B8) λx=>by kernel_rfl
theorem Fn1 (k:Nat):SG 225 (Dc7 k):=I5 (Fk6 k) rfl (fi Tryz.func225) (A8 (Be0 k) (A8 (Fn0 k) (B8))) λx=>by kernel_rfl
theorem Gb5 (k:Nat):SG 200 (Eh2 k):=sgA (o9 k) rfl (fi Tryz.func200) (A8 (U5 k) (A8 (Bm8 k) (A8 (Fm9 k) (A8 (Fn1 k) (B8))))) (a7) (Aa9 (Gj1) (Aa9 (Fx3) (Aa9 (Gr1) (Aa9 (Gr2) (Aa9 (Gr3) (Bo9)))))) (Bj7) λx=> (by kernel_rfl:_=Et4 k (Bz5 k k) x.1 x.2.1 x.2.2.1).trans (by rw[(Ev6 k k).2.2.2.2.2.2.2.1]<;>rfl)
theorem Fn2 (k:Nat):SG 169 (Dc8 k):=I5 (Bd5 k) rfl (fi Tryz.func169) (A8 (Cs5 k) (A8 (Bm8 k) (A8 (D03 k) (A8 (Ev9 k) (A8 (F35 k) (A8 (E80 k) (A8 (Fy7 k) (A8 (Gb4 k) (A8 (Gb5 k) (B8)))))))))) λx=> (by kernel_rfl:_=Dp3 k (Bz7 k k) x.1 x.2.1).trans (by rw[(Dx0 k k).2.1]<;>rfl)
theorem Ej4 (k:Nat):SG 146 (Ce1 k):=I5 (Eh3 k) rfl (fi Tryz.func146) (A8 (D01 k) (A8 (Fn2 k) (B8))) λx=> (by kernel_rfl:_=D94 k (Ce0 k k) x.1 x.2.1).trans (by rw[(Eh4 k k)]<;>rfl)
theorem Df8 (k:Nat):SG 115 (Bh6 k):=I5 (E61 k) rfl (fi Tryz.func115) (A8 (Bd9 k) (A8 (Df6 k) (A8 (Av3 k) (A8 (D00 k) (A8 (D01 k) (A8 (Ej4 k) (A8 (D03 k) (A8 (Ev9 k) (A8 (F35 k) (B8)))))))))) λx=>by kernel_rfl
theorem Fy8 (k:Nat):SG 105 (Dx1 k):=I5 (Eh5 k) rfl (fi Tryz.func105) (A8 (Df8 k) (B8)) λx=> (by kernel_rfl:_=D95 k (Ce2 k k) x.1).trans (by rw[(Eh6 k k)]<;>rfl)
theorem i8 (k:Nat):SG 71 (Q8 k):=I5 (Ao4 k) rfl (fi Tryz.func71) (B8) λx=> (by kernel_rfl:_=d7 k (Z5 k k) x.1 x.2.1).trans (by rw[(Ao5 k k)]<;>rfl)
theorem Ah1 (k:Nat):SG 134 (S4 k):=I5 (T8 k) rfl (fi Tryz.func134) (B8) λx=> (by kernel_rfl:_=T5 k (M1 k k) x.1 x.2.1).trans (by rw[(T9 k k)]<;>rfl)
theorem Bi8 (k:Nat):SG 137 (Ae0 k):=I5 (Af5 k) rfl (fi Tryz.func137) (B8) λx=> (by kernel_rfl:_=Ae7 k (U4 k k) x.1 x.2.1).trans (by rw[(Af6 k k)]<;>rfl)
theorem E81 (k:Nat):SG 106 (Cq8 k):=sgA (Bz9 k) rfl (fi Tryz.func106) (A8 (i8 k) (A8 (Ah1 k) (A8 (Bi8 k) (B8)))) (a7) (Aa9 (Gx7) (Aa9 (Gq2) (Aa9 (Gq3) (Aa9 (Gq4) (Bo9))))) (Bj7) λx=> (by kernel_rfl:_=C43 k (Bh8 k k) x.1 x.2.1).trans (by rw[(Dc9 k k).2]<;>rfl)
theorem Fy9 (k:Nat):SG 69 (Dx2 k):=I5 (Fw5 k) rfl (fi Tryz.func69) (A8 (Fy8 k) (A8 (E81 k) (B8))) λx=>by kernel_rfl
theorem Fz0 (k:Nat):SG 107 (Dx3 k):=I5 (Fw6 k) rfl (fi Tryz.func107) (B8) λx=>by kernel_rfl
theorem Fn3 (k:Nat):SG 70 (Dd0 k):=I5 (Dx4 k) rfl (fi Tryz.func70) (A8 (Fz0 k) (B8)) λx=> (by kernel_rfl:_=Dp4 k (B00 k k) x.1).trans (by rw[(Dx5 k k)]<;>rfl)
theorem Fz1 (k:Nat):SG 29 (Dx6 k):=I5 (Cz1 k) rfl (fi Tryz.func29) (A8 (R3 k) (A8 (Fy9 k) (A8 (Fn3 k) (A8 (i8 k) (B8))))) λx=> (by kernel_rfl:_=D98 k (Ce4 k k) x.1).trans (by rw[(Eh7 k k).2]<;>rfl)
theorem Ep0 (k:Nat):SG 72 (Ce5 k):=I5 (En7 k) rfl (fi Tryz.func72) (A8 (i8 k) (B8)) λx=>by kernel_rfl
theorem Fz2 (k:Nat):SG 73 (Dx7 k):=I5 (Fw7 k) rfl (fi Tryz.func73) (A8 (Bd9 k) (B8)) λx=>by kernel_rfl
theorem Ep1 (k:Nat):SG 31 (Ce6 k):=I5 (En8 k) rfl (fi Tryz.func31) (A8 (R3 k) (A8 (Ep0 k) (A8 (Fz2 k) (A8 (Bd9 k) (B8))))) λx=>by kernel_rfl
theorem E82 (k:Nat):SG 32 (Cq9 k):=I5 (Dd1 k) rfl (fi Tryz.func32) (A8 (Df6 k) (B8)) λx=> (by kernel_rfl:_=C46 k (Bh9 k k) x.1).trans (by rw[(Dd2 k k)]<;>rfl)
theorem Ej5 (k:Nat):SG 76 (B31 k):=⟨Ga8 Tryz.itoaL (by kernel_rfl) rfl,(Gx8).2⟩
theorem Fn4 (k:Nat):SG 33 (Dd3 k):=I5 (Fk7 k) rfl (fi Tryz.func33) (A8 (Ej5 k) (B8)) λx=>by kernel_rfl
theorem Ej6 (k:Nat):SG 113 (Cf1 k):=sgA (A84 k) rfl (fi Tryz.func113) (A8 (U5 k) (B8)) (Ax4 (Ap4 k) (a7)) (Aa9 (Gj1) (Aa9 (Gq5) (Aa9 (Gj2) (Aa9 (Fx3) (Bo9))))) (Bj7) λx=> (by kernel_rfl:_=D99 k (Ce9 k k) x.1).trans (by rw[(Eh8 k k).2.2.1]<;>rfl)
theorem Gb6 (k:Nat):SG 77 (Eh9 k):=I5 (Ga4 k) rfl (fi Tryz.func77) (A8 (R3 k) (A8 (Av3 k) (A8 (Ej6 k) (A8 (D00 k) (B8))))) λx=>by kernel_rfl
theorem Fn5 (k:Nat):SG 116 (Dd4 k):=I5 (Fk8 k) rfl (fi Tryz.func116) (A8 (Ej6 k) (A8 (Ej4 k) (B8))) λx=>by kernel_rfl
theorem Fn6 (k:Nat):SG 79 (Dd5 k):=I5 (Dx8 k) rfl (fi Tryz.func79) (A8 (Fn5 k) (A8 (B11 k) (B8))) λx=> (by kernel_rfl:_=Dp7 k (B01 k k) x.1).trans (by rw[(Dx9 k k)]<;>rfl)
theorem Fn7 (k:Nat):SG 9 (Dd6 k):=sgA (Aj7 k) rfl (fi Tryz.func9) (A8 (Fz1 k) (A8 (R3 k) (A8 (Ep1 k) (A8 (E82 k) (A8 (Fn4 k) (A8 (Gb6 k) (A8 (Fn6 k) (A8 (Df8 k) (B8))))))))) (a7) (Aa9 (Gx1) (Aa9 (Gx2) (Aa9 (Gx3) (Aa9 (Gx9) (Bo9))))) (Bj7) λx=> (by kernel_rfl:_=Dp8 k (B06 k k) x.1 x.2.1 x.2.2.1).trans (by rw[(Dy0 k k).2.2.2.2]<;>rfl)
theorem Ep2 (k:Nat):SG 80 (Cf2 k):=I5 (En9 k) rfl (fi Tryz.func80) (B8) λx=>by kernel_rfl
theorem Ej7 (k:Nat):SG 37 (B32 k):=I5 (Cf3 k) rfl (fi Tryz.func37) (A8 (Ep2 k) (B8)) λx=> (by kernel_rfl:_=B80 k (Ay2 k k) x.1 x.2.1).trans (by rw[(Cf4 k k)]<;>rfl)
theorem Ej8 (k:Nat):SG 85 (Cf6 k):=I5 (Ei0 k) rfl (fi Tryz.func85) (B8) λx=> (by kernel_rfl:_=Ea0 k (Cf5 k k) x.1 x.2.1).trans (by rw[(Ei1 k k)]<;>rfl)
theorem D05 (k:Nat):SG 40 (B07 k):=I5 (Fk9 k) rfl (fi Tryz.func40) (A8 (Ej8 k) (B8)) λx=>by kernel_rfl
theorem E83 (k:Nat):SG 81 (Cr0 k):=I5 (Dd7 k) rfl (fi Tryz.func81) (A8 (D05 k) (B8)) λx=> (by kernel_rfl:_=C49 k (Bi0 k k) x.1 x.2.1).trans (by rw[(Dd8 k k)]<;>rfl)
theorem Fz3 (k:Nat):SG 151 (Dy1 k):=I5 (Fw8 k) rfl (fi Tryz.func151) (B8) λx=>by kernel_rfl
theorem Fn8 (k:Nat):SG 118 (Dd9 k):=I5 (Dy2 k) rfl (fi Tryz.func118) (A8 (Fz3 k) (B8)) λx=> (by kernel_rfl:_=Dp9 k (B08 k k) x.1 x.2.1).trans (by rw[(Dy3 k k)]<;>rfl)
theorem E84 (k:Nat):SG 82 (Cr1 k):=I5 (De0 k) rfl (fi Tryz.func82) (A8 (Fn8 k) (B8)) λx=> (by kernel_rfl:_=C51 k (Bi1 k k) x.1 x.2.1).trans (by rw[(De1 k k)]<;>rfl)
theorem Fn9 (k:Nat):SG 83 (De2 k):=I5 (Dy4 k) rfl (fi Tryz.func83) (B8) λx=> (by kernel_rfl:_=Dq0 k (B09 k k) x.1 x.2.1).trans (by rw[(Dy5 k k)]<;>rfl)
theorem Fz4 (k:Nat):SG 38 (Dy6 k):=I5 (Fw9 k) rfl (fi Tryz.func38) (A8 (E83 k) (A8 (E84 k) (A8 (Fn9 k) (B8)))) λx=>by kernel_rfl
theorem Gb7 (k:Nat):SG 84 (Ei2 k):=I5 (Ga5 k) rfl (fi Tryz.func84) (A8 (Ej8 k) (B8)) λx=>by kernel_rfl
theorem Fz5 (k:Nat):SG 39 (Dy7 k):=I5 (Ei3 k) rfl (fi Tryz.func39) (A8 (Gb7 k) (B8)) λx=> (by kernel_rfl:_=Ea1 k (Cf7 k k) x.1 x.2.1).trans (by rw[(Ei4 k k)]<;>rfl)
theorem Fz6 (k:Nat):SG 10 (Dy8 k):=I5 (Fx0 k) rfl (fi Tryz.func10) (A8 (Ej7 k) (A8 (Fz4 k) (A8 (Fz5 k) (B8)))) λx=>by kernel_rfl
theorem Ep3 (k:Nat):SG 11 (Cf8 k):=I5 (Eo0 k) rfl (fi Tryz.func11) (A8 (D05 k) (B8)) λx=>by kernel_rfl
theorem A23 (k:Nat):SG 86 (Af7 k):=I5 (De3 k) rfl (fi Tryz.func86) (B8) λx=> (by kernel_rfl:_=Bt3 k (Bi2 k k) x.1).trans (by rw[(De4 k k)]<;>rfl)
theorem Dk9 (k:Nat):SG 45 (Bd6 k):=I5 (Bm4 k) rfl (fi Tryz.func45) (A8 (A23 k) (B8)) λx=> (by kernel_rfl:_=Bl0 k (Ao6 k k) x.1 x.2.1).trans (by rw[(Bm5 k k)]<;>rfl)
theorem Df9 (k:Nat):SG 94 (Bi4 k):=I5 (De5 k) rfl (fi Tryz.func94) (B8) λx=> (by kernel_rfl:_=C54 k (Bi3 k k) x.1 x.2.1).trans (by rw[(De6 k k)]<;>rfl)
theorem Ej9 (k:Nat):SG 91 (B33 k):=I5 (Cf9 k) rfl (fi Tryz.func91) (A8 (A23 k) (A8 (Df9 k) (B8))) λx=> (by kernel_rfl:_=B83 k (Ay3 k k) x.1 x.2.1).trans (by rw[(Cg0 k k)]<;>rfl)
theorem Ep4 (k:Nat):SG 120 (Cg1 k):=I5 (Cr2 k) rfl (fi Tryz.func120) (B8) λx=> (by kernel_rfl:_=Cn6 k (A85 k k) x.1 x.2.1).trans (by rw[(Cr3 k k)]<;>rfl)
theorem Ek0 (k:Nat):SG 92 (B34 k):=I5 (Cg2 k) rfl (fi Tryz.func92) (A8 (Ep4 k) (B8)) λx=> (by kernel_rfl:_=B84 k (Ay4 k k) x.1 x.2.1).trans (by rw[(Cg3 k k)]<;>rfl)
theorem Ep5 (k:Nat):SG 93 (Cg4 k):=I5 (Cr4 k) rfl (fi Tryz.func93) (B8) λx=> (by kernel_rfl:_=Cn7 k (A86 k k) x.1 x.2.1).trans (by rw[(Cr5 k k)]<;>rfl)
theorem E85 (k:Nat):SG 46 (Cr6 k):=I5 (E62 k) rfl (fi Tryz.func46) (A8 (Ej9 k) (A8 (Ek0 k) (A8 (Ep5 k) (B8)))) λx=>by kernel_rfl
theorem E86 (k:Nat):SG 47 (Cr7 k):=I5 (De7 k) rfl (fi Tryz.func47) (A8 (Df9 k) (B8)) λx=> (by kernel_rfl:_=C55 k (Bi5 k k) x.1 x.2.1).trans (by rw[(De8 k k)]<;>rfl)
theorem E87 (k:Nat):SG 14 (Cr8 k):=I5 (E63 k) rfl (fi Tryz.func14) (A8 (Dk9 k) (A8 (E85 k) (A8 (E86 k) (B8)))) λx=>by kernel_rfl
theorem Dl0 (k:Nat):MG 41 (Bd7 k):=mgA [(.int .i64)] [] [.row 67 C9, .imm (.int .i64)] (G:=λx=>z8 k x.1 x.2.1) (Bm6 k) rfl (fi Tryz.func41) (A8 (A23 k) (B8)) (a7) (Bo9) (Bj7) λx=> (by kernel_rfl:_=Bl1 k (Ao7 k k) x.1 x.2.1).trans (by rw[(Bm7 k k)]<;>rfl)
theorem B13 (k:Nat):MG 90 (Av2 k):=mgA [(.int .i64)] [] [.row 3 (.int .i64), .imm (.int .i64)] (G:=λx=>e7 k x.1 x.2.1) (De9 k) rfl (fi Tryz.func90) (B8) (a7) (Bo9) (Bj7) λx=> (by kernel_rfl:_=C56 k (Bi6 k k) x.1 x.2.1).trans (by rw[(Df0 k k)]<;>rfl)
theorem E88 (k:Nat):MG 43 (Cr9 k):=mgA [(.int .i64)] [] [.tree 98 T0, .imm (.int .i64)] (G:=λx=>A62 k x.1 x.2.1) (Df1 k) rfl (fi Tryz.func43) (B8) (Ax4 (B13 k) (a7)) (Bo9) (Bj7) λx=> (by kernel_rfl:_=C57 k (Bi7 k k) x.1 x.2.1).trans (by rw[(Df2 k k)]<;>rfl)
theorem Ek1 (k:Nat):MG 87 (B35 k):=mgA [(.int .i64)] [] [.tree 49 B0, .imm (.int .i64)] (G:=λx=>Al9 k x.1 x.2.1) (Cg5 k) rfl (fi Tryz.func87) (A8 (A23 k) (B8)) (Ax4 (B13 k) (a7)) (Bo9) (Bj7) λx=> (by kernel_rfl:_=B86 k (Ay5 k k) x.1 x.2.1).trans (by rw[(Cg6 k k)]<;>rfl)
theorem Ep6 (k:Nat):MG 119 (Cg7 k):=mgA [(.int .i64)] [] [.row 145 B6, .imm (.int .i64)] (G:=λx=>Aw9 k x.1 x.2.1) (Cs0 k) rfl (fi Tryz.func119) (B8) (a7) (Bo9) (Bj7) λx=> (by kernel_rfl:_=Cn8 k (A87 k k) x.1 x.2.1).trans (by rw[(Cs1 k k)]<;>rfl)
theorem Ek2 (k:Nat):MG 88 (B36 k):=mgA [(.int .i64)] [] [.tree 127 (.slice 145 B6), .imm (.int .i64)] (G:=λx=>Am1 k x.1 x.2.1) (Cg8 k) rfl (fi Tryz.func88) (B8) (Ax4 (Ep6 k) (a7)) (Bo9) (Bj7) λx=> (by kernel_rfl:_=B87 k (Ay6 k k) x.1 x.2.1).trans (by rw[(Cg9 k k)]<;>rfl)
theorem Ep7 (k:Nat):MG 89 (Ch0 k):=mgA [(.int .i64)] [] [.row 4 .bool, .imm (.int .i64)] (G:=λx=>Aj0 k x.1 x.2.1) (Cs2 k) rfl (fi Tryz.func89) (B8) (a7) (Bo9) (Bj7) λx=> (by kernel_rfl:_=Cn9 k (A88 k k) x.1 x.2.1).trans (by rw[(Cs3 k k)]<;>rfl)
theorem Cz5 (k:Nat):SG 3 (Cl6 k):=sgA (Cz2 k) rfl (fi Tryz.func3) (A8 (Fx6 k) (A8 (Eo2 k) (A8 (Fm5 k) (A8 (Fy5 k) (A8 (Eo9 k) (A8 (Fn7 k) (A8 (Fz6 k) (A8 (Ep3 k) (A8 (E87 k) (B8)))))))))) (Ax4 (Dl0 k) (Ax4 (E88 k) (Ax4 (Ek1 k) (Ax4 (Ek2 k) (Ax4 (Ep7 k) (Ax4 (B13 k) (a7))))))) (Aa9 (Gw8) (Aa9 (Gw9) (Aa9 (Gx4) (Aa9 (Gx5) (Bo9))))) (Bj7) λx=>by kernel_rfl
end Go.Vm
end
