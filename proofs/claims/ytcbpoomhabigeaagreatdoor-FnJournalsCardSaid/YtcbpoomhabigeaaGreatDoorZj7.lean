/- The functions keep their specifications. -/
import Derived.Test.YtcbpoomhabigeaaGreatDoorZj6
import Derived.Test.YtcbpoomhabigeaaGreatDoorChecked
section
set_option linter.unusedVariables false
namespace Go.Vm
open Go Go.Proofs
theorem mixed : Tryz.prog.follows .mixedOrders = true := Tryz.checked.mixed
def O4 (c : Cfg) : Prop := ∀ f fn, look c.inl f = some fn → Tryz.prog.funcs[f]? = some fn
theorem O1 {c : Cfg} (h : Fy9 Tryz.prog c.inl) : O4 c := fun f fn e => (h f fn e).1
abbrev SG (f : FuncId) (s : Spec) : Prop := Aj9 Tryz.prog f s ∧ O2 Tryz.prog f
abbrev FI (n : FuncId) (f : Func) : Prop := Tryz.prog.funcs[n]? = some f ∧ O2 Tryz.prog n
theorem K7 : TyOk Tryz.prog (.int .i64) 3 := F2 _ _ _ [] (by kernel_rfl)
theorem Dn9 : TyOk Tryz.prog .bool 4 := F2 _ _ _ [] (by kernel_rfl)
theorem Bh3 : TyOk Tryz.prog (.int .u8) 5 := F2 _ _ _ [] (by kernel_rfl)
theorem P7 : TyOk Tryz.prog .str 9 := F2 _ _ _ [] (by kernel_rfl)
theorem Az0 : TyOk Tryz.prog (.slice 5 (.int .u8)) 22 := F2 _ _ _ [] (by kernel_rfl)
theorem Bh4 : TyOk Tryz.prog (.slice 99 J0) 24 := F2 _ _ _ [] (by kernel_rfl)
theorem Ap8 : TyOk Tryz.prog D9 26 := F2 _ _ _ [] (by kernel_rfl)
theorem Af9 : TyOk Tryz.prog (.slice 85 C2) 27 := F2 _ _ _ [] (by kernel_rfl)
theorem T1 : TyOk Tryz.prog E9 29 := F2 _ _ _ [] (by kernel_rfl)
theorem Ag0 : TyOk Tryz.prog A5 31 := F2 _ _ _ [] (by kernel_rfl)
theorem Df7 : TyOk Tryz.prog (.slice 93 b7) 40 := F2 _ _ _ [] (by kernel_rfl)
theorem Ad8 : TyOk Tryz.prog (.slice 3 (.int .i64)) 49 := F2 _ _ _ [] (by kernel_rfl)
theorem Fl5 : TyOk Tryz.prog (.slice 9 .str) 75 := F2 _ _ _ [] (by kernel_rfl)
theorem Ad9 : TyOk Tryz.prog C2 85 := F2 _ _ _ [] (by kernel_rfl)
theorem Df8 : TyOk Tryz.prog b7 93 := F2 _ _ _ [] (by kernel_rfl)
theorem Bq5 : TyOk Tryz.prog J0 99 := F2 _ _ _ [] (by kernel_rfl)
theorem F29 : TyOk Tryz.prog (.slice 158 C2) 106 := F2 _ _ _ [] (by kernel_rfl)
theorem Gk1 : TyOk Tryz.prog (.slice 162 H1) 107 := F2 _ _ _ [] (by kernel_rfl)
theorem F30 : TyOk Tryz.prog Ap6 111 := F2 _ _ _ [] (by kernel_rfl)
theorem Gk2 : TyOk Tryz.prog (.slice 164 Ei8) 112 := F2 _ _ _ [] (by kernel_rfl)
theorem E95 : TyOk Tryz.prog A55 114 := F2 _ _ _ [] (by kernel_rfl)
theorem Df9 : TyOk Tryz.prog G8 122 := F2 _ _ _ [] (by kernel_rfl)
theorem F31 : TyOk Tryz.prog B6 129 := F2 _ _ _ [] (by kernel_rfl)
theorem D86 : TyOk Tryz.prog (.int .u32) 139 := F2 _ _ _ [] (by kernel_rfl)
theorem F32 : TyOk Tryz.prog C2 158 := F2 _ _ _ [] (by kernel_rfl)
theorem Bd4 : TyOk Tryz.prog H1 162 := F2 _ _ _ [] (by kernel_rfl)
theorem Gk3 : TyOk Tryz.prog Ei8 164 := F2 _ _ _ [] (by kernel_rfl)
theorem D87 : TyOk Tryz.prog S9 169 := F2 _ _ _ [] (by kernel_rfl)
theorem D88 : TyOk Tryz.prog G8 176 := F2 _ _ _ [] (by kernel_rfl)
theorem Dg0 : Tryz.prog.stoodInHeld 85 = false ∧ Tryz.prog.eqGuardType Tryz.prog.depth 85 = false := ⟨by kernel_rfl, by kernel_rfl⟩
theorem Gk4 : FI 3 Tryz.f3 := ⟨Tryz.func3, A3 Tryz.func3 (by kernel_rfl) rfl⟩
theorem Gk5 : FI 7 Tryz.f7 := ⟨Tryz.func7, A3 Tryz.func7 (by kernel_rfl) rfl⟩
theorem Gk6 : FI 8 Tryz.f8 := ⟨Tryz.func8, A3 Tryz.func8 (by kernel_rfl) rfl⟩
theorem Gk7 : FI 9 Tryz.f9 := ⟨Tryz.func9, A3 Tryz.func9 (by kernel_rfl) rfl⟩
theorem F33 : FI 10 Tryz.f10 := ⟨Tryz.func10, A3 Tryz.func10 (by kernel_rfl) rfl⟩
theorem F34 : FI 11 Tryz.f11 := ⟨Tryz.func11, A3 Tryz.func11 (by kernel_rfl) rfl⟩
theorem F35 : FI 12 Tryz.f12 := ⟨Tryz.func12, A3 Tryz.func12 (by kernel_rfl) rfl⟩
theorem F36 : FI 13 Tryz.f13 := ⟨Tryz.func13, A3 Tryz.func13 (by kernel_rfl) rfl⟩
theorem F37 : FI 14 Tryz.f14 := ⟨Tryz.func14, A3 Tryz.func14 (by kernel_rfl) rfl⟩
theorem F38 : FI 15 Tryz.f15 := ⟨Tryz.func15, A3 Tryz.func15 (by kernel_rfl) rfl⟩
theorem F39 : FI 16 Tryz.f16 := ⟨Tryz.func16, A3 Tryz.func16 (by kernel_rfl) rfl⟩
theorem F40 : FI 17 Tryz.f17 := ⟨Tryz.func17, A3 Tryz.func17 (by kernel_rfl) rfl⟩
theorem F41 : FI 18 Tryz.f18 := ⟨Tryz.func18, A3 Tryz.func18 (by kernel_rfl) rfl⟩
theorem Gh2 : FI 32 Tryz.f32 := ⟨Tryz.func32, A3 Tryz.func32 (by kernel_rfl) rfl⟩
theorem F42 : FI 33 Tryz.f33 := ⟨Tryz.func33, A3 Tryz.func33 (by kernel_rfl) rfl⟩
theorem F43 : FI 34 Tryz.f34 := ⟨Tryz.func34, A3 Tryz.func34 (by kernel_rfl) rfl⟩
theorem F44 : FI 35 Tryz.f35 := ⟨Tryz.func35, A3 Tryz.func35 (by kernel_rfl) rfl⟩
theorem F45 : FI 36 Tryz.f36 := ⟨Tryz.func36, A3 Tryz.func36 (by kernel_rfl) rfl⟩
theorem F46 : FI 37 Tryz.f37 := ⟨Tryz.func37, A3 Tryz.func37 (by kernel_rfl) rfl⟩
theorem F47 : FI 38 Tryz.f38 := ⟨Tryz.func38, A3 Tryz.func38 (by kernel_rfl) rfl⟩
theorem F48 : FI 39 Tryz.f39 := ⟨Tryz.func39, A3 Tryz.func39 (by kernel_rfl) rfl⟩
theorem F49 : FI 40 Tryz.f40 := ⟨Tryz.func40, A3 Tryz.func40 (by kernel_rfl) rfl⟩
theorem F50 : FI 41 Tryz.f41 := ⟨Tryz.func41, A3 Tryz.func41 (by kernel_rfl) rfl⟩
theorem F51 : FI 42 Tryz.f42 := ⟨Tryz.func42, A3 Tryz.func42 (by kernel_rfl) rfl⟩
theorem F52 : FI 43 Tryz.f43 := ⟨Tryz.func43, A3 Tryz.func43 (by kernel_rfl) rfl⟩
theorem F53 : FI 44 Tryz.f44 := ⟨Tryz.func44, A3 Tryz.func44 (by kernel_rfl) rfl⟩
theorem F54 : FI 45 Tryz.f45 := ⟨Tryz.func45, A3 Tryz.func45 (by kernel_rfl) rfl⟩
theorem F55 : FI 46 Tryz.f46 := ⟨Tryz.func46, A3 Tryz.func46 (by kernel_rfl) rfl⟩
theorem F56 : FI 47 Tryz.f47 := ⟨Tryz.func47, A3 Tryz.func47 (by kernel_rfl) rfl⟩
theorem F57 : FI 48 Tryz.f48 := ⟨Tryz.func48, A3 Tryz.func48 (by kernel_rfl) rfl⟩
theorem F58 : FI 49 Tryz.f49 := ⟨Tryz.func49, A3 Tryz.func49 (by kernel_rfl) rfl⟩
theorem F59 : FI 50 Tryz.f50 := ⟨Tryz.func50, A3 Tryz.func50 (by kernel_rfl) rfl⟩
theorem F60 : FI 51 Tryz.f51 := ⟨Tryz.func51, A3 Tryz.func51 (by kernel_rfl) rfl⟩
theorem F61 : FI 52 Tryz.f52 := ⟨Tryz.func52, A3 Tryz.func52 (by kernel_rfl) rfl⟩
theorem F62 : FI 53 Tryz.f53 := ⟨Tryz.func53, A3 Tryz.func53 (by kernel_rfl) rfl⟩
theorem F63 : FI 54 Tryz.f54 := ⟨Tryz.func54, A3 Tryz.func54 (by kernel_rfl) rfl⟩
theorem F64 : FI 55 Tryz.f55 := ⟨Tryz.func55, A3 Tryz.func55 (by kernel_rfl) rfl⟩
theorem F65 : FI 56 Tryz.f56 := ⟨Tryz.func56, A3 Tryz.func56 (by kernel_rfl) rfl⟩
theorem F66 : FI 57 Tryz.f57 := ⟨Tryz.func57, A3 Tryz.func57 (by kernel_rfl) rfl⟩
theorem F67 : FI 58 Tryz.f58 := ⟨Tryz.func58, A3 Tryz.func58 (by kernel_rfl) rfl⟩
theorem F68 : FI 59 Tryz.f59 := ⟨Tryz.func59, A3 Tryz.func59 (by kernel_rfl) rfl⟩
theorem F69 : FI 60 Tryz.f60 := ⟨Tryz.func60, A3 Tryz.func60 (by kernel_rfl) rfl⟩
theorem F70 : FI 61 Tryz.f61 := ⟨Tryz.func61, A3 Tryz.func61 (by kernel_rfl) rfl⟩
theorem F71 : FI 62 Tryz.f62 := ⟨Tryz.func62, A3 Tryz.func62 (by kernel_rfl) rfl⟩
theorem F72 : FI 63 Tryz.f63 := ⟨Tryz.func63, A3 Tryz.func63 (by kernel_rfl) rfl⟩
theorem F73 : FI 64 Tryz.f64 := ⟨Tryz.func64, A3 Tryz.func64 (by kernel_rfl) rfl⟩
theorem F74 : FI 65 Tryz.f65 := ⟨Tryz.func65, A3 Tryz.func65 (by kernel_rfl) rfl⟩
theorem F75 : FI 70 Tryz.f70 := ⟨Tryz.func70, A3 Tryz.func70 (by kernel_rfl) rfl⟩
theorem F76 : FI 72 Tryz.f72 := ⟨Tryz.func72, A3 Tryz.func72 (by kernel_rfl) rfl⟩
theorem F77 : FI 75 Tryz.f75 := ⟨Tryz.func75, A3 Tryz.func75 (by kernel_rfl) rfl⟩
theorem F78 : FI 79 Tryz.f79 := ⟨Tryz.func79, A3 Tryz.func79 (by kernel_rfl) rfl⟩
theorem F79 : FI 80 Tryz.f80 := ⟨Tryz.func80, A3 Tryz.func80 (by kernel_rfl) rfl⟩
theorem F80 : FI 84 Tryz.f84 := ⟨Tryz.func84, A3 Tryz.func84 (by kernel_rfl) rfl⟩
theorem F81 : FI 85 Tryz.f85 := ⟨Tryz.func85, A3 Tryz.func85 (by kernel_rfl) rfl⟩
theorem F82 : FI 86 Tryz.f86 := ⟨Tryz.func86, A3 Tryz.func86 (by kernel_rfl) rfl⟩
theorem F83 : FI 87 Tryz.f87 := ⟨Tryz.func87, A3 Tryz.func87 (by kernel_rfl) rfl⟩
theorem F84 : FI 88 Tryz.f88 := ⟨Tryz.func88, A3 Tryz.func88 (by kernel_rfl) rfl⟩
theorem F85 : FI 89 Tryz.f89 := ⟨Tryz.func89, A3 Tryz.func89 (by kernel_rfl) rfl⟩
theorem F86 : FI 90 Tryz.f90 := ⟨Tryz.func90, A3 Tryz.func90 (by kernel_rfl) rfl⟩
theorem F87 : FI 91 Tryz.f91 := ⟨Tryz.func91, A3 Tryz.func91 (by kernel_rfl) rfl⟩
theorem F88 : FI 92 Tryz.f92 := ⟨Tryz.func92, A3 Tryz.func92 (by kernel_rfl) rfl⟩
theorem F89 : FI 93 Tryz.f93 := ⟨Tryz.func93, A3 Tryz.func93 (by kernel_rfl) rfl⟩
theorem F90 : FI 94 Tryz.f94 := ⟨Tryz.func94, A3 Tryz.func94 (by kernel_rfl) rfl⟩
theorem F91 : FI 95 Tryz.f95 := ⟨Tryz.func95, A3 Tryz.func95 (by kernel_rfl) rfl⟩
theorem F92 : FI 96 Tryz.f96 := ⟨Tryz.func96, A3 Tryz.func96 (by kernel_rfl) rfl⟩
theorem F93 : FI 97 Tryz.f97 := ⟨Tryz.func97, A3 Tryz.func97 (by kernel_rfl) rfl⟩
theorem F94 : FI 98 Tryz.f98 := ⟨Tryz.func98, A3 Tryz.func98 (by kernel_rfl) rfl⟩
theorem F95 : FI 99 Tryz.f99 := ⟨Tryz.func99, A3 Tryz.func99 (by kernel_rfl) rfl⟩
theorem E96 : FI 100 Tryz.f100 := ⟨Tryz.func100, A3 Tryz.func100 (by kernel_rfl) rfl⟩
theorem E97 : FI 101 Tryz.f101 := ⟨Tryz.func101, A3 Tryz.func101 (by kernel_rfl) rfl⟩
theorem E98 : FI 102 Tryz.f102 := ⟨Tryz.func102, A3 Tryz.func102 (by kernel_rfl) rfl⟩
theorem E99 : FI 103 Tryz.f103 := ⟨Tryz.func103, A3 Tryz.func103 (by kernel_rfl) rfl⟩
theorem Fa0 : FI 104 Tryz.f104 := ⟨Tryz.func104, A3 Tryz.func104 (by kernel_rfl) rfl⟩
theorem Fa1 : FI 105 Tryz.f105 := ⟨Tryz.func105, A3 Tryz.func105 (by kernel_rfl) rfl⟩
theorem Fa2 : FI 106 Tryz.f106 := ⟨Tryz.func106, A3 Tryz.func106 (by kernel_rfl) rfl⟩
theorem Fa3 : FI 107 Tryz.f107 := ⟨Tryz.func107, A3 Tryz.func107 (by kernel_rfl) rfl⟩
theorem Fa4 : FI 108 Tryz.f108 := ⟨Tryz.func108, A3 Tryz.func108 (by kernel_rfl) rfl⟩
theorem Fa5 : FI 109 Tryz.f109 := ⟨Tryz.func109, A3 Tryz.func109 (by kernel_rfl) rfl⟩
theorem Fa6 : FI 110 Tryz.f110 := ⟨Tryz.func110, A3 Tryz.func110 (by kernel_rfl) rfl⟩
theorem Fa7 : FI 111 Tryz.f111 := ⟨Tryz.func111, A3 Tryz.func111 (by kernel_rfl) rfl⟩
theorem Fa8 : FI 112 Tryz.f112 := ⟨Tryz.func112, A3 Tryz.func112 (by kernel_rfl) rfl⟩
theorem Gk8 : FI 113 Tryz.f113 := ⟨Tryz.func113, A3 Tryz.func113 (by kernel_rfl) rfl⟩
theorem Gk9 : FI 114 Tryz.f114 := ⟨Tryz.func114, A3 Tryz.func114 (by kernel_rfl) rfl⟩
theorem Fa9 : FI 116 Tryz.f116 := ⟨Tryz.func116, A3 Tryz.func116 (by kernel_rfl) rfl⟩
theorem Fb0 : FI 117 Tryz.f117 := ⟨Tryz.func117, A3 Tryz.func117 (by kernel_rfl) rfl⟩
theorem Fb1 : FI 118 Tryz.f118 := ⟨Tryz.func118, A3 Tryz.func118 (by kernel_rfl) rfl⟩
theorem Fb2 : FI 120 Tryz.f120 := ⟨Tryz.func120, A3 Tryz.func120 (by kernel_rfl) rfl⟩
theorem Fb3 : FI 121 Tryz.f121 := ⟨Tryz.func121, A3 Tryz.func121 (by kernel_rfl) rfl⟩
theorem Fb4 : FI 123 Tryz.f123 := ⟨Tryz.func123, A3 Tryz.func123 (by kernel_rfl) rfl⟩
theorem Fb5 : FI 127 Tryz.f127 := ⟨Tryz.func127, A3 Tryz.func127 (by kernel_rfl) rfl⟩
theorem Fb6 : FI 128 Tryz.f128 := ⟨Tryz.func128, A3 Tryz.func128 (by kernel_rfl) rfl⟩
theorem Fb7 : FI 130 Tryz.f130 := ⟨Tryz.func130, A3 Tryz.func130 (by kernel_rfl) rfl⟩
theorem Fb8 : FI 131 Tryz.f131 := ⟨Tryz.func131, A3 Tryz.func131 (by kernel_rfl) rfl⟩
theorem Fb9 : FI 132 Tryz.f132 := ⟨Tryz.func132, A3 Tryz.func132 (by kernel_rfl) rfl⟩
theorem Fc0 : FI 133 Tryz.f133 := ⟨Tryz.func133, A3 Tryz.func133 (by kernel_rfl) rfl⟩
theorem Fc1 : FI 134 Tryz.f134 := ⟨Tryz.func134, A3 Tryz.func134 (by kernel_rfl) rfl⟩
theorem F96 : FI 135 Tryz.f135 := ⟨Tryz.func135, A3 Tryz.func135 (by kernel_rfl) rfl⟩
theorem F97 : FI 136 Tryz.f136 := ⟨Tryz.func136, A3 Tryz.func136 (by kernel_rfl) rfl⟩
theorem Fc2 : FI 137 Tryz.f137 := ⟨Tryz.func137, A3 Tryz.func137 (by kernel_rfl) rfl⟩
theorem Fc3 : FI 138 Tryz.f138 := ⟨Tryz.func138, A3 Tryz.func138 (by kernel_rfl) rfl⟩
theorem Fc4 : FI 139 Tryz.f139 := ⟨Tryz.func139, A3 Tryz.func139 (by kernel_rfl) rfl⟩
theorem Fc5 : FI 140 Tryz.f140 := ⟨Tryz.func140, A3 Tryz.func140 (by kernel_rfl) rfl⟩
theorem Fc6 : FI 141 Tryz.f141 := ⟨Tryz.func141, A3 Tryz.func141 (by kernel_rfl) rfl⟩
theorem Fc7 : FI 142 Tryz.f142 := ⟨Tryz.func142, A3 Tryz.func142 (by kernel_rfl) rfl⟩
theorem Fc8 : FI 143 Tryz.f143 := ⟨Tryz.func143, A3 Tryz.func143 (by kernel_rfl) rfl⟩
theorem Fc9 : FI 144 Tryz.f144 := ⟨Tryz.func144, A3 Tryz.func144 (by kernel_rfl) rfl⟩
theorem Fd0 : FI 145 Tryz.f145 := ⟨Tryz.func145, A3 Tryz.func145 (by kernel_rfl) rfl⟩
theorem Fd1 : FI 146 Tryz.f146 := ⟨Tryz.func146, A3 Tryz.func146 (by kernel_rfl) rfl⟩
theorem Fd2 : FI 151 Tryz.f151 := ⟨Tryz.func151, A3 Tryz.func151 (by kernel_rfl) rfl⟩
theorem Fd3 : FI 152 Tryz.f152 := ⟨Tryz.func152, A3 Tryz.func152 (by kernel_rfl) rfl⟩
theorem Fd4 : FI 153 Tryz.f153 := ⟨Tryz.func153, A3 Tryz.func153 (by kernel_rfl) rfl⟩
theorem Fd5 : FI 154 Tryz.f154 := ⟨Tryz.func154, A3 Tryz.func154 (by kernel_rfl) rfl⟩
theorem Fd6 : FI 157 Tryz.f157 := ⟨Tryz.func157, A3 Tryz.func157 (by kernel_rfl) rfl⟩
theorem Fd7 : FI 158 Tryz.f158 := ⟨Tryz.func158, A3 Tryz.func158 (by kernel_rfl) rfl⟩
theorem Fd8 : FI 159 Tryz.f159 := ⟨Tryz.func159, A3 Tryz.func159 (by kernel_rfl) rfl⟩
theorem Fd9 : FI 160 Tryz.f160 := ⟨Tryz.func160, A3 Tryz.func160 (by kernel_rfl) rfl⟩
theorem Fe0 : FI 161 Tryz.f161 := ⟨Tryz.func161, A3 Tryz.func161 (by kernel_rfl) rfl⟩
theorem Fe1 : FI 162 Tryz.f162 := ⟨Tryz.func162, A3 Tryz.func162 (by kernel_rfl) rfl⟩
theorem Fe2 : FI 163 Tryz.f163 := ⟨Tryz.func163, A3 Tryz.func163 (by kernel_rfl) rfl⟩
theorem Fe3 : FI 164 Tryz.f164 := ⟨Tryz.func164, A3 Tryz.func164 (by kernel_rfl) rfl⟩
theorem Fe4 : FI 170 Tryz.f170 := ⟨Tryz.func170, A3 Tryz.func170 (by kernel_rfl) rfl⟩
theorem Fe5 : FI 171 Tryz.f171 := ⟨Tryz.func171, A3 Tryz.func171 (by kernel_rfl) rfl⟩
theorem Fe6 : FI 172 Tryz.f172 := ⟨Tryz.func172, A3 Tryz.func172 (by kernel_rfl) rfl⟩
theorem Gl0 : FI 175 Tryz.f175 := ⟨Tryz.func175, A3 Tryz.func175 (by kernel_rfl) rfl⟩
theorem Gl1 : FI 176 Tryz.f176 := ⟨Tryz.func176, A3 Tryz.func176 (by kernel_rfl) rfl⟩
theorem Gl2 : FI 177 Tryz.f177 := ⟨Tryz.func177, A3 Tryz.func177 (by kernel_rfl) rfl⟩
theorem Gl3 : FI 178 Tryz.f178 := ⟨Tryz.func178, A3 Tryz.func178 (by kernel_rfl) rfl⟩
theorem Gl4 : FI 179 Tryz.f179 := ⟨Tryz.func179, A3 Tryz.func179 (by kernel_rfl) rfl⟩
theorem Fe7 : FI 180 Tryz.f180 := ⟨Tryz.func180, A3 Tryz.func180 (by kernel_rfl) rfl⟩
theorem Fe8 : FI 193 Tryz.f193 := ⟨Tryz.func193, A3 Tryz.func193 (by kernel_rfl) rfl⟩
theorem Fe9 : FI 195 Tryz.f195 := ⟨Tryz.func195, A3 Tryz.func195 (by kernel_rfl) rfl⟩
theorem Gf8 (k : Nat) : Ok Tryz.prog (D40 k) := D0 (F5) (F4) (O5) (A6 (Az0) (F3)) (B7 (Gk5) (C0)) (C9) (B9)
theorem Gf9 (k : Nat) : O4 (D40 k) := O1 (B7 (Gk5) (C0))
theorem Gg0 (k : Nat) : SG 7 (Ei9 k) := ⟨A1 (Gf8 k) mixed (Gf9 k) (d := k) [(.slice 5 (.int .u8))] [.bool] [] (fun x => Eg7 k x.1) (fun x => Gf2 k x.1), (Gk5).2⟩
theorem Fs3 (k : Nat) : Ok Tryz.prog (Cm8 k) := D0 (F5) (F4) (O5) (F3) (B7 (F64) (C0)) (C9) (B9)
theorem Fs4 (k : Nat) : O4 (Cm8 k) := O1 (B7 (F64) (C0))
theorem L2 (k : Nat) : SG 55 (I5 k) := ⟨A1 (Fs3 k) mixed (Fs4 k) (d := k) [(.int .i64), (.int .i64), (.int .i64)] [.bool] [] (fun x => E7 k x.1 x.2.1 x.2.2.1) (fun x => Fq8 k x.1 x.2.1 x.2.2.1), (F64).2⟩
theorem Do0 (k : Nat) : Ok Tryz.prog (Ba8 k) := D0 (F5) (F4) (O5) (A6 (K7) (A6 (Bh3) (F3))) (B7 (Fc3) (C0)) (C9) (B9)
theorem Do1 (k : Nat) : O4 (Ba8 k) := O1 (B7 (Fc3) (C0))
theorem Do2 (k : Nat) : SG 138 (Bw5 k) := ⟨A1 (Do0 k) mixed (Do1 k) (d := k) [(.int .i64)] [(.int .u8)] [] (fun x => At7 k x.1) (fun x => Dj6 k x.1), (Fc3).2⟩
theorem Eq4 (k : Nat) : Ok Tryz.prog (Au7 k) := D0 (F5) (F4) (O5) (A6 (P7) (A6 (Az0) (F3))) (B7 (E96) (C0)) (A8 (Do2 k) (C9)) (B9)
theorem Eq5 (k : Nat) : O4 (Au7 k) := O1 (B7 (E96) (C0))
theorem Eq6 (k : Nat) : SG 100 (Cf9 k) := ⟨A1 (Eq4 k) mixed (Eq5 k) (d := k) [(.int .i64)] [.str] [] (fun x => A21 k x.1) (fun x => Ej2 k x.1), (E96).2⟩
theorem C10 (k : Nat) : Ok Tryz.prog (Ax5 k) := D0 (F5) (F4) (O5) (F3) (B7 (F59) (C0)) (A8 (L2 k) (A8 (Eq6 k) (C9))) (B9)
theorem C11 (k : Nat) : O4 (Ax5 k) := O1 (B7 (F59) (C0))
theorem Ay8 (k : Nat) : SG 50 (Ac9 k) := ⟨A1 (C10 k) mixed (C11 k) (d := k) [(.int .i64)] [.str] [] (fun x => U8 k x.1) (fun x => Cx4 k x.1), (F59).2⟩
theorem Fs5 (k : Nat) : Ok Tryz.prog (Bg1 k) := D0 (F5) (F4) (O5) (A6 (P7) (A6 (Bh4) (A6 (Ap8) (A6 (Bq5) (F3))))) (B7 (E97) (C0)) (C9) (B9)
theorem Fs6 (k : Nat) : O4 (Bg1 k) := O1 (B7 (E97) (C0))
theorem Dx6 (k : Nat) : SG 101 (Ca3 k) := ⟨A1 (Fs5 k) mixed (Fs6 k) (d := k) [D9, .str] [(.int .i64)] [] (fun x => Az6 k x.1 x.2.1) (fun x => Fr0 k x.1 x.2.1), (E97).2⟩
theorem Ff0 (k : Nat) : Ok Tryz.prog (Ca4 k) := D0 (F5) (F4) (O5) (A6 (P7) (A6 (Bh4) (A6 (Ap8) (A6 (Bq5) (F3))))) (B7 (F60) (C0)) (A8 (Dx6 k) (C9)) (B9)
theorem Ff1 (k : Nat) : O4 (Ca4 k) := O1 (B7 (F60) (C0))
theorem Ff2 (k : Nat) : SG 51 (Ct6 k) := ⟨A1 (Ff0 k) mixed (Ff1 k) (d := k) [D9, .str] [.str, .bool] [] (fun x => Be4 k x.1 x.2.1) (fun x => E67 k x.1 x.2.1), (F60).2⟩
theorem Ff3 (k : Nat) : Ok Tryz.prog (A57 k) := D0 (F5) (F4) (O5) (A6 (K7) (A6 (Bh3) (A6 (P7) (A6 (Az0) (F3))))) (B7 (Fa5) (C0)) (C9) (B9)
theorem Ff4 (k : Nat) : O4 (A57 k) := O1 (B7 (Fa5) (C0))
theorem Y7 (k : Nat) : SG 109 (T0 k) := ⟨A1 (Ff3 k) mixed (Ff4 k) (d := k) [(.int .i64)] [.str] [] (fun x => I9 k x.1) (fun x => E69 k x.1), (Fa5).2⟩
theorem Eq7 (k : Nat) : Ok Tryz.prog (Bw7 k) := D0 (F5) (F4) (O5) (A6 (Bh3) (A6 (P7) (A6 (Az0) (A6 (D86) (F3))))) (B7 (Fc9) (C0)) (C9) (B9)
theorem Eq8 (k : Nat) : O4 (Bw7 k) := O1 (B7 (Fc9) (C0))
theorem Eq9 (k : Nat) : SG 144 (Cg1 k) := ⟨A1 (Eq7 k) mixed (Eq8 k) (d := k) [(.int .u32)] [.str] [] (fun x => B28 k x.1) (fun x => Ej4 k x.1), (Fc9).2⟩
theorem Er0 (k : Nat) : Ok Tryz.prog (Aj1 k) := D0 (F5) (F4) (O5) (A6 (Bh3) (A6 (P7) (A6 (D86) (F3)))) (B7 (Fe2) (C0)) (C9) (B9)
theorem Er1 (k : Nat) : O4 (Aj1 k) := O1 (B7 (Fe2) (C0))
theorem Er2 (k : Nat) : SG 163 (Cg2 k) := ⟨A1 (Er0 k) mixed (Er1 k) (d := k) [(.int .u32), .str] [(.int .u32)] [] (fun x => B29 k x.1 x.2.1) (fun x => Ej6 k x.1 x.2.1), (Fe2).2⟩
theorem Fs7 (k : Nat) : Ok Tryz.prog (Cm9 k) := D0 (F5) (F4) (O5) (F3) (B7 (Fd0) (C0)) (A8 (Er2 k) (C9)) (B9)
theorem Fs8 (k : Nat) : O4 (Cm9 k) := O1 (B7 (Fd0) (C0))
theorem Fs9 (k : Nat) : SG 145 (Dc7 k) := ⟨A1 (Fs7 k) mixed (Fs8 k) (d := k) [.str] [(.int .u32)] [] (fun x => Bj8 k x.1) (fun x => Fr1 k x.1), (Fd0).2⟩
theorem Ft0 (k : Nat) : Ok Tryz.prog (Cn0 k) := D0 (F5) (F4) (O5) (A6 (P7) (F3)) (B7 (Fa2) (C0)) (A8 (L2 k) (A8 (Y7 k) (A8 (Eq9 k) (A8 (Fs9 k) (C9))))) (B9)
theorem Ft1 (k : Nat) : O4 (Cn0 k) := O1 (B7 (Fa2) (C0))
theorem Bh5 (k : Nat) : SG 106 (Ar3 k) := ⟨A1 (Ft0 k) mixed (Ft1 k) (d := k) [.str] [.str, .bool] [] (fun x => T2 k x.1) (fun x => Fr2 k x.1), (Fa2).2⟩
theorem Er3 (k : Nat) : Ok Tryz.prog (Au9 k) := D0 (F5) (F4) (O5) (A6 (K7) (A6 (Bh3) (A6 (P7) (F3)))) (B7 (Fc4) (C0)) (A8 (L2 k) (A8 (Y7 k) (C9))) (B9)
theorem Er4 (k : Nat) : O4 (Au9 k) := O1 (B7 (Fc4) (C0))
theorem Cv9 (k : Nat) : SG 139 (Bm2 k) := ⟨A1 (Er3 k) mixed (Er4 k) (d := k) [.str, (.int .i64)] [(.int .i64), (.int .i64), .bool] [] (fun x => p6 k x.1 x.2.1) (fun x => Ek0 k x.1 x.2.1), (Fc4).2⟩
theorem Er5 (k : Nat) : Ok Tryz.prog (Av0 k) := D0 (F5) (F4) (O5) (A6 (P7) (A6 (Fl5) (F3))) (B7 (E98) (C0)) (A8 (Bh5 k) (A8 (Cv9 k) (C9))) (B9)
theorem Er6 (k : Nat) : O4 (Av0 k) := O1 (B7 (E98) (C0))
theorem Er7 (k : Nat) : SG 102 (Cg3 k) := ⟨A1 (Er5 k) mixed (Er6 k) (d := k) [.str] [(.slice 9 .str), (.int .i64)] [.o] (fun x => Be5 k x.1) (fun x => Ek2 k x.1), (E98).2⟩
theorem Ff5 (k : Nat) : Ok Tryz.prog (Ca5 k) := D0 (F5) (F4) (O5) (A6 (K7) (A6 (Dn9) (A6 (P7) (A6 (D88) (F3))))) (B7 (Fb5) (C0)) (A8 (Cv9 k) (C9)) (B9)
theorem Ff6 (k : Nat) : O4 (Ca5 k) := O1 (B7 (Fb5) (C0))
theorem Dg1 (k : Nat) : i7 Tryz.prog 127 (Bw8 k) ∧ O2 Tryz.prog 127 := ⟨K9 (Ff5 k) mixed (Ff6 k) (d := k) [.box G8] [(.int .i64)] [] (fun x => At8 k x.1) (fun x => E70 k x.1), (Fb5).2⟩
theorem Er8 (k : Nat) : Ok Tryz.prog (Bw9 k) := D0 (F5) (F4) (O5) (A6 (K7) (A6 (Dn9) (A6 (P7) (A6 (D88) (F3))))) (B7 (Fc5) (C0)) (C9) (B9)
theorem Er9 (k : Nat) : O4 (Bw9 k) := O1 (B7 (Fc5) (C0))
theorem Cw0 (k : Nat) : i7 Tryz.prog 140 (Bm3 k) ∧ O2 Tryz.prog 140 := ⟨K9 (Er8 k) mixed (Er9 k) (d := k) [.box G8, .imm (.int .i64)] [.str] [] (fun x => Ab0 k x.1 x.2.1) (fun x => Ek3 k x.1 x.2.1), (Fc5).2⟩
theorem Ff7 (k : Nat) : Ok Tryz.prog (Ca6 k) := D0 (F5) (F4) (O5) (A6 (Dn9) (A6 (D88) (F3))) (B7 (E99) (C0)) (A8 (Y7 k) (C9)) (I8 (Dg1 k) (I8 (Cw0 k) (B9)))
theorem Ff8 (k : Nat) : O4 (Ca6 k) := O1 (B7 (E99) (C0))
theorem Dg2 (k : Nat) : SG 103 (Bx0 k) := ⟨A1 (Ff7 k) mixed (Ff8 k) (d := k) [.str, .str] [(.int .i64), (.int .i64), .bool] [] (fun x => At9 k x.1 x.2.1) (fun x => E71 k x.1 x.2.1), (E99).2⟩
theorem Es0 (k : Nat) : Ok Tryz.prog (Av1 k) := D0 (F5) (F4) (O5) (A6 (K7) (A6 (Ad8) (F3))) (B7 (Fe7) (C0)) (A8 (L2 k) (C9)) (B9)
theorem Es1 (k : Nat) : O4 (Av1 k) := O1 (B7 (Fe7) (C0))
theorem Es2 (k : Nat) : SG 180 (Cg4 k) := ⟨A1 (Es0 k) mixed (Es1 k) (d := k) [(.slice 3 (.int .i64)), (.int .i64), (.int .i64)] [.bool] [] (fun x => B30 k x.1 x.2.1 x.2.2.1) (fun x => Ek5 k x.1 x.2.1 x.2.2.1), (Fe7).2⟩
theorem Ff9 (k : Nat) : Ok Tryz.prog (Ca7 k) := D0 (F5) (F4) (O5) (A6 (Ad8) (F3)) (B7 (Fd8) (C0)) (A8 (L2 k) (A8 (Es2 k) (C9))) (B9)
theorem Fg0 (k : Nat) : O4 (Ca7 k) := O1 (B7 (Fd8) (C0))
theorem Dg3 (k : Nat) : SG 159 (Bx1 k) := ⟨A1 (Ff9 k) mixed (Fg0 k) (d := k) [(.slice 3 (.int .i64))] [.bool] [] (fun x => Au0 k x.1) (fun x => E72 k x.1), (Fd8).2⟩
theorem D89 (k : Nat) : Ok Tryz.prog (Am0 k) := D0 (F5) (F4) (O5) (A6 (K7) (A6 (Bh3) (A6 (P7) (A6 (Ad8) (F3))))) (B7 (Fb6) (C0)) (A8 (Dg3 k) (C9)) (B9)
theorem D90 (k : Nat) : O4 (Am0 k) := O1 (B7 (Fb6) (C0))
theorem D91 (k : Nat) : SG 128 (B67 k) := ⟨A1 (D89 k) mixed (D90 k) (d := k) [.str] [(.slice 3 (.int .i64)), .bool] [.o] (fun x => A40 k x.1) (fun x => D52 k x.1), (Fb6).2⟩
theorem Es3 (k : Nat) : Ok Tryz.prog (Bx2 k) := D0 (F5) (F4) (O5) (A6 (K7) (A6 (P7) (A6 (Ad9) (F3)))) (B7 (Fc6) (C0)) (A8 (L2 k) (A8 (D91 k) (C9))) (B9)
theorem Es4 (k : Nat) : O4 (Bx2 k) := O1 (B7 (Fc6) (C0))
theorem Cw1 (k : Nat) : SG 141 (Bm4 k) := ⟨A1 (Es3 k) mixed (Es4 k) (d := k) [C2] [.bool] [] (fun x => A22 k x.1) (fun x => Ek6 k x.1), (Fc6).2⟩
theorem Ft2 (k : Nat) : Ok Tryz.prog (Bg2 k) := D0 (F5) (F4) (O5) (A6 (K7) (A6 (Af9) (A6 (T1) (A6 (Ad9) (F3))))) (B7 (Fa0) (C0)) (A8 (L2 k) (A8 (Cw1 k) (C9))) (B9)
theorem Ft3 (k : Nat) : O4 (Bg2 k) := O1 (B7 (Fa0) (C0))
theorem B45 (k : Nat) : SG 104 (A60 k) := ⟨A1 (Ft2 k) mixed (Ft3 k) (d := k) [E9] [.bool] [] (fun x => Az8 k x.1) (fun x => Fr4 k x.1), (Fa0).2⟩
theorem Do3 (k : Nat) : Ok Tryz.prog (Bb3 k) := D0 (F5) (F4) (O5) (A6 (K7) (A6 (Bh3) (A6 (P7) (A6 (Az0) (A6 (Ad9) (F3)))))) (B7 (Fa6) (C0)) (A8 (L2 k) (A8 (Y7 k) (A8 (Cw1 k) (C9)))) (B9)
theorem Do4 (k : Nat) : O4 (Bb3 k) := O1 (B7 (Fa6) (C0))
theorem B78 (k : Nat) : SG 110 (A61 k) := ⟨A1 (Do3 k) mixed (Do4 k) (d := k) [(.int .i64), C2] [.str, .bool] [] (fun x => i8 k x.1 x.2.1) (fun x => Dk1 k x.1 x.2.1), (Fa6).2⟩
theorem Do5 (k : Nat) : Ok Tryz.prog (Bb4 k) := D0 (F5) (F4) (O5) (A6 (K7) (A6 (Dn9) (A6 (Bh3) (A6 (P7) (A6 (Ad9) (A6 (D88) (F3))))))) (B7 (Fc7) (C0)) (A8 (B78 k) (C9)) (I8 (Dg1 k) (I8 (Cw0 k) (B9)))
theorem Do6 (k : Nat) : O4 (Bb4 k) := O1 (B7 (Fc7) (C0))
theorem Do7 (k : Nat) : SG 142 (Bx4 k) := ⟨A1 (Do5 k) mixed (Do6 k) (d := k) [.str] [(.int .i64), C2, .bool] [] (fun x => Au1 k x.1) (fun x => Dk2 k x.1), (Fc7).2⟩
theorem Es5 (k : Nat) : Ok Tryz.prog (Bx5 k) := D0 (F5) (F4) (O5) (A6 (K7) (A6 (Af9) (A6 (T1) (F3)))) (B7 (Fe1) (C0)) (C9) (B9)
theorem Es6 (k : Nat) : O4 (Bx5 k) := O1 (B7 (Fe1) (C0))
theorem B11 (k : Nat) : SG 162 (A07 k) := ⟨A1 (Es5 k) mixed (Es6 k) (d := k) [E9] [(.int .i64)] [] (fun x => Ab1 k x.1) (fun x => Ek7 k x.1), (Fe1).2⟩
theorem Fg1 (k : Nat) : Ok Tryz.prog (Ca8 k) := D0 (F5) (F4) (O5) (A6 (K7) (A6 (Af9) (A6 (T1) (A6 (Ad9) (F3))))) (B7 (Fc8) (C0)) (A8 (L2 k) (A8 (B45 k) (A8 (B11 k) (C9)))) (B9)
theorem Fg2 (k : Nat) : O4 (Ca8 k) := O1 (B7 (Fc8) (C0))
theorem Fg3 (k : Nat) : SG 143 (Cu1 k) := ⟨A1 (Fg1 k) mixed (Fg2 k) (d := k) [E9, (.int .i64), C2] [E9, .bool] [.o] (fun x => Bu0 k x.1 x.2.1 x.2.2.1) (fun x => E74 k x.1 x.2.1 x.2.2.1), (Fc8).2⟩
theorem Es7 (k : Nat) : Ok Tryz.prog (Bx6 k) := D0 (F5) (F4) (O5) (A6 (K7) (A6 (T1) (A6 (Ag0) (A6 (Ad9) (F3))))) (B7 (Fa1) (C0)) (A8 (L2 k) (A8 (Dg2 k) (A8 (Do7 k) (A8 (Fg3 k) (C9))))) (B9)
theorem Es8 (k : Nat) : O4 (Bx6 k) := O1 (B7 (Fa1) (C0))
theorem Es9 (k : Nat) : i7 Tryz.prog 105 (Cg6 k) ∧ O2 Tryz.prog 105 := ⟨K9 (Es7 k) mixed (Es8 k) (d := k) [.box A5, .imm .str] [.bool] [] (fun x => Ab2 k x.1 x.2.1) (fun x => Ek8 k x.1 x.2.1), (Fa1).2⟩
theorem C12 (k : Nat) : Ok Tryz.prog (X2 k) := D0 (F5) (F4) (O5) (A6 (P7) (A6 (T1) (A6 (Ag0) (A6 (Fl5) (F3))))) (B7 (F61) (C0)) (A8 (L2 k) (A8 (Er7 k) (A8 (Dg2 k) (A8 (B45 k) (A8 (Bh5 k) (C9)))))) (I8 (Es9 k) (B9))
theorem C13 (k : Nat) : O4 (X2 k) := O1 (B7 (F61) (C0))
theorem C14 (k : Nat) : SG 52 (Bg3 k) := ⟨A1 (C12 k) mixed (C13 k) (d := k) [(.int .i64), .str] [A5, (.int .i64), .bool] [.s] (fun x => p7 k x.1 x.2.1) (fun x => Cx8 k x.1 x.2.1), (F61).2⟩
theorem Et0 (k : Nat) : Ok Tryz.prog (Bx7 k) := D0 (F5) (F4) (O5) (A6 (P7) (F3)) (B7 (Fa3) (C0)) (A8 (L2 k) (C9)) (B9)
theorem Et1 (k : Nat) : O4 (Bx7 k) := O1 (B7 (Fa3) (C0))
theorem Cw2 (k : Nat) : SG 107 (Bm5 k) := ⟨A1 (Et0 k) mixed (Et1 k) (d := k) [.str] [.bool] [] (fun x => T3 k x.1) (fun x => Ek9 k x.1), (Fa3).2⟩
theorem Fg4 (k : Nat) : Ok Tryz.prog (A62 k) := D0 (F5) (F4) (O5) (A6 (K7) (A6 (P7) (A6 (Bh4) (A6 (Ap8) (A6 (Bq5) (F3)))))) (B7 (F62) (C0)) (A8 (L2 k) (A8 (Cw2 k) (C9))) (B9)
theorem Fg5 (k : Nat) : O4 (A62 k) := O1 (B7 (F62) (C0))
theorem Cb4 (k : Nat) : SG 53 (A98 k) := ⟨A1 (Fg4 k) mixed (Fg5 k) (d := k) [D9] [.bool] [] (fun x => F9 k x.1) (fun x => E76 k x.1), (F62).2⟩
theorem Do8 (k : Nat) : Ok Tryz.prog (Bb5 k) := D0 (F5) (F4) (O5) (A6 (K7) (A6 (T1) (A6 (Ag0) (F3)))) (B7 (F63) (C0)) (A8 (L2 k) (A8 (B45 k) (C9))) (B9)
theorem Do9 (k : Nat) : O4 (Bb5 k) := O1 (B7 (F63) (C0))
theorem B79 (k : Nat) : SG 54 (A63 k) := ⟨A1 (Do8 k) mixed (Do9 k) (d := k) [A5] [.bool] [] (fun x => x9 k x.1) (fun x => Dk6 k x.1), (F63).2⟩
theorem Et2 (k : Nat) : Ok Tryz.prog (Av3 k) := D0 (F5) (F4) (eq1 (Dg0) (O5)) (A6 (K7) (A6 (Af9) (A6 (T1) (A6 (Ad9) (F3))))) (B7 (Fa4) (C0)) (C9) (B9)
theorem Et3 (k : Nat) : O4 (Av3 k) := O1 (B7 (Fa4) (C0))
theorem Et4 (k : Nat) : SG 108 (Cg7 k) := ⟨A1 (Et2 k) mixed (Et3 k) (d := k) [E9, E9] [.bool] [] (fun x => Be6 k x.1 x.2.1) (fun x => El2 k x.1 x.2.1), (Fa4).2⟩
theorem Et5 (k : Nat) : Ok Tryz.prog (Bx8 k) := D0 (F5) (F4) (O5) (A6 (K7) (A6 (T1) (A6 (Ag0) (F3)))) (B7 (F65) (C0)) (A8 (Et4 k) (C9)) (B9)
theorem Et6 (k : Nat) : O4 (Bx8 k) := O1 (B7 (F65) (C0))
theorem Et7 (k : Nat) : SG 56 (Cg8 k) := ⟨A1 (Et5 k) mixed (Et6 k) (d := k) [A5, A5] [.bool] [] (fun x => A23 k x.1 x.2.1) (fun x => El3 k x.1 x.2.1), (F65).2⟩
theorem Et8 (k : Nat) : Ok Tryz.prog (Bx9 k) := D0 (F5) (F4) (O5) (A6 (Af9) (A6 (T1) (A6 (Ag0) (F3)))) (B7 (F66) (C0)) (C9) (B9)
theorem Et9 (k : Nat) : O4 (Bx9 k) := O1 (B7 (F66) (C0))
theorem B12 (k : Nat) : SG 57 (A08 k) := ⟨A1 (Et8 k) mixed (Et9 k) (d := k) [A5] [A5] [.o] (fun x => Ai1 k x.1) (fun x => El4 k x.1), (F66).2⟩
theorem Eu0 (k : Nat) : Ok Tryz.prog (By0 k) := D0 (F5) (F4) (O5) (F3) (B7 (F68) (C0)) (A8 (Bh5 k) (A8 (Y7 k) (C9))) (B9)
theorem Eu1 (k : Nat) : O4 (By0 k) := O1 (B7 (F68) (C0))
theorem Cw3 (k : Nat) : SG 59 (Bm7 k) := ⟨A1 (Eu0 k) mixed (Eu1 k) (d := k) [(.int .i64), (.int .i64)] [.str] [] (fun x => L9 k x.1 x.2.1) (fun x => El5 k x.1 x.2.1), (F68).2⟩
theorem Dp0 (k : Nat) : Ok Tryz.prog (Af3 k) := D0 (F5) (F4) (O5) (A6 (K7) (A6 (P7) (A6 (Az0) (A6 (Af9) (A6 (T1) (A6 (Ad9) (F3))))))) (B7 (F69) (C0)) (A8 (Bh5 k) (A8 (B78 k) (C9))) (B9)
theorem Dp1 (k : Nat) : O4 (Af3 k) := O1 (B7 (F69) (C0))
theorem B80 (k : Nat) : SG 60 (A64 k) := ⟨A1 (Dp0 k) mixed (Dp1 k) (d := k) [E9, (.int .i64)] [.str] [] (fun x => F6 k x.1 x.2.1) (fun x => Dl1 k x.1 x.2.1), (F69).2⟩
theorem C15 (k : Nat) : Ok Tryz.prog (Ax7 k) := D0 (F5) (F4) (O5) (A6 (K7) (A6 (P7) (A6 (T1) (A6 (Ag0) (F3))))) (B7 (F80) (C0)) (A8 (B79 k) (A8 (Cw3 k) (A8 (B80 k) (A8 (Bh5 k) (A8 (Y7 k) (C9)))))) (B9)
theorem C16 (k : Nat) : O4 (Ax7 k) := O1 (B7 (F80) (C0))
theorem Bq6 (k : Nat) : SG 84 (Ar4 k) := ⟨A1 (C15 k) mixed (C16 k) (d := k) [A5] [.str, .bool] [] (fun x => p8 k x.1) (fun x => Cy0 k x.1), (F80).2⟩
theorem Eu2 (k : Nat) : Ok Tryz.prog (By1 k) := D0 (F5) (F4) (O5) (A6 (K7) (A6 (T1) (A6 (Ag0) (A6 (Df7) (A6 (Df8) (F3)))))) (B7 (F67) (C0)) (A8 (Ay8 k) (A8 (B12 k) (A8 (Bq6 k) (C9)))) (B9)
theorem Eu3 (k : Nat) : O4 (By1 k) := O1 (B7 (F67) (C0))
theorem Eu4 (k : Nat) : SG 58 (Ch0 k) := ⟨A1 (Eu2 k) mixed (Eu3 k) (d := k) [A5, A5] [(.slice 93 b7), A5, .bool] [.o, .o] (fun x => H4 k x.1 x.2.1) (fun x => El6 k x.1 x.2.1), (F67).2⟩
theorem C17 (k : Nat) : Ok Tryz.prog (n8 k) := D0 (F5) (F4) (eq1 (Dg0) (O5)) (A6 (K7) (A6 (P7) (A6 (Ap8) (A6 (Af9) (A6 (T1) (A6 (Ag0) (A6 (Df7) (A6 (Ad9) (A6 (Df8) (F3)))))))))) (B7 (F37) (C0)) (A8 (Ay8 k) (A8 (Ff2 k) (A8 (C14 k) (A8 (Cb4 k) (A8 (B79 k) (A8 (L2 k) (A8 (Et7 k) (A8 (B12 k) (A8 (Eu4 k) (A8 (Cw3 k) (A8 (B80 k) (C9)))))))))))) (B9)
theorem C18 (k : Nat) : O4 (n8 k) := O1 (B7 (F37) (C0))
theorem Bq7 (k : Nat) : SG 14 (Ar5 k) := ⟨A1 (C17 k) mixed (C18 k) (d := k) [D9, A5, A5] [(.slice 93 b7), A5, .bool] [.o, .o] (fun x => U9 k x.1 x.2.1 x.2.2.1) (fun x => Cy2 k x.1 x.2.1 x.2.2.1), (F37).2⟩
theorem Fg6 (k : Nat) : Ok Tryz.prog (Ar6 k) := D0 (F5) (F4) (O5) (A6 (P7) (A6 (Bh4) (A6 (Ap8) (A6 (Bq5) (F3))))) (B7 (F76) (C0)) (C9) (B9)
theorem Fg7 (k : Nat) : O4 (Ar6 k) := O1 (B7 (F76) (C0))
theorem Fg8 (k : Nat) : SG 72 (Cu3 k) := ⟨A1 (Fg6 k) mixed (Fg7 k) (d := k) [D9, J0] [D9] [.o] (fun x => I3 k x.1 x.2.1) (fun x => E78 k x.1 x.2.1), (F76).2⟩
theorem Dg4 (k : Nat) : Ok Tryz.prog (Aa5 k) := D0 (F5) (F4) (O5) (A6 (P7) (A6 (Bh4) (A6 (Ap8) (A6 (Bq5) (F3))))) (B7 (Fa7) (C0)) (C9) (B9)
theorem Dg5 (k : Nat) : O4 (Aa5 k) := O1 (B7 (Fa7) (C0))
theorem Dg6 (k : Nat) : SG 111 (Bp6 k) := ⟨A1 (Dg4 k) mixed (Dg5 k) (d := k) [D9, .str] [D9] [.o] (fun x => G7 k x.1 x.2.1) (fun x => Dd2 k x.1 x.2.1), (Fa7).2⟩
theorem Ft4 (k : Nat) : Ok Tryz.prog (Cn4 k) := D0 (F5) (F4) (O5) (A6 (K7) (A6 (P7) (A6 (Bh4) (A6 (Ap8) (A6 (Df8) (A6 (Bq5) (F3))))))) (B7 (F70) (C0)) (A8 (Cb4 k) (A8 (Fg8 k) (A8 (Dx6 k) (A8 (Cw2 k) (A8 (Dg6 k) (C9)))))) (B9)
theorem Ft5 (k : Nat) : O4 (Cn4 k) := O1 (B7 (F70) (C0))
theorem Ft6 (k : Nat) : SG 61 (Dd3 k) := ⟨A1 (Ft4 k) mixed (Ft5 k) (d := k) [D9, b7] [D9, .bool] [.o] (fun x => Z0 k x.1 x.2.1) (fun x => Fr5 k x.1 x.2.1), (F70).2⟩
theorem Fg9 (k : Nat) : Ok Tryz.prog (A65 k) := D0 (F5) (F4) (O5) (A6 (Bh4) (A6 (Ap8) (A6 (Df7) (A6 (Df8) (F3))))) (B7 (F38) (C0)) (A8 (Ft6 k) (C9)) (B9)
theorem Fh0 (k : Nat) : O4 (A65 k) := O1 (B7 (F38) (C0))
theorem Dg7 (k : Nat) : SG 15 (By3 k) := ⟨A1 (Fg9 k) mixed (Fh0 k) (d := k) [D9, (.slice 93 b7)] [D9, (.int .i64)] [.o] (fun x => A41 k x.1 x.2.1) (fun x => E80 k x.1 x.2.1), (F38).2⟩
theorem Eu5 (k : Nat) : Ok Tryz.prog (By4 k) := D0 (F5) (F4) (O5) (A6 (K7) (A6 (Bh3) (A6 (Az0) (A6 (F31) (F3))))) (B7 (F73) (C0)) (C9) (B9)
theorem Eu6 (k : Nat) : O4 (By4 k) := O1 (B7 (F73) (C0))
theorem Eu7 (k : Nat) : i7 Tryz.prog 64 (Ch1 k) ∧ O2 Tryz.prog 64 := ⟨K9 (Eu5 k) mixed (Eu6 k) (d := k) [.box B6] [(.int .i64)] [] (fun x => Ab4 k x.1) (fun x => Em1 k x.1), (F73).2⟩
theorem D92 (k : Nat) : Ok Tryz.prog (Bm9 k) := D0 (F5) (F4) (O5) (F3) (B7 (F74) (C0)) (C9) (I8 (Eu7 k) (B9))
theorem D93 (k : Nat) : O4 (Bm9 k) := O1 (B7 (F74) (C0))
theorem S6 (k : Nat) : i7 Tryz.prog 65 (N3 k) ∧ O2 Tryz.prog 65 := ⟨K9 (D92 k) mixed (D93 k) (d := k) [.box B6, .imm (.int .i64)] [(.int .i64)] [] (fun x => C5 k x.1 x.2.1) (fun x => D55 k x.1 x.2.1), (F74).2⟩
theorem Eu8 (k : Nat) : Ok Tryz.prog (By5 k) := D0 (F5) (F4) (O5) (A6 (K7) (A6 (Af9) (A6 (T1) (A6 (Ad9) (F3))))) (B7 (F82) (C0)) (C9) (B9)
theorem Eu9 (k : Nat) : O4 (By5 k) := O1 (B7 (F82) (C0))
theorem Cw4 (k : Nat) : SG 86 (Bn0 k) := ⟨A1 (Eu8 k) mixed (Eu9 k) (d := k) [E9] [(.int .i64), (.int .i64)] [] (fun x => Ai3 k x.1) (fun x => Em2 k x.1), (F82).2⟩
theorem Ev0 (k : Nat) : Ok Tryz.prog (By6 k) := D0 (F5) (F4) (O5) (F3) (B7 (F84) (C0)) (C9) (I8 (S6 k) (B9))
theorem Ev1 (k : Nat) : O4 (By6 k) := O1 (B7 (F84) (C0))
theorem Aj5 (k : Nat) : i7 Tryz.prog 88 (n4 k) ∧ O2 Tryz.prog 88 := ⟨K9 (Ev0 k) mixed (Ev1 k) (d := k) [.box B6, .imm (.int .i64)] [.bool] [] (fun x => P2 k x.1 x.2.1) (fun x => Em3 k x.1 x.2.1), (F84).2⟩
theorem Ev2 (k : Nat) : Ok Tryz.prog (Av6 k) := D0 (F5) (F4) (O5) (A6 (Ad8) (F3)) (B7 (F75) (C0)) (C9) (I8 (Aj5 k) (B9))
theorem Ev3 (k : Nat) : O4 (Av6 k) := O1 (B7 (F75) (C0))
theorem Ev4 (k : Nat) : i7 Tryz.prog 70 (Ch2 k) ∧ O2 Tryz.prog 70 := ⟨K9 (Ev2 k) mixed (Ev3 k) (d := k) [.box B6] [(.slice 3 (.int .i64))] [.o] (fun x => Be7 k x.1) (fun x => Em5 k x.1), (F75).2⟩
theorem D94 (k : Nat) : Ok Tryz.prog (Am4 k) := D0 (F5) (F4) (O5) (A6 (K7) (A6 (Bh3) (A6 (P7) (A6 (Az0) (A6 (Ad8) (F3)))))) (B7 (Fb3) (C0)) (A8 (Dg3 k) (C9)) (B9)
theorem D95 (k : Nat) : O4 (Am4 k) := O1 (B7 (Fb3) (C0))
theorem D96 (k : Nat) : SG 121 (B69 k) := ⟨A1 (D94 k) mixed (D95 k) (d := k) [(.slice 3 (.int .i64))] [.str, .bool] [] (fun x => A42 k x.1) (fun x => D58 k x.1), (Fb3).2⟩
theorem Dg8 (k : Nat) : Ok Tryz.prog (A67 k) := D0 (F5) (F4) (O5) (A6 (K7) (A6 (Ad8) (F3))) (B7 (Fd6) (C0)) (C9) (I8 (S6 k) (B9))
theorem Dg9 (k : Nat) : O4 (A67 k) := O1 (B7 (Fd6) (C0))
theorem B13 (k : Nat) : i7 Tryz.prog 157 (Ax8 k) ∧ O2 Tryz.prog 157 := ⟨K9 (Dg8 k) mixed (Dg9 k) (d := k) [.box B6, .imm (.slice 3 (.int .i64))] [(.int .i64)] [] (fun x => Ab5 k x.1 x.2.1) (fun x => Dd6 k x.1 x.2.1), (Fd6).2⟩
theorem D97 (k : Nat) : Ok Tryz.prog (Bn1 k) := D0 (F5) (F4) (O5) (A6 (P7) (F3)) (B7 (Fa9) (C0)) (A8 (Y7 k) (C9)) (B9)
theorem D98 (k : Nat) : O4 (Bn1 k) := O1 (B7 (Fa9) (C0))
theorem Cj6 (k : Nat) : SG 116 (Bb8 k) := ⟨A1 (D97 k) mixed (D98 k) (d := k) [.str] [.str] [] (fun x => Ag9 k x.1) (fun x => D59 k x.1), (Fa9).2⟩
theorem Dp2 (k : Nat) : Ok Tryz.prog (Af5 k) := D0 (F5) (F4) (O5) (A6 (K7) (A6 (Ad8) (F3))) (B7 (Fe9) (C0)) (A8 (L2 k) (C9)) (B9)
theorem Dp3 (k : Nat) : O4 (Af5 k) := O1 (B7 (Fe9) (C0))
theorem Dp4 (k : Nat) : SG 195 (By7 k) := ⟨A1 (Dp2 k) mixed (Dp3 k) (d := k) [(.slice 3 (.int .i64))] [.bool] [] (fun x => X7 k x.1) (fun x => Dl8 k x.1), (Fe9).2⟩
theorem Ev5 (k : Nat) : Ok Tryz.prog (By8 k) := D0 (F5) (F4) (O5) (A6 (K7) (A6 (P7) (A6 (Ad8) (A6 (Bd4) (F3))))) (B7 (Fe4) (C0)) (A8 (L2 k) (A8 (Dp4 k) (C9))) (B9)
theorem Ev6 (k : Nat) : O4 (By8 k) := O1 (B7 (Fe4) (C0))
theorem Cw5 (k : Nat) : SG 170 (Bn2 k) := ⟨A1 (Ev5 k) mixed (Ev6 k) (d := k) [H1] [.bool] [] (fun x => W9 k x.1) (fun x => Em6 k x.1), (Fe4).2⟩
theorem Ev7 (k : Nat) : Ok Tryz.prog (Av7 k) := D0 (F5) (F4) (O5) (A6 (K7) (A6 (Dn9) (A6 (Ad8) (A6 (Bd4) (F3))))) (B7 (Fd3) (C0)) (A8 (L2 k) (A8 (Cw5 k) (C9))) (B9)
theorem Ev8 (k : Nat) : O4 (Av7 k) := O1 (B7 (Fd3) (C0))
theorem B14 (k : Nat) : SG 152 (A10 k) := ⟨A1 (Ev7 k) mixed (Ev8 k) (d := k) [H1] [.bool] [] (fun x => M9 k x.1) (fun x => Em8 k x.1), (Fd3).2⟩
theorem Ev9 (k : Nat) : Ok Tryz.prog (By9 k) := D0 (F5) (F4) (O5) (A6 (K7) (A6 (Bh3) (A6 (P7) (A6 (Az0) (F3))))) (B7 (Fe5) (C0)) (C9) (B9)
theorem Ew0 (k : Nat) : O4 (By9 k) := O1 (B7 (Fe5) (C0))
theorem Cw6 (k : Nat) : SG 171 (Bn3 k) := ⟨A1 (Ev9 k) mixed (Ew0 k) (d := k) [(.int .i64)] [.str] [] (fun x => X0 k x.1) (fun x => Em9 k x.1), (Fe5).2⟩
theorem C19 (k : Nat) : Ok Tryz.prog (o0 k) := D0 (F5) (F4) (O5) (A6 (K7) (A6 (P7) (A6 (Ad8) (A6 (Bd4) (F3))))) (B7 (Fd4) (C0)) (A8 (Y7 k) (A8 (Cj6 k) (A8 (Cw6 k) (C9)))) (B9)
theorem C20 (k : Nat) : O4 (o0 k) := O1 (B7 (Fd4) (C0))
theorem Bq8 (k : Nat) : SG 153 (Ar8 k) := ⟨A1 (C19 k) mixed (C20 k) (d := k) [H1] [.str] [] (fun x => Y3 k x.1) (fun x => Cy5 k x.1), (Fd4).2⟩
theorem Dp5 (k : Nat) : Ok Tryz.prog (Af6 k) := D0 (F5) (F4) (O5) (A6 (K7) (A6 (Ad8) (A6 (Bd4) (F3)))) (B7 (Fb0) (C0)) (A8 (Y7 k) (A8 (B14 k) (A8 (Bq8 k) (C9)))) (B9)
theorem Dp6 (k : Nat) : O4 (Af6 k) := O1 (B7 (Fb0) (C0))
theorem Dp7 (k : Nat) : SG 117 (Bz0 k) := ⟨A1 (Dp5 k) mixed (Dp6 k) (d := k) [H1] [.str, .bool] [] (fun x => Au2 k x.1) (fun x => Dm2 k x.1), (Fb0).2⟩
theorem C21 (k : Nat) : Ok Tryz.prog (o5 k) := D0 (F5) (F4) (O5) (A6 (K7) (A6 (Ad8) (F3))) (B7 (Fd2) (C0)) (C9) (B9)
theorem C22 (k : Nat) : O4 (o5 k) := O1 (B7 (Fd2) (C0))
theorem C23 (k : Nat) : SG 151 (Bg4 k) := ⟨A1 (C21 k) mixed (C22 k) (d := k) [(.slice 3 (.int .i64)), (.slice 3 (.int .i64))] [.bool] [] (fun x => R8 k x.1 x.2.1) (fun x => Cy7 k x.1 x.2.1), (Fd2).2⟩
theorem Ew1 (k : Nat) : Ok Tryz.prog (Bz1 k) := D0 (F5) (F4) (O5) (A6 (K7) (A6 (P7) (A6 (Ad8) (A6 (Bd4) (F3))))) (B7 (Fe8) (C0)) (A8 (C23 k) (C9)) (B9)
theorem Ew2 (k : Nat) : O4 (Bz1 k) := O1 (B7 (Fe8) (C0))
theorem Ew3 (k : Nat) : SG 193 (Ch4 k) := ⟨A1 (Ew1 k) mixed (Ew2 k) (d := k) [H1, H1] [.bool] [] (fun x => A24 k x.1 x.2.1) (fun x => En0 k x.1 x.2.1), (Fe8).2⟩
theorem D99 (k : Nat) : Ok Tryz.prog (Bn4 k) := D0 (F5) (F4) (O5) (A6 (Bd4) (F3)) (B7 (Fe6) (C0)) (A8 (Ew3 k) (C9)) (B9)
theorem Ea0 (k : Nat) : O4 (Bn4 k) := O1 (B7 (Fe6) (C0))
theorem Ea1 (k : Nat) : SG 172 (B72 k) := ⟨A1 (D99 k) mixed (Ea0 k) (d := k) [H1] [.bool] [] (fun x => Aq1 k x.1) (fun x => D61 k x.1), (Fe6).2⟩
theorem Dp8 (k : Nat) : Ok Tryz.prog (Bc0 k) := D0 (F5) (F4) (O5) (A6 (K7) (A6 (Ad8) (A6 (Bd4) (A6 (D87) (F3))))) (B7 (Fd5) (C0)) (A8 (L2 k) (A8 (B14 k) (A8 (Cw5 k) (A8 (Ea1 k) (C9))))) (B9)
theorem Dp9 (k : Nat) : O4 (Bc0 k) := O1 (B7 (Fd5) (C0))
theorem Dq0 (k : Nat) : SG 154 (Bz2 k) := ⟨A1 (Dp8 k) mixed (Dp9 k) (d := k) [S9] [.bool] [] (fun x => Ai4 k x.1) (fun x => Dm4 k x.1), (Fd5).2⟩
theorem C24 (k : Nat) : Ok Tryz.prog (Ay1 k) := D0 (F5) (F4) (O5) (A6 (K7) (A6 (Bd4) (A6 (D87) (F3)))) (B7 (Fd9) (C0)) (A8 (Y7 k) (A8 (Cj6 k) (A8 (Dp7 k) (A8 (Bq8 k) (A8 (Dq0 k) (A8 (Cw6 k) (C9))))))) (B9)
theorem C25 (k : Nat) : O4 (Ay1 k) := O1 (B7 (Fd9) (C0))
theorem C26 (k : Nat) : SG 160 (Bg5 k) := ⟨A1 (C24 k) mixed (C25 k) (d := k) [S9] [.str, .bool] [] (fun x => p9 k x.1) (fun x => Cy9 k x.1), (Fd9).2⟩
theorem Ew4 (k : Nat) : Ok Tryz.prog (Av8 k) := D0 (F5) (F4) (O5) (A6 (Gk2) (A6 (E95) (A6 (Gk3) (F3)))) (B7 (Fb1) (C0)) (C9) (B9)
theorem Ew5 (k : Nat) : O4 (Av8 k) := O1 (B7 (Fb1) (C0))
theorem Ew6 (k : Nat) : SG 118 (Ch6 k) := ⟨A1 (Ew4 k) mixed (Ew5 k) (d := k) [] [A55] [.o, .o, .o, .o, .o] (fun x => Be8 k) (fun x => En2 k), (Fb1).2⟩
theorem Dq1 (k : Nat) : i7 Tryz.prog 175 (Bz3 k) ∧ O2 Tryz.prog 175 := ⟨E38 [.box B6] [H1] [.o, .o] (fun x => A89 k x.1) (fun x => rfl), (Gl0).2⟩
theorem Fh1 (k : Nat) : SG 176 (Cu7 k) := ⟨As6 [Ap6] [(.slice 3 (.int .i64))] [.o] (fun x => C92 k x.1) (fun x => rfl), (Gl1).2⟩
theorem Ew7 (k : Nat) : SG 177 (Ch7 k) := ⟨As6 [Ap6, (.slice 3 (.int .i64))] [(.int .i64)] [] (fun x => A25 k x.1 x.2.1) (fun x => rfl), (Gl2).2⟩
theorem Dq2 (k : Nat) : SG 178 (Bz4 k) := ⟨As6 [Ap6, (.slice 3 (.int .i64))] [(.slice 260 Cf8), .bool] [.o] (fun x => Ai5 k x.1 x.2.1) (fun x => rfl), (Gl3).2⟩
theorem Ew8 (k : Nat) : SG 179 (Ch8 k) := ⟨As6 [(.slice 162 H1), (.slice 260 Cf8), H1] [.bool] [] (fun x => Cl2 k x.1 x.2.1 x.2.2.1) (fun x => rfl), (Gl4).2⟩
theorem Ew9 (k : Nat) : Ok Tryz.prog (Aj2 k) := D0 (F5) (F4) (O5) (A6 (K7) (A6 (Ad8) (A6 (Gk1) (A6 (F30) (A6 (Bd4) (F3)))))) (B7 (Fd7) (C0)) (A8 (Fh1 k) (A8 (Ew7 k) (A8 (Dq2 k) (A8 (Ew8 k) (C9))))) (I8 (S6 k) (I8 (Aj5 k) (I8 (Dq1 k) (B9))))
theorem Ex0 (k : Nat) : O4 (Aj2 k) := O1 (B7 (Fd7) (C0))
theorem Ex1 (k : Nat) : i7 Tryz.prog 158 (Ch9 k) ∧ O2 Tryz.prog 158 := ⟨K9 (Ew9 k) mixed (Ex0 k) (d := k) [.box B6, .imm Ap6, .imm (.int .i64)] [H1] [.o, .o] (fun x => N9 k x.1 x.2.1 x.2.2.1) (fun x => En4 k x.1 x.2.1 x.2.2.1), (Fd7).2⟩
theorem Dh0 (k : Nat) : Ok Tryz.prog (Aa8 k) := D0 (F5) (F4) (O5) (A6 (K7) (A6 (Ad8) (A6 (F29) (A6 (F30) (A6 (E95) (A6 (F32) (A6 (Bd4) (A6 (D87) (F3))))))))) (B7 (Fb2) (C0)) (A8 (B14 k) (C9)) (I8 (S6 k) (I8 (Aj5 k) (I8 (B13 k) (I8 (Ex1 k) (B9)))))
theorem Dh1 (k : Nat) : O4 (Aa8 k) := O1 (B7 (Fb2) (C0))
theorem Dh2 (k : Nat) : i7 Tryz.prog 120 (Bp9 k) ∧ O2 Tryz.prog 120 := ⟨K9 (Dh0 k) mixed (Dh1 k) (d := k) [.box B6, .imm A55] [S9] [.o, .o] (fun x => Ak8 k x.1 x.2.1) (fun x => De2 k x.1 x.2.1), (Fb2).2⟩
theorem Ea2 (k : Nat) : Ok Tryz.prog (Bn5 k) := D0 (F5) (F4) (O5) (A6 (F29) (A6 (E95) (A6 (F32) (A6 (D87) (F3))))) (B7 (Fe0) (C0)) (A8 (Ew6 k) (C9)) (I8 (S6 k) (I8 (Dh2 k) (B9)))
theorem Ea3 (k : Nat) : O4 (Bn5 k) := O1 (B7 (Fe0) (C0))
theorem Ea4 (k : Nat) : i7 Tryz.prog 161 (B73 k) ∧ O2 Tryz.prog 161 := ⟨K9 (Ea2 k) mixed (Ea3 k) (d := k) [.box B6] [S9] [.o, .o] (fun x => A43 k x.1) (fun x => D65 k x.1), (Fe0).2⟩
theorem Ea5 (k : Nat) : Ok Tryz.prog (Bn6 k) := D0 (F5) (F4) (O5) (A6 (K7) (A6 (P7) (A6 (Ad8) (A6 (Ad9) (F3))))) (B7 (Fb7) (C0)) (A8 (D96 k) (A8 (C26 k) (C9))) (I8 (Ev4 k) (I8 (B13 k) (I8 (Ea4 k) (B9))))
theorem Ea6 (k : Nat) : O4 (Bn6 k) := O1 (B7 (Fb7) (C0))
theorem Cj7 (k : Nat) : i7 Tryz.prog 130 (Bc2 k) ∧ O2 Tryz.prog 130 := ⟨K9 (Ea5 k) mixed (Ea6 k) (d := k) [.box B6, .imm (.int .i64)] [C2] [] (fun x => Ah0 k x.1 x.2.1) (fun x => D66 k x.1 x.2.1), (Fb7).2⟩
theorem Ex2 (k : Nat) : Ok Tryz.prog (Bz6 k) := D0 (F5) (F4) (O5) (A6 (K7) (A6 (Af9) (A6 (T1) (A6 (Ad9) (F3))))) (B7 (Fb9) (C0)) (A8 (B11 k) (C9)) (B9)
theorem Ex3 (k : Nat) : O4 (Bz6 k) := O1 (B7 (Fb9) (C0))
theorem Cw7 (k : Nat) : SG 132 (Bn7 k) := ⟨A1 (Ex2 k) mixed (Ex3 k) (d := k) [E9, (.int .i64)] [(.int .i64)] [] (fun x => Aq2 k x.1 x.2.1) (fun x => En5 k x.1 x.2.1), (Fb9).2⟩
theorem Dq3 (k : Nat) : Ok Tryz.prog (Bc3 k) := D0 (F5) (F4) (O5) (A6 (K7) (A6 (Af9) (A6 (T1) (F3)))) (B7 (Fb8) (C0)) (A8 (L2 k) (A8 (B45 k) (A8 (Cw7 k) (A8 (B11 k) (C9))))) (B9)
theorem Dq4 (k : Nat) : O4 (Bc3 k) := O1 (B7 (Fb8) (C0))
theorem Dq5 (k : Nat) : SG 131 (Bz7 k) := ⟨A1 (Dq3 k) mixed (Dq4 k) (d := k) [E9, (.int .i64), (.int .i64)] [E9] [.o] (fun x => Au3 k x.1 x.2.1 x.2.2.1) (fun x => Dm6 k x.1 x.2.1 x.2.2.1), (Fb8).2⟩
theorem Ex4 (k : Nat) : Ok Tryz.prog (Av9 k) := D0 (F5) (F4) (O5) (A6 (K7) (A6 (Af9) (A6 (T1) (F3)))) (B7 (F83) (C0)) (A8 (Cw4 k) (A8 (Dq5 k) (A8 (Cw7 k) (C9)))) (I8 (S6 k) (I8 (Aj5 k) (I8 (Cj7 k) (B9))))
theorem Ex5 (k : Nat) : O4 (Av9 k) := O1 (B7 (F83) (C0))
theorem Ex6 (k : Nat) : i7 Tryz.prog 87 (Ci0 k) ∧ O2 Tryz.prog 87 := ⟨K9 (Ex4 k) mixed (Ex5 k) (d := k) [.box B6, .imm E9] [E9] [.o] (fun x => Be9 k x.1 x.2.1) (fun x => En7 k x.1 x.2.1), (F83).2⟩
theorem Ex7 (k : Nat) : Ok Tryz.prog (Bz8 k) := D0 (F5) (F4) (O5) (A6 (K7) (A6 (T1) (A6 (Ag0) (F3)))) (B7 (F44) (C0)) (A8 (B12 k) (C9)) (I8 (S6 k) (I8 (Ex6 k) (I8 (Aj5 k) (B9))))
theorem Ex8 (k : Nat) : O4 (Bz8 k) := O1 (B7 (F44) (C0))
theorem Cw8 (k : Nat) : i7 Tryz.prog 35 (Bn8 k) ∧ O2 Tryz.prog 35 := ⟨K9 (Ex7 k) mixed (Ex8 k) (d := k) [.box B6, .imm A5] [A5] [.o] (fun x => Ab8 k x.1 x.2.1) (fun x => En8 k x.1 x.2.1), (F44).2⟩
theorem Ex9 (k : Nat) : Ok Tryz.prog (Aj3 k) := D0 (F5) (F4) (O5) (A6 (K7) (A6 (P7) (A6 (Bh4) (A6 (Ap8) (A6 (Ag0) (A6 (Bq5) (F3))))))) (B7 (F42) (C0)) (A8 (Bq7 k) (A8 (Dg7 k) (A8 (Ay8 k) (A8 (Bq6 k) (C9))))) (I8 (Cw8 k) (I8 (S6 k) (B9)))
theorem Ey0 (k : Nat) : O4 (Aj3 k) := O1 (B7 (F42) (C0))
theorem Ey1 (k : Nat) : i7 Tryz.prog 33 (Ci1 k) ∧ O2 Tryz.prog 33 := ⟨K9 (Ex9 k) mixed (Ey0 k) (d := k) [.box B6, .imm A5] [D9, A5] [.o, .s] (fun x => Ai6 k x.1 x.2.1) (fun x => Eo0 k x.1 x.2.1), (F42).2⟩
theorem Ea7 (k : Nat) : Ok Tryz.prog (An2 k) := D0 (F5) (F4) (O5) (A6 (K7) (A6 (Af9) (A6 (T1) (F3)))) (B7 (F81) (C0)) (C9) (I8 (S6 k) (I8 (Aj5 k) (I8 (Cj7 k) (B9))))
theorem Ea8 (k : Nat) : O4 (An2 k) := O1 (B7 (F81) (C0))
theorem Ea9 (k : Nat) : i7 Tryz.prog 85 (B74 k) ∧ O2 Tryz.prog 85 := ⟨K9 (Ea7 k) mixed (Ea8 k) (d := k) [.box B6] [E9] [.o] (fun x => A44 k x.1) (fun x => D71 k x.1), (F81).2⟩
theorem Eb0 (k : Nat) : Ok Tryz.prog (Bn9 k) := D0 (F5) (F4) (O5) (A6 (T1) (A6 (Ag0) (F3))) (B7 (F43) (C0)) (A8 (Cw4 k) (C9)) (I8 (S6 k) (I8 (Ea9 k) (B9)))
theorem Eb1 (k : Nat) : O4 (Bn9 k) := O1 (B7 (F43) (C0))
theorem Eb2 (k : Nat) : i7 Tryz.prog 34 (B75 k) ∧ O2 Tryz.prog 34 := ⟨K9 (Eb0 k) mixed (Eb1 k) (d := k) [.box B6] [A5] [.o] (fun x => Ah1 k x.1) (fun x => D72 k x.1), (F43).2⟩
theorem Br7 (k : Nat) : Ok Tryz.prog (P9 k) := D0 (F5) (F4) (O5) (A6 (K7) (A6 (Bh3) (A6 (Az0) (A6 (Ap8) (A6 (Ag0) (A6 (F31) (F3))))))) (B7 (Gk6) (B7 (Gh2) (C0))) (C9) (I8 (Ey1 k) (I8 (Eb2 k) (I8 (Cw8 k) (B9))))
theorem Br8 (k : Nat) : O4 (P9 k) := O1 (B7 (Gk6) (B7 (Gh2) (C0)))
theorem Br9 (k : Nat) : SG 8 (An3 k) := ⟨A1 (Br7 k) mixed (Br8 k) (d := k) [(.slice 5 (.int .u8))] [D9, A5, A5] [.o, .s, .o] (fun x => U0 k x.1) (fun x => Br5 k x.1), (Gk6).2⟩
theorem Fh2 (k : Nat) : Ok Tryz.prog (Ca9 k) := D0 (F5) (F4) (O5) (F3) (B7 (F48) (C0)) (C9) (B9)
theorem Fh3 (k : Nat) : O4 (Ca9 k) := O1 (B7 (F48) (C0))
theorem Q8 (k : Nat) : SG 39 (M8 k) := ⟨A1 (Fh2 k) mixed (Fh3 k) (d := k) [(.int .i64), (.int .i64), (.int .i64)] [.bool] [] (fun x => M5 k x.1 x.2.1 x.2.2.1) (fun x => E81 k x.1 x.2.1 x.2.2.1), (F48).2⟩
theorem Fh4 (k : Nat) : Ok Tryz.prog (A69 k) := D0 (F5) (F4) (O5) (A6 (K7) (A6 (Ad8) (F3))) (B7 (Fb4) (C0)) (A8 (Q8 k) (C9)) (B9)
theorem Fh5 (k : Nat) : O4 (A69 k) := O1 (B7 (Fb4) (C0))
theorem Fh6 (k : Nat) : SG 123 (Cv1 k) := ⟨A1 (Fh4 k) mixed (Fh5 k) (d := k) [(.slice 3 (.int .i64))] [.bool] [] (fun x => Bu6 k x.1) (fun x => E83 k x.1), (Fb4).2⟩
theorem Eb3 (k : Nat) : Ok Tryz.prog (An4 k) := D0 (F5) (F4) (O5) (A6 (K7) (A6 (Bh3) (A6 (P7) (A6 (Ad8) (F3))))) (B7 (F79) (C0)) (A8 (Fh6 k) (C9)) (B9)
theorem Eb4 (k : Nat) : O4 (An4 k) := O1 (B7 (F79) (C0))
theorem Eb5 (k : Nat) : SG 80 (B76 k) := ⟨A1 (Eb3 k) mixed (Eb4 k) (d := k) [.str] [(.slice 3 (.int .i64)), .bool] [.o] (fun x => A45 k x.1) (fun x => D75 k x.1), (F79).2⟩
theorem Ey2 (k : Nat) : Ok Tryz.prog (Bz9 k) := D0 (F5) (F4) (O5) (A6 (K7) (A6 (P7) (A6 (Ad9) (F3)))) (B7 (F93) (C0)) (A8 (Q8 k) (A8 (Eb5 k) (C9))) (B9)
theorem Ey3 (k : Nat) : O4 (Bz9 k) := O1 (B7 (F93) (C0))
theorem B15 (k : Nat) : SG 97 (A13 k) := ⟨A1 (Ey2 k) mixed (Ey3 k) (d := k) [C2] [.bool] [] (fun x => Ai7 k x.1) (fun x => Eo2 k x.1), (F93).2⟩
theorem Ft7 (k : Nat) : Ok Tryz.prog (Bg6 k) := D0 (F5) (F4) (O5) (A6 (K7) (A6 (Af9) (A6 (T1) (A6 (Ad9) (F3))))) (B7 (F52) (C0)) (A8 (Q8 k) (A8 (B15 k) (C9))) (B9)
theorem Ft8 (k : Nat) : O4 (Bg6 k) := O1 (B7 (F52) (C0))
theorem Dx7 (k : Nat) : SG 43 (Cb0 k) := ⟨A1 (Ft7 k) mixed (Ft8 k) (d := k) [E9] [.bool] [] (fun x => A91 k x.1) (fun x => Fr7 k x.1), (F52).2⟩
theorem Dq6 (k : Nat) : Ok Tryz.prog (Bc5 k) := D0 (F5) (F4) (O5) (A6 (K7) (A6 (T1) (A6 (Ag0) (F3)))) (B7 (F35) (C0)) (A8 (Q8 k) (A8 (Dx7 k) (C9))) (B9)
theorem Dq7 (k : Nat) : O4 (Bc5 k) := O1 (B7 (F35) (C0))
theorem Ag1 (k : Nat) : SG 12 (d9 k) := ⟨A1 (Dq6 k) mixed (Dq7 k) (d := k) [A5] [.bool] [] (fun x => V0 k x.1) (fun x => Dn1 k x.1), (F35).2⟩
theorem Ey4 (k : Nat) : Ok Tryz.prog (Aw1 k) := D0 (F5) (F4) (O5) (A6 (K7) (A6 (Bh3) (A6 (P7) (A6 (Az0) (F3))))) (B7 (F89) (C0)) (A8 (Q8 k) (C9)) (B9)
theorem Ey5 (k : Nat) : O4 (Aw1 k) := O1 (B7 (F89) (C0))
theorem B16 (k : Nat) : SG 93 (A14 k) := ⟨A1 (Ey4 k) mixed (Ey5 k) (d := k) [(.int .i64)] [.str, .bool] [] (fun x => X1 k x.1) (fun x => Eo4 k x.1), (F89).2⟩
theorem Ey6 (k : Nat) : Ok Tryz.prog (Aj4 k) := D0 (F5) (F4) (O5) (A6 (Bh3) (A6 (P7) (A6 (D86) (F3)))) (B7 (Fc0) (C0)) (C9) (B9)
theorem Ey7 (k : Nat) : O4 (Aj4 k) := O1 (B7 (Fc0) (C0))
theorem Ey8 (k : Nat) : SG 133 (Ci4 k) := ⟨A1 (Ey6 k) mixed (Ey7 k) (d := k) [(.int .u32), .str] [(.int .u32)] [] (fun x => B31 k x.1 x.2.1) (fun x => Eo6 k x.1 x.2.1), (Fc0).2⟩
theorem Ft9 (k : Nat) : Ok Tryz.prog (Cn8 k) := D0 (F5) (F4) (O5) (F3) (B7 (F90) (C0)) (A8 (Ey8 k) (C9)) (B9)
theorem Fu0 (k : Nat) : O4 (Cn8 k) := O1 (B7 (F90) (C0))
theorem Fu1 (k : Nat) : SG 94 (De7 k) := ⟨A1 (Ft9 k) mixed (Fu0 k) (d := k) [.str] [(.int .u32)] [] (fun x => Cd9 k x.1) (fun x => Fr8 k x.1), (F90).2⟩
theorem Fu2 (k : Nat) : Ok Tryz.prog (Cn9 k) := D0 (F5) (F4) (O5) (A6 (Bh3) (A6 (P7) (A6 (Az0) (A6 (D86) (F3))))) (B7 (F50) (C0)) (A8 (Q8 k) (A8 (B16 k) (A8 (Fu1 k) (C9)))) (B9)
theorem Fu3 (k : Nat) : O4 (Cn9 k) := O1 (B7 (F50) (C0))
theorem B46 (k : Nat) : SG 41 (A72 k) := ⟨A1 (Fu2 k) mixed (Fu3 k) (d := k) [.str] [.str, .bool] [] (fun x => l9 k x.1) (fun x => Fr9 k x.1), (F50).2⟩
theorem F98 (k : Nat) : Ok Tryz.prog (B01 k) := D0 (F5) (F4) (O5) (A6 (K7) (A6 (P7) (A6 (Az0) (A6 (Ad8) (F3))))) (B7 (F77) (C0)) (A8 (B16 k) (C9)) (B9)
theorem F99 (k : Nat) : O4 (B01 k) := O1 (B7 (F77) (C0))
theorem Ey9 (k : Nat) : SG 75 (Co0 k) := ⟨A1 (F98 k) mixed (F99 k) (d := k) [(.slice 3 (.int .i64))] [.str, .bool] [] (fun x => B92 k x.1) (fun x => F23 k x.1), (F77).2⟩
theorem Dq8 (k : Nat) : Ok Tryz.prog (Bc7 k) := D0 (F5) (F4) (O5) (A6 (Ad8) (F3)) (B7 (F45) (C0)) (A8 (B46 k) (A8 (Ey9 k) (C9))) (B9)
theorem Dq9 (k : Nat) : O4 (Bc7 k) := O1 (B7 (F45) (C0))
theorem B81 (k : Nat) : SG 36 (A73 k) := ⟨A1 (Dq8 k) mixed (Dq9 k) (d := k) [.str, (.int .i64), (.int .i64)] [.str] [] (fun x => J7 k x.1 x.2.1 x.2.2.1) (fun x => Dn2 k x.1 x.2.1 x.2.2.1), (F45).2⟩
theorem Dr0 (k : Nat) : Ok Tryz.prog (Bc8 k) := D0 (F5) (F4) (O5) (A6 (K7) (A6 (Bh3) (A6 (P7) (A6 (Az0) (A6 (Ad8) (A6 (Ad9) (F3))))))) (B7 (F85) (C0)) (A8 (Q8 k) (A8 (Ey9 k) (A8 (B15 k) (C9)))) (B9)
theorem Dr1 (k : Nat) : O4 (Bc8 k) := O1 (B7 (F85) (C0))
theorem Dr2 (k : Nat) : SG 89 (B02 k) := ⟨A1 (Dr0 k) mixed (Dr1 k) (d := k) [(.int .i64), C2] [.str, .bool] [] (fun x => Ai8 k x.1 x.2.1) (fun x => Dn3 k x.1 x.2.1), (F85).2⟩
theorem C27 (k : Nat) : Ok Tryz.prog (o6 k) := D0 (F5) (F4) (O5) (A6 (K7) (A6 (P7) (A6 (Az0) (A6 (Af9) (A6 (T1) (A6 (Ad9) (F3))))))) (B7 (F46) (C0)) (A8 (B46 k) (A8 (Dr2 k) (C9))) (B9)
theorem C28 (k : Nat) : O4 (o6 k) := O1 (B7 (F46) (C0))
theorem Bq9 (k : Nat) : SG 37 (As0 k) := ⟨A1 (C27 k) mixed (C28 k) (d := k) [E9, (.int .i64)] [.str] [] (fun x => G2 k x.1 x.2.1) (fun x => Cz6 k x.1 x.2.1), (F46).2⟩
theorem C29 (k : Nat) : Ok Tryz.prog (Ay2 k) := D0 (F5) (F4) (O5) (A6 (K7) (A6 (P7) (A6 (T1) (A6 (Ag0) (F3))))) (B7 (Gk7) (C0)) (A8 (Ag1 k) (A8 (B81 k) (A8 (Bq9 k) (C9)))) (B9)
theorem C30 (k : Nat) : O4 (Ay2 k) := O1 (B7 (Gk7) (C0))
theorem Br0 (k : Nat) : SG 9 (As1 k) := ⟨A1 (C29 k) mixed (C30 k) (d := k) [A5] [.str, .bool] [] (fun x => q7 k x.1) (fun x => Cz7 k x.1), (Gk7).2⟩
theorem Ez0 (k : Nat) : Ok Tryz.prog (Aw2 k) := D0 (F5) (F4) (O5) (A6 (K7) (A6 (Bh3) (A6 (P7) (F3)))) (B7 (F86) (C0)) (A8 (Q8 k) (A8 (B16 k) (C9))) (B9)
theorem Ez1 (k : Nat) : O4 (Aw2 k) := O1 (B7 (F86) (C0))
theorem Cw9 (k : Nat) : SG 90 (Bo2 k) := ⟨A1 (Ez0 k) mixed (Ez1 k) (d := k) [.str, (.int .i64)] [(.int .i64), (.int .i64), .bool] [] (fun x => q8 k x.1 x.2.1) (fun x => Ep1 k x.1 x.2.1), (F86).2⟩
theorem Ez2 (k : Nat) : Ok Tryz.prog (Aw3 k) := D0 (F5) (F4) (O5) (A6 (P7) (A6 (Fl5) (F3))) (B7 (F47) (C0)) (A8 (B46 k) (A8 (Cw9 k) (C9))) (B9)
theorem Ez3 (k : Nat) : O4 (Aw3 k) := O1 (B7 (F47) (C0))
theorem Ez4 (k : Nat) : SG 38 (Ci6 k) := ⟨A1 (Ez2 k) mixed (Ez3 k) (d := k) [.str] [(.slice 9 .str), (.int .i64)] [.o] (fun x => Bf0 k x.1) (fun x => Ep3 k x.1), (F47).2⟩
theorem Dh3 (k : Nat) : Ok Tryz.prog (A74 k) := D0 (F5) (F4) (O5) (A6 (K7) (A6 (Dn9) (A6 (P7) (A6 (Df9) (F3))))) (B7 (F78) (C0)) (A8 (Cw9 k) (C9)) (B9)
theorem Dh4 (k : Nat) : O4 (A74 k) := O1 (B7 (F78) (C0))
theorem B17 (k : Nat) : i7 Tryz.prog 79 (Ay3 k) ∧ O2 Tryz.prog 79 := ⟨K9 (Dh3 k) mixed (Dh4 k) (d := k) [.box G8] [(.int .i64)] [] (fun x => X8 k x.1) (fun x => De8 k x.1), (F78).2⟩
theorem C31 (k : Nat) : Ok Tryz.prog (Ay4 k) := D0 (F5) (F4) (O5) (A6 (K7) (A6 (Dn9) (A6 (Bh3) (A6 (P7) (A6 (Df9) (F3)))))) (B7 (F87) (C0)) (C9) (B9)
theorem C32 (k : Nat) : O4 (Ay4 k) := O1 (B7 (F87) (C0))
theorem Br1 (k : Nat) : i7 Tryz.prog 91 (As2 k) ∧ O2 Tryz.prog 91 := ⟨K9 (C31 k) mixed (C32 k) (d := k) [.box G8] [(.int .i64)] [] (fun x => S1 k x.1) (fun x => Cz8 k x.1), (F87).2⟩
theorem C33 (k : Nat) : Ok Tryz.prog (Ay5 k) := D0 (F5) (F4) (O5) (A6 (K7) (A6 (Dn9) (A6 (P7) (A6 (Df9) (F3))))) (B7 (F88) (C0)) (C9) (B9)
theorem C34 (k : Nat) : O4 (Ay5 k) := O1 (B7 (F88) (C0))
theorem C35 (k : Nat) : i7 Tryz.prog 92 (Bg8 k) ∧ O2 Tryz.prog 92 := ⟨K9 (C33 k) mixed (C34 k) (d := k) [.box G8] [.bool] [] (fun x => q9 k x.1) (fun x => Cz9 k x.1), (F88).2⟩
theorem Ga0 (k : Nat) : Ok Tryz.prog (De9 k) := D0 (F5) (F4) (O5) (A6 (K7) (A6 (Bh3) (A6 (Df9) (F3)))) (B7 (F49) (C0)) (C9) (I8 (B17 k) (I8 (Br1 k) (I8 (C35 k) (B9))))
theorem Ga1 (k : Nat) : O4 (De9 k) := O1 (B7 (F49) (C0))
theorem Ez5 (k : Nat) : SG 40 (Co3 k) := ⟨A1 (Ga0 k) mixed (Ga1 k) (d := k) [.str, (.int .u8)] [(.int .i64), (.int .i64), .bool] [] (fun x => Bu8 k x.1 x.2.1) (fun x => F24 k x.1 x.2.1), (F49).2⟩
theorem Dr3 (k : Nat) : Ok Tryz.prog (Bd1 k) := D0 (F5) (F4) (O5) (A6 (K7) (A6 (Dn9) (A6 (P7) (A6 (Ad9) (A6 (Df9) (F3)))))) (B7 (F91) (C0)) (A8 (Q8 k) (A8 (B15 k) (C9))) (I8 (B17 k) (I8 (Br1 k) (B9)))
theorem Dr4 (k : Nat) : O4 (Bd1 k) := O1 (B7 (F91) (C0))
theorem Dr5 (k : Nat) : SG 95 (B03 k) := ⟨A1 (Dr3 k) mixed (Dr4 k) (d := k) [.str] [(.int .i64), C2, .bool] [] (fun x => Au4 k x.1) (fun x => Dn4 k x.1), (F91).2⟩
theorem Ez6 (k : Nat) : Ok Tryz.prog (B04 k) := D0 (F5) (F4) (O5) (A6 (Af9) (A6 (T1) (F3))) (B7 (F58) (C0)) (C9) (B9)
theorem Ez7 (k : Nat) : O4 (B04 k) := O1 (B7 (F58) (C0))
theorem B18 (k : Nat) : SG 49 (A16 k) := ⟨A1 (Ez6 k) mixed (Ez7 k) (d := k) [E9] [E9] [.o] (fun x => I2 k x.1) (fun x => Ep4 k x.1), (F58).2⟩
theorem Ga2 (k : Nat) : Ok Tryz.prog (Df0 k) := D0 (F5) (F4) (O5) (A6 (K7) (A6 (Af9) (A6 (T1) (F3)))) (B7 (Fc1) (C0)) (C9) (B9)
theorem Ga3 (k : Nat) : O4 (Df0 k) := O1 (B7 (Fc1) (C0))
theorem Ga4 (k : Nat) : SG 134 (Dx4 k) := ⟨A1 (Ga2 k) mixed (Ga3 k) (d := k) [E9] [(.int .i64)] [] (fun x => C95 k x.1) (fun x => F25 k x.1), (Fc1).2⟩
theorem Fh7 (k : Nat) : Ok Tryz.prog (Cb2 k) := D0 (F5) (F4) (O5) (A6 (K7) (A6 (Af9) (A6 (T1) (A6 (Ad9) (F3))))) (B7 (F92) (C0)) (A8 (Q8 k) (A8 (Dx7 k) (A8 (B18 k) (A8 (Ga4 k) (C9))))) (B9)
theorem Fh8 (k : Nat) : O4 (Cb2 k) := O1 (B7 (F92) (C0))
theorem Fh9 (k : Nat) : SG 96 (Cv6 k) := ⟨A1 (Fh7 k) mixed (Fh8 k) (d := k) [E9, (.int .i64), C2] [E9, .bool] [.o] (fun x => Bu9 k x.1 x.2.1 x.2.2.1) (fun x => E87 k x.1 x.2.1 x.2.2.1), (F92).2⟩
theorem Ga5 (k : Nat) : Ok Tryz.prog (Df1 k) := D0 (F5) (F4) (O5) (A6 (K7) (A6 (T1) (A6 (Ag0) (A6 (Ad9) (F3))))) (B7 (F51) (C0)) (A8 (Ag1 k) (A8 (Ez5 k) (A8 (Dr5 k) (A8 (Fh9 k) (C9))))) (B9)
theorem Ga6 (k : Nat) : O4 (Df1 k) := O1 (B7 (F51) (C0))
theorem Ga7 (k : Nat) : SG 42 (Dx5 k) := ⟨A1 (Ga5 k) mixed (Ga6 k) (d := k) [A5, .str] [A5, .bool] [.s] (fun x => Bv0 k x.1 x.2.1) (fun x => F26 k x.1 x.2.1), (F51).2⟩
theorem C36 (k : Nat) : Ok Tryz.prog (X3 k) := D0 (F5) (F4) (O5) (A6 (P7) (A6 (T1) (A6 (Ag0) (A6 (Fl5) (F3))))) (B7 (F33) (C0)) (A8 (Ag1 k) (A8 (Ez4 k) (A8 (Q8 k) (A8 (Ez5 k) (A8 (B46 k) (A8 (Ga7 k) (C9))))))) (B9)
theorem C37 (k : Nat) : O4 (X3 k) := O1 (B7 (F33) (C0))
theorem Ay9 (k : Nat) : SG 10 (Ad3 k) := ⟨A1 (C36 k) mixed (C37 k) (d := k) [(.int .i64), .str] [A5, (.int .i64), .bool] [.s] (fun x => N2 k x.1 x.2.1) (fun x => C02 k x.1 x.2.1), (F33).2⟩
theorem Ez8 (k : Nat) : Ok Tryz.prog (Aw4 k) := D0 (F5) (F4) (eq1 (Dg0) (O5)) (A6 (K7) (A6 (Af9) (A6 (T1) (A6 (Ad9) (F3))))) (B7 (F34) (C0)) (C9) (B9)
theorem Ez9 (k : Nat) : O4 (Aw4 k) := O1 (B7 (F34) (C0))
theorem E00 (k : Nat) : SG 11 (Ci9 k) := ⟨A1 (Ez8 k) mixed (Ez9 k) (d := k) [E9, E9] [.bool] [] (fun x => Aq5 k x.1 x.2.1) (fun x => Ep6 k x.1 x.2.1), (F34).2⟩
theorem Dh5 (k : Nat) : SG 114 (Bq2 k) := ⟨Fs1 Tryz.itoaL, (Gk9).2⟩
theorem E01 (k : Nat) : Ok Tryz.prog (B05 k) := D0 (F5) (F4) (O5) (F3) (B7 (F72) (C0)) (A8 (Dh5 k) (C9)) (B9)
theorem E02 (k : Nat) : O4 (B05 k) := O1 (B7 (F72) (C0))
theorem E03 (k : Nat) : SG 63 (Cj0 k) := ⟨A1 (E01 k) mixed (E02 k) (d := k) [(.int .i64)] [.str] [] (fun x => A26 k x.1) (fun x => Ep7 k x.1), (F72).2⟩
theorem C38 (k : Nat) : Ok Tryz.prog (Ay6 k) := D0 (F5) (F4) (O5) (F3) (B7 (F41) (C0)) (A8 (Q8 k) (A8 (E03 k) (C9))) (B9)
theorem C39 (k : Nat) : O4 (Ay6 k) := O1 (B7 (F41) (C0))
theorem Ag7 (k : Nat) : SG 18 (g7 k) := ⟨A1 (C38 k) mixed (C39 k) (d := k) [(.int .i64)] [.str] [] (fun x => O6 k x.1) (fun x => C03 k x.1), (F41).2⟩
theorem Fi0 (k : Nat) : Ok Tryz.prog (A75 k) := D0 (F5) (F4) (O5) (A6 (P7) (A6 (Bh4) (A6 (Ap8) (A6 (Bq5) (F3))))) (B7 (F94) (B7 (F96) (B7 (F97) (C0)))) (C9) (B9)
theorem Fi1 (k : Nat) : O4 (A75 k) := O1 (B7 (F94) (B7 (F96) (B7 (F97) (C0))))
theorem Dh6 (k : Nat) : SG 98 (B06 k) := ⟨A1 (Fi0 k) mixed (Fi1 k) (d := k) [D9, .str] [(.int .i64)] [] (fun x => Bf1 k x.1 x.2.1) (fun x => E90 k x.1 x.2.1), (F94).2⟩
theorem Fi2 (k : Nat) : Ok Tryz.prog (Cb3 k) := D0 (F5) (F4) (O5) (A6 (P7) (A6 (Bh4) (A6 (Ap8) (A6 (Bq5) (F3))))) (B7 (F53) (C0)) (A8 (Dh6 k) (C9)) (B9)
theorem Fi3 (k : Nat) : O4 (Cb3 k) := O1 (B7 (F53) (C0))
theorem Dh7 (k : Nat) : SG 44 (B07 k) := ⟨A1 (Fi2 k) mixed (Fi3 k) (d := k) [D9, .str] [.str, .bool] [] (fun x => A46 k x.1 x.2.1) (fun x => E91 k x.1 x.2.1), (F53).2⟩
theorem Fi4 (k : Nat) : Ok Tryz.prog (A76 k) := D0 (F5) (F4) (O5) (A6 (K7) (A6 (P7) (A6 (Bh4) (A6 (Ap8) (A6 (Bq5) (F3)))))) (B7 (F54) (C0)) (A8 (Q8 k) (C9)) (B9)
theorem Fi5 (k : Nat) : O4 (A76 k) := O1 (B7 (F54) (C0))
theorem Dh8 (k : Nat) : SG 45 (B08 k) := ⟨A1 (Fi4 k) mixed (Fi5 k) (d := k) [D9] [.bool] [] (fun x => A47 k x.1) (fun x => E93 k x.1), (F54).2⟩
theorem Ae4 (k : Nat) : Ok Tryz.prog (H3 k) := D0 (F5) (F4) (eq1 (Dg0) (O5)) (A6 (Af9) (A6 (Ad9) (F3))) (B7 (Fc2) (C0)) (C9) (B9)
theorem Ae5 (k : Nat) : O4 (H3 k) := O1 (B7 (Fc2) (C0))
theorem Ae6 (k : Nat) : SG 137 (T6 k) := ⟨A1 (Ae4 k) mixed (Ae5 k) (d := k) [(.slice 85 C2), (.slice 85 C2)] [.bool] [] (fun x => H7 k x.1 x.2.1) (fun x => Ae2 k x.1 x.2.1), (Fc2).2⟩
theorem E04 (k : Nat) : Ok Tryz.prog (B09 k) := D0 (F5) (F4) (O5) (A6 (K7) (A6 (Af9) (A6 (T1) (F3)))) (B7 (F95) (C0)) (A8 (Ae6 k) (C9)) (B9)
theorem E05 (k : Nat) : O4 (B09 k) := O1 (B7 (F95) (C0))
theorem E06 (k : Nat) : SG 99 (Cj2 k) := ⟨A1 (E04 k) mixed (E05 k) (d := k) [E9, E9] [.bool] [] (fun x => Bf2 k x.1 x.2.1) (fun x => Eq0 k x.1 x.2.1), (F95).2⟩
theorem C40 (k : Nat) : Ok Tryz.prog (Ay7 k) := D0 (F5) (F4) (O5) (A6 (K7) (A6 (T1) (A6 (Ag0) (F3)))) (B7 (F55) (C0)) (A8 (E06 k) (C9)) (B9)
theorem C41 (k : Nat) : O4 (Ay7 k) := O1 (B7 (F55) (C0))
theorem C42 (k : Nat) : SG 46 (Bg9 k) := ⟨A1 (C40 k) mixed (C41 k) (d := k) [A5, A5] [.bool] [] (fun x => Ae8 k x.1 x.2.1) (fun x => C04 k x.1 x.2.1), (F55).2⟩
theorem E07 (k : Nat) : Ok Tryz.prog (B10 k) := D0 (F5) (F4) (O5) (A6 (Ap8) (F3)) (B7 (F56) (C0)) (A8 (Dh6 k) (C9)) (B9)
theorem E08 (k : Nat) : O4 (B10 k) := O1 (B7 (F56) (C0))
theorem E09 (k : Nat) : SG 47 (Cj4 k) := ⟨A1 (E07 k) mixed (E08 k) (d := k) [D9, .str] [.bool] [] (fun x => B33 k x.1 x.2.1) (fun x => Eq1 k x.1 x.2.1), (F56).2⟩
theorem Ga8 (k : Nat) : Ok Tryz.prog (Df4 k) := D0 (F5) (F4) (O5) (A6 (K7) (A6 (T1) (A6 (Ag0) (A6 (Df7) (A6 (Df8) (F3)))))) (B7 (F57) (C0)) (A8 (Br0 k) (A8 (Ag7 k) (A8 (B18 k) (C9)))) (B9)
theorem Ga9 (k : Nat) : O4 (Df4 k) := O1 (B7 (F57) (C0))
theorem E10 (k : Nat) : SG 48 (Co6 k) := ⟨A1 (Ga8 k) mixed (Ga9 k) (d := k) [(.int .i64), A5] [(.slice 93 b7), A5, .bool] [.o, .o] (fun x => W7 k x.1 x.2.1) (fun x => F27 k x.1 x.2.1), (F57).2⟩
theorem C43 (k : Nat) : Ok Tryz.prog (o7 k) := D0 (F5) (F4) (eq1 (Dg0) (O5)) (A6 (K7) (A6 (P7) (A6 (Ap8) (A6 (Af9) (A6 (T1) (A6 (Ag0) (A6 (Df7) (A6 (Ad9) (A6 (Df8) (F3)))))))))) (B7 (F36) (C0)) (A8 (Ay9 k) (A8 (Ag1 k) (A8 (Ag7 k) (A8 (B81 k) (A8 (Bq9 k) (A8 (Dh7 k) (A8 (Dh8 k) (A8 (C42 k) (A8 (E09 k) (A8 (E10 k) (A8 (B18 k) (C9)))))))))))) (B9)
theorem C44 (k : Nat) : O4 (o7 k) := O1 (B7 (F36) (C0))
theorem C45 (k : Nat) : SG 13 (Bh0 k) := ⟨A1 (C43 k) mixed (C44 k) (d := k) [D9, A5, A5] [(.slice 93 b7), A5, .bool] [.o, .o] (fun x => s5 k x.1 x.2.1 x.2.2.1) (fun x => C06 k x.1 x.2.1 x.2.2.1), (F36).2⟩
theorem Ao5 (k : Nat) : Ok Tryz.prog (P0 k) := D0 (F5) (F4) (O5) (A6 (P7) (F3)) (B7 (Fe3) (C0)) (C9) (B9)
theorem Ao6 (k : Nat) : O4 (P0 k) := O1 (B7 (Fe3) (C0))
theorem Ao7 (k : Nat) : SG 164 (W5 k) := ⟨A1 (Ao5 k) mixed (Ao6 k) (d := k) [.str, .str] [.bool] [] (fun x => M1 k x.1 x.2.1) (fun x => Ao2 k x.1 x.2.1), (Fe3).2⟩
theorem Ao8 (k : Nat) : Ok Tryz.prog (P1 k) := D0 (F5) (F4) (O5) (A6 (P7) (F3)) (B7 (Fd1) (C0)) (A8 (Ao7 k) (C9)) (B9)
theorem Ao9 (k : Nat) : O4 (P1 k) := O1 (B7 (Fd1) (C0))
theorem Ap0 (k : Nat) : SG 146 (W6 k) := ⟨A1 (Ao8 k) mixed (Ao9 k) (d := k) [.str, .str] [.str, .bool] [] (fun x => M2 k x.1 x.2.1) (fun x => Ao3 k x.1 x.2.1), (Fd1).2⟩
theorem B49 (k : Nat) : Ok Tryz.prog (Ae3 k) := D0 (F5) (F4) (O5) (F3) (B7 (Fa8) (C0)) (A8 (Ap0 k) (C9)) (B9)
theorem B50 (k : Nat) : O4 (Ae3 k) := O1 (B7 (Fa8) (C0))
theorem B51 (k : Nat) : SG 112 (Aw7 k) := ⟨A1 (B49 k) mixed (B50 k) (d := k) [.str, .str] [.str, .bool] [] (fun x => t6 k x.1 x.2.1) (fun x => B48 k x.1 x.2.1), (Fa8).2⟩
theorem C46 (k : Nat) : SG 113 (Bh1 k) := ⟨Fs2, (Gk8).2⟩
theorem Eb6 (k : Nat) : Ok Tryz.prog (Bo5 k) := D0 (F5) (F4) (O5) (F3) (B7 (F71) (C0)) (A8 (B51 k) (A8 (C46 k) (C9))) (B9)
theorem Eb7 (k : Nat) : O4 (Bo5 k) := O1 (B7 (F71) (C0))
theorem Eb8 (k : Nat) : SG 62 (B77 k) := ⟨A1 (Eb6 k) mixed (Eb7 k) (d := k) [.str, .str, (.int .i64)] [(.int .i64)] [] (fun x => m9 k x.1 x.2.1 x.2.2.1) (fun x => D84 k x.1 x.2.1 x.2.2.1), (F71).2⟩
theorem C47 (k : Nat) : Ok Tryz.prog (X4 k) := D0 (F5) (F4) (O5) (A6 (P7) (A6 (Bh4) (A6 (Ap8) (A6 (Ag0) (A6 (Df7) (A6 (Df8) (A6 (Bq5) (F3)))))))) (B7 (F39) (C0)) (A8 (Ay9 k) (A8 (Ag7 k) (A8 (Dh7 k) (A8 (Dh8 k) (A8 (E10 k) (A8 (Eb8 k) (C9))))))) (B9)
theorem C48 (k : Nat) : O4 (X4 k) := O1 (B7 (F39) (C0))
theorem C49 (k : Nat) : SG 16 (Bh2 k) := ⟨A1 (C47 k) mixed (C48 k) (d := k) [D9] [A5, (.slice 93 b7), .bool] [.s, .o] (fun x => s6 k x.1) (fun x => C08 k x.1), (F39).2⟩
theorem E11 (k : Nat) : Ok Tryz.prog (Aw8 k) := D0 (F5) (F4) (O5) (A6 (K7) (A6 (P7) (A6 (Bh4) (A6 (Ap8) (A6 (Bq5) (F3)))))) (B7 (F40) (C0)) (A8 (Cb4 k) (C9)) (B9)
theorem E12 (k : Nat) : O4 (Aw8 k) := O1 (B7 (F40) (C0))
theorem E13 (k : Nat) : SG 17 (Cj5 k) := ⟨A1 (E11 k) mixed (E12 k) (d := k) [D9] [.bool] [] (fun x => Bf3 k x.1) (fun x => Eq3 k x.1), (F40).2⟩
theorem Dh9 (k : Nat) : Ok Tryz.prog (A77 k) := D0 (F5) (F4) (O5) (A6 (K7) (A6 (Dn9) (A6 (P7) (A6 (Ap8) (A6 (T1) (A6 (Ag0) (A6 (Df7) (F3)))))))) (B7 (Gk4) (C0)) (A8 (Gg0 k) (A8 (Br9 k) (A8 (Br0 k) (A8 (Ay9 k) (A8 (E00 k) (A8 (Ag1 k) (A8 (C45 k) (A8 (Bq7 k) (A8 (Dg7 k) (A8 (C49 k) (A8 (E13 k) (A8 (Ag7 k) (C9))))))))))))) (B9)
theorem Di0 (k : Nat) : O4 (A77 k) := O1 (B7 (Gk4) (C0))
theorem Di1 (k : Nat) : SG 3 (C09 k) := ⟨A1 (Dh9 k) mixed (Di0 k) (d := k) [(.slice 5 (.int .u8))] [.bool] [] (fun x => Ac5 k x.1) (fun x => Df6 k x.1), (Gk4).2⟩
end Go.Vm
end
