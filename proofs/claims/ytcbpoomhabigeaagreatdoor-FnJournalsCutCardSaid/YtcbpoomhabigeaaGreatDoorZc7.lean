/- The functions keep their specifications. -/
import Derived.Test.YtcbpoomhabigeaaGreatDoorZc6
import Derived.Test.YtcbpoomhabigeaaGreatDoorChecked
section
set_option linter.unusedVariables false
namespace Go.Vm
open Go Go.Proofs
theorem mixed : Tryz.prog.follows .mixedOrders = true := Tryz.checked.mixed
def N9 (c : Cfg) : Prop := ∀ f fn, look c.inl f = some fn → Tryz.prog.funcs[f]? = some fn
theorem N7 {c : Cfg} (h : F88 Tryz.prog c.inl) : N9 c := fun f fn e => (h f fn e).1
abbrev SG (f : FuncId) (s : Spec) : Prop := Al4 Tryz.prog f s ∧ O7 Tryz.prog f
abbrev FI (n : FuncId) (f : Func) : Prop := Tryz.prog.funcs[n]? = some f ∧ O7 Tryz.prog n
theorem J6 : TyOk Tryz.prog (.int .i64) 3 := F7 _ _ _ [] (by kernel_rfl)
theorem Du3 : TyOk Tryz.prog .bool 4 := F7 _ _ _ [] (by kernel_rfl)
theorem Bg0 : TyOk Tryz.prog (.int .u8) 5 := F7 _ _ _ [] (by kernel_rfl)
theorem P9 : TyOk Tryz.prog .str 9 := F7 _ _ _ [] (by kernel_rfl)
theorem Ay5 : TyOk Tryz.prog (.slice 5 (.int .u8)) 22 := F7 _ _ _ [] (by kernel_rfl)
theorem Bk3 : TyOk Tryz.prog (.slice 99 J0) 24 := F7 _ _ _ [] (by kernel_rfl)
theorem Aq2 : TyOk Tryz.prog D8 26 := F7 _ _ _ [] (by kernel_rfl)
theorem Ac5 : TyOk Tryz.prog (.slice 85 C3) 27 := F7 _ _ _ [] (by kernel_rfl)
theorem Q0 : TyOk Tryz.prog E6 29 := F7 _ _ _ [] (by kernel_rfl)
theorem Ah3 : TyOk Tryz.prog A6 31 := F7 _ _ _ [] (by kernel_rfl)
theorem C11 : TyOk Tryz.prog (.slice 93 X4) 40 := F7 _ _ _ [] (by kernel_rfl)
theorem m7 : TyOk Tryz.prog (.slice 3 (.int .i64)) 49 := F7 _ _ _ [] (by kernel_rfl)
theorem Fu9 : TyOk Tryz.prog (.slice 9 .str) 75 := F7 _ _ _ [] (by kernel_rfl)
theorem Ac6 : TyOk Tryz.prog C3 85 := F7 _ _ _ [] (by kernel_rfl)
theorem Dm2 : TyOk Tryz.prog X4 93 := F7 _ _ _ [] (by kernel_rfl)
theorem Bt8 : TyOk Tryz.prog J0 99 := F7 _ _ _ [] (by kernel_rfl)
theorem Gc4 : TyOk Tryz.prog (.slice 158 C3) 106 := F7 _ _ _ [] (by kernel_rfl)
theorem Gt9 : TyOk Tryz.prog (.slice 162 H1) 107 := F7 _ _ _ [] (by kernel_rfl)
theorem Gc5 : TyOk Tryz.prog Ar3 111 := F7 _ _ _ [] (by kernel_rfl)
theorem Gu0 : TyOk Tryz.prog (.slice 164 Er0) 112 := F7 _ _ _ [] (by kernel_rfl)
theorem Fi4 : TyOk Tryz.prog A76 114 := F7 _ _ _ [] (by kernel_rfl)
theorem Dm3 : TyOk Tryz.prog G9 122 := F7 _ _ _ [] (by kernel_rfl)
theorem Fi5 : TyOk Tryz.prog B9 129 := F7 _ _ _ [] (by kernel_rfl)
theorem Ef5 : TyOk Tryz.prog (.int .u32) 139 := F7 _ _ _ [] (by kernel_rfl)
theorem Gc6 : TyOk Tryz.prog C3 158 := F7 _ _ _ [] (by kernel_rfl)
theorem Bg1 : TyOk Tryz.prog H1 162 := F7 _ _ _ [] (by kernel_rfl)
theorem Gu1 : TyOk Tryz.prog Er0 164 := F7 _ _ _ [] (by kernel_rfl)
theorem Ef6 : TyOk Tryz.prog T2 169 := F7 _ _ _ [] (by kernel_rfl)
theorem Ef7 : TyOk Tryz.prog G9 176 := F7 _ _ _ [] (by kernel_rfl)
theorem Cu3 : Tryz.prog.stoodInHeld 85 = false ∧ Tryz.prog.eqGuardType Tryz.prog.depth 85 = false := ⟨by kernel_rfl, by kernel_rfl⟩
theorem Gu2 : FI 4 Tryz.f4 := ⟨Tryz.func4, A4 Tryz.func4 (by kernel_rfl) rfl⟩
theorem Gu3 : FI 7 Tryz.f7 := ⟨Tryz.func7, A4 Tryz.func7 (by kernel_rfl) rfl⟩
theorem Gu4 : FI 8 Tryz.f8 := ⟨Tryz.func8, A4 Tryz.func8 (by kernel_rfl) rfl⟩
theorem Gu5 : FI 9 Tryz.f9 := ⟨Tryz.func9, A4 Tryz.func9 (by kernel_rfl) rfl⟩
theorem Gc7 : FI 10 Tryz.f10 := ⟨Tryz.func10, A4 Tryz.func10 (by kernel_rfl) rfl⟩
theorem Gc8 : FI 11 Tryz.f11 := ⟨Tryz.func11, A4 Tryz.func11 (by kernel_rfl) rfl⟩
theorem Gc9 : FI 12 Tryz.f12 := ⟨Tryz.func12, A4 Tryz.func12 (by kernel_rfl) rfl⟩
theorem Gd0 : FI 13 Tryz.f13 := ⟨Tryz.func13, A4 Tryz.func13 (by kernel_rfl) rfl⟩
theorem Gd1 : FI 14 Tryz.f14 := ⟨Tryz.func14, A4 Tryz.func14 (by kernel_rfl) rfl⟩
theorem Gd2 : FI 15 Tryz.f15 := ⟨Tryz.func15, A4 Tryz.func15 (by kernel_rfl) rfl⟩
theorem Gd3 : FI 16 Tryz.f16 := ⟨Tryz.func16, A4 Tryz.func16 (by kernel_rfl) rfl⟩
theorem Gd4 : FI 18 Tryz.f18 := ⟨Tryz.func18, A4 Tryz.func18 (by kernel_rfl) rfl⟩
theorem Gd5 : FI 19 Tryz.f19 := ⟨Tryz.func19, A4 Tryz.func19 (by kernel_rfl) rfl⟩
theorem Gd6 : FI 20 Tryz.f20 := ⟨Tryz.func20, A4 Tryz.func20 (by kernel_rfl) rfl⟩
theorem Gd7 : FI 21 Tryz.f21 := ⟨Tryz.func21, A4 Tryz.func21 (by kernel_rfl) rfl⟩
theorem Gd8 : FI 22 Tryz.f22 := ⟨Tryz.func22, A4 Tryz.func22 (by kernel_rfl) rfl⟩
theorem Fv0 : FI 32 Tryz.f32 := ⟨Tryz.func32, A4 Tryz.func32 (by kernel_rfl) rfl⟩
theorem Gd9 : FI 33 Tryz.f33 := ⟨Tryz.func33, A4 Tryz.func33 (by kernel_rfl) rfl⟩
theorem Ge0 : FI 34 Tryz.f34 := ⟨Tryz.func34, A4 Tryz.func34 (by kernel_rfl) rfl⟩
theorem Ge1 : FI 35 Tryz.f35 := ⟨Tryz.func35, A4 Tryz.func35 (by kernel_rfl) rfl⟩
theorem Ge2 : FI 36 Tryz.f36 := ⟨Tryz.func36, A4 Tryz.func36 (by kernel_rfl) rfl⟩
theorem Ge3 : FI 37 Tryz.f37 := ⟨Tryz.func37, A4 Tryz.func37 (by kernel_rfl) rfl⟩
theorem Ge4 : FI 38 Tryz.f38 := ⟨Tryz.func38, A4 Tryz.func38 (by kernel_rfl) rfl⟩
theorem Ge5 : FI 39 Tryz.f39 := ⟨Tryz.func39, A4 Tryz.func39 (by kernel_rfl) rfl⟩
theorem Ge6 : FI 40 Tryz.f40 := ⟨Tryz.func40, A4 Tryz.func40 (by kernel_rfl) rfl⟩
theorem Ge7 : FI 41 Tryz.f41 := ⟨Tryz.func41, A4 Tryz.func41 (by kernel_rfl) rfl⟩
theorem Ge8 : FI 42 Tryz.f42 := ⟨Tryz.func42, A4 Tryz.func42 (by kernel_rfl) rfl⟩
theorem Ge9 : FI 43 Tryz.f43 := ⟨Tryz.func43, A4 Tryz.func43 (by kernel_rfl) rfl⟩
theorem Gf0 : FI 44 Tryz.f44 := ⟨Tryz.func44, A4 Tryz.func44 (by kernel_rfl) rfl⟩
theorem Gf1 : FI 45 Tryz.f45 := ⟨Tryz.func45, A4 Tryz.func45 (by kernel_rfl) rfl⟩
theorem Gf2 : FI 46 Tryz.f46 := ⟨Tryz.func46, A4 Tryz.func46 (by kernel_rfl) rfl⟩
theorem Gf3 : FI 47 Tryz.f47 := ⟨Tryz.func47, A4 Tryz.func47 (by kernel_rfl) rfl⟩
theorem Gf4 : FI 48 Tryz.f48 := ⟨Tryz.func48, A4 Tryz.func48 (by kernel_rfl) rfl⟩
theorem Gf5 : FI 49 Tryz.f49 := ⟨Tryz.func49, A4 Tryz.func49 (by kernel_rfl) rfl⟩
theorem Gf6 : FI 50 Tryz.f50 := ⟨Tryz.func50, A4 Tryz.func50 (by kernel_rfl) rfl⟩
theorem Gf7 : FI 51 Tryz.f51 := ⟨Tryz.func51, A4 Tryz.func51 (by kernel_rfl) rfl⟩
theorem Gf8 : FI 52 Tryz.f52 := ⟨Tryz.func52, A4 Tryz.func52 (by kernel_rfl) rfl⟩
theorem Gf9 : FI 53 Tryz.f53 := ⟨Tryz.func53, A4 Tryz.func53 (by kernel_rfl) rfl⟩
theorem Gg0 : FI 54 Tryz.f54 := ⟨Tryz.func54, A4 Tryz.func54 (by kernel_rfl) rfl⟩
theorem Gg1 : FI 55 Tryz.f55 := ⟨Tryz.func55, A4 Tryz.func55 (by kernel_rfl) rfl⟩
theorem Gg2 : FI 56 Tryz.f56 := ⟨Tryz.func56, A4 Tryz.func56 (by kernel_rfl) rfl⟩
theorem Gg3 : FI 57 Tryz.f57 := ⟨Tryz.func57, A4 Tryz.func57 (by kernel_rfl) rfl⟩
theorem Gg4 : FI 58 Tryz.f58 := ⟨Tryz.func58, A4 Tryz.func58 (by kernel_rfl) rfl⟩
theorem Gg5 : FI 59 Tryz.f59 := ⟨Tryz.func59, A4 Tryz.func59 (by kernel_rfl) rfl⟩
theorem Gg6 : FI 60 Tryz.f60 := ⟨Tryz.func60, A4 Tryz.func60 (by kernel_rfl) rfl⟩
theorem Gg7 : FI 61 Tryz.f61 := ⟨Tryz.func61, A4 Tryz.func61 (by kernel_rfl) rfl⟩
theorem Gg8 : FI 62 Tryz.f62 := ⟨Tryz.func62, A4 Tryz.func62 (by kernel_rfl) rfl⟩
theorem Gg9 : FI 63 Tryz.f63 := ⟨Tryz.func63, A4 Tryz.func63 (by kernel_rfl) rfl⟩
theorem Gh0 : FI 64 Tryz.f64 := ⟨Tryz.func64, A4 Tryz.func64 (by kernel_rfl) rfl⟩
theorem Gh1 : FI 65 Tryz.f65 := ⟨Tryz.func65, A4 Tryz.func65 (by kernel_rfl) rfl⟩
theorem Gh2 : FI 66 Tryz.f66 := ⟨Tryz.func66, A4 Tryz.func66 (by kernel_rfl) rfl⟩
theorem Gh3 : FI 67 Tryz.f67 := ⟨Tryz.func67, A4 Tryz.func67 (by kernel_rfl) rfl⟩
theorem Gh4 : FI 70 Tryz.f70 := ⟨Tryz.func70, A4 Tryz.func70 (by kernel_rfl) rfl⟩
theorem Gh5 : FI 72 Tryz.f72 := ⟨Tryz.func72, A4 Tryz.func72 (by kernel_rfl) rfl⟩
theorem Gh6 : FI 75 Tryz.f75 := ⟨Tryz.func75, A4 Tryz.func75 (by kernel_rfl) rfl⟩
theorem Gh7 : FI 79 Tryz.f79 := ⟨Tryz.func79, A4 Tryz.func79 (by kernel_rfl) rfl⟩
theorem Gh8 : FI 80 Tryz.f80 := ⟨Tryz.func80, A4 Tryz.func80 (by kernel_rfl) rfl⟩
theorem Gh9 : FI 84 Tryz.f84 := ⟨Tryz.func84, A4 Tryz.func84 (by kernel_rfl) rfl⟩
theorem Gi0 : FI 85 Tryz.f85 := ⟨Tryz.func85, A4 Tryz.func85 (by kernel_rfl) rfl⟩
theorem Gi1 : FI 86 Tryz.f86 := ⟨Tryz.func86, A4 Tryz.func86 (by kernel_rfl) rfl⟩
theorem Gi2 : FI 87 Tryz.f87 := ⟨Tryz.func87, A4 Tryz.func87 (by kernel_rfl) rfl⟩
theorem Gi3 : FI 88 Tryz.f88 := ⟨Tryz.func88, A4 Tryz.func88 (by kernel_rfl) rfl⟩
theorem Gi4 : FI 89 Tryz.f89 := ⟨Tryz.func89, A4 Tryz.func89 (by kernel_rfl) rfl⟩
theorem Gi5 : FI 90 Tryz.f90 := ⟨Tryz.func90, A4 Tryz.func90 (by kernel_rfl) rfl⟩
theorem Gi6 : FI 91 Tryz.f91 := ⟨Tryz.func91, A4 Tryz.func91 (by kernel_rfl) rfl⟩
theorem Gi7 : FI 92 Tryz.f92 := ⟨Tryz.func92, A4 Tryz.func92 (by kernel_rfl) rfl⟩
theorem Gi8 : FI 93 Tryz.f93 := ⟨Tryz.func93, A4 Tryz.func93 (by kernel_rfl) rfl⟩
theorem Gi9 : FI 94 Tryz.f94 := ⟨Tryz.func94, A4 Tryz.func94 (by kernel_rfl) rfl⟩
theorem Gj0 : FI 95 Tryz.f95 := ⟨Tryz.func95, A4 Tryz.func95 (by kernel_rfl) rfl⟩
theorem Gj1 : FI 96 Tryz.f96 := ⟨Tryz.func96, A4 Tryz.func96 (by kernel_rfl) rfl⟩
theorem Gj2 : FI 97 Tryz.f97 := ⟨Tryz.func97, A4 Tryz.func97 (by kernel_rfl) rfl⟩
theorem Gj3 : FI 98 Tryz.f98 := ⟨Tryz.func98, A4 Tryz.func98 (by kernel_rfl) rfl⟩
theorem Gj4 : FI 99 Tryz.f99 := ⟨Tryz.func99, A4 Tryz.func99 (by kernel_rfl) rfl⟩
theorem Fi6 : FI 100 Tryz.f100 := ⟨Tryz.func100, A4 Tryz.func100 (by kernel_rfl) rfl⟩
theorem Fi7 : FI 101 Tryz.f101 := ⟨Tryz.func101, A4 Tryz.func101 (by kernel_rfl) rfl⟩
theorem Fi8 : FI 102 Tryz.f102 := ⟨Tryz.func102, A4 Tryz.func102 (by kernel_rfl) rfl⟩
theorem Fi9 : FI 103 Tryz.f103 := ⟨Tryz.func103, A4 Tryz.func103 (by kernel_rfl) rfl⟩
theorem Fj0 : FI 104 Tryz.f104 := ⟨Tryz.func104, A4 Tryz.func104 (by kernel_rfl) rfl⟩
theorem Fj1 : FI 105 Tryz.f105 := ⟨Tryz.func105, A4 Tryz.func105 (by kernel_rfl) rfl⟩
theorem Fj2 : FI 106 Tryz.f106 := ⟨Tryz.func106, A4 Tryz.func106 (by kernel_rfl) rfl⟩
theorem Fj3 : FI 107 Tryz.f107 := ⟨Tryz.func107, A4 Tryz.func107 (by kernel_rfl) rfl⟩
theorem Fj4 : FI 108 Tryz.f108 := ⟨Tryz.func108, A4 Tryz.func108 (by kernel_rfl) rfl⟩
theorem Fj5 : FI 109 Tryz.f109 := ⟨Tryz.func109, A4 Tryz.func109 (by kernel_rfl) rfl⟩
theorem Fj6 : FI 110 Tryz.f110 := ⟨Tryz.func110, A4 Tryz.func110 (by kernel_rfl) rfl⟩
theorem Fj7 : FI 111 Tryz.f111 := ⟨Tryz.func111, A4 Tryz.func111 (by kernel_rfl) rfl⟩
theorem Fj8 : FI 112 Tryz.f112 := ⟨Tryz.func112, A4 Tryz.func112 (by kernel_rfl) rfl⟩
theorem Gu6 : FI 113 Tryz.f113 := ⟨Tryz.func113, A4 Tryz.func113 (by kernel_rfl) rfl⟩
theorem Gu7 : FI 114 Tryz.f114 := ⟨Tryz.func114, A4 Tryz.func114 (by kernel_rfl) rfl⟩
theorem Fj9 : FI 116 Tryz.f116 := ⟨Tryz.func116, A4 Tryz.func116 (by kernel_rfl) rfl⟩
theorem Fk0 : FI 117 Tryz.f117 := ⟨Tryz.func117, A4 Tryz.func117 (by kernel_rfl) rfl⟩
theorem Fk1 : FI 118 Tryz.f118 := ⟨Tryz.func118, A4 Tryz.func118 (by kernel_rfl) rfl⟩
theorem Fk2 : FI 120 Tryz.f120 := ⟨Tryz.func120, A4 Tryz.func120 (by kernel_rfl) rfl⟩
theorem Fk3 : FI 121 Tryz.f121 := ⟨Tryz.func121, A4 Tryz.func121 (by kernel_rfl) rfl⟩
theorem Fk4 : FI 123 Tryz.f123 := ⟨Tryz.func123, A4 Tryz.func123 (by kernel_rfl) rfl⟩
theorem Fk5 : FI 127 Tryz.f127 := ⟨Tryz.func127, A4 Tryz.func127 (by kernel_rfl) rfl⟩
theorem Fk6 : FI 128 Tryz.f128 := ⟨Tryz.func128, A4 Tryz.func128 (by kernel_rfl) rfl⟩
theorem Fk7 : FI 130 Tryz.f130 := ⟨Tryz.func130, A4 Tryz.func130 (by kernel_rfl) rfl⟩
theorem Fk8 : FI 131 Tryz.f131 := ⟨Tryz.func131, A4 Tryz.func131 (by kernel_rfl) rfl⟩
theorem Fk9 : FI 132 Tryz.f132 := ⟨Tryz.func132, A4 Tryz.func132 (by kernel_rfl) rfl⟩
theorem Fl0 : FI 133 Tryz.f133 := ⟨Tryz.func133, A4 Tryz.func133 (by kernel_rfl) rfl⟩
theorem Fl1 : FI 134 Tryz.f134 := ⟨Tryz.func134, A4 Tryz.func134 (by kernel_rfl) rfl⟩
theorem Gj5 : FI 135 Tryz.f135 := ⟨Tryz.func135, A4 Tryz.func135 (by kernel_rfl) rfl⟩
theorem Gj6 : FI 136 Tryz.f136 := ⟨Tryz.func136, A4 Tryz.func136 (by kernel_rfl) rfl⟩
theorem Fl2 : FI 137 Tryz.f137 := ⟨Tryz.func137, A4 Tryz.func137 (by kernel_rfl) rfl⟩
theorem Fl3 : FI 138 Tryz.f138 := ⟨Tryz.func138, A4 Tryz.func138 (by kernel_rfl) rfl⟩
theorem Fl4 : FI 139 Tryz.f139 := ⟨Tryz.func139, A4 Tryz.func139 (by kernel_rfl) rfl⟩
theorem Fl5 : FI 140 Tryz.f140 := ⟨Tryz.func140, A4 Tryz.func140 (by kernel_rfl) rfl⟩
theorem Fl6 : FI 141 Tryz.f141 := ⟨Tryz.func141, A4 Tryz.func141 (by kernel_rfl) rfl⟩
theorem Fl7 : FI 142 Tryz.f142 := ⟨Tryz.func142, A4 Tryz.func142 (by kernel_rfl) rfl⟩
theorem Fl8 : FI 143 Tryz.f143 := ⟨Tryz.func143, A4 Tryz.func143 (by kernel_rfl) rfl⟩
theorem Fl9 : FI 144 Tryz.f144 := ⟨Tryz.func144, A4 Tryz.func144 (by kernel_rfl) rfl⟩
theorem Fm0 : FI 145 Tryz.f145 := ⟨Tryz.func145, A4 Tryz.func145 (by kernel_rfl) rfl⟩
theorem Fm1 : FI 146 Tryz.f146 := ⟨Tryz.func146, A4 Tryz.func146 (by kernel_rfl) rfl⟩
theorem Fm2 : FI 151 Tryz.f151 := ⟨Tryz.func151, A4 Tryz.func151 (by kernel_rfl) rfl⟩
theorem Fm3 : FI 152 Tryz.f152 := ⟨Tryz.func152, A4 Tryz.func152 (by kernel_rfl) rfl⟩
theorem Fm4 : FI 153 Tryz.f153 := ⟨Tryz.func153, A4 Tryz.func153 (by kernel_rfl) rfl⟩
theorem Fm5 : FI 154 Tryz.f154 := ⟨Tryz.func154, A4 Tryz.func154 (by kernel_rfl) rfl⟩
theorem Fm6 : FI 157 Tryz.f157 := ⟨Tryz.func157, A4 Tryz.func157 (by kernel_rfl) rfl⟩
theorem Fm7 : FI 158 Tryz.f158 := ⟨Tryz.func158, A4 Tryz.func158 (by kernel_rfl) rfl⟩
theorem Fm8 : FI 159 Tryz.f159 := ⟨Tryz.func159, A4 Tryz.func159 (by kernel_rfl) rfl⟩
theorem Fm9 : FI 160 Tryz.f160 := ⟨Tryz.func160, A4 Tryz.func160 (by kernel_rfl) rfl⟩
theorem Fn0 : FI 161 Tryz.f161 := ⟨Tryz.func161, A4 Tryz.func161 (by kernel_rfl) rfl⟩
theorem Fn1 : FI 162 Tryz.f162 := ⟨Tryz.func162, A4 Tryz.func162 (by kernel_rfl) rfl⟩
theorem Fn2 : FI 163 Tryz.f163 := ⟨Tryz.func163, A4 Tryz.func163 (by kernel_rfl) rfl⟩
theorem Fn3 : FI 164 Tryz.f164 := ⟨Tryz.func164, A4 Tryz.func164 (by kernel_rfl) rfl⟩
theorem Fn4 : FI 170 Tryz.f170 := ⟨Tryz.func170, A4 Tryz.func170 (by kernel_rfl) rfl⟩
theorem Fn5 : FI 171 Tryz.f171 := ⟨Tryz.func171, A4 Tryz.func171 (by kernel_rfl) rfl⟩
theorem Fn6 : FI 172 Tryz.f172 := ⟨Tryz.func172, A4 Tryz.func172 (by kernel_rfl) rfl⟩
theorem Gu8 : FI 175 Tryz.f175 := ⟨Tryz.func175, A4 Tryz.func175 (by kernel_rfl) rfl⟩
theorem Gu9 : FI 176 Tryz.f176 := ⟨Tryz.func176, A4 Tryz.func176 (by kernel_rfl) rfl⟩
theorem Gv0 : FI 177 Tryz.f177 := ⟨Tryz.func177, A4 Tryz.func177 (by kernel_rfl) rfl⟩
theorem Gv1 : FI 178 Tryz.f178 := ⟨Tryz.func178, A4 Tryz.func178 (by kernel_rfl) rfl⟩
theorem Gv2 : FI 179 Tryz.f179 := ⟨Tryz.func179, A4 Tryz.func179 (by kernel_rfl) rfl⟩
theorem Fn7 : FI 180 Tryz.f180 := ⟨Tryz.func180, A4 Tryz.func180 (by kernel_rfl) rfl⟩
theorem Fn8 : FI 193 Tryz.f193 := ⟨Tryz.func193, A4 Tryz.func193 (by kernel_rfl) rfl⟩
theorem Fn9 : FI 195 Tryz.f195 := ⟨Tryz.func195, A4 Tryz.func195 (by kernel_rfl) rfl⟩
theorem Gp8 (k : Nat) : Ok Tryz.prog (Ea8 k) := D0 (F5) (F4) (O1) (A7 (Ay5) (F3)) (B8 (Gu3) (C1)) (C9) (C0)
theorem Gp9 (k : Nat) : N9 (Ea8 k) := N7 (B8 (Gu3) (C1))
theorem Gq0 (k : Nat) : SG 7 (Er1 k) := ⟨A1 (Gp8 k) mixed (Gp9 k) (d := k) [(.slice 5 (.int .u8))] [.bool] [] (fun x => Eo0 k x.1) (fun x => Gp2 k x.1), (Gu3).2⟩
theorem F19 (k : Nat) : Ok Tryz.prog (Cs1 k) := D0 (F5) (F4) (O1) (F3) (B8 (Gg1) (C1)) (C9) (C0)
theorem F20 (k : Nat) : N9 (Cs1 k) := N7 (B8 (Gg1) (C1))
theorem J9 (k : Nat) : SG 55 (I3 k) := ⟨A1 (F19 k) mixed (F20 k) (d := k) [(.int .i64), (.int .i64), (.int .i64)] [.bool] [] (fun x => E9 k x.1 x.2.1 x.2.2.1) (fun x => F02 k x.1 x.2.1 x.2.2.1), (Gg1).2⟩
theorem Du4 (k : Nat) : Ok Tryz.prog (Bd5 k) := D0 (F5) (F4) (O1) (A7 (J6) (A7 (Bg0) (F3))) (B8 (Fl3) (C1)) (C9) (C0)
theorem Du5 (k : Nat) : N9 (Bd5 k) := N7 (B8 (Fl3) (C1))
theorem Du6 (k : Nat) : SG 138 (Bz8 k) := ⟨A1 (Du4 k) mixed (Du5 k) (d := k) [(.int .i64)] [(.int .u8)] [] (fun x => Av2 k x.1) (fun x => Dp8 k x.1), (Fl3).2⟩
theorem Ey6 (k : Nat) : Ok Tryz.prog (Aw3 k) := D0 (F5) (F4) (O1) (A7 (P9) (A7 (Ay5) (F3))) (B8 (Fi6) (C1)) (B1 (Du6 k) (C9)) (C0)
theorem Ey7 (k : Nat) : N9 (Aw3 k) := N7 (B8 (Fi6) (C1))
theorem Ey8 (k : Nat) : SG 100 (Ck7 k) := ⟨A1 (Ey6 k) mixed (Ey7 k) (d := k) [(.int .i64)] [.str] [] (fun x => A42 k x.1) (fun x => Er4 k x.1), (Fi6).2⟩
theorem C65 (k : Nat) : Ok Tryz.prog (Az6 k) := D0 (F5) (F4) (O1) (F3) (B8 (Gf6) (C1)) (B1 (J9 k) (B1 (Ey8 k) (C9))) (C0)
theorem C66 (k : Nat) : N9 (Az6 k) := N7 (B8 (Gf6) (C1))
theorem A09 (k : Nat) : SG 50 (Ae4 k) := ⟨A1 (C65 k) mixed (C66 k) (d := k) [(.int .i64)] [.str] [] (fun x => V3 k x.1) (fun x => C28 k x.1), (Gf6).2⟩
theorem F21 (k : Nat) : Ok Tryz.prog (Bi9 k) := D0 (F5) (F4) (O1) (A7 (P9) (A7 (Bk3) (A7 (Aq2) (A7 (Bt8) (F3))))) (B8 (Fi7) (C1)) (C9) (C0)
theorem F22 (k : Nat) : N9 (Bi9 k) := N7 (B8 (Fi7) (C1))
theorem D49 (k : Nat) : SG 101 (Ce7 k) := ⟨A1 (F21 k) mixed (F22 k) (d := k) [D8, .str] [(.int .i64)] [] (fun x => A17 k x.1 x.2.1) (fun x => F04 k x.1 x.2.1), (Fi7).2⟩
theorem Fo0 (k : Nat) : Ok Tryz.prog (Ce8 k) := D0 (F5) (F4) (O1) (A7 (P9) (A7 (Bk3) (A7 (Aq2) (A7 (Bt8) (F3))))) (B8 (Gf7) (C1)) (B1 (D49 k) (C9)) (C0)
theorem Fo1 (k : Nat) : N9 (Ce8 k) := N7 (B8 (Gf7) (C1))
theorem Fo2 (k : Nat) : SG 51 (Cy8 k) := ⟨A1 (Fo0 k) mixed (Fo1 k) (d := k) [D8, .str] [.str, .bool] [] (fun x => Bh1 k x.1 x.2.1) (fun x => Ff2 k x.1 x.2.1), (Gf7).2⟩
theorem Fo3 (k : Nat) : Ok Tryz.prog (A78 k) := D0 (F5) (F4) (O1) (A7 (J6) (A7 (Bg0) (A7 (P9) (A7 (Ay5) (F3))))) (B8 (Fj5) (C1)) (C9) (C0)
theorem Fo4 (k : Nat) : N9 (A78 k) := N7 (B8 (Fj5) (C1))
theorem Z8 (k : Nat) : SG 109 (T3 k) := ⟨A1 (Fo3 k) mixed (Fo4 k) (d := k) [(.int .i64)] [.str] [] (fun x => J2 k x.1) (fun x => Ff4 k x.1), (Fj5).2⟩
theorem Ey9 (k : Nat) : Ok Tryz.prog (B00 k) := D0 (F5) (F4) (O1) (A7 (Bg0) (A7 (P9) (A7 (Ay5) (A7 (Ef5) (F3))))) (B8 (Fl9) (C1)) (C9) (C0)
theorem Ez0 (k : Nat) : N9 (B00 k) := N7 (B8 (Fl9) (C1))
theorem Ez1 (k : Nat) : SG 144 (Ck9 k) := ⟨A1 (Ey9 k) mixed (Ez0 k) (d := k) [(.int .u32)] [.str] [] (fun x => B63 k x.1) (fun x => Er6 k x.1), (Fl9).2⟩
theorem Ez2 (k : Nat) : Ok Tryz.prog (Ak6 k) := D0 (F5) (F4) (O1) (A7 (Bg0) (A7 (P9) (A7 (Ef5) (F3)))) (B8 (Fn2) (C1)) (C9) (C0)
theorem Ez3 (k : Nat) : N9 (Ak6 k) := N7 (B8 (Fn2) (C1))
theorem Ez4 (k : Nat) : SG 163 (Cl0 k) := ⟨A1 (Ez2 k) mixed (Ez3 k) (d := k) [(.int .u32), .str] [(.int .u32)] [] (fun x => B64 k x.1 x.2.1) (fun x => Er8 k x.1 x.2.1), (Fn2).2⟩
theorem F23 (k : Nat) : Ok Tryz.prog (Cs2 k) := D0 (F5) (F4) (O1) (F3) (B8 (Fm0) (C1)) (B1 (Ez4 k) (C9)) (C0)
theorem F24 (k : Nat) : N9 (Cs2 k) := N7 (B8 (Fm0) (C1))
theorem F25 (k : Nat) : SG 145 (Di8 k) := ⟨A1 (F23 k) mixed (F24 k) (d := k) [.str] [(.int .u32)] [] (fun x => Bm7 k x.1) (fun x => F05 k x.1), (Fm0).2⟩
theorem F26 (k : Nat) : Ok Tryz.prog (Cs3 k) := D0 (F5) (F4) (O1) (A7 (P9) (F3)) (B8 (Fj2) (C1)) (B1 (J9 k) (B1 (Z8 k) (B1 (Ez1 k) (B1 (F25 k) (C9))))) (C0)
theorem F27 (k : Nat) : N9 (Cs3 k) := N7 (B8 (Fj2) (C1))
theorem Bk4 (k : Nat) : SG 106 (As7 k) := ⟨A1 (F26 k) mixed (F27 k) (d := k) [.str] [.str, .bool] [] (fun x => T4 k x.1) (fun x => F06 k x.1), (Fj2).2⟩
theorem Ez5 (k : Nat) : Ok Tryz.prog (Aw5 k) := D0 (F5) (F4) (O1) (A7 (J6) (A7 (Bg0) (A7 (P9) (F3)))) (B8 (Fl4) (C1)) (B1 (J9 k) (B1 (Z8 k) (C9))) (C0)
theorem Ez6 (k : Nat) : N9 (Aw5 k) := N7 (B8 (Fl4) (C1))
theorem C12 (k : Nat) : SG 139 (Bp2 k) := ⟨A1 (Ez5 k) mixed (Ez6 k) (d := k) [.str, (.int .i64)] [(.int .i64), (.int .i64), .bool] [] (fun x => u0 k x.1 x.2.1) (fun x => Es2 k x.1 x.2.1), (Fl4).2⟩
theorem Ez7 (k : Nat) : Ok Tryz.prog (Aw6 k) := D0 (F5) (F4) (O1) (A7 (P9) (A7 (Fu9) (F3))) (B8 (Fi8) (C1)) (B1 (Bk4 k) (B1 (C12 k) (C9))) (C0)
theorem Ez8 (k : Nat) : N9 (Aw6 k) := N7 (B8 (Fi8) (C1))
theorem Ez9 (k : Nat) : SG 102 (Cl1 k) := ⟨A1 (Ez7 k) mixed (Ez8 k) (d := k) [.str] [(.slice 9 .str), (.int .i64)] [.o] (fun x => Bh2 k x.1) (fun x => Es4 k x.1), (Fi8).2⟩
theorem Fo5 (k : Nat) : Ok Tryz.prog (Ce9 k) := D0 (F5) (F4) (O1) (A7 (J6) (A7 (Du3) (A7 (P9) (A7 (Ef7) (F3))))) (B8 (Fk5) (C1)) (B1 (C12 k) (C9)) (C0)
theorem Fo6 (k : Nat) : N9 (Ce9 k) := N7 (B8 (Fk5) (C1))
theorem Dm4 (k : Nat) : j6 Tryz.prog 127 (B01 k) ∧ O7 Tryz.prog 127 := ⟨L3 (Fo5 k) mixed (Fo6 k) (d := k) [.box G9] [(.int .i64)] [] (fun x => Av3 k x.1) (fun x => Ff5 k x.1), (Fk5).2⟩
theorem E00 (k : Nat) : Ok Tryz.prog (B02 k) := D0 (F5) (F4) (O1) (A7 (J6) (A7 (Du3) (A7 (P9) (A7 (Ef7) (F3))))) (B8 (Fl5) (C1)) (C9) (C0)
theorem E01 (k : Nat) : N9 (B02 k) := N7 (B8 (Fl5) (C1))
theorem C13 (k : Nat) : j6 Tryz.prog 140 (Bp3 k) ∧ O7 Tryz.prog 140 := ⟨L3 (E00 k) mixed (E01 k) (d := k) [.box G9, .imm (.int .i64)] [.str] [] (fun x => Ac8 k x.1 x.2.1) (fun x => Es5 k x.1 x.2.1), (Fl5).2⟩
theorem Fo7 (k : Nat) : Ok Tryz.prog (Cf0 k) := D0 (F5) (F4) (O1) (A7 (Du3) (A7 (Ef7) (F3))) (B8 (Fi9) (C1)) (B1 (Z8 k) (C9)) (I5 (Dm4 k) (I5 (C13 k) (C0)))
theorem Fo8 (k : Nat) : N9 (Cf0 k) := N7 (B8 (Fi9) (C1))
theorem Dm5 (k : Nat) : SG 103 (B03 k) := ⟨A1 (Fo7 k) mixed (Fo8 k) (d := k) [.str, .str] [(.int .i64), (.int .i64), .bool] [] (fun x => Av4 k x.1 x.2.1) (fun x => Ff6 k x.1 x.2.1), (Fi9).2⟩
theorem E02 (k : Nat) : Ok Tryz.prog (Aw7 k) := D0 (F5) (F4) (O1) (A7 (J6) (A7 (m7) (F3))) (B8 (Fn7) (C1)) (B1 (J9 k) (C9)) (C0)
theorem E03 (k : Nat) : N9 (Aw7 k) := N7 (B8 (Fn7) (C1))
theorem E04 (k : Nat) : SG 180 (Cl2 k) := ⟨A1 (E02 k) mixed (E03 k) (d := k) [(.slice 3 (.int .i64)), (.int .i64), (.int .i64)] [.bool] [] (fun x => B65 k x.1 x.2.1 x.2.2.1) (fun x => Es7 k x.1 x.2.1 x.2.2.1), (Fn7).2⟩
theorem Fo9 (k : Nat) : Ok Tryz.prog (Cf1 k) := D0 (F5) (F4) (O1) (A7 (m7) (F3)) (B8 (Fm8) (C1)) (B1 (J9 k) (B1 (E04 k) (C9))) (C0)
theorem Fp0 (k : Nat) : N9 (Cf1 k) := N7 (B8 (Fm8) (C1))
theorem Dm6 (k : Nat) : SG 159 (B04 k) := ⟨A1 (Fo9 k) mixed (Fp0 k) (d := k) [(.slice 3 (.int .i64))] [.bool] [] (fun x => Av5 k x.1) (fun x => Ff7 k x.1), (Fm8).2⟩
theorem Ef8 (k : Nat) : Ok Tryz.prog (An6 k) := D0 (F5) (F4) (O1) (A7 (J6) (A7 (Bg0) (A7 (P9) (A7 (m7) (F3))))) (B8 (Fk6) (C1)) (B1 (Dm6 k) (C9)) (C0)
theorem Ef9 (k : Nat) : N9 (An6 k) := N7 (B8 (Fk6) (C1))
theorem Eg0 (k : Nat) : SG 128 (Ca8 k) := ⟨A1 (Ef8 k) mixed (Ef9 k) (d := k) [.str] [(.slice 3 (.int .i64)), .bool] [.o] (fun x => A60 k x.1) (fun x => Ec0 k x.1), (Fk6).2⟩
theorem E05 (k : Nat) : Ok Tryz.prog (B05 k) := D0 (F5) (F4) (O1) (A7 (J6) (A7 (P9) (A7 (Ac6) (F3)))) (B8 (Fl6) (C1)) (B1 (J9 k) (B1 (Eg0 k) (C9))) (C0)
theorem E06 (k : Nat) : N9 (B05 k) := N7 (B8 (Fl6) (C1))
theorem C14 (k : Nat) : SG 141 (Bp4 k) := ⟨A1 (E05 k) mixed (E06 k) (d := k) [C3] [.bool] [] (fun x => A43 k x.1) (fun x => Es8 k x.1), (Fl6).2⟩
theorem F28 (k : Nat) : Ok Tryz.prog (Bj0 k) := D0 (F5) (F4) (O1) (A7 (J6) (A7 (Ac5) (A7 (Q0) (A7 (Ac6) (F3))))) (B8 (Fj0) (C1)) (B1 (J9 k) (B1 (C14 k) (C9))) (C0)
theorem F29 (k : Nat) : N9 (Bj0 k) := N7 (B8 (Fj0) (C1))
theorem B82 (k : Nat) : SG 104 (A81 k) := ⟨A1 (F28 k) mixed (F29 k) (d := k) [E6] [.bool] [] (fun x => A19 k x.1) (fun x => F08 k x.1), (Fj0).2⟩
theorem Du7 (k : Nat) : Ok Tryz.prog (Be0 k) := D0 (F5) (F4) (O1) (A7 (J6) (A7 (Bg0) (A7 (P9) (A7 (Ay5) (A7 (Ac6) (F3)))))) (B8 (Fj6) (C1)) (B1 (J9 k) (B1 (Z8 k) (B1 (C14 k) (C9)))) (C0)
theorem Du8 (k : Nat) : N9 (Be0 k) := N7 (B8 (Fj6) (C1))
theorem Cc0 (k : Nat) : SG 110 (A82 k) := ⟨A1 (Du7 k) mixed (Du8 k) (d := k) [(.int .i64), C3] [.str, .bool] [] (fun x => j7 k x.1 x.2.1) (fun x => Dq3 k x.1 x.2.1), (Fj6).2⟩
theorem Du9 (k : Nat) : Ok Tryz.prog (Be1 k) := D0 (F5) (F4) (O1) (A7 (J6) (A7 (Du3) (A7 (Bg0) (A7 (P9) (A7 (Ac6) (A7 (Ef7) (F3))))))) (B8 (Fl7) (C1)) (B1 (Cc0 k) (C9)) (I5 (Dm4 k) (I5 (C13 k) (C0)))
theorem Dv0 (k : Nat) : N9 (Be1 k) := N7 (B8 (Fl7) (C1))
theorem Dv1 (k : Nat) : SG 142 (B07 k) := ⟨A1 (Du9 k) mixed (Dv0 k) (d := k) [.str] [(.int .i64), C3, .bool] [] (fun x => Av6 k x.1) (fun x => Dq4 k x.1), (Fl7).2⟩
theorem E07 (k : Nat) : Ok Tryz.prog (B08 k) := D0 (F5) (F4) (O1) (A7 (J6) (A7 (Ac5) (A7 (Q0) (F3)))) (B8 (Fn1) (C1)) (C9) (C0)
theorem E08 (k : Nat) : N9 (B08 k) := N7 (B8 (Fn1) (C1))
theorem B46 (k : Nat) : SG 162 (A28 k) := ⟨A1 (E07 k) mixed (E08 k) (d := k) [E6] [(.int .i64)] [] (fun x => Ac9 k x.1) (fun x => Es9 k x.1), (Fn1).2⟩
theorem Fp1 (k : Nat) : Ok Tryz.prog (Cf2 k) := D0 (F5) (F4) (O1) (A7 (J6) (A7 (Ac5) (A7 (Q0) (A7 (Ac6) (F3))))) (B8 (Fl8) (C1)) (B1 (J9 k) (B1 (B82 k) (B1 (B46 k) (C9)))) (C0)
theorem Fp2 (k : Nat) : N9 (Cf2 k) := N7 (B8 (Fl8) (C1))
theorem Fp3 (k : Nat) : SG 143 (Cz3 k) := ⟨A1 (Fp1 k) mixed (Fp2 k) (d := k) [E6, (.int .i64), C3] [E6, .bool] [.o] (fun x => Bx3 k x.1 x.2.1 x.2.2.1) (fun x => Ff9 k x.1 x.2.1 x.2.2.1), (Fl8).2⟩
theorem E09 (k : Nat) : Ok Tryz.prog (B09 k) := D0 (F5) (F4) (O1) (A7 (J6) (A7 (Q0) (A7 (Ah3) (A7 (Ac6) (F3))))) (B8 (Fj1) (C1)) (B1 (J9 k) (B1 (Dm5 k) (B1 (Dv1 k) (B1 (Fp3 k) (C9))))) (C0)
theorem E10 (k : Nat) : N9 (B09 k) := N7 (B8 (Fj1) (C1))
theorem E11 (k : Nat) : j6 Tryz.prog 105 (Cl4 k) ∧ O7 Tryz.prog 105 := ⟨L3 (E09 k) mixed (E10 k) (d := k) [.box A6, .imm .str] [.bool] [] (fun x => Ad0 k x.1 x.2.1) (fun x => Et0 k x.1 x.2.1), (Fj1).2⟩
theorem C67 (k : Nat) : Ok Tryz.prog (Y1 k) := D0 (F5) (F4) (O1) (A7 (P9) (A7 (Q0) (A7 (Ah3) (A7 (Fu9) (F3))))) (B8 (Gf8) (C1)) (B1 (J9 k) (B1 (Ez9 k) (B1 (Dm5 k) (B1 (B82 k) (B1 (Bk4 k) (C9)))))) (I5 (E11 k) (C0))
theorem C68 (k : Nat) : N9 (Y1 k) := N7 (B8 (Gf8) (C1))
theorem C69 (k : Nat) : SG 52 (Bj1 k) := ⟨A1 (C67 k) mixed (C68 k) (d := k) [(.int .i64), .str] [A6, (.int .i64), .bool] [.s] (fun x => u2 k x.1 x.2.1) (fun x => C32 k x.1 x.2.1), (Gf8).2⟩
theorem E12 (k : Nat) : Ok Tryz.prog (B10 k) := D0 (F5) (F4) (O1) (A7 (P9) (F3)) (B8 (Fj3) (C1)) (B1 (J9 k) (C9)) (C0)
theorem E13 (k : Nat) : N9 (B10 k) := N7 (B8 (Fj3) (C1))
theorem C15 (k : Nat) : SG 107 (Bp5 k) := ⟨A1 (E12 k) mixed (E13 k) (d := k) [.str] [.bool] [] (fun x => T5 k x.1) (fun x => Et1 k x.1), (Fj3).2⟩
theorem Fp4 (k : Nat) : Ok Tryz.prog (A83 k) := D0 (F5) (F4) (O1) (A7 (J6) (A7 (P9) (A7 (Bk3) (A7 (Aq2) (A7 (Bt8) (F3)))))) (B8 (Gf9) (C1)) (B1 (J9 k) (B1 (C15 k) (C9))) (C0)
theorem Fp5 (k : Nat) : N9 (A83 k) := N7 (B8 (Gf9) (C1))
theorem Cf9 (k : Nat) : SG 53 (Bc1 k) := ⟨A1 (Fp4 k) mixed (Fp5 k) (d := k) [D8] [.bool] [] (fun x => G0 k x.1) (fun x => Fg1 k x.1), (Gf9).2⟩
theorem Dv2 (k : Nat) : Ok Tryz.prog (Be2 k) := D0 (F5) (F4) (O1) (A7 (J6) (A7 (Q0) (A7 (Ah3) (F3)))) (B8 (Gg0) (C1)) (B1 (J9 k) (B1 (B82 k) (C9))) (C0)
theorem Dv3 (k : Nat) : N9 (Be2 k) := N7 (B8 (Gg0) (C1))
theorem Cc1 (k : Nat) : SG 54 (A84 k) := ⟨A1 (Dv2 k) mixed (Dv3 k) (d := k) [A6] [.bool] [] (fun x => Aa9 k x.1) (fun x => Dq8 k x.1), (Gg0).2⟩
theorem E14 (k : Nat) : Ok Tryz.prog (Aw9 k) := D0 (F5) (F4) (eq1 (Cu3) (O1)) (A7 (J6) (A7 (Ac5) (A7 (Q0) (A7 (Ac6) (F3))))) (B8 (Fj4) (C1)) (C9) (C0)
theorem E15 (k : Nat) : N9 (Aw9 k) := N7 (B8 (Fj4) (C1))
theorem E16 (k : Nat) : SG 108 (Cl5 k) := ⟨A1 (E14 k) mixed (E15 k) (d := k) [E6, E6] [.bool] [] (fun x => Bh3 k x.1 x.2.1) (fun x => Et4 k x.1 x.2.1), (Fj4).2⟩
theorem E17 (k : Nat) : Ok Tryz.prog (B11 k) := D0 (F5) (F4) (O1) (A7 (J6) (A7 (Q0) (A7 (Ah3) (F3)))) (B8 (Gg2) (C1)) (B1 (E16 k) (C9)) (C0)
theorem E18 (k : Nat) : N9 (B11 k) := N7 (B8 (Gg2) (C1))
theorem E19 (k : Nat) : SG 56 (Cl6 k) := ⟨A1 (E17 k) mixed (E18 k) (d := k) [A6, A6] [.bool] [] (fun x => A44 k x.1 x.2.1) (fun x => Et5 k x.1 x.2.1), (Gg2).2⟩
theorem E20 (k : Nat) : Ok Tryz.prog (B12 k) := D0 (F5) (F4) (O1) (A7 (Ac5) (A7 (Q0) (A7 (Ah3) (F3)))) (B8 (Gg3) (C1)) (C9) (C0)
theorem E21 (k : Nat) : N9 (B12 k) := N7 (B8 (Gg3) (C1))
theorem B47 (k : Nat) : SG 57 (A29 k) := ⟨A1 (E20 k) mixed (E21 k) (d := k) [A6] [A6] [.o] (fun x => Aj5 k x.1) (fun x => Et6 k x.1), (Gg3).2⟩
theorem E22 (k : Nat) : Ok Tryz.prog (B13 k) := D0 (F5) (F4) (O1) (F3) (B8 (Gg5) (C1)) (B1 (Bk4 k) (B1 (Z8 k) (C9))) (C0)
theorem E23 (k : Nat) : N9 (B13 k) := N7 (B8 (Gg5) (C1))
theorem C16 (k : Nat) : SG 59 (Bp7 k) := ⟨A1 (E22 k) mixed (E23 k) (d := k) [(.int .i64), (.int .i64)] [.str] [] (fun x => M2 k x.1 x.2.1) (fun x => Et7 k x.1 x.2.1), (Gg5).2⟩
theorem Dv4 (k : Nat) : Ok Tryz.prog (Ag6 k) := D0 (F5) (F4) (O1) (A7 (J6) (A7 (P9) (A7 (Ay5) (A7 (Ac5) (A7 (Q0) (A7 (Ac6) (F3))))))) (B8 (Gg6) (C1)) (B1 (Bk4 k) (B1 (Cc0 k) (C9))) (C0)
theorem Dv5 (k : Nat) : N9 (Ag6 k) := N7 (B8 (Gg6) (C1))
theorem Cc2 (k : Nat) : SG 60 (A85 k) := ⟨A1 (Dv4 k) mixed (Dv5 k) (d := k) [E6, (.int .i64)] [.str] [] (fun x => F8 k x.1 x.2.1) (fun x => Dr3 k x.1 x.2.1), (Gg6).2⟩
theorem C70 (k : Nat) : Ok Tryz.prog (Az8 k) := D0 (F5) (F4) (O1) (A7 (J6) (A7 (P9) (A7 (Q0) (A7 (Ah3) (F3))))) (B8 (Gh9) (C1)) (B1 (Cc1 k) (B1 (C16 k) (B1 (Cc2 k) (B1 (Bk4 k) (B1 (Z8 k) (C9)))))) (C0)
theorem C71 (k : Nat) : N9 (Az8 k) := N7 (B8 (Gh9) (C1))
theorem Bt9 (k : Nat) : SG 84 (As8 k) := ⟨A1 (C70 k) mixed (C71 k) (d := k) [A6] [.str, .bool] [] (fun x => u3 k x.1) (fun x => C34 k x.1), (Gh9).2⟩
theorem E24 (k : Nat) : Ok Tryz.prog (B14 k) := D0 (F5) (F4) (O1) (A7 (J6) (A7 (Q0) (A7 (Ah3) (A7 (C11) (A7 (Dm2) (F3)))))) (B8 (Gg4) (C1)) (B1 (A09 k) (B1 (B47 k) (B1 (Bt9 k) (C9)))) (C0)
theorem E25 (k : Nat) : N9 (B14 k) := N7 (B8 (Gg4) (C1))
theorem E26 (k : Nat) : SG 58 (Cl8 k) := ⟨A1 (E24 k) mixed (E25 k) (d := k) [A6, A6] [(.slice 93 X4), A6, .bool] [.o, .o] (fun x => H4 k x.1 x.2.1) (fun x => Et8 k x.1 x.2.1), (Gg4).2⟩
theorem C72 (k : Nat) : Ok Tryz.prog (q8 k) := D0 (F5) (F4) (eq1 (Cu3) (O1)) (A7 (J6) (A7 (P9) (A7 (Aq2) (A7 (Ac5) (A7 (Q0) (A7 (Ah3) (A7 (C11) (A7 (Ac6) (A7 (Dm2) (F3)))))))))) (B8 (Gd1) (C1)) (B1 (A09 k) (B1 (Fo2 k) (B1 (C69 k) (B1 (Cf9 k) (B1 (Cc1 k) (B1 (J9 k) (B1 (E19 k) (B1 (B47 k) (B1 (E26 k) (B1 (C16 k) (B1 (Cc2 k) (C9)))))))))))) (C0)
theorem C73 (k : Nat) : N9 (q8 k) := N7 (B8 (Gd1) (C1))
theorem Bu0 (k : Nat) : SG 14 (As9 k) := ⟨A1 (C72 k) mixed (C73 k) (d := k) [D8, A6, A6] [(.slice 93 X4), A6, .bool] [.o, .o] (fun x => V4 k x.1 x.2.1 x.2.2.1) (fun x => C36 k x.1 x.2.1 x.2.2.1), (Gd1).2⟩
theorem Fp6 (k : Nat) : Ok Tryz.prog (At0 k) := D0 (F5) (F4) (O1) (A7 (P9) (A7 (Bk3) (A7 (Aq2) (A7 (Bt8) (F3))))) (B8 (Gh5) (C1)) (C9) (C0)
theorem Fp7 (k : Nat) : N9 (At0 k) := N7 (B8 (Gh5) (C1))
theorem Fp8 (k : Nat) : SG 72 (Cz5 k) := ⟨A1 (Fp6 k) mixed (Fp7 k) (d := k) [D8, J0] [D8] [.o] (fun x => I6 k x.1 x.2.1) (fun x => Fg3 k x.1 x.2.1), (Gh5).2⟩
theorem Dm7 (k : Nat) : Ok Tryz.prog (Ac0 k) := D0 (F5) (F4) (O1) (A7 (P9) (A7 (Bk3) (A7 (Aq2) (A7 (Bt8) (F3))))) (B8 (Fj7) (C1)) (C9) (C0)
theorem Dm8 (k : Nat) : N9 (Ac0 k) := N7 (B8 (Fj7) (C1))
theorem Dm9 (k : Nat) : SG 111 (Bs8 k) := ⟨A1 (Dm7 k) mixed (Dm8 k) (d := k) [D8, .str] [D8] [.o] (fun x => G8 k x.1 x.2.1) (fun x => Dj3 k x.1 x.2.1), (Fj7).2⟩
theorem F30 (k : Nat) : Ok Tryz.prog (Cs7 k) := D0 (F5) (F4) (O1) (A7 (J6) (A7 (P9) (A7 (Bk3) (A7 (Aq2) (A7 (Dm2) (A7 (Bt8) (F3))))))) (B8 (Gg7) (C1)) (B1 (Cf9 k) (B1 (Fp8 k) (B1 (D49 k) (B1 (C15 k) (B1 (Dm9 k) (C9)))))) (C0)
theorem F31 (k : Nat) : N9 (Cs7 k) := N7 (B8 (Gg7) (C1))
theorem F32 (k : Nat) : SG 61 (Dj4 k) := ⟨A1 (F30 k) mixed (F31 k) (d := k) [D8, X4] [D8, .bool] [.o] (fun x => b8 k x.1 x.2.1) (fun x => F09 k x.1 x.2.1), (Gg7).2⟩
theorem Fp9 (k : Nat) : Ok Tryz.prog (A86 k) := D0 (F5) (F4) (O1) (A7 (Bk3) (A7 (Aq2) (A7 (C11) (A7 (Dm2) (F3))))) (B8 (Gd2) (C1)) (B1 (F32 k) (C9)) (C0)
theorem Fq0 (k : Nat) : N9 (A86 k) := N7 (B8 (Gd2) (C1))
theorem Cg0 (k : Nat) : SG 15 (Bc3 k) := ⟨A1 (Fp9 k) mixed (Fq0 k) (d := k) [D8, (.slice 93 X4)] [D8, (.int .i64)] [.o] (fun x => Av7 k x.1 x.2.1) (fun x => Fg5 k x.1 x.2.1), (Gd2).2⟩
theorem E27 (k : Nat) : Ok Tryz.prog (B16 k) := D0 (F5) (F4) (O1) (A7 (J6) (A7 (Bg0) (A7 (Ay5) (A7 (Fi5) (F3))))) (B8 (Gh0) (C1)) (C9) (C0)
theorem E28 (k : Nat) : N9 (B16 k) := N7 (B8 (Gh0) (C1))
theorem C17 (k : Nat) : j6 Tryz.prog 64 (Bp9 k) ∧ O7 Tryz.prog 64 := ⟨L3 (E27 k) mixed (E28 k) (d := k) [.box B9] [(.int .i64)] [] (fun x => X6 k x.1) (fun x => Eu3 k x.1), (Gh0).2⟩
theorem Eg1 (k : Nat) : Ok Tryz.prog (Bq0 k) := D0 (F5) (F4) (O1) (F3) (B8 (Gh1) (C1)) (C9) (I5 (C17 k) (C0))
theorem Eg2 (k : Nat) : N9 (Bq0 k) := N7 (B8 (Gh1) (C1))
theorem P3 (k : Nat) : j6 Tryz.prog 65 (M0 k) ∧ O7 Tryz.prog 65 := ⟨L3 (Eg1 k) mixed (Eg2 k) (d := k) [.box B9, .imm (.int .i64)] [(.int .i64)] [] (fun x => C7 k x.1 x.2.1) (fun x => Ec3 k x.1 x.2.1), (Gh1).2⟩
theorem E29 (k : Nat) : Ok Tryz.prog (B17 k) := D0 (F5) (F4) (O1) (A7 (J6) (A7 (Ac5) (A7 (Q0) (A7 (Ac6) (F3))))) (B8 (Gi1) (C1)) (C9) (C0)
theorem E30 (k : Nat) : N9 (B17 k) := N7 (B8 (Gi1) (C1))
theorem C18 (k : Nat) : SG 86 (Bq1 k) := ⟨A1 (E29 k) mixed (E30 k) (d := k) [E6] [(.int .i64), (.int .i64)] [] (fun x => Aj7 k x.1) (fun x => Eu4 k x.1), (Gi1).2⟩
theorem E31 (k : Nat) : Ok Tryz.prog (B18 k) := D0 (F5) (F4) (O1) (F3) (B8 (Gi3) (C1)) (C9) (I5 (P3 k) (C0))
theorem E32 (k : Nat) : N9 (B18 k) := N7 (B8 (Gi3) (C1))
theorem Al0 (k : Nat) : j6 Tryz.prog 88 (o9 k) ∧ O7 Tryz.prog 88 := ⟨L3 (E31 k) mixed (E32 k) (d := k) [.box B9, .imm (.int .i64)] [.bool] [] (fun x => P4 k x.1 x.2.1) (fun x => Eu5 k x.1 x.2.1), (Gi3).2⟩
theorem E33 (k : Nat) : Ok Tryz.prog (Ax2 k) := D0 (F5) (F4) (O1) (A7 (m7) (F3)) (B8 (Gh4) (C1)) (C9) (I5 (Al0 k) (C0))
theorem E34 (k : Nat) : N9 (Ax2 k) := N7 (B8 (Gh4) (C1))
theorem E35 (k : Nat) : j6 Tryz.prog 70 (Cl9 k) ∧ O7 Tryz.prog 70 := ⟨L3 (E33 k) mixed (E34 k) (d := k) [.box B9] [(.slice 3 (.int .i64))] [.o] (fun x => Bh4 k x.1) (fun x => Eu7 k x.1), (Gh4).2⟩
theorem Eg3 (k : Nat) : Ok Tryz.prog (Ao0 k) := D0 (F5) (F4) (O1) (A7 (J6) (A7 (Bg0) (A7 (P9) (A7 (Ay5) (A7 (m7) (F3)))))) (B8 (Fk3) (C1)) (B1 (Dm6 k) (C9)) (C0)
theorem Eg4 (k : Nat) : N9 (Ao0 k) := N7 (B8 (Fk3) (C1))
theorem Eg5 (k : Nat) : SG 121 (Cb0 k) := ⟨A1 (Eg3 k) mixed (Eg4 k) (d := k) [(.slice 3 (.int .i64))] [.str, .bool] [] (fun x => A61 k x.1) (fun x => Ec6 k x.1), (Fk3).2⟩
theorem Dn0 (k : Nat) : Ok Tryz.prog (A88 k) := D0 (F5) (F4) (O1) (A7 (J6) (A7 (m7) (F3))) (B8 (Fm6) (C1)) (C9) (I5 (P3 k) (C0))
theorem Dn1 (k : Nat) : N9 (A88 k) := N7 (B8 (Fm6) (C1))
theorem B48 (k : Nat) : j6 Tryz.prog 157 (Az9 k) ∧ O7 Tryz.prog 157 := ⟨L3 (Dn0 k) mixed (Dn1 k) (d := k) [.box B9, .imm (.slice 3 (.int .i64))] [(.int .i64)] [] (fun x => Ad2 k x.1 x.2.1) (fun x => Dj7 k x.1 x.2.1), (Fm6).2⟩
theorem Eg6 (k : Nat) : Ok Tryz.prog (Bq2 k) := D0 (F5) (F4) (O1) (A7 (P9) (F3)) (B8 (Fj9) (C1)) (B1 (Z8 k) (C9)) (C0)
theorem Eg7 (k : Nat) : N9 (Bq2 k) := N7 (B8 (Fj9) (C1))
theorem Co5 (k : Nat) : SG 116 (Be5 k) := ⟨A1 (Eg6 k) mixed (Eg7 k) (d := k) [.str] [.str] [] (fun x => Ai1 k x.1) (fun x => Ec7 k x.1), (Fj9).2⟩
theorem Dv6 (k : Nat) : Ok Tryz.prog (Ag8 k) := D0 (F5) (F4) (O1) (A7 (J6) (A7 (m7) (F3))) (B8 (Fn9) (C1)) (B1 (J9 k) (C9)) (C0)
theorem Dv7 (k : Nat) : N9 (Ag8 k) := N7 (B8 (Fn9) (C1))
theorem Dv8 (k : Nat) : SG 195 (B19 k) := ⟨A1 (Dv6 k) mixed (Dv7 k) (d := k) [(.slice 3 (.int .i64))] [.bool] [] (fun x => Y6 k x.1) (fun x => Ds0 k x.1), (Fn9).2⟩
theorem E36 (k : Nat) : Ok Tryz.prog (B20 k) := D0 (F5) (F4) (O1) (A7 (J6) (A7 (P9) (A7 (m7) (A7 (Bg1) (F3))))) (B8 (Fn4) (C1)) (B1 (J9 k) (B1 (Dv8 k) (C9))) (C0)
theorem E37 (k : Nat) : N9 (B20 k) := N7 (B8 (Fn4) (C1))
theorem C19 (k : Nat) : SG 170 (Bq3 k) := ⟨A1 (E36 k) mixed (E37 k) (d := k) [H1] [.bool] [] (fun x => X7 k x.1) (fun x => Eu8 k x.1), (Fn4).2⟩
theorem E38 (k : Nat) : Ok Tryz.prog (Ax3 k) := D0 (F5) (F4) (O1) (A7 (J6) (A7 (Du3) (A7 (m7) (A7 (Bg1) (F3))))) (B8 (Fm3) (C1)) (B1 (J9 k) (B1 (C19 k) (C9))) (C0)
theorem E39 (k : Nat) : N9 (Ax3 k) := N7 (B8 (Fm3) (C1))
theorem B49 (k : Nat) : SG 152 (A31 k) := ⟨A1 (E38 k) mixed (E39 k) (d := k) [H1] [.bool] [] (fun x => N1 k x.1) (fun x => Ev0 k x.1), (Fm3).2⟩
theorem E40 (k : Nat) : Ok Tryz.prog (B21 k) := D0 (F5) (F4) (O1) (A7 (J6) (A7 (Bg0) (A7 (P9) (A7 (Ay5) (F3))))) (B8 (Fn5) (C1)) (C9) (C0)
theorem E41 (k : Nat) : N9 (B21 k) := N7 (B8 (Fn5) (C1))
theorem C20 (k : Nat) : SG 171 (Bq4 k) := ⟨A1 (E40 k) mixed (E41 k) (d := k) [(.int .i64)] [.str] [] (fun x => X8 k x.1) (fun x => Ev1 k x.1), (Fn5).2⟩
theorem C74 (k : Nat) : Ok Tryz.prog (s5 k) := D0 (F5) (F4) (O1) (A7 (J6) (A7 (P9) (A7 (m7) (A7 (Bg1) (F3))))) (B8 (Fm4) (C1)) (B1 (Z8 k) (B1 (Co5 k) (B1 (C20 k) (C9)))) (C0)
theorem C75 (k : Nat) : N9 (s5 k) := N7 (B8 (Fm4) (C1))
theorem Bu1 (k : Nat) : SG 153 (At2 k) := ⟨A1 (C74 k) mixed (C75 k) (d := k) [H1] [.str] [] (fun x => Z3 k x.1) (fun x => C39 k x.1), (Fm4).2⟩
theorem Dv9 (k : Nat) : Ok Tryz.prog (Ag9 k) := D0 (F5) (F4) (O1) (A7 (J6) (A7 (m7) (A7 (Bg1) (F3)))) (B8 (Fk0) (C1)) (B1 (Z8 k) (B1 (B49 k) (B1 (Bu1 k) (C9)))) (C0)
theorem Dw0 (k : Nat) : N9 (Ag9 k) := N7 (B8 (Fk0) (C1))
theorem Dw1 (k : Nat) : SG 117 (B22 k) := ⟨A1 (Dv9 k) mixed (Dw0 k) (d := k) [H1] [.str, .bool] [] (fun x => Av8 k x.1) (fun x => Ds4 k x.1), (Fk0).2⟩
theorem C76 (k : Nat) : Ok Tryz.prog (s6 k) := D0 (F5) (F4) (O1) (A7 (J6) (A7 (m7) (F3))) (B8 (Fm2) (C1)) (C9) (C0)
theorem C77 (k : Nat) : N9 (s6 k) := N7 (B8 (Fm2) (C1))
theorem C78 (k : Nat) : SG 151 (Bj2 k) := ⟨A1 (C76 k) mixed (C77 k) (d := k) [(.slice 3 (.int .i64)), (.slice 3 (.int .i64))] [.bool] [] (fun x => S0 k x.1 x.2.1) (fun x => C41 k x.1 x.2.1), (Fm2).2⟩
theorem E42 (k : Nat) : Ok Tryz.prog (B23 k) := D0 (F5) (F4) (O1) (A7 (J6) (A7 (P9) (A7 (m7) (A7 (Bg1) (F3))))) (B8 (Fn8) (C1)) (B1 (C78 k) (C9)) (C0)
theorem E43 (k : Nat) : N9 (B23 k) := N7 (B8 (Fn8) (C1))
theorem E44 (k : Nat) : SG 193 (Cm1 k) := ⟨A1 (E42 k) mixed (E43 k) (d := k) [H1, H1] [.bool] [] (fun x => A45 k x.1 x.2.1) (fun x => Ev2 k x.1 x.2.1), (Fn8).2⟩
theorem Eg8 (k : Nat) : Ok Tryz.prog (Bq5 k) := D0 (F5) (F4) (O1) (A7 (Bg1) (F3)) (B8 (Fn6) (C1)) (B1 (E44 k) (C9)) (C0)
theorem Eg9 (k : Nat) : N9 (Bq5 k) := N7 (B8 (Fn6) (C1))
theorem Eh0 (k : Nat) : SG 172 (Cb3 k) := ⟨A1 (Eg8 k) mixed (Eg9 k) (d := k) [H1] [.bool] [] (fun x => Ar7 k x.1) (fun x => Ec9 k x.1), (Fn6).2⟩
theorem Dw2 (k : Nat) : Ok Tryz.prog (Be7 k) := D0 (F5) (F4) (O1) (A7 (J6) (A7 (m7) (A7 (Bg1) (A7 (Ef6) (F3))))) (B8 (Fm5) (C1)) (B1 (J9 k) (B1 (B49 k) (B1 (C19 k) (B1 (Eh0 k) (C9))))) (C0)
theorem Dw3 (k : Nat) : N9 (Be7 k) := N7 (B8 (Fm5) (C1))
theorem Dw4 (k : Nat) : SG 154 (B24 k) := ⟨A1 (Dw2 k) mixed (Dw3 k) (d := k) [T2] [.bool] [] (fun x => Aj8 k x.1) (fun x => Ds6 k x.1), (Fm5).2⟩
theorem C79 (k : Nat) : Ok Tryz.prog (A02 k) := D0 (F5) (F4) (O1) (A7 (J6) (A7 (Bg1) (A7 (Ef6) (F3)))) (B8 (Fm9) (C1)) (B1 (Z8 k) (B1 (Co5 k) (B1 (Dw1 k) (B1 (Bu1 k) (B1 (Dw4 k) (B1 (C20 k) (C9))))))) (C0)
theorem C80 (k : Nat) : N9 (A02 k) := N7 (B8 (Fm9) (C1))
theorem C81 (k : Nat) : SG 160 (Bj3 k) := ⟨A1 (C79 k) mixed (C80 k) (d := k) [T2] [.str, .bool] [] (fun x => u4 k x.1) (fun x => C43 k x.1), (Fm9).2⟩
theorem E45 (k : Nat) : Ok Tryz.prog (Ax4 k) := D0 (F5) (F4) (O1) (A7 (Gu0) (A7 (Fi4) (A7 (Gu1) (F3)))) (B8 (Fk1) (C1)) (C9) (C0)
theorem E46 (k : Nat) : N9 (Ax4 k) := N7 (B8 (Fk1) (C1))
theorem E47 (k : Nat) : SG 118 (Cm3 k) := ⟨A1 (E45 k) mixed (E46 k) (d := k) [] [A76] [.o, .o, .o, .o, .o] (fun x => Bh5 k) (fun x => Ev4 k), (Fk1).2⟩
theorem Dw5 (k : Nat) : j6 Tryz.prog 175 (B25 k) ∧ O7 Tryz.prog 175 := ⟨Fb8 [.box B9] [H1] [.o, .o] (fun x => Bb2 k x.1) (fun x => rfl), (Gu8).2⟩
theorem Fq1 (k : Nat) : SG 176 (Cz9 k) := ⟨Au0 [Ar3] [(.slice 3 (.int .i64))] [.o] (fun x => Df2 k x.1) (fun x => rfl), (Gu9).2⟩
theorem E48 (k : Nat) : SG 177 (Cm4 k) := ⟨Au0 [Ar3, (.slice 3 (.int .i64))] [(.int .i64)] [] (fun x => A46 k x.1 x.2.1) (fun x => rfl), (Gv0).2⟩
theorem Dw6 (k : Nat) : SG 178 (B26 k) := ⟨Au0 [Ar3, (.slice 3 (.int .i64))] [(.slice 260 Ck6), .bool] [.o] (fun x => Aj9 k x.1 x.2.1) (fun x => rfl), (Gv1).2⟩
theorem E49 (k : Nat) : SG 179 (Cm5 k) := ⟨Au0 [(.slice 162 H1), (.slice 260 Ck6), H1] [.bool] [] (fun x => Cq4 k x.1 x.2.1 x.2.2.1) (fun x => rfl), (Gv2).2⟩
theorem E50 (k : Nat) : Ok Tryz.prog (Ak7 k) := D0 (F5) (F4) (O1) (A7 (J6) (A7 (m7) (A7 (Gt9) (A7 (Gc5) (A7 (Bg1) (F3)))))) (B8 (Fm7) (C1)) (B1 (Fq1 k) (B1 (E48 k) (B1 (Dw6 k) (B1 (E49 k) (C9))))) (I5 (P3 k) (I5 (Al0 k) (I5 (Dw5 k) (C0))))
theorem E51 (k : Nat) : N9 (Ak7 k) := N7 (B8 (Fm7) (C1))
theorem E52 (k : Nat) : j6 Tryz.prog 158 (Cm6 k) ∧ O7 Tryz.prog 158 := ⟨L3 (E50 k) mixed (E51 k) (d := k) [.box B9, .imm Ar3, .imm (.int .i64)] [H1] [.o, .o] (fun x => O5 k x.1 x.2.1 x.2.2.1) (fun x => Ev6 k x.1 x.2.1 x.2.2.1), (Fm7).2⟩
theorem Dn2 (k : Nat) : Ok Tryz.prog (Ac3 k) := D0 (F5) (F4) (O1) (A7 (J6) (A7 (m7) (A7 (Gc4) (A7 (Gc5) (A7 (Fi4) (A7 (Gc6) (A7 (Bg1) (A7 (Ef6) (F3))))))))) (B8 (Fk2) (C1)) (B1 (B49 k) (C9)) (I5 (P3 k) (I5 (Al0 k) (I5 (B48 k) (I5 (E52 k) (C0)))))
theorem Dn3 (k : Nat) : N9 (Ac3 k) := N7 (B8 (Fk2) (C1))
theorem Dn4 (k : Nat) : j6 Tryz.prog 120 (Bt1 k) ∧ O7 Tryz.prog 120 := ⟨L3 (Dn2 k) mixed (Dn3 k) (d := k) [.box B9, .imm A76] [T2] [.o, .o] (fun x => Am3 k x.1 x.2.1) (fun x => Dk3 k x.1 x.2.1), (Fk2).2⟩
theorem Eh1 (k : Nat) : Ok Tryz.prog (Bq6 k) := D0 (F5) (F4) (O1) (A7 (Gc4) (A7 (Fi4) (A7 (Gc6) (A7 (Ef6) (F3))))) (B8 (Fn0) (C1)) (B1 (E47 k) (C9)) (I5 (P3 k) (I5 (Dn4 k) (C0)))
theorem Eh2 (k : Nat) : N9 (Bq6 k) := N7 (B8 (Fn0) (C1))
theorem Eh3 (k : Nat) : j6 Tryz.prog 161 (Cb4 k) ∧ O7 Tryz.prog 161 := ⟨L3 (Eh1 k) mixed (Eh2 k) (d := k) [.box B9] [T2] [.o, .o] (fun x => A62 k x.1) (fun x => Ed3 k x.1), (Fn0).2⟩
theorem Eh4 (k : Nat) : Ok Tryz.prog (Bq7 k) := D0 (F5) (F4) (O1) (A7 (J6) (A7 (P9) (A7 (m7) (A7 (Ac6) (F3))))) (B8 (Fk7) (C1)) (B1 (Eg5 k) (B1 (C81 k) (C9))) (I5 (E35 k) (I5 (B48 k) (I5 (Eh3 k) (C0))))
theorem Eh5 (k : Nat) : N9 (Bq7 k) := N7 (B8 (Fk7) (C1))
theorem Co6 (k : Nat) : j6 Tryz.prog 130 (Be9 k) ∧ O7 Tryz.prog 130 := ⟨L3 (Eh4 k) mixed (Eh5 k) (d := k) [.box B9, .imm (.int .i64)] [C3] [] (fun x => Ai2 k x.1 x.2.1) (fun x => Ed4 k x.1 x.2.1), (Fk7).2⟩
theorem E53 (k : Nat) : Ok Tryz.prog (B28 k) := D0 (F5) (F4) (O1) (A7 (J6) (A7 (Ac5) (A7 (Q0) (A7 (Ac6) (F3))))) (B8 (Fk9) (C1)) (B1 (B46 k) (C9)) (C0)
theorem E54 (k : Nat) : N9 (B28 k) := N7 (B8 (Fk9) (C1))
theorem C21 (k : Nat) : SG 132 (Bq8 k) := ⟨A1 (E53 k) mixed (E54 k) (d := k) [E6, (.int .i64)] [(.int .i64)] [] (fun x => Ar8 k x.1 x.2.1) (fun x => Ev7 k x.1 x.2.1), (Fk9).2⟩
theorem Dw7 (k : Nat) : Ok Tryz.prog (Bf0 k) := D0 (F5) (F4) (O1) (A7 (J6) (A7 (Ac5) (A7 (Q0) (F3)))) (B8 (Fk8) (C1)) (B1 (J9 k) (B1 (B82 k) (B1 (C21 k) (B1 (B46 k) (C9))))) (C0)
theorem Dw8 (k : Nat) : N9 (Bf0 k) := N7 (B8 (Fk8) (C1))
theorem Dw9 (k : Nat) : SG 131 (B29 k) := ⟨A1 (Dw7 k) mixed (Dw8 k) (d := k) [E6, (.int .i64), (.int .i64)] [E6] [.o] (fun x => Av9 k x.1 x.2.1 x.2.2.1) (fun x => Ds8 k x.1 x.2.1 x.2.2.1), (Fk8).2⟩
theorem E55 (k : Nat) : Ok Tryz.prog (Ax5 k) := D0 (F5) (F4) (O1) (A7 (J6) (A7 (Ac5) (A7 (Q0) (F3)))) (B8 (Gi2) (C1)) (B1 (C18 k) (B1 (Dw9 k) (B1 (C21 k) (C9)))) (I5 (P3 k) (I5 (Al0 k) (I5 (Co6 k) (C0))))
theorem E56 (k : Nat) : N9 (Ax5 k) := N7 (B8 (Gi2) (C1))
theorem E57 (k : Nat) : j6 Tryz.prog 87 (Cm7 k) ∧ O7 Tryz.prog 87 := ⟨L3 (E55 k) mixed (E56 k) (d := k) [.box B9, .imm E6] [E6] [.o] (fun x => Bh6 k x.1 x.2.1) (fun x => Ev9 k x.1 x.2.1), (Gi2).2⟩
theorem E58 (k : Nat) : Ok Tryz.prog (B30 k) := D0 (F5) (F4) (O1) (A7 (J6) (A7 (Q0) (A7 (Ah3) (F3)))) (B8 (Ge1) (C1)) (B1 (B47 k) (C9)) (I5 (P3 k) (I5 (E57 k) (I5 (Al0 k) (C0))))
theorem E59 (k : Nat) : N9 (B30 k) := N7 (B8 (Ge1) (C1))
theorem C22 (k : Nat) : j6 Tryz.prog 35 (Bq9 k) ∧ O7 Tryz.prog 35 := ⟨L3 (E58 k) mixed (E59 k) (d := k) [.box B9, .imm A6] [A6] [.o] (fun x => Ad5 k x.1 x.2.1) (fun x => Ew0 k x.1 x.2.1), (Ge1).2⟩
theorem E60 (k : Nat) : Ok Tryz.prog (Ak8 k) := D0 (F5) (F4) (O1) (A7 (J6) (A7 (P9) (A7 (Bk3) (A7 (Aq2) (A7 (Ah3) (A7 (Bt8) (F3))))))) (B8 (Gd9) (C1)) (B1 (Bu0 k) (B1 (Cg0 k) (B1 (A09 k) (B1 (Bt9 k) (C9))))) (I5 (C22 k) (I5 (P3 k) (C0)))
theorem E61 (k : Nat) : N9 (Ak8 k) := N7 (B8 (Gd9) (C1))
theorem E62 (k : Nat) : j6 Tryz.prog 33 (Cm8 k) ∧ O7 Tryz.prog 33 := ⟨L3 (E60 k) mixed (E61 k) (d := k) [.box B9, .imm A6] [D8, A6] [.o, .s] (fun x => Ak0 k x.1 x.2.1) (fun x => Ew2 k x.1 x.2.1), (Gd9).2⟩
theorem Eh6 (k : Nat) : Ok Tryz.prog (Ao8 k) := D0 (F5) (F4) (O1) (A7 (J6) (A7 (Ac5) (A7 (Q0) (F3)))) (B8 (Gi0) (C1)) (C9) (I5 (P3 k) (I5 (Al0 k) (I5 (Co6 k) (C0))))
theorem Eh7 (k : Nat) : N9 (Ao8 k) := N7 (B8 (Gi0) (C1))
theorem Eh8 (k : Nat) : j6 Tryz.prog 85 (Cb5 k) ∧ O7 Tryz.prog 85 := ⟨L3 (Eh6 k) mixed (Eh7 k) (d := k) [.box B9] [E6] [.o] (fun x => A63 k x.1) (fun x => Ed9 k x.1), (Gi0).2⟩
theorem Eh9 (k : Nat) : Ok Tryz.prog (Br0 k) := D0 (F5) (F4) (O1) (A7 (Q0) (A7 (Ah3) (F3))) (B8 (Ge0) (C1)) (B1 (C18 k) (C9)) (I5 (P3 k) (I5 (Eh8 k) (C0)))
theorem Ei0 (k : Nat) : N9 (Br0 k) := N7 (B8 (Ge0) (C1))
theorem Ei1 (k : Nat) : j6 Tryz.prog 34 (Cb6 k) ∧ O7 Tryz.prog 34 := ⟨L3 (Eh9 k) mixed (Ei0 k) (d := k) [.box B9] [A6] [.o] (fun x => Ai3 k x.1) (fun x => Ee0 k x.1), (Ge0).2⟩
theorem Bv0 (k : Nat) : Ok Tryz.prog (P8 k) := D0 (F5) (F4) (O1) (A7 (J6) (A7 (Bg0) (A7 (Ay5) (A7 (Aq2) (A7 (Ah3) (A7 (Fi5) (F3))))))) (B8 (Gu4) (B8 (Fv0) (C1))) (C9) (I5 (E62 k) (I5 (Ei1 k) (I5 (C22 k) (C0))))
theorem Bv1 (k : Nat) : N9 (P8 k) := N7 (B8 (Gu4) (B8 (Fv0) (C1)))
theorem Bv2 (k : Nat) : SG 8 (Ao9 k) := ⟨A1 (Bv0 k) mixed (Bv1 k) (d := k) [(.slice 5 (.int .u8))] [D8, A6, A6] [.o, .s, .o] (fun x => U4 k x.1) (fun x => Bu8 k x.1), (Gu4).2⟩
theorem Fq2 (k : Nat) : Ok Tryz.prog (Cf3 k) := D0 (F5) (F4) (O1) (F3) (B8 (Ge5) (C1)) (C9) (C0)
theorem Fq3 (k : Nat) : N9 (Cf3 k) := N7 (B8 (Ge5) (C1))
theorem R4 (k : Nat) : SG 39 (N0 k) := ⟨A1 (Fq2 k) mixed (Fq3 k) (d := k) [(.int .i64), (.int .i64), (.int .i64)] [.bool] [] (fun x => M7 k x.1 x.2.1 x.2.2.1) (fun x => Fg6 k x.1 x.2.1 x.2.2.1), (Ge5).2⟩
theorem Fq4 (k : Nat) : Ok Tryz.prog (A90 k) := D0 (F5) (F4) (O1) (A7 (J6) (A7 (m7) (F3))) (B8 (Fk4) (C1)) (B1 (R4 k) (C9)) (C0)
theorem Fq5 (k : Nat) : N9 (A90 k) := N7 (B8 (Fk4) (C1))
theorem Fq6 (k : Nat) : SG 123 (C03 k) := ⟨A1 (Fq4 k) mixed (Fq5 k) (d := k) [(.slice 3 (.int .i64))] [.bool] [] (fun x => Bx9 k x.1) (fun x => Fg8 k x.1), (Fk4).2⟩
theorem Ei2 (k : Nat) : Ok Tryz.prog (Ap0 k) := D0 (F5) (F4) (O1) (A7 (J6) (A7 (Bg0) (A7 (P9) (A7 (m7) (F3))))) (B8 (Gh8) (C1)) (B1 (Fq6 k) (C9)) (C0)
theorem Ei3 (k : Nat) : N9 (Ap0 k) := N7 (B8 (Gh8) (C1))
theorem Ei4 (k : Nat) : SG 80 (Cb7 k) := ⟨A1 (Ei2 k) mixed (Ei3 k) (d := k) [.str] [(.slice 3 (.int .i64)), .bool] [.o] (fun x => A64 k x.1) (fun x => Ee3 k x.1), (Gh8).2⟩
theorem E63 (k : Nat) : Ok Tryz.prog (B31 k) := D0 (F5) (F4) (O1) (A7 (J6) (A7 (P9) (A7 (Ac6) (F3)))) (B8 (Gj2) (C1)) (B1 (R4 k) (B1 (Ei4 k) (C9))) (C0)
theorem E64 (k : Nat) : N9 (B31 k) := N7 (B8 (Gj2) (C1))
theorem B50 (k : Nat) : SG 97 (A34 k) := ⟨A1 (E63 k) mixed (E64 k) (d := k) [C3] [.bool] [] (fun x => Ak1 k x.1) (fun x => Ew4 k x.1), (Gj2).2⟩
theorem F33 (k : Nat) : Ok Tryz.prog (Bj4 k) := D0 (F5) (F4) (O1) (A7 (J6) (A7 (Ac5) (A7 (Q0) (A7 (Ac6) (F3))))) (B8 (Ge9) (C1)) (B1 (R4 k) (B1 (B50 k) (C9))) (C0)
theorem F34 (k : Nat) : N9 (Bj4 k) := N7 (B8 (Ge9) (C1))
theorem D50 (k : Nat) : SG 43 (Cf4 k) := ⟨A1 (F33 k) mixed (F34 k) (d := k) [E6] [.bool] [] (fun x => Bb4 k x.1) (fun x => F11 k x.1), (Ge9).2⟩
theorem Dx0 (k : Nat) : Ok Tryz.prog (Bf2 k) := D0 (F5) (F4) (O1) (A7 (J6) (A7 (Q0) (A7 (Ah3) (F3)))) (B8 (Gc9) (C1)) (B1 (R4 k) (B1 (D50 k) (C9))) (C0)
theorem Dx1 (k : Nat) : N9 (Bf2 k) := N7 (B8 (Gc9) (C1))
theorem Au8 (k : Nat) : SG 12 (Ac4 k) := ⟨A1 (Dx0 k) mixed (Dx1 k) (d := k) [A6] [.bool] [] (fun x => Y7 k x.1) (fun x => Dt3 k x.1), (Gc9).2⟩
theorem E65 (k : Nat) : Ok Tryz.prog (Ax7 k) := D0 (F5) (F4) (O1) (A7 (J6) (A7 (Bg0) (A7 (P9) (A7 (Ay5) (F3))))) (B8 (Gi8) (C1)) (B1 (R4 k) (C9)) (C0)
theorem E66 (k : Nat) : N9 (Ax7 k) := N7 (B8 (Gi8) (C1))
theorem B51 (k : Nat) : SG 93 (A35 k) := ⟨A1 (E65 k) mixed (E66 k) (d := k) [(.int .i64)] [.str, .bool] [] (fun x => X9 k x.1) (fun x => Ew6 k x.1), (Gi8).2⟩
theorem E67 (k : Nat) : Ok Tryz.prog (Ak9 k) := D0 (F5) (F4) (O1) (A7 (Bg0) (A7 (P9) (A7 (Ef5) (F3)))) (B8 (Fl0) (C1)) (C9) (C0)
theorem E68 (k : Nat) : N9 (Ak9 k) := N7 (B8 (Fl0) (C1))
theorem E69 (k : Nat) : SG 133 (Cn1 k) := ⟨A1 (E67 k) mixed (E68 k) (d := k) [(.int .u32), .str] [(.int .u32)] [] (fun x => B66 k x.1 x.2.1) (fun x => Ew8 k x.1 x.2.1), (Fl0).2⟩
theorem F35 (k : Nat) : Ok Tryz.prog (Ct1 k) := D0 (F5) (F4) (O1) (F3) (B8 (Gi9) (C1)) (B1 (E69 k) (C9)) (C0)
theorem F36 (k : Nat) : N9 (Ct1 k) := N7 (B8 (Gi9) (C1))
theorem F37 (k : Nat) : SG 94 (Dk8 k) := ⟨A1 (F35 k) mixed (F36 k) (d := k) [.str] [(.int .u32)] [] (fun x => Ci5 k x.1) (fun x => F12 k x.1), (Gi9).2⟩
theorem F38 (k : Nat) : Ok Tryz.prog (Ct2 k) := D0 (F5) (F4) (O1) (A7 (Bg0) (A7 (P9) (A7 (Ay5) (A7 (Ef5) (F3))))) (B8 (Ge7) (C1)) (B1 (R4 k) (B1 (B51 k) (B1 (F37 k) (C9)))) (C0)
theorem F39 (k : Nat) : N9 (Ct2 k) := N7 (B8 (Ge7) (C1))
theorem B83 (k : Nat) : SG 41 (A93 k) := ⟨A1 (F38 k) mixed (F39 k) (d := k) [.str] [.str, .bool] [] (fun x => o0 k x.1) (fun x => F13 k x.1), (Ge7).2⟩
theorem Gj7 (k : Nat) : Ok Tryz.prog (B33 k) := D0 (F5) (F4) (O1) (A7 (J6) (A7 (P9) (A7 (Ay5) (A7 (m7) (F3))))) (B8 (Gh6) (C1)) (B1 (B51 k) (C9)) (C0)
theorem Gj8 (k : Nat) : N9 (B33 k) := N7 (B8 (Gh6) (C1))
theorem E70 (k : Nat) : SG 75 (Ct3 k) := ⟨A1 (Gj7 k) mixed (Gj8 k) (d := k) [(.slice 3 (.int .i64))] [.str, .bool] [] (fun x => Cd4 k x.1) (fun x => Gb7 k x.1), (Gh6).2⟩
theorem Dx2 (k : Nat) : Ok Tryz.prog (Bf4 k) := D0 (F5) (F4) (O1) (A7 (m7) (F3)) (B8 (Ge2) (C1)) (B1 (B83 k) (B1 (E70 k) (C9))) (C0)
theorem Dx3 (k : Nat) : N9 (Bf4 k) := N7 (B8 (Ge2) (C1))
theorem Cc3 (k : Nat) : SG 36 (A94 k) := ⟨A1 (Dx2 k) mixed (Dx3 k) (d := k) [.str, (.int .i64), (.int .i64)] [.str] [] (fun x => K7 k x.1 x.2.1 x.2.2.1) (fun x => Dt4 k x.1 x.2.1 x.2.2.1), (Ge2).2⟩
theorem Dx4 (k : Nat) : Ok Tryz.prog (Bf5 k) := D0 (F5) (F4) (O1) (A7 (J6) (A7 (Bg0) (A7 (P9) (A7 (Ay5) (A7 (m7) (A7 (Ac6) (F3))))))) (B8 (Gi4) (C1)) (B1 (R4 k) (B1 (E70 k) (B1 (B50 k) (C9)))) (C0)
theorem Dx5 (k : Nat) : N9 (Bf5 k) := N7 (B8 (Gi4) (C1))
theorem Dx6 (k : Nat) : SG 89 (B34 k) := ⟨A1 (Dx4 k) mixed (Dx5 k) (d := k) [(.int .i64), C3] [.str, .bool] [] (fun x => Ak2 k x.1 x.2.1) (fun x => Dt5 k x.1 x.2.1), (Gi4).2⟩
theorem C82 (k : Nat) : Ok Tryz.prog (s7 k) := D0 (F5) (F4) (O1) (A7 (J6) (A7 (P9) (A7 (Ay5) (A7 (Ac5) (A7 (Q0) (A7 (Ac6) (F3))))))) (B8 (Ge3) (C1)) (B1 (B83 k) (B1 (Dx6 k) (C9))) (C0)
theorem C83 (k : Nat) : N9 (s7 k) := N7 (B8 (Ge3) (C1))
theorem Bu2 (k : Nat) : SG 37 (At4 k) := ⟨A1 (C82 k) mixed (C83 k) (d := k) [E6, (.int .i64)] [.str] [] (fun x => G3 k x.1 x.2.1) (fun x => C50 k x.1 x.2.1), (Ge3).2⟩
theorem C84 (k : Nat) : Ok Tryz.prog (A03 k) := D0 (F5) (F4) (O1) (A7 (J6) (A7 (P9) (A7 (Q0) (A7 (Ah3) (F3))))) (B8 (Gu5) (C1)) (B1 (Au8 k) (B1 (Cc3 k) (B1 (Bu2 k) (C9)))) (C0)
theorem C85 (k : Nat) : N9 (A03 k) := N7 (B8 (Gu5) (C1))
theorem C86 (k : Nat) : SG 9 (Bj6 k) := ⟨A1 (C84 k) mixed (C85 k) (d := k) [A6] [.str, .bool] [] (fun x => Ag1 k x.1) (fun x => C51 k x.1), (Gu5).2⟩
theorem E71 (k : Nat) : Ok Tryz.prog (Ax8 k) := D0 (F5) (F4) (O1) (A7 (J6) (A7 (Bg0) (A7 (P9) (F3)))) (B8 (Gi5) (C1)) (B1 (R4 k) (B1 (B51 k) (C9))) (C0)
theorem E72 (k : Nat) : N9 (Ax8 k) := N7 (B8 (Gi5) (C1))
theorem C23 (k : Nat) : SG 90 (Br3 k) := ⟨A1 (E71 k) mixed (E72 k) (d := k) [.str, (.int .i64)] [(.int .i64), (.int .i64), .bool] [] (fun x => u5 k x.1 x.2.1) (fun x => Ex3 k x.1 x.2.1), (Gi5).2⟩
theorem E73 (k : Nat) : Ok Tryz.prog (Ax9 k) := D0 (F5) (F4) (O1) (A7 (P9) (A7 (Fu9) (F3))) (B8 (Ge4) (C1)) (B1 (B83 k) (B1 (C23 k) (C9))) (C0)
theorem E74 (k : Nat) : N9 (Ax9 k) := N7 (B8 (Ge4) (C1))
theorem E75 (k : Nat) : SG 38 (Cn3 k) := ⟨A1 (E73 k) mixed (E74 k) (d := k) [.str] [(.slice 9 .str), (.int .i64)] [.o] (fun x => Bh7 k x.1) (fun x => Ex5 k x.1), (Ge4).2⟩
theorem Dn5 (k : Nat) : Ok Tryz.prog (A95 k) := D0 (F5) (F4) (O1) (A7 (J6) (A7 (Du3) (A7 (P9) (A7 (Dm3) (F3))))) (B8 (Gh7) (C1)) (B1 (C23 k) (C9)) (C0)
theorem Dn6 (k : Nat) : N9 (A95 k) := N7 (B8 (Gh7) (C1))
theorem B52 (k : Nat) : j6 Tryz.prog 79 (A04 k) ∧ O7 Tryz.prog 79 := ⟨L3 (Dn5 k) mixed (Dn6 k) (d := k) [.box G9] [(.int .i64)] [] (fun x => Y8 k x.1) (fun x => Dk9 k x.1), (Gh7).2⟩
theorem C87 (k : Nat) : Ok Tryz.prog (A05 k) := D0 (F5) (F4) (O1) (A7 (J6) (A7 (Du3) (A7 (Bg0) (A7 (P9) (A7 (Dm3) (F3)))))) (B8 (Gi6) (C1)) (C9) (C0)
theorem C88 (k : Nat) : N9 (A05 k) := N7 (B8 (Gi6) (C1))
theorem Bu3 (k : Nat) : j6 Tryz.prog 91 (At5 k) ∧ O7 Tryz.prog 91 := ⟨L3 (C87 k) mixed (C88 k) (d := k) [.box G9] [(.int .i64)] [] (fun x => S4 k x.1) (fun x => C52 k x.1), (Gi6).2⟩
theorem C89 (k : Nat) : Ok Tryz.prog (A06 k) := D0 (F5) (F4) (O1) (A7 (J6) (A7 (Du3) (A7 (P9) (A7 (Dm3) (F3))))) (B8 (Gi7) (C1)) (C9) (C0)
theorem C90 (k : Nat) : N9 (A06 k) := N7 (B8 (Gi7) (C1))
theorem C91 (k : Nat) : j6 Tryz.prog 92 (Bj7 k) ∧ O7 Tryz.prog 92 := ⟨L3 (C89 k) mixed (C90 k) (d := k) [.box G9] [.bool] [] (fun x => u6 k x.1) (fun x => C53 k x.1), (Gi7).2⟩
theorem Gj9 (k : Nat) : Ok Tryz.prog (Dl0 k) := D0 (F5) (F4) (O1) (A7 (J6) (A7 (Bg0) (A7 (Dm3) (F3)))) (B8 (Ge6) (C1)) (C9) (I5 (B52 k) (I5 (Bu3 k) (I5 (C91 k) (C0))))
theorem Gk0 (k : Nat) : N9 (Dl0 k) := N7 (B8 (Ge6) (C1))
theorem E76 (k : Nat) : SG 40 (Ct6 k) := ⟨A1 (Gj9 k) mixed (Gk0 k) (d := k) [.str, (.int .u8)] [(.int .i64), (.int .i64), .bool] [] (fun x => By1 k x.1 x.2.1) (fun x => Gb8 k x.1 x.2.1), (Ge6).2⟩
theorem Dx7 (k : Nat) : Ok Tryz.prog (Bf8 k) := D0 (F5) (F4) (O1) (A7 (J6) (A7 (Du3) (A7 (P9) (A7 (Ac6) (A7 (Dm3) (F3)))))) (B8 (Gj0) (C1)) (B1 (R4 k) (B1 (B50 k) (C9))) (I5 (B52 k) (I5 (Bu3 k) (C0)))
theorem Dx8 (k : Nat) : N9 (Bf8 k) := N7 (B8 (Gj0) (C1))
theorem Dx9 (k : Nat) : SG 95 (B35 k) := ⟨A1 (Dx7 k) mixed (Dx8 k) (d := k) [.str] [(.int .i64), C3, .bool] [] (fun x => Aw0 k x.1) (fun x => Dt6 k x.1), (Gj0).2⟩
theorem E77 (k : Nat) : Ok Tryz.prog (B36 k) := D0 (F5) (F4) (O1) (A7 (Ac5) (A7 (Q0) (F3))) (B8 (Gf5) (C1)) (C9) (C0)
theorem E78 (k : Nat) : N9 (B36 k) := N7 (B8 (Gf5) (C1))
theorem B53 (k : Nat) : SG 49 (A37 k) := ⟨A1 (E77 k) mixed (E78 k) (d := k) [E6] [E6] [.o] (fun x => I4 k x.1) (fun x => Ex6 k x.1), (Gf5).2⟩
theorem Gk1 (k : Nat) : Ok Tryz.prog (Dl1 k) := D0 (F5) (F4) (O1) (A7 (J6) (A7 (Ac5) (A7 (Q0) (F3)))) (B8 (Fl1) (C1)) (C9) (C0)
theorem Gk2 (k : Nat) : N9 (Dl1 k) := N7 (B8 (Fl1) (C1))
theorem Gk3 (k : Nat) : SG 134 (D45 k) := ⟨A1 (Gk1 k) mixed (Gk2 k) (d := k) [E6] [(.int .i64)] [] (fun x => Df5 k x.1) (fun x => Gb9 k x.1), (Fl1).2⟩
theorem Fq7 (k : Nat) : Ok Tryz.prog (Cf6 k) := D0 (F5) (F4) (O1) (A7 (J6) (A7 (Ac5) (A7 (Q0) (A7 (Ac6) (F3))))) (B8 (Gj1) (C1)) (B1 (R4 k) (B1 (D50 k) (B1 (B53 k) (B1 (Gk3 k) (C9))))) (C0)
theorem Fq8 (k : Nat) : N9 (Cf6 k) := N7 (B8 (Gj1) (C1))
theorem Fq9 (k : Nat) : SG 96 (C08 k) := ⟨A1 (Fq7 k) mixed (Fq8 k) (d := k) [E6, (.int .i64), C3] [E6, .bool] [.o] (fun x => By2 k x.1 x.2.1 x.2.2.1) (fun x => Fh2 k x.1 x.2.1 x.2.2.1), (Gj1).2⟩
theorem Gk4 (k : Nat) : Ok Tryz.prog (Dl2 k) := D0 (F5) (F4) (O1) (A7 (J6) (A7 (Q0) (A7 (Ah3) (A7 (Ac6) (F3))))) (B8 (Ge8) (C1)) (B1 (Au8 k) (B1 (E76 k) (B1 (Dx9 k) (B1 (Fq9 k) (C9))))) (C0)
theorem Gk5 (k : Nat) : N9 (Dl2 k) := N7 (B8 (Ge8) (C1))
theorem Gk6 (k : Nat) : SG 42 (D46 k) := ⟨A1 (Gk4 k) mixed (Gk5 k) (d := k) [A6, .str] [A6, .bool] [.s] (fun x => By3 k x.1 x.2.1) (fun x => Gc0 k x.1 x.2.1), (Ge8).2⟩
theorem C92 (k : Nat) : Ok Tryz.prog (Y2 k) := D0 (F5) (F4) (O1) (A7 (P9) (A7 (Q0) (A7 (Ah3) (A7 (Fu9) (F3))))) (B8 (Gc7) (C1)) (B1 (Au8 k) (B1 (E75 k) (B1 (R4 k) (B1 (E76 k) (B1 (B83 k) (B1 (Gk6 k) (C9))))))) (C0)
theorem C93 (k : Nat) : N9 (Y2 k) := N7 (B8 (Gc7) (C1))
theorem Bu4 (k : Nat) : SG 10 (At6 k) := ⟨A1 (C92 k) mixed (C93 k) (d := k) [(.int .i64), .str] [A6, (.int .i64), .bool] [.s] (fun x => S5 k x.1 x.2.1) (fun x => C56 k x.1 x.2.1), (Gc7).2⟩
theorem E79 (k : Nat) : Ok Tryz.prog (Ay0 k) := D0 (F5) (F4) (eq1 (Cu3) (O1)) (A7 (J6) (A7 (Ac5) (A7 (Q0) (A7 (Ac6) (F3))))) (B8 (Gc8) (C1)) (C9) (C0)
theorem E80 (k : Nat) : N9 (Ay0 k) := N7 (B8 (Gc8) (C1))
theorem E81 (k : Nat) : SG 11 (Cn6 k) := ⟨A1 (E79 k) mixed (E80 k) (d := k) [E6, E6] [.bool] [] (fun x => Bh8 k x.1 x.2.1) (fun x => Ex8 k x.1 x.2.1), (Gc8).2⟩
theorem Dn7 (k : Nat) : SG 114 (Bt4 k) := ⟨F17 Tryz.itoaL, (Gu7).2⟩
theorem E82 (k : Nat) : Ok Tryz.prog (B37 k) := D0 (F5) (F4) (O1) (F3) (B8 (Gg9) (C1)) (B1 (Dn7 k) (C9)) (C0)
theorem E83 (k : Nat) : N9 (B37 k) := N7 (B8 (Gg9) (C1))
theorem E84 (k : Nat) : SG 63 (Cn7 k) := ⟨A1 (E82 k) mixed (E83 k) (d := k) [(.int .i64)] [.str] [] (fun x => A47 k x.1) (fun x => Ex9 k x.1), (Gg9).2⟩
theorem C94 (k : Nat) : Ok Tryz.prog (A07 k) := D0 (F5) (F4) (O1) (F3) (B8 (Gd4) (C1)) (B1 (R4 k) (B1 (E84 k) (C9))) (C0)
theorem C95 (k : Nat) : N9 (A07 k) := N7 (B8 (Gd4) (C1))
theorem A10 (k : Nat) : SG 18 (Ae8 k) := ⟨A1 (C94 k) mixed (C95 k) (d := k) [(.int .i64)] [.str] [] (fun x => S6 k x.1) (fun x => C57 k x.1), (Gd4).2⟩
theorem Fr0 (k : Nat) : Ok Tryz.prog (A96 k) := D0 (F5) (F4) (O1) (A7 (P9) (A7 (Bk3) (A7 (Aq2) (A7 (Bt8) (F3))))) (B8 (Gj3) (B8 (Gj5) (B8 (Gj6) (C1)))) (C9) (C0)
theorem Fr1 (k : Nat) : N9 (A96 k) := N7 (B8 (Gj3) (B8 (Gj5) (B8 (Gj6) (C1))))
theorem Dn8 (k : Nat) : SG 98 (B38 k) := ⟨A1 (Fr0 k) mixed (Fr1 k) (d := k) [D8, .str] [(.int .i64)] [] (fun x => Bh9 k x.1 x.2.1) (fun x => Fh5 k x.1 x.2.1), (Gj3).2⟩
theorem Fr2 (k : Nat) : Ok Tryz.prog (Cf7 k) := D0 (F5) (F4) (O1) (A7 (P9) (A7 (Bk3) (A7 (Aq2) (A7 (Bt8) (F3))))) (B8 (Gf0) (C1)) (B1 (Dn8 k) (C9)) (C0)
theorem Fr3 (k : Nat) : N9 (Cf7 k) := N7 (B8 (Gf0) (C1))
theorem Dn9 (k : Nat) : SG 44 (B39 k) := ⟨A1 (Fr2 k) mixed (Fr3 k) (d := k) [D8, .str] [.str, .bool] [] (fun x => A65 k x.1 x.2.1) (fun x => Fh6 k x.1 x.2.1), (Gf0).2⟩
theorem Fr4 (k : Nat) : Ok Tryz.prog (A97 k) := D0 (F5) (F4) (O1) (A7 (J6) (A7 (P9) (A7 (Bk3) (A7 (Aq2) (A7 (Bt8) (F3)))))) (B8 (Gf1) (C1)) (B1 (R4 k) (C9)) (C0)
theorem Fr5 (k : Nat) : N9 (A97 k) := N7 (B8 (Gf1) (C1))
theorem Do0 (k : Nat) : SG 45 (B40 k) := ⟨A1 (Fr4 k) mixed (Fr5 k) (d := k) [D8] [.bool] [] (fun x => A66 k x.1) (fun x => Fh8 k x.1), (Gf1).2⟩
theorem Af7 (k : Nat) : Ok Tryz.prog (H3 k) := D0 (F5) (F4) (eq1 (Cu3) (O1)) (A7 (Ac5) (A7 (Ac6) (F3))) (B8 (Fl2) (C1)) (C9) (C0)
theorem Af8 (k : Nat) : N9 (H3 k) := N7 (B8 (Fl2) (C1))
theorem Af9 (k : Nat) : SG 137 (T8 k) := ⟨A1 (Af7 k) mixed (Af8 k) (d := k) [(.slice 85 C3), (.slice 85 C3)] [.bool] [] (fun x => H8 k x.1 x.2.1) (fun x => Af5 k x.1 x.2.1), (Fl2).2⟩
theorem E85 (k : Nat) : Ok Tryz.prog (B41 k) := D0 (F5) (F4) (O1) (A7 (J6) (A7 (Ac5) (A7 (Q0) (F3)))) (B8 (Gj4) (C1)) (B1 (Af9 k) (C9)) (C0)
theorem E86 (k : Nat) : N9 (B41 k) := N7 (B8 (Gj4) (C1))
theorem E87 (k : Nat) : SG 99 (Cn9 k) := ⟨A1 (E85 k) mixed (E86 k) (d := k) [E6, E6] [.bool] [] (fun x => Bi0 k x.1 x.2.1) (fun x => Ey2 k x.1 x.2.1), (Gj4).2⟩
theorem C96 (k : Nat) : Ok Tryz.prog (A08 k) := D0 (F5) (F4) (O1) (A7 (J6) (A7 (Q0) (A7 (Ah3) (F3)))) (B8 (Gf2) (C1)) (B1 (E87 k) (C9)) (C0)
theorem C97 (k : Nat) : N9 (A08 k) := N7 (B8 (Gf2) (C1))
theorem C98 (k : Nat) : SG 46 (Bj8 k) := ⟨A1 (C96 k) mixed (C97 k) (d := k) [A6, A6] [.bool] [] (fun x => Ag2 k x.1 x.2.1) (fun x => C58 k x.1 x.2.1), (Gf2).2⟩
theorem E88 (k : Nat) : Ok Tryz.prog (B42 k) := D0 (F5) (F4) (O1) (A7 (Aq2) (F3)) (B8 (Gf3) (C1)) (B1 (Dn8 k) (C9)) (C0)
theorem E89 (k : Nat) : N9 (B42 k) := N7 (B8 (Gf3) (C1))
theorem E90 (k : Nat) : SG 47 (Co1 k) := ⟨A1 (E88 k) mixed (E89 k) (d := k) [D8, .str] [.bool] [] (fun x => B68 k x.1 x.2.1) (fun x => Ey3 k x.1 x.2.1), (Gf3).2⟩
theorem Gk7 (k : Nat) : Ok Tryz.prog (Dl5 k) := D0 (F5) (F4) (O1) (A7 (J6) (A7 (Q0) (A7 (Ah3) (A7 (C11) (A7 (Dm2) (F3)))))) (B8 (Gf4) (C1)) (B1 (C86 k) (B1 (A10 k) (B1 (B53 k) (C9)))) (C0)
theorem Gk8 (k : Nat) : N9 (Dl5 k) := N7 (B8 (Gf4) (C1))
theorem E91 (k : Nat) : SG 48 (Ct9 k) := ⟨A1 (Gk7 k) mixed (Gk8 k) (d := k) [(.int .i64), A6] [(.slice 93 X4), A6, .bool] [.o, .o] (fun x => X3 k x.1 x.2.1) (fun x => Gc1 k x.1 x.2.1), (Gf4).2⟩
theorem C99 (k : Nat) : Ok Tryz.prog (s8 k) := D0 (F5) (F4) (eq1 (Cu3) (O1)) (A7 (J6) (A7 (P9) (A7 (Aq2) (A7 (Ac5) (A7 (Q0) (A7 (Ah3) (A7 (C11) (A7 (Ac6) (A7 (Dm2) (F3)))))))))) (B8 (Gd0) (C1)) (B1 (Bu4 k) (B1 (Au8 k) (B1 (A10 k) (B1 (Cc3 k) (B1 (Bu2 k) (B1 (Dn9 k) (B1 (Do0 k) (B1 (C98 k) (B1 (E90 k) (B1 (E91 k) (B1 (B53 k) (C9)))))))))))) (C0)
theorem Da0 (k : Nat) : N9 (s8 k) := N7 (B8 (Gd0) (C1))
theorem Da1 (k : Nat) : SG 13 (Bj9 k) := ⟨A1 (C99 k) mixed (Da0 k) (d := k) [D8, A6, A6] [(.slice 93 X4), A6, .bool] [.o, .o] (fun x => u7 k x.1 x.2.1 x.2.2.1) (fun x => C60 k x.1 x.2.1 x.2.2.1), (Gd0).2⟩
theorem Aq3 (k : Nat) : Ok Tryz.prog (P1 k) := D0 (F5) (F4) (O1) (A7 (P9) (F3)) (B8 (Fn3) (C1)) (C9) (C0)
theorem Aq4 (k : Nat) : N9 (P1 k) := N7 (B8 (Fn3) (C1))
theorem Aq5 (k : Nat) : SG 164 (X1 k) := ⟨A1 (Aq3 k) mixed (Aq4 k) (d := k) [.str, .str] [.bool] [] (fun x => M4 k x.1 x.2.1) (fun x => Ap8 k x.1 x.2.1), (Fn3).2⟩
theorem Aq6 (k : Nat) : Ok Tryz.prog (P2 k) := D0 (F5) (F4) (O1) (A7 (P9) (F3)) (B8 (Fm1) (C1)) (B1 (Aq5 k) (C9)) (C0)
theorem Aq7 (k : Nat) : N9 (P2 k) := N7 (B8 (Fm1) (C1))
theorem Aq8 (k : Nat) : SG 146 (X2 k) := ⟨A1 (Aq6 k) mixed (Aq7 k) (d := k) [.str, .str] [.str, .bool] [] (fun x => M5 k x.1 x.2.1) (fun x => Ap9 k x.1 x.2.1), (Fm1).2⟩
theorem B87 (k : Nat) : Ok Tryz.prog (Af6 k) := D0 (F5) (F4) (O1) (F3) (B8 (Fj8) (C1)) (B1 (Aq8 k) (C9)) (C0)
theorem B88 (k : Nat) : N9 (Af6 k) := N7 (B8 (Fj8) (C1))
theorem B89 (k : Nat) : SG 112 (Ay3 k) := ⟨A1 (B87 k) mixed (B88 k) (d := k) [.str, .str] [.str, .bool] [] (fun x => w9 k x.1 x.2.1) (fun x => B85 k x.1 x.2.1), (Fj8).2⟩
theorem Da2 (k : Nat) : SG 113 (Bk0 k) := ⟨F18, (Gu6).2⟩
theorem Ei5 (k : Nat) : Ok Tryz.prog (Br6 k) := D0 (F5) (F4) (O1) (F3) (B8 (Gg8) (C1)) (B1 (B89 k) (B1 (Da2 k) (C9))) (C0)
theorem Ei6 (k : Nat) : N9 (Br6 k) := N7 (B8 (Gg8) (C1))
theorem Ei7 (k : Nat) : SG 62 (Cb8 k) := ⟨A1 (Ei5 k) mixed (Ei6 k) (d := k) [.str, .str, (.int .i64)] [(.int .i64)] [] (fun x => o7 k x.1 x.2.1 x.2.2.1) (fun x => Ef2 k x.1 x.2.1 x.2.2.1), (Gg8).2⟩
theorem Da3 (k : Nat) : Ok Tryz.prog (Y3 k) := D0 (F5) (F4) (O1) (A7 (P9) (A7 (Bk3) (A7 (Aq2) (A7 (Ah3) (A7 (C11) (A7 (Dm2) (A7 (Bt8) (F3)))))))) (B8 (Gd3) (C1)) (B1 (Bu4 k) (B1 (A10 k) (B1 (Dn9 k) (B1 (Do0 k) (B1 (E91 k) (B1 (Ei7 k) (C9))))))) (C0)
theorem Da4 (k : Nat) : N9 (Y3 k) := N7 (B8 (Gd3) (C1))
theorem Da5 (k : Nat) : SG 16 (Bk1 k) := ⟨A1 (Da3 k) mixed (Da4 k) (d := k) [D8] [A6, (.slice 93 X4), .bool] [.s, .o] (fun x => V5 k x.1) (fun x => C62 k x.1), (Gd3).2⟩
theorem Do1 (k : Nat) : Ok Tryz.prog (j4 k) := D0 (F5) (F4) (O1) (A7 (J6) (A7 (Bg0) (A7 (Ay5) (A7 (m7) (A7 (Fi5) (F3)))))) (B8 (Gd5) (B8 (Fv0) (C1))) (C9) (I5 (C17 k) (I5 (P3 k) (C0)))
theorem Do2 (k : Nat) : N9 (j4 k) := N7 (B8 (Gd5) (B8 (Fv0) (C1)))
theorem Do3 (k : Nat) : SG 19 (Bt7 k) := ⟨A1 (Do1 k) mixed (Do2 k) (d := k) [(.slice 5 (.int .u8))] [(.slice 3 (.int .i64))] [.o] (fun x => Am6 k x.1) (fun x => Dl8 k x.1), (Gd5).2⟩
theorem Ei8 (k : Nat) : Ok Tryz.prog (Aq0 k) := D0 (F5) (F4) (O1) (A7 (J6) (A7 (P9) (A7 (Bk3) (A7 (Aq2) (A7 (m7) (A7 (Bt8) (F3))))))) (B8 (Gh2) (C1)) (B1 (Cf9 k) (C9)) (C0)
theorem Ei9 (k : Nat) : N9 (Aq0 k) := N7 (B8 (Gh2) (C1))
theorem Ej0 (k : Nat) : SG 66 (Cb9 k) := ⟨A1 (Ei8 k) mixed (Ei9 k) (d := k) [D8, (.slice 3 (.int .i64))] [D8, .bool] [.o] (fun x => A67 k x.1 x.2.1) (fun x => Ef4 k x.1 x.2.1), (Gh2).2⟩
theorem E92 (k : Nat) : Ok Tryz.prog (B44 k) := D0 (F5) (F4) (O1) (A7 (Aq2) (A7 (C11) (F3))) (B8 (Gd6) (C1)) (B1 (Cg0 k) (B1 (J9 k) (B1 (Ej0 k) (C9)))) (C0)
theorem E93 (k : Nat) : N9 (B44 k) := N7 (B8 (Gd6) (C1))
theorem E94 (k : Nat) : SG 20 (Co3 k) := ⟨A1 (E92 k) mixed (E93 k) (d := k) [D8, (.slice 93 X4), (.int .i64), (.slice 3 (.int .i64))] [D8, .bool] [.o] (fun x => Bi1 k x.1 x.2.1 x.2.2.1 x.2.2.2.1) (fun x => Ey4 k x.1 x.2.1 x.2.2.1 x.2.2.2.1), (Gd6).2⟩
theorem F40 (k : Nat) : Ok Tryz.prog (Bk2 k) := D0 (F5) (F4) (O1) (A7 (J6) (A7 (m7) (F3))) (B8 (Gd7) (C1)) (C9) (C0)
theorem F41 (k : Nat) : N9 (Bk2 k) := N7 (B8 (Gd7) (C1))
theorem F42 (k : Nat) : SG 21 (Dl9 k) := ⟨A1 (F40 k) mixed (F41 k) (d := k) [(.slice 3 (.int .i64))] [(.slice 3 (.int .i64))] [.o] (fun x => Ci8 k x.1) (fun x => F16 k x.1), (Gd7).2⟩
theorem Gk9 (k : Nat) : Ok Tryz.prog (Dm0 k) := D0 (F5) (F4) (O1) (A7 (J6) (A7 (Ac5) (A7 (Q0) (F3)))) (B8 (Gh3) (C1)) (C9) (C0)
theorem Gl0 (k : Nat) : N9 (Dm0 k) := N7 (B8 (Gh3) (C1))
theorem Gl1 (k : Nat) : SG 67 (D48 k) := ⟨A1 (Gk9 k) mixed (Gl0 k) (d := k) [E6] [(.int .i64)] [] (fun x => Bd2 k x.1) (fun x => Gc2 k x.1), (Gh3).2⟩
theorem Fr6 (k : Nat) : Ok Tryz.prog (Ba0 k) := D0 (F5) (F4) (eq1 (Cu3) (O1)) (A7 (J6) (A7 (Ac5) (A7 (Q0) (A7 (Ac6) (F3))))) (B8 (Gd8) (C1)) (B1 (Gl1 k) (C9)) (C0)
theorem Fr7 (k : Nat) : N9 (Ba0 k) := N7 (B8 (Gd8) (C1))
theorem Fr8 (k : Nat) : SG 22 (C10 k) := ⟨A1 (Fr6 k) mixed (Fr7 k) (d := k) [E6, E6, E6] [.bool] [] (fun x => A68 k x.1 x.2.1 x.2.2.1) (fun x => Fi3 k x.1 x.2.1 x.2.2.1), (Gd8).2⟩
theorem Co7 (k : Nat) : Ok Tryz.prog (Aq1 k) := D0 (F5) (F4) (O1) (A7 (J6) (A7 (Du3) (A7 (Aq2) (A7 (Q0) (A7 (Ah3) (A7 (C11) (A7 (m7) (F3)))))))) (B8 (Gu2) (C1)) (B1 (Gq0 k) (B1 (Bv2 k) (B1 (E81 k) (B1 (Da1 k) (B1 (Bu0 k) (B1 (Cg0 k) (B1 (Da5 k) (B1 (Do3 k) (B1 (E94 k) (B1 (F42 k) (B1 (Fr8 k) (C9)))))))))))) (C0)
theorem Co8 (k : Nat) : N9 (Aq1 k) := N7 (B8 (Gu2) (C1))
theorem Co9 (k : Nat) : SG 4 (Cf8 k) := ⟨A1 (Co7 k) mixed (Co8 k) (d := k) [(.slice 5 (.int .u8))] [.bool] [] (fun x => Y0 k x.1) (fun x => Co4 k x.1), (Gu2).2⟩
end Go.Vm
end
