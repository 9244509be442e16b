/- The functions keep their specifications. -/
import Derived.Test.YtcbpoomhabigeaaGreatDoorZs6
import Derived.Test.YtcbpoomhabigeaaGreatDoorChecked
set_option linter.all false
section
namespace Go.Vm
open Go Go.Proofs
theorem mixed : Tryz.prog.follows .mixedOrders = true := Tryz.checked.mixed
def N2 (c : Cfg) : Prop := ∀ f fn, look c.inl f = some fn → Tryz.prog.funcs[f]? = some fn
theorem N0 {c : Cfg} (h : Gt9 Tryz.prog c.inl) : N2 c := fun f fn e => (h f fn e).1
abbrev SG (f : FuncId) (s : Spec) : Prop := Aw8 Tryz.prog f s ∧ W4 Tryz.prog f
abbrev FI (n : FuncId) (f : Func) : Prop := Tryz.prog.funcs[n]? = some f ∧ W4 Tryz.prog n
theorem J4 : TyOk Tryz.prog (.int .i64) 3 := E7 _ _ _ [] (by kernel_rfl)
theorem Fe0 : TyOk Tryz.prog .bool 4 := E7 _ _ _ [] (by kernel_rfl)
theorem Cy2 : TyOk Tryz.prog (.int .u8) 5 := E7 _ _ _ [] (by kernel_rfl)
theorem T6 : TyOk Tryz.prog .str 9 := E7 _ _ _ [] (by kernel_rfl)
theorem Bh9 : TyOk Tryz.prog (.slice 5 (.int .u8)) 22 := E7 _ _ _ [] (by kernel_rfl)
theorem Cb5 : TyOk Tryz.prog (.slice 99 I2) 24 := E7 _ _ _ [] (by kernel_rfl)
theorem Bi0 : TyOk Tryz.prog F4 26 := E7 _ _ _ [] (by kernel_rfl)
theorem Gf3 : TyOk Tryz.prog (.slice 93 An1) 40 := E7 _ _ _ [] (by kernel_rfl)
theorem J3 : TyOk Tryz.prog (.slice 3 (.int .i64)) 49 := E7 _ _ _ [] (by kernel_rfl)
theorem Db4 : TyOk Tryz.prog X9 56 := E7 _ _ _ [] (by kernel_rfl)
theorem Ha6 : TyOk Tryz.prog (.slice 9 .str) 75 := E7 _ _ _ [] (by kernel_rfl)
theorem Gf4 : TyOk Tryz.prog An1 93 := E7 _ _ _ [] (by kernel_rfl)
theorem Cb6 : TyOk Tryz.prog I2 99 := E7 _ _ _ [] (by kernel_rfl)
theorem Dt5 : TyOk Tryz.prog (.slice 158 O4) 106 := E7 _ _ _ [] (by kernel_rfl)
theorem Ai4 : TyOk Tryz.prog (.slice 162 A4) 107 := E7 _ _ _ [] (by kernel_rfl)
theorem B03 : TyOk Tryz.prog (.slice 215 (.slice 260 B2)) 108 := E7 _ _ _ [] (by kernel_rfl)
theorem C27 : TyOk Tryz.prog (.slice 4 .bool) 109 := E7 _ _ _ [] (by kernel_rfl)
theorem k8 : TyOk Tryz.prog D6 111 := E7 _ _ _ [] (by kernel_rfl)
theorem Dt6 : TyOk Tryz.prog (.slice 164 Ak2) 112 := E7 _ _ _ [] (by kernel_rfl)
theorem Cn6 : TyOk Tryz.prog L6 114 := E7 _ _ _ [] (by kernel_rfl)
theorem Fy4 : TyOk Tryz.prog Y4 122 := E7 _ _ _ [] (by kernel_rfl)
theorem Gz4 : TyOk Tryz.prog C8 129 := E7 _ _ _ [] (by kernel_rfl)
theorem Eq2 : TyOk Tryz.prog (.int .u32) 139 := E7 _ _ _ [] (by kernel_rfl)
theorem Eq3 : TyOk Tryz.prog O4 158 := E7 _ _ _ [] (by kernel_rfl)
theorem I8 : TyOk Tryz.prog A4 162 := E7 _ _ _ [] (by kernel_rfl)
theorem Dt7 : TyOk Tryz.prog Ak2 164 := E7 _ _ _ [] (by kernel_rfl)
theorem Fy5 : TyOk Tryz.prog V6 169 := E7 _ _ _ [] (by kernel_rfl)
theorem Au9 : TyOk Tryz.prog (.slice 260 B2) 215 := E7 _ _ _ [] (by kernel_rfl)
theorem Cn7 : TyOk Tryz.prog B2 260 := E7 _ _ _ [] (by kernel_rfl)
theorem He2 : TyOk Tryz.prog (.slice 49 (.slice 3 (.int .i64))) 275 := E7 _ _ _ [] (by kernel_rfl)
theorem G90 : Tryz.prog.stoodInHeld 260 = false ∧ Tryz.prog.eqGuardType Tryz.prog.depth 260 = false := ⟨by kernel_rfl, by kernel_rfl⟩
theorem He3 : FI 5 Tryz.f5 := ⟨Tryz.func5, A5 Tryz.func5 (by kernel_rfl) rfl⟩
theorem He4 : FI 7 Tryz.f7 := ⟨Tryz.func7, A5 Tryz.func7 (by kernel_rfl) rfl⟩
theorem Gz5 : FI 15 Tryz.f15 := ⟨Tryz.func15, A5 Tryz.func15 (by kernel_rfl) rfl⟩
theorem Gz6 : FI 23 Tryz.f23 := ⟨Tryz.func23, A5 Tryz.func23 (by kernel_rfl) rfl⟩
theorem Gz7 : FI 24 Tryz.f24 := ⟨Tryz.func24, A5 Tryz.func24 (by kernel_rfl) rfl⟩
theorem Gz8 : FI 25 Tryz.f25 := ⟨Tryz.func25, A5 Tryz.func25 (by kernel_rfl) rfl⟩
theorem Gz9 : FI 26 Tryz.f26 := ⟨Tryz.func26, A5 Tryz.func26 (by kernel_rfl) rfl⟩
theorem G00 : FI 27 Tryz.f27 := ⟨Tryz.func27, A5 Tryz.func27 (by kernel_rfl) rfl⟩
theorem G01 : FI 28 Tryz.f28 := ⟨Tryz.func28, A5 Tryz.func28 (by kernel_rfl) rfl⟩
theorem G02 : FI 29 Tryz.f29 := ⟨Tryz.func29, A5 Tryz.func29 (by kernel_rfl) rfl⟩
theorem G03 : FI 30 Tryz.f30 := ⟨Tryz.func30, A5 Tryz.func30 (by kernel_rfl) rfl⟩
theorem Ha7 : FI 32 Tryz.f32 := ⟨Tryz.func32, A5 Tryz.func32 (by kernel_rfl) rfl⟩
theorem G04 : FI 39 Tryz.f39 := ⟨Tryz.func39, A5 Tryz.func39 (by kernel_rfl) rfl⟩
theorem G05 : FI 45 Tryz.f45 := ⟨Tryz.func45, A5 Tryz.func45 (by kernel_rfl) rfl⟩
theorem G06 : FI 47 Tryz.f47 := ⟨Tryz.func47, A5 Tryz.func47 (by kernel_rfl) rfl⟩
theorem G07 : FI 53 Tryz.f53 := ⟨Tryz.func53, A5 Tryz.func53 (by kernel_rfl) rfl⟩
theorem G08 : FI 55 Tryz.f55 := ⟨Tryz.func55, A5 Tryz.func55 (by kernel_rfl) rfl⟩
theorem G09 : FI 61 Tryz.f61 := ⟨Tryz.func61, A5 Tryz.func61 (by kernel_rfl) rfl⟩
theorem G10 : FI 62 Tryz.f62 := ⟨Tryz.func62, A5 Tryz.func62 (by kernel_rfl) rfl⟩
theorem G11 : FI 63 Tryz.f63 := ⟨Tryz.func63, A5 Tryz.func63 (by kernel_rfl) rfl⟩
theorem G12 : FI 64 Tryz.f64 := ⟨Tryz.func64, A5 Tryz.func64 (by kernel_rfl) rfl⟩
theorem G13 : FI 65 Tryz.f65 := ⟨Tryz.func65, A5 Tryz.func65 (by kernel_rfl) rfl⟩
theorem G14 : FI 68 Tryz.f68 := ⟨Tryz.func68, A5 Tryz.func68 (by kernel_rfl) rfl⟩
theorem G15 : FI 69 Tryz.f69 := ⟨Tryz.func69, A5 Tryz.func69 (by kernel_rfl) rfl⟩
theorem G16 : FI 70 Tryz.f70 := ⟨Tryz.func70, A5 Tryz.func70 (by kernel_rfl) rfl⟩
theorem G17 : FI 71 Tryz.f71 := ⟨Tryz.func71, A5 Tryz.func71 (by kernel_rfl) rfl⟩
theorem G18 : FI 72 Tryz.f72 := ⟨Tryz.func72, A5 Tryz.func72 (by kernel_rfl) rfl⟩
theorem G19 : FI 73 Tryz.f73 := ⟨Tryz.func73, A5 Tryz.func73 (by kernel_rfl) rfl⟩
theorem G20 : FI 74 Tryz.f74 := ⟨Tryz.func74, A5 Tryz.func74 (by kernel_rfl) rfl⟩
theorem G21 : FI 75 Tryz.f75 := ⟨Tryz.func75, A5 Tryz.func75 (by kernel_rfl) rfl⟩
theorem G22 : FI 76 Tryz.f76 := ⟨Tryz.func76, A5 Tryz.func76 (by kernel_rfl) rfl⟩
theorem G23 : FI 77 Tryz.f77 := ⟨Tryz.func77, A5 Tryz.func77 (by kernel_rfl) rfl⟩
theorem G24 : FI 78 Tryz.f78 := ⟨Tryz.func78, A5 Tryz.func78 (by kernel_rfl) rfl⟩
theorem G25 : FI 79 Tryz.f79 := ⟨Tryz.func79, A5 Tryz.func79 (by kernel_rfl) rfl⟩
theorem G26 : FI 80 Tryz.f80 := ⟨Tryz.func80, A5 Tryz.func80 (by kernel_rfl) rfl⟩
theorem G27 : FI 81 Tryz.f81 := ⟨Tryz.func81, A5 Tryz.func81 (by kernel_rfl) rfl⟩
theorem G28 : FI 88 Tryz.f88 := ⟨Tryz.func88, A5 Tryz.func88 (by kernel_rfl) rfl⟩
theorem G29 : FI 90 Tryz.f90 := ⟨Tryz.func90, A5 Tryz.func90 (by kernel_rfl) rfl⟩
theorem G30 : FI 93 Tryz.f93 := ⟨Tryz.func93, A5 Tryz.func93 (by kernel_rfl) rfl⟩
theorem G31 : FI 94 Tryz.f94 := ⟨Tryz.func94, A5 Tryz.func94 (by kernel_rfl) rfl⟩
theorem G32 : FI 98 Tryz.f98 := ⟨Tryz.func98, A5 Tryz.func98 (by kernel_rfl) rfl⟩
theorem Fy6 : FI 100 Tryz.f100 := ⟨Tryz.func100, A5 Tryz.func100 (by kernel_rfl) rfl⟩
theorem Fy7 : FI 101 Tryz.f101 := ⟨Tryz.func101, A5 Tryz.func101 (by kernel_rfl) rfl⟩
theorem Fy8 : FI 107 Tryz.f107 := ⟨Tryz.func107, A5 Tryz.func107 (by kernel_rfl) rfl⟩
theorem Fy9 : FI 109 Tryz.f109 := ⟨Tryz.func109, A5 Tryz.func109 (by kernel_rfl) rfl⟩
theorem Fz0 : FI 111 Tryz.f111 := ⟨Tryz.func111, A5 Tryz.func111 (by kernel_rfl) rfl⟩
theorem Fz1 : FI 112 Tryz.f112 := ⟨Tryz.func112, A5 Tryz.func112 (by kernel_rfl) rfl⟩
theorem He5 : FI 113 Tryz.f113 := ⟨Tryz.func113, A5 Tryz.func113 (by kernel_rfl) rfl⟩
theorem He6 : FI 114 Tryz.f114 := ⟨Tryz.func114, A5 Tryz.func114 (by kernel_rfl) rfl⟩
theorem Fz2 : FI 115 Tryz.f115 := ⟨Tryz.func115, A5 Tryz.func115 (by kernel_rfl) rfl⟩
theorem Fz3 : FI 116 Tryz.f116 := ⟨Tryz.func116, A5 Tryz.func116 (by kernel_rfl) rfl⟩
theorem Fz4 : FI 117 Tryz.f117 := ⟨Tryz.func117, A5 Tryz.func117 (by kernel_rfl) rfl⟩
theorem Fz5 : FI 118 Tryz.f118 := ⟨Tryz.func118, A5 Tryz.func118 (by kernel_rfl) rfl⟩
theorem Fz6 : FI 119 Tryz.f119 := ⟨Tryz.func119, A5 Tryz.func119 (by kernel_rfl) rfl⟩
theorem Fz7 : FI 120 Tryz.f120 := ⟨Tryz.func120, A5 Tryz.func120 (by kernel_rfl) rfl⟩
theorem Fz8 : FI 121 Tryz.f121 := ⟨Tryz.func121, A5 Tryz.func121 (by kernel_rfl) rfl⟩
theorem Fz9 : FI 122 Tryz.f122 := ⟨Tryz.func122, A5 Tryz.func122 (by kernel_rfl) rfl⟩
theorem F00 : FI 123 Tryz.f123 := ⟨Tryz.func123, A5 Tryz.func123 (by kernel_rfl) rfl⟩
theorem F01 : FI 124 Tryz.f124 := ⟨Tryz.func124, A5 Tryz.func124 (by kernel_rfl) rfl⟩
theorem F02 : FI 133 Tryz.f133 := ⟨Tryz.func133, A5 Tryz.func133 (by kernel_rfl) rfl⟩
theorem G33 : FI 135 Tryz.f135 := ⟨Tryz.func135, A5 Tryz.func135 (by kernel_rfl) rfl⟩
theorem G34 : FI 136 Tryz.f136 := ⟨Tryz.func136, A5 Tryz.func136 (by kernel_rfl) rfl⟩
theorem F03 : FI 138 Tryz.f138 := ⟨Tryz.func138, A5 Tryz.func138 (by kernel_rfl) rfl⟩
theorem F04 : FI 144 Tryz.f144 := ⟨Tryz.func144, A5 Tryz.func144 (by kernel_rfl) rfl⟩
theorem F05 : FI 145 Tryz.f145 := ⟨Tryz.func145, A5 Tryz.func145 (by kernel_rfl) rfl⟩
theorem F06 : FI 146 Tryz.f146 := ⟨Tryz.func146, A5 Tryz.func146 (by kernel_rfl) rfl⟩
theorem F07 : FI 149 Tryz.f149 := ⟨Tryz.func149, A5 Tryz.func149 (by kernel_rfl) rfl⟩
theorem F08 : FI 150 Tryz.f150 := ⟨Tryz.func150, A5 Tryz.func150 (by kernel_rfl) rfl⟩
theorem F09 : FI 151 Tryz.f151 := ⟨Tryz.func151, A5 Tryz.func151 (by kernel_rfl) rfl⟩
theorem F10 : FI 152 Tryz.f152 := ⟨Tryz.func152, A5 Tryz.func152 (by kernel_rfl) rfl⟩
theorem F11 : FI 153 Tryz.f153 := ⟨Tryz.func153, A5 Tryz.func153 (by kernel_rfl) rfl⟩
theorem F12 : FI 154 Tryz.f154 := ⟨Tryz.func154, A5 Tryz.func154 (by kernel_rfl) rfl⟩
theorem F13 : FI 155 Tryz.f155 := ⟨Tryz.func155, A5 Tryz.func155 (by kernel_rfl) rfl⟩
theorem G35 : FI 156 Tryz.f156 := ⟨Tryz.func156, A5 Tryz.func156 (by kernel_rfl) rfl⟩
theorem F14 : FI 157 Tryz.f157 := ⟨Tryz.func157, A5 Tryz.func157 (by kernel_rfl) rfl⟩
theorem F15 : FI 158 Tryz.f158 := ⟨Tryz.func158, A5 Tryz.func158 (by kernel_rfl) rfl⟩
theorem F16 : FI 159 Tryz.f159 := ⟨Tryz.func159, A5 Tryz.func159 (by kernel_rfl) rfl⟩
theorem F17 : FI 163 Tryz.f163 := ⟨Tryz.func163, A5 Tryz.func163 (by kernel_rfl) rfl⟩
theorem F18 : FI 164 Tryz.f164 := ⟨Tryz.func164, A5 Tryz.func164 (by kernel_rfl) rfl⟩
theorem F19 : FI 168 Tryz.f168 := ⟨Tryz.func168, A5 Tryz.func168 (by kernel_rfl) rfl⟩
theorem F20 : FI 169 Tryz.f169 := ⟨Tryz.func169, A5 Tryz.func169 (by kernel_rfl) rfl⟩
theorem F21 : FI 170 Tryz.f170 := ⟨Tryz.func170, A5 Tryz.func170 (by kernel_rfl) rfl⟩
theorem F22 : FI 171 Tryz.f171 := ⟨Tryz.func171, A5 Tryz.func171 (by kernel_rfl) rfl⟩
theorem F23 : FI 172 Tryz.f172 := ⟨Tryz.func172, A5 Tryz.func172 (by kernel_rfl) rfl⟩
theorem F24 : FI 173 Tryz.f173 := ⟨Tryz.func173, A5 Tryz.func173 (by kernel_rfl) rfl⟩
theorem G36 : FI 174 Tryz.f174 := ⟨Tryz.func174, A5 Tryz.func174 (by kernel_rfl) rfl⟩
theorem F25 : FI 175 Tryz.f175 := ⟨Tryz.func175, A5 Tryz.func175 (by kernel_rfl) rfl⟩
theorem F26 : FI 176 Tryz.f176 := ⟨Tryz.func176, A5 Tryz.func176 (by kernel_rfl) rfl⟩
theorem F27 : FI 177 Tryz.f177 := ⟨Tryz.func177, A5 Tryz.func177 (by kernel_rfl) rfl⟩
theorem F28 : FI 178 Tryz.f178 := ⟨Tryz.func178, A5 Tryz.func178 (by kernel_rfl) rfl⟩
theorem F29 : FI 179 Tryz.f179 := ⟨Tryz.func179, A5 Tryz.func179 (by kernel_rfl) rfl⟩
theorem F30 : FI 180 Tryz.f180 := ⟨Tryz.func180, A5 Tryz.func180 (by kernel_rfl) rfl⟩
theorem F31 : FI 190 Tryz.f190 := ⟨Tryz.func190, A5 Tryz.func190 (by kernel_rfl) rfl⟩
theorem F32 : FI 191 Tryz.f191 := ⟨Tryz.func191, A5 Tryz.func191 (by kernel_rfl) rfl⟩
theorem F33 : FI 192 Tryz.f192 := ⟨Tryz.func192, A5 Tryz.func192 (by kernel_rfl) rfl⟩
theorem F34 : FI 193 Tryz.f193 := ⟨Tryz.func193, A5 Tryz.func193 (by kernel_rfl) rfl⟩
theorem F35 : FI 194 Tryz.f194 := ⟨Tryz.func194, A5 Tryz.func194 (by kernel_rfl) rfl⟩
theorem F36 : FI 195 Tryz.f195 := ⟨Tryz.func195, A5 Tryz.func195 (by kernel_rfl) rfl⟩
theorem F37 : FI 196 Tryz.f196 := ⟨Tryz.func196, A5 Tryz.func196 (by kernel_rfl) rfl⟩
theorem G37 : FI 197 Tryz.f197 := ⟨Tryz.func197, A5 Tryz.func197 (by kernel_rfl) rfl⟩
theorem F38 : FI 198 Tryz.f198 := ⟨Tryz.func198, A5 Tryz.func198 (by kernel_rfl) rfl⟩
theorem F39 : FI 199 Tryz.f199 := ⟨Tryz.func199, A5 Tryz.func199 (by kernel_rfl) rfl⟩
theorem F40 : FI 200 Tryz.f200 := ⟨Tryz.func200, A5 Tryz.func200 (by kernel_rfl) rfl⟩
theorem F41 : FI 201 Tryz.f201 := ⟨Tryz.func201, A5 Tryz.func201 (by kernel_rfl) rfl⟩
theorem F42 : FI 202 Tryz.f202 := ⟨Tryz.func202, A5 Tryz.func202 (by kernel_rfl) rfl⟩
theorem F43 : FI 203 Tryz.f203 := ⟨Tryz.func203, A5 Tryz.func203 (by kernel_rfl) rfl⟩
theorem F44 : FI 204 Tryz.f204 := ⟨Tryz.func204, A5 Tryz.func204 (by kernel_rfl) rfl⟩
theorem F45 : FI 205 Tryz.f205 := ⟨Tryz.func205, A5 Tryz.func205 (by kernel_rfl) rfl⟩
theorem F46 : FI 206 Tryz.f206 := ⟨Tryz.func206, A5 Tryz.func206 (by kernel_rfl) rfl⟩
theorem F47 : FI 207 Tryz.f207 := ⟨Tryz.func207, A5 Tryz.func207 (by kernel_rfl) rfl⟩
theorem F48 : FI 208 Tryz.f208 := ⟨Tryz.func208, A5 Tryz.func208 (by kernel_rfl) rfl⟩
theorem F49 : FI 209 Tryz.f209 := ⟨Tryz.func209, A5 Tryz.func209 (by kernel_rfl) rfl⟩
theorem F50 : FI 218 Tryz.f218 := ⟨Tryz.func218, A5 Tryz.func218 (by kernel_rfl) rfl⟩
theorem F51 : FI 219 Tryz.f219 := ⟨Tryz.func219, A5 Tryz.func219 (by kernel_rfl) rfl⟩
theorem F52 : FI 220 Tryz.f220 := ⟨Tryz.func220, A5 Tryz.func220 (by kernel_rfl) rfl⟩
theorem F53 : FI 221 Tryz.f221 := ⟨Tryz.func221, A5 Tryz.func221 (by kernel_rfl) rfl⟩
theorem F54 : FI 222 Tryz.f222 := ⟨Tryz.func222, A5 Tryz.func222 (by kernel_rfl) rfl⟩
theorem F55 : FI 223 Tryz.f223 := ⟨Tryz.func223, A5 Tryz.func223 (by kernel_rfl) rfl⟩
theorem F56 : FI 224 Tryz.f224 := ⟨Tryz.func224, A5 Tryz.func224 (by kernel_rfl) rfl⟩
theorem F57 : FI 225 Tryz.f225 := ⟨Tryz.func225, A5 Tryz.func225 (by kernel_rfl) rfl⟩
theorem F58 : FI 230 Tryz.f230 := ⟨Tryz.func230, A5 Tryz.func230 (by kernel_rfl) rfl⟩
theorem F59 : FI 231 Tryz.f231 := ⟨Tryz.func231, A5 Tryz.func231 (by kernel_rfl) rfl⟩
theorem F60 : FI 232 Tryz.f232 := ⟨Tryz.func232, A5 Tryz.func232 (by kernel_rfl) rfl⟩
theorem F61 : FI 233 Tryz.f233 := ⟨Tryz.func233, A5 Tryz.func233 (by kernel_rfl) rfl⟩
theorem F62 : FI 234 Tryz.f234 := ⟨Tryz.func234, A5 Tryz.func234 (by kernel_rfl) rfl⟩
theorem F63 : FI 235 Tryz.f235 := ⟨Tryz.func235, A5 Tryz.func235 (by kernel_rfl) rfl⟩
theorem F64 : FI 236 Tryz.f236 := ⟨Tryz.func236, A5 Tryz.func236 (by kernel_rfl) rfl⟩
theorem F65 : FI 237 Tryz.f237 := ⟨Tryz.func237, A5 Tryz.func237 (by kernel_rfl) rfl⟩
theorem G91 (k : Nat) : Ok Tryz.prog (Ei6 k) := D0 (F2) (F1) (N3) (A7 (Bh9) (E9)) (B8 (He4) (C2)) (C9) (C1)
theorem G92 (k : Nat) : N2 (Ei6 k) := N0 (B8 (He4) (C2))
theorem G93 (k : Nat) : SG 7 (E56 k) := ⟨A2 (G91 k) mixed (G92 k) (d := k) [(.slice 5 (.int .u8))] [.bool] [] (fun x => E14 k x.1) (fun x => G81 k x.1), (He4).2⟩
theorem Gm7 (k : Nat) : Ok Tryz.prog (C14 k) := D0 (F2) (F1) (N3) (E9) (B8 (G08) (C2)) (C9) (C1)
theorem Gm8 (k : Nat) : N2 (C14 k) := N0 (B8 (G08) (C2))
theorem L8 (k : Nat) : SG 55 (I1 k) := ⟨A2 (Gm7 k) mixed (Gm8 k) (d := k) [(.int .i64), (.int .i64), (.int .i64)] [.bool] [] (fun x => D9 k x.1 x.2.1 x.2.2.1) (fun x => Gl0 k x.1 x.2.1 x.2.2.1), (G08).2⟩
theorem Fe1 (k : Nat) : Ok Tryz.prog (B73 k) := D0 (F2) (F1) (N3) (A7 (T6) (E9)) (B8 (Fy8) (C2)) (B1 (L8 k) (C9)) (C1)
theorem Fe2 (k : Nat) : N2 (B73 k) := N0 (B8 (Fy8) (C2))
theorem Db5 (k : Nat) : SG 107 (Bw7 k) := ⟨A2 (Fe1 k) mixed (Fe2 k) (d := k) [.str] [.bool] [] (fun x => Q1 k x.1) (fun x => E58 k x.1), (Fy8).2⟩
theorem F66 (k : Nat) : Ok Tryz.prog (Bb7 k) := D0 (F2) (F1) (N3) (A7 (J4) (A7 (T6) (A7 (Cb5) (A7 (Bi0) (A7 (Cb6) (E9)))))) (B8 (G07) (C2)) (B1 (L8 k) (B1 (Db5 k) (C9))) (C1)
theorem F67 (k : Nat) : N2 (Bb7 k) := N0 (B8 (G07) (C2))
theorem F68 (k : Nat) : SG 53 (C85 k) := ⟨A2 (F66 k) mixed (F67 k) (d := k) [F4] [.bool] [] (fun x => F5 k x.1) (fun x => Fu3 k x.1), (G07).2⟩
theorem F69 (k : Nat) : Ok Tryz.prog (Au2 k) := D0 (F2) (F1) (N3) (A7 (T6) (A7 (Cb5) (A7 (Bi0) (A7 (Cb6) (E9))))) (B8 (G18) (C2)) (C9) (C1)
theorem F70 (k : Nat) : N2 (Au2 k) := N0 (B8 (G18) (C2))
theorem Dt8 (k : Nat) : SG 72 (B74 k) := ⟨A2 (F69 k) mixed (F70 k) (d := k) [F4, I2] [F4] [.o] (fun x => G6 k x.1 x.2.1) (fun x => Fu5 k x.1 x.2.1), (G18).2⟩
theorem Gm9 (k : Nat) : Ok Tryz.prog (Bq1 k) := D0 (F2) (F1) (N3) (A7 (T6) (A7 (Cb5) (A7 (Bi0) (A7 (Cb6) (E9))))) (B8 (Fy7) (C2)) (C9) (C1)
theorem Gn0 (k : Nat) : N2 (Bq1 k) := N0 (B8 (Fy7) (C2))
theorem Gn1 (k : Nat) : SG 101 (Do6 k) := ⟨A2 (Gm9 k) mixed (Gn0 k) (d := k) [F4, .str] [(.int .i64)] [] (fun x => Bf6 k x.1 x.2.1) (fun x => Gl2 k x.1 x.2.1), (Fy7).2⟩
theorem Dt9 (k : Nat) : Ok Tryz.prog (Aa0 k) := D0 (F2) (F1) (N3) (A7 (T6) (A7 (Cb5) (A7 (Bi0) (A7 (Cb6) (E9))))) (B8 (Fz0) (C2)) (C9) (C1)
theorem Du0 (k : Nat) : N2 (Aa0 k) := N0 (B8 (Fz0) (C2))
theorem Du1 (k : Nat) : SG 111 (B14 k) := ⟨A2 (Dt9 k) mixed (Du0 k) (d := k) [F4, .str] [F4] [.o] (fun x => F9 k x.1 x.2.1) (fun x => Do8 k x.1 x.2.1), (Fz0).2⟩
theorem Gn2 (k : Nat) : Ok Tryz.prog (C15 k) := D0 (F2) (F1) (N3) (A7 (J4) (A7 (T6) (A7 (Cb5) (A7 (Bi0) (A7 (Gf4) (A7 (Cb6) (E9))))))) (B8 (G09) (C2)) (B1 (F68 k) (B1 (Dt8 k) (B1 (Gn1 k) (B1 (Db5 k) (B1 (Du1 k) (C9)))))) (C1)
theorem Gn3 (k : Nat) : N2 (C15 k) := N0 (B8 (G09) (C2))
theorem Gn4 (k : Nat) : SG 61 (Do9 k) := ⟨A2 (Gn2 k) mixed (Gn3 k) (d := k) [F4, An1] [F4, .bool] [.o] (fun x => Y2 k x.1 x.2.1) (fun x => Gl3 k x.1 x.2.1), (G09).2⟩
theorem F71 (k : Nat) : Ok Tryz.prog (Bb9 k) := D0 (F2) (F1) (N3) (A7 (Cb5) (A7 (Bi0) (A7 (Gf3) (A7 (Gf4) (E9))))) (B8 (Gz5) (C2)) (B1 (Gn4 k) (C9)) (C1)
theorem F72 (k : Nat) : N2 (Bb9 k) := N0 (B8 (Gz5) (C2))
theorem F73 (k : Nat) : SG 15 (C86 k) := ⟨A2 (F71 k) mixed (F72 k) (d := k) [F4, (.slice 93 An1)] [F4, (.int .i64)] [.o] (fun x => B40 k x.1 x.2.1) (fun x => Fu8 k x.1 x.2.1), (Gz5).2⟩
theorem Fe3 (k : Nat) : Ok Tryz.prog (B77 k) := D0 (F2) (F1) (N3) (A7 (J4) (A7 (Cy2) (A7 (Bh9) (A7 (Gz4) (E9))))) (B8 (G12) (C2)) (C9) (C1)
theorem Fe4 (k : Nat) : N2 (B77 k) := N0 (B8 (G12) (C2))
theorem Fe5 (k : Nat) : A27 Tryz.prog 64 (Cu5 k) ∧ W4 Tryz.prog 64 := ⟨U1 (Fe3 k) mixed (Fe4 k) (d := k) [.box C8] [(.int .i64)] [] (fun x => Ab8 k x.1) (fun x => E64 k x.1), (G12).2⟩
theorem Eq4 (k : Nat) : Ok Tryz.prog (Bx0 k) := D0 (F2) (F1) (N3) (E9) (B8 (G13) (C2)) (C9) (S6 (Fe5 k) (C1))
theorem Eq5 (k : Nat) : N2 (Bx0 k) := N0 (B8 (G13) (C2))
theorem W0 (k : Nat) : A27 Tryz.prog 65 (P5 k) ∧ W4 Tryz.prog 65 := ⟨U1 (Eq4 k) mixed (Eq5 k) (d := k) [.box C8, .imm (.int .i64)] [(.int .i64)] [] (fun x => C7 k x.1 x.2.1) (fun x => Ei7 k x.1 x.2.1), (G13).2⟩
theorem F74 (k : Nat) : Ok Tryz.prog (Bc0 k) := D0 (F2) (F1) (N3) (A7 (J4) (A7 (Cy2) (A7 (T6) (A7 (Bh9) (E9))))) (B8 (Fy9) (C2)) (C9) (C1)
theorem F75 (k : Nat) : N2 (Bc0 k) := N0 (B8 (Fy9) (C2))
theorem Be5 (k : Nat) : SG 109 (Aj8 k) := ⟨A2 (F74 k) mixed (F75 k) (d := k) [(.int .i64)] [.str] [] (fun x => L9 k x.1) (fun x => Fv0 k x.1), (Fy9).2⟩
theorem D27 (k : Nat) : Ok Tryz.prog (Ae8 k) := D0 (F2) (F1) (N3) (A7 (J4) (A7 (J3) (E9))) (B8 (F36) (C2)) (B1 (L8 k) (C9)) (C1)
theorem D28 (k : Nat) : N2 (Ae8 k) := N0 (B8 (F36) (C2))
theorem D29 (k : Nat) : SG 195 (B78 k) := ⟨A2 (D27 k) mixed (D28 k) (d := k) [(.slice 3 (.int .i64))] [.bool] [] (fun x => U5 k x.1) (fun x => Dy4 k x.1), (F36).2⟩
theorem Fe6 (k : Nat) : Ok Tryz.prog (B79 k) := D0 (F2) (F1) (N3) (A7 (J4) (A7 (T6) (A7 (J3) (A7 (I8) (E9))))) (B8 (F21) (C2)) (B1 (L8 k) (B1 (D29 k) (C9))) (C1)
theorem Fe7 (k : Nat) : N2 (B79 k) := N0 (B8 (F21) (C2))
theorem Db6 (k : Nat) : SG 170 (Bx2 k) := ⟨A2 (Fe6 k) mixed (Fe7 k) (d := k) [A4] [.bool] [] (fun x => U2 k x.1) (fun x => E66 k x.1), (F21).2⟩
theorem Fe8 (k : Nat) : Ok Tryz.prog (Ay4 k) := D0 (F2) (F1) (N3) (A7 (J4) (A7 (Fe0) (A7 (J3) (A7 (I8) (E9))))) (B8 (F10) (C2)) (B1 (L8 k) (B1 (Db6 k) (C9))) (C1)
theorem Fe9 (k : Nat) : N2 (Ay4 k) := N0 (B8 (F10) (C2))
theorem A09 (k : Nat) : SG 152 (Ad3 k) := ⟨A2 (Fe8 k) mixed (Fe9 k) (d := k) [A4] [.bool] [] (fun x => I9 k x.1) (fun x => E68 k x.1), (F10).2⟩
theorem F76 (k : Nat) : Ok Tryz.prog (Bc1 k) := D0 (F2) (F1) (N3) (A7 (J4) (A7 (Ai4) (A7 (k8) (A7 (I8) (E9))))) (B8 (F31) (C2)) (C9) (C1)
theorem F77 (k : Nat) : N2 (Bc1 k) := N0 (B8 (F31) (C2))
theorem Cn8 (k : Nat) : SG 190 (Bh3 k) := ⟨A2 (F76 k) mixed (F77 k) (d := k) [D6, (.int .i64)] [(.int .i64)] [] (fun x => A90 k x.1 x.2.1) (fun x => Fv2 k x.1 x.2.1), (F31).2⟩
theorem Ff0 (k : Nat) : Ok Tryz.prog (Ay6 k) := D0 (F2) (F1) (N3) (A7 (J4) (A7 (J3) (A7 (Ai4) (A7 (k8) (A7 (I8) (E9)))))) (B8 (F27) (C2)) (B1 (Cn8 k) (C9)) (C1)
theorem Ff1 (k : Nat) : N2 (Ay6 k) := N0 (B8 (F27) (C2))
theorem Cb7 (k : Nat) : SG 177 (A52 k) := ⟨A2 (Ff0 k) mixed (Ff1 k) (d := k) [D6, (.slice 3 (.int .i64))] [(.int .i64)] [] (fun x => J0 k x.1 x.2.1) (fun x => E71 k x.1 x.2.1), (F27).2⟩
theorem Ff2 (k : Nat) : Ok Tryz.prog (Ay7 k) := D0 (F2) (F1) (N3) (A7 (J4) (A7 (Ai4) (A7 (I8) (E9)))) (B8 (F44) (C2)) (C9) (C1)
theorem Ff3 (k : Nat) : N2 (Ay7 k) := N0 (B8 (F44) (C2))
theorem Ab4 (k : Nat) : SG 204 (V7 k) := ⟨A2 (Ff2 k) mixed (Ff3 k) (d := k) [(.slice 162 A4), (.int .i64)] [A4, .bool] [.s, .s] (fun x => L7 k x.1 x.2.1) (fun x => E73 k x.1 x.2.1), (F44).2⟩
theorem He7 (k : Nat) : Ok Tryz.prog (Dp5 k) := D0 (F2) (F1) (N3) (A7 (J4) (A7 (Au9) (A7 (Cn7) (E9)))) (B8 (F45) (C2)) (C9) (C1)
theorem He8 (k : Nat) : N2 (Dp5 k) := N0 (B8 (F45) (C2))
theorem Cn9 (k : Nat) : SG 205 (Bh4 k) := ⟨A2 (He7 k) mixed (He8 k) (d := k) [(.slice 260 B2), (.int .i64)] [(.int .i64)] [] (fun x => Ce2 k x.1 x.2.1) (fun x => Hd9 k x.1 x.2.1), (F45).2⟩
theorem Eq6 (k : Nat) : Ok Tryz.prog (Bx4 k) := D0 (F2) (F1) (N3) (A7 (J4) (A7 (I8) (E9))) (B8 (F48) (C2)) (B1 (L8 k) (B1 (Ab4 k) (B1 (Cn9 k) (C9)))) (C1)
theorem Eq7 (k : Nat) : N2 (Bx4 k) := N0 (B8 (F48) (C2))
theorem Ar2 (k : Nat) : SG 208 (o8 k) := ⟨A2 (Eq6 k) mixed (Eq7 k) (d := k) [(.slice 162 A4), (.slice 260 B2), (.int .i64)] [(.int .i64)] [] (fun x => Q5 k x.1 x.2.1 x.2.2.1) (fun x => Ej1 k x.1 x.2.1 x.2.2.1), (F48).2⟩
theorem Ff4 (k : Nat) : Ok Tryz.prog (B80 k) := D0 (F2) (F1) (N3) (A7 (J4) (A7 (J3) (A7 (I8) (E9)))) (B8 (F49) (C2)) (B1 (L8 k) (B1 (Ab4 k) (B1 (Cn9 k) (C9)))) (C1)
theorem Ff5 (k : Nat) : N2 (B80 k) := N0 (B8 (F49) (C2))
theorem Bi1 (k : Nat) : SG 209 (An5 k) := ⟨A2 (Ff4 k) mixed (Ff5 k) (d := k) [(.slice 162 A4), (.slice 260 B2), (.int .i64)] [(.int .i64)] [] (fun x => U3 k x.1 x.2.1 x.2.2.1) (fun x => E74 k x.1 x.2.1 x.2.2.1), (F49).2⟩
theorem Eq8 (k : Nat) : Ok Tryz.prog (An6 k) := D0 (F2) (F1) (N3) (A7 (J4) (A7 (Au9) (A7 (Cn7) (E9)))) (B8 (F64) (C2)) (C9) (C1)
theorem Eq9 (k : Nat) : N2 (An6 k) := N0 (B8 (F64) (C2))
theorem Er0 (k : Nat) : SG 236 (Ci5 k) := ⟨A2 (Eq8 k) mixed (Eq9 k) (d := k) [(.slice 260 B2)] [.bool] [] (fun x => A91 k x.1) (fun x => Ej3 k x.1), (F64).2⟩
theorem Ff6 (k : Nat) : Ok Tryz.prog (B81 k) := D0 (F2) (F1) (N3) (A7 (J4) (A7 (I8) (E9))) (B8 (F57) (C2)) (B1 (Ab4 k) (B1 (Cn9 k) (B1 (Ar2 k) (B1 (Er0 k) (C9))))) (C1)
theorem Ff7 (k : Nat) : N2 (B81 k) := N0 (B8 (F57) (C2))
theorem Ff8 (k : Nat) : SG 225 (Cu8 k) := ⟨A2 (Ff6 k) mixed (Ff7 k) (d := k) [(.slice 162 A4), (.slice 260 B2), A4] [.bool] [] (fun x => Bn9 k x.1 x.2.1 x.2.2.1) (fun x => E75 k x.1 x.2.1 x.2.2.1), (F57).2⟩
theorem D30 (k : Nat) : Ok Tryz.prog (Bl0 k) := D0 (F2) (F1) (N3) (A7 (J4) (A7 (I8) (E9))) (B8 (F46) (C2)) (B1 (Ar2 k) (B1 (Bi1 k) (B1 (Ff8 k) (C9)))) (C1)
theorem D31 (k : Nat) : N2 (Bl0 k) := N0 (B8 (F46) (C2))
theorem D32 (k : Nat) : SG 206 (B82 k) := ⟨A2 (D30 k) mixed (D31 k) (d := k) [(.slice 162 A4), (.slice 260 B2), A4] [.bool] [] (fun x => Ai8 k x.1 x.2.1 x.2.2.1) (fun x => Dy9 k x.1 x.2.1 x.2.2.1), (F46).2⟩
theorem Er1 (k : Nat) : Ok Tryz.prog (An7 k) := D0 (F2) (F1) (N3) (A7 (J4) (A7 (J3) (A7 (I8) (E9)))) (B8 (F47) (C2)) (B1 (Ar2 k) (B1 (Bi1 k) (C9))) (C1)
theorem Er2 (k : Nat) : N2 (An7 k) := N0 (B8 (F47) (C2))
theorem Er3 (k : Nat) : SG 207 (Ci6 k) := ⟨A2 (Er1 k) mixed (Er2 k) (d := k) [(.slice 162 A4), (.slice 260 B2), A4] [.bool] [] (fun x => A92 k x.1 x.2.1 x.2.2.1) (fun x => Ej5 k x.1 x.2.1 x.2.2.1), (F47).2⟩
theorem Ff9 (k : Nat) : Ok Tryz.prog (B83 k) := D0 (F2) (F1) (N3) (A7 (J4) (A7 (I8) (A7 (Au9) (E9)))) (B8 (F29) (C2)) (B1 (A09 k) (B1 (Ab4 k) (B1 (Cn9 k) (B1 (D32 k) (B1 (Er3 k) (B1 (Ar2 k) (B1 (Bi1 k) (C9)))))))) (C1)
theorem Fg0 (k : Nat) : N2 (B83 k) := N0 (B8 (F29) (C2))
theorem Cb8 (k : Nat) : SG 179 (A53 k) := ⟨A2 (Ff9 k) mixed (Fg0 k) (d := k) [(.slice 162 A4), (.slice 260 B2), A4] [.bool] [] (fun x => As3 k x.1 x.2.1 x.2.2.1) (fun x => E76 k x.1 x.2.1 x.2.2.1), (F29).2⟩
theorem Gn5 (k : Nat) : Ok Tryz.prog (C16 k) := D0 (F2) (F1) (N3) (A7 (J4) (A7 (I8) (E9))) (B8 (F32) (C2)) (B1 (L8 k) (C9)) (C1)
theorem Gn6 (k : Nat) : N2 (C16 k) := N0 (B8 (F32) (C2))
theorem Ec1 (k : Nat) : SG 191 (Cm6 k) := ⟨A2 (Gn5 k) mixed (Gn6 k) (d := k) [A4] [(.int .i64)] [] (fun x => A34 k x.1) (fun x => Gl4 k x.1), (F32).2⟩
theorem F78 (k : Nat) : Ok Tryz.prog (Cm7 k) := D0 (F2) (F1) (N3) (E9) (B8 (F58) (C2)) (B1 (L8 k) (C9)) (C1)
theorem F79 (k : Nat) : N2 (Cm7 k) := N0 (B8 (F58) (C2))
theorem F80 (k : Nat) : SG 230 (C90 k) := ⟨A2 (F78 k) mixed (F79 k) (d := k) [(.int .i64)] [.bool] [] (fun x => Bo0 k x.1) (fun x => Fv3 k x.1), (F58).2⟩
theorem Fg1 (k : Nat) : Ok Tryz.prog (Ay8 k) := D0 (F2) (F1) (N3) (A7 (J4) (A7 (Au9) (A7 (Cn7) (E9)))) (B8 (F50) (C2)) (B1 (L8 k) (B1 (F80 k) (C9))) (C1)
theorem Fg2 (k : Nat) : N2 (Ay8 k) := N0 (B8 (F50) (C2))
theorem Fg3 (k : Nat) : SG 218 (Cv0 k) := ⟨A2 (Fg1 k) mixed (Fg2 k) (d := k) [(.slice 260 B2)] [.bool] [] (fun x => A72 k x.1) (fun x => E79 k x.1), (F50).2⟩
theorem G94 (k : Nat) : Ok Tryz.prog (Cd8 k) := D0 (F2) (F1) (N3) (A7 (J4) (A7 (Au9) (A7 (Cn7) (E9)))) (B8 (F33) (C2)) (B1 (Fg3 k) (C9)) (C1)
theorem G95 (k : Nat) : N2 (Cd8 k) := N0 (B8 (F33) (C2))
theorem Gf5 (k : Nat) : SG 192 (Dp8 k) := ⟨A2 (G94 k) mixed (G95 k) (d := k) [(.slice 260 B2), (.int .i64), (.int .i64)] [(.slice 260 B2)] [.o] (fun x => D90 k x.1 x.2.1 x.2.2.1) (fun x => G84 k x.1 x.2.1 x.2.2.1), (F33).2⟩
theorem Fg4 (k : Nat) : Ok Tryz.prog (Aa2 k) := D0 (F2) (F1) (N3) (A7 (J4) (A7 (J3) (A7 (B03) (A7 (Au9) (A7 (Cn7) (E9)))))) (B8 (F59) (C2)) (C9) (C1)
theorem Fg5 (k : Nat) : N2 (Aa2 k) := N0 (B8 (F59) (C2))
theorem Db7 (k : Nat) : SG 231 (Bx5 k) := ⟨A2 (Fg4 k) mixed (Fg5 k) (d := k) [(.slice 215 (.slice 260 B2))] [(.slice 3 (.int .i64))] [.o] (fun x => A73 k x.1) (fun x => E81 k x.1), (F59).2⟩
theorem Er4 (k : Nat) : Ok Tryz.prog (Ao0 k) := D0 (F2) (F1) (N3) (A7 (B03) (A7 (Au9) (E9))) (B8 (F60) (C2)) (B1 (Cn9 k) (C9)) (C1)
theorem Er5 (k : Nat) : N2 (Ao0 k) := N0 (B8 (F60) (C2))
theorem Cy3 (k : Nat) : SG 232 (Bl2 k) := ⟨A2 (Er4 k) mixed (Er5 k) (d := k) [(.slice 215 (.slice 260 B2)), (.int .i64)] [.bool] [] (fun x => As4 k x.1 x.2.1) (fun x => Ek2 k x.1 x.2.1), (F60).2⟩
theorem F81 (k : Nat) : Ok Tryz.prog (Bc5 k) := D0 (F2) (F1) (N3) (A7 (J4) (A7 (J3) (A7 (B03) (A7 (Au9) (A7 (Cn7) (E9)))))) (B8 (F54) (C2)) (B1 (Cn9 k) (B1 (Db7 k) (B1 (Cy3 k) (C9)))) (C1)
theorem F82 (k : Nat) : N2 (Bc5 k) := N0 (B8 (F54) (C2))
theorem F83 (k : Nat) : SG 222 (C93 k) := ⟨A2 (F81 k) mixed (F82 k) (d := k) [(.slice 215 (.slice 260 B2))] [(.slice 260 B2)] [.o] (fun x => Bo1 k x.1) (fun x => Fv5 k x.1), (F54).2⟩
theorem Gn7 (k : Nat) : Ok Tryz.prog (Bq2 k) := D0 (F2) (F1) (N3) (A7 (J4) (A7 (J3) (E9))) (B8 (F55) (C2)) (B1 (Db7 k) (B1 (Cy3 k) (C9))) (C1)
theorem Gn8 (k : Nat) : N2 (Bq2 k) := N0 (B8 (F55) (C2))
theorem Gn9 (k : Nat) : SG 223 (Dq0 k) := ⟨A2 (Gn7 k) mixed (Gn8 k) (d := k) [(.slice 215 (.slice 260 B2))] [(.slice 3 (.int .i64))] [.o] (fun x => Cq7 k x.1) (fun x => Gl6 k x.1), (F55).2⟩
theorem Go0 (k : Nat) : Ok Tryz.prog (Bq3 k) := D0 (F2) (F1) (N3) (A7 (J4) (A7 (J3) (E9))) (B8 (F41) (C2)) (C9) (C1)
theorem Go1 (k : Nat) : N2 (Bq3 k) := N0 (B8 (F41) (C2))
theorem Ce0 (k : Nat) : SG 201 (Bc8 k) := ⟨A2 (Go0 k) mixed (Go1 k) (d := k) [(.slice 3 (.int .i64)), (.int .i64)] [.bool] [] (fun x => Av3 k x.1 x.2.1) (fun x => Gl8 k x.1 x.2.1), (F41).2⟩
theorem F84 (k : Nat) : Ok Tryz.prog (Bc9 k) := D0 (F2) (F1) (N3) (A7 (J4) (A7 (J3) (E9))) (B8 (F42) (C2)) (C9) (C1)
theorem F85 (k : Nat) : N2 (Bc9 k) := N0 (B8 (F42) (C2))
theorem Du2 (k : Nat) : SG 202 (B87 k) := ⟨A2 (F84 k) mixed (F85 k) (d := k) [(.slice 3 (.int .i64)), (.int .i64)] [(.slice 3 (.int .i64))] [.o] (fun x => Bo2 k x.1 x.2.1) (fun x => Fv9 k x.1 x.2.1), (F42).2⟩
theorem D33 (k : Nat) : Ok Tryz.prog (o9 k) := D0 (F2) (F1) (N3) (A7 (J4) (A7 (J3) (A7 (I8) (E9)))) (B8 (F61) (C2)) (B1 (Ce0 k) (B1 (Ab4 k) (C9))) (C1)
theorem D34 (k : Nat) : N2 (o9 k) := N0 (B8 (F61) (C2))
theorem D35 (k : Nat) : SG 233 (B88 k) := ⟨A2 (D33 k) mixed (D34 k) (d := k) [(.slice 162 A4), (.int .i64)] [(.slice 3 (.int .i64))] [.o] (fun x => Aw9 k x.1 x.2.1) (fun x => Dz4 k x.1 x.2.1), (F61).2⟩
theorem Er6 (k : Nat) : Ok Tryz.prog (Ao2 k) := D0 (F2) (F1) (N3) (A7 (J4) (A7 (J3) (E9))) (B8 (F62) (C2)) (B1 (Ce0 k) (C9)) (C1)
theorem Er7 (k : Nat) : N2 (Ao2 k) := N0 (B8 (F62) (C2))
theorem Er8 (k : Nat) : SG 234 (Ci8 k) := ⟨A2 (Er6 k) mixed (Er7 k) (d := k) [(.slice 3 (.int .i64)), (.slice 3 (.int .i64)), (.slice 3 (.int .i64))] [.bool] [] (fun x => As5 k x.1 x.2.1 x.2.2.1) (fun x => Ek4 k x.1 x.2.1 x.2.2.1), (F62).2⟩
theorem Er9 (k : Nat) : Ok Tryz.prog (Bx8 k) := D0 (F2) (F1) (N3) (A7 (J4) (A7 (I8) (E9))) (B8 (F65) (C2)) (C9) (C1)
theorem Es0 (k : Nat) : N2 (Bx8 k) := N0 (B8 (F65) (C2))
theorem Es1 (k : Nat) : SG 237 (Ci9 k) := ⟨A2 (Er9 k) mixed (Es0 k) (d := k) [A4] [.bool] [] (fun x => u0 k x.1) (fun x => Ek5 k x.1), (F65).2⟩
theorem Fg6 (k : Nat) : Ok Tryz.prog (B89 k) := D0 (F2) (F1) (N3) (A7 (J4) (A7 (Fe0) (A7 (I8) (E9)))) (B8 (F63) (C2)) (B1 (Bi1 k) (B1 (Es1 k) (C9))) (C1)
theorem Fg7 (k : Nat) : N2 (B89 k) := N0 (B8 (F63) (C2))
theorem Fg8 (k : Nat) : SG 235 (Cv4 k) := ⟨A2 (Fg6 k) mixed (Fg7 k) (d := k) [(.slice 162 A4), (.slice 260 B2), A4, A4] [.bool] [] (fun x => Bo3 k x.1 x.2.1 x.2.2.1 x.2.2.2.1) (fun x => E84 k x.1 x.2.1 x.2.2.1 x.2.2.2.1), (F63).2⟩
theorem Go2 (k : Nat) : Ok Tryz.prog (Ad4 k) := D0 (F2) (F1) (N3) (A7 (J4) (A7 (J3) (A7 (I8) (A7 (He2) (E9))))) (B8 (F56) (C2)) (B1 (Ce0 k) (B1 (Du2 k) (B1 (Ab4 k) (B1 (D35 k) (B1 (Er8 k) (B1 (Fg8 k) (C9))))))) (C1)
theorem Go3 (k : Nat) : N2 (Ad4 k) := N0 (B8 (F56) (C2))
theorem Go4 (k : Nat) : SG 224 (Dq5 k) := ⟨A2 (Go2 k) mixed (Go3 k) (d := k) [(.slice 162 A4), (.slice 260 B2), (.slice 3 (.int .i64))] [(.slice 3 (.int .i64))] [.o] (fun x => Cq9 k x.1 x.2.1 x.2.2.1) (fun x => Gm0 k x.1 x.2.1 x.2.2.1), (F56).2⟩
theorem Fg9 (k : Nat) : Ok Tryz.prog (Aa5 k) := D0 (F2) (F1) (N3) (A7 (J4) (A7 (J3) (A7 (B03) (A7 (I8) (A7 (Au9) (E9)))))) (B8 (F43) (C2)) (B1 (Cb8 k) (B1 (Ec1 k) (B1 (Gf5 k) (B1 (Ab4 k) (B1 (Cn9 k) (B1 (F83 k) (B1 (Gn9 k) (B1 (Go4 k) (C9))))))))) (C1)
theorem Fh0 (k : Nat) : N2 (Aa5 k) := N0 (B8 (F43) (C2))
theorem Fh1 (k : Nat) : SG 203 (Cv5 k) := ⟨A2 (Fg9 k) mixed (Fh0 k) (d := k) [(.slice 162 A4), (.slice 215 (.slice 260 B2))] [(.slice 260 B2)] [.o] (fun x => Bo4 k x.1 x.2.1) (fun x => E86 k x.1 x.2.1), (F43).2⟩
theorem D36 (k : Nat) : Ok Tryz.prog (Af5 k) := D0 (F2) (F1) (N3) (A7 (J4) (A7 (J3) (A7 (Ai4) (A7 (B03) (A7 (k8) (A7 (Au9) (E9))))))) (B8 (F28) (C2)) (B1 (Cn8 k) (B1 (Fh1 k) (C9))) (C1)
theorem D37 (k : Nat) : N2 (Af5 k) := N0 (B8 (F28) (C2))
theorem Bm9 (k : Nat) : SG 178 (Ao4 k) := ⟨A2 (D36 k) mixed (D37 k) (d := k) [D6, (.slice 3 (.int .i64))] [(.slice 260 B2), .bool] [.o] (fun x => M6 k x.1 x.2.1) (fun x => Dz8 k x.1 x.2.1), (F28).2⟩
theorem F86 (k : Nat) : Ok Tryz.prog (Cm8 k) := D0 (F2) (F1) (N3) (A7 (J4) (A7 (J3) (A7 (Ai4) (A7 (B03) (A7 (C27) (A7 (k8) (A7 (I8) (E9)))))))) (B8 (F19) (C2)) (B1 (A09 k) (B1 (Cb7 k) (B1 (Bm9 k) (B1 (Cb8 k) (B1 (Cn8 k) (B1 (Ec1 k) (B1 (Gf5 k) (C9)))))))) (C1)
theorem F87 (k : Nat) : N2 (Cm8 k) := N0 (B8 (F19) (C2))
theorem Du3 (k : Nat) : SG 168 (B90 k) := ⟨A2 (F86 k) mixed (F87 k) (d := k) [D6, A4] [D6, .bool] [.o, .o, .o] (fun x => A95 k x.1 x.2.1) (fun x => Fw5 k x.1 x.2.1), (F19).2⟩
theorem De0 (k : Nat) : Ok Tryz.prog (l9 k) := D0 (F2) (F1) (N3) (A7 (J4) (A7 (J3) (E9))) (B8 (F09) (C2)) (C9) (C1)
theorem De1 (k : Nat) : N2 (l9 k) := N0 (B8 (F09) (C2))
theorem B21 (k : Nat) : SG 151 (Au4 k) := ⟨A2 (De0 k) mixed (De1 k) (d := k) [(.slice 3 (.int .i64)), (.slice 3 (.int .i64))] [.bool] [] (fun x => M0 k x.1 x.2.1) (fun x => Dc8 k x.1 x.2.1), (F09).2⟩
theorem Fh2 (k : Nat) : Ok Tryz.prog (B91 k) := D0 (F2) (F1) (N3) (A7 (J4) (A7 (T6) (A7 (J3) (A7 (I8) (E9))))) (B8 (F34) (C2)) (B1 (B21 k) (C9)) (C1)
theorem Fh3 (k : Nat) : N2 (B91 k) := N0 (B8 (F34) (C2))
theorem Db8 (k : Nat) : SG 193 (By3 k) := ⟨A2 (Fh2 k) mixed (Fh3 k) (d := k) [A4, A4] [.bool] [] (fun x => Ai9 k x.1 x.2.1) (fun x => E87 k x.1 x.2.1), (F34).2⟩
theorem C28 (k : Nat) : Ok Tryz.prog (Z8 k) := D0 (F2) (F1) (eq1 (G90) (N3)) (A7 (Au9) (A7 (Cn7) (E9))) (B8 (F35) (C2)) (C9) (C1)
theorem C29 (k : Nat) : N2 (Z8 k) := N0 (B8 (F35) (C2))
theorem C30 (k : Nat) : SG 194 (Bh5 k) := ⟨A2 (C28 k) mixed (C29 k) (d := k) [(.slice 260 B2), (.slice 260 B2)] [.bool] [] (fun x => Z0 k x.1 x.2.1) (fun x => C19 k x.1 x.2.1), (F35).2⟩
theorem Fh4 (k : Nat) : Ok Tryz.prog (Aa7 k) := D0 (F2) (F1) (N3) (A7 (Fe0) (A7 (Ai4) (A7 (B03) (A7 (C27) (A7 (k8) (A7 (I8) (A7 (Au9) (E9)))))))) (B8 (F20) (C2)) (B1 (Db8 k) (B1 (C30 k) (C9))) (C1)
theorem Fh5 (k : Nat) : N2 (Aa7 k) := N0 (B8 (F20) (C2))
theorem Fh6 (k : Nat) : SG 169 (Cv7 k) := ⟨A2 (Fh4 k) mixed (Fh5 k) (d := k) [D6, D6] [.bool] [] (fun x => Bo6 k x.1 x.2.1) (fun x => E89 k x.1 x.2.1), (F20).2⟩
theorem F88 (k : Nat) : Ok Tryz.prog (Bd2 k) := D0 (F2) (F1) (N3) (A7 (Ai4) (A7 (k8) (A7 (I8) (E9)))) (B8 (F07) (C2)) (B1 (Du3 k) (B1 (Fh6 k) (C9))) (C1)
theorem F89 (k : Nat) : N2 (Bd2 k) := N0 (B8 (F07) (C2))
theorem F90 (k : Nat) : SG 149 (C96 k) := ⟨A2 (F88 k) mixed (F89 k) (d := k) [D6] [.bool] [] (fun x => B46 k x.1) (fun x => Fw7 k x.1), (F07).2⟩
theorem F91 (k : Nat) : Ok Tryz.prog (Bd3 k) := D0 (F2) (F1) (N3) (A7 (J4) (A7 (Fe0) (A7 (J3) (A7 (Ai4) (A7 (C27) (A7 (k8) (A7 (I8) (E9)))))))) (B8 (F08) (C2)) (C9) (C1)
theorem F92 (k : Nat) : N2 (Bd3 k) := N0 (B8 (F08) (C2))
theorem F93 (k : Nat) : SG 150 (C97 k) := ⟨A2 (F91 k) mixed (F92 k) (d := k) [D6] [(.slice 3 (.int .i64))] [.o] (fun x => B48 k x.1) (fun x => Fw9 k x.1), (F08).2⟩
theorem F94 (k : Nat) : Ok Tryz.prog (Au5 k) := D0 (F2) (F1) (N3) (A7 (J4) (A7 (T6) (A7 (J3) (A7 (Dt5) (A7 (k8) (A7 (Dt6) (A7 (Cn6) (A7 (Eq3) (A7 (Dt7) (E9)))))))))) (B8 (Fz2) (C2)) (B1 (L8 k) (B1 (F90 k) (B1 (F93 k) (B1 (B21 k) (C9))))) (C1)
theorem F95 (k : Nat) : N2 (Au5 k) := N0 (B8 (Fz2) (C2))
theorem Du4 (k : Nat) : SG 115 (B92 k) := ⟨A2 (F94 k) mixed (F95 k) (d := k) [L6] [.bool] [] (fun x => Al6 k x.1) (fun x => Fx1 k x.1), (Fz2).2⟩
theorem Es2 (k : Nat) : Ok Tryz.prog (By6 k) := D0 (F2) (F1) (N3) (A7 (T6) (E9)) (B8 (Fz3) (C2)) (B1 (Be5 k) (C9)) (C1)
theorem Es3 (k : Nat) : N2 (By6 k) := N0 (B8 (Fz3) (C2))
theorem B04 (k : Nat) : SG 116 (Av6 k) := ⟨A2 (Es2 k) mixed (Es3 k) (d := k) [.str] [.str] [] (fun x => W7 k x.1) (fun x => El3 k x.1), (Fz3).2⟩
theorem Fh7 (k : Nat) : Ok Tryz.prog (B93 k) := D0 (F2) (F1) (N3) (A7 (J4) (A7 (Cy2) (A7 (T6) (A7 (Bh9) (E9))))) (B8 (F22) (C2)) (C9) (C1)
theorem Fh8 (k : Nat) : N2 (B93 k) := N0 (B8 (F22) (C2))
theorem Fh9 (k : Nat) : SG 171 (Cv8 k) := ⟨A2 (Fh7 k) mixed (Fh8 k) (d := k) [(.int .i64)] [.str] [] (fun x => n7 k x.1) (fun x => E94 k x.1), (F22).2⟩
theorem De2 (k : Nat) : Ok Tryz.prog (m6 k) := D0 (F2) (F1) (N3) (A7 (J4) (A7 (T6) (A7 (J3) (A7 (I8) (E9))))) (B8 (F11) (C2)) (B1 (Be5 k) (B1 (B04 k) (B1 (Fh9 k) (C9)))) (C1)
theorem De3 (k : Nat) : N2 (m6 k) := N0 (B8 (F11) (C2))
theorem De4 (k : Nat) : SG 153 (Bq5 k) := ⟨A2 (De2 k) mixed (De3 k) (d := k) [A4] [.str] [] (fun x => n8 k x.1) (fun x => Dd0 k x.1), (F11).2⟩
theorem D38 (k : Nat) : Ok Tryz.prog (Af7 k) := D0 (F2) (F1) (N3) (A7 (J4) (A7 (J3) (A7 (I8) (E9)))) (B8 (Fz4) (C2)) (B1 (Be5 k) (B1 (A09 k) (B1 (De4 k) (C9)))) (C1)
theorem D39 (k : Nat) : N2 (Af7 k) := N0 (B8 (Fz4) (C2))
theorem D40 (k : Nat) : SG 117 (B94 k) := ⟨A2 (D38 k) mixed (D39 k) (d := k) [A4] [.str, .bool] [] (fun x => Ax0 k x.1) (fun x => D02 k x.1), (Fz4).2⟩
theorem Es4 (k : Nat) : Ok Tryz.prog (j8 k) := D0 (F2) (F1) (N3) (A7 (J4) (A7 (T6) (A7 (Bh9) (A7 (Dt5) (A7 (Ai4) (A7 (k8) (A7 (Dt6) (A7 (Cn6) (A7 (Eq3) (A7 (I8) (A7 (Dt7) (E9)))))))))))) (B8 (G14) (C2)) (B1 (Be5 k) (B1 (Du4 k) (B1 (B04 k) (B1 (D40 k) (C9))))) (C1)
theorem Es5 (k : Nat) : N2 (j8 k) := N0 (B8 (G14) (C2))
theorem Es6 (k : Nat) : SG 68 (Cj2 k) := ⟨A2 (Es4 k) mixed (Es5 k) (d := k) [L6] [.str, .bool] [] (fun x => Ah8 k x.1) (fun x => El5 k x.1), (G14).2⟩
theorem Fi0 (k : Nat) : Ok Tryz.prog (Az4 k) := D0 (F2) (F1) (N3) (A7 (Dt6) (A7 (Cn6) (A7 (Dt7) (E9)))) (B8 (Fz5) (C2)) (C9) (C1)
theorem Fi1 (k : Nat) : N2 (Az4 k) := N0 (B8 (Fz5) (C2))
theorem Fi2 (k : Nat) : SG 118 (Cw0 k) := ⟨A2 (Fi0 k) mixed (Fi1 k) (d := k) [] [L6] [.o, .o, .o, .o, .o] (fun x => Bo7 k) (fun x => E96 k), (Fz5).2⟩
theorem D41 (k : Nat) : Ok Tryz.prog (Bl4 k) := D0 (F2) (F1) (N3) (A7 (J4) (A7 (Cy2) (E9))) (B8 (F03) (C2)) (C9) (C1)
theorem D42 (k : Nat) : N2 (Bl4 k) := N0 (B8 (F03) (C2))
theorem D43 (k : Nat) : SG 138 (B95 k) := ⟨A2 (D41 k) mixed (D42 k) (d := k) [(.int .i64)] [(.int .u8)] [] (fun x => w5 k x.1) (fun x => D06 k x.1), (F03).2⟩
theorem Fi3 (k : Nat) : Ok Tryz.prog (Az5 k) := D0 (F2) (F1) (N3) (A7 (T6) (A7 (Bh9) (E9))) (B8 (Fy6) (C2)) (B1 (D43 k) (C9)) (C1)
theorem Fi4 (k : Nat) : N2 (Az5 k) := N0 (B8 (Fy6) (C2))
theorem Db9 (k : Nat) : SG 100 (By7 k) := ⟨A2 (Fi3 k) mixed (Fi4 k) (d := k) [(.int .i64)] [.str] [] (fun x => Z1 k x.1) (fun x => E98 k x.1), (Fy6).2⟩
theorem Es7 (k : Nat) : Ok Tryz.prog (By8 k) := D0 (F2) (F1) (N3) (A7 (I8) (E9)) (B8 (F23) (C2)) (B1 (Db8 k) (C9)) (C1)
theorem Es8 (k : Nat) : N2 (By8 k) := N0 (B8 (F23) (C2))
theorem Es9 (k : Nat) : SG 172 (Cj3 k) := ⟨A2 (Es7 k) mixed (Es8 k) (d := k) [A4] [.bool] [] (fun x => At0 k x.1) (fun x => El8 k x.1), (F23).2⟩
theorem D44 (k : Nat) : Ok Tryz.prog (Bl6 k) := D0 (F2) (F1) (N3) (A7 (J4) (A7 (J3) (A7 (I8) (A7 (Fy5) (E9))))) (B8 (F12) (C2)) (B1 (L8 k) (B1 (A09 k) (B1 (Db6 k) (B1 (Es9 k) (C9))))) (C1)
theorem D45 (k : Nat) : N2 (Bl6 k) := N0 (B8 (F12) (C2))
theorem D46 (k : Nat) : SG 154 (B96 k) := ⟨A2 (D44 k) mixed (D45 k) (d := k) [V6] [.bool] [] (fun x => Aj0 k x.1) (fun x => D07 k x.1), (F12).2⟩
theorem Fi5 (k : Nat) : Ok Tryz.prog (B97 k) := D0 (F2) (F1) (N3) (A7 (J3) (A7 (I8) (E9))) (B8 (F51) (C2)) (C9) (C1)
theorem Fi6 (k : Nat) : N2 (B97 k) := N0 (B8 (F51) (C2))
theorem Dc0 (k : Nat) : SG 219 (By9 k) := ⟨A2 (Fi5 k) mixed (Fi6 k) (d := k) [A4] [A4] [.o, .o] (fun x => At1 k x.1) (fun x => E99 k x.1), (F51).2⟩
theorem De5 (k : Nat) : Ok Tryz.prog (m7 k) := D0 (F2) (F1) (N3) (A7 (Ai4) (A7 (I8) (E9))) (B8 (F37) (C2)) (B1 (Dc0 k) (C9)) (C1)
theorem De6 (k : Nat) : N2 (m7 k) := N0 (B8 (F37) (C2))
theorem De7 (k : Nat) : SG 196 (Bq6 k) := ⟨A2 (De5 k) mixed (De6 k) (d := k) [(.slice 162 A4)] [(.slice 162 A4)] [.o] (fun x => Ae4 k x.1) (fun x => Dd4 k x.1), (F37).2⟩
theorem Fi7 (k : Nat) : Ok Tryz.prog (Az6 k) := D0 (F2) (F1) (N3) (A7 (Ai4) (A7 (B03) (A7 (C27) (A7 (k8) (A7 (Au9) (E9)))))) (B8 (F24) (C2)) (B1 (De7 k) (C9)) (C1)
theorem Fi8 (k : Nat) : N2 (Az6 k) := N0 (B8 (F24) (C2))
theorem Dc1 (k : Nat) : SG 173 (Bz0 k) := ⟨A2 (Fi7 k) mixed (Fi8 k) (d := k) [D6] [D6] [.o, .o, .o] (fun x => A74 k x.1) (fun x => Fa1 k x.1), (F24).2⟩
theorem Fi9 (k : Nat) : Ok Tryz.prog (Az7 k) := D0 (F2) (F1) (N3) (A7 (J3) (A7 (Dt5) (A7 (k8) (A7 (Dt6) (A7 (Cn6) (A7 (Dt7) (E9))))))) (B8 (F13) (C2)) (B1 (Dc1 k) (C9)) (C1)
theorem Fj0 (k : Nat) : N2 (Az7 k) := N0 (B8 (F13) (C2))
theorem Fj1 (k : Nat) : SG 155 (Cw1 k) := ⟨A2 (Fi9 k) mixed (Fj0 k) (d := k) [L6] [L6] [.o, .o, .o, .o, .o] (fun x => Aj1 k x.1) (fun x => Fa3 k x.1), (F13).2⟩
theorem Et0 (k : Nat) : Ok Tryz.prog (Bz1 k) := D0 (F2) (F1) (N3) (A7 (Ai4) (A7 (B03) (A7 (C27) (A7 (k8) (A7 (I8) (E9)))))) (B8 (F38) (C2)) (B1 (Du3 k) (B1 (Dc1 k) (C9))) (C1)
theorem Et1 (k : Nat) : N2 (Bz1 k) := N0 (B8 (F38) (C2))
theorem Et2 (k : Nat) : SG 198 (Cj4 k) := ⟨A2 (Et0 k) mixed (Et1 k) (d := k) [D6, A4] [D6, .bool] [.o, .o, .o] (fun x => At3 k x.1 x.2.1) (fun x => Em1 k x.1 x.2.1), (F38).2⟩
theorem F96 (k : Nat) : Ok Tryz.prog (Au6 k) := D0 (F2) (F1) (N3) (A7 (J4) (A7 (J3) (A7 (Ai4) (A7 (k8) (A7 (I8) (E9)))))) (B8 (F26) (C2)) (B1 (Ce0 k) (B1 (Du2 k) (C9))) (C1)
theorem F97 (k : Nat) : N2 (Au6 k) := N0 (B8 (F26) (C2))
theorem Co0 (k : Nat) : SG 176 (Bh8 k) := ⟨A2 (F96 k) mixed (F97 k) (d := k) [D6] [(.slice 3 (.int .i64))] [.o] (fun x => Al8 k x.1) (fun x => Fx3 k x.1), (F26).2⟩
theorem Fj2 (k : Nat) : Ok Tryz.prog (B98 k) := D0 (F2) (F1) (N3) (A7 (k8) (E9)) (B8 (F53) (C2)) (B1 (Co0 k) (B1 (Bm9 k) (C9))) (C1)
theorem Fj3 (k : Nat) : N2 (B98 k) := N0 (B8 (F53) (C2))
theorem Fj4 (k : Nat) : SG 221 (Cw2 k) := ⟨A2 (Fj2 k) mixed (Fj3 k) (d := k) [D6] [(.slice 260 B2)] [.o] (fun x => Bo8 k x.1) (fun x => Fa6 k x.1), (F53).2⟩
theorem Fj5 (k : Nat) : Ok Tryz.prog (Az9 k) := D0 (F2) (F1) (N3) (A7 (J3) (A7 (Ai4) (A7 (k8) (E9)))) (B8 (F39) (C2)) (B1 (Ar2 k) (B1 (Fj4 k) (C9))) (C1)
theorem Fj6 (k : Nat) : N2 (Az9 k) := N0 (B8 (F39) (C2))
theorem Fj7 (k : Nat) : SG 199 (Cw3 k) := ⟨A2 (Fj5 k) mixed (Fj6 k) (d := k) [D6] [(.slice 3 (.int .i64))] [.o] (fun x => Bo9 k x.1) (fun x => Fa8 k x.1), (F39).2⟩
theorem Go5 (k : Nat) : Ok Tryz.prog (C22 k) := D0 (F2) (F1) (N3) (A7 (J4) (A7 (J3) (A7 (k8) (A7 (I8) (E9))))) (B8 (F52) (C2)) (B1 (L8 k) (B1 (Co0 k) (B1 (Cb7 k) (B1 (Dc0 k) (C9))))) (C1)
theorem Go6 (k : Nat) : N2 (C22 k) := N0 (B8 (F52) (C2))
theorem Go7 (k : Nat) : SG 220 (Dr5 k) := ⟨A2 (Go5 k) mixed (Go6 k) (d := k) [D6, (.int .i64), A4] [A4] [.o, .o] (fun x => Cr2 k x.1 x.2.1 x.2.2.1) (fun x => Gm1 k x.1 x.2.1 x.2.2.1), (F52).2⟩
theorem Fj8 (k : Nat) : Ok Tryz.prog (e8 k) := D0 (F2) (F1) (N3) (A7 (J4) (A7 (Fe0) (A7 (T6) (A7 (J3) (A7 (Dt5) (A7 (C27) (A7 (k8) (A7 (Dt6) (A7 (Cn6) (A7 (Eq3) (A7 (I8) (A7 (Dt7) (A7 (Fy5) (E9)))))))))))))) (B8 (Fz6) (B8 (G35) (B8 (G36) (B8 (G37) (C2))))) (B1 (L8 k) (B1 (Db9 k) (B1 (Du4 k) (B1 (D46 k) (B1 (Fj1 k) (B1 (Et2 k) (B1 (Fj7 k) (B1 (Go7 k) (C9))))))))) (C1)
theorem Fj9 (k : Nat) : N2 (e8 k) := N0 (B8 (Fz6) (B8 (G35) (B8 (G36) (B8 (G37) (C2)))))
theorem Fk0 (k : Nat) : SG 119 (Cw4 k) := ⟨A2 (Fj8 k) mixed (Fj9 k) (d := k) [L6, (.int .i64), V6] [L6, .str, .bool] [.o, .o, .o, .o, .o] (fun x => Bp0 k x.1 x.2.1 x.2.2.1) (fun x => Fb1 k x.1 x.2.1 x.2.2.1), (Fz6).2⟩
theorem Fk1 (k : Nat) : Ok Tryz.prog (Ca0 k) := D0 (F2) (F1) (N3) (E9) (B8 (G28) (C2)) (C9) (S6 (W0 k) (C1))
theorem Fk2 (k : Nat) : N2 (Ca0 k) := N0 (B8 (G28) (C2))
theorem Bi2 (k : Nat) : A27 Tryz.prog 88 (Ap5 k) ∧ W4 Tryz.prog 88 := ⟨U1 (Fk1 k) mixed (Fk2 k) (d := k) [.box C8, .imm (.int .i64)] [.bool] [] (fun x => N7 k x.1 x.2.1) (fun x => Fb2 k x.1 x.2.1), (G28).2⟩
theorem Du5 (k : Nat) : Ok Tryz.prog (Bd4 k) := D0 (F2) (F1) (N3) (A7 (J4) (A7 (J3) (E9))) (B8 (F14) (C2)) (C9) (S6 (W0 k) (C1))
theorem Du6 (k : Nat) : N2 (Bd4 k) := N0 (B8 (F14) (C2))
theorem Cb9 (k : Nat) : A27 Tryz.prog 157 (A22 k) ∧ W4 Tryz.prog 157 := ⟨U1 (Du5 k) mixed (Du6 k) (d := k) [.box C8, .imm (.slice 3 (.int .i64))] [(.int .i64)] [] (fun x => R6 k x.1 x.2.1) (fun x => Dr6 k x.1 x.2.1), (F14).2⟩
theorem Fk3 (k : Nat) : Ok Tryz.prog (Ca1 k) := D0 (F2) (F1) (N3) (A7 (T6) (A7 (Ha6) (E9))) (B8 (F40) (C2)) (C9) (S6 (W0 k) (C1))
theorem Fk4 (k : Nat) : N2 (Ca1 k) := N0 (B8 (F40) (C2))
theorem Fk5 (k : Nat) : A27 Tryz.prog 200 (Cw5 k) ∧ W4 Tryz.prog 200 := ⟨U1 (Fk3 k) mixed (Fk4 k) (d := k) [.box C8, .imm (.slice 9 .str)] [.str] [] (fun x => A75 k x.1 x.2.1) (fun x => Fb3 k x.1 x.2.1), (F40).2⟩
theorem D47 (k : Nat) : Ok Tryz.prog (Af9 k) := D0 (F2) (F1) (N3) (A7 (J4) (A7 (T6) (A7 (J3) (A7 (Ha6) (A7 (I8) (E9)))))) (B8 (F25) (C2)) (C9) (S6 (W0 k) (S6 (Bi2 k) (S6 (Cb9 k) (S6 (Fk5 k) (C1)))))
theorem D48 (k : Nat) : N2 (Af9 k) := N0 (B8 (F25) (C2))
theorem D49 (k : Nat) : A27 Tryz.prog 175 (Ca2 k) ∧ W4 Tryz.prog 175 := ⟨U1 (D47 k) mixed (D48 k) (d := k) [.box C8] [A4] [.o, .o] (fun x => Aj2 k x.1) (fun x => D13 k x.1), (F25).2⟩
theorem Fk6 (k : Nat) : Ok Tryz.prog (Aj9 k) := D0 (F2) (F1) (N3) (A7 (J4) (A7 (J3) (A7 (Ai4) (A7 (k8) (A7 (I8) (E9)))))) (B8 (F15) (C2)) (B1 (Co0 k) (B1 (Cb7 k) (B1 (Bm9 k) (B1 (Cb8 k) (C9))))) (S6 (W0 k) (S6 (Bi2 k) (S6 (D49 k) (C1))))
theorem Fk7 (k : Nat) : N2 (Aj9 k) := N0 (B8 (F15) (C2))
theorem Fk8 (k : Nat) : A27 Tryz.prog 158 (Cw6 k) ∧ W4 Tryz.prog 158 := ⟨U1 (Fk6 k) mixed (Fk7 k) (d := k) [.box C8, .imm D6, .imm (.int .i64)] [A4] [.o, .o] (fun x => N8 k x.1 x.2.1 x.2.2.1) (fun x => Fb5 k x.1 x.2.1 x.2.2.1), (F15).2⟩
theorem Du7 (k : Nat) : Ok Tryz.prog (Ab1 k) := D0 (F2) (F1) (N3) (A7 (J4) (A7 (J3) (A7 (Dt5) (A7 (k8) (A7 (Cn6) (A7 (Eq3) (A7 (I8) (A7 (Fy5) (E9))))))))) (B8 (Fz7) (C2)) (B1 (A09 k) (C9)) (S6 (W0 k) (S6 (Bi2 k) (S6 (Cb9 k) (S6 (Fk8 k) (C1)))))
theorem Du8 (k : Nat) : N2 (Ab1 k) := N0 (B8 (Fz7) (C2))
theorem Du9 (k : Nat) : A27 Tryz.prog 120 (B18 k) ∧ W4 Tryz.prog 120 := ⟨U1 (Du7 k) mixed (Du8 k) (d := k) [.box C8, .imm L6] [V6] [.o, .o] (fun x => Ac5 k x.1 x.2.1) (fun x => Dr9 k x.1 x.2.1), (Fz7).2⟩
theorem Fk9 (k : Nat) : Ok Tryz.prog (A00 k) := D0 (F2) (F1) (N3) (A7 (Cn6) (E9)) (B8 (G15) (C2)) (B1 (Fi2 k) (B1 (Fk0 k) (C9))) (S6 (W0 k) (S6 (Du9 k) (C1)))
theorem Fl0 (k : Nat) : N2 (A00 k) := N0 (B8 (G15) (C2))
theorem Fl1 (k : Nat) : A27 Tryz.prog 69 (Cw7 k) ∧ W4 Tryz.prog 69 := ⟨U1 (Fk9 k) mixed (Fl0 k) (d := k) [.box C8, .imm (.int .i64)] [L6] [.s, .s, .s, .s, .s] (fun x => A76 k x.1 x.2.1) (fun x => Fb7 k x.1 x.2.1), (G15).2⟩
theorem Fl2 (k : Nat) : Ok Tryz.prog (A01 k) := D0 (F2) (F1) (N3) (A7 (J3) (E9)) (B8 (G16) (C2)) (C9) (S6 (Bi2 k) (C1))
theorem Fl3 (k : Nat) : N2 (A01 k) := N0 (B8 (G16) (C2))
theorem Fl4 (k : Nat) : A27 Tryz.prog 70 (Cw8 k) ∧ W4 Tryz.prog 70 := ⟨U1 (Fl2 k) mixed (Fl3 k) (d := k) [.box C8] [(.slice 3 (.int .i64))] [.o] (fun x => A77 k x.1) (fun x => Fb9 k x.1), (G16).2⟩
theorem Fl5 (k : Nat) : Ok Tryz.prog (A02 k) := D0 (F2) (F1) (N3) (A7 (J4) (A7 (J3) (E9))) (B8 (F30) (C2)) (B1 (L8 k) (C9)) (C1)
theorem Fl6 (k : Nat) : N2 (A02 k) := N0 (B8 (F30) (C2))
theorem Fl7 (k : Nat) : SG 180 (Cw9 k) := ⟨A2 (Fl5 k) mixed (Fl6 k) (d := k) [(.slice 3 (.int .i64)), (.int .i64), (.int .i64)] [.bool] [] (fun x => Cc9 k x.1 x.2.1 x.2.2.1) (fun x => Fc1 k x.1 x.2.1 x.2.2.1), (F30).2⟩
theorem F98 (k : Nat) : Ok Tryz.prog (Cm9 k) := D0 (F2) (F1) (N3) (A7 (J3) (E9)) (B8 (F16) (C2)) (B1 (L8 k) (B1 (Fl7 k) (C9))) (C1)
theorem F99 (k : Nat) : N2 (Cm9 k) := N0 (B8 (F16) (C2))
theorem Ga0 (k : Nat) : SG 159 (Da7 k) := ⟨A2 (F98 k) mixed (F99 k) (d := k) [(.slice 3 (.int .i64))] [.bool] [] (fun x => B49 k x.1) (fun x => Fx4 k x.1), (F16).2⟩
theorem Et3 (k : Nat) : Ok Tryz.prog (Aq0 k) := D0 (F2) (F1) (N3) (A7 (J4) (A7 (Cy2) (A7 (T6) (A7 (Bh9) (A7 (J3) (E9)))))) (B8 (Fz8) (C2)) (B1 (Ga0 k) (C9)) (C1)
theorem Et4 (k : Nat) : N2 (Aq0 k) := N0 (B8 (Fz8) (C2))
theorem Et5 (k : Nat) : SG 121 (Cj6 k) := ⟨A2 (Et3 k) mixed (Et4 k) (d := k) [(.slice 3 (.int .i64))] [.str, .bool] [] (fun x => A98 k x.1) (fun x => En4 k x.1), (Fz8).2⟩
theorem Fl8 (k : Nat) : Ok Tryz.prog (Ca4 k) := D0 (F2) (F1) (N3) (A7 (Cy2) (A7 (T6) (A7 (Bh9) (A7 (Eq2) (E9))))) (B8 (F04) (C2)) (C9) (C1)
theorem Fl9 (k : Nat) : N2 (Ca4 k) := N0 (B8 (F04) (C2))
theorem Fm0 (k : Nat) : SG 144 (Cx1 k) := ⟨A2 (Fl8 k) mixed (Fl9 k) (d := k) [(.int .u32)] [.str] [] (fun x => Cd0 k x.1) (fun x => Fc2 k x.1), (F04).2⟩
theorem Fm1 (k : Nat) : Ok Tryz.prog (Ak0 k) := D0 (F2) (F1) (N3) (A7 (Cy2) (A7 (T6) (A7 (Eq2) (E9)))) (B8 (F17) (C2)) (C9) (C1)
theorem Fm2 (k : Nat) : N2 (Ak0 k) := N0 (B8 (F17) (C2))
theorem Fm3 (k : Nat) : SG 163 (Cx2 k) := ⟨A2 (Fm1 k) mixed (Fm2 k) (d := k) [(.int .u32), .str] [(.int .u32)] [] (fun x => Cd1 k x.1 x.2.1) (fun x => Fc4 k x.1 x.2.1), (F17).2⟩
theorem Go8 (k : Nat) : Ok Tryz.prog (C24 k) := D0 (F2) (F1) (N3) (E9) (B8 (F05) (C2)) (B1 (Fm3 k) (C9)) (C1)
theorem Go9 (k : Nat) : N2 (C24 k) := N0 (B8 (F05) (C2))
theorem Gp0 (k : Nat) : SG 145 (Ds0 k) := ⟨A2 (Go8 k) mixed (Go9 k) (d := k) [.str] [(.int .u32)] [] (fun x => Bu7 k x.1) (fun x => Gm2 k x.1), (F05).2⟩
theorem Ga1 (k : Nat) : Ok Tryz.prog (Cn0 k) := D0 (F2) (F1) (N3) (A7 (T6) (E9)) (B8 (Fz9) (C2)) (B1 (Fm0 k) (B1 (Gp0 k) (C9))) (C1)
theorem Ga2 (k : Nat) : N2 (Cn0 k) := N0 (B8 (Fz9) (C2))
theorem Ga3 (k : Nat) : SG 122 (Da9 k) := ⟨A2 (Ga1 k) mixed (Ga2 k) (d := k) [.str] [.str, .bool] [] (fun x => B50 k x.1) (fun x => Fx5 k x.1), (Fz9).2⟩
theorem Et6 (k : Nat) : Ok Tryz.prog (Bz2 k) := D0 (F2) (F1) (N3) (A7 (J4) (A7 (T6) (A7 (J3) (A7 (Db4) (E9))))) (B8 (G17) (C2)) (B1 (L8 k) (B1 (Be5 k) (B1 (B04 k) (B1 (Et5 k) (B1 (Ga3 k) (C9)))))) (C1)
theorem Et7 (k : Nat) : N2 (Bz2 k) := N0 (B8 (G17) (C2))
theorem Et8 (k : Nat) : SG 71 (Cj7 k) := ⟨A2 (Et6 k) mixed (Et7 k) (d := k) [X9] [.str, .bool] [] (fun x => A99 k x.1) (fun x => En8 k x.1), (G17).2⟩
theorem Et9 (k : Nat) : Ok Tryz.prog (Bz3 k) := D0 (F2) (F1) (N3) (E9) (B8 (G19) (C2)) (B1 (L8 k) (B1 (Db9 k) (C9))) (C1)
theorem Eu0 (k : Nat) : N2 (Bz3 k) := N0 (B8 (G19) (C2))
theorem Eu1 (k : Nat) : SG 73 (Cj8 k) := ⟨A2 (Et9 k) mixed (Eu0 k) (d := k) [(.int .i64)] [.str] [] (fun x => At4 k x.1) (fun x => En9 k x.1), (G19).2⟩
theorem Co1 (k : Nat) : Ok Tryz.prog (O5 k) := D0 (F2) (F1) (N3) (A7 (J4) (A7 (Cy2) (A7 (T6) (A7 (Bh9) (A7 (Bi0) (A7 (Db4) (A7 (Cb6) (A7 (Gz4) (E9))))))))) (B8 (Gz6) (B8 (Ha7) (C2))) (B1 (Es6 k) (B1 (Et8 k) (B1 (Dt8 k) (B1 (Eu1 k) (C9))))) (S6 (W0 k) (S6 (Fl1 k) (S6 (Fl4 k) (C1))))
theorem Co2 (k : Nat) : N2 (O5 k) := N0 (B8 (Gz6) (B8 (Ha7) (C2)))
theorem Co3 (k : Nat) : SG 23 (A28 k) := ⟨A2 (Co1 k) mixed (Co2 k) (d := k) [(.slice 5 (.int .u8))] [F4, X9] [.o, .o] (fun x => Z2 k x.1) (fun x => Cn2 k x.1), (Gz6).2⟩
theorem Ga4 (k : Nat) : Ok Tryz.prog (Cn3 k) := D0 (F2) (F1) (N3) (E9) (B8 (G04) (C2)) (C9) (C1)
theorem Ga5 (k : Nat) : N2 (Cn3 k) := N0 (B8 (G04) (C2))
theorem Av0 (k : Nat) : SG 39 (Ab2 k) := ⟨A2 (Ga4 k) mixed (Ga5 k) (d := k) [(.int .i64), (.int .i64), (.int .i64)] [.bool] [] (fun x => Z3 k x.1 x.2.1 x.2.2.1) (fun x => Fx6 k x.1 x.2.1 x.2.2.1), (G04).2⟩
theorem Ga6 (k : Nat) : Ok Tryz.prog (Bd7 k) := D0 (F2) (F1) (N3) (A7 (J4) (A7 (J3) (E9))) (B8 (F00) (C2)) (B1 (Av0 k) (C9)) (C1)
theorem Ga7 (k : Nat) : N2 (Bd7 k) := N0 (B8 (F00) (C2))
theorem Dv0 (k : Nat) : SG 123 (Ca5 k) := ⟨A2 (Ga6 k) mixed (Ga7 k) (d := k) [(.slice 3 (.int .i64))] [.bool] [] (fun x => Bp1 k x.1) (fun x => Fx8 k x.1), (F00).2⟩
theorem Eu2 (k : Nat) : Ok Tryz.prog (Aq2 k) := D0 (F2) (F1) (N3) (A7 (J4) (A7 (Cy2) (A7 (T6) (A7 (Bh9) (A7 (J3) (E9)))))) (B8 (G20) (C2)) (B1 (Dv0 k) (C9)) (C1)
theorem Eu3 (k : Nat) : N2 (Aq2 k) := N0 (B8 (G20) (C2))
theorem Eu4 (k : Nat) : SG 74 (Cj9 k) := ⟨A2 (Eu2 k) mixed (Eu3 k) (d := k) [(.slice 3 (.int .i64))] [.str, .bool] [] (fun x => Ba1 k x.1) (fun x => Eo2 k x.1), (G20).2⟩
theorem Fm4 (k : Nat) : Ok Tryz.prog (A04 k) := D0 (F2) (F1) (N3) (A7 (J4) (A7 (Cy2) (A7 (T6) (A7 (Bh9) (E9))))) (B8 (G30) (C2)) (B1 (Av0 k) (C9)) (C1)
theorem Fm5 (k : Nat) : N2 (A04 k) := N0 (B8 (G30) (C2))
theorem Cc0 (k : Nat) : SG 93 (A66 k) := ⟨A2 (Fm4 k) mixed (Fm5 k) (d := k) [(.int .i64)] [.str, .bool] [] (fun x => U4 k x.1) (fun x => Fc8 k x.1), (G30).2⟩
theorem G38 (k : Nat) : Ok Tryz.prog (Ca6 k) := D0 (F2) (F1) (N3) (A7 (J4) (A7 (T6) (A7 (Bh9) (A7 (J3) (E9))))) (B8 (G21) (C2)) (B1 (Cc0 k) (C9)) (C1)
theorem G39 (k : Nat) : N2 (Ca6 k) := N0 (B8 (G21) (C2))
theorem G40 (k : Nat) : SG 75 (Ec0 k) := ⟨A2 (G38 k) mixed (G39 k) (d := k) [(.slice 3 (.int .i64))] [.str, .bool] [] (fun x => Cz8 k x.1) (fun x => Gz2 k x.1), (G21).2⟩
theorem D50 (k : Nat) : Ok Tryz.prog (Bm4 k) := D0 (F2) (F1) (N3) (A7 (T6) (E9)) (B8 (G22) (C2)) (B1 (Cc0 k) (C9)) (C1)
theorem D51 (k : Nat) : N2 (Bm4 k) := N0 (B8 (G22) (C2))
theorem D52 (k : Nat) : SG 76 (Ca7 k) := ⟨A2 (D50 k) mixed (D51 k) (d := k) [.str] [.str, .bool] [] (fun x => w7 k x.1) (fun x => D17 k x.1), (G22).2⟩
theorem Fm6 (k : Nat) : Ok Tryz.prog (Ak1 k) := D0 (F2) (F1) (N3) (A7 (Cy2) (A7 (T6) (A7 (Eq2) (E9)))) (B8 (F02) (C2)) (C9) (C1)
theorem Fm7 (k : Nat) : N2 (Ak1 k) := N0 (B8 (F02) (C2))
theorem Fm8 (k : Nat) : SG 133 (Cx4 k) := ⟨A2 (Fm6 k) mixed (Fm7 k) (d := k) [(.int .u32), .str] [(.int .u32)] [] (fun x => Cd3 k x.1 x.2.1) (fun x => Fd1 k x.1 x.2.1), (F02).2⟩
theorem Gp1 (k : Nat) : Ok Tryz.prog (C25 k) := D0 (F2) (F1) (N3) (E9) (B8 (G31) (C2)) (B1 (Fm8 k) (C9)) (C1)
theorem Gp2 (k : Nat) : N2 (C25 k) := N0 (B8 (G31) (C2))
theorem Gp3 (k : Nat) : SG 94 (Ds4 k) := ⟨A2 (Gp1 k) mixed (Gp2 k) (d := k) [.str] [(.int .u32)] [] (fun x => Cr5 k x.1) (fun x => Gm4 k x.1), (G31).2⟩
theorem Ga8 (k : Nat) : Ok Tryz.prog (Cn5 k) := D0 (F2) (F1) (N3) (A7 (Cy2) (A7 (T6) (A7 (Bh9) (A7 (Eq2) (E9))))) (B8 (G23) (C2)) (B1 (Gp3 k) (C9)) (C1)
theorem Ga9 (k : Nat) : N2 (Cn5 k) := N0 (B8 (G23) (C2))
theorem Dv1 (k : Nat) : SG 77 (Ca8 k) := ⟨A2 (Ga8 k) mixed (Ga9 k) (d := k) [.str] [.str, .bool] [] (fun x => Bp2 k x.1) (fun x => Fx9 k x.1), (G23).2⟩
theorem Eu5 (k : Nat) : Ok Tryz.prog (Bz5 k) := D0 (F2) (F1) (N3) (A7 (J4) (A7 (T6) (A7 (J3) (A7 (Db4) (E9))))) (B8 (Gz7) (C2)) (B1 (Av0 k) (B1 (Eu4 k) (B1 (G40 k) (B1 (D52 k) (B1 (Dv1 k) (C9)))))) (C1)
theorem Eu6 (k : Nat) : N2 (Bz5 k) := N0 (B8 (Gz7) (C2))
theorem B05 (k : Nat) : SG 24 (Aw2 k) := ⟨A2 (Eu5 k) mixed (Eu6 k) (d := k) [X9] [.str, .bool] [] (fun x => Ah9 k x.1) (fun x => Eo7 k x.1), (Gz7).2⟩
theorem Eu7 (k : Nat) : Ok Tryz.prog (Bz6 k) := D0 (F2) (F1) (N3) (A7 (T6) (E9)) (B8 (G24) (C2)) (B1 (Dv1 k) (C9)) (C1)
theorem Eu8 (k : Nat) : N2 (Bz6 k) := N0 (B8 (G24) (C2))
theorem Eu9 (k : Nat) : SG 78 (Ck0 k) := ⟨A2 (Eu7 k) mixed (Eu8 k) (d := k) [.str] [.str, .bool] [] (fun x => Ba2 k x.1) (fun x => Eo8 k x.1), (G24).2⟩
theorem Fm9 (k : Nat) : Ok Tryz.prog (A05 k) := D0 (F2) (F1) (N3) (A7 (J4) (A7 (Cy2) (A7 (T6) (E9)))) (B8 (G29) (C2)) (B1 (Av0 k) (B1 (Cc0 k) (C9))) (C1)
theorem Fn0 (k : Nat) : N2 (A05 k) := N0 (B8 (G29) (C2))
theorem Dc2 (k : Nat) : SG 90 (Bz7 k) := ⟨A2 (Fm9 k) mixed (Fn0 k) (d := k) [.str, (.int .i64)] [(.int .i64), (.int .i64), .bool] [] (fun x => At6 k x.1 x.2.1) (fun x => Fd4 k x.1 x.2.1), (G29).2⟩
theorem Dv2 (k : Nat) : Ok Tryz.prog (Bd9 k) := D0 (F2) (F1) (N3) (A7 (J4) (A7 (Fe0) (A7 (T6) (A7 (Fy4) (E9))))) (B8 (G25) (C2)) (B1 (Dc2 k) (C9)) (C1)
theorem Dv3 (k : Nat) : N2 (Bd9 k) := N0 (B8 (G25) (C2))
theorem Dv4 (k : Nat) : A27 Tryz.prog 79 (B19 k) ∧ W4 Tryz.prog 79 := ⟨U1 (Dv2 k) mixed (Dv3 k) (d := k) [.box Y4] [(.int .i64)] [] (fun x => Ac6 k x.1) (fun x => Ds7 k x.1), (G25).2⟩
theorem Ev0 (k : Nat) : Ok Tryz.prog (Aq6 k) := D0 (F2) (F1) (N3) (A7 (J4) (A7 (Cy2) (A7 (T6) (A7 (J3) (E9))))) (B8 (G26) (C2)) (B1 (Dv0 k) (C9)) (C1)
theorem Ev1 (k : Nat) : N2 (Aq6 k) := N0 (B8 (G26) (C2))
theorem Ev2 (k : Nat) : SG 80 (Ck1 k) := ⟨A2 (Ev0 k) mixed (Ev1 k) (d := k) [.str] [(.slice 3 (.int .i64)), .bool] [.o] (fun x => Ba3 k x.1) (fun x => Ep1 k x.1), (G26).2⟩
theorem D53 (k : Nat) : Ok Tryz.prog (Bm6 k) := D0 (F2) (F1) (N3) (A7 (T6) (E9)) (B8 (F01) (C2)) (B1 (Dc2 k) (C9)) (C1)
theorem D54 (k : Nat) : N2 (Bm6 k) := N0 (B8 (F01) (C2))
theorem D55 (k : Nat) : SG 124 (Ca9 k) := ⟨A2 (D53 k) mixed (D54 k) (d := k) [.str, (.int .i64)] [.str, (.int .i64), .bool] [] (fun x => Aj3 k x.1 x.2.1) (fun x => D19 k x.1 x.2.1), (F01).2⟩
theorem De8 (k : Nat) : Ok Tryz.prog (A24 k) := D0 (F2) (F1) (N3) (A7 (J4) (A7 (Fe0) (A7 (T6) (A7 (Fy4) (E9))))) (B8 (G27) (C2)) (B1 (D55 k) (C9)) (C1)
theorem De9 (k : Nat) : N2 (A24 k) := N0 (B8 (G27) (C2))
theorem Df0 (k : Nat) : A27 Tryz.prog 81 (Bq8 k) ∧ W4 Tryz.prog 81 := ⟨U1 (De8 k) mixed (De9 k) (d := k) [.box Y4] [.str] [] (fun x => X2 k x.1) (fun x => Dd8 k x.1), (G27).2⟩
theorem Ev3 (k : Nat) : Ok Tryz.prog (Bz8 k) := D0 (F2) (F1) (N3) (A7 (Fe0) (A7 (T6) (A7 (J3) (A7 (Db4) (A7 (Fy4) (E9)))))) (B8 (Gz8) (C2)) (B1 (B05 k) (B1 (Eu9 k) (B1 (Ev2 k) (C9)))) (S6 (Dv4 k) (S6 (Df0 k) (C1)))
theorem Ev4 (k : Nat) : N2 (Bz8 k) := N0 (B8 (Gz8) (C2))
theorem Cy4 (k : Nat) : SG 25 (Bm7 k) := ⟨A2 (Ev3 k) mixed (Ev4 k) (d := k) [.str] [X9, .bool] [.o] (fun x => Ai0 k x.1) (fun x => Ep2 k x.1), (Gz8).2⟩
theorem Ev5 (k : Nat) : Ok Tryz.prog (Aq7 k) := D0 (F2) (F1) (N3) (A7 (J4) (A7 (J3) (E9))) (B8 (Gz9) (C2)) (C9) (C1)
theorem Ev6 (k : Nat) : N2 (Aq7 k) := N0 (B8 (Gz9) (C2))
theorem Ev7 (k : Nat) : SG 26 (Ck2 k) := ⟨A2 (Ev5 k) mixed (Ev6 k) (d := k) [(.slice 3 (.int .i64)), (.slice 3 (.int .i64))] [.bool] [] (fun x => Ba4 k x.1 x.2.1) (fun x => Ep4 k x.1 x.2.1), (Gz9).2⟩
theorem Dv5 (k : Nat) : SG 114 (B20 k) := ⟨Gm5 Tryz.itoaL, (He6).2⟩
theorem Fn1 (k : Nat) : Ok Tryz.prog (Cb0 k) := D0 (F2) (F1) (N3) (E9) (B8 (G11) (C2)) (B1 (Dv5 k) (C9)) (C1)
theorem Fn2 (k : Nat) : N2 (Cb0 k) := N0 (B8 (G11) (C2))
theorem Fn3 (k : Nat) : SG 63 (Cx8 k) := ⟨A2 (Fn1 k) mixed (Fn2 k) (d := k) [(.int .i64)] [.str] [] (fun x => A78 k x.1) (fun x => Fd5 k x.1), (G11).2⟩
theorem Ev8 (k : Nat) : Ok Tryz.prog (Bz9 k) := D0 (F2) (F1) (N3) (E9) (B8 (G03) (C2)) (B1 (Av0 k) (B1 (Fn3 k) (C9))) (C1)
theorem Ev9 (k : Nat) : N2 (Bz9 k) := N0 (B8 (G03) (C2))
theorem Cy5 (k : Nat) : SG 30 (Bm8 k) := ⟨A2 (Ev8 k) mixed (Ev9 k) (d := k) [(.int .i64)] [.str] [] (fun x => w8 k x.1) (fun x => Ep5 k x.1), (G03).2⟩
theorem Gb0 (k : Nat) : Ok Tryz.prog (Be2 k) := D0 (F2) (F1) (N3) (A7 (J4) (A7 (T6) (A7 (Cb5) (A7 (Bi0) (A7 (Cb6) (E9)))))) (B8 (G05) (C2)) (B1 (Av0 k) (C9)) (C1)
theorem Gb1 (k : Nat) : N2 (Be2 k) := N0 (B8 (G05) (C2))
theorem Dv6 (k : Nat) : SG 45 (Cb1 k) := ⟨A2 (Gb0 k) mixed (Gb1 k) (d := k) [F4] [.bool] [] (fun x => Bp3 k x.1) (fun x => Fy1 k x.1), (G05).2⟩
theorem Gb2 (k : Nat) : Ok Tryz.prog (Be3 k) := D0 (F2) (F1) (N3) (A7 (T6) (A7 (Cb5) (A7 (Bi0) (A7 (Cb6) (E9))))) (B8 (G32) (B8 (G33) (B8 (G34) (C2)))) (C9) (C1)
theorem Gb3 (k : Nat) : N2 (Be3 k) := N0 (B8 (G32) (B8 (G33) (B8 (G34) (C2))))
theorem Gb4 (k : Nat) : SG 98 (Db3 k) := ⟨A2 (Gb2 k) mixed (Gb3 k) (d := k) [F4, .str] [(.int .i64)] [] (fun x => B52 k x.1 x.2.1) (fun x => Fy3 k x.1 x.2.1), (G32).2⟩
theorem Fn4 (k : Nat) : Ok Tryz.prog (Cb2 k) := D0 (F2) (F1) (N3) (A7 (Bi0) (E9)) (B8 (G06) (C2)) (B1 (Gb4 k) (C9)) (C1)
theorem Fn5 (k : Nat) : N2 (Cb2 k) := N0 (B8 (G06) (C2))
theorem Fn6 (k : Nat) : SG 47 (Cx9 k) := ⟨A2 (Fn4 k) mixed (Fn5 k) (d := k) [F4, .str] [.bool] [] (fun x => Bp4 k x.1 x.2.1) (fun x => Fd8 k x.1 x.2.1), (G06).2⟩
theorem Ar3 (k : Nat) : Ok Tryz.prog (N5 k) := D0 (F2) (F1) (N3) (A7 (T6) (E9)) (B8 (F18) (C2)) (C9) (C1)
theorem Ar4 (k : Nat) : N2 (N5 k) := N0 (B8 (F18) (C2))
theorem Ar5 (k : Nat) : SG 164 (T8 k) := ⟨A2 (Ar3 k) mixed (Ar4 k) (d := k) [.str, .str] [.bool] [] (fun x => J6 k x.1 x.2.1) (fun x => Aq8 k x.1 x.2.1), (F18).2⟩
theorem Ar6 (k : Nat) : Ok Tryz.prog (N6 k) := D0 (F2) (F1) (N3) (A7 (T6) (E9)) (B8 (F06) (C2)) (B1 (Ar5 k) (C9)) (C1)
theorem Ar7 (k : Nat) : N2 (N6 k) := N0 (B8 (F06) (C2))
theorem Ar8 (k : Nat) : SG 146 (T9 k) := ⟨A2 (Ar6 k) mixed (Ar7 k) (d := k) [.str, .str] [.str, .bool] [] (fun x => J7 k x.1 x.2.1) (fun x => Aq9 k x.1 x.2.1), (F06).2⟩
theorem Ce9 (k : Nat) : Ok Tryz.prog (Ad9 k) := D0 (F2) (F1) (N3) (E9) (B8 (Fz1) (C2)) (B1 (Ar8 k) (C9)) (C1)
theorem Cf0 (k : Nat) : N2 (Ad9 k) := N0 (B8 (Fz1) (C2))
theorem Cf1 (k : Nat) : SG 112 (A08 k) := ⟨A2 (Ce9 k) mixed (Cf0 k) (d := k) [.str, .str] [.str, .bool] [] (fun x => q7 k x.1 x.2.1) (fun x => Ce8 k x.1 x.2.1), (Fz1).2⟩
theorem Df1 (k : Nat) : SG 113 (Bq9 k) := ⟨Gm6, (He5).2⟩
theorem Ew0 (k : Nat) : Ok Tryz.prog (B02 k) := D0 (F2) (F1) (N3) (E9) (B8 (G10) (C2)) (B1 (Cf1 k) (B1 (Df1 k) (C9))) (C1)
theorem Ew1 (k : Nat) : N2 (B02 k) := N0 (B8 (G10) (C2))
theorem B06 (k : Nat) : SG 62 (Aw3 k) := ⟨A2 (Ew0 k) mixed (Ew1 k) (d := k) [.str, .str, (.int .i64)] [(.int .i64)] [] (fun x => X4 k x.1 x.2.1 x.2.2.1) (fun x => Ep6 k x.1 x.2.1 x.2.2.1), (G10).2⟩
theorem Ew2 (k : Nat) : Ok Tryz.prog (Ad5 k) := D0 (F2) (F1) (N3) (A7 (J4) (A7 (T6) (A7 (Cb5) (A7 (Bi0) (A7 (Gf3) (A7 (Db4) (A7 (Gf4) (A7 (Cb6) (E9))))))))) (B8 (G00) (C2)) (B1 (B05 k) (B1 (Cy5 k) (B1 (Dv6 k) (B1 (Fn6 k) (B1 (B06 k) (C9)))))) (C1)
theorem Ew3 (k : Nat) : N2 (Ad5 k) := N0 (B8 (G00) (C2))
theorem Ew4 (k : Nat) : SG 27 (Ck3 k) := ⟨A2 (Ew2 k) mixed (Ew3 k) (d := k) [F4, X9] [(.slice 93 An1), .bool] [.o] (fun x => Ba5 k x.1 x.2.1) (fun x => Ep8 k x.1 x.2.1), (G00).2⟩
theorem Dv7 (k : Nat) : Ok Tryz.prog (Ab3 k) := D0 (F2) (F1) (N3) (A7 (J4) (A7 (T6) (A7 (Cb5) (A7 (Bi0) (A7 (Db4) (A7 (Cb6) (E9))))))) (B8 (G01) (C2)) (B1 (Cy4 k) (B1 (Dv6 k) (B1 (B06 k) (C9)))) (C1)
theorem Dv8 (k : Nat) : N2 (Ab3 k) := N0 (B8 (G01) (C2))
theorem Cc1 (k : Nat) : SG 28 (A25 k) := ⟨A2 (Dv7 k) mixed (Dv8 k) (d := k) [F4] [X9, .bool] [.o] (fun x => Ac7 k x.1) (fun x => Dt4 k x.1), (G01).2⟩
theorem Ew5 (k : Nat) : Ok Tryz.prog (Ar1 k) := D0 (F2) (F1) (N3) (A7 (J4) (A7 (T6) (A7 (Cb5) (A7 (Bi0) (A7 (Gf3) (A7 (Db4) (A7 (Gf4) (A7 (Cb6) (E9))))))))) (B8 (G02) (C2)) (B1 (Cc1 k) (B1 (B06 k) (C9))) (C1)
theorem Ew6 (k : Nat) : N2 (Ar1 k) := N0 (B8 (G02) (C2))
theorem Ew7 (k : Nat) : SG 29 (Ck4 k) := ⟨A2 (Ew5 k) mixed (Ew6 k) (d := k) [F4] [(.slice 93 An1)] [.o] (fun x => Ba6 k x.1) (fun x => Eq0 k x.1), (G02).2⟩
theorem Fn7 (k : Nat) : Ok Tryz.prog (Cb4 k) := D0 (F2) (F1) (N3) (A7 (J4) (A7 (T6) (A7 (Bi0) (A7 (Gf3) (A7 (J3) (A7 (Db4) (E9))))))) (B8 (He3) (C2)) (B1 (G93 k) (B1 (F73 k) (B1 (Co3 k) (B1 (B05 k) (B1 (Cy4 k) (B1 (Ev7 k) (B1 (Ew4 k) (B1 (Cc1 k) (B1 (Ew7 k) (B1 (Cy5 k) (C9))))))))))) (C1)
theorem Fn8 (k : Nat) : N2 (Cb4 k) := N0 (B8 (He3) (C2))
theorem Fn9 (k : Nat) : SG 5 (Eq1 k) := ⟨A2 (Fn7 k) mixed (Fn8 k) (d := k) [(.slice 5 (.int .u8))] [.bool] [] (fun x => A79 k x.1) (fun x => Fd9 k x.1), (He3).2⟩
end Go.Vm
end
