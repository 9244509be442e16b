/- The functions keep their specifications. -/
import Derived.Test.YtcbpoomhabigeaaGreatDoorZt6
import Derived.Test.YtcbpoomhabigeaaGreatDoorChecked
set_option linter.all false
section
namespace Go.Vm
open Go Go.Proofs
theorem mixed : Tryz.prog.follows .mixedOrders = true := Tryz.checked.mixed
def M7 (c : Cfg) : Prop := ∀ f fn, look c.inl f = some fn → Tryz.prog.funcs[f]? = some fn
theorem L9 {c : Cfg} (h : Hb8 Tryz.prog c.inl) : M7 c := fun f fn e => (h f fn e).1
abbrev SG (f : FuncId) (s : Spec) : Prop := A09 Tryz.prog f s ∧ T6 Tryz.prog f
abbrev FI (n : FuncId) (f : Func) : Prop := Tryz.prog.funcs[n]? = some f ∧ T6 Tryz.prog n
theorem J0 : TyOk Tryz.prog (.int .i64) 3 := F4 _ _ _ [] (by kernel_rfl)
theorem Do2 : TyOk Tryz.prog .bool 4 := F4 _ _ _ [] (by kernel_rfl)
theorem B89 : TyOk Tryz.prog (.int .u8) 5 := F4 _ _ _ [] (by kernel_rfl)
theorem P5 : TyOk Tryz.prog .str 9 := F4 _ _ _ [] (by kernel_rfl)
theorem Bj2 : TyOk Tryz.prog (.slice 5 (.int .u8)) 22 := F4 _ _ _ [] (by kernel_rfl)
theorem Bw7 : TyOk Tryz.prog (.slice 99 H2) 24 := F4 _ _ _ [] (by kernel_rfl)
theorem A52 : TyOk Tryz.prog E6 26 := F4 _ _ _ [] (by kernel_rfl)
theorem Fu1 : TyOk Tryz.prog (.slice 93 Ag7) 40 := F4 _ _ _ [] (by kernel_rfl)
theorem J5 : TyOk Tryz.prog (.slice 3 (.int .i64)) 49 := F4 _ _ _ [] (by kernel_rfl)
theorem Cs6 : TyOk Tryz.prog Q3 56 := F4 _ _ _ [] (by kernel_rfl)
theorem Hs7 : TyOk Tryz.prog (.slice 9 .str) 75 := F4 _ _ _ [] (by kernel_rfl)
theorem Gx0 : TyOk Tryz.prog Ag7 93 := F4 _ _ _ [] (by kernel_rfl)
theorem Bw8 : TyOk Tryz.prog H2 99 := F4 _ _ _ [] (by kernel_rfl)
theorem D52 : TyOk Tryz.prog (.slice 158 Q0) 106 := F4 _ _ _ [] (by kernel_rfl)
theorem Al6 : TyOk Tryz.prog (.slice 162 A6) 107 := F4 _ _ _ [] (by kernel_rfl)
theorem B66 : TyOk Tryz.prog (.slice 215 (.slice 260 B7)) 108 := F4 _ _ _ [] (by kernel_rfl)
theorem Db9 : TyOk Tryz.prog (.slice 4 .bool) 109 := F4 _ _ _ [] (by kernel_rfl)
theorem p0 : TyOk Tryz.prog E7 111 := F4 _ _ _ [] (by kernel_rfl)
theorem D53 : TyOk Tryz.prog (.slice 164 An3) 112 := F4 _ _ _ [] (by kernel_rfl)
theorem Cw2 : TyOk Tryz.prog M6 114 := F4 _ _ _ [] (by kernel_rfl)
theorem Gf3 : TyOk Tryz.prog G7 122 := F4 _ _ _ [] (by kernel_rfl)
theorem Gf4 : TyOk Tryz.prog D1 129 := F4 _ _ _ [] (by kernel_rfl)
theorem E48 : TyOk Tryz.prog (.int .u32) 139 := F4 _ _ _ [] (by kernel_rfl)
theorem E49 : TyOk Tryz.prog Q0 158 := F4 _ _ _ [] (by kernel_rfl)
theorem J7 : TyOk Tryz.prog A6 162 := F4 _ _ _ [] (by kernel_rfl)
theorem D54 : TyOk Tryz.prog An3 164 := F4 _ _ _ [] (by kernel_rfl)
theorem Gf5 : TyOk Tryz.prog Y0 169 := F4 _ _ _ [] (by kernel_rfl)
theorem Gf6 : TyOk Tryz.prog G7 176 := F4 _ _ _ [] (by kernel_rfl)
theorem Ay9 : TyOk Tryz.prog (.slice 260 B7) 215 := F4 _ _ _ [] (by kernel_rfl)
theorem Cw3 : TyOk Tryz.prog B7 260 := F4 _ _ _ [] (by kernel_rfl)
theorem Hw1 : TyOk Tryz.prog (.slice 49 (.slice 3 (.int .i64))) 275 := F4 _ _ _ [] (by kernel_rfl)
theorem Hr1 : Tryz.prog.stoodInHeld 260 = false ∧ Tryz.prog.eqGuardType Tryz.prog.depth 260 = false := ⟨by kernel_rfl, by kernel_rfl⟩
theorem Hw2 : FI 6 Tryz.f6 := ⟨Tryz.func6, A5 Tryz.func6 (by kernel_rfl) rfl⟩
theorem Hw3 : FI 7 Tryz.f7 := ⟨Tryz.func7, A5 Tryz.func7 (by kernel_rfl) rfl⟩
theorem Hh1 : FI 15 Tryz.f15 := ⟨Tryz.func15, A5 Tryz.func15 (by kernel_rfl) rfl⟩
theorem Hh2 : FI 19 Tryz.f19 := ⟨Tryz.func19, A5 Tryz.func19 (by kernel_rfl) rfl⟩
theorem Hh3 : FI 20 Tryz.f20 := ⟨Tryz.func20, A5 Tryz.func20 (by kernel_rfl) rfl⟩
theorem Hh4 : FI 21 Tryz.f21 := ⟨Tryz.func21, A5 Tryz.func21 (by kernel_rfl) rfl⟩
theorem Hh5 : FI 23 Tryz.f23 := ⟨Tryz.func23, A5 Tryz.func23 (by kernel_rfl) rfl⟩
theorem Hh6 : FI 24 Tryz.f24 := ⟨Tryz.func24, A5 Tryz.func24 (by kernel_rfl) rfl⟩
theorem Hh7 : FI 25 Tryz.f25 := ⟨Tryz.func25, A5 Tryz.func25 (by kernel_rfl) rfl⟩
theorem Hh8 : FI 27 Tryz.f27 := ⟨Tryz.func27, A5 Tryz.func27 (by kernel_rfl) rfl⟩
theorem Hh9 : FI 28 Tryz.f28 := ⟨Tryz.func28, A5 Tryz.func28 (by kernel_rfl) rfl⟩
theorem Hi0 : FI 29 Tryz.f29 := ⟨Tryz.func29, A5 Tryz.func29 (by kernel_rfl) rfl⟩
theorem Hi1 : FI 30 Tryz.f30 := ⟨Tryz.func30, A5 Tryz.func30 (by kernel_rfl) rfl⟩
theorem Hi2 : FI 31 Tryz.f31 := ⟨Tryz.func31, A5 Tryz.func31 (by kernel_rfl) rfl⟩
theorem Gx1 : FI 32 Tryz.f32 := ⟨Tryz.func32, A5 Tryz.func32 (by kernel_rfl) rfl⟩
theorem Hi3 : FI 39 Tryz.f39 := ⟨Tryz.func39, A5 Tryz.func39 (by kernel_rfl) rfl⟩
theorem Hi4 : FI 45 Tryz.f45 := ⟨Tryz.func45, A5 Tryz.func45 (by kernel_rfl) rfl⟩
theorem Hi5 : FI 47 Tryz.f47 := ⟨Tryz.func47, A5 Tryz.func47 (by kernel_rfl) rfl⟩
theorem Hi6 : FI 53 Tryz.f53 := ⟨Tryz.func53, A5 Tryz.func53 (by kernel_rfl) rfl⟩
theorem Hi7 : FI 55 Tryz.f55 := ⟨Tryz.func55, A5 Tryz.func55 (by kernel_rfl) rfl⟩
theorem Hi8 : FI 61 Tryz.f61 := ⟨Tryz.func61, A5 Tryz.func61 (by kernel_rfl) rfl⟩
theorem Hi9 : FI 62 Tryz.f62 := ⟨Tryz.func62, A5 Tryz.func62 (by kernel_rfl) rfl⟩
theorem Hj0 : FI 63 Tryz.f63 := ⟨Tryz.func63, A5 Tryz.func63 (by kernel_rfl) rfl⟩
theorem Hj1 : FI 64 Tryz.f64 := ⟨Tryz.func64, A5 Tryz.func64 (by kernel_rfl) rfl⟩
theorem Hj2 : FI 65 Tryz.f65 := ⟨Tryz.func65, A5 Tryz.func65 (by kernel_rfl) rfl⟩
theorem Hj3 : FI 66 Tryz.f66 := ⟨Tryz.func66, A5 Tryz.func66 (by kernel_rfl) rfl⟩
theorem Hj4 : FI 68 Tryz.f68 := ⟨Tryz.func68, A5 Tryz.func68 (by kernel_rfl) rfl⟩
theorem Hj5 : FI 69 Tryz.f69 := ⟨Tryz.func69, A5 Tryz.func69 (by kernel_rfl) rfl⟩
theorem Hj6 : FI 70 Tryz.f70 := ⟨Tryz.func70, A5 Tryz.func70 (by kernel_rfl) rfl⟩
theorem Hj7 : FI 71 Tryz.f71 := ⟨Tryz.func71, A5 Tryz.func71 (by kernel_rfl) rfl⟩
theorem Hj8 : FI 72 Tryz.f72 := ⟨Tryz.func72, A5 Tryz.func72 (by kernel_rfl) rfl⟩
theorem Hj9 : FI 73 Tryz.f73 := ⟨Tryz.func73, A5 Tryz.func73 (by kernel_rfl) rfl⟩
theorem Hk0 : FI 74 Tryz.f74 := ⟨Tryz.func74, A5 Tryz.func74 (by kernel_rfl) rfl⟩
theorem Hk1 : FI 75 Tryz.f75 := ⟨Tryz.func75, A5 Tryz.func75 (by kernel_rfl) rfl⟩
theorem Hk2 : FI 76 Tryz.f76 := ⟨Tryz.func76, A5 Tryz.func76 (by kernel_rfl) rfl⟩
theorem Hk3 : FI 77 Tryz.f77 := ⟨Tryz.func77, A5 Tryz.func77 (by kernel_rfl) rfl⟩
theorem Hk4 : FI 78 Tryz.f78 := ⟨Tryz.func78, A5 Tryz.func78 (by kernel_rfl) rfl⟩
theorem Hk5 : FI 79 Tryz.f79 := ⟨Tryz.func79, A5 Tryz.func79 (by kernel_rfl) rfl⟩
theorem Hk6 : FI 80 Tryz.f80 := ⟨Tryz.func80, A5 Tryz.func80 (by kernel_rfl) rfl⟩
theorem Hk7 : FI 81 Tryz.f81 := ⟨Tryz.func81, A5 Tryz.func81 (by kernel_rfl) rfl⟩
theorem Hk8 : FI 82 Tryz.f82 := ⟨Tryz.func82, A5 Tryz.func82 (by kernel_rfl) rfl⟩
theorem Hk9 : FI 83 Tryz.f83 := ⟨Tryz.func83, A5 Tryz.func83 (by kernel_rfl) rfl⟩
theorem Hl0 : FI 88 Tryz.f88 := ⟨Tryz.func88, A5 Tryz.func88 (by kernel_rfl) rfl⟩
theorem Hl1 : FI 90 Tryz.f90 := ⟨Tryz.func90, A5 Tryz.func90 (by kernel_rfl) rfl⟩
theorem Hl2 : FI 93 Tryz.f93 := ⟨Tryz.func93, A5 Tryz.func93 (by kernel_rfl) rfl⟩
theorem Hl3 : FI 94 Tryz.f94 := ⟨Tryz.func94, A5 Tryz.func94 (by kernel_rfl) rfl⟩
theorem Hl4 : FI 98 Tryz.f98 := ⟨Tryz.func98, A5 Tryz.func98 (by kernel_rfl) rfl⟩
theorem Gf7 : FI 100 Tryz.f100 := ⟨Tryz.func100, A5 Tryz.func100 (by kernel_rfl) rfl⟩
theorem Gf8 : FI 101 Tryz.f101 := ⟨Tryz.func101, A5 Tryz.func101 (by kernel_rfl) rfl⟩
theorem Gf9 : FI 107 Tryz.f107 := ⟨Tryz.func107, A5 Tryz.func107 (by kernel_rfl) rfl⟩
theorem Gg0 : FI 109 Tryz.f109 := ⟨Tryz.func109, A5 Tryz.func109 (by kernel_rfl) rfl⟩
theorem Gg1 : FI 111 Tryz.f111 := ⟨Tryz.func111, A5 Tryz.func111 (by kernel_rfl) rfl⟩
theorem Gg2 : FI 112 Tryz.f112 := ⟨Tryz.func112, A5 Tryz.func112 (by kernel_rfl) rfl⟩
theorem Hw4 : FI 113 Tryz.f113 := ⟨Tryz.func113, A5 Tryz.func113 (by kernel_rfl) rfl⟩
theorem Hw5 : FI 114 Tryz.f114 := ⟨Tryz.func114, A5 Tryz.func114 (by kernel_rfl) rfl⟩
theorem Gg3 : FI 115 Tryz.f115 := ⟨Tryz.func115, A5 Tryz.func115 (by kernel_rfl) rfl⟩
theorem Gg4 : FI 116 Tryz.f116 := ⟨Tryz.func116, A5 Tryz.func116 (by kernel_rfl) rfl⟩
theorem Gg5 : FI 117 Tryz.f117 := ⟨Tryz.func117, A5 Tryz.func117 (by kernel_rfl) rfl⟩
theorem Gg6 : FI 118 Tryz.f118 := ⟨Tryz.func118, A5 Tryz.func118 (by kernel_rfl) rfl⟩
theorem Gg7 : FI 119 Tryz.f119 := ⟨Tryz.func119, A5 Tryz.func119 (by kernel_rfl) rfl⟩
theorem Gg8 : FI 120 Tryz.f120 := ⟨Tryz.func120, A5 Tryz.func120 (by kernel_rfl) rfl⟩
theorem Gg9 : FI 121 Tryz.f121 := ⟨Tryz.func121, A5 Tryz.func121 (by kernel_rfl) rfl⟩
theorem Gh0 : FI 122 Tryz.f122 := ⟨Tryz.func122, A5 Tryz.func122 (by kernel_rfl) rfl⟩
theorem Gh1 : FI 123 Tryz.f123 := ⟨Tryz.func123, A5 Tryz.func123 (by kernel_rfl) rfl⟩
theorem Gh2 : FI 124 Tryz.f124 := ⟨Tryz.func124, A5 Tryz.func124 (by kernel_rfl) rfl⟩
theorem Gh3 : FI 125 Tryz.f125 := ⟨Tryz.func125, A5 Tryz.func125 (by kernel_rfl) rfl⟩
theorem Gh4 : FI 126 Tryz.f126 := ⟨Tryz.func126, A5 Tryz.func126 (by kernel_rfl) rfl⟩
theorem Gh5 : FI 127 Tryz.f127 := ⟨Tryz.func127, A5 Tryz.func127 (by kernel_rfl) rfl⟩
theorem Gh6 : FI 128 Tryz.f128 := ⟨Tryz.func128, A5 Tryz.func128 (by kernel_rfl) rfl⟩
theorem Gh7 : FI 129 Tryz.f129 := ⟨Tryz.func129, A5 Tryz.func129 (by kernel_rfl) rfl⟩
theorem Gh8 : FI 133 Tryz.f133 := ⟨Tryz.func133, A5 Tryz.func133 (by kernel_rfl) rfl⟩
theorem Hl5 : FI 135 Tryz.f135 := ⟨Tryz.func135, A5 Tryz.func135 (by kernel_rfl) rfl⟩
theorem Hl6 : FI 136 Tryz.f136 := ⟨Tryz.func136, A5 Tryz.func136 (by kernel_rfl) rfl⟩
theorem Gh9 : FI 138 Tryz.f138 := ⟨Tryz.func138, A5 Tryz.func138 (by kernel_rfl) rfl⟩
theorem Gi0 : FI 139 Tryz.f139 := ⟨Tryz.func139, A5 Tryz.func139 (by kernel_rfl) rfl⟩
theorem Gi1 : FI 140 Tryz.f140 := ⟨Tryz.func140, A5 Tryz.func140 (by kernel_rfl) rfl⟩
theorem Gi2 : FI 144 Tryz.f144 := ⟨Tryz.func144, A5 Tryz.func144 (by kernel_rfl) rfl⟩
theorem Gi3 : FI 145 Tryz.f145 := ⟨Tryz.func145, A5 Tryz.func145 (by kernel_rfl) rfl⟩
theorem Gi4 : FI 146 Tryz.f146 := ⟨Tryz.func146, A5 Tryz.func146 (by kernel_rfl) rfl⟩
theorem Gi5 : FI 149 Tryz.f149 := ⟨Tryz.func149, A5 Tryz.func149 (by kernel_rfl) rfl⟩
theorem Gi6 : FI 150 Tryz.f150 := ⟨Tryz.func150, A5 Tryz.func150 (by kernel_rfl) rfl⟩
theorem Gi7 : FI 151 Tryz.f151 := ⟨Tryz.func151, A5 Tryz.func151 (by kernel_rfl) rfl⟩
theorem Gi8 : FI 152 Tryz.f152 := ⟨Tryz.func152, A5 Tryz.func152 (by kernel_rfl) rfl⟩
theorem Gi9 : FI 153 Tryz.f153 := ⟨Tryz.func153, A5 Tryz.func153 (by kernel_rfl) rfl⟩
theorem Gj0 : FI 154 Tryz.f154 := ⟨Tryz.func154, A5 Tryz.func154 (by kernel_rfl) rfl⟩
theorem Gj1 : FI 155 Tryz.f155 := ⟨Tryz.func155, A5 Tryz.func155 (by kernel_rfl) rfl⟩
theorem Hl7 : FI 156 Tryz.f156 := ⟨Tryz.func156, A5 Tryz.func156 (by kernel_rfl) rfl⟩
theorem Gj2 : FI 157 Tryz.f157 := ⟨Tryz.func157, A5 Tryz.func157 (by kernel_rfl) rfl⟩
theorem Gj3 : FI 158 Tryz.f158 := ⟨Tryz.func158, A5 Tryz.func158 (by kernel_rfl) rfl⟩
theorem Gj4 : FI 159 Tryz.f159 := ⟨Tryz.func159, A5 Tryz.func159 (by kernel_rfl) rfl⟩
theorem Gj5 : FI 163 Tryz.f163 := ⟨Tryz.func163, A5 Tryz.func163 (by kernel_rfl) rfl⟩
theorem Gj6 : FI 164 Tryz.f164 := ⟨Tryz.func164, A5 Tryz.func164 (by kernel_rfl) rfl⟩
theorem Gj7 : FI 168 Tryz.f168 := ⟨Tryz.func168, A5 Tryz.func168 (by kernel_rfl) rfl⟩
theorem Gj8 : FI 169 Tryz.f169 := ⟨Tryz.func169, A5 Tryz.func169 (by kernel_rfl) rfl⟩
theorem Gj9 : FI 170 Tryz.f170 := ⟨Tryz.func170, A5 Tryz.func170 (by kernel_rfl) rfl⟩
theorem Gk0 : FI 171 Tryz.f171 := ⟨Tryz.func171, A5 Tryz.func171 (by kernel_rfl) rfl⟩
theorem Gk1 : FI 172 Tryz.f172 := ⟨Tryz.func172, A5 Tryz.func172 (by kernel_rfl) rfl⟩
theorem Gk2 : FI 173 Tryz.f173 := ⟨Tryz.func173, A5 Tryz.func173 (by kernel_rfl) rfl⟩
theorem Hl8 : FI 174 Tryz.f174 := ⟨Tryz.func174, A5 Tryz.func174 (by kernel_rfl) rfl⟩
theorem Gk3 : FI 175 Tryz.f175 := ⟨Tryz.func175, A5 Tryz.func175 (by kernel_rfl) rfl⟩
theorem Gk4 : FI 176 Tryz.f176 := ⟨Tryz.func176, A5 Tryz.func176 (by kernel_rfl) rfl⟩
theorem Gk5 : FI 177 Tryz.f177 := ⟨Tryz.func177, A5 Tryz.func177 (by kernel_rfl) rfl⟩
theorem Gk6 : FI 178 Tryz.f178 := ⟨Tryz.func178, A5 Tryz.func178 (by kernel_rfl) rfl⟩
theorem Gk7 : FI 179 Tryz.f179 := ⟨Tryz.func179, A5 Tryz.func179 (by kernel_rfl) rfl⟩
theorem Gk8 : FI 180 Tryz.f180 := ⟨Tryz.func180, A5 Tryz.func180 (by kernel_rfl) rfl⟩
theorem Gk9 : FI 190 Tryz.f190 := ⟨Tryz.func190, A5 Tryz.func190 (by kernel_rfl) rfl⟩
theorem Gl0 : FI 191 Tryz.f191 := ⟨Tryz.func191, A5 Tryz.func191 (by kernel_rfl) rfl⟩
theorem Gl1 : FI 192 Tryz.f192 := ⟨Tryz.func192, A5 Tryz.func192 (by kernel_rfl) rfl⟩
theorem Gl2 : FI 193 Tryz.f193 := ⟨Tryz.func193, A5 Tryz.func193 (by kernel_rfl) rfl⟩
theorem Gl3 : FI 194 Tryz.f194 := ⟨Tryz.func194, A5 Tryz.func194 (by kernel_rfl) rfl⟩
theorem Gl4 : FI 195 Tryz.f195 := ⟨Tryz.func195, A5 Tryz.func195 (by kernel_rfl) rfl⟩
theorem Gl5 : FI 196 Tryz.f196 := ⟨Tryz.func196, A5 Tryz.func196 (by kernel_rfl) rfl⟩
theorem Hl9 : FI 197 Tryz.f197 := ⟨Tryz.func197, A5 Tryz.func197 (by kernel_rfl) rfl⟩
theorem Gl6 : FI 198 Tryz.f198 := ⟨Tryz.func198, A5 Tryz.func198 (by kernel_rfl) rfl⟩
theorem Gl7 : FI 199 Tryz.f199 := ⟨Tryz.func199, A5 Tryz.func199 (by kernel_rfl) rfl⟩
theorem Gl8 : FI 200 Tryz.f200 := ⟨Tryz.func200, A5 Tryz.func200 (by kernel_rfl) rfl⟩
theorem Gl9 : FI 201 Tryz.f201 := ⟨Tryz.func201, A5 Tryz.func201 (by kernel_rfl) rfl⟩
theorem Gm0 : FI 202 Tryz.f202 := ⟨Tryz.func202, A5 Tryz.func202 (by kernel_rfl) rfl⟩
theorem Gm1 : FI 203 Tryz.f203 := ⟨Tryz.func203, A5 Tryz.func203 (by kernel_rfl) rfl⟩
theorem Gm2 : FI 204 Tryz.f204 := ⟨Tryz.func204, A5 Tryz.func204 (by kernel_rfl) rfl⟩
theorem Gm3 : FI 205 Tryz.f205 := ⟨Tryz.func205, A5 Tryz.func205 (by kernel_rfl) rfl⟩
theorem Gm4 : FI 206 Tryz.f206 := ⟨Tryz.func206, A5 Tryz.func206 (by kernel_rfl) rfl⟩
theorem Gm5 : FI 207 Tryz.f207 := ⟨Tryz.func207, A5 Tryz.func207 (by kernel_rfl) rfl⟩
theorem Gm6 : FI 208 Tryz.f208 := ⟨Tryz.func208, A5 Tryz.func208 (by kernel_rfl) rfl⟩
theorem Gm7 : FI 209 Tryz.f209 := ⟨Tryz.func209, A5 Tryz.func209 (by kernel_rfl) rfl⟩
theorem Gm8 : FI 218 Tryz.f218 := ⟨Tryz.func218, A5 Tryz.func218 (by kernel_rfl) rfl⟩
theorem Gm9 : FI 219 Tryz.f219 := ⟨Tryz.func219, A5 Tryz.func219 (by kernel_rfl) rfl⟩
theorem Gn0 : FI 220 Tryz.f220 := ⟨Tryz.func220, A5 Tryz.func220 (by kernel_rfl) rfl⟩
theorem Gn1 : FI 221 Tryz.f221 := ⟨Tryz.func221, A5 Tryz.func221 (by kernel_rfl) rfl⟩
theorem Gn2 : FI 222 Tryz.f222 := ⟨Tryz.func222, A5 Tryz.func222 (by kernel_rfl) rfl⟩
theorem Gn3 : FI 223 Tryz.f223 := ⟨Tryz.func223, A5 Tryz.func223 (by kernel_rfl) rfl⟩
theorem Gn4 : FI 224 Tryz.f224 := ⟨Tryz.func224, A5 Tryz.func224 (by kernel_rfl) rfl⟩
theorem Gn5 : FI 225 Tryz.f225 := ⟨Tryz.func225, A5 Tryz.func225 (by kernel_rfl) rfl⟩
theorem Gn6 : FI 230 Tryz.f230 := ⟨Tryz.func230, A5 Tryz.func230 (by kernel_rfl) rfl⟩
theorem Gn7 : FI 231 Tryz.f231 := ⟨Tryz.func231, A5 Tryz.func231 (by kernel_rfl) rfl⟩
theorem Gn8 : FI 232 Tryz.f232 := ⟨Tryz.func232, A5 Tryz.func232 (by kernel_rfl) rfl⟩
theorem Gn9 : FI 233 Tryz.f233 := ⟨Tryz.func233, A5 Tryz.func233 (by kernel_rfl) rfl⟩
theorem Go0 : FI 234 Tryz.f234 := ⟨Tryz.func234, A5 Tryz.func234 (by kernel_rfl) rfl⟩
theorem Go1 : FI 235 Tryz.f235 := ⟨Tryz.func235, A5 Tryz.func235 (by kernel_rfl) rfl⟩
theorem Go2 : FI 236 Tryz.f236 := ⟨Tryz.func236, A5 Tryz.func236 (by kernel_rfl) rfl⟩
theorem Go3 : FI 237 Tryz.f237 := ⟨Tryz.func237, A5 Tryz.func237 (by kernel_rfl) rfl⟩
theorem Hr2 (k : Nat) : Ok Tryz.prog (Ew6 k) := C8 (F3) (F2) (M8) (A7 (Bj2) (F1)) (B6 (Hw3) (B9)) (C7) (B8)
theorem Hr3 (k : Nat) : M7 (Ew6 k) := L9 (B6 (Hw3) (B9))
theorem Hr4 (k : Nat) : SG 7 (Fl4 k) := ⟨A2 (Hr2 k) mixed (Hr3 k) (d := k) [(.slice 5 (.int .u8))] [.bool] [] (fun x => Fh3 k x.1) (fun x => Hq2 k x.1), (Hw3).2⟩
theorem G45 (k : Nat) : Ok Tryz.prog (Da3 k) := C8 (F3) (F2) (M8) (F1) (B6 (Hi7) (B9)) (C7) (B8)
theorem G46 (k : Nat) : M7 (Da3 k) := L9 (B6 (Hi7) (B9))
theorem K4 (k : Nat) : SG 55 (H7 k) := ⟨A2 (G45 k) mixed (G46 k) (d := k) [(.int .i64), (.int .i64), (.int .i64)] [.bool] [] (fun x => E9 k x.1 x.2.1 x.2.2.1) (fun x => G26 k x.1 x.2.1 x.2.2.1), (Hi7).2⟩
theorem Fu2 (k : Nat) : Ok Tryz.prog (Ce1 k) := C8 (F3) (F2) (M8) (A7 (P5) (F1)) (B6 (Gf9) (B9)) (B2 (K4 k) (C7)) (B8)
theorem Fu3 (k : Nat) : M7 (Ce1 k) := L9 (B6 (Gf9) (B9))
theorem Dk9 (k : Nat) : SG 107 (B26 k) := ⟨A2 (Fu2 k) mixed (Fu3 k) (d := k) [.str] [.bool] [] (fun x => S5 k x.1) (fun x => Fl6 k x.1), (Gf9).2⟩
theorem Go4 (k : Nat) : Ok Tryz.prog (Bg1 k) := C8 (F3) (F2) (M8) (A7 (J0) (A7 (P5) (A7 (Bw7) (A7 (A52) (A7 (Bw8) (F1)))))) (B6 (Hi6) (B9)) (B2 (K4 k) (B2 (Dk9 k) (C7))) (B8)
theorem Go5 (k : Nat) : M7 (Bg1 k) := L9 (B6 (Hi6) (B9))
theorem Cw4 (k : Nat) : SG 53 (Bm3 k) := ⟨A2 (Go4 k) mixed (Go5 k) (d := k) [E6] [.bool] [] (fun x => F7 k x.1) (fun x => Gb0 k x.1), (Hi6).2⟩
theorem Go6 (k : Nat) : Ok Tryz.prog (Ay0 k) := C8 (F3) (F2) (M8) (A7 (P5) (A7 (Bw7) (A7 (A52) (A7 (Bw8) (F1))))) (B6 (Hj8) (B9)) (C7) (B8)
theorem Go7 (k : Nat) : M7 (Ay0 k) := L9 (B6 (Hj8) (B9))
theorem D55 (k : Nat) : SG 72 (Ce2 k) := ⟨A2 (Go6 k) mixed (Go7 k) (d := k) [E6, H2] [E6] [.o] (fun x => G9 k x.1 x.2.1) (fun x => Gb2 k x.1 x.2.1), (Hj8).2⟩
theorem G47 (k : Nat) : Ok Tryz.prog (Bv6 k) := C8 (F3) (F2) (M8) (A7 (P5) (A7 (Bw7) (A7 (A52) (A7 (Bw8) (F1))))) (B6 (Gf8) (B9)) (C7) (B8)
theorem G48 (k : Nat) : M7 (Bv6 k) := L9 (B6 (Gf8) (B9))
theorem G49 (k : Nat) : SG 101 (Dz5 k) := ⟨A2 (G47 k) mixed (G48 k) (d := k) [E6, .str] [(.int .i64)] [] (fun x => Bk3 k x.1 x.2.1) (fun x => G28 k x.1 x.2.1), (Gf8).2⟩
theorem D56 (k : Nat) : Ok Tryz.prog (Ac4 k) := C8 (F3) (F2) (M8) (A7 (P5) (A7 (Bw7) (A7 (A52) (A7 (Bw8) (F1))))) (B6 (Gg1) (B9)) (C7) (B8)
theorem D57 (k : Nat) : M7 (Ac4 k) := L9 (B6 (Gg1) (B9))
theorem D58 (k : Nat) : SG 111 (B76 k) := ⟨A2 (D56 k) mixed (D57 k) (d := k) [E6, .str] [E6] [.o] (fun x => G1 k x.1 x.2.1) (fun x => Dz7 k x.1 x.2.1), (Gg1).2⟩
theorem G50 (k : Nat) : Ok Tryz.prog (Da4 k) := C8 (F3) (F2) (M8) (A7 (J0) (A7 (P5) (A7 (Bw7) (A7 (A52) (A7 (Gx0) (A7 (Bw8) (F1))))))) (B6 (Hi8) (B9)) (B2 (Cw4 k) (B2 (D55 k) (B2 (G49 k) (B2 (Dk9 k) (B2 (D58 k) (C7)))))) (B8)
theorem G51 (k : Nat) : M7 (Da4 k) := L9 (B6 (Hi8) (B9))
theorem G52 (k : Nat) : SG 61 (Dz8 k) := ⟨A2 (G50 k) mixed (G51 k) (d := k) [E6, Ag7] [E6, .bool] [.o] (fun x => b9 k x.1 x.2.1) (fun x => G29 k x.1 x.2.1), (Hi8).2⟩
theorem Go8 (k : Nat) : Ok Tryz.prog (Bg3 k) := C8 (F3) (F2) (M8) (A7 (Bw7) (A7 (A52) (A7 (Fu1) (A7 (Gx0) (F1))))) (B6 (Hh1) (B9)) (B2 (G52 k) (C7)) (B8)
theorem Go9 (k : Nat) : M7 (Bg3 k) := L9 (B6 (Hh1) (B9))
theorem D59 (k : Nat) : SG 15 (Ce5 k) := ⟨A2 (Go8 k) mixed (Go9 k) (d := k) [E6, (.slice 93 Ag7)] [E6, (.int .i64)] [.o] (fun x => H0 k x.1 x.2.1) (fun x => Gb5 k x.1 x.2.1), (Hh1).2⟩
theorem Fu4 (k : Nat) : Ok Tryz.prog (Ce6 k) := C8 (F3) (F2) (M8) (A7 (J0) (A7 (B89) (A7 (Bj2) (A7 (Gf4) (F1))))) (B6 (Hj1) (B9)) (C7) (B8)
theorem Fu5 (k : Nat) : M7 (Ce6 k) := L9 (B6 (Hj1) (B9))
theorem Dl0 (k : Nat) : An9 Tryz.prog 64 (B29 k) ∧ T6 Tryz.prog 64 := ⟨P6 (Fu4 k) mixed (Fu5 k) (d := k) [.box D1] [(.int .i64)] [] (fun x => W6 k x.1) (fun x => Fm2 k x.1), (Hj1).2⟩
theorem E50 (k : Nat) : Ok Tryz.prog (B30 k) := C8 (F3) (F2) (M8) (F1) (B6 (Hj2) (B9)) (C7) (O4 (Dl0 k) (B8))
theorem E51 (k : Nat) : M7 (B30 k) := L9 (B6 (Hj2) (B9))
theorem U1 (k : Nat) : An9 Tryz.prog 65 (O3 k) ∧ T6 Tryz.prog 65 := ⟨P6 (E50 k) mixed (E51 k) (d := k) [.box D1, .imm (.int .i64)] [(.int .i64)] [] (fun x => D0 k x.1 x.2.1) (fun x => Ew7 k x.1 x.2.1), (Hj2).2⟩
theorem Gp0 (k : Nat) : Ok Tryz.prog (Bg4 k) := C8 (F3) (F2) (M8) (A7 (J0) (A7 (B89) (A7 (P5) (A7 (Bj2) (F1))))) (B6 (Gg0) (B9)) (C7) (B8)
theorem Gp1 (k : Nat) : M7 (Bg4 k) := L9 (B6 (Gg0) (B9))
theorem Az0 (k : Nat) : SG 109 (Ac5 k) := ⟨A2 (Gp0 k) mixed (Gp1 k) (d := k) [(.int .i64)] [.str] [] (fun x => N0 k x.1) (fun x => Gb7 k x.1), (Gg0).2⟩
theorem Eg2 (k : Nat) : Ok Tryz.prog (Ah8 k) := C8 (F3) (F2) (M8) (A7 (J0) (A7 (J5) (F1))) (B6 (Gl4) (B9)) (B2 (K4 k) (C7)) (B8)
theorem Eg3 (k : Nat) : M7 (Ah8 k) := L9 (B6 (Gl4) (B9))
theorem Eg4 (k : Nat) : SG 195 (Ce7 k) := ⟨A2 (Eg2 k) mixed (Eg3 k) (d := k) [(.slice 3 (.int .i64))] [.bool] [] (fun x => X1 k x.1) (fun x => Eb7 k x.1), (Gl4).2⟩
theorem Fu6 (k : Nat) : Ok Tryz.prog (Ce8 k) := C8 (F3) (F2) (M8) (A7 (J0) (A7 (P5) (A7 (J5) (A7 (J7) (F1))))) (B6 (Gj9) (B9)) (B2 (K4 k) (B2 (Eg4 k) (C7))) (B8)
theorem Fu7 (k : Nat) : M7 (Ce8 k) := L9 (B6 (Gj9) (B9))
theorem Dl1 (k : Nat) : SG 170 (B32 k) := ⟨A2 (Fu6 k) mixed (Fu7 k) (d := k) [A6] [.bool] [] (fun x => W7 k x.1) (fun x => Fm4 k x.1), (Gj9).2⟩
theorem Fu8 (k : Nat) : Ok Tryz.prog (A26 k) := C8 (F3) (F2) (M8) (A7 (J0) (A7 (Do2) (A7 (J5) (A7 (J7) (F1))))) (B6 (Gi8) (B9)) (B2 (K4 k) (B2 (Dl1 k) (C7))) (B8)
theorem Fu9 (k : Nat) : M7 (A26 k) := L9 (B6 (Gi8) (B9))
theorem A53 (k : Nat) : SG 152 (Af8 k) := ⟨A2 (Fu8 k) mixed (Fu9 k) (d := k) [A6] [.bool] [] (fun x => J8 k x.1) (fun x => Fm6 k x.1), (Gi8).2⟩
theorem Gp2 (k : Nat) : Ok Tryz.prog (Bg5 k) := C8 (F3) (F2) (M8) (A7 (J0) (A7 (Al6) (A7 (p0) (A7 (J7) (F1))))) (B6 (Gk9) (B9)) (C7) (B8)
theorem Gp3 (k : Nat) : M7 (Bg5 k) := L9 (B6 (Gk9) (B9))
theorem Cw5 (k : Nat) : SG 190 (Bm5 k) := ⟨A2 (Gp2 k) mixed (Gp3 k) (d := k) [E7, (.int .i64)] [(.int .i64)] [] (fun x => Bd6 k x.1 x.2.1) (fun x => Gb9 k x.1 x.2.1), (Gk9).2⟩
theorem Fv0 (k : Nat) : Ok Tryz.prog (A28 k) := C8 (F3) (F2) (M8) (A7 (J0) (A7 (J5) (A7 (Al6) (A7 (p0) (A7 (J7) (F1)))))) (B6 (Gk5) (B9)) (B2 (Cw5 k) (C7)) (B8)
theorem Fv1 (k : Nat) : M7 (A28 k) := L9 (B6 (Gk5) (B9))
theorem Cj0 (k : Nat) : SG 177 (A97 k) := ⟨A2 (Fv0 k) mixed (Fv1 k) (d := k) [E7, (.slice 3 (.int .i64))] [(.int .i64)] [] (fun x => J9 k x.1 x.2.1) (fun x => Fm9 k x.1 x.2.1), (Gk5).2⟩
theorem Fv2 (k : Nat) : Ok Tryz.prog (A29 k) := C8 (F3) (F2) (M8) (A7 (J0) (A7 (Al6) (A7 (J7) (F1)))) (B6 (Gm2) (B9)) (C7) (B8)
theorem Fv3 (k : Nat) : M7 (A29 k) := L9 (B6 (Gm2) (B9))
theorem Ae0 (k : Nat) : SG 204 (Y1 k) := ⟨A2 (Fv2 k) mixed (Fv3 k) (d := k) [(.slice 162 A6), (.int .i64)] [A6, .bool] [.s, .s] (fun x => M9 k x.1 x.2.1) (fun x => Fn1 k x.1 x.2.1), (Gm2).2⟩
theorem Hw6 (k : Nat) : Ok Tryz.prog (D04 k) := C8 (F3) (F2) (M8) (A7 (J0) (A7 (Ay9) (A7 (Cw3) (F1)))) (B6 (Gm3) (B9)) (C7) (B8)
theorem Hw7 (k : Nat) : M7 (D04 k) := L9 (B6 (Gm3) (B9))
theorem Cw6 (k : Nat) : SG 205 (Bm6 k) := ⟨A2 (Hw6 k) mixed (Hw7 k) (d := k) [(.slice 260 B7), (.int .i64)] [(.int .i64)] [] (fun x => Cl6 k x.1 x.2.1) (fun x => Hv8 k x.1 x.2.1), (Gm3).2⟩
theorem E52 (k : Nat) : Ok Tryz.prog (B34 k) := C8 (F3) (F2) (M8) (A7 (J0) (A7 (J7) (F1))) (B6 (Gm6) (B9)) (B2 (K4 k) (B2 (Ae0 k) (B2 (Cw6 k) (C7)))) (B8)
theorem E53 (k : Nat) : M7 (B34 k) := L9 (B6 (Gm6) (B9))
theorem Au4 (k : Nat) : SG 208 (w7 k) := ⟨A2 (E52 k) mixed (E53 k) (d := k) [(.slice 162 A6), (.slice 260 B7), (.int .i64)] [(.int .i64)] [] (fun x => S9 k x.1 x.2.1 x.2.2.1) (fun x => Ex1 k x.1 x.2.1 x.2.2.1), (Gm6).2⟩
theorem Fv4 (k : Nat) : Ok Tryz.prog (Ce9 k) := C8 (F3) (F2) (M8) (A7 (J0) (A7 (J5) (A7 (J7) (F1)))) (B6 (Gm7) (B9)) (B2 (K4 k) (B2 (Ae0 k) (B2 (Cw6 k) (C7)))) (B8)
theorem Fv5 (k : Nat) : M7 (Ce9 k) := L9 (B6 (Gm7) (B9))
theorem Bn2 (k : Nat) : SG 209 (Aq4 k) := ⟨A2 (Fv4 k) mixed (Fv5 k) (d := k) [(.slice 162 A6), (.slice 260 B7), (.int .i64)] [(.int .i64)] [] (fun x => W8 k x.1 x.2.1 x.2.2.1) (fun x => Fn2 k x.1 x.2.1 x.2.2.1), (Gm7).2⟩
theorem E54 (k : Nat) : Ok Tryz.prog (Aq5 k) := C8 (F3) (F2) (M8) (A7 (J0) (A7 (Ay9) (A7 (Cw3) (F1)))) (B6 (Go2) (B9)) (C7) (B8)
theorem E55 (k : Nat) : M7 (Aq5 k) := L9 (B6 (Go2) (B9))
theorem E56 (k : Nat) : SG 236 (Cq2 k) := ⟨A2 (E54 k) mixed (E55 k) (d := k) [(.slice 260 B7)] [.bool] [] (fun x => Bd7 k x.1) (fun x => Ex3 k x.1), (Go2).2⟩
theorem Fv6 (k : Nat) : Ok Tryz.prog (Cf0 k) := C8 (F3) (F2) (M8) (A7 (J0) (A7 (J7) (F1))) (B6 (Gn5) (B9)) (B2 (Ae0 k) (B2 (Cw6 k) (B2 (Au4 k) (B2 (E56 k) (C7))))) (B8)
theorem Fv7 (k : Nat) : M7 (Cf0 k) := L9 (B6 (Gn5) (B9))
theorem Fv8 (k : Nat) : SG 225 (C36 k) := ⟨A2 (Fv6 k) mixed (Fv7 k) (d := k) [(.slice 162 A6), (.slice 260 B7), A6] [.bool] [] (fun x => Bt0 k x.1 x.2.1 x.2.2.1) (fun x => Fn3 k x.1 x.2.1 x.2.2.1), (Gn5).2⟩
theorem Eg5 (k : Nat) : Ok Tryz.prog (Bp9 k) := C8 (F3) (F2) (M8) (A7 (J0) (A7 (J7) (F1))) (B6 (Gm4) (B9)) (B2 (Au4 k) (B2 (Bn2 k) (B2 (Fv8 k) (C7)))) (B8)
theorem Eg6 (k : Nat) : M7 (Bp9 k) := L9 (B6 (Gm4) (B9))
theorem Eg7 (k : Nat) : SG 206 (Cf1 k) := ⟨A2 (Eg5 k) mixed (Eg6 k) (d := k) [(.slice 162 A6), (.slice 260 B7), A6] [.bool] [] (fun x => Am0 k x.1 x.2.1 x.2.2.1) (fun x => Ec2 k x.1 x.2.1 x.2.2.1), (Gm4).2⟩
theorem E57 (k : Nat) : Ok Tryz.prog (Aq6 k) := C8 (F3) (F2) (M8) (A7 (J0) (A7 (J5) (A7 (J7) (F1)))) (B6 (Gm5) (B9)) (B2 (Au4 k) (B2 (Bn2 k) (C7))) (B8)
theorem E58 (k : Nat) : M7 (Aq6 k) := L9 (B6 (Gm5) (B9))
theorem E59 (k : Nat) : SG 207 (Cq3 k) := ⟨A2 (E57 k) mixed (E58 k) (d := k) [(.slice 162 A6), (.slice 260 B7), A6] [.bool] [] (fun x => Bd8 k x.1 x.2.1 x.2.2.1) (fun x => Ex5 k x.1 x.2.1 x.2.2.1), (Gm5).2⟩
theorem Fv9 (k : Nat) : Ok Tryz.prog (Cf2 k) := C8 (F3) (F2) (M8) (A7 (J0) (A7 (J7) (A7 (Ay9) (F1)))) (B6 (Gk7) (B9)) (B2 (A53 k) (B2 (Ae0 k) (B2 (Cw6 k) (B2 (Eg7 k) (B2 (E59 k) (B2 (Au4 k) (B2 (Bn2 k) (C7)))))))) (B8)
theorem Fw0 (k : Nat) : M7 (Cf2 k) := L9 (B6 (Gk7) (B9))
theorem Cj1 (k : Nat) : SG 179 (A98 k) := ⟨A2 (Fv9 k) mixed (Fw0 k) (d := k) [(.slice 162 A6), (.slice 260 B7), A6] [.bool] [] (fun x => Av5 k x.1 x.2.1 x.2.2.1) (fun x => Fn4 k x.1 x.2.1 x.2.2.1), (Gk7).2⟩
theorem G53 (k : Nat) : Ok Tryz.prog (Da5 k) := C8 (F3) (F2) (M8) (A7 (J0) (A7 (J7) (F1))) (B6 (Gl0) (B9)) (B2 (K4 k) (C7)) (B8)
theorem G54 (k : Nat) : M7 (Da5 k) := L9 (B6 (Gl0) (B9))
theorem Ep9 (k : Nat) : SG 191 (Cu9 k) := ⟨A2 (G53 k) mixed (G54 k) (d := k) [A6] [(.int .i64)] [] (fun x => A79 k x.1) (fun x => G30 k x.1), (Gl0).2⟩
theorem Gp4 (k : Nat) : Ok Tryz.prog (Cv0 k) := C8 (F3) (F2) (M8) (F1) (B6 (Gn6) (B9)) (B2 (K4 k) (C7)) (B8)
theorem Gp5 (k : Nat) : M7 (Cv0 k) := L9 (B6 (Gn6) (B9))
theorem Gp6 (k : Nat) : SG 230 (Di5 k) := ⟨A2 (Gp4 k) mixed (Gp5 k) (d := k) [(.int .i64)] [.bool] [] (fun x => Bt1 k x.1) (fun x => Gc0 k x.1), (Gn6).2⟩
theorem Fw1 (k : Nat) : Ok Tryz.prog (A30 k) := C8 (F3) (F2) (M8) (A7 (J0) (A7 (Ay9) (A7 (Cw3) (F1)))) (B6 (Gm8) (B9)) (B2 (K4 k) (B2 (Gp6 k) (C7))) (B8)
theorem Fw2 (k : Nat) : M7 (A30 k) := L9 (B6 (Gm8) (B9))
theorem Fw3 (k : Nat) : SG 218 (C38 k) := ⟨A2 (Fw1 k) mixed (Fw2 k) (d := k) [(.slice 260 B7)] [.bool] [] (fun x => Bb8 k x.1) (fun x => Fn7 k x.1), (Gm8).2⟩
theorem Hr5 (k : Nat) : Ok Tryz.prog (Cl2 k) := C8 (F3) (F2) (M8) (A7 (J0) (A7 (Ay9) (A7 (Cw3) (F1)))) (B6 (Gl1) (B9)) (B2 (Fw3 k) (C7)) (B8)
theorem Hr6 (k : Nat) : M7 (Cl2 k) := L9 (B6 (Gl1) (B9))
theorem Gx2 (k : Nat) : SG 192 (D07 k) := ⟨A2 (Hr5 k) mixed (Hr6 k) (d := k) [(.slice 260 B7), (.int .i64), (.int .i64)] [(.slice 260 B7)] [.o] (fun x => Em5 k x.1 x.2.1 x.2.2.1) (fun x => Hq5 k x.1 x.2.1 x.2.2.1), (Gl1).2⟩
theorem Fw4 (k : Nat) : Ok Tryz.prog (Ac7 k) := C8 (F3) (F2) (M8) (A7 (J0) (A7 (J5) (A7 (B66) (A7 (Ay9) (A7 (Cw3) (F1)))))) (B6 (Gn7) (B9)) (C7) (B8)
theorem Fw5 (k : Nat) : M7 (Ac7 k) := L9 (B6 (Gn7) (B9))
theorem Dl2 (k : Nat) : SG 231 (B35 k) := ⟨A2 (Fw4 k) mixed (Fw5 k) (d := k) [(.slice 215 (.slice 260 B7))] [(.slice 3 (.int .i64))] [.o] (fun x => Bb9 k x.1) (fun x => Fn9 k x.1), (Gn7).2⟩
theorem E60 (k : Nat) : Ok Tryz.prog (Aq9 k) := C8 (F3) (F2) (M8) (A7 (B66) (A7 (Ay9) (F1))) (B6 (Gn8) (B9)) (B2 (Cw6 k) (C7)) (B8)
theorem E61 (k : Nat) : M7 (Aq9 k) := L9 (B6 (Gn8) (B9))
theorem C73 (k : Nat) : SG 232 (Bq1 k) := ⟨A2 (E60 k) mixed (E61 k) (d := k) [(.slice 215 (.slice 260 B7)), (.int .i64)] [.bool] [] (fun x => Av6 k x.1 x.2.1) (fun x => Ey2 k x.1 x.2.1), (Gn8).2⟩
theorem Gp7 (k : Nat) : Ok Tryz.prog (Bg9 k) := C8 (F3) (F2) (M8) (A7 (J0) (A7 (J5) (A7 (B66) (A7 (Ay9) (A7 (Cw3) (F1)))))) (B6 (Gn2) (B9)) (B2 (Cw6 k) (B2 (Dl2 k) (B2 (C73 k) (C7)))) (B8)
theorem Gp8 (k : Nat) : M7 (Bg9 k) := L9 (B6 (Gn2) (B9))
theorem Gp9 (k : Nat) : SG 222 (Di8 k) := ⟨A2 (Gp7 k) mixed (Gp8 k) (d := k) [(.slice 215 (.slice 260 B7))] [(.slice 260 B7)] [.o] (fun x => Bt2 k x.1) (fun x => Gc2 k x.1), (Gn2).2⟩
theorem G55 (k : Nat) : Ok Tryz.prog (Bv7 k) := C8 (F3) (F2) (M8) (A7 (J0) (A7 (J5) (F1))) (B6 (Gn3) (B9)) (B2 (Dl2 k) (B2 (C73 k) (C7))) (B8)
theorem G56 (k : Nat) : M7 (Bv7 k) := L9 (B6 (Gn3) (B9))
theorem G57 (k : Nat) : SG 223 (D09 k) := ⟨A2 (G55 k) mixed (G56 k) (d := k) [(.slice 215 (.slice 260 B7))] [(.slice 3 (.int .i64))] [.o] (fun x => Cz4 k x.1) (fun x => G32 k x.1), (Gn3).2⟩
theorem G58 (k : Nat) : Ok Tryz.prog (Bv8 k) := C8 (F3) (F2) (M8) (A7 (J0) (A7 (J5) (F1))) (B6 (Gl9) (B9)) (C7) (B8)
theorem G59 (k : Nat) : M7 (Bv8 k) := L9 (B6 (Gl9) (B9))
theorem Cl4 (k : Nat) : SG 201 (Bh2 k) := ⟨A2 (G58 k) mixed (G59 k) (d := k) [(.slice 3 (.int .i64)), (.int .i64)] [.bool] [] (fun x => Az4 k x.1 x.2.1) (fun x => G34 k x.1 x.2.1), (Gl9).2⟩
theorem Gq0 (k : Nat) : Ok Tryz.prog (Bh3 k) := C8 (F3) (F2) (M8) (A7 (J0) (A7 (J5) (F1))) (B6 (Gm0) (B9)) (C7) (B8)
theorem Gq1 (k : Nat) : M7 (Bh3 k) := L9 (B6 (Gm0) (B9))
theorem D60 (k : Nat) : SG 202 (Cf6 k) := ⟨A2 (Gq0 k) mixed (Gq1 k) (d := k) [(.slice 3 (.int .i64)), (.int .i64)] [(.slice 3 (.int .i64))] [.o] (fun x => Bt3 k x.1 x.2.1) (fun x => Gc6 k x.1 x.2.1), (Gm0).2⟩
theorem Eg8 (k : Nat) : Ok Tryz.prog (w8 k) := C8 (F3) (F2) (M8) (A7 (J0) (A7 (J5) (A7 (J7) (F1)))) (B6 (Gn9) (B9)) (B2 (Cl4 k) (B2 (Ae0 k) (C7))) (B8)
theorem Eg9 (k : Nat) : M7 (w8 k) := L9 (B6 (Gn9) (B9))
theorem Eh0 (k : Nat) : SG 233 (Cf7 k) := ⟨A2 (Eg8 k) mixed (Eg9 k) (d := k) [(.slice 162 A6), (.int .i64)] [(.slice 3 (.int .i64))] [.o] (fun x => A10 k x.1 x.2.1) (fun x => Ec7 k x.1 x.2.1), (Gn9).2⟩
theorem E62 (k : Nat) : Ok Tryz.prog (Ar1 k) := C8 (F3) (F2) (M8) (A7 (J0) (A7 (J5) (F1))) (B6 (Go0) (B9)) (B2 (Cl4 k) (C7)) (B8)
theorem E63 (k : Nat) : M7 (Ar1 k) := L9 (B6 (Go0) (B9))
theorem E64 (k : Nat) : SG 234 (Cq5 k) := ⟨A2 (E62 k) mixed (E63 k) (d := k) [(.slice 3 (.int .i64)), (.slice 3 (.int .i64)), (.slice 3 (.int .i64))] [.bool] [] (fun x => Av7 k x.1 x.2.1 x.2.2.1) (fun x => Ey4 k x.1 x.2.1 x.2.2.1), (Go0).2⟩
theorem E65 (k : Nat) : Ok Tryz.prog (B38 k) := C8 (F3) (F2) (M8) (A7 (J0) (A7 (J7) (F1))) (B6 (Go3) (B9)) (C7) (B8)
theorem E66 (k : Nat) : M7 (B38 k) := L9 (B6 (Go3) (B9))
theorem E67 (k : Nat) : SG 237 (Cq6 k) := ⟨A2 (E65 k) mixed (E66 k) (d := k) [A6] [.bool] [] (fun x => Aa9 k x.1) (fun x => Ey5 k x.1), (Go3).2⟩
theorem Fw6 (k : Nat) : Ok Tryz.prog (Cf8 k) := C8 (F3) (F2) (M8) (A7 (J0) (A7 (Do2) (A7 (J7) (F1)))) (B6 (Go1) (B9)) (B2 (Bn2 k) (B2 (E67 k) (C7))) (B8)
theorem Fw7 (k : Nat) : M7 (Cf8 k) := L9 (B6 (Go1) (B9))
theorem Fw8 (k : Nat) : SG 235 (C42 k) := ⟨A2 (Fw6 k) mixed (Fw7 k) (d := k) [(.slice 162 A6), (.slice 260 B7), A6, A6] [.bool] [] (fun x => Bt4 k x.1 x.2.1 x.2.2.1 x.2.2.2.1) (fun x => Fo2 k x.1 x.2.1 x.2.2.1 x.2.2.2.1), (Go1).2⟩
theorem G60 (k : Nat) : Ok Tryz.prog (Af9 k) := C8 (F3) (F2) (M8) (A7 (J0) (A7 (J5) (A7 (J7) (A7 (Hw1) (F1))))) (B6 (Gn4) (B9)) (B2 (Cl4 k) (B2 (D60 k) (B2 (Ae0 k) (B2 (Eh0 k) (B2 (E64 k) (B2 (Fw8 k) (C7))))))) (B8)
theorem G61 (k : Nat) : M7 (Af9 k) := L9 (B6 (Gn4) (B9))
theorem G62 (k : Nat) : SG 224 (D14 k) := ⟨A2 (G60 k) mixed (G61 k) (d := k) [(.slice 162 A6), (.slice 260 B7), (.slice 3 (.int .i64))] [(.slice 3 (.int .i64))] [.o] (fun x => Cz6 k x.1 x.2.1 x.2.2.1) (fun x => G36 k x.1 x.2.1 x.2.2.1), (Gn4).2⟩
theorem Fw9 (k : Nat) : Ok Tryz.prog (Ad0 k) := C8 (F3) (F2) (M8) (A7 (J0) (A7 (J5) (A7 (B66) (A7 (J7) (A7 (Ay9) (F1)))))) (B6 (Gm1) (B9)) (B2 (Cj1 k) (B2 (Ep9 k) (B2 (Gx2 k) (B2 (Ae0 k) (B2 (Cw6 k) (B2 (Gp9 k) (B2 (G57 k) (B2 (G62 k) (C7))))))))) (B8)
theorem Fx0 (k : Nat) : M7 (Ad0 k) := L9 (B6 (Gm1) (B9))
theorem Fx1 (k : Nat) : SG 203 (C43 k) := ⟨A2 (Fw9 k) mixed (Fx0 k) (d := k) [(.slice 162 A6), (.slice 215 (.slice 260 B7))] [(.slice 260 B7)] [.o] (fun x => Bt5 k x.1 x.2.1) (fun x => Fo4 k x.1 x.2.1), (Gm1).2⟩
theorem Eh1 (k : Nat) : Ok Tryz.prog (Ai5 k) := C8 (F3) (F2) (M8) (A7 (J0) (A7 (J5) (A7 (Al6) (A7 (B66) (A7 (p0) (A7 (Ay9) (F1))))))) (B6 (Gk6) (B9)) (B2 (Cw5 k) (B2 (Fx1 k) (C7))) (B8)
theorem Eh2 (k : Nat) : M7 (Ai5 k) := L9 (B6 (Gk6) (B9))
theorem Bs0 (k : Nat) : SG 178 (Ar3 k) := ⟨A2 (Eh1 k) mixed (Eh2 k) (d := k) [E7, (.slice 3 (.int .i64))] [(.slice 260 B7), .bool] [.o] (fun x => N8 k x.1 x.2.1) (fun x => Ed1 k x.1 x.2.1), (Gk6).2⟩
theorem Gq2 (k : Nat) : Ok Tryz.prog (Cv1 k) := C8 (F3) (F2) (M8) (A7 (J0) (A7 (J5) (A7 (Al6) (A7 (B66) (A7 (Db9) (A7 (p0) (A7 (J7) (F1)))))))) (B6 (Gj7) (B9)) (B2 (A53 k) (B2 (Cj0 k) (B2 (Bs0 k) (B2 (Cj1 k) (B2 (Cw5 k) (B2 (Ep9 k) (B2 (Gx2 k) (C7)))))))) (B8)
theorem Gq3 (k : Nat) : M7 (Cv1 k) := L9 (B6 (Gj7) (B9))
theorem D61 (k : Nat) : SG 168 (Cf9 k) := ⟨A2 (Gq2 k) mixed (Gq3 k) (d := k) [E7, A6] [E7, .bool] [.o, .o, .o] (fun x => Be1 k x.1 x.2.1) (fun x => Gd2 k x.1 x.2.1), (Gj7).2⟩
theorem Do3 (k : Nat) : Ok Tryz.prog (q7 k) := C8 (F3) (F2) (M8) (A7 (J0) (A7 (J5) (F1))) (B6 (Gi7) (B9)) (C7) (B8)
theorem Do4 (k : Nat) : M7 (q7 k) := L9 (B6 (Gi7) (B9))
theorem B86 (k : Nat) : SG 151 (Ay2 k) := ⟨A2 (Do3 k) mixed (Do4 k) (d := k) [(.slice 3 (.int .i64)), (.slice 3 (.int .i64))] [.bool] [] (fun x => N1 k x.1 x.2.1) (fun x => Dm4 k x.1 x.2.1), (Gi7).2⟩
theorem Fx2 (k : Nat) : Ok Tryz.prog (Cg0 k) := C8 (F3) (F2) (M8) (A7 (J0) (A7 (P5) (A7 (J5) (A7 (J7) (F1))))) (B6 (Gl2) (B9)) (B2 (B86 k) (C7)) (B8)
theorem Fx3 (k : Nat) : M7 (Cg0 k) := L9 (B6 (Gl2) (B9))
theorem Dl3 (k : Nat) : SG 193 (B43 k) := ⟨A2 (Fx2 k) mixed (Fx3 k) (d := k) [A6, A6] [.bool] [] (fun x => Am1 k x.1 x.2.1) (fun x => Fo5 k x.1 x.2.1), (Gl2).2⟩
theorem Dc0 (k : Nat) : Ok Tryz.prog (i7 k) := C8 (F3) (F2) (eq1 (Hr1) (M8)) (A7 (Ay9) (A7 (Cw3) (F1))) (B6 (Gl3) (B9)) (C7) (B8)
theorem Dc1 (k : Nat) : M7 (i7 k) := L9 (B6 (Gl3) (B9))
theorem Dc2 (k : Nat) : SG 194 (Bm7 k) := ⟨A2 (Dc0 k) mixed (Dc1 k) (d := k) [(.slice 260 B7), (.slice 260 B7)] [.bool] [] (fun x => f9 k x.1 x.2.1) (fun x => Da8 k x.1 x.2.1), (Gl3).2⟩
theorem Fx4 (k : Nat) : Ok Tryz.prog (Ad2 k) := C8 (F3) (F2) (M8) (A7 (Do2) (A7 (Al6) (A7 (B66) (A7 (Db9) (A7 (p0) (A7 (J7) (A7 (Ay9) (F1)))))))) (B6 (Gj8) (B9)) (B2 (Dl3 k) (B2 (Dc2 k) (C7))) (B8)
theorem Fx5 (k : Nat) : M7 (Ad2 k) := L9 (B6 (Gj8) (B9))
theorem Fx6 (k : Nat) : SG 169 (C45 k) := ⟨A2 (Fx4 k) mixed (Fx5 k) (d := k) [E7, E7] [.bool] [] (fun x => Bt7 k x.1 x.2.1) (fun x => Fo7 k x.1 x.2.1), (Gj8).2⟩
theorem Gq4 (k : Nat) : Ok Tryz.prog (Bh6 k) := C8 (F3) (F2) (M8) (A7 (Al6) (A7 (p0) (A7 (J7) (F1)))) (B6 (Gi5) (B9)) (B2 (D61 k) (B2 (Fx6 k) (C7))) (B8)
theorem Gq5 (k : Nat) : M7 (Bh6 k) := L9 (B6 (Gi5) (B9))
theorem Gq6 (k : Nat) : SG 149 (Dj1 k) := ⟨A2 (Gq4 k) mixed (Gq5 k) (d := k) [E7] [.bool] [] (fun x => Cb2 k x.1) (fun x => Gd4 k x.1), (Gi5).2⟩
theorem Gq7 (k : Nat) : Ok Tryz.prog (Bh7 k) := C8 (F3) (F2) (M8) (A7 (J0) (A7 (Do2) (A7 (J5) (A7 (Al6) (A7 (Db9) (A7 (p0) (A7 (J7) (F1)))))))) (B6 (Gi6) (B9)) (C7) (B8)
theorem Gq8 (k : Nat) : M7 (Bh7 k) := L9 (B6 (Gi6) (B9))
theorem Gq9 (k : Nat) : SG 150 (Dj2 k) := ⟨A2 (Gq7 k) mixed (Gq8 k) (d := k) [E7] [(.slice 3 (.int .i64))] [.o] (fun x => Cb4 k x.1) (fun x => Gd6 k x.1), (Gi6).2⟩
theorem Gr0 (k : Nat) : Ok Tryz.prog (Ay3 k) := C8 (F3) (F2) (M8) (A7 (J0) (A7 (P5) (A7 (J5) (A7 (D52) (A7 (p0) (A7 (D53) (A7 (Cw2) (A7 (E49) (A7 (D54) (F1)))))))))) (B6 (Gg3) (B9)) (B2 (K4 k) (B2 (Gq6 k) (B2 (Gq9 k) (B2 (B86 k) (C7))))) (B8)
theorem Gr1 (k : Nat) : M7 (Ay3 k) := L9 (B6 (Gg3) (B9))
theorem D62 (k : Nat) : SG 115 (Cg1 k) := ⟨A2 (Gr0 k) mixed (Gr1 k) (d := k) [M6] [.bool] [] (fun x => Ao8 k x.1) (fun x => Gd8 k x.1), (Gg3).2⟩
theorem E68 (k : Nat) : Ok Tryz.prog (B46 k) := C8 (F3) (F2) (M8) (A7 (P5) (F1)) (B6 (Gg4) (B9)) (B2 (Az0 k) (C7)) (B8)
theorem E69 (k : Nat) : M7 (B46 k) := L9 (B6 (Gg4) (B9))
theorem B67 (k : Nat) : SG 116 (Az8 k) := ⟨A2 (E68 k) mixed (E69 k) (d := k) [.str] [.str] [] (fun x => Y8 k x.1) (fun x => Ez3 k x.1), (Gg4).2⟩
theorem Fx7 (k : Nat) : Ok Tryz.prog (Cg2 k) := C8 (F3) (F2) (M8) (A7 (J0) (A7 (B89) (A7 (P5) (A7 (Bj2) (F1))))) (B6 (Gk0) (B9)) (C7) (B8)
theorem Fx8 (k : Nat) : M7 (Cg2 k) := L9 (B6 (Gk0) (B9))
theorem Fx9 (k : Nat) : SG 171 (C46 k) := ⟨A2 (Fx7 k) mixed (Fx8 k) (d := k) [(.int .i64)] [.str] [] (fun x => u0 k x.1) (fun x => Fp2 k x.1), (Gk0).2⟩
theorem Do5 (k : Nat) : Ok Tryz.prog (q8 k) := C8 (F3) (F2) (M8) (A7 (J0) (A7 (P5) (A7 (J5) (A7 (J7) (F1))))) (B6 (Gi9) (B9)) (B2 (Az0 k) (B2 (B67 k) (B2 (Fx9 k) (C7)))) (B8)
theorem Do6 (k : Nat) : M7 (q8 k) := L9 (B6 (Gi9) (B9))
theorem Do7 (k : Nat) : SG 153 (Bw0 k) := ⟨A2 (Do5 k) mixed (Do6 k) (d := k) [A6] [.str] [] (fun x => u5 k x.1) (fun x => Dm6 k x.1), (Gi9).2⟩
theorem Eh3 (k : Nat) : Ok Tryz.prog (Ai7 k) := C8 (F3) (F2) (M8) (A7 (J0) (A7 (J5) (A7 (J7) (F1)))) (B6 (Gg5) (B9)) (B2 (Az0 k) (B2 (A53 k) (B2 (Do7 k) (C7)))) (B8)
theorem Eh4 (k : Nat) : M7 (Ai7 k) := L9 (B6 (Gg5) (B9))
theorem Eh5 (k : Nat) : SG 117 (Cg3 k) := ⟨A2 (Eh3 k) mixed (Eh4 k) (d := k) [A6] [.str, .bool] [] (fun x => A11 k x.1) (fun x => Ed5 k x.1), (Gg5).2⟩
theorem E70 (k : Nat) : Ok Tryz.prog (o8 k) := C8 (F3) (F2) (M8) (A7 (J0) (A7 (P5) (A7 (Bj2) (A7 (D52) (A7 (Al6) (A7 (p0) (A7 (D53) (A7 (Cw2) (A7 (E49) (A7 (J7) (A7 (D54) (F1)))))))))))) (B6 (Hj4) (B9)) (B2 (Az0 k) (B2 (D62 k) (B2 (B67 k) (B2 (Eh5 k) (C7))))) (B8)
theorem E71 (k : Nat) : M7 (o8 k) := L9 (B6 (Hj4) (B9))
theorem E72 (k : Nat) : SG 68 (Cq9 k) := ⟨A2 (E70 k) mixed (E71 k) (d := k) [M6] [.str, .bool] [] (fun x => Al0 k x.1) (fun x => Ez5 k x.1), (Hj4).2⟩
theorem Fy0 (k : Nat) : Ok Tryz.prog (A36 k) := C8 (F3) (F2) (M8) (A7 (D53) (A7 (Cw2) (A7 (D54) (F1)))) (B6 (Gg6) (B9)) (C7) (B8)
theorem Fy1 (k : Nat) : M7 (A36 k) := L9 (B6 (Gg6) (B9))
theorem Fy2 (k : Nat) : SG 118 (C48 k) := ⟨A2 (Fy0 k) mixed (Fy1 k) (d := k) [] [M6] [.o, .o, .o, .o, .o] (fun x => Bt8 k) (fun x => Fp4 k), (Gg6).2⟩
theorem Eh6 (k : Nat) : Ok Tryz.prog (Bq3 k) := C8 (F3) (F2) (M8) (A7 (J0) (A7 (B89) (F1))) (B6 (Gh9) (B9)) (C7) (B8)
theorem Eh7 (k : Nat) : M7 (Bq3 k) := L9 (B6 (Gh9) (B9))
theorem Eh8 (k : Nat) : SG 138 (Cg4 k) := ⟨A2 (Eh6 k) mixed (Eh7 k) (d := k) [(.int .i64)] [(.int .u8)] [] (fun x => Ab4 k x.1) (fun x => Ed9 k x.1), (Gh9).2⟩
theorem Fy3 (k : Nat) : Ok Tryz.prog (A37 k) := C8 (F3) (F2) (M8) (A7 (P5) (A7 (Bj2) (F1))) (B6 (Gf7) (B9)) (B2 (Eh8 k) (C7)) (B8)
theorem Fy4 (k : Nat) : M7 (A37 k) := L9 (B6 (Gf7) (B9))
theorem Cj2 (k : Nat) : SG 100 (Ba6 k) := ⟨A2 (Fy3 k) mixed (Fy4 k) (d := k) [(.int .i64)] [.str] [] (fun x => W9 k x.1) (fun x => Fp6 k x.1), (Gf7).2⟩
theorem E73 (k : Nat) : Ok Tryz.prog (B47 k) := C8 (F3) (F2) (M8) (A7 (J7) (F1)) (B6 (Gk1) (B9)) (B2 (Dl3 k) (C7)) (B8)
theorem E74 (k : Nat) : M7 (B47 k) := L9 (B6 (Gk1) (B9))
theorem E75 (k : Nat) : SG 172 (Cr0 k) := ⟨A2 (E73 k) mixed (E74 k) (d := k) [A6] [.bool] [] (fun x => Aw2 k x.1) (fun x => Ez8 k x.1), (Gk1).2⟩
theorem Eh9 (k : Nat) : Ok Tryz.prog (Bq5 k) := C8 (F3) (F2) (M8) (A7 (J0) (A7 (J5) (A7 (J7) (A7 (Gf5) (F1))))) (B6 (Gj0) (B9)) (B2 (K4 k) (B2 (A53 k) (B2 (Dl1 k) (B2 (E75 k) (C7))))) (B8)
theorem Ei0 (k : Nat) : M7 (Bq5 k) := L9 (B6 (Gj0) (B9))
theorem Ei1 (k : Nat) : SG 154 (Cg5 k) := ⟨A2 (Eh9 k) mixed (Ei0 k) (d := k) [Y0] [.bool] [] (fun x => Am2 k x.1) (fun x => Ee0 k x.1), (Gj0).2⟩
theorem Fy5 (k : Nat) : Ok Tryz.prog (Cg6 k) := C8 (F3) (F2) (M8) (A7 (J5) (A7 (J7) (F1))) (B6 (Gm9) (B9)) (C7) (B8)
theorem Fy6 (k : Nat) : M7 (Cg6 k) := L9 (B6 (Gm9) (B9))
theorem Dl4 (k : Nat) : SG 219 (B48 k) := ⟨A2 (Fy5 k) mixed (Fy6 k) (d := k) [A6] [A6] [.o, .o] (fun x => Aw3 k x.1) (fun x => Fp7 k x.1), (Gm9).2⟩
theorem Do8 (k : Nat) : Ok Tryz.prog (q9 k) := C8 (F3) (F2) (M8) (A7 (Al6) (A7 (J7) (F1))) (B6 (Gl5) (B9)) (B2 (Dl4 k) (C7)) (B8)
theorem Do9 (k : Nat) : M7 (q9 k) := L9 (B6 (Gl5) (B9))
theorem Dp0 (k : Nat) : SG 196 (Bw1 k) := ⟨A2 (Do8 k) mixed (Do9 k) (d := k) [(.slice 162 A6)] [(.slice 162 A6)] [.o] (fun x => Ah3 k x.1) (fun x => Dn0 k x.1), (Gl5).2⟩
theorem Fy7 (k : Nat) : Ok Tryz.prog (A38 k) := C8 (F3) (F2) (M8) (A7 (Al6) (A7 (B66) (A7 (Db9) (A7 (p0) (A7 (Ay9) (F1)))))) (B6 (Gk2) (B9)) (B2 (Dp0 k) (C7)) (B8)
theorem Fy8 (k : Nat) : M7 (A38 k) := L9 (B6 (Gk2) (B9))
theorem Dl5 (k : Nat) : SG 173 (B49 k) := ⟨A2 (Fy7 k) mixed (Fy8 k) (d := k) [E7] [E7] [.o, .o, .o] (fun x => Bc0 k x.1) (fun x => Fp9 k x.1), (Gk2).2⟩
theorem Fy9 (k : Nat) : Ok Tryz.prog (A39 k) := C8 (F3) (F2) (M8) (A7 (J5) (A7 (D52) (A7 (p0) (A7 (D53) (A7 (Cw2) (A7 (D54) (F1))))))) (B6 (Gj1) (B9)) (B2 (Dl5 k) (C7)) (B8)
theorem Fz0 (k : Nat) : M7 (A39 k) := L9 (B6 (Gj1) (B9))
theorem Fz1 (k : Nat) : SG 155 (C49 k) := ⟨A2 (Fy9 k) mixed (Fz0 k) (d := k) [M6] [M6] [.o, .o, .o, .o, .o] (fun x => Am3 k x.1) (fun x => Fq1 k x.1), (Gj1).2⟩
theorem E76 (k : Nat) : Ok Tryz.prog (B50 k) := C8 (F3) (F2) (M8) (A7 (Al6) (A7 (B66) (A7 (Db9) (A7 (p0) (A7 (J7) (F1)))))) (B6 (Gl6) (B9)) (B2 (D61 k) (B2 (Dl5 k) (C7))) (B8)
theorem E77 (k : Nat) : M7 (B50 k) := L9 (B6 (Gl6) (B9))
theorem E78 (k : Nat) : SG 198 (Cr1 k) := ⟨A2 (E76 k) mixed (E77 k) (d := k) [E7, A6] [E7, .bool] [.o, .o, .o] (fun x => Aw5 k x.1 x.2.1) (fun x => E01 k x.1 x.2.1), (Gl6).2⟩
theorem Gr2 (k : Nat) : Ok Tryz.prog (Ay4 k) := C8 (F3) (F2) (M8) (A7 (J0) (A7 (J5) (A7 (Al6) (A7 (p0) (A7 (J7) (F1)))))) (B6 (Gk4) (B9)) (B2 (Cl4 k) (B2 (D60 k) (C7))) (B8)
theorem Gr3 (k : Nat) : M7 (Ay4 k) := L9 (B6 (Gk4) (B9))
theorem Cw7 (k : Nat) : SG 176 (Bn0 k) := ⟨A2 (Gr2 k) mixed (Gr3 k) (d := k) [E7] [(.slice 3 (.int .i64))] [.o] (fun x => Ap0 k x.1) (fun x => Ge0 k x.1), (Gk4).2⟩
theorem Fz2 (k : Nat) : Ok Tryz.prog (Cg7 k) := C8 (F3) (F2) (M8) (A7 (p0) (F1)) (B6 (Gn1) (B9)) (B2 (Cw7 k) (B2 (Bs0 k) (C7))) (B8)
theorem Fz3 (k : Nat) : M7 (Cg7 k) := L9 (B6 (Gn1) (B9))
theorem Fz4 (k : Nat) : SG 221 (C50 k) := ⟨A2 (Fz2 k) mixed (Fz3 k) (d := k) [E7] [(.slice 260 B7)] [.o] (fun x => Bt9 k x.1) (fun x => Fq4 k x.1), (Gn1).2⟩
theorem Fz5 (k : Nat) : Ok Tryz.prog (A41 k) := C8 (F3) (F2) (M8) (A7 (J5) (A7 (Al6) (A7 (p0) (F1)))) (B6 (Gl7) (B9)) (B2 (Au4 k) (B2 (Fz4 k) (C7))) (B8)
theorem Fz6 (k : Nat) : M7 (A41 k) := L9 (B6 (Gl7) (B9))
theorem Fz7 (k : Nat) : SG 199 (C51 k) := ⟨A2 (Fz5 k) mixed (Fz6 k) (d := k) [E7] [(.slice 3 (.int .i64))] [.o] (fun x => Bu0 k x.1) (fun x => Fq6 k x.1), (Gl7).2⟩
theorem G63 (k : Nat) : Ok Tryz.prog (Db1 k) := C8 (F3) (F2) (M8) (A7 (J0) (A7 (J5) (A7 (p0) (A7 (J7) (F1))))) (B6 (Gn0) (B9)) (B2 (K4 k) (B2 (Cw7 k) (B2 (Cj0 k) (B2 (Dl4 k) (C7))))) (B8)
theorem G64 (k : Nat) : M7 (Db1 k) := L9 (B6 (Gn0) (B9))
theorem G65 (k : Nat) : SG 220 (D24 k) := ⟨A2 (G63 k) mixed (G64 k) (d := k) [E7, (.int .i64), A6] [A6] [.o, .o] (fun x => Cz9 k x.1 x.2.1 x.2.2.1) (fun x => G37 k x.1 x.2.1 x.2.2.1), (Gn0).2⟩
theorem Fz8 (k : Nat) : Ok Tryz.prog (j9 k) := C8 (F3) (F2) (M8) (A7 (J0) (A7 (Do2) (A7 (P5) (A7 (J5) (A7 (D52) (A7 (Db9) (A7 (p0) (A7 (D53) (A7 (Cw2) (A7 (E49) (A7 (J7) (A7 (D54) (A7 (Gf5) (F1)))))))))))))) (B6 (Gg7) (B6 (Hl7) (B6 (Hl8) (B6 (Hl9) (B9))))) (B2 (K4 k) (B2 (Cj2 k) (B2 (D62 k) (B2 (Ei1 k) (B2 (Fz1 k) (B2 (E78 k) (B2 (Fz7 k) (B2 (G65 k) (C7))))))))) (B8)
theorem Fz9 (k : Nat) : M7 (j9 k) := L9 (B6 (Gg7) (B6 (Hl7) (B6 (Hl8) (B6 (Hl9) (B9)))))
theorem F00 (k : Nat) : SG 119 (C52 k) := ⟨A2 (Fz8 k) mixed (Fz9 k) (d := k) [M6, (.int .i64), Y0] [M6, .str, .bool] [.o, .o, .o, .o, .o] (fun x => Bu1 k x.1 x.2.1 x.2.2.1) (fun x => Fq9 k x.1 x.2.1 x.2.2.1), (Gg7).2⟩
theorem F01 (k : Nat) : Ok Tryz.prog (Cg9 k) := C8 (F3) (F2) (M8) (F1) (B6 (Hl0) (B9)) (C7) (O4 (U1 k) (B8))
theorem F02 (k : Nat) : M7 (Cg9 k) := L9 (B6 (Hl0) (B9))
theorem Bn3 (k : Nat) : An9 Tryz.prog 88 (As4 k) ∧ T6 Tryz.prog 88 := ⟨P6 (F01 k) mixed (F02 k) (d := k) [.box D1, .imm (.int .i64)] [.bool] [] (fun x => O8 k x.1 x.2.1) (fun x => Fr0 k x.1 x.2.1), (Hl0).2⟩
theorem D63 (k : Nat) : Ok Tryz.prog (Bh8 k) := C8 (F3) (F2) (M8) (A7 (J0) (A7 (J5) (F1))) (B6 (Gj2) (B9)) (C7) (O4 (U1 k) (B8))
theorem D64 (k : Nat) : M7 (Bh8 k) := L9 (B6 (Gj2) (B9))
theorem Cj3 (k : Nat) : An9 Tryz.prog 157 (A68 k) ∧ T6 Tryz.prog 157 := ⟨P6 (D63 k) mixed (D64 k) (d := k) [.box D1, .imm (.slice 3 (.int .i64))] [(.int .i64)] [] (fun x => T9 k x.1 x.2.1) (fun x => D25 k x.1 x.2.1), (Gj2).2⟩
theorem F03 (k : Nat) : Ok Tryz.prog (Ch0 k) := C8 (F3) (F2) (M8) (A7 (P5) (A7 (Hs7) (F1))) (B6 (Gl8) (B9)) (C7) (O4 (U1 k) (B8))
theorem F04 (k : Nat) : M7 (Ch0 k) := L9 (B6 (Gl8) (B9))
theorem F05 (k : Nat) : An9 Tryz.prog 200 (C53 k) ∧ T6 Tryz.prog 200 := ⟨P6 (F03 k) mixed (F04 k) (d := k) [.box D1, .imm (.slice 9 .str)] [.str] [] (fun x => Bc1 k x.1 x.2.1) (fun x => Fr1 k x.1 x.2.1), (Gl8).2⟩
theorem Ei2 (k : Nat) : Ok Tryz.prog (Ai9 k) := C8 (F3) (F2) (M8) (A7 (J0) (A7 (P5) (A7 (J5) (A7 (Hs7) (A7 (J7) (F1)))))) (B6 (Gk3) (B9)) (C7) (O4 (U1 k) (O4 (Bn3 k) (O4 (Cj3 k) (O4 (F05 k) (B8)))))
theorem Ei3 (k : Nat) : M7 (Ai9 k) := L9 (B6 (Gk3) (B9))
theorem Ei4 (k : Nat) : An9 Tryz.prog 175 (Ch1 k) ∧ T6 Tryz.prog 175 := ⟨P6 (Ei2 k) mixed (Ei3 k) (d := k) [.box D1] [A6] [.o, .o] (fun x => Am4 k x.1) (fun x => Ee6 k x.1), (Gk3).2⟩
theorem F06 (k : Nat) : Ok Tryz.prog (An0 k) := C8 (F3) (F2) (M8) (A7 (J0) (A7 (J5) (A7 (Al6) (A7 (p0) (A7 (J7) (F1)))))) (B6 (Gj3) (B9)) (B2 (Cw7 k) (B2 (Cj0 k) (B2 (Bs0 k) (B2 (Cj1 k) (C7))))) (O4 (U1 k) (O4 (Bn3 k) (O4 (Ei4 k) (B8))))
theorem F07 (k : Nat) : M7 (An0 k) := L9 (B6 (Gj3) (B9))
theorem F08 (k : Nat) : An9 Tryz.prog 158 (C54 k) ∧ T6 Tryz.prog 158 := ⟨P6 (F06 k) mixed (F07 k) (d := k) [.box D1, .imm E7, .imm (.int .i64)] [A6] [.o, .o] (fun x => O9 k x.1 x.2.1 x.2.2.1) (fun x => Fr3 k x.1 x.2.1 x.2.2.1), (Gj3).2⟩
theorem D65 (k : Nat) : Ok Tryz.prog (Ad6 k) := C8 (F3) (F2) (M8) (A7 (J0) (A7 (J5) (A7 (D52) (A7 (p0) (A7 (Cw2) (A7 (E49) (A7 (J7) (A7 (Gf5) (F1))))))))) (B6 (Gg8) (B9)) (B2 (A53 k) (C7)) (O4 (U1 k) (O4 (Bn3 k) (O4 (Cj3 k) (O4 (F08 k) (B8)))))
theorem D66 (k : Nat) : M7 (Ad6 k) := L9 (B6 (Gg8) (B9))
theorem D67 (k : Nat) : An9 Tryz.prog 120 (B80 k) ∧ T6 Tryz.prog 120 := ⟨P6 (D65 k) mixed (D66 k) (d := k) [.box D1, .imm M6] [Y0] [.o, .o] (fun x => Ae9 k x.1 x.2.1) (fun x => D28 k x.1 x.2.1), (Gg8).2⟩
theorem F09 (k : Nat) : Ok Tryz.prog (A42 k) := C8 (F3) (F2) (M8) (A7 (Cw2) (F1)) (B6 (Hj5) (B9)) (B2 (Fy2 k) (B2 (F00 k) (C7))) (O4 (U1 k) (O4 (D67 k) (B8)))
theorem F10 (k : Nat) : M7 (A42 k) := L9 (B6 (Hj5) (B9))
theorem F11 (k : Nat) : An9 Tryz.prog 69 (C55 k) ∧ T6 Tryz.prog 69 := ⟨P6 (F09 k) mixed (F10 k) (d := k) [.box D1, .imm (.int .i64)] [M6] [.s, .s, .s, .s, .s] (fun x => Bc2 k x.1 x.2.1) (fun x => Fr5 k x.1 x.2.1), (Hj5).2⟩
theorem F12 (k : Nat) : Ok Tryz.prog (A43 k) := C8 (F3) (F2) (M8) (A7 (J5) (F1)) (B6 (Hj6) (B9)) (C7) (O4 (Bn3 k) (B8))
theorem F13 (k : Nat) : M7 (A43 k) := L9 (B6 (Hj6) (B9))
theorem F14 (k : Nat) : An9 Tryz.prog 70 (C56 k) ∧ T6 Tryz.prog 70 := ⟨P6 (F12 k) mixed (F13 k) (d := k) [.box D1] [(.slice 3 (.int .i64))] [.o] (fun x => Bc3 k x.1) (fun x => Fr7 k x.1), (Hj6).2⟩
theorem F15 (k : Nat) : Ok Tryz.prog (A44 k) := C8 (F3) (F2) (M8) (A7 (J0) (A7 (J5) (F1))) (B6 (Gk8) (B9)) (B2 (K4 k) (C7)) (B8)
theorem F16 (k : Nat) : M7 (A44 k) := L9 (B6 (Gk8) (B9))
theorem F17 (k : Nat) : SG 180 (C57 k) := ⟨A2 (F15 k) mixed (F16 k) (d := k) [(.slice 3 (.int .i64)), (.int .i64), (.int .i64)] [.bool] [] (fun x => Ck3 k x.1 x.2.1 x.2.2.1) (fun x => Fr9 k x.1 x.2.1 x.2.2.1), (Gk8).2⟩
theorem Gr4 (k : Nat) : Ok Tryz.prog (Cv2 k) := C8 (F3) (F2) (M8) (A7 (J5) (F1)) (B6 (Gj4) (B9)) (B2 (K4 k) (B2 (F17 k) (C7))) (B8)
theorem Gr5 (k : Nat) : M7 (Cv2 k) := L9 (B6 (Gj4) (B9))
theorem D68 (k : Nat) : SG 159 (Ch3 k) := ⟨A2 (Gr4 k) mixed (Gr5 k) (d := k) [(.slice 3 (.int .i64))] [.bool] [] (fun x => A14 k x.1) (fun x => Ge1 k x.1), (Gj4).2⟩
theorem E79 (k : Nat) : Ok Tryz.prog (As9 k) := C8 (F3) (F2) (M8) (A7 (J0) (A7 (B89) (A7 (P5) (A7 (Bj2) (A7 (J5) (F1)))))) (B6 (Gg9) (B9)) (B2 (D68 k) (C7)) (B8)
theorem E80 (k : Nat) : M7 (As9 k) := L9 (B6 (Gg9) (B9))
theorem E81 (k : Nat) : SG 121 (Cr3 k) := ⟨A2 (E79 k) mixed (E80 k) (d := k) [(.slice 3 (.int .i64))] [.str, .bool] [] (fun x => Be4 k x.1) (fun x => E14 k x.1), (Gg9).2⟩
theorem F18 (k : Nat) : Ok Tryz.prog (Ch4 k) := C8 (F3) (F2) (M8) (A7 (B89) (A7 (P5) (A7 (Bj2) (A7 (E48) (F1))))) (B6 (Gi2) (B9)) (C7) (B8)
theorem F19 (k : Nat) : M7 (Ch4 k) := L9 (B6 (Gi2) (B9))
theorem Dl6 (k : Nat) : SG 144 (B51 k) := ⟨A2 (F18 k) mixed (F19 k) (d := k) [(.int .u32)] [.str] [] (fun x => Bu2 k x.1) (fun x => Fs0 k x.1), (Gi2).2⟩
theorem F20 (k : Nat) : Ok Tryz.prog (An1 k) := C8 (F3) (F2) (M8) (A7 (B89) (A7 (P5) (A7 (E48) (F1)))) (B6 (Gj5) (B9)) (C7) (B8)
theorem F21 (k : Nat) : M7 (An1 k) := L9 (B6 (Gj5) (B9))
theorem F22 (k : Nat) : SG 163 (C59 k) := ⟨A2 (F20 k) mixed (F21 k) (d := k) [(.int .u32), .str] [(.int .u32)] [] (fun x => Ck4 k x.1 x.2.1) (fun x => Fs2 k x.1 x.2.1), (Gj5).2⟩
theorem G66 (k : Nat) : Ok Tryz.prog (Db3 k) := C8 (F3) (F2) (M8) (F1) (B6 (Gi3) (B9)) (B2 (F22 k) (C7)) (B8)
theorem G67 (k : Nat) : M7 (Db3 k) := L9 (B6 (Gi3) (B9))
theorem Eq0 (k : Nat) : SG 145 (Cv3 k) := ⟨A2 (G66 k) mixed (G67 k) (d := k) [.str] [(.int .u32)] [] (fun x => Bl1 k x.1) (fun x => G38 k x.1), (Gi3).2⟩
theorem Gr6 (k : Nat) : Ok Tryz.prog (Cv4 k) := C8 (F3) (F2) (M8) (A7 (P5) (F1)) (B6 (Gh0) (B9)) (B2 (Dl6 k) (B2 (Eq0 k) (C7))) (B8)
theorem Gr7 (k : Nat) : M7 (Cv4 k) := L9 (B6 (Gh0) (B9))
theorem Gr8 (k : Nat) : SG 122 (Dk3 k) := ⟨A2 (Gr6 k) mixed (Gr7 k) (d := k) [.str] [.str, .bool] [] (fun x => Cb5 k x.1) (fun x => Ge2 k x.1), (Gh0).2⟩
theorem E82 (k : Nat) : Ok Tryz.prog (B52 k) := C8 (F3) (F2) (M8) (A7 (J0) (A7 (P5) (A7 (J5) (A7 (Cs6) (F1))))) (B6 (Hj7) (B9)) (B2 (K4 k) (B2 (Az0 k) (B2 (B67 k) (B2 (E81 k) (B2 (Gr8 k) (C7)))))) (B8)
theorem E83 (k : Nat) : M7 (B52 k) := L9 (B6 (Hj7) (B9))
theorem C74 (k : Nat) : SG 71 (Br2 k) := ⟨A2 (E82 k) mixed (E83 k) (d := k) [Q3] [.str, .bool] [] (fun x => Aw6 k x.1) (fun x => E18 k x.1), (Hj7).2⟩
theorem E84 (k : Nat) : Ok Tryz.prog (B53 k) := C8 (F3) (F2) (M8) (F1) (B6 (Hj9) (B9)) (B2 (K4 k) (B2 (Cj2 k) (C7))) (B8)
theorem E85 (k : Nat) : M7 (B53 k) := L9 (B6 (Hj9) (B9))
theorem C75 (k : Nat) : SG 73 (Br3 k) := ⟨A2 (E84 k) mixed (E85 k) (d := k) [(.int .i64)] [.str] [] (fun x => Al1 k x.1) (fun x => E19 k x.1), (Hj9).2⟩
theorem Cw8 (k : Nat) : Ok Tryz.prog (Q1 k) := C8 (F3) (F2) (M8) (A7 (J0) (A7 (B89) (A7 (P5) (A7 (Bj2) (A7 (A52) (A7 (Cs6) (A7 (Bw8) (A7 (Gf4) (F1))))))))) (B6 (Hh5) (B6 (Gx1) (B9))) (B2 (E72 k) (B2 (C74 k) (B2 (D55 k) (B2 (C75 k) (C7))))) (O4 (U1 k) (O4 (F11 k) (O4 (F14 k) (B8))))
theorem Cw9 (k : Nat) : M7 (Q1 k) := L9 (B6 (Hh5) (B6 (Gx1) (B9)))
theorem Cx0 (k : Nat) : SG 23 (A73 k) := ⟨A2 (Cw8 k) mixed (Cw9 k) (d := k) [(.slice 5 (.int .u8))] [E6, Q3] [.o, .o] (fun x => g6 k x.1) (fun x => Cv6 k x.1), (Hh5).2⟩
theorem Gr9 (k : Nat) : Ok Tryz.prog (Cv7 k) := C8 (F3) (F2) (M8) (F1) (B6 (Hi3) (B9)) (C7) (B8)
theorem Gs0 (k : Nat) : M7 (Cv7 k) := L9 (B6 (Hi3) (B9))
theorem Az1 (k : Nat) : SG 39 (Ad7 k) := ⟨A2 (Gr9 k) mixed (Gs0 k) (d := k) [(.int .i64), (.int .i64), (.int .i64)] [.bool] [] (fun x => g7 k x.1 x.2.1 x.2.2.1) (fun x => Ge3 k x.1 x.2.1 x.2.2.1), (Hi3).2⟩
theorem Gs1 (k : Nat) : Ok Tryz.prog (Bi1 k) := C8 (F3) (F2) (M8) (A7 (J0) (A7 (J5) (F1))) (B6 (Gh1) (B9)) (B2 (Az1 k) (C7)) (B8)
theorem Gs2 (k : Nat) : M7 (Bi1 k) := L9 (B6 (Gh1) (B9))
theorem D69 (k : Nat) : SG 123 (Ch5 k) := ⟨A2 (Gs1 k) mixed (Gs2 k) (d := k) [(.slice 3 (.int .i64))] [.bool] [] (fun x => Bu3 k x.1) (fun x => Ge5 k x.1), (Gh1).2⟩
theorem E86 (k : Nat) : Ok Tryz.prog (At1 k) := C8 (F3) (F2) (M8) (A7 (J0) (A7 (B89) (A7 (P5) (A7 (Bj2) (A7 (J5) (F1)))))) (B6 (Hk0) (B9)) (B2 (D69 k) (C7)) (B8)
theorem E87 (k : Nat) : M7 (At1 k) := L9 (B6 (Hk0) (B9))
theorem E88 (k : Nat) : SG 74 (Cr4 k) := ⟨A2 (E86 k) mixed (E87 k) (d := k) [(.slice 3 (.int .i64))] [.str, .bool] [] (fun x => Be6 k x.1) (fun x => E22 k x.1), (Hk0).2⟩
theorem F23 (k : Nat) : Ok Tryz.prog (A46 k) := C8 (F3) (F2) (M8) (A7 (J0) (A7 (B89) (A7 (P5) (A7 (Bj2) (F1))))) (B6 (Hl2) (B9)) (B2 (Az1 k) (C7)) (B8)
theorem F24 (k : Nat) : M7 (A46 k) := L9 (B6 (Hl2) (B9))
theorem Cj4 (k : Nat) : SG 93 (Bb2 k) := ⟨A2 (F23 k) mixed (F24 k) (d := k) [(.int .i64)] [.str, .bool] [] (fun x => X0 k x.1) (fun x => Fs6 k x.1), (Hl2).2⟩
theorem Hm0 (k : Nat) : Ok Tryz.prog (Ch6 k) := C8 (F3) (F2) (M8) (A7 (J0) (A7 (P5) (A7 (Bj2) (A7 (J5) (F1))))) (B6 (Hk1) (B9)) (B2 (Cj4 k) (C7)) (B8)
theorem Hm1 (k : Nat) : M7 (Ch6 k) := L9 (B6 (Hk1) (B9))
theorem Hm2 (k : Nat) : SG 75 (Ep7 k) := ⟨A2 (Hm0 k) mixed (Hm1 k) (d := k) [(.slice 3 (.int .i64))] [.str, .bool] [] (fun x => C89 k x.1) (fun x => Hg9 k x.1), (Hk1).2⟩
theorem Ei5 (k : Nat) : Ok Tryz.prog (Br5 k) := C8 (F3) (F2) (M8) (A7 (P5) (F1)) (B6 (Hk2) (B9)) (B2 (Cj4 k) (C7)) (B8)
theorem Ei6 (k : Nat) : M7 (Br5 k) := L9 (B6 (Hk2) (B9))
theorem Ei7 (k : Nat) : SG 76 (Ch7 k) := ⟨A2 (Ei5 k) mixed (Ei6 k) (d := k) [.str] [.str, .bool] [] (fun x => Ab6 k x.1) (fun x => Ef0 k x.1), (Hk2).2⟩
theorem F25 (k : Nat) : Ok Tryz.prog (An2 k) := C8 (F3) (F2) (M8) (A7 (B89) (A7 (P5) (A7 (E48) (F1)))) (B6 (Gh8) (B9)) (C7) (B8)
theorem F26 (k : Nat) : M7 (An2 k) := L9 (B6 (Gh8) (B9))
theorem F27 (k : Nat) : SG 133 (C61 k) := ⟨A2 (F25 k) mixed (F26 k) (d := k) [(.int .u32), .str] [(.int .u32)] [] (fun x => Ck6 k x.1 x.2.1) (fun x => Fs9 k x.1 x.2.1), (Gh8).2⟩
theorem G68 (k : Nat) : Ok Tryz.prog (Db4 k) := C8 (F3) (F2) (M8) (F1) (B6 (Hl3) (B9)) (B2 (F27 k) (C7)) (B8)
theorem G69 (k : Nat) : M7 (Db4 k) := L9 (B6 (Hl3) (B9))
theorem G70 (k : Nat) : SG 94 (D32 k) := ⟨A2 (G68 k) mixed (G69 k) (d := k) [.str] [(.int .u32)] [] (fun x => C02 k x.1) (fun x => G40 k x.1), (Hl3).2⟩
theorem Gs3 (k : Nat) : Ok Tryz.prog (Cv9 k) := C8 (F3) (F2) (M8) (A7 (B89) (A7 (P5) (A7 (Bj2) (A7 (E48) (F1))))) (B6 (Hk3) (B9)) (B2 (G70 k) (C7)) (B8)
theorem Gs4 (k : Nat) : M7 (Cv9 k) := L9 (B6 (Hk3) (B9))
theorem D70 (k : Nat) : SG 77 (Ch8 k) := ⟨A2 (Gs3 k) mixed (Gs4 k) (d := k) [.str] [.str, .bool] [] (fun x => Bu4 k x.1) (fun x => Ge6 k x.1), (Hk3).2⟩
theorem E89 (k : Nat) : Ok Tryz.prog (B55 k) := C8 (F3) (F2) (M8) (A7 (J0) (A7 (P5) (A7 (J5) (A7 (Cs6) (F1))))) (B6 (Hh6) (B9)) (B2 (Az1 k) (B2 (E88 k) (B2 (Hm2 k) (B2 (Ei7 k) (B2 (D70 k) (C7)))))) (B8)
theorem E90 (k : Nat) : M7 (B55 k) := L9 (B6 (Hh6) (B9))
theorem C76 (k : Nat) : SG 24 (Br6 k) := ⟨A2 (E89 k) mixed (E90 k) (d := k) [Q3] [.str, .bool] [] (fun x => Aw8 k x.1) (fun x => E27 k x.1), (Hh6).2⟩
theorem E91 (k : Nat) : Ok Tryz.prog (B56 k) := C8 (F3) (F2) (M8) (A7 (P5) (F1)) (B6 (Hk4) (B9)) (B2 (D70 k) (C7)) (B8)
theorem E92 (k : Nat) : M7 (B56 k) := L9 (B6 (Hk4) (B9))
theorem E93 (k : Nat) : SG 78 (Cr5 k) := ⟨A2 (E91 k) mixed (E92 k) (d := k) [.str] [.str, .bool] [] (fun x => Be7 k x.1) (fun x => E28 k x.1), (Hk4).2⟩
theorem F28 (k : Nat) : Ok Tryz.prog (A47 k) := C8 (F3) (F2) (M8) (A7 (J0) (A7 (B89) (A7 (P5) (F1)))) (B6 (Hl1) (B9)) (B2 (Az1 k) (B2 (Cj4 k) (C7))) (B8)
theorem F29 (k : Nat) : M7 (A47 k) := L9 (B6 (Hl1) (B9))
theorem Dl7 (k : Nat) : SG 90 (B57 k) := ⟨A2 (F28 k) mixed (F29 k) (d := k) [.str, (.int .i64)] [(.int .i64), (.int .i64), .bool] [] (fun x => Aw9 k x.1 x.2.1) (fun x => Ft2 k x.1 x.2.1), (Hl1).2⟩
theorem D71 (k : Nat) : Ok Tryz.prog (Bi3 k) := C8 (F3) (F2) (M8) (A7 (J0) (A7 (Do2) (A7 (P5) (A7 (Gf3) (F1))))) (B6 (Hk5) (B9)) (B2 (Dl7 k) (C7)) (B8)
theorem D72 (k : Nat) : M7 (Bi3 k) := L9 (B6 (Hk5) (B9))
theorem D73 (k : Nat) : An9 Tryz.prog 79 (B81 k) ∧ T6 Tryz.prog 79 := ⟨P6 (D71 k) mixed (D72 k) (d := k) [.box G7] [(.int .i64)] [] (fun x => Af0 k x.1) (fun x => D35 k x.1), (Hk5).2⟩
theorem E94 (k : Nat) : Ok Tryz.prog (At5 k) := C8 (F3) (F2) (M8) (A7 (J0) (A7 (B89) (A7 (P5) (A7 (J5) (F1))))) (B6 (Hk6) (B9)) (B2 (D69 k) (C7)) (B8)
theorem E95 (k : Nat) : M7 (At5 k) := L9 (B6 (Hk6) (B9))
theorem E96 (k : Nat) : SG 80 (Cr6 k) := ⟨A2 (E94 k) mixed (E95 k) (d := k) [.str] [(.slice 3 (.int .i64)), .bool] [.o] (fun x => Be8 k x.1) (fun x => E31 k x.1), (Hk6).2⟩
theorem Ei8 (k : Nat) : Ok Tryz.prog (Br8 k) := C8 (F3) (F2) (M8) (A7 (P5) (F1)) (B6 (Gh2) (B9)) (B2 (Dl7 k) (C7)) (B8)
theorem Ei9 (k : Nat) : M7 (Br8 k) := L9 (B6 (Gh2) (B9))
theorem Ej0 (k : Nat) : SG 124 (Ch9 k) := ⟨A2 (Ei8 k) mixed (Ei9 k) (d := k) [.str, (.int .i64)] [.str, (.int .i64), .bool] [] (fun x => Am5 k x.1 x.2.1) (fun x => Ef2 k x.1 x.2.1), (Gh2).2⟩
theorem Dp1 (k : Nat) : Ok Tryz.prog (A70 k) := C8 (F3) (F2) (M8) (A7 (J0) (A7 (Do2) (A7 (P5) (A7 (Gf3) (F1))))) (B6 (Hk7) (B9)) (B2 (Ej0 k) (C7)) (B8)
theorem Dp2 (k : Nat) : M7 (A70 k) := L9 (B6 (Hk7) (B9))
theorem Dp3 (k : Nat) : An9 Tryz.prog 81 (Bw3 k) ∧ T6 Tryz.prog 81 := ⟨P6 (Dp1 k) mixed (Dp2 k) (d := k) [.box G7] [.str] [] (fun x => Z3 k x.1) (fun x => Dn4 k x.1), (Hk7).2⟩
theorem E97 (k : Nat) : Ok Tryz.prog (B58 k) := C8 (F3) (F2) (M8) (A7 (Do2) (A7 (P5) (A7 (J5) (A7 (Cs6) (A7 (Gf3) (F1)))))) (B6 (Hh7) (B9)) (B2 (C76 k) (B2 (E93 k) (B2 (E96 k) (C7)))) (O4 (D73 k) (O4 (Dp3 k) (B8)))
theorem E98 (k : Nat) : M7 (B58 k) := L9 (B6 (Hh7) (B9))
theorem E99 (k : Nat) : SG 25 (Cr7 k) := ⟨A2 (E97 k) mixed (E98 k) (d := k) [.str] [Q3, .bool] [.o] (fun x => Ax0 k x.1) (fun x => E32 k x.1), (Hh7).2⟩
theorem D74 (k : Nat) : SG 114 (B82 k) := ⟨G43 Tryz.itoaL, (Hw5).2⟩
theorem F30 (k : Nat) : Ok Tryz.prog (Ci0 k) := C8 (F3) (F2) (M8) (F1) (B6 (Hj0) (B9)) (B2 (D74 k) (C7)) (B8)
theorem F31 (k : Nat) : M7 (Ci0 k) := L9 (B6 (Hj0) (B9))
theorem F32 (k : Nat) : SG 63 (C64 k) := ⟨A2 (F30 k) mixed (F31 k) (d := k) [(.int .i64)] [.str] [] (fun x => Bc4 k x.1) (fun x => Ft3 k x.1), (Hj0).2⟩
theorem Fa0 (k : Nat) : Ok Tryz.prog (B59 k) := C8 (F3) (F2) (M8) (F1) (B6 (Hi1) (B9)) (B2 (Az1 k) (B2 (F32 k) (C7))) (B8)
theorem Fa1 (k : Nat) : M7 (B59 k) := L9 (B6 (Hi1) (B9))
theorem Fa2 (k : Nat) : SG 30 (Cr8 k) := ⟨A2 (Fa0 k) mixed (Fa1 k) (d := k) [(.int .i64)] [.str] [] (fun x => Ax1 k x.1) (fun x => E33 k x.1), (Hi1).2⟩
theorem Gs5 (k : Nat) : Ok Tryz.prog (Bi5 k) := C8 (F3) (F2) (M8) (A7 (J0) (A7 (P5) (A7 (Bw7) (A7 (A52) (A7 (Bw8) (F1)))))) (B6 (Hi4) (B9)) (B2 (Az1 k) (C7)) (B8)
theorem Gs6 (k : Nat) : M7 (Bi5 k) := L9 (B6 (Hi4) (B9))
theorem D75 (k : Nat) : SG 45 (Ci1 k) := ⟨A2 (Gs5 k) mixed (Gs6 k) (d := k) [E6] [.bool] [] (fun x => Bu5 k x.1) (fun x => Ge8 k x.1), (Hi4).2⟩
theorem Gs7 (k : Nat) : Ok Tryz.prog (Bi6 k) := C8 (F3) (F2) (M8) (A7 (P5) (A7 (Bw7) (A7 (A52) (A7 (Bw8) (F1))))) (B6 (Hl4) (B6 (Hl5) (B6 (Hl6) (B9)))) (C7) (B8)
theorem Gs8 (k : Nat) : M7 (Bi6 k) := L9 (B6 (Hl4) (B6 (Hl5) (B6 (Hl6) (B9))))
theorem Gs9 (k : Nat) : SG 98 (Dk7 k) := ⟨A2 (Gs7 k) mixed (Gs8 k) (d := k) [E6, .str] [(.int .i64)] [] (fun x => Cb7 k x.1 x.2.1) (fun x => Gf0 k x.1 x.2.1), (Hl4).2⟩
theorem F33 (k : Nat) : Ok Tryz.prog (Ci2 k) := C8 (F3) (F2) (M8) (A7 (A52) (F1)) (B6 (Hi5) (B9)) (B2 (Gs9 k) (C7)) (B8)
theorem F34 (k : Nat) : M7 (Ci2 k) := L9 (B6 (Hi5) (B9))
theorem F35 (k : Nat) : SG 47 (C65 k) := ⟨A2 (F33 k) mixed (F34 k) (d := k) [E6, .str] [.bool] [] (fun x => Bu6 k x.1 x.2.1) (fun x => Ft6 k x.1 x.2.1), (Hi5).2⟩
theorem Au5 (k : Nat) : Ok Tryz.prog (O6 k) := C8 (F3) (F2) (M8) (A7 (P5) (F1)) (B6 (Gj6) (B9)) (C7) (B8)
theorem Au6 (k : Nat) : M7 (O6 k) := L9 (B6 (Gj6) (B9))
theorem Au7 (k : Nat) : SG 164 (W3 k) := ⟨A2 (Au5 k) mixed (Au6 k) (d := k) [.str, .str] [.bool] [] (fun x => K9 k x.1 x.2.1) (fun x => At6 k x.1 x.2.1), (Gj6).2⟩
theorem Au8 (k : Nat) : Ok Tryz.prog (O7 k) := C8 (F3) (F2) (M8) (A7 (P5) (F1)) (B6 (Gi4) (B9)) (B2 (Au7 k) (C7)) (B8)
theorem Au9 (k : Nat) : M7 (O7 k) := L9 (B6 (Gi4) (B9))
theorem Av0 (k : Nat) : SG 146 (W4 k) := ⟨A2 (Au8 k) mixed (Au9 k) (d := k) [.str, .str] [.str, .bool] [] (fun x => L5 k x.1 x.2.1) (fun x => At7 k x.1 x.2.1), (Gi4).2⟩
theorem Cm4 (k : Nat) : Ok Tryz.prog (Ag8 k) := C8 (F3) (F2) (M8) (F1) (B6 (Gg2) (B9)) (B2 (Av0 k) (C7)) (B8)
theorem Cm5 (k : Nat) : M7 (Ag8 k) := L9 (B6 (Gg2) (B9))
theorem Cm6 (k : Nat) : SG 112 (A50 k) := ⟨A2 (Cm4 k) mixed (Cm5 k) (d := k) [.str, .str] [.str, .bool] [] (fun x => Aa0 k x.1 x.2.1) (fun x => Cm3 k x.1 x.2.1), (Gg2).2⟩
theorem Dp4 (k : Nat) : SG 113 (Bw4 k) := ⟨G44, (Hw4).2⟩
theorem Fa3 (k : Nat) : Ok Tryz.prog (B62 k) := C8 (F3) (F2) (M8) (F1) (B6 (Hi9) (B9)) (B2 (Cm6 k) (B2 (Dp4 k) (C7))) (B8)
theorem Fa4 (k : Nat) : M7 (B62 k) := L9 (B6 (Hi9) (B9))
theorem B68 (k : Nat) : SG 62 (A04 k) := ⟨A2 (Fa3 k) mixed (Fa4 k) (d := k) [.str, .str, (.int .i64)] [(.int .i64)] [] (fun x => Z4 k x.1 x.2.1 x.2.2.1) (fun x => E34 k x.1 x.2.1 x.2.2.1), (Hi9).2⟩
theorem Fa5 (k : Nat) : Ok Tryz.prog (Ag0 k) := C8 (F3) (F2) (M8) (A7 (J0) (A7 (P5) (A7 (Bw7) (A7 (A52) (A7 (Fu1) (A7 (Cs6) (A7 (Gx0) (A7 (Bw8) (F1))))))))) (B6 (Hh8) (B9)) (B2 (C76 k) (B2 (Fa2 k) (B2 (D75 k) (B2 (F35 k) (B2 (B68 k) (C7)))))) (B8)
theorem Fa6 (k : Nat) : M7 (Ag0 k) := L9 (B6 (Hh8) (B9))
theorem Fa7 (k : Nat) : SG 27 (Cr9 k) := ⟨A2 (Fa5 k) mixed (Fa6 k) (d := k) [E6, Q3] [(.slice 93 Ag7), .bool] [.o] (fun x => Ab9 k x.1 x.2.1) (fun x => E36 k x.1 x.2.1), (Hh8).2⟩
theorem D76 (k : Nat) : Ok Tryz.prog (Ad8 k) := C8 (F3) (F2) (M8) (A7 (J0) (A7 (P5) (A7 (Bw7) (A7 (A52) (A7 (Cs6) (A7 (Bw8) (F1))))))) (B6 (Hh9) (B9)) (B2 (E99 k) (B2 (D75 k) (B2 (B68 k) (C7)))) (B8)
theorem D77 (k : Nat) : M7 (Ad8 k) := L9 (B6 (Hh9) (B9))
theorem Cj5 (k : Nat) : SG 28 (A71 k) := ⟨A2 (D76 k) mixed (D77 k) (d := k) [E6] [Q3, .bool] [.o] (fun x => U0 k x.1) (fun x => D42 k x.1), (Hh9).2⟩
theorem Fa8 (k : Nat) : Ok Tryz.prog (At9 k) := C8 (F3) (F2) (M8) (A7 (J0) (A7 (P5) (A7 (Bw7) (A7 (A52) (A7 (Fu1) (A7 (Cs6) (A7 (Gx0) (A7 (Bw8) (F1))))))))) (B6 (Hi0) (B9)) (B2 (Cj5 k) (B2 (B68 k) (C7))) (B8)
theorem Fa9 (k : Nat) : M7 (At9 k) := L9 (B6 (Hi0) (B9))
theorem Fb0 (k : Nat) : SG 29 (Cs0 k) := ⟨A2 (Fa8 k) mixed (Fa9 k) (d := k) [E6] [(.slice 93 Ag7)] [.o] (fun x => C4 k x.1) (fun x => E38 k x.1), (Hi0).2⟩
theorem D78 (k : Nat) : Ok Tryz.prog (j1 k) := C8 (F3) (F2) (M8) (A7 (J0) (A7 (B89) (A7 (Bj2) (A7 (J5) (A7 (Gf4) (F1)))))) (B6 (Hh2) (B6 (Gx1) (B9))) (C7) (O4 (Dl0 k) (O4 (U1 k) (B8)))
theorem D79 (k : Nat) : M7 (j1 k) := L9 (B6 (Hh2) (B6 (Gx1) (B9)))
theorem D80 (k : Nat) : SG 19 (B83 k) := ⟨A2 (D78 k) mixed (D79 k) (d := k) [(.slice 5 (.int .u8))] [(.slice 3 (.int .i64))] [.o] (fun x => X9 k x.1) (fun x => D44 k x.1), (Hh2).2⟩
theorem Fb1 (k : Nat) : Ok Tryz.prog (Au0 k) := C8 (F3) (F2) (M8) (A7 (J0) (A7 (P5) (A7 (Bw7) (A7 (A52) (A7 (J5) (A7 (Bw8) (F1))))))) (B6 (Hj3) (B9)) (B2 (Cw4 k) (C7)) (B8)
theorem Fb2 (k : Nat) : M7 (Au0 k) := L9 (B6 (Hj3) (B9))
theorem Fb3 (k : Nat) : SG 66 (Cs1 k) := ⟨A2 (Fb1 k) mixed (Fb2 k) (d := k) [E6, (.slice 3 (.int .i64))] [E6, .bool] [.o] (fun x => Be9 k x.1 x.2.1) (fun x => E40 k x.1 x.2.1), (Hj3).2⟩
theorem F36 (k : Nat) : Ok Tryz.prog (Ci5 k) := C8 (F3) (F2) (M8) (A7 (A52) (A7 (Fu1) (F1))) (B6 (Hh3) (B9)) (B2 (D59 k) (B2 (K4 k) (B2 (Fb3 k) (C7)))) (B8)
theorem F37 (k : Nat) : M7 (Ci5 k) := L9 (B6 (Hh3) (B9))
theorem F38 (k : Nat) : SG 20 (C69 k) := ⟨A2 (F36 k) mixed (F37 k) (d := k) [E6, (.slice 93 Ag7), (.int .i64), (.slice 3 (.int .i64))] [E6, .bool] [.o] (fun x => Am6 k x.1 x.2.1 x.2.2.1 x.2.2.2.1) (fun x => Ft7 k x.1 x.2.1 x.2.2.1 x.2.2.2.1), (Hh3).2⟩
theorem G71 (k : Nat) : Ok Tryz.prog (Bw5 k) := C8 (F3) (F2) (M8) (A7 (J0) (A7 (J5) (F1))) (B6 (Hh4) (B9)) (C7) (B8)
theorem G72 (k : Nat) : M7 (Bw5 k) := L9 (B6 (Hh4) (B9))
theorem G73 (k : Nat) : SG 21 (D45 k) := ⟨A2 (G71 k) mixed (G72 k) (d := k) [(.slice 3 (.int .i64))] [(.slice 3 (.int .i64))] [.o] (fun x => Bl6 k x.1) (fun x => G42 k x.1), (Hh4).2⟩
theorem Dp5 (k : Nat) : Ok Tryz.prog (s9 k) := C8 (F3) (F2) (M8) (A7 (J0) (A7 (B89) (A7 (P5) (F1)))) (B6 (Gh3) (B9)) (B2 (Cj2 k) (C7)) (B8)
theorem Dp6 (k : Nat) : M7 (s9 k) := L9 (B6 (Gh3) (B9))
theorem Dp7 (k : Nat) : SG 125 (Bw6 k) := ⟨A2 (Dp5 k) mixed (Dp6 k) (d := k) [.str] [(.int .i64), .bool] [] (fun x => Az5 k x.1) (fun x => Dn9 k x.1), (Gh3).2⟩
theorem Fb4 (k : Nat) : Ok Tryz.prog (B63 k) := C8 (F3) (F2) (M8) (A7 (P5) (F1)) (B6 (Hk8) (B9)) (B2 (C75 k) (B2 (Dp7 k) (C7))) (B8)
theorem Fb5 (k : Nat) : M7 (B63 k) := L9 (B6 (Hk8) (B9))
theorem Fb6 (k : Nat) : SG 82 (Cs2 k) := ⟨A2 (Fb4 k) mixed (Fb5 k) (d := k) [.str] [(.int .i64)] [] (fun x => Ac0 k x.1) (fun x => E41 k x.1), (Hk8).2⟩
theorem Fb7 (k : Nat) : Ok Tryz.prog (B64 k) := C8 (F3) (F2) (M8) (A7 (P5) (F1)) (B6 (Gh4) (B9)) (B2 (Dl6 k) (B2 (Eq0 k) (C7))) (B8)
theorem Fb8 (k : Nat) : M7 (B64 k) := L9 (B6 (Gh4) (B9))
theorem Fb9 (k : Nat) : SG 126 (Cs3 k) := ⟨A2 (Fb7 k) mixed (Fb8 k) (d := k) [.str] [.str, .bool] [] (fun x => Ax2 k x.1) (fun x => E42 k x.1), (Gh4).2⟩
theorem F39 (k : Nat) : Ok Tryz.prog (A51 k) := C8 (F3) (F2) (M8) (A7 (J0) (A7 (B89) (A7 (P5) (F1)))) (B6 (Gi0) (B9)) (B2 (K4 k) (B2 (Az0 k) (C7))) (B8)
theorem F40 (k : Nat) : M7 (A51 k) := L9 (B6 (Gi0) (B9))
theorem F41 (k : Nat) : SG 139 (C70 k) := ⟨A2 (F39 k) mixed (F40 k) (d := k) [.str, (.int .i64)] [(.int .i64), (.int .i64), .bool] [] (fun x => Bc5 k x.1 x.2.1) (fun x => Ft9 k x.1 x.2.1), (Gi0).2⟩
theorem Gt0 (k : Nat) : Ok Tryz.prog (Cw0 k) := C8 (F3) (F2) (M8) (A7 (J0) (A7 (Do2) (A7 (P5) (A7 (Gf6) (F1))))) (B6 (Gh5) (B9)) (B2 (F41 k) (C7)) (B8)
theorem Gt1 (k : Nat) : M7 (Cw0 k) := L9 (B6 (Gh5) (B9))
theorem D81 (k : Nat) : An9 Tryz.prog 127 (Ci7 k) ∧ T6 Tryz.prog 127 := ⟨P6 (Gt0 k) mixed (Gt1 k) (d := k) [.box G7] [(.int .i64)] [] (fun x => Bf0 k x.1) (fun x => Gf2 k x.1), (Gh5).2⟩
theorem Fc0 (k : Nat) : Ok Tryz.prog (Au3 k) := C8 (F3) (F2) (M8) (A7 (J0) (A7 (B89) (A7 (P5) (A7 (J5) (F1))))) (B6 (Gh6) (B9)) (B2 (D68 k) (C7)) (B8)
theorem Fc1 (k : Nat) : M7 (Au3 k) := L9 (B6 (Gh6) (B9))
theorem Fc2 (k : Nat) : SG 128 (Cs4 k) := ⟨A2 (Fc0 k) mixed (Fc1 k) (d := k) [.str] [(.slice 3 (.int .i64)), .bool] [.o] (fun x => Bf1 k x.1) (fun x => E46 k x.1), (Gh6).2⟩
theorem F42 (k : Nat) : Ok Tryz.prog (Ci8 k) := C8 (F3) (F2) (M8) (A7 (J0) (A7 (Do2) (A7 (P5) (A7 (Gf6) (F1))))) (B6 (Gi1) (B9)) (C7) (B8)
theorem F43 (k : Nat) : M7 (Ci8 k) := L9 (B6 (Gi1) (B9))
theorem F44 (k : Nat) : An9 Tryz.prog 140 (C72 k) ∧ T6 Tryz.prog 140 := ⟨P6 (F42 k) mixed (F43 k) (d := k) [.box G7, .imm (.int .i64)] [.str] [] (fun x => Ax3 k x.1 x.2.1) (fun x => Fu0 k x.1 x.2.1), (Gi1).2⟩
theorem Dc3 (k : Nat) : Ok Tryz.prog (Ay7 k) := C8 (F3) (F2) (M8) (F1) (B6 (Gh7) (B9)) (C7) (O4 (D81 k) (O4 (F44 k) (B8)))
theorem Dc4 (k : Nat) : M7 (Ay7 k) := L9 (B6 (Gh7) (B9))
theorem Dc5 (k : Nat) : An9 Tryz.prog 129 (Bn1 k) ∧ T6 Tryz.prog 129 := ⟨P6 (Dc3 k) mixed (Dc4 k) (d := k) [.box G7] [.str] [] (fun x => V8 k x.1) (fun x => Db7 k x.1), (Gh7).2⟩
theorem Fc3 (k : Nat) : Ok Tryz.prog (B65 k) := C8 (F3) (F2) (M8) (A7 (J0) (A7 (Do2) (A7 (P5) (A7 (J5) (A7 (Cs6) (A7 (Gf6) (F1))))))) (B6 (Hk9) (B9)) (B2 (C74 k) (B2 (Fb9 k) (B2 (Fc2 k) (C7)))) (O4 (D81 k) (O4 (Dc5 k) (B8)))
theorem Fc4 (k : Nat) : M7 (B65 k) := L9 (B6 (Hk9) (B9))
theorem Fc5 (k : Nat) : SG 83 (Cs5 k) := ⟨A2 (Fc3 k) mixed (Fc4 k) (d := k) [.str] [Q3, .bool] [.o] (fun x => Ax4 k x.1) (fun x => E47 k x.1), (Hk9).2⟩
theorem D82 (k : Nat) : Ok Tryz.prog (Ad9 k) := C8 (F3) (F2) (M8) (A7 (J0) (A7 (P5) (A7 (Bw7) (A7 (A52) (A7 (Cs6) (A7 (Bw8) (F1))))))) (B6 (Hi2) (B9)) (B2 (Cw4 k) (B2 (Fb6 k) (B2 (Fc5 k) (C7)))) (B8)
theorem D83 (k : Nat) : M7 (Ad9 k) := L9 (B6 (Hi2) (B9))
theorem D84 (k : Nat) : SG 31 (B85 k) := ⟨A2 (D82 k) mixed (D83 k) (d := k) [E6] [Q3, .bool] [.o] (fun x => D6 k x.1) (fun x => D50 k x.1), (Hi2).2⟩
theorem D85 (k : Nat) : Ok Tryz.prog (Bj1 k) := C8 (F3) (F2) (M8) (A7 (J0) (A7 (Do2) (A7 (P5) (A7 (A52) (A7 (Fu1) (A7 (J5) (A7 (Cs6) (F1)))))))) (B6 (Hw2) (B9)) (B2 (Hr4 k) (B2 (D59 k) (B2 (D80 k) (B2 (F38 k) (B2 (G73 k) (B2 (Cx0 k) (B2 (Fa7 k) (B2 (Cj5 k) (B2 (Fb0 k) (B2 (D84 k) (C7))))))))))) (B8)
theorem D86 (k : Nat) : M7 (Bj1 k) := L9 (B6 (Hw2) (B9))
theorem D87 (k : Nat) : SG 6 (Do1 k) := ⟨A2 (D85 k) mixed (D86 k) (d := k) [(.slice 5 (.int .u8))] [.bool] [] (fun x => Af2 k x.1) (fun x => D51 k x.1), (Hw2).2⟩
end Go.Vm
end
