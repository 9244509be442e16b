/- The functions keep their specifications. -/
import Derived.Test.YtnkkafeaaogffaaH2
import Derived.Test.YtnkkafeaaogffaaChecked
set_option linter.unusedVariables false
namespace Go.Vm
open Go Go.Proofs
theorem mixed : Try.prog.follows .mixedOrders = true := Try.checked.mixed
theorem ty_3 : TyOk Try.prog (.int .i64) 3 := tyB_sound _ _ _ [] (by kernel_rfl)
theorem ty_4 : TyOk Try.prog .bool 4 := tyB_sound _ _ _ [] (by kernel_rfl)
theorem ty_5 : TyOk Try.prog (.int .u8) 5 := tyB_sound _ _ _ [] (by kernel_rfl)
theorem ty_9 : TyOk Try.prog .str 9 := tyB_sound _ _ _ [] (by kernel_rfl)
theorem ty_22 : TyOk Try.prog (.slice 3 (.int .i64)) 22 := tyB_sound _ _ _ [] (by kernel_rfl)
theorem ty_24 : TyOk Try.prog yEvent 24 := tyB_sound _ _ _ [] (by kernel_rfl)
theorem ty_26 : TyOk Try.prog yCommand 26 := tyB_sound _ _ _ [] (by kernel_rfl)
theorem ty_32 : TyOk Try.prog (.slice 207 ySession) 32 := tyB_sound _ _ _ [] (by kernel_rfl)
theorem ty_33 : TyOk Try.prog (.slice 89 yEvent) 33 := tyB_sound _ _ _ [] (by kernel_rfl)
theorem ty_34 : TyOk Try.prog (.slice 88 (.slice 179 yItem)) 34 := tyB_sound _ _ _ [] (by kernel_rfl)
theorem ty_35 : TyOk Try.prog (.slice 4 .bool) 35 := tyB_sound _ _ _ [] (by kernel_rfl)
theorem ty_37 : TyOk Try.prog yRoom 37 := tyB_sound _ _ _ [] (by kernel_rfl)
theorem ty_38 : TyOk Try.prog (.slice 209 yOut) 38 := tyB_sound _ _ _ [] (by kernel_rfl)
theorem ty_40 : TyOk Try.prog yHall 40 := tyB_sound _ _ _ [] (by kernel_rfl)
theorem ty_43 : TyOk Try.prog (.slice 149 ySession) 43 := tyB_sound _ _ _ [] (by kernel_rfl)
theorem ty_44 : TyOk Try.prog (.slice 24 yEvent) 44 := tyB_sound _ _ _ [] (by kernel_rfl)
theorem ty_45 : TyOk Try.prog (.slice 78 (.slice 129 yItem)) 45 := tyB_sound _ _ _ [] (by kernel_rfl)
theorem ty_47 : TyOk Try.prog yRoom1 47 := tyB_sound _ _ _ [] (by kernel_rfl)
theorem ty_48 : TyOk Try.prog (.slice 151 yOut) 48 := tyB_sound _ _ _ [] (by kernel_rfl)
theorem ty_50 : TyOk Try.prog yHall1 50 := tyB_sound _ _ _ [] (by kernel_rfl)
theorem ty_53 : TyOk Try.prog (.slice 5 (.int .u8)) 53 := tyB_sound _ _ _ [] (by kernel_rfl)
theorem ty_78 : TyOk Try.prog (.slice 129 yItem) 78 := tyB_sound _ _ _ [] (by kernel_rfl)
theorem ty_88 : TyOk Try.prog (.slice 179 yItem) 88 := tyB_sound _ _ _ [] (by kernel_rfl)
theorem ty_89 : TyOk Try.prog yEvent 89 := tyB_sound _ _ _ [] (by kernel_rfl)
theorem ty_129 : TyOk Try.prog yItem 129 := tyB_sound _ _ _ [] (by kernel_rfl)
theorem ty_132 : TyOk Try.prog yL05Cur 132 := tyB_sound _ _ _ [] (by kernel_rfl)
theorem ty_140 : TyOk Try.prog yL05Cur 140 := tyB_sound _ _ _ [] (by kernel_rfl)
theorem ty_149 : TyOk Try.prog ySession 149 := tyB_sound _ _ _ [] (by kernel_rfl)
theorem ty_151 : TyOk Try.prog yOut 151 := tyB_sound _ _ _ [] (by kernel_rfl)
theorem ty_179 : TyOk Try.prog yItem 179 := tyB_sound _ _ _ [] (by kernel_rfl)
theorem ty_207 : TyOk Try.prog ySession 207 := tyB_sound _ _ _ [] (by kernel_rfl)
theorem ty_209 : TyOk Try.prog yOut 209 := tyB_sound _ _ _ [] (by kernel_rfl)
theorem pt_138 : PtrOk Try.prog 138 := ptrB_sound (by kernel_rfl)
theorem eqt_129 : Try.prog.stoodInHeld 129 = false ∧ Try.prog.eqGuardType Try.prog.depth 129 = false := ⟨by kernel_rfl, by kernel_rfl⟩
theorem eqt_149 : Try.prog.stoodInHeld 149 = false ∧ Try.prog.eqGuardType Try.prog.depth 149 = false := ⟨by kernel_rfl, by kernel_rfl⟩
theorem fi_3 : Try.prog.funcs[3]? = some Try.f3 ∧ Enters Try.prog 3 := ⟨Try.func3, enters_of Try.func3 (by kernel_rfl) rfl⟩
theorem fi_4 : Try.prog.funcs[4]? = some Try.f4 ∧ Enters Try.prog 4 := ⟨Try.func4, enters_of Try.func4 (by kernel_rfl) rfl⟩
theorem fi_15 : Try.prog.funcs[15]? = some Try.f15 ∧ Enters Try.prog 15 := ⟨Try.func15, enters_of Try.func15 (by kernel_rfl) rfl⟩
theorem fi_16 : Try.prog.funcs[16]? = some Try.f16 ∧ Enters Try.prog 16 := ⟨Try.func16, enters_of Try.func16 (by kernel_rfl) rfl⟩
theorem fi_17 : Try.prog.funcs[17]? = some Try.f17 ∧ Enters Try.prog 17 := ⟨Try.func17, enters_of Try.func17 (by kernel_rfl) rfl⟩
theorem fi_18 : Try.prog.funcs[18]? = some Try.f18 ∧ Enters Try.prog 18 := ⟨Try.func18, enters_of Try.func18 (by kernel_rfl) rfl⟩
theorem fi_19 : Try.prog.funcs[19]? = some Try.f19 ∧ Enters Try.prog 19 := ⟨Try.func19, enters_of Try.func19 (by kernel_rfl) rfl⟩
theorem fi_20 : Try.prog.funcs[20]? = some Try.f20 ∧ Enters Try.prog 20 := ⟨Try.func20, enters_of Try.func20 (by kernel_rfl) rfl⟩
theorem fi_21 : Try.prog.funcs[21]? = some Try.f21 ∧ Enters Try.prog 21 := ⟨Try.func21, enters_of Try.func21 (by kernel_rfl) rfl⟩
theorem fi_22 : Try.prog.funcs[22]? = some Try.f22 ∧ Enters Try.prog 22 := ⟨Try.func22, enters_of Try.func22 (by kernel_rfl) rfl⟩
theorem fi_23 : Try.prog.funcs[23]? = some Try.f23 ∧ Enters Try.prog 23 := ⟨Try.func23, enters_of Try.func23 (by kernel_rfl) rfl⟩
theorem fi_24 : Try.prog.funcs[24]? = some Try.f24 ∧ Enters Try.prog 24 := ⟨Try.func24, enters_of Try.func24 (by kernel_rfl) rfl⟩
theorem fi_28 : Try.prog.funcs[28]? = some Try.f28 ∧ Enters Try.prog 28 := ⟨Try.func28, enters_of Try.func28 (by kernel_rfl) rfl⟩
theorem fi_29 : Try.prog.funcs[29]? = some Try.f29 ∧ Enters Try.prog 29 := ⟨Try.func29, enters_of Try.func29 (by kernel_rfl) rfl⟩
theorem fi_30 : Try.prog.funcs[30]? = some Try.f30 ∧ Enters Try.prog 30 := ⟨Try.func30, enters_of Try.func30 (by kernel_rfl) rfl⟩
theorem fi_33 : Try.prog.funcs[33]? = some Try.f33 ∧ Enters Try.prog 33 := ⟨Try.func33, enters_of Try.func33 (by kernel_rfl) rfl⟩
theorem fi_46 : Try.prog.funcs[46]? = some Try.f46 ∧ Enters Try.prog 46 := ⟨Try.func46, enters_of Try.func46 (by kernel_rfl) rfl⟩
theorem fi_48 : Try.prog.funcs[48]? = some Try.f48 ∧ Enters Try.prog 48 := ⟨Try.func48, enters_of Try.func48 (by kernel_rfl) rfl⟩
theorem fi_50 : Try.prog.funcs[50]? = some Try.f50 ∧ Enters Try.prog 50 := ⟨Try.func50, enters_of Try.func50 (by kernel_rfl) rfl⟩
theorem fi_51 : Try.prog.funcs[51]? = some Try.f51 ∧ Enters Try.prog 51 := ⟨Try.func51, enters_of Try.func51 (by kernel_rfl) rfl⟩
theorem fi_57 : Try.prog.funcs[57]? = some Try.f57 ∧ Enters Try.prog 57 := ⟨Try.func57, enters_of Try.func57 (by kernel_rfl) rfl⟩
theorem fi_58 : Try.prog.funcs[58]? = some Try.f58 ∧ Enters Try.prog 58 := ⟨Try.func58, enters_of Try.func58 (by kernel_rfl) rfl⟩
theorem fi_59 : Try.prog.funcs[59]? = some Try.f59 ∧ Enters Try.prog 59 := ⟨Try.func59, enters_of Try.func59 (by kernel_rfl) rfl⟩
theorem fi_60 : Try.prog.funcs[60]? = some Try.f60 ∧ Enters Try.prog 60 := ⟨Try.func60, enters_of Try.func60 (by kernel_rfl) rfl⟩
theorem fi_61 : Try.prog.funcs[61]? = some Try.f61 ∧ Enters Try.prog 61 := ⟨Try.func61, enters_of Try.func61 (by kernel_rfl) rfl⟩
theorem fi_62 : Try.prog.funcs[62]? = some Try.f62 ∧ Enters Try.prog 62 := ⟨Try.func62, enters_of Try.func62 (by kernel_rfl) rfl⟩
theorem fi_64 : Try.prog.funcs[64]? = some Try.f64 ∧ Enters Try.prog 64 := ⟨Try.func64, enters_of Try.func64 (by kernel_rfl) rfl⟩
theorem fi_65 : Try.prog.funcs[65]? = some Try.f65 ∧ Enters Try.prog 65 := ⟨Try.func65, enters_of Try.func65 (by kernel_rfl) rfl⟩
theorem fi_66 : Try.prog.funcs[66]? = some Try.f66 ∧ Enters Try.prog 66 := ⟨Try.func66, enters_of Try.func66 (by kernel_rfl) rfl⟩
theorem fi_68 : Try.prog.funcs[68]? = some Try.f68 ∧ Enters Try.prog 68 := ⟨Try.func68, enters_of Try.func68 (by kernel_rfl) rfl⟩
theorem fi_69 : Try.prog.funcs[69]? = some Try.f69 ∧ Enters Try.prog 69 := ⟨Try.func69, enters_of Try.func69 (by kernel_rfl) rfl⟩
theorem fi_71 : Try.prog.funcs[71]? = some Try.f71 ∧ Enters Try.prog 71 := ⟨Try.func71, enters_of Try.func71 (by kernel_rfl) rfl⟩
theorem fi_72 : Try.prog.funcs[72]? = some Try.f72 ∧ Enters Try.prog 72 := ⟨Try.func72, enters_of Try.func72 (by kernel_rfl) rfl⟩
theorem fi_74 : Try.prog.funcs[74]? = some Try.f74 ∧ Enters Try.prog 74 := ⟨Try.func74, enters_of Try.func74 (by kernel_rfl) rfl⟩
theorem fi_76 : Try.prog.funcs[76]? = some Try.f76 ∧ Enters Try.prog 76 := ⟨Try.func76, enters_of Try.func76 (by kernel_rfl) rfl⟩
theorem fi_80 : Try.prog.funcs[80]? = some Try.f80 ∧ Enters Try.prog 80 := ⟨Try.func80, enters_of Try.func80 (by kernel_rfl) rfl⟩
theorem fi_97 : Try.prog.funcs[97]? = some Try.f97 ∧ Enters Try.prog 97 := ⟨Try.func97, enters_of Try.func97 (by kernel_rfl) rfl⟩
theorem fi_98 : Try.prog.funcs[98]? = some Try.f98 ∧ Enters Try.prog 98 := ⟨Try.func98, enters_of Try.func98 (by kernel_rfl) rfl⟩
theorem fi_99 : Try.prog.funcs[99]? = some Try.f99 ∧ Enters Try.prog 99 := ⟨Try.func99, enters_of Try.func99 (by kernel_rfl) rfl⟩
theorem fi_100 : Try.prog.funcs[100]? = some Try.f100 ∧ Enters Try.prog 100 := ⟨Try.func100, enters_of Try.func100 (by kernel_rfl) rfl⟩
theorem fi_101 : Try.prog.funcs[101]? = some Try.f101 ∧ Enters Try.prog 101 := ⟨Try.func101, enters_of Try.func101 (by kernel_rfl) rfl⟩
theorem fi_102 : Try.prog.funcs[102]? = some Try.f102 ∧ Enters Try.prog 102 := ⟨Try.func102, enters_of Try.func102 (by kernel_rfl) rfl⟩
theorem fi_103 : Try.prog.funcs[103]? = some Try.f103 ∧ Enters Try.prog 103 := ⟨Try.func103, enters_of Try.func103 (by kernel_rfl) rfl⟩
theorem fi_104 : Try.prog.funcs[104]? = some Try.f104 ∧ Enters Try.prog 104 := ⟨Try.func104, enters_of Try.func104 (by kernel_rfl) rfl⟩
theorem fi_105 : Try.prog.funcs[105]? = some Try.f105 ∧ Enters Try.prog 105 := ⟨Try.func105, enters_of Try.func105 (by kernel_rfl) rfl⟩
theorem fi_106 : Try.prog.funcs[106]? = some Try.f106 ∧ Enters Try.prog 106 := ⟨Try.func106, enters_of Try.func106 (by kernel_rfl) rfl⟩
theorem fi_107 : Try.prog.funcs[107]? = some Try.f107 ∧ Enters Try.prog 107 := ⟨Try.func107, enters_of Try.func107 (by kernel_rfl) rfl⟩
theorem fi_108 : Try.prog.funcs[108]? = some Try.f108 ∧ Enters Try.prog 108 := ⟨Try.func108, enters_of Try.func108 (by kernel_rfl) rfl⟩
theorem fi_109 : Try.prog.funcs[109]? = some Try.f109 ∧ Enters Try.prog 109 := ⟨Try.func109, enters_of Try.func109 (by kernel_rfl) rfl⟩
theorem fi_110 : Try.prog.funcs[110]? = some Try.f110 ∧ Enters Try.prog 110 := ⟨Try.func110, enters_of Try.func110 (by kernel_rfl) rfl⟩
theorem fi_111 : Try.prog.funcs[111]? = some Try.f111 ∧ Enters Try.prog 111 := ⟨Try.func111, enters_of Try.func111 (by kernel_rfl) rfl⟩
theorem fi_112 : Try.prog.funcs[112]? = some Try.f112 ∧ Enters Try.prog 112 := ⟨Try.func112, enters_of Try.func112 (by kernel_rfl) rfl⟩
theorem fi_113 : Try.prog.funcs[113]? = some Try.f113 ∧ Enters Try.prog 113 := ⟨Try.func113, enters_of Try.func113 (by kernel_rfl) rfl⟩
theorem fi_114 : Try.prog.funcs[114]? = some Try.f114 ∧ Enters Try.prog 114 := ⟨Try.func114, enters_of Try.func114 (by kernel_rfl) rfl⟩
theorem fi_115 : Try.prog.funcs[115]? = some Try.f115 ∧ Enters Try.prog 115 := ⟨Try.func115, enters_of Try.func115 (by kernel_rfl) rfl⟩
theorem fi_116 : Try.prog.funcs[116]? = some Try.f116 ∧ Enters Try.prog 116 := ⟨Try.func116, enters_of Try.func116 (by kernel_rfl) rfl⟩
theorem fi_117 : Try.prog.funcs[117]? = some Try.f117 ∧ Enters Try.prog 117 := ⟨Try.func117, enters_of Try.func117 (by kernel_rfl) rfl⟩
theorem fi_118 : Try.prog.funcs[118]? = some Try.f118 ∧ Enters Try.prog 118 := ⟨Try.func118, enters_of Try.func118 (by kernel_rfl) rfl⟩
theorem fi_119 : Try.prog.funcs[119]? = some Try.f119 ∧ Enters Try.prog 119 := ⟨Try.func119, enters_of Try.func119 (by kernel_rfl) rfl⟩
theorem fi_122 : Try.prog.funcs[122]? = some Try.f122 ∧ Enters Try.prog 122 := ⟨Try.func122, enters_of Try.func122 (by kernel_rfl) rfl⟩
theorem fi_125 : Try.prog.funcs[125]? = some Try.f125 ∧ Enters Try.prog 125 := ⟨Try.func125, enters_of Try.func125 (by kernel_rfl) rfl⟩
theorem fi_126 : Try.prog.funcs[126]? = some Try.f126 ∧ Enters Try.prog 126 := ⟨Try.func126, enters_of Try.func126 (by kernel_rfl) rfl⟩
theorem fi_127 : Try.prog.funcs[127]? = some Try.f127 ∧ Enters Try.prog 127 := ⟨Try.func127, enters_of Try.func127 (by kernel_rfl) rfl⟩
theorem fi_128 : Try.prog.funcs[128]? = some Try.f128 ∧ Enters Try.prog 128 := ⟨Try.func128, enters_of Try.func128 (by kernel_rfl) rfl⟩
theorem fi_129 : Try.prog.funcs[129]? = some Try.f129 ∧ Enters Try.prog 129 := ⟨Try.func129, enters_of Try.func129 (by kernel_rfl) rfl⟩
theorem fi_130 : Try.prog.funcs[130]? = some Try.f130 ∧ Enters Try.prog 130 := ⟨Try.func130, enters_of Try.func130 (by kernel_rfl) rfl⟩
theorem fi_131 : Try.prog.funcs[131]? = some Try.f131 ∧ Enters Try.prog 131 := ⟨Try.func131, enters_of Try.func131 (by kernel_rfl) rfl⟩
theorem fi_132 : Try.prog.funcs[132]? = some Try.f132 ∧ Enters Try.prog 132 := ⟨Try.func132, enters_of Try.func132 (by kernel_rfl) rfl⟩
theorem fi_138 : Try.prog.funcs[138]? = some Try.f138 ∧ Enters Try.prog 138 := ⟨Try.func138, enters_of Try.func138 (by kernel_rfl) rfl⟩
theorem fi_148 : Try.prog.funcs[148]? = some Try.f148 ∧ Enters Try.prog 148 := ⟨Try.func148, enters_of Try.func148 (by kernel_rfl) rfl⟩
theorem fi_149 : Try.prog.funcs[149]? = some Try.f149 ∧ Enters Try.prog 149 := ⟨Try.func149, enters_of Try.func149 (by kernel_rfl) rfl⟩
theorem fi_152 : Try.prog.funcs[152]? = some Try.f152 ∧ Enters Try.prog 152 := ⟨Try.func152, enters_of Try.func152 (by kernel_rfl) rfl⟩
theorem fi_153 : Try.prog.funcs[153]? = some Try.f153 ∧ Enters Try.prog 153 := ⟨Try.func153, enters_of Try.func153 (by kernel_rfl) rfl⟩
theorem fi_158 : Try.prog.funcs[158]? = some Try.f158 ∧ Enters Try.prog 158 := ⟨Try.func158, enters_of Try.func158 (by kernel_rfl) rfl⟩
theorem fi_160 : Try.prog.funcs[160]? = some Try.f160 ∧ Enters Try.prog 160 := ⟨Try.func160, enters_of Try.func160 (by kernel_rfl) rfl⟩
theorem fi_163 : Try.prog.funcs[163]? = some Try.f163 ∧ Enters Try.prog 163 := ⟨Try.func163, enters_of Try.func163 (by kernel_rfl) rfl⟩
theorem fi_189 : Try.prog.funcs[189]? = some Try.f189 ∧ Enters Try.prog 189 := ⟨Try.func189, enters_of Try.func189 (by kernel_rfl) rfl⟩
theorem fi_190 : Try.prog.funcs[190]? = some Try.f190 ∧ Enters Try.prog 190 := ⟨Try.func190, enters_of Try.func190 (by kernel_rfl) rfl⟩
theorem fi_191 : Try.prog.funcs[191]? = some Try.f191 ∧ Enters Try.prog 191 := ⟨Try.func191, enters_of Try.func191 (by kernel_rfl) rfl⟩
theorem fi_192 : Try.prog.funcs[192]? = some Try.f192 ∧ Enters Try.prog 192 := ⟨Try.func192, enters_of Try.func192 (by kernel_rfl) rfl⟩
theorem fi_193 : Try.prog.funcs[193]? = some Try.f193 ∧ Enters Try.prog 193 := ⟨Try.func193, enters_of Try.func193 (by kernel_rfl) rfl⟩
theorem fi_194 : Try.prog.funcs[194]? = some Try.f194 ∧ Enters Try.prog 194 := ⟨Try.func194, enters_of Try.func194 (by kernel_rfl) rfl⟩
theorem fi_195 : Try.prog.funcs[195]? = some Try.f195 ∧ Enters Try.prog 195 := ⟨Try.func195, enters_of Try.func195 (by kernel_rfl) rfl⟩
theorem fi_196 : Try.prog.funcs[196]? = some Try.f196 ∧ Enters Try.prog 196 := ⟨Try.func196, enters_of Try.func196 (by kernel_rfl) rfl⟩
theorem fi_197 : Try.prog.funcs[197]? = some Try.f197 ∧ Enters Try.prog 197 := ⟨Try.func197, enters_of Try.func197 (by kernel_rfl) rfl⟩
theorem fi_198 : Try.prog.funcs[198]? = some Try.f198 ∧ Enters Try.prog 198 := ⟨Try.func198, enters_of Try.func198 (by kernel_rfl) rfl⟩
theorem fi_199 : Try.prog.funcs[199]? = some Try.f199 ∧ Enters Try.prog 199 := ⟨Try.func199, enters_of Try.func199 (by kernel_rfl) rfl⟩
theorem fi_200 : Try.prog.funcs[200]? = some Try.f200 ∧ Enters Try.prog 200 := ⟨Try.func200, enters_of Try.func200 (by kernel_rfl) rfl⟩
theorem fi_201 : Try.prog.funcs[201]? = some Try.f201 ∧ Enters Try.prog 201 := ⟨Try.func201, enters_of Try.func201 (by kernel_rfl) rfl⟩
theorem fi_202 : Try.prog.funcs[202]? = some Try.f202 ∧ Enters Try.prog 202 := ⟨Try.func202, enters_of Try.func202 (by kernel_rfl) rfl⟩
theorem fi_203 : Try.prog.funcs[203]? = some Try.f203 ∧ Enters Try.prog 203 := ⟨Try.func203, enters_of Try.func203 (by kernel_rfl) rfl⟩
theorem fi_204 : Try.prog.funcs[204]? = some Try.f204 ∧ Enters Try.prog 204 := ⟨Try.func204, enters_of Try.func204 (by kernel_rfl) rfl⟩
theorem fi_205 : Try.prog.funcs[205]? = some Try.f205 ∧ Enters Try.prog 205 := ⟨Try.func205, enters_of Try.func205 (by kernel_rfl) rfl⟩
theorem fi_206 : Try.prog.funcs[206]? = some Try.f206 ∧ Enters Try.prog 206 := ⟨Try.func206, enters_of Try.func206 (by kernel_rfl) rfl⟩
theorem fi_207 : Try.prog.funcs[207]? = some Try.f207 ∧ Enters Try.prog 207 := ⟨Try.func207, enters_of Try.func207 (by kernel_rfl) rfl⟩
theorem fi_208 : Try.prog.funcs[208]? = some Try.f208 ∧ Enters Try.prog 208 := ⟨Try.func208, enters_of Try.func208 (by kernel_rfl) rfl⟩
theorem fi_209 : Try.prog.funcs[209]? = some Try.f209 ∧ Enters Try.prog 209 := ⟨Try.func209, enters_of Try.func209 (by kernel_rfl) rfl⟩
theorem fi_210 : Try.prog.funcs[210]? = some Try.f210 ∧ Enters Try.prog 210 := ⟨Try.func210, enters_of Try.func210 (by kernel_rfl) rfl⟩
theorem fi_211 : Try.prog.funcs[211]? = some Try.f211 ∧ Enters Try.prog 211 := ⟨Try.func211, enters_of Try.func211 (by kernel_rfl) rfl⟩
theorem fi_212 : Try.prog.funcs[212]? = some Try.f212 ∧ Enters Try.prog 212 := ⟨Try.func212, enters_of Try.func212 (by kernel_rfl) rfl⟩
theorem fi_213 : Try.prog.funcs[213]? = some Try.f213 ∧ Enters Try.prog 213 := ⟨Try.func213, enters_of Try.func213 (by kernel_rfl) rfl⟩
theorem fi_219 : Try.prog.funcs[219]? = some Try.f219 ∧ Enters Try.prog 219 := ⟨Try.func219, enters_of Try.func219 (by kernel_rfl) rfl⟩
theorem fi_237 : Try.prog.funcs[237]? = some Try.f237 ∧ Enters Try.prog 237 := ⟨Try.func237, enters_of Try.func237 (by kernel_rfl) rfl⟩
theorem o_s_l05Take (k : Nat) : Ok Try.prog (c_s_l05Take k) := ok_of (map0) (ptr0) (eq0) (tab1 (ty_3) (tab1 (ty_4) (tab1 (ty_9) (tab1 (ty_132) (tab0))))) (inl1 (fi_189) (inl0)) (spec0) (mspec0)
theorem n_s_l05Take (k : Nat) : ∀ f fn, look (c_s_l05Take k).inl f = some fn → Try.prog.funcs[f]? = some fn := fun f fn h => (show InlL Try.prog (c_s_l05Take k).inl from inl1 (fi_189) (inl0)) f fn h |>.1
theorem s_s_l05Take (k : Nat) : MGood Try.prog 189 (sp_s_l05Take k) ∧ Enters Try.prog 189 := ⟨mgood_run (o_s_l05Take k) mixed (n_s_l05Take k) (d := k) [.box yL05Cur, .imm (.int .i64)] [.str] [] (fun x => s_l05Take k x.1 x.2.1) (fun x => r_s_l05Take k x.1 x.2.1), (fi_189).2⟩
theorem o_s_l09One (k : Nat) : Ok Try.prog (c_s_l09One k) := ok_of (map0) (ptr0) (eq0) (tab1 (ty_3) (tab1 (ty_4) (tab1 (ty_5) (tab1 (ty_9) (tab1 (ty_132) (tab0)))))) (inl1 (fi_97) (inl0)) (spec0) (mspec1 (s_s_l05Take k) (mspec0))
theorem n_s_l09One (k : Nat) : ∀ f fn, look (c_s_l09One k).inl f = some fn → Try.prog.funcs[f]? = some fn := fun f fn h => (show InlL Try.prog (c_s_l09One k).inl from inl1 (fi_97) (inl0)) f fn h |>.1
theorem s_s_l09One (k : Nat) : MGood Try.prog 97 (sp_s_l09One k) ∧ Enters Try.prog 97 := ⟨mgood_run (o_s_l09One k) mixed (n_s_l09One k) (d := k) [.box yL05Cur] [(.int .i64)] [] (fun x => s_l09One k x.1) (fun x => r_s_l09One k x.1), (fi_97).2⟩
theorem o_s_l01In (k : Nat) : Ok Try.prog (c_s_l01In k) := ok_of (map0) (ptr0) (eq0) (tab0) (inl1 (fi_128) (inl0)) (spec0) (mspec0)
theorem n_s_l01In (k : Nat) : ∀ f fn, look (c_s_l01In k).inl f = some fn → Try.prog.funcs[f]? = some fn := fun f fn h => (show InlL Try.prog (c_s_l01In k).inl from inl1 (fi_128) (inl0)) f fn h |>.1
theorem s_s_l01In (k : Nat) : SpecGood Try.prog 128 (sp_s_l01In k) ∧ Enters Try.prog 128 := ⟨specGood_run (o_s_l01In k) mixed (n_s_l01In k) (d := k) [(.int .i64), (.int .i64), (.int .i64)] [.bool] [] (fun x => s_l01In k x.1 x.2.1 x.2.2.1) (fun x => r_s_l01In k x.1 x.2.1 x.2.2.1), (fi_128).2⟩
theorem o_s_l01Var (k : Nat) : Ok Try.prog (c_s_l01Var k) := ok_of (map0) (ptr0) (eq0) (tab1 (ty_3) (tab1 (ty_5) (tab1 (ty_9) (tab1 (ty_53) (tab0))))) (inl1 (fi_138) (inl0)) (spec0) (mspec0)
theorem n_s_l01Var (k : Nat) : ∀ f fn, look (c_s_l01Var k).inl f = some fn → Try.prog.funcs[f]? = some fn := fun f fn h => (show InlL Try.prog (c_s_l01Var k).inl from inl1 (fi_138) (inl0)) f fn h |>.1
theorem s_s_l01Var (k : Nat) : SpecGood Try.prog 138 (sp_s_l01Var k) ∧ Enters Try.prog 138 := ⟨specGood_run (o_s_l01Var k) mixed (n_s_l01Var k) (d := k) [(.int .i64)] [.str] [] (fun x => s_l01Var k x.1) (fun x => r_s_l01Var k x.1), (fi_138).2⟩
theorem o_s_ReadVar (k : Nat) : Ok Try.prog (c_s_ReadVar k) := ok_of (map0) (ptr0) (eq0) (tab1 (ty_3) (tab1 (ty_5) (tab1 (ty_9) (tab0)))) (inl1 (fi_190) (inl0)) (spec1 (s_s_l01In k) (spec1 (s_s_l01Var k) (spec0))) (mspec0)
theorem n_s_ReadVar (k : Nat) : ∀ f fn, look (c_s_ReadVar k).inl f = some fn → Try.prog.funcs[f]? = some fn := fun f fn h => (show InlL Try.prog (c_s_ReadVar k).inl from inl1 (fi_190) (inl0)) f fn h |>.1
theorem s_s_ReadVar (k : Nat) : SpecGood Try.prog 190 (sp_s_ReadVar k) ∧ Enters Try.prog 190 := ⟨specGood_run (o_s_ReadVar k) mixed (n_s_ReadVar k) (d := k) [.str, (.int .i64)] [(.int .i64), (.int .i64), .bool] [] (fun x => s_ReadVar k x.1 x.2.1) (fun x => r_s_ReadVar k x.1 x.2.1), (fi_190).2⟩
theorem o_s_l05Var (k : Nat) : Ok Try.prog (c_s_l05Var k) := ok_of (map0) (ptr0) (eq0) (tab1 (ty_3) (tab1 (ty_4) (tab1 (ty_9) (tab1 (ty_132) (tab0))))) (inl1 (fi_98) (inl0)) (spec1 (s_s_ReadVar k) (spec0)) (mspec0)
theorem n_s_l05Var (k : Nat) : ∀ f fn, look (c_s_l05Var k).inl f = some fn → Try.prog.funcs[f]? = some fn := fun f fn h => (show InlL Try.prog (c_s_l05Var k).inl from inl1 (fi_98) (inl0)) f fn h |>.1
theorem s_s_l05Var (k : Nat) : MGood Try.prog 98 (sp_s_l05Var k) ∧ Enters Try.prog 98 := ⟨mgood_run (o_s_l05Var k) mixed (n_s_l05Var k) (d := k) [.box yL05Cur] [(.int .i64)] [] (fun x => s_l05Var k x.1) (fun x => r_s_l05Var k x.1), (fi_98).2⟩
theorem o_s_l05ReadShort (k : Nat) : Ok Try.prog (c_s_l05ReadShort k) := ok_of (map0) (ptr0) (eq0) (tab0) (inl1 (fi_100) (inl0)) (spec0) (mspec1 (s_s_l05Var k) (mspec1 (s_s_l05Take k) (mspec0)))
theorem n_s_l05ReadShort (k : Nat) : ∀ f fn, look (c_s_l05ReadShort k).inl f = some fn → Try.prog.funcs[f]? = some fn := fun f fn h => (show InlL Try.prog (c_s_l05ReadShort k).inl from inl1 (fi_100) (inl0)) f fn h |>.1
theorem s_s_l05ReadShort (k : Nat) : MGood Try.prog 100 (sp_s_l05ReadShort k) ∧ Enters Try.prog 100 := ⟨mgood_run (o_s_l05ReadShort k) mixed (n_s_l05ReadShort k) (d := k) [.box yL05Cur] [.str] [] (fun x => s_l05ReadShort k x.1) (fun x => r_s_l05ReadShort k x.1), (fi_100).2⟩
theorem o_s_l09Levels (k : Nat) : Ok Try.prog (c_s_l09Levels k) := ok_of (map0) (ptr0) (eq0) (tab1 (ty_3) (tab1 (ty_22) (tab0))) (inl1 (fi_219) (inl0)) (spec1 (s_s_l01In k) (spec0)) (mspec0)
theorem n_s_l09Levels (k : Nat) : ∀ f fn, look (c_s_l09Levels k).inl f = some fn → Try.prog.funcs[f]? = some fn := fun f fn h => (show InlL Try.prog (c_s_l09Levels k).inl from inl1 (fi_219) (inl0)) f fn h |>.1
theorem s_s_l09Levels (k : Nat) : SpecGood Try.prog 219 (sp_s_l09Levels k) ∧ Enters Try.prog 219 := ⟨specGood_run (o_s_l09Levels k) mixed (n_s_l09Levels k) (d := k) [(.slice 3 (.int .i64))] [.bool] [] (fun x => s_l09Levels k x.1) (fun x => r_s_l09Levels k x.1), (fi_219).2⟩
theorem o_s_l09Body (k : Nat) : Ok Try.prog (c_s_l09Body k) := ok_of (map0) (ptr0) (eq0) (tab1 (ty_3) (tab1 (ty_9) (tab1 (ty_22) (tab1 (ty_24) (tab0))))) (inl1 (fi_127) (inl0)) (spec1 (s_s_l01In k) (spec1 (s_s_l09Levels k) (spec0))) (mspec0)
theorem n_s_l09Body (k : Nat) : ∀ f fn, look (c_s_l09Body k).inl f = some fn → Try.prog.funcs[f]? = some fn := fun f fn h => (show InlL Try.prog (c_s_l09Body k).inl from inl1 (fi_127) (inl0)) f fn h |>.1
theorem s_s_l09Body (k : Nat) : SpecGood Try.prog 127 (sp_s_l09Body k) ∧ Enters Try.prog 127 := ⟨specGood_run (o_s_l09Body k) mixed (n_s_l09Body k) (d := k) [yEvent] [.bool] [] (fun x => s_l09Body k x.1) (fun x => r_s_l09Body k x.1), (fi_127).2⟩
theorem o_s_EventOk (k : Nat) : Ok Try.prog (c_s_EventOk k) := ok_of (map0) (ptr0) (eq0) (tab1 (ty_3) (tab1 (ty_4) (tab1 (ty_22) (tab1 (ty_24) (tab0))))) (inl1 (fi_29) (inl0)) (spec1 (s_s_l09Body k) (spec1 (s_s_l01In k) (spec0))) (mspec0)
theorem n_s_EventOk (k : Nat) : ∀ f fn, look (c_s_EventOk k).inl f = some fn → Try.prog.funcs[f]? = some fn := fun f fn h => (show InlL Try.prog (c_s_EventOk k).inl from inl1 (fi_29) (inl0)) f fn h |>.1
theorem s_s_EventOk (k : Nat) : SpecGood Try.prog 29 (sp_s_EventOk k) ∧ Enters Try.prog 29 := ⟨specGood_run (o_s_EventOk k) mixed (n_s_EventOk k) (d := k) [yEvent] [.bool] [] (fun x => s_EventOk k x.1) (fun x => r_s_EventOk k x.1), (fi_29).2⟩
theorem o_s_l09Byte (k : Nat) : Ok Try.prog (c_s_l09Byte k) := ok_of (map0) (ptr0) (eq0) (tab1 (ty_3) (tab1 (ty_5) (tab1 (ty_9) (tab1 (ty_53) (tab0))))) (inl1 (fi_192) (inl0)) (spec0) (mspec0)
theorem n_s_l09Byte (k : Nat) : ∀ f fn, look (c_s_l09Byte k).inl f = some fn → Try.prog.funcs[f]? = some fn := fun f fn h => (show InlL Try.prog (c_s_l09Byte k).inl from inl1 (fi_192) (inl0)) f fn h |>.1
theorem s_s_l09Byte (k : Nat) : SpecGood Try.prog 192 (sp_s_l09Byte k) ∧ Enters Try.prog 192 := ⟨specGood_run (o_s_l09Byte k) mixed (n_s_l09Byte k) (d := k) [(.int .i64)] [.str] [] (fun x => s_l09Byte k x.1) (fun x => r_s_l09Byte k x.1), (fi_192).2⟩
theorem o_s_l05Short (k : Nat) : Ok Try.prog (c_s_l05Short k) := ok_of (map0) (ptr0) (eq0) (tab1 (ty_9) (tab0)) (inl1 (fi_194) (inl0)) (spec1 (s_s_l01Var k) (spec0)) (mspec0)
theorem n_s_l05Short (k : Nat) : ∀ f fn, look (c_s_l05Short k).inl f = some fn → Try.prog.funcs[f]? = some fn := fun f fn h => (show InlL Try.prog (c_s_l05Short k).inl from inl1 (fi_194) (inl0)) f fn h |>.1
theorem s_s_l05Short (k : Nat) : SpecGood Try.prog 194 (sp_s_l05Short k) ∧ Enters Try.prog 194 := ⟨specGood_run (o_s_l05Short k) mixed (n_s_l05Short k) (d := k) [.str] [.str] [] (fun x => s_l05Short k x.1) (fun x => r_s_l05Short k x.1), (fi_194).2⟩
theorem o_s_l09BodyText (k : Nat) : Ok Try.prog (c_s_l09BodyText k) := ok_of (map0) (ptr0) (eq0) (tab1 (ty_3) (tab1 (ty_9) (tab1 (ty_22) (tab1 (ty_24) (tab0))))) (inl1 (fi_193) (inl0)) (spec1 (s_s_l01Var k) (spec1 (s_s_l09Byte k) (spec1 (s_s_l05Short k) (spec0)))) (mspec0)
theorem n_s_l09BodyText (k : Nat) : ∀ f fn, look (c_s_l09BodyText k).inl f = some fn → Try.prog.funcs[f]? = some fn := fun f fn h => (show InlL Try.prog (c_s_l09BodyText k).inl from inl1 (fi_193) (inl0)) f fn h |>.1
theorem s_s_l09BodyText (k : Nat) : SpecGood Try.prog 193 (sp_s_l09BodyText k) ∧ Enters Try.prog 193 := ⟨specGood_run (o_s_l09BodyText k) mixed (n_s_l09BodyText k) (d := k) [yEvent] [.str] [] (fun x => s_l09BodyText k x.1) (fun x => r_s_l09BodyText k x.1), (fi_193).2⟩
theorem o_s_EventText (k : Nat) : Ok Try.prog (c_s_EventText k) := ok_of (map0) (ptr0) (eq0) (tab1 (ty_3) (tab1 (ty_22) (tab1 (ty_24) (tab0)))) (inl1 (fi_132) (inl0)) (spec1 (s_s_EventOk k) (spec1 (s_s_l01Var k) (spec1 (s_s_l09BodyText k) (spec0)))) (mspec0)
theorem n_s_EventText (k : Nat) : ∀ f fn, look (c_s_EventText k).inl f = some fn → Try.prog.funcs[f]? = some fn := fun f fn h => (show InlL Try.prog (c_s_EventText k).inl from inl1 (fi_132) (inl0)) f fn h |>.1
theorem s_s_EventText (k : Nat) : SpecGood Try.prog 132 (sp_s_EventText k) ∧ Enters Try.prog 132 := ⟨specGood_run (o_s_EventText k) mixed (n_s_EventText k) (d := k) [yEvent] [.str, .bool] [] (fun x => s_EventText k x.1) (fun x => r_s_EventText k x.1), (fi_132).2⟩
theorem o_s_ReadEvent (k : Nat) : Ok Try.prog (c_s_ReadEvent k) := ok_of (map0) (ptr0) (eq0) (tab1 (ty_3) (tab1 (ty_4) (tab1 (ty_9) (tab1 (ty_22) (tab1 (ty_24) (tab1 (ty_132) (tab0))))))) (inl1 (fi_33) (inl1 (fi_99) (inl0))) (spec1 (s_s_EventText k) (spec0)) (mspec1 (s_s_l09One k) (mspec1 (s_s_l05Var k) (mspec1 (s_s_l05ReadShort k) (mspec0))))
theorem n_s_ReadEvent (k : Nat) : ∀ f fn, look (c_s_ReadEvent k).inl f = some fn → Try.prog.funcs[f]? = some fn := fun f fn h => (show InlL Try.prog (c_s_ReadEvent k).inl from inl1 (fi_33) (inl1 (fi_99) (inl0))) f fn h |>.1
theorem s_s_ReadEvent (k : Nat) : SpecGood Try.prog 33 (sp_s_ReadEvent k) ∧ Enters Try.prog 33 := ⟨specGood_run (o_s_ReadEvent k) mixed (n_s_ReadEvent k) (d := k) [.str] [yEvent, .bool] [true, true] (fun x => s_ReadEvent k x.1) (fun x => r_s_ReadEvent k x.1), (fi_33).2⟩
theorem o_s_l05SameInts (k : Nat) : Ok Try.prog (c_s_l05SameInts k) := ok_of (map0) (ptr0) (eq0) (tab1 (ty_3) (tab1 (ty_22) (tab0))) (inl1 (fi_111) (inl0)) (spec0) (mspec0)
theorem n_s_l05SameInts (k : Nat) : ∀ f fn, look (c_s_l05SameInts k).inl f = some fn → Try.prog.funcs[f]? = some fn := fun f fn h => (show InlL Try.prog (c_s_l05SameInts k).inl from inl1 (fi_111) (inl0)) f fn h |>.1
theorem s_s_l05SameInts (k : Nat) : SpecGood Try.prog 111 (sp_s_l05SameInts k) ∧ Enters Try.prog 111 := ⟨specGood_run (o_s_l05SameInts k) mixed (n_s_l05SameInts k) (d := k) [(.slice 3 (.int .i64)), (.slice 3 (.int .i64))] [.bool] [] (fun x => s_l05SameInts k x.1 x.2.1) (fun x => r_s_l05SameInts k x.1 x.2.1), (fi_111).2⟩
theorem o_s_l09Same (k : Nat) : Ok Try.prog (c_s_l09Same k) := ok_of (map0) (ptr0) (eq0) (tab1 (ty_3) (tab1 (ty_9) (tab1 (ty_22) (tab1 (ty_24) (tab0))))) (inl1 (fi_202) (inl0)) (spec1 (s_s_l05SameInts k) (spec0)) (mspec0)
theorem n_s_l09Same (k : Nat) : ∀ f fn, look (c_s_l09Same k).inl f = some fn → Try.prog.funcs[f]? = some fn := fun f fn h => (show InlL Try.prog (c_s_l09Same k).inl from inl1 (fi_202) (inl0)) f fn h |>.1
theorem s_s_l09Same (k : Nat) : SpecGood Try.prog 202 (sp_s_l09Same k) ∧ Enters Try.prog 202 := ⟨specGood_run (o_s_l09Same k) mixed (n_s_l09Same k) (d := k) [yEvent, yEvent] [.bool] [] (fun x => s_l09Same k x.1 x.2.1) (fun x => r_s_l09Same k x.1 x.2.1), (fi_202).2⟩
theorem o_s_l13Blank (k : Nat) : Ok Try.prog (c_s_l13Blank k) := ok_of (map0) (ptr0) (eq0) (tab1 (ty_24) (tab0)) (inl1 (fi_237) (inl0)) (spec1 (s_s_l09Same k) (spec0)) (mspec0)
theorem n_s_l13Blank (k : Nat) : ∀ f fn, look (c_s_l13Blank k).inl f = some fn → Try.prog.funcs[f]? = some fn := fun f fn h => (show InlL Try.prog (c_s_l13Blank k).inl from inl1 (fi_237) (inl0)) f fn h |>.1
theorem s_s_l13Blank (k : Nat) : SpecGood Try.prog 237 (sp_s_l13Blank k) ∧ Enters Try.prog 237 := ⟨specGood_run (o_s_l13Blank k) mixed (n_s_l13Blank k) (d := k) [yEvent] [.bool] [] (fun x => s_l13Blank k x.1) (fun x => r_s_l13Blank k x.1), (fi_237).2⟩
theorem o_s_CommandOk (k : Nat) : Ok Try.prog (c_s_CommandOk k) := ok_of (map0) (ptr0) (eq0) (tab1 (ty_3) (tab1 (ty_22) (tab1 (ty_24) (tab1 (ty_26) (tab0))))) (inl1 (fi_191) (inl0)) (spec1 (s_s_EventOk k) (spec1 (s_s_l09Body k) (spec1 (s_s_l01In k) (spec1 (s_s_l13Blank k) (spec0))))) (mspec0)
theorem n_s_CommandOk (k : Nat) : ∀ f fn, look (c_s_CommandOk k).inl f = some fn → Try.prog.funcs[f]? = some fn := fun f fn h => (show InlL Try.prog (c_s_CommandOk k).inl from inl1 (fi_191) (inl0)) f fn h |>.1
theorem s_s_CommandOk (k : Nat) : SpecGood Try.prog 191 (sp_s_CommandOk k) ∧ Enters Try.prog 191 := ⟨specGood_run (o_s_CommandOk k) mixed (n_s_CommandOk k) (d := k) [yCommand] [.bool] [] (fun x => s_CommandOk k x.1) (fun x => r_s_CommandOk k x.1), (fi_191).2⟩
theorem o_s_CommandText (k : Nat) : Ok Try.prog (c_s_CommandText k) := ok_of (map0) (ptr0) (eq0) (tab1 (ty_3) (tab1 (ty_24) (tab1 (ty_26) (tab0)))) (inl1 (fi_101) (inl0)) (spec1 (s_s_EventText k) (spec1 (s_s_l01Var k) (spec1 (s_s_CommandOk k) (spec1 (s_s_l09Byte k) (spec1 (s_s_l09BodyText k) (spec1 (s_s_l05Short k) (spec0))))))) (mspec0)
theorem n_s_CommandText (k : Nat) : ∀ f fn, look (c_s_CommandText k).inl f = some fn → Try.prog.funcs[f]? = some fn := fun f fn h => (show InlL Try.prog (c_s_CommandText k).inl from inl1 (fi_101) (inl0)) f fn h |>.1
theorem s_s_CommandText (k : Nat) : SpecGood Try.prog 101 (sp_s_CommandText k) ∧ Enters Try.prog 101 := ⟨specGood_run (o_s_CommandText k) mixed (n_s_CommandText k) (d := k) [yCommand] [.str, .bool] [] (fun x => s_CommandText k x.1) (fun x => r_s_CommandText k x.1), (fi_101).2⟩
theorem o_s_ReadCommand (k : Nat) : Ok Try.prog (c_s_ReadCommand k) := ok_of (map0) (ptr0) (eq0) (tab1 (ty_3) (tab1 (ty_4) (tab1 (ty_9) (tab1 (ty_22) (tab1 (ty_24) (tab1 (ty_26) (tab1 (ty_132) (tab0)))))))) (inl1 (fi_15) (inl1 (fi_99) (inl0))) (spec1 (s_s_ReadEvent k) (spec1 (s_s_CommandText k) (spec0))) (mspec1 (s_s_l09One k) (mspec1 (s_s_l05Var k) (mspec1 (s_s_l05ReadShort k) (mspec0))))
theorem n_s_ReadCommand (k : Nat) : ∀ f fn, look (c_s_ReadCommand k).inl f = some fn → Try.prog.funcs[f]? = some fn := fun f fn h => (show InlL Try.prog (c_s_ReadCommand k).inl from inl1 (fi_15) (inl1 (fi_99) (inl0))) f fn h |>.1
theorem s_s_ReadCommand (k : Nat) : SpecGood Try.prog 15 (sp_s_ReadCommand k) ∧ Enters Try.prog 15 := ⟨specGood_run (o_s_ReadCommand k) mixed (n_s_ReadCommand k) (d := k) [.str] [yCommand, .bool] [true, true] (fun x => s_ReadCommand k x.1) (fun x => r_s_ReadCommand k x.1), (fi_15).2⟩
theorem o_i_within (k : Nat) : Ok Try.prog (c_i_within k) := ok_of (map0) (ptr0) (eq0) (tab0) (inl1 (fi_129) (inl0)) (spec0) (mspec0)
theorem n_i_within (k : Nat) : ∀ f fn, look (c_i_within k).inl f = some fn → Try.prog.funcs[f]? = some fn := fun f fn h => (show InlL Try.prog (c_i_within k).inl from inl1 (fi_129) (inl0)) f fn h |>.1
theorem s_i_within (k : Nat) : SpecGood Try.prog 129 (sp_i_within k) ∧ Enters Try.prog 129 := ⟨specGood_run (o_i_within k) mixed (n_i_within k) (d := k) [(.int .i64), (.int .i64), (.int .i64)] [.bool] [] (fun x => i_within k x.1 x.2.1 x.2.2.1) (fun x => r_i_within k x.1 x.2.1 x.2.2.1), (fi_129).2⟩
theorem o_i_levelsOk (k : Nat) : Ok Try.prog (c_i_levelsOk k) := ok_of (map0) (ptr0) (eq0) (tab1 (ty_3) (tab1 (ty_22) (tab1 (ty_24) (tab0)))) (inl1 (fi_130) (inl0)) (spec1 (s_i_within k) (spec0)) (mspec0)
theorem n_i_levelsOk (k : Nat) : ∀ f fn, look (c_i_levelsOk k).inl f = some fn → Try.prog.funcs[f]? = some fn := fun f fn h => (show InlL Try.prog (c_i_levelsOk k).inl from inl1 (fi_130) (inl0)) f fn h |>.1
theorem s_i_levelsOk (k : Nat) : SpecGood Try.prog 130 (sp_i_levelsOk k) ∧ Enters Try.prog 130 := ⟨specGood_run (o_i_levelsOk k) mixed (n_i_levelsOk k) (d := k) [yEvent] [.bool] [] (fun x => i_levelsOk k x.1) (fun x => r_i_levelsOk k x.1), (fi_130).2⟩
theorem o_i_prevOk (k : Nat) : Ok Try.prog (c_i_prevOk k) := ok_of (map0) (ptr0) (eq0) (tab1 (ty_3) (tab1 (ty_4) (tab1 (ty_22) (tab1 (ty_24) (tab0))))) (inl1 (fi_131) (inl0)) (spec1 (s_i_within k) (spec0)) (mspec0)
theorem n_i_prevOk (k : Nat) : ∀ f fn, look (c_i_prevOk k).inl f = some fn → Try.prog.funcs[f]? = some fn := fun f fn h => (show InlL Try.prog (c_i_prevOk k).inl from inl1 (fi_131) (inl0)) f fn h |>.1
theorem s_i_prevOk (k : Nat) : SpecGood Try.prog 131 (sp_i_prevOk k) ∧ Enters Try.prog 131 := ⟨specGood_run (o_i_prevOk k) mixed (n_i_prevOk k) (d := k) [yEvent] [.bool] [] (fun x => i_prevOk k x.1) (fun x => r_i_prevOk k x.1), (fi_131).2⟩
theorem o_i_EventOk (k : Nat) : Ok Try.prog (c_i_EventOk k) := ok_of (map0) (ptr0) (eq0) (tab1 (ty_3) (tab1 (ty_9) (tab1 (ty_24) (tab0)))) (inl1 (fi_30) (inl0)) (spec1 (s_i_within k) (spec1 (s_i_levelsOk k) (spec1 (s_i_prevOk k) (spec0)))) (mspec0)
theorem n_i_EventOk (k : Nat) : ∀ f fn, look (c_i_EventOk k).inl f = some fn → Try.prog.funcs[f]? = some fn := fun f fn h => (show InlL Try.prog (c_i_EventOk k).inl from inl1 (fi_30) (inl0)) f fn h |>.1
theorem s_i_EventOk (k : Nat) : SpecGood Try.prog 30 (sp_i_EventOk k) ∧ Enters Try.prog 30 := ⟨specGood_run (o_i_EventOk k) mixed (n_i_EventOk k) (d := k) [yEvent] [.bool] [] (fun x => i_EventOk k x.1) (fun x => r_i_EventOk k x.1), (fi_30).2⟩
theorem o_i_VarText (k : Nat) : Ok Try.prog (c_i_VarText k) := ok_of (map0) (ptr0) (eq0) (tab1 (ty_3) (tab1 (ty_5) (tab1 (ty_9) (tab1 (ty_53) (tab0))))) (inl1 (fi_122) (inl0)) (spec1 (s_i_within k) (spec0)) (mspec0)
theorem n_i_VarText (k : Nat) : ∀ f fn, look (c_i_VarText k).inl f = some fn → Try.prog.funcs[f]? = some fn := fun f fn h => (show InlL Try.prog (c_i_VarText k).inl from inl1 (fi_122) (inl0)) f fn h |>.1
theorem s_i_VarText (k : Nat) : SpecGood Try.prog 122 (sp_i_VarText k) ∧ Enters Try.prog 122 := ⟨specGood_run (o_i_VarText k) mixed (n_i_VarText k) (d := k) [(.int .i64)] [.str, .bool] [] (fun x => i_VarText k x.1) (fun x => r_i_VarText k x.1), (fi_122).2⟩
theorem o_i_ReadVar (k : Nat) : Ok Try.prog (c_i_ReadVar k) := ok_of (map0) (ptr0) (eq0) (tab1 (ty_3) (tab1 (ty_5) (tab1 (ty_9) (tab0)))) (inl1 (fi_195) (inl0)) (spec1 (s_i_VarText k) (spec1 (s_i_within k) (spec0))) (mspec0)
theorem n_i_ReadVar (k : Nat) : ∀ f fn, look (c_i_ReadVar k).inl f = some fn → Try.prog.funcs[f]? = some fn := fun f fn h => (show InlL Try.prog (c_i_ReadVar k).inl from inl1 (fi_195) (inl0)) f fn h |>.1
theorem s_i_ReadVar (k : Nat) : SpecGood Try.prog 195 (sp_i_ReadVar k) ∧ Enters Try.prog 195 := ⟨specGood_run (o_i_ReadVar k) mixed (n_i_ReadVar k) (d := k) [.str, (.int .i64)] [(.int .i64), (.int .i64), .bool] [] (fun x => i_ReadVar k x.1 x.2.1) (fun x => r_i_ReadVar k x.1 x.2.1), (fi_195).2⟩
theorem o_i_reader_num (k : Nat) : Ok Try.prog (c_i_reader_num k) := ok_of (map0) (ptr0) (eq0) (tab1 (ty_3) (tab1 (ty_4) (tab1 (ty_9) (tab1 (ty_140) (tab0))))) (inl1 (fi_103) (inl0)) (spec1 (s_i_ReadVar k) (spec0)) (mspec0)
theorem n_i_reader_num (k : Nat) : ∀ f fn, look (c_i_reader_num k).inl f = some fn → Try.prog.funcs[f]? = some fn := fun f fn h => (show InlL Try.prog (c_i_reader_num k).inl from inl1 (fi_103) (inl0)) f fn h |>.1
theorem s_i_reader_num (k : Nat) : MGood Try.prog 103 (sp_i_reader_num k) ∧ Enters Try.prog 103 := ⟨mgood_run (o_i_reader_num k) mixed (n_i_reader_num k) (d := k) [.box yL05Cur] [(.int .i64)] [] (fun x => i_reader_num k x.1) (fun x => r_i_reader_num k x.1), (fi_103).2⟩
theorem o_i_reader_byte (k : Nat) : Ok Try.prog (c_i_reader_byte k) := ok_of (map0) (ptr0) (eq0) (tab1 (ty_3) (tab1 (ty_4) (tab1 (ty_5) (tab1 (ty_9) (tab1 (ty_140) (tab0)))))) (inl1 (fi_102) (inl0)) (spec0) (mspec0)
theorem n_i_reader_byte (k : Nat) : ∀ f fn, look (c_i_reader_byte k).inl f = some fn → Try.prog.funcs[f]? = some fn := fun f fn h => (show InlL Try.prog (c_i_reader_byte k).inl from inl1 (fi_102) (inl0)) f fn h |>.1
theorem s_i_reader_byte (k : Nat) : MGood Try.prog 102 (sp_i_reader_byte k) ∧ Enters Try.prog 102 := ⟨mgood_run (o_i_reader_byte k) mixed (n_i_reader_byte k) (d := k) [.box yL05Cur] [(.int .i64)] [] (fun x => i_reader_byte k x.1) (fun x => r_i_reader_byte k x.1), (fi_102).2⟩
theorem o_i_ReadShort (k : Nat) : Ok Try.prog (c_i_ReadShort k) := ok_of (map0) (ptr0) (eq0) (tab1 (ty_9) (tab0)) (inl1 (fi_197) (inl0)) (spec1 (s_i_ReadVar k) (spec0)) (mspec0)
theorem n_i_ReadShort (k : Nat) : ∀ f fn, look (c_i_ReadShort k).inl f = some fn → Try.prog.funcs[f]? = some fn := fun f fn h => (show InlL Try.prog (c_i_ReadShort k).inl from inl1 (fi_197) (inl0)) f fn h |>.1
theorem s_i_ReadShort (k : Nat) : SpecGood Try.prog 197 (sp_i_ReadShort k) ∧ Enters Try.prog 197 := ⟨specGood_run (o_i_ReadShort k) mixed (n_i_ReadShort k) (d := k) [.str, (.int .i64)] [.str, (.int .i64), .bool] [] (fun x => i_ReadShort k x.1 x.2.1) (fun x => r_i_ReadShort k x.1 x.2.1), (fi_197).2⟩
theorem o_i_reader_text (k : Nat) : Ok Try.prog (c_i_reader_text k) := ok_of (map0) (ptr0) (eq0) (tab1 (ty_3) (tab1 (ty_4) (tab1 (ty_9) (tab1 (ty_140) (tab0))))) (inl1 (fi_105) (inl0)) (spec1 (s_i_ReadShort k) (spec0)) (mspec0)
theorem n_i_reader_text (k : Nat) : ∀ f fn, look (c_i_reader_text k).inl f = some fn → Try.prog.funcs[f]? = some fn := fun f fn h => (show InlL Try.prog (c_i_reader_text k).inl from inl1 (fi_105) (inl0)) f fn h |>.1
theorem s_i_reader_text (k : Nat) : MGood Try.prog 105 (sp_i_reader_text k) ∧ Enters Try.prog 105 := ⟨mgood_run (o_i_reader_text k) mixed (n_i_reader_text k) (d := k) [.box yL05Cur] [.str] [] (fun x => i_reader_text k x.1) (fun x => r_i_reader_text k x.1), (fi_105).2⟩
theorem o_i_reader_main (k : Nat) : Ok Try.prog (c_i_reader_main k) := ok_of (map0) (ptr1 (pt_138) (ptr0)) (eq0) (tab1 (ty_4) (tab1 (ty_9) (tab1 (ty_22) (tab1 (ty_24) (tab1 (ty_140) (tab0)))))) (inl1 (fi_104) (inl1 (fi_125) (inl1 (fi_196) (inl0)))) (spec0) (mspec1 (s_i_reader_byte k) (mspec1 (s_i_reader_num k) (mspec1 (s_i_reader_text k) (mspec0))))
theorem n_i_reader_main (k : Nat) : ∀ f fn, look (c_i_reader_main k).inl f = some fn → Try.prog.funcs[f]? = some fn := fun f fn h => (show InlL Try.prog (c_i_reader_main k).inl from inl1 (fi_104) (inl1 (fi_125) (inl1 (fi_196) (inl0)))) f fn h |>.1
theorem s_i_reader_main (k : Nat) : MGood Try.prog 104 (sp_i_reader_main k) ∧ Enters Try.prog 104 := ⟨mgood_run (o_i_reader_main k) mixed (n_i_reader_main k) (d := k) [.box yL05Cur] [yEvent] [true, true] (fun x => i_reader_main k x.1) (fun x => r_i_reader_main k x.1), (fi_104).2⟩
theorem o_i_reader_done (k : Nat) : Ok Try.prog (c_i_reader_done k) := ok_of (map0) (ptr0) (eq0) (tab1 (ty_3) (tab1 (ty_4) (tab1 (ty_9) (tab1 (ty_140) (tab0))))) (inl1 (fi_106) (inl0)) (spec0) (mspec0)
theorem n_i_reader_done (k : Nat) : ∀ f fn, look (c_i_reader_done k).inl f = some fn → Try.prog.funcs[f]? = some fn := fun f fn h => (show InlL Try.prog (c_i_reader_done k).inl from inl1 (fi_106) (inl0)) f fn h |>.1
theorem s_i_reader_done (k : Nat) : MGood Try.prog 106 (sp_i_reader_done k) ∧ Enters Try.prog 106 := ⟨mgood_run (o_i_reader_done k) mixed (n_i_reader_done k) (d := k) [.box yL05Cur] [.bool] [] (fun x => i_reader_done k x.1) (fun x => r_i_reader_done k x.1), (fi_106).2⟩
theorem o_i_ReadEvent (k : Nat) : Ok Try.prog (c_i_ReadEvent k) := ok_of (map0) (ptr1 (pt_138) (ptr0)) (eq0) (tab1 (ty_3) (tab1 (ty_4) (tab1 (ty_22) (tab1 (ty_24) (tab1 (ty_140) (tab0)))))) (inl1 (fi_28) (inl1 (fi_125) (inl1 (fi_126) (inl0)))) (spec1 (s_i_EventOk k) (spec0)) (mspec1 (s_i_reader_num k) (mspec1 (s_i_reader_main k) (mspec1 (s_i_reader_done k) (mspec0))))
theorem n_i_ReadEvent (k : Nat) : ∀ f fn, look (c_i_ReadEvent k).inl f = some fn → Try.prog.funcs[f]? = some fn := fun f fn h => (show InlL Try.prog (c_i_ReadEvent k).inl from inl1 (fi_28) (inl1 (fi_125) (inl1 (fi_126) (inl0)))) f fn h |>.1
theorem s_i_ReadEvent (k : Nat) : SpecGood Try.prog 28 (sp_i_ReadEvent k) ∧ Enters Try.prog 28 := ⟨specGood_run (o_i_ReadEvent k) mixed (n_i_ReadEvent k) (d := k) [.str] [yEvent, .bool] [true, true] (fun x => i_ReadEvent k x.1) (fun x => r_i_ReadEvent k x.1), (fi_28).2⟩
theorem o_slices_Equal_int_int (k : Nat) : Ok Try.prog (c_slices_Equal_int_int k) := ok_of (map0) (ptr0) (eq0) (tab1 (ty_3) (tab1 (ty_22) (tab0))) (inl1 (fi_211) (inl0)) (spec0) (mspec0)
theorem n_slices_Equal_int_int (k : Nat) : ∀ f fn, look (c_slices_Equal_int_int k).inl f = some fn → Try.prog.funcs[f]? = some fn := fun f fn h => (show InlL Try.prog (c_slices_Equal_int_int k).inl from inl1 (fi_211) (inl0)) f fn h |>.1
theorem s_slices_Equal_int_int (k : Nat) : SpecGood Try.prog 211 (sp_slices_Equal_int_int k) ∧ Enters Try.prog 211 := ⟨specGood_run (o_slices_Equal_int_int k) mixed (n_slices_Equal_int_int k) (d := k) [(.slice 3 (.int .i64)), (.slice 3 (.int .i64))] [.bool] [] (fun x => slices_Equal_int_int k x.1 x.2.1) (fun x => r_slices_Equal_int_int k x.1 x.2.1), (fi_211).2⟩
theorem o_i_sameEvent (k : Nat) : Ok Try.prog (c_i_sameEvent k) := ok_of (map0) (ptr0) (eq0) (tab1 (ty_3) (tab1 (ty_9) (tab1 (ty_22) (tab1 (ty_24) (tab0))))) (inl1 (fi_198) (inl0)) (spec1 (s_slices_Equal_int_int k) (spec0)) (mspec0)
theorem n_i_sameEvent (k : Nat) : ∀ f fn, look (c_i_sameEvent k).inl f = some fn → Try.prog.funcs[f]? = some fn := fun f fn h => (show InlL Try.prog (c_i_sameEvent k).inl from inl1 (fi_198) (inl0)) f fn h |>.1
theorem s_i_sameEvent (k : Nat) : SpecGood Try.prog 198 (sp_i_sameEvent k) ∧ Enters Try.prog 198 := ⟨specGood_run (o_i_sameEvent k) mixed (n_i_sameEvent k) (d := k) [yEvent, yEvent] [.bool] [] (fun x => i_sameEvent k x.1 x.2.1) (fun x => r_i_sameEvent k x.1 x.2.1), (fi_198).2⟩
theorem o_i_sentOk (k : Nat) : Ok Try.prog (c_i_sentOk k) := ok_of (map0) (ptr0) (eq0) (tab1 (ty_3) (tab1 (ty_22) (tab1 (ty_24) (tab0)))) (inl1 (fi_199) (inl0)) (spec1 (s_i_EventOk k) (spec0)) (mspec0)
theorem n_i_sentOk (k : Nat) : ∀ f fn, look (c_i_sentOk k).inl f = some fn → Try.prog.funcs[f]? = some fn := fun f fn h => (show InlL Try.prog (c_i_sentOk k).inl from inl1 (fi_199) (inl0)) f fn h |>.1
theorem s_i_sentOk (k : Nat) : SpecGood Try.prog 199 (sp_i_sentOk k) ∧ Enters Try.prog 199 := ⟨specGood_run (o_i_sentOk k) mixed (n_i_sentOk k) (d := k) [yEvent] [.bool] [] (fun x => i_sentOk k x.1) (fun x => r_i_sentOk k x.1), (fi_199).2⟩
theorem o_i_CommandOk (k : Nat) : Ok Try.prog (c_i_CommandOk k) := ok_of (map0) (ptr0) (eq0) (tab1 (ty_3) (tab1 (ty_24) (tab1 (ty_26) (tab0)))) (inl1 (fi_107) (inl0)) (spec1 (s_i_EventOk k) (spec1 (s_i_within k) (spec1 (s_i_sameEvent k) (spec1 (s_i_sentOk k) (spec0))))) (mspec0)
theorem n_i_CommandOk (k : Nat) : ∀ f fn, look (c_i_CommandOk k).inl f = some fn → Try.prog.funcs[f]? = some fn := fun f fn h => (show InlL Try.prog (c_i_CommandOk k).inl from inl1 (fi_107) (inl0)) f fn h |>.1
theorem s_i_CommandOk (k : Nat) : SpecGood Try.prog 107 (sp_i_CommandOk k) ∧ Enters Try.prog 107 := ⟨specGood_run (o_i_CommandOk k) mixed (n_i_CommandOk k) (d := k) [yCommand] [.bool] [] (fun x => i_CommandOk k x.1) (fun x => r_i_CommandOk k x.1), (fi_107).2⟩
theorem o_i_ReadCommand (k : Nat) : Ok Try.prog (c_i_ReadCommand k) := ok_of (map0) (ptr0) (eq0) (tab1 (ty_3) (tab1 (ty_4) (tab1 (ty_24) (tab1 (ty_26) (tab1 (ty_140) (tab0)))))) (inl1 (fi_16) (inl0)) (spec1 (s_i_ReadEvent k) (spec1 (s_i_CommandOk k) (spec0))) (mspec1 (s_i_reader_byte k) (mspec1 (s_i_reader_num k) (mspec1 (s_i_reader_main k) (mspec1 (s_i_reader_text k) (mspec1 (s_i_reader_done k) (mspec0))))))
theorem n_i_ReadCommand (k : Nat) : ∀ f fn, look (c_i_ReadCommand k).inl f = some fn → Try.prog.funcs[f]? = some fn := fun f fn h => (show InlL Try.prog (c_i_ReadCommand k).inl from inl1 (fi_16) (inl0)) f fn h |>.1
theorem s_i_ReadCommand (k : Nat) : SpecGood Try.prog 16 (sp_i_ReadCommand k) ∧ Enters Try.prog 16 := ⟨specGood_run (o_i_ReadCommand k) mixed (n_i_ReadCommand k) (d := k) [.str] [yCommand, .bool] [true, true] (fun x => i_ReadCommand k x.1) (fun x => r_i_ReadCommand k x.1), (fi_16).2⟩
theorem o_l_eqIntS (k : Nat) : Ok Try.prog (c_l_eqIntS k) := ok_of (map0) (ptr0) (eq0) (tab1 (ty_3) (tab1 (ty_22) (tab0))) (inl1 (fi_57) (inl0)) (spec0) (mspec0)
theorem n_l_eqIntS (k : Nat) : ∀ f fn, look (c_l_eqIntS k).inl f = some fn → Try.prog.funcs[f]? = some fn := fun f fn h => (show InlL Try.prog (c_l_eqIntS k).inl from inl1 (fi_57) (inl0)) f fn h |>.1
theorem s_l_eqIntS (k : Nat) : SpecGood Try.prog 57 (sp_l_eqIntS k) ∧ Enters Try.prog 57 := ⟨specGood_run (o_l_eqIntS k) mixed (n_l_eqIntS k) (d := k) [(.slice 3 (.int .i64)), (.slice 3 (.int .i64))] [.bool] [] (fun x => l_eqIntS k x.1 x.2.1) (fun x => r_l_eqIntS k x.1 x.2.1), (fi_57).2⟩
theorem o_l_eqEvent (k : Nat) : Ok Try.prog (c_l_eqEvent k) := ok_of (map0) (ptr0) (eq0) (tab1 (ty_3) (tab1 (ty_9) (tab1 (ty_22) (tab1 (ty_24) (tab0))))) (inl1 (fi_69) (inl0)) (spec1 (s_l_eqIntS k) (spec0)) (mspec0)
theorem n_l_eqEvent (k : Nat) : ∀ f fn, look (c_l_eqEvent k).inl f = some fn → Try.prog.funcs[f]? = some fn := fun f fn h => (show InlL Try.prog (c_l_eqEvent k).inl from inl1 (fi_69) (inl0)) f fn h |>.1
theorem s_l_eqEvent (k : Nat) : SpecGood Try.prog 69 (sp_l_eqEvent k) ∧ Enters Try.prog 69 := ⟨specGood_run (o_l_eqEvent k) mixed (n_l_eqEvent k) (d := k) [yEvent, yEvent] [.bool] [] (fun x => l_eqEvent k x.1 x.2.1) (fun x => r_l_eqEvent k x.1 x.2.1), (fi_69).2⟩
theorem o_l_eqCommand (k : Nat) : Ok Try.prog (c_l_eqCommand k) := ok_of (map0) (ptr0) (eq0) (tab1 (ty_3) (tab1 (ty_24) (tab1 (ty_26) (tab0)))) (inl1 (fi_17) (inl0)) (spec1 (s_l_eqEvent k) (spec0)) (mspec0)
theorem n_l_eqCommand (k : Nat) : ∀ f fn, look (c_l_eqCommand k).inl f = some fn → Try.prog.funcs[f]? = some fn := fun f fn h => (show InlL Try.prog (c_l_eqCommand k).inl from inl1 (fi_17) (inl0)) f fn h |>.1
theorem s_l_eqCommand (k : Nat) : SpecGood Try.prog 17 (sp_l_eqCommand k) ∧ Enters Try.prog 17 := ⟨specGood_run (o_l_eqCommand k) mixed (n_l_eqCommand k) (d := k) [yCommand, yCommand] [.bool] [] (fun x => l_eqCommand k x.1 x.2.1) (fun x => r_l_eqCommand k x.1 x.2.1), (fi_17).2⟩
theorem o_l_heldIntS (k : Nat) : Ok Try.prog (c_l_heldIntS k) := ok_of (map0) (ptr0) (eq0) (tab1 (ty_3) (tab1 (ty_22) (tab0))) (inl1 (fi_59) (inl0)) (spec0) (mspec0)
theorem n_l_heldIntS (k : Nat) : ∀ f fn, look (c_l_heldIntS k).inl f = some fn → Try.prog.funcs[f]? = some fn := fun f fn h => (show InlL Try.prog (c_l_heldIntS k).inl from inl1 (fi_59) (inl0)) f fn h |>.1
theorem s_l_heldIntS (k : Nat) : SpecGood Try.prog 59 (sp_l_heldIntS k) ∧ Enters Try.prog 59 := ⟨specGood_run (o_l_heldIntS k) mixed (n_l_heldIntS k) (d := k) [(.slice 3 (.int .i64)), (.int .i64)] [(.int .i64)] [] (fun x => l_heldIntS k x.1 x.2.1) (fun x => r_l_heldIntS k x.1 x.2.1), (fi_59).2⟩
theorem o_l_heldEvent (k : Nat) : Ok Try.prog (c_l_heldEvent k) := ok_of (map0) (ptr0) (eq0) (tab1 (ty_22) (tab1 (ty_24) (tab0))) (inl1 (fi_80) (inl0)) (spec1 (s_l_heldIntS k) (spec0)) (mspec0)
theorem n_l_heldEvent (k : Nat) : ∀ f fn, look (c_l_heldEvent k).inl f = some fn → Try.prog.funcs[f]? = some fn := fun f fn h => (show InlL Try.prog (c_l_heldEvent k).inl from inl1 (fi_80) (inl0)) f fn h |>.1
theorem s_l_heldEvent (k : Nat) : SpecGood Try.prog 80 (sp_l_heldEvent k) ∧ Enters Try.prog 80 := ⟨specGood_run (o_l_heldEvent k) mixed (n_l_heldEvent k) (d := k) [yEvent, (.int .i64)] [(.int .i64)] [] (fun x => l_heldEvent k x.1 x.2.1) (fun x => r_l_heldEvent k x.1 x.2.1), (fi_80).2⟩
theorem o_l_heldCommand (k : Nat) : Ok Try.prog (c_l_heldCommand k) := ok_of (map0) (ptr0) (eq0) (tab1 (ty_24) (tab1 (ty_26) (tab0))) (inl1 (fi_19) (inl0)) (spec1 (s_l_heldEvent k) (spec0)) (mspec0)
theorem n_l_heldCommand (k : Nat) : ∀ f fn, look (c_l_heldCommand k).inl f = some fn → Try.prog.funcs[f]? = some fn := fun f fn h => (show InlL Try.prog (c_l_heldCommand k).inl from inl1 (fi_19) (inl0)) f fn h |>.1
theorem s_l_heldCommand (k : Nat) : SpecGood Try.prog 19 (sp_l_heldCommand k) ∧ Enters Try.prog 19 := ⟨specGood_run (o_l_heldCommand k) mixed (n_l_heldCommand k) (d := k) [yCommand, (.int .i64)] [(.int .i64)] [] (fun x => l_heldCommand k x.1 x.2.1) (fun x => r_l_heldCommand k x.1 x.2.1), (fi_19).2⟩
theorem o_l_markIntS (k : Nat) : Ok Try.prog (c_l_markIntS k) := ok_of (map0) (ptr0) (eq0) (tab1 (ty_3) (tab1 (ty_22) (tab0))) (inl1 (fi_58) (inl0)) (spec0) (mspec0)
theorem n_l_markIntS (k : Nat) : ∀ f fn, look (c_l_markIntS k).inl f = some fn → Try.prog.funcs[f]? = some fn := fun f fn h => (show InlL Try.prog (c_l_markIntS k).inl from inl1 (fi_58) (inl0)) f fn h |>.1
theorem s_l_markIntS (k : Nat) : MGood Try.prog 58 (sp_l_markIntS k) ∧ Enters Try.prog 58 := ⟨mgood_run (o_l_markIntS k) mixed (n_l_markIntS k) (d := k) [.row 3 (.int .i64), .imm (.int .i64)] [(.int .i64)] [] (fun x => l_markIntS k x.1 x.2.1) (fun x => r_l_markIntS k x.1 x.2.1), (fi_58).2⟩
theorem o_l_FnExactReadCommand (k : Nat) : Ok Try.prog (c_l_FnExactReadCommand k) := ok_of (map0) (ptr0) (eq0) (tab1 (ty_4) (tab1 (ty_9) (tab1 (ty_22) (tab1 (ty_24) (tab1 (ty_26) (tab0)))))) (inl1 (fi_3) (inl1 (fi_18) (inl1 (fi_71) (inl0)))) (spec1 (s_s_ReadCommand k) (spec1 (s_i_ReadCommand k) (spec1 (s_l_eqCommand k) (spec1 (s_l_heldCommand k) (spec0))))) (mspec1 (s_l_markIntS k) (mspec0))
theorem n_l_FnExactReadCommand (k : Nat) : ∀ f fn, look (c_l_FnExactReadCommand k).inl f = some fn → Try.prog.funcs[f]? = some fn := fun f fn h => (show InlL Try.prog (c_l_FnExactReadCommand k).inl from inl1 (fi_3) (inl1 (fi_18) (inl1 (fi_71) (inl0)))) f fn h |>.1
theorem s_l_FnExactReadCommand (k : Nat) : SpecGood Try.prog 3 (sp_l_FnExactReadCommand k) ∧ Enters Try.prog 3 := ⟨specGood_run (o_l_FnExactReadCommand k) mixed (n_l_FnExactReadCommand k) (d := k) [.str] [.bool] [] (fun x => l_FnExactReadCommand k x.1) (fun x => r_l_FnExactReadCommand k x.1), (fi_3).2⟩
theorem o_l_szItemS (k : Nat) : Ok Try.prog (c_l_szItemS k) := ok_of (map0) (ptr0) (eq0) (tab1 (ty_88) (tab0)) (inl1 (fi_61) (inl0)) (spec0) (mspec0)
theorem n_l_szItemS (k : Nat) : ∀ f fn, look (c_l_szItemS k).inl f = some fn → Try.prog.funcs[f]? = some fn := fun f fn h => (show InlL Try.prog (c_l_szItemS k).inl from inl1 (fi_61) (inl0)) f fn h |>.1
theorem s_l_szItemS (k : Nat) : SpecGood Try.prog 61 (sp_l_szItemS k) ∧ Enters Try.prog 61 := ⟨specGood_run (o_l_szItemS k) mixed (n_l_szItemS k) (d := k) [(.slice 179 yItem), (.int .i64)] [(.int .i64)] [] (fun x => l_szItemS k x.1 x.2.1) (fun x => r_l_szItemS k x.1 x.2.1), (fi_61).2⟩
theorem o_l_szItemSS (k : Nat) : Ok Try.prog (c_l_szItemSS k) := ok_of (map0) (ptr0) (eq0) (tab1 (ty_34) (tab1 (ty_88) (tab0))) (inl1 (fi_46) (inl0)) (spec1 (s_l_szItemS k) (spec0)) (mspec0)
theorem n_l_szItemSS (k : Nat) : ∀ f fn, look (c_l_szItemSS k).inl f = some fn → Try.prog.funcs[f]? = some fn := fun f fn h => (show InlL Try.prog (c_l_szItemSS k).inl from inl1 (fi_46) (inl0)) f fn h |>.1
theorem s_l_szItemSS (k : Nat) : SpecGood Try.prog 46 (sp_l_szItemSS k) ∧ Enters Try.prog 46 := ⟨specGood_run (o_l_szItemSS k) mixed (n_l_szItemSS k) (d := k) [(.slice 88 (.slice 179 yItem)), (.int .i64)] [(.int .i64)] [] (fun x => l_szItemSS k x.1 x.2.1) (fun x => r_l_szItemSS k x.1 x.2.1), (fi_46).2⟩
theorem o_l_szIntS (k : Nat) : Ok Try.prog (c_l_szIntS k) := ok_of (map0) (ptr0) (eq0) (tab1 (ty_22) (tab0)) (inl1 (fi_149) (inl0)) (spec0) (mspec0)
theorem n_l_szIntS (k : Nat) : ∀ f fn, look (c_l_szIntS k).inl f = some fn → Try.prog.funcs[f]? = some fn := fun f fn h => (show InlL Try.prog (c_l_szIntS k).inl from inl1 (fi_149) (inl0)) f fn h |>.1
theorem s_l_szIntS (k : Nat) : SpecGood Try.prog 149 (sp_l_szIntS k) ∧ Enters Try.prog 149 := ⟨specGood_run (o_l_szIntS k) mixed (n_l_szIntS k) (d := k) [(.slice 3 (.int .i64)), (.int .i64)] [(.int .i64)] [] (fun x => l_szIntS k x.1 x.2.1) (fun x => r_l_szIntS k x.1 x.2.1), (fi_149).2⟩
theorem o_l_szEvent (k : Nat) : Ok Try.prog (c_l_szEvent k) := ok_of (map0) (ptr0) (eq0) (tab1 (ty_9) (tab1 (ty_22) (tab1 (ty_89) (tab0)))) (inl1 (fi_62) (inl0)) (spec1 (s_l_szIntS k) (spec0)) (mspec0)
theorem n_l_szEvent (k : Nat) : ∀ f fn, look (c_l_szEvent k).inl f = some fn → Try.prog.funcs[f]? = some fn := fun f fn h => (show InlL Try.prog (c_l_szEvent k).inl from inl1 (fi_62) (inl0)) f fn h |>.1
theorem s_l_szEvent (k : Nat) : SpecGood Try.prog 62 (sp_l_szEvent k) ∧ Enters Try.prog 62 := ⟨specGood_run (o_l_szEvent k) mixed (n_l_szEvent k) (d := k) [yEvent, (.int .i64)] [(.int .i64)] [] (fun x => l_szEvent k x.1 x.2.1) (fun x => r_l_szEvent k x.1 x.2.1), (fi_62).2⟩
theorem o_l_szEventS (k : Nat) : Ok Try.prog (c_l_szEventS k) := ok_of (map0) (ptr0) (eq0) (tab1 (ty_33) (tab1 (ty_89) (tab0))) (inl1 (fi_60) (inl0)) (spec1 (s_l_szEvent k) (spec0)) (mspec0)
theorem n_l_szEventS (k : Nat) : ∀ f fn, look (c_l_szEventS k).inl f = some fn → Try.prog.funcs[f]? = some fn := fun f fn h => (show InlL Try.prog (c_l_szEventS k).inl from inl1 (fi_60) (inl0)) f fn h |>.1
theorem s_l_szEventS (k : Nat) : SpecGood Try.prog 60 (sp_l_szEventS k) ∧ Enters Try.prog 60 := ⟨specGood_run (o_l_szEventS k) mixed (n_l_szEventS k) (d := k) [(.slice 89 yEvent), (.int .i64)] [(.int .i64)] [] (fun x => l_szEventS k x.1 x.2.1) (fun x => r_l_szEventS k x.1 x.2.1), (fi_60).2⟩
theorem o_l_szBoolS (k : Nat) : Ok Try.prog (c_l_szBoolS k) := ok_of (map0) (ptr0) (eq0) (tab1 (ty_35) (tab0)) (inl1 (fi_158) (inl0)) (spec0) (mspec0)
theorem n_l_szBoolS (k : Nat) : ∀ f fn, look (c_l_szBoolS k).inl f = some fn → Try.prog.funcs[f]? = some fn := fun f fn h => (show InlL Try.prog (c_l_szBoolS k).inl from inl1 (fi_158) (inl0)) f fn h |>.1
theorem s_l_szBoolS (k : Nat) : SpecGood Try.prog 158 (sp_l_szBoolS k) ∧ Enters Try.prog 158 := ⟨specGood_run (o_l_szBoolS k) mixed (n_l_szBoolS k) (d := k) [(.slice 4 .bool), (.int .i64)] [(.int .i64)] [] (fun x => l_szBoolS k x.1 x.2.1) (fun x => r_l_szBoolS k x.1 x.2.1), (fi_158).2⟩
theorem o_l_szRoom (k : Nat) : Ok Try.prog (c_l_szRoom k) := ok_of (map0) (ptr0) (eq0) (tab1 (ty_33) (tab1 (ty_34) (tab1 (ty_35) (tab1 (ty_37) (tab0))))) (inl1 (fi_72) (inl0)) (spec1 (s_l_szItemSS k) (spec1 (s_l_szEventS k) (spec1 (s_l_szBoolS k) (spec0)))) (mspec0)
theorem n_l_szRoom (k : Nat) : ∀ f fn, look (c_l_szRoom k).inl f = some fn → Try.prog.funcs[f]? = some fn := fun f fn h => (show InlL Try.prog (c_l_szRoom k).inl from inl1 (fi_72) (inl0)) f fn h |>.1
theorem s_l_szRoom (k : Nat) : SpecGood Try.prog 72 (sp_l_szRoom k) ∧ Enters Try.prog 72 := ⟨specGood_run (o_l_szRoom k) mixed (n_l_szRoom k) (d := k) [yRoom, (.int .i64)] [(.int .i64)] [] (fun x => l_szRoom k x.1 x.2.1) (fun x => r_l_szRoom k x.1 x.2.1), (fi_72).2⟩
theorem o_l_szSession (k : Nat) : Ok Try.prog (c_l_szSession k) := ok_of (map0) (ptr0) (eq0) (tab1 (ty_9) (tab1 (ty_207) (tab0))) (inl1 (fi_200) (inl0)) (spec0) (mspec0)
theorem n_l_szSession (k : Nat) : ∀ f fn, look (c_l_szSession k).inl f = some fn → Try.prog.funcs[f]? = some fn := fun f fn h => (show InlL Try.prog (c_l_szSession k).inl from inl1 (fi_200) (inl0)) f fn h |>.1
theorem s_l_szSession (k : Nat) : SpecGood Try.prog 200 (sp_l_szSession k) ∧ Enters Try.prog 200 := ⟨specGood_run (o_l_szSession k) mixed (n_l_szSession k) (d := k) [ySession, (.int .i64)] [(.int .i64)] [] (fun x => l_szSession k x.1 x.2.1) (fun x => r_l_szSession k x.1 x.2.1), (fi_200).2⟩
theorem o_l_szSessionS (k : Nat) : Ok Try.prog (c_l_szSessionS k) := ok_of (map0) (ptr0) (eq0) (tab1 (ty_32) (tab1 (ty_207) (tab0))) (inl1 (fi_108) (inl0)) (spec1 (s_l_szSession k) (spec0)) (mspec0)
theorem n_l_szSessionS (k : Nat) : ∀ f fn, look (c_l_szSessionS k).inl f = some fn → Try.prog.funcs[f]? = some fn := fun f fn h => (show InlL Try.prog (c_l_szSessionS k).inl from inl1 (fi_108) (inl0)) f fn h |>.1
theorem s_l_szSessionS (k : Nat) : SpecGood Try.prog 108 (sp_l_szSessionS k) ∧ Enters Try.prog 108 := ⟨specGood_run (o_l_szSessionS k) mixed (n_l_szSessionS k) (d := k) [(.slice 207 ySession), (.int .i64)] [(.int .i64)] [] (fun x => l_szSessionS k x.1 x.2.1) (fun x => r_l_szSessionS k x.1 x.2.1), (fi_108).2⟩
theorem o_l_szOut (k : Nat) : Ok Try.prog (c_l_szOut k) := ok_of (map0) (ptr0) (eq0) (tab1 (ty_22) (tab1 (ty_209) (tab0))) (inl1 (fi_201) (inl0)) (spec1 (s_l_szIntS k) (spec0)) (mspec0)
theorem n_l_szOut (k : Nat) : ∀ f fn, look (c_l_szOut k).inl f = some fn → Try.prog.funcs[f]? = some fn := fun f fn h => (show InlL Try.prog (c_l_szOut k).inl from inl1 (fi_201) (inl0)) f fn h |>.1
theorem s_l_szOut (k : Nat) : SpecGood Try.prog 201 (sp_l_szOut k) ∧ Enters Try.prog 201 := ⟨specGood_run (o_l_szOut k) mixed (n_l_szOut k) (d := k) [yOut, (.int .i64)] [(.int .i64)] [] (fun x => l_szOut k x.1 x.2.1) (fun x => r_l_szOut k x.1 x.2.1), (fi_201).2⟩
theorem o_l_szOutS (k : Nat) : Ok Try.prog (c_l_szOutS k) := ok_of (map0) (ptr0) (eq0) (tab1 (ty_38) (tab1 (ty_209) (tab0))) (inl1 (fi_109) (inl0)) (spec1 (s_l_szOut k) (spec0)) (mspec0)
theorem n_l_szOutS (k : Nat) : ∀ f fn, look (c_l_szOutS k).inl f = some fn → Try.prog.funcs[f]? = some fn := fun f fn h => (show InlL Try.prog (c_l_szOutS k).inl from inl1 (fi_109) (inl0)) f fn h |>.1
theorem s_l_szOutS (k : Nat) : SpecGood Try.prog 109 (sp_l_szOutS k) ∧ Enters Try.prog 109 := ⟨specGood_run (o_l_szOutS k) mixed (n_l_szOutS k) (d := k) [(.slice 209 yOut), (.int .i64)] [(.int .i64)] [] (fun x => l_szOutS k x.1 x.2.1) (fun x => r_l_szOutS k x.1 x.2.1), (fi_109).2⟩
theorem o_l_szHall (k : Nat) : Ok Try.prog (c_l_szHall k) := ok_of (map0) (ptr0) (eq0) (tab1 (ty_32) (tab1 (ty_37) (tab1 (ty_38) (tab1 (ty_40) (tab0))))) (inl1 (fi_20) (inl0)) (spec1 (s_l_szRoom k) (spec1 (s_l_szSessionS k) (spec1 (s_l_szOutS k) (spec0)))) (mspec0)
theorem n_l_szHall (k : Nat) : ∀ f fn, look (c_l_szHall k).inl f = some fn → Try.prog.funcs[f]? = some fn := fun f fn h => (show InlL Try.prog (c_l_szHall k).inl from inl1 (fi_20) (inl0)) f fn h |>.1
theorem s_l_szHall (k : Nat) : SpecGood Try.prog 20 (sp_l_szHall k) ∧ Enters Try.prog 20 := ⟨specGood_run (o_l_szHall k) mixed (n_l_szHall k) (d := k) [yHall, (.int .i64)] [(.int .i64)] [] (fun x => l_szHall k x.1 x.2.1) (fun x => r_l_szHall k x.1 x.2.1), (fi_20).2⟩
theorem o_s_l12SameState (k : Nat) : Ok Try.prog (c_s_l12SameState k) := ok_of (map0) (ptr0) (eq1 (eqt_129) (eq0)) (tab1 (ty_78) (tab1 (ty_129) (tab0))) (inl1 (fi_203) (inl0)) (spec0) (mspec0)
theorem n_s_l12SameState (k : Nat) : ∀ f fn, look (c_s_l12SameState k).inl f = some fn → Try.prog.funcs[f]? = some fn := fun f fn h => (show InlL Try.prog (c_s_l12SameState k).inl from inl1 (fi_203) (inl0)) f fn h |>.1
theorem s_s_l12SameState (k : Nat) : SpecGood Try.prog 203 (sp_s_l12SameState k) ∧ Enters Try.prog 203 := ⟨specGood_run (o_s_l12SameState k) mixed (n_s_l12SameState k) (d := k) [(.slice 129 yItem), (.slice 129 yItem)] [.bool] [] (fun x => s_l12SameState k x.1 x.2.1) (fun x => r_s_l12SameState k x.1 x.2.1), (fi_203).2⟩
theorem o_s_l12Same (k : Nat) : Ok Try.prog (c_s_l12Same k) := ok_of (map0) (ptr0) (eq0) (tab1 (ty_4) (tab1 (ty_24) (tab1 (ty_35) (tab1 (ty_44) (tab1 (ty_45) (tab1 (ty_47) (tab1 (ty_78) (tab0)))))))) (inl1 (fi_110) (inl0)) (spec1 (s_s_l09Same k) (spec1 (s_s_l12SameState k) (spec0))) (mspec0)
theorem n_s_l12Same (k : Nat) : ∀ f fn, look (c_s_l12Same k).inl f = some fn → Try.prog.funcs[f]? = some fn := fun f fn h => (show InlL Try.prog (c_s_l12Same k).inl from inl1 (fi_110) (inl0)) f fn h |>.1
theorem s_s_l12Same (k : Nat) : SpecGood Try.prog 110 (sp_s_l12Same k) ∧ Enters Try.prog 110 := ⟨specGood_run (o_s_l12Same k) mixed (n_s_l12Same k) (d := k) [yRoom1, yRoom1] [.bool] [] (fun x => s_l12Same k x.1 x.2.1) (fun x => r_s_l12Same k x.1 x.2.1), (fi_110).2⟩
theorem o_s_SameHall (k : Nat) : Ok Try.prog (c_s_SameHall k) := ok_of (map0) (ptr0) (eq1 (eqt_149) (eq0)) (tab1 (ty_3) (tab1 (ty_22) (tab1 (ty_43) (tab1 (ty_47) (tab1 (ty_48) (tab1 (ty_50) (tab1 (ty_149) (tab1 (ty_151) (tab0))))))))) (inl1 (fi_21) (inl0)) (spec1 (s_s_l12Same k) (spec1 (s_s_l05SameInts k) (spec0))) (mspec0)
theorem n_s_SameHall (k : Nat) : ∀ f fn, look (c_s_SameHall k).inl f = some fn → Try.prog.funcs[f]? = some fn := fun f fn h => (show InlL Try.prog (c_s_SameHall k).inl from inl1 (fi_21) (inl0)) f fn h |>.1
theorem s_s_SameHall (k : Nat) : SpecGood Try.prog 21 (sp_s_SameHall k) ∧ Enters Try.prog 21 := ⟨specGood_run (o_s_SameHall k) mixed (n_s_SameHall k) (d := k) [yHall1, yHall1] [.bool] [] (fun x => s_SameHall k x.1 x.2.1) (fun x => r_s_SameHall k x.1 x.2.1), (fi_21).2⟩
theorem o_l_toItem (k : Nat) : Ok Try.prog (c_l_toItem k) := ok_of (map0) (ptr0) (eq0) (tab1 (ty_3) (tab1 (ty_129) (tab1 (ty_179) (tab0)))) (inl1 (fi_152) (inl0)) (spec0) (mspec0)
theorem n_l_toItem (k : Nat) : ∀ f fn, look (c_l_toItem k).inl f = some fn → Try.prog.funcs[f]? = some fn := fun f fn h => (show InlL Try.prog (c_l_toItem k).inl from inl1 (fi_152) (inl0)) f fn h |>.1
theorem s_l_toItem (k : Nat) : SpecGood Try.prog 152 (sp_l_toItem k) ∧ Enters Try.prog 152 := ⟨specGood_run (o_l_toItem k) mixed (n_l_toItem k) (d := k) [yItem] [yItem] [] (fun x => l_toItem k x.1) (fun x => r_l_toItem k x.1), (fi_152).2⟩
theorem o_l_toItemS (k : Nat) : Ok Try.prog (c_l_toItemS k) := ok_of (map0) (ptr0) (eq0) (tab1 (ty_78) (tab1 (ty_88) (tab1 (ty_129) (tab1 (ty_179) (tab0))))) (inl1 (fi_65) (inl0)) (spec1 (s_l_toItem k) (spec0)) (mspec0)
theorem n_l_toItemS (k : Nat) : ∀ f fn, look (c_l_toItemS k).inl f = some fn → Try.prog.funcs[f]? = some fn := fun f fn h => (show InlL Try.prog (c_l_toItemS k).inl from inl1 (fi_65) (inl0)) f fn h |>.1
theorem s_l_toItemS (k : Nat) : SpecGood Try.prog 65 (sp_l_toItemS k) ∧ Enters Try.prog 65 := ⟨specGood_run (o_l_toItemS k) mixed (n_l_toItemS k) (d := k) [(.slice 179 yItem)] [(.slice 129 yItem)] [true] (fun x => l_toItemS k x.1) (fun x => r_l_toItemS k x.1), (fi_65).2⟩
theorem o_l_toItemSS (k : Nat) : Ok Try.prog (c_l_toItemSS k) := ok_of (map0) (ptr0) (eq0) (tab1 (ty_34) (tab1 (ty_45) (tab1 (ty_78) (tab1 (ty_88) (tab0))))) (inl1 (fi_48) (inl0)) (spec1 (s_l_toItemS k) (spec0)) (mspec0)
theorem n_l_toItemSS (k : Nat) : ∀ f fn, look (c_l_toItemSS k).inl f = some fn → Try.prog.funcs[f]? = some fn := fun f fn h => (show InlL Try.prog (c_l_toItemSS k).inl from inl1 (fi_48) (inl0)) f fn h |>.1
theorem s_l_toItemSS (k : Nat) : SpecGood Try.prog 48 (sp_l_toItemSS k) ∧ Enters Try.prog 48 := ⟨specGood_run (o_l_toItemSS k) mixed (n_l_toItemSS k) (d := k) [(.slice 88 (.slice 179 yItem))] [(.slice 78 (.slice 129 yItem))] [true] (fun x => l_toItemSS k x.1) (fun x => r_l_toItemSS k x.1), (fi_48).2⟩
theorem o_l_toIntS (k : Nat) : Ok Try.prog (c_l_toIntS k) := ok_of (map0) (ptr0) (eq0) (tab1 (ty_3) (tab1 (ty_22) (tab0))) (inl1 (fi_153) (inl0)) (spec0) (mspec0)
theorem n_l_toIntS (k : Nat) : ∀ f fn, look (c_l_toIntS k).inl f = some fn → Try.prog.funcs[f]? = some fn := fun f fn h => (show InlL Try.prog (c_l_toIntS k).inl from inl1 (fi_153) (inl0)) f fn h |>.1
theorem s_l_toIntS (k : Nat) : SpecGood Try.prog 153 (sp_l_toIntS k) ∧ Enters Try.prog 153 := ⟨specGood_run (o_l_toIntS k) mixed (n_l_toIntS k) (d := k) [(.slice 3 (.int .i64))] [(.slice 3 (.int .i64))] [true] (fun x => l_toIntS k x.1) (fun x => r_l_toIntS k x.1), (fi_153).2⟩
theorem o_l_toEvent (k : Nat) : Ok Try.prog (c_l_toEvent k) := ok_of (map0) (ptr0) (eq0) (tab1 (ty_3) (tab1 (ty_9) (tab1 (ty_22) (tab1 (ty_24) (tab1 (ty_89) (tab0)))))) (inl1 (fi_66) (inl0)) (spec1 (s_l_toIntS k) (spec0)) (mspec0)
theorem n_l_toEvent (k : Nat) : ∀ f fn, look (c_l_toEvent k).inl f = some fn → Try.prog.funcs[f]? = some fn := fun f fn h => (show InlL Try.prog (c_l_toEvent k).inl from inl1 (fi_66) (inl0)) f fn h |>.1
theorem s_l_toEvent (k : Nat) : SpecGood Try.prog 66 (sp_l_toEvent k) ∧ Enters Try.prog 66 := ⟨specGood_run (o_l_toEvent k) mixed (n_l_toEvent k) (d := k) [yEvent] [yEvent] [true, true] (fun x => l_toEvent k x.1) (fun x => r_l_toEvent k x.1), (fi_66).2⟩
theorem o_l_toEventS (k : Nat) : Ok Try.prog (c_l_toEventS k) := ok_of (map0) (ptr0) (eq0) (tab1 (ty_24) (tab1 (ty_33) (tab1 (ty_44) (tab1 (ty_89) (tab0))))) (inl1 (fi_64) (inl0)) (spec1 (s_l_toEvent k) (spec0)) (mspec0)
theorem n_l_toEventS (k : Nat) : ∀ f fn, look (c_l_toEventS k).inl f = some fn → Try.prog.funcs[f]? = some fn := fun f fn h => (show InlL Try.prog (c_l_toEventS k).inl from inl1 (fi_64) (inl0)) f fn h |>.1
theorem s_l_toEventS (k : Nat) : SpecGood Try.prog 64 (sp_l_toEventS k) ∧ Enters Try.prog 64 := ⟨specGood_run (o_l_toEventS k) mixed (n_l_toEventS k) (d := k) [(.slice 89 yEvent)] [(.slice 24 yEvent)] [true] (fun x => l_toEventS k x.1) (fun x => r_l_toEventS k x.1), (fi_64).2⟩
theorem o_l_toBoolS (k : Nat) : Ok Try.prog (c_l_toBoolS k) := ok_of (map0) (ptr0) (eq0) (tab1 (ty_4) (tab1 (ty_35) (tab0))) (inl1 (fi_160) (inl0)) (spec0) (mspec0)
theorem n_l_toBoolS (k : Nat) : ∀ f fn, look (c_l_toBoolS k).inl f = some fn → Try.prog.funcs[f]? = some fn := fun f fn h => (show InlL Try.prog (c_l_toBoolS k).inl from inl1 (fi_160) (inl0)) f fn h |>.1
theorem s_l_toBoolS (k : Nat) : SpecGood Try.prog 160 (sp_l_toBoolS k) ∧ Enters Try.prog 160 := ⟨specGood_run (o_l_toBoolS k) mixed (n_l_toBoolS k) (d := k) [(.slice 4 .bool)] [(.slice 4 .bool)] [true] (fun x => l_toBoolS k x.1) (fun x => r_l_toBoolS k x.1), (fi_160).2⟩
theorem o_l_toRoom (k : Nat) : Ok Try.prog (c_l_toRoom k) := ok_of (map0) (ptr0) (eq0) (tab1 (ty_33) (tab1 (ty_34) (tab1 (ty_35) (tab1 (ty_37) (tab1 (ty_44) (tab1 (ty_45) (tab1 (ty_47) (tab0)))))))) (inl1 (fi_74) (inl0)) (spec1 (s_l_toItemSS k) (spec1 (s_l_toEventS k) (spec1 (s_l_toBoolS k) (spec0)))) (mspec0)
theorem n_l_toRoom (k : Nat) : ∀ f fn, look (c_l_toRoom k).inl f = some fn → Try.prog.funcs[f]? = some fn := fun f fn h => (show InlL Try.prog (c_l_toRoom k).inl from inl1 (fi_74) (inl0)) f fn h |>.1
theorem s_l_toRoom (k : Nat) : SpecGood Try.prog 74 (sp_l_toRoom k) ∧ Enters Try.prog 74 := ⟨specGood_run (o_l_toRoom k) mixed (n_l_toRoom k) (d := k) [yRoom] [yRoom1] [true, true, true] (fun x => l_toRoom k x.1) (fun x => r_l_toRoom k x.1), (fi_74).2⟩
theorem o_l_toSession (k : Nat) : Ok Try.prog (c_l_toSession k) := ok_of (map0) (ptr0) (eq0) (tab1 (ty_3) (tab1 (ty_9) (tab1 (ty_149) (tab1 (ty_207) (tab0))))) (inl1 (fi_204) (inl0)) (spec0) (mspec0)
theorem n_l_toSession (k : Nat) : ∀ f fn, look (c_l_toSession k).inl f = some fn → Try.prog.funcs[f]? = some fn := fun f fn h => (show InlL Try.prog (c_l_toSession k).inl from inl1 (fi_204) (inl0)) f fn h |>.1
theorem s_l_toSession (k : Nat) : SpecGood Try.prog 204 (sp_l_toSession k) ∧ Enters Try.prog 204 := ⟨specGood_run (o_l_toSession k) mixed (n_l_toSession k) (d := k) [ySession] [ySession] [] (fun x => l_toSession k x.1) (fun x => r_l_toSession k x.1), (fi_204).2⟩
theorem o_l_toSessionS (k : Nat) : Ok Try.prog (c_l_toSessionS k) := ok_of (map0) (ptr0) (eq0) (tab1 (ty_32) (tab1 (ty_43) (tab1 (ty_149) (tab1 (ty_207) (tab0))))) (inl1 (fi_112) (inl0)) (spec1 (s_l_toSession k) (spec0)) (mspec0)
theorem n_l_toSessionS (k : Nat) : ∀ f fn, look (c_l_toSessionS k).inl f = some fn → Try.prog.funcs[f]? = some fn := fun f fn h => (show InlL Try.prog (c_l_toSessionS k).inl from inl1 (fi_112) (inl0)) f fn h |>.1
theorem s_l_toSessionS (k : Nat) : SpecGood Try.prog 112 (sp_l_toSessionS k) ∧ Enters Try.prog 112 := ⟨specGood_run (o_l_toSessionS k) mixed (n_l_toSessionS k) (d := k) [(.slice 207 ySession)] [(.slice 149 ySession)] [true] (fun x => l_toSessionS k x.1) (fun x => r_l_toSessionS k x.1), (fi_112).2⟩
theorem o_l_toOut (k : Nat) : Ok Try.prog (c_l_toOut k) := ok_of (map0) (ptr0) (eq0) (tab1 (ty_3) (tab1 (ty_22) (tab1 (ty_151) (tab1 (ty_209) (tab0))))) (inl1 (fi_205) (inl0)) (spec1 (s_l_toIntS k) (spec0)) (mspec0)
theorem n_l_toOut (k : Nat) : ∀ f fn, look (c_l_toOut k).inl f = some fn → Try.prog.funcs[f]? = some fn := fun f fn h => (show InlL Try.prog (c_l_toOut k).inl from inl1 (fi_205) (inl0)) f fn h |>.1
theorem s_l_toOut (k : Nat) : SpecGood Try.prog 205 (sp_l_toOut k) ∧ Enters Try.prog 205 := ⟨specGood_run (o_l_toOut k) mixed (n_l_toOut k) (d := k) [yOut] [yOut] [true] (fun x => l_toOut k x.1) (fun x => r_l_toOut k x.1), (fi_205).2⟩
theorem o_l_toOutS (k : Nat) : Ok Try.prog (c_l_toOutS k) := ok_of (map0) (ptr0) (eq0) (tab1 (ty_38) (tab1 (ty_48) (tab1 (ty_151) (tab1 (ty_209) (tab0))))) (inl1 (fi_113) (inl0)) (spec1 (s_l_toOut k) (spec0)) (mspec0)
theorem n_l_toOutS (k : Nat) : ∀ f fn, look (c_l_toOutS k).inl f = some fn → Try.prog.funcs[f]? = some fn := fun f fn h => (show InlL Try.prog (c_l_toOutS k).inl from inl1 (fi_113) (inl0)) f fn h |>.1
theorem s_l_toOutS (k : Nat) : SpecGood Try.prog 113 (sp_l_toOutS k) ∧ Enters Try.prog 113 := ⟨specGood_run (o_l_toOutS k) mixed (n_l_toOutS k) (d := k) [(.slice 209 yOut)] [(.slice 151 yOut)] [true] (fun x => l_toOutS k x.1) (fun x => r_l_toOutS k x.1), (fi_113).2⟩
theorem o_l_toHall (k : Nat) : Ok Try.prog (c_l_toHall k) := ok_of (map0) (ptr0) (eq0) (tab1 (ty_32) (tab1 (ty_37) (tab1 (ty_38) (tab1 (ty_40) (tab1 (ty_43) (tab1 (ty_47) (tab1 (ty_48) (tab1 (ty_50) (tab0))))))))) (inl1 (fi_22) (inl0)) (spec1 (s_l_toRoom k) (spec1 (s_l_toSessionS k) (spec1 (s_l_toOutS k) (spec0)))) (mspec0)
theorem n_l_toHall (k : Nat) : ∀ f fn, look (c_l_toHall k).inl f = some fn → Try.prog.funcs[f]? = some fn := fun f fn h => (show InlL Try.prog (c_l_toHall k).inl from inl1 (fi_22) (inl0)) f fn h |>.1
theorem s_l_toHall (k : Nat) : SpecGood Try.prog 22 (sp_l_toHall k) ∧ Enters Try.prog 22 := ⟨specGood_run (o_l_toHall k) mixed (n_l_toHall k) (d := k) [yHall] [yHall1] [true, true, true, true, true] (fun x => l_toHall k x.1) (fun x => r_l_toHall k x.1), (fi_22).2⟩
theorem o_slices_Equal_impl_Session_impl_Session (k : Nat) : Ok Try.prog (c_slices_Equal_impl_Session_impl_Session k) := ok_of (map0) (ptr0) (eq1 (eqt_149) (eq0)) (tab1 (ty_43) (tab1 (ty_149) (tab0))) (inl1 (fi_114) (inl0)) (spec0) (mspec0)
theorem n_slices_Equal_impl_Session_impl_Session (k : Nat) : ∀ f fn, look (c_slices_Equal_impl_Session_impl_Session k).inl f = some fn → Try.prog.funcs[f]? = some fn := fun f fn h => (show InlL Try.prog (c_slices_Equal_impl_Session_impl_Session k).inl from inl1 (fi_114) (inl0)) f fn h |>.1
theorem s_slices_Equal_impl_Session_impl_Session (k : Nat) : SpecGood Try.prog 114 (sp_slices_Equal_impl_Session_impl_Session k) ∧ Enters Try.prog 114 := ⟨specGood_run (o_slices_Equal_impl_Session_impl_Session k) mixed (n_slices_Equal_impl_Session_impl_Session k) (d := k) [(.slice 149 ySession), (.slice 149 ySession)] [.bool] [] (fun x => slices_Equal_impl_Session_impl_Session k x.1 x.2.1) (fun x => r_slices_Equal_impl_Session_impl_Session k x.1 x.2.1), (fi_114).2⟩
theorem o_slices_Equal_impl_Item_impl_Item (k : Nat) : Ok Try.prog (c_slices_Equal_impl_Item_impl_Item k) := ok_of (map0) (ptr0) (eq1 (eqt_129) (eq0)) (tab1 (ty_78) (tab1 (ty_129) (tab0))) (inl1 (fi_207) (inl0)) (spec0) (mspec0)
theorem n_slices_Equal_impl_Item_impl_Item (k : Nat) : ∀ f fn, look (c_slices_Equal_impl_Item_impl_Item k).inl f = some fn → Try.prog.funcs[f]? = some fn := fun f fn h => (show InlL Try.prog (c_slices_Equal_impl_Item_impl_Item k).inl from inl1 (fi_207) (inl0)) f fn h |>.1
theorem s_slices_Equal_impl_Item_impl_Item (k : Nat) : SpecGood Try.prog 207 (sp_slices_Equal_impl_Item_impl_Item k) ∧ Enters Try.prog 207 := ⟨specGood_run (o_slices_Equal_impl_Item_impl_Item k) mixed (n_slices_Equal_impl_Item_impl_Item k) (d := k) [(.slice 129 yItem), (.slice 129 yItem)] [.bool] [] (fun x => slices_Equal_impl_Item_impl_Item k x.1 x.2.1) (fun x => r_slices_Equal_impl_Item_impl_Item k x.1 x.2.1), (fi_207).2⟩
theorem o_slices_Equal_bool_bool (k : Nat) : Ok Try.prog (c_slices_Equal_bool_bool k) := ok_of (map0) (ptr0) (eq0) (tab1 (ty_4) (tab1 (ty_35) (tab0))) (inl1 (fi_210) (inl0)) (spec0) (mspec0)
theorem n_slices_Equal_bool_bool (k : Nat) : ∀ f fn, look (c_slices_Equal_bool_bool k).inl f = some fn → Try.prog.funcs[f]? = some fn := fun f fn h => (show InlL Try.prog (c_slices_Equal_bool_bool k).inl from inl1 (fi_210) (inl0)) f fn h |>.1
theorem s_slices_Equal_bool_bool (k : Nat) : SpecGood Try.prog 210 (sp_slices_Equal_bool_bool k) ∧ Enters Try.prog 210 := ⟨specGood_run (o_slices_Equal_bool_bool k) mixed (n_slices_Equal_bool_bool k) (d := k) [(.slice 4 .bool), (.slice 4 .bool)] [.bool] [] (fun x => slices_Equal_bool_bool k x.1 x.2.1) (fun x => r_slices_Equal_bool_bool k x.1 x.2.1), (fi_210).2⟩
theorem o_i_sameRoom (k : Nat) : Ok Try.prog (c_i_sameRoom k) := ok_of (map0) (ptr0) (eq0) (tab1 (ty_3) (tab1 (ty_9) (tab1 (ty_22) (tab1 (ty_24) (tab1 (ty_35) (tab1 (ty_44) (tab1 (ty_45) (tab1 (ty_47) (tab1 (ty_78) (tab0)))))))))) (inl1 (fi_115) (inl1 (fi_198) (inl1 (fi_206) (inl1 (fi_208) (inl1 (fi_209) (inl0)))))) (spec1 (s_slices_Equal_impl_Item_impl_Item k) (spec1 (s_slices_Equal_bool_bool k) (spec1 (s_slices_Equal_int_int k) (spec0)))) (mspec0)
theorem n_i_sameRoom (k : Nat) : ∀ f fn, look (c_i_sameRoom k).inl f = some fn → Try.prog.funcs[f]? = some fn := fun f fn h => (show InlL Try.prog (c_i_sameRoom k).inl from inl1 (fi_115) (inl1 (fi_198) (inl1 (fi_206) (inl1 (fi_208) (inl1 (fi_209) (inl0)))))) f fn h |>.1
theorem s_i_sameRoom (k : Nat) : SpecGood Try.prog 115 (sp_i_sameRoom k) ∧ Enters Try.prog 115 := ⟨specGood_run (o_i_sameRoom k) mixed (n_i_sameRoom k) (d := k) [yRoom1, yRoom1] [.bool] [] (fun x => i_sameRoom k x.1 x.2.1) (fun x => r_i_sameRoom k x.1 x.2.1), (fi_115).2⟩
theorem o_i_SameHall (k : Nat) : Ok Try.prog (c_i_SameHall k) := ok_of (map0) (ptr0) (eq0) (tab1 (ty_3) (tab1 (ty_22) (tab1 (ty_43) (tab1 (ty_47) (tab1 (ty_48) (tab1 (ty_50) (tab1 (ty_151) (tab0)))))))) (inl1 (fi_23) (inl1 (fi_116) (inl1 (fi_117) (inl0)))) (spec1 (s_slices_Equal_impl_Session_impl_Session k) (spec1 (s_i_sameRoom k) (spec1 (s_slices_Equal_int_int k) (spec0)))) (mspec0)
theorem n_i_SameHall (k : Nat) : ∀ f fn, look (c_i_SameHall k).inl f = some fn → Try.prog.funcs[f]? = some fn := fun f fn h => (show InlL Try.prog (c_i_SameHall k).inl from inl1 (fi_23) (inl1 (fi_116) (inl1 (fi_117) (inl0)))) f fn h |>.1
theorem s_i_SameHall (k : Nat) : SpecGood Try.prog 23 (sp_i_SameHall k) ∧ Enters Try.prog 23 := ⟨specGood_run (o_i_SameHall k) mixed (n_i_SameHall k) (d := k) [yHall1, yHall1] [.bool] [] (fun x => i_SameHall k x.1 x.2.1) (fun x => r_i_SameHall k x.1 x.2.1), (fi_23).2⟩
theorem o_l_eqItem (k : Nat) : Ok Try.prog (c_l_eqItem k) := ok_of (map0) (ptr0) (eq0) (tab1 (ty_3) (tab1 (ty_129) (tab0))) (inl1 (fi_148) (inl0)) (spec0) (mspec0)
theorem n_l_eqItem (k : Nat) : ∀ f fn, look (c_l_eqItem k).inl f = some fn → Try.prog.funcs[f]? = some fn := fun f fn h => (show InlL Try.prog (c_l_eqItem k).inl from inl1 (fi_148) (inl0)) f fn h |>.1
theorem s_l_eqItem (k : Nat) : SpecGood Try.prog 148 (sp_l_eqItem k) ∧ Enters Try.prog 148 := ⟨specGood_run (o_l_eqItem k) mixed (n_l_eqItem k) (d := k) [yItem, yItem] [.bool] [] (fun x => l_eqItem k x.1 x.2.1) (fun x => r_l_eqItem k x.1 x.2.1), (fi_148).2⟩
theorem o_l_eqItemS (k : Nat) : Ok Try.prog (c_l_eqItemS k) := ok_of (map0) (ptr0) (eq0) (tab1 (ty_78) (tab1 (ty_129) (tab0))) (inl1 (fi_50) (inl0)) (spec1 (s_l_eqItem k) (spec0)) (mspec0)
theorem n_l_eqItemS (k : Nat) : ∀ f fn, look (c_l_eqItemS k).inl f = some fn → Try.prog.funcs[f]? = some fn := fun f fn h => (show InlL Try.prog (c_l_eqItemS k).inl from inl1 (fi_50) (inl0)) f fn h |>.1
theorem s_l_eqItemS (k : Nat) : SpecGood Try.prog 50 (sp_l_eqItemS k) ∧ Enters Try.prog 50 := ⟨specGood_run (o_l_eqItemS k) mixed (n_l_eqItemS k) (d := k) [(.slice 129 yItem), (.slice 129 yItem)] [.bool] [] (fun x => l_eqItemS k x.1 x.2.1) (fun x => r_l_eqItemS k x.1 x.2.1), (fi_50).2⟩
theorem o_l_eqItemSS (k : Nat) : Ok Try.prog (c_l_eqItemSS k) := ok_of (map0) (ptr0) (eq0) (tab1 (ty_45) (tab1 (ty_78) (tab0))) (inl1 (fi_51) (inl0)) (spec1 (s_l_eqItemS k) (spec0)) (mspec0)
theorem n_l_eqItemSS (k : Nat) : ∀ f fn, look (c_l_eqItemSS k).inl f = some fn → Try.prog.funcs[f]? = some fn := fun f fn h => (show InlL Try.prog (c_l_eqItemSS k).inl from inl1 (fi_51) (inl0)) f fn h |>.1
theorem s_l_eqItemSS (k : Nat) : SpecGood Try.prog 51 (sp_l_eqItemSS k) ∧ Enters Try.prog 51 := ⟨specGood_run (o_l_eqItemSS k) mixed (n_l_eqItemSS k) (d := k) [(.slice 78 (.slice 129 yItem)), (.slice 78 (.slice 129 yItem))] [.bool] [] (fun x => l_eqItemSS k x.1 x.2.1) (fun x => r_l_eqItemSS k x.1 x.2.1), (fi_51).2⟩
theorem o_l_eqEventS (k : Nat) : Ok Try.prog (c_l_eqEventS k) := ok_of (map0) (ptr0) (eq0) (tab1 (ty_24) (tab1 (ty_44) (tab0))) (inl1 (fi_68) (inl0)) (spec1 (s_l_eqEvent k) (spec0)) (mspec0)
theorem n_l_eqEventS (k : Nat) : ∀ f fn, look (c_l_eqEventS k).inl f = some fn → Try.prog.funcs[f]? = some fn := fun f fn h => (show InlL Try.prog (c_l_eqEventS k).inl from inl1 (fi_68) (inl0)) f fn h |>.1
theorem s_l_eqEventS (k : Nat) : SpecGood Try.prog 68 (sp_l_eqEventS k) ∧ Enters Try.prog 68 := ⟨specGood_run (o_l_eqEventS k) mixed (n_l_eqEventS k) (d := k) [(.slice 24 yEvent), (.slice 24 yEvent)] [.bool] [] (fun x => l_eqEventS k x.1 x.2.1) (fun x => r_l_eqEventS k x.1 x.2.1), (fi_68).2⟩
theorem o_l_eqBoolS (k : Nat) : Ok Try.prog (c_l_eqBoolS k) := ok_of (map0) (ptr0) (eq0) (tab1 (ty_4) (tab1 (ty_35) (tab0))) (inl1 (fi_163) (inl0)) (spec0) (mspec0)
theorem n_l_eqBoolS (k : Nat) : ∀ f fn, look (c_l_eqBoolS k).inl f = some fn → Try.prog.funcs[f]? = some fn := fun f fn h => (show InlL Try.prog (c_l_eqBoolS k).inl from inl1 (fi_163) (inl0)) f fn h |>.1
theorem s_l_eqBoolS (k : Nat) : SpecGood Try.prog 163 (sp_l_eqBoolS k) ∧ Enters Try.prog 163 := ⟨specGood_run (o_l_eqBoolS k) mixed (n_l_eqBoolS k) (d := k) [(.slice 4 .bool), (.slice 4 .bool)] [.bool] [] (fun x => l_eqBoolS k x.1 x.2.1) (fun x => r_l_eqBoolS k x.1 x.2.1), (fi_163).2⟩
theorem o_l_eqRoom (k : Nat) : Ok Try.prog (c_l_eqRoom k) := ok_of (map0) (ptr0) (eq0) (tab1 (ty_35) (tab1 (ty_44) (tab1 (ty_45) (tab1 (ty_47) (tab0))))) (inl1 (fi_76) (inl0)) (spec1 (s_l_eqItemSS k) (spec1 (s_l_eqEventS k) (spec1 (s_l_eqBoolS k) (spec0)))) (mspec0)
theorem n_l_eqRoom (k : Nat) : ∀ f fn, look (c_l_eqRoom k).inl f = some fn → Try.prog.funcs[f]? = some fn := fun f fn h => (show InlL Try.prog (c_l_eqRoom k).inl from inl1 (fi_76) (inl0)) f fn h |>.1
theorem s_l_eqRoom (k : Nat) : SpecGood Try.prog 76 (sp_l_eqRoom k) ∧ Enters Try.prog 76 := ⟨specGood_run (o_l_eqRoom k) mixed (n_l_eqRoom k) (d := k) [yRoom1, yRoom1] [.bool] [] (fun x => l_eqRoom k x.1 x.2.1) (fun x => r_l_eqRoom k x.1 x.2.1), (fi_76).2⟩
theorem o_l_eqSession (k : Nat) : Ok Try.prog (c_l_eqSession k) := ok_of (map0) (ptr0) (eq0) (tab1 (ty_3) (tab1 (ty_9) (tab1 (ty_149) (tab0)))) (inl1 (fi_212) (inl0)) (spec0) (mspec0)
theorem n_l_eqSession (k : Nat) : ∀ f fn, look (c_l_eqSession k).inl f = some fn → Try.prog.funcs[f]? = some fn := fun f fn h => (show InlL Try.prog (c_l_eqSession k).inl from inl1 (fi_212) (inl0)) f fn h |>.1
theorem s_l_eqSession (k : Nat) : SpecGood Try.prog 212 (sp_l_eqSession k) ∧ Enters Try.prog 212 := ⟨specGood_run (o_l_eqSession k) mixed (n_l_eqSession k) (d := k) [ySession, ySession] [.bool] [] (fun x => l_eqSession k x.1 x.2.1) (fun x => r_l_eqSession k x.1 x.2.1), (fi_212).2⟩
theorem o_l_eqSessionS (k : Nat) : Ok Try.prog (c_l_eqSessionS k) := ok_of (map0) (ptr0) (eq0) (tab1 (ty_43) (tab1 (ty_149) (tab0))) (inl1 (fi_118) (inl0)) (spec1 (s_l_eqSession k) (spec0)) (mspec0)
theorem n_l_eqSessionS (k : Nat) : ∀ f fn, look (c_l_eqSessionS k).inl f = some fn → Try.prog.funcs[f]? = some fn := fun f fn h => (show InlL Try.prog (c_l_eqSessionS k).inl from inl1 (fi_118) (inl0)) f fn h |>.1
theorem s_l_eqSessionS (k : Nat) : SpecGood Try.prog 118 (sp_l_eqSessionS k) ∧ Enters Try.prog 118 := ⟨specGood_run (o_l_eqSessionS k) mixed (n_l_eqSessionS k) (d := k) [(.slice 149 ySession), (.slice 149 ySession)] [.bool] [] (fun x => l_eqSessionS k x.1 x.2.1) (fun x => r_l_eqSessionS k x.1 x.2.1), (fi_118).2⟩
theorem o_l_eqOut (k : Nat) : Ok Try.prog (c_l_eqOut k) := ok_of (map0) (ptr0) (eq0) (tab1 (ty_3) (tab1 (ty_22) (tab1 (ty_151) (tab0)))) (inl1 (fi_213) (inl0)) (spec1 (s_l_eqIntS k) (spec0)) (mspec0)
theorem n_l_eqOut (k : Nat) : ∀ f fn, look (c_l_eqOut k).inl f = some fn → Try.prog.funcs[f]? = some fn := fun f fn h => (show InlL Try.prog (c_l_eqOut k).inl from inl1 (fi_213) (inl0)) f fn h |>.1
theorem s_l_eqOut (k : Nat) : SpecGood Try.prog 213 (sp_l_eqOut k) ∧ Enters Try.prog 213 := ⟨specGood_run (o_l_eqOut k) mixed (n_l_eqOut k) (d := k) [yOut, yOut] [.bool] [] (fun x => l_eqOut k x.1 x.2.1) (fun x => r_l_eqOut k x.1 x.2.1), (fi_213).2⟩
theorem o_l_eqOutS (k : Nat) : Ok Try.prog (c_l_eqOutS k) := ok_of (map0) (ptr0) (eq0) (tab1 (ty_48) (tab1 (ty_151) (tab0))) (inl1 (fi_119) (inl0)) (spec1 (s_l_eqOut k) (spec0)) (mspec0)
theorem n_l_eqOutS (k : Nat) : ∀ f fn, look (c_l_eqOutS k).inl f = some fn → Try.prog.funcs[f]? = some fn := fun f fn h => (show InlL Try.prog (c_l_eqOutS k).inl from inl1 (fi_119) (inl0)) f fn h |>.1
theorem s_l_eqOutS (k : Nat) : SpecGood Try.prog 119 (sp_l_eqOutS k) ∧ Enters Try.prog 119 := ⟨specGood_run (o_l_eqOutS k) mixed (n_l_eqOutS k) (d := k) [(.slice 151 yOut), (.slice 151 yOut)] [.bool] [] (fun x => l_eqOutS k x.1 x.2.1) (fun x => r_l_eqOutS k x.1 x.2.1), (fi_119).2⟩
theorem o_l_eqHall (k : Nat) : Ok Try.prog (c_l_eqHall k) := ok_of (map0) (ptr0) (eq0) (tab1 (ty_43) (tab1 (ty_47) (tab1 (ty_48) (tab1 (ty_50) (tab0))))) (inl1 (fi_24) (inl0)) (spec1 (s_l_eqRoom k) (spec1 (s_l_eqSessionS k) (spec1 (s_l_eqOutS k) (spec0)))) (mspec0)
theorem n_l_eqHall (k : Nat) : ∀ f fn, look (c_l_eqHall k).inl f = some fn → Try.prog.funcs[f]? = some fn := fun f fn h => (show InlL Try.prog (c_l_eqHall k).inl from inl1 (fi_24) (inl0)) f fn h |>.1
theorem s_l_eqHall (k : Nat) : SpecGood Try.prog 24 (sp_l_eqHall k) ∧ Enters Try.prog 24 := ⟨specGood_run (o_l_eqHall k) mixed (n_l_eqHall k) (d := k) [yHall1, yHall1] [.bool] [] (fun x => l_eqHall k x.1 x.2.1) (fun x => r_l_eqHall k x.1 x.2.1), (fi_24).2⟩
theorem o_l_FnExactSameHall (k : Nat) : Ok Try.prog (c_l_FnExactSameHall k) := ok_of (map0) (ptr0) (eq0) (tab1 (ty_4) (tab1 (ty_40) (tab1 (ty_50) (tab0)))) (inl1 (fi_4) (inl0)) (spec1 (s_l_szHall k) (spec1 (s_s_SameHall k) (spec1 (s_l_toHall k) (spec1 (s_i_SameHall k) (spec1 (s_l_eqHall k) (spec0)))))) (mspec0)
theorem n_l_FnExactSameHall (k : Nat) : ∀ f fn, look (c_l_FnExactSameHall k).inl f = some fn → Try.prog.funcs[f]? = some fn := fun f fn h => (show InlL Try.prog (c_l_FnExactSameHall k).inl from inl1 (fi_4) (inl0)) f fn h |>.1
theorem s_l_FnExactSameHall (k : Nat) : SpecGood Try.prog 4 (sp_l_FnExactSameHall k) ∧ Enters Try.prog 4 := ⟨specGood_run (o_l_FnExactSameHall k) mixed (n_l_FnExactSameHall k) (d := k) [yHall, yHall] [.bool] [] (fun x => l_FnExactSameHall k x.1 x.2.1) (fun x => r_l_FnExactSameHall k x.1 x.2.1), (fi_4).2⟩
end Go.Vm
