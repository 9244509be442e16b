/- The functions keep their specifications. -/
import Derived.Test.YtgobdchlaclhiaaGreatH2
import Derived.Test.YtgobdchlaclhiaaGreatChecked
import Derived.Test.YtgobdchlaclhiaaGreatIns
import Derived.Test.YtgobdchlaclhiaaGreatLy
set_option linter.unusedVariables false
namespace Go.Vm
open Go Go.Proofs
theorem mixed : Tryz.prog.follows .mixedOrders = true := Tryz.checked.mixed
def NOk (c : Cfg) : Prop := ∀ f fn, look c.inl f = some fn → Tryz.prog.funcs[f]? = some fn
theorem nok {c : Cfg} (h : InlL Tryz.prog c.inl) : NOk c := fun f fn e => (h f fn e).1
abbrev SG (f : FuncId) (s : Spec) : Prop := SpecGood Tryz.prog f s ∧ Enters Tryz.prog f
abbrev FI (n : FuncId) (f : Func) : Prop := Tryz.prog.funcs[n]? = some f ∧ Enters Tryz.prog n
theorem ty_3 : TyOk Tryz.prog (.int .i64) 3 := tyB_sound _ _ _ [] (by kernel_rfl)
theorem ty_4 : TyOk Tryz.prog .bool 4 := tyB_sound _ _ _ [] (by kernel_rfl)
theorem ty_5 : TyOk Tryz.prog (.int .u8) 5 := tyB_sound _ _ _ [] (by kernel_rfl)
theorem ty_9 : TyOk Tryz.prog .str 9 := tyB_sound _ _ _ [] (by kernel_rfl)
theorem ty_22 : TyOk Tryz.prog (.slice 70 ySession) 22 := tyB_sound _ _ _ [] (by kernel_rfl)
theorem ty_23 : TyOk Tryz.prog (.slice 93 yEvent) 23 := tyB_sound _ _ _ [] (by kernel_rfl)
theorem ty_24 : TyOk Tryz.prog (.slice 95 (.slice 119 yItem)) 24 := tyB_sound _ _ _ [] (by kernel_rfl)
theorem ty_25 : TyOk Tryz.prog (.slice 4 .bool) 25 := tyB_sound _ _ _ [] (by kernel_rfl)
theorem ty_27 : TyOk Tryz.prog yRoom 27 := tyB_sound _ _ _ [] (by kernel_rfl)
theorem ty_28 : TyOk Tryz.prog (.slice 75 yOut) 28 := tyB_sound _ _ _ [] (by kernel_rfl)
theorem ty_30 : TyOk Tryz.prog yHall 30 := tyB_sound _ _ _ [] (by kernel_rfl)
theorem ty_34 : TyOk Tryz.prog (.slice 52 ySession) 34 := tyB_sound _ _ _ [] (by kernel_rfl)
theorem ty_35 : TyOk Tryz.prog (.slice 57 yEvent) 35 := tyB_sound _ _ _ [] (by kernel_rfl)
theorem ty_36 : TyOk Tryz.prog (.slice 100 (.slice 117 yItem)) 36 := tyB_sound _ _ _ [] (by kernel_rfl)
theorem ty_38 : TyOk Tryz.prog yRoom1 38 := tyB_sound _ _ _ [] (by kernel_rfl)
theorem ty_39 : TyOk Tryz.prog (.slice 59 yOut) 39 := tyB_sound _ _ _ [] (by kernel_rfl)
theorem ty_41 : TyOk Tryz.prog yHall1 41 := tyB_sound _ _ _ [] (by kernel_rfl)
theorem ty_49 : TyOk Tryz.prog (.slice 5 (.int .u8)) 49 := tyB_sound _ _ _ [] (by kernel_rfl)
theorem ty_52 : TyOk Tryz.prog ySession 52 := tyB_sound _ _ _ [] (by kernel_rfl)
theorem ty_55 : TyOk Tryz.prog (.slice 3 (.int .i64)) 55 := tyB_sound _ _ _ [] (by kernel_rfl)
theorem ty_57 : TyOk Tryz.prog yEvent 57 := tyB_sound _ _ _ [] (by kernel_rfl)
theorem ty_59 : TyOk Tryz.prog yOut 59 := tyB_sound _ _ _ [] (by kernel_rfl)
theorem ty_70 : TyOk Tryz.prog ySession 70 := tyB_sound _ _ _ [] (by kernel_rfl)
theorem ty_75 : TyOk Tryz.prog yOut 75 := tyB_sound _ _ _ [] (by kernel_rfl)
theorem ty_93 : TyOk Tryz.prog yEvent 93 := tyB_sound _ _ _ [] (by kernel_rfl)
theorem ty_95 : TyOk Tryz.prog (.slice 119 yItem) 95 := tyB_sound _ _ _ [] (by kernel_rfl)
theorem ty_100 : TyOk Tryz.prog (.slice 117 yItem) 100 := tyB_sound _ _ _ [] (by kernel_rfl)
theorem ty_117 : TyOk Tryz.prog yItem 117 := tyB_sound _ _ _ [] (by kernel_rfl)
theorem ty_119 : TyOk Tryz.prog yItem 119 := tyB_sound _ _ _ [] (by kernel_rfl)
theorem ty_141 : TyOk Tryz.prog (.slice 55 (.slice 3 (.int .i64))) 141 := tyB_sound _ _ _ [] (by kernel_rfl)
theorem mpt_151 : MapOk Tryz.prog 151 (.slice 3 (.int .i64)) := mapB_sound (by kernel_rfl)
theorem eqt_117 : Tryz.prog.stoodInHeld 117 = false ∧ Tryz.prog.eqGuardType Tryz.prog.depth 117 = false := ⟨by kernel_rfl, by kernel_rfl⟩
theorem fi_3 : FI 3 Tryz.f3 := ⟨Tryz.func3, enters_of Tryz.func3 (by kernel_rfl) rfl⟩
theorem fi_4 : FI 4 Tryz.f4 := ⟨Tryz.func4, enters_of Tryz.func4 (by kernel_rfl) rfl⟩
theorem fi_5 : FI 5 Tryz.f5 := ⟨Tryz.func5, enters_of Tryz.func5 (by kernel_rfl) rfl⟩
theorem fi_6 : FI 6 Tryz.f6 := ⟨Tryz.func6, enters_of Tryz.func6 (by kernel_rfl) rfl⟩
theorem fi_7 : FI 7 Tryz.f7 := ⟨Tryz.func7, enters_of Tryz.func7 (by kernel_rfl) rfl⟩
theorem fi_8 : FI 8 Tryz.f8 := ⟨Tryz.func8, enters_of Tryz.func8 (by kernel_rfl) rfl⟩
theorem fi_9 : FI 9 Tryz.f9 := ⟨Tryz.func9, enters_of Tryz.func9 (by kernel_rfl) rfl⟩
theorem fi_10 : FI 10 Tryz.f10 := ⟨Tryz.func10, enters_of Tryz.func10 (by kernel_rfl) rfl⟩
theorem fi_11 : FI 11 Tryz.f11 := ⟨Tryz.func11, enters_of Tryz.func11 (by kernel_rfl) rfl⟩
theorem fi_12 : FI 12 Tryz.f12 := ⟨Tryz.func12, enters_of Tryz.func12 (by kernel_rfl) rfl⟩
theorem fi_13 : FI 13 Tryz.f13 := ⟨Tryz.func13, enters_of Tryz.func13 (by kernel_rfl) rfl⟩
theorem fi_14 : FI 14 Tryz.f14 := ⟨Tryz.func14, enters_of Tryz.func14 (by kernel_rfl) rfl⟩
theorem fi_15 : FI 15 Tryz.f15 := ⟨Tryz.func15, enters_of Tryz.func15 (by kernel_rfl) rfl⟩
theorem fi_16 : FI 16 Tryz.f16 := ⟨Tryz.func16, enters_of Tryz.func16 (by kernel_rfl) rfl⟩
theorem fi_17 : FI 17 Tryz.f17 := ⟨Tryz.func17, enters_of Tryz.func17 (by kernel_rfl) rfl⟩
theorem fi_18 : FI 18 Tryz.f18 := ⟨Tryz.func18, enters_of Tryz.func18 (by kernel_rfl) rfl⟩
theorem fi_19 : FI 19 Tryz.f19 := ⟨Tryz.func19, enters_of Tryz.func19 (by kernel_rfl) rfl⟩
theorem fi_20 : FI 20 Tryz.f20 := ⟨Tryz.func20, enters_of Tryz.func20 (by kernel_rfl) rfl⟩
theorem fi_21 : FI 21 Tryz.f21 := ⟨Tryz.func21, enters_of Tryz.func21 (by kernel_rfl) rfl⟩
theorem fi_22 : FI 22 Tryz.f22 := ⟨Tryz.func22, enters_of Tryz.func22 (by kernel_rfl) rfl⟩
theorem fi_23 : FI 23 Tryz.f23 := ⟨Tryz.func23, enters_of Tryz.func23 (by kernel_rfl) rfl⟩
theorem fi_24 : FI 24 Tryz.f24 := ⟨Tryz.func24, enters_of Tryz.func24 (by kernel_rfl) rfl⟩
theorem fi_25 : FI 25 Tryz.f25 := ⟨Tryz.func25, enters_of Tryz.func25 (by kernel_rfl) rfl⟩
theorem fi_26 : FI 26 Tryz.f26 := ⟨Tryz.func26, enters_of Tryz.func26 (by kernel_rfl) rfl⟩
theorem fi_27 : FI 27 Tryz.f27 := ⟨Tryz.func27, enters_of Tryz.func27 (by kernel_rfl) rfl⟩
theorem fi_28 : FI 28 Tryz.f28 := ⟨Tryz.func28, enters_of Tryz.func28 (by kernel_rfl) rfl⟩
theorem fi_29 : FI 29 Tryz.f29 := ⟨Tryz.func29, enters_of Tryz.func29 (by kernel_rfl) rfl⟩
theorem fi_30 : FI 30 Tryz.f30 := ⟨Tryz.func30, enters_of Tryz.func30 (by kernel_rfl) rfl⟩
theorem fi_31 : FI 31 Tryz.f31 := ⟨Tryz.func31, enters_of Tryz.func31 (by kernel_rfl) rfl⟩
theorem fi_32 : FI 32 Tryz.f32 := ⟨Tryz.func32, enters_of Tryz.func32 (by kernel_rfl) rfl⟩
theorem fi_33 : FI 33 Tryz.f33 := ⟨Tryz.func33, enters_of Tryz.func33 (by kernel_rfl) rfl⟩
theorem fi_34 : FI 34 Tryz.f34 := ⟨Tryz.func34, enters_of Tryz.func34 (by kernel_rfl) rfl⟩
theorem fi_35 : FI 35 Tryz.f35 := ⟨Tryz.func35, enters_of Tryz.func35 (by kernel_rfl) rfl⟩
theorem fi_36 : FI 36 Tryz.f36 := ⟨Tryz.func36, enters_of Tryz.func36 (by kernel_rfl) rfl⟩
theorem fi_37 : FI 37 Tryz.f37 := ⟨Tryz.func37, enters_of Tryz.func37 (by kernel_rfl) rfl⟩
theorem fi_38 : FI 38 Tryz.f38 := ⟨Tryz.func38, enters_of Tryz.func38 (by kernel_rfl) rfl⟩
theorem fi_39 : FI 39 Tryz.f39 := ⟨Tryz.func39, enters_of Tryz.func39 (by kernel_rfl) rfl⟩
theorem fi_40 : FI 40 Tryz.f40 := ⟨Tryz.func40, enters_of Tryz.func40 (by kernel_rfl) rfl⟩
theorem fi_41 : FI 41 Tryz.f41 := ⟨Tryz.func41, enters_of Tryz.func41 (by kernel_rfl) rfl⟩
theorem fi_42 : FI 42 Tryz.f42 := ⟨Tryz.func42, enters_of Tryz.func42 (by kernel_rfl) rfl⟩
theorem fi_43 : FI 43 Tryz.f43 := ⟨Tryz.func43, enters_of Tryz.func43 (by kernel_rfl) rfl⟩
theorem fi_44 : FI 44 Tryz.f44 := ⟨Tryz.func44, enters_of Tryz.func44 (by kernel_rfl) rfl⟩
theorem fi_45 : FI 45 Tryz.f45 := ⟨Tryz.func45, enters_of Tryz.func45 (by kernel_rfl) rfl⟩
theorem fi_46 : FI 46 Tryz.f46 := ⟨Tryz.func46, enters_of Tryz.func46 (by kernel_rfl) rfl⟩
theorem fi_47 : FI 47 Tryz.f47 := ⟨Tryz.func47, enters_of Tryz.func47 (by kernel_rfl) rfl⟩
theorem fi_48 : FI 48 Tryz.f48 := ⟨Tryz.func48, enters_of Tryz.func48 (by kernel_rfl) rfl⟩
theorem fi_49 : FI 49 Tryz.f49 := ⟨Tryz.func49, enters_of Tryz.func49 (by kernel_rfl) rfl⟩
theorem fi_50 : FI 50 Tryz.f50 := ⟨Tryz.func50, enters_of Tryz.func50 (by kernel_rfl) rfl⟩
theorem fi_51 : FI 51 Tryz.f51 := ⟨Tryz.func51, enters_of Tryz.func51 (by kernel_rfl) rfl⟩
theorem fi_52 : FI 52 Tryz.f52 := ⟨Tryz.func52, enters_of Tryz.func52 (by kernel_rfl) rfl⟩
theorem fi_53 : FI 53 Tryz.f53 := ⟨Tryz.func53, enters_of Tryz.func53 (by kernel_rfl) rfl⟩
theorem fi_54 : FI 54 Tryz.f54 := ⟨Tryz.func54, enters_of Tryz.func54 (by kernel_rfl) rfl⟩
theorem fi_55 : FI 55 Tryz.f55 := ⟨Tryz.func55, enters_of Tryz.func55 (by kernel_rfl) rfl⟩
theorem fi_56 : FI 56 Tryz.f56 := ⟨Tryz.func56, enters_of Tryz.func56 (by kernel_rfl) rfl⟩
theorem fi_57 : FI 57 Tryz.f57 := ⟨Tryz.func57, enters_of Tryz.func57 (by kernel_rfl) rfl⟩
theorem fi_58 : FI 58 Tryz.f58 := ⟨Tryz.func58, enters_of Tryz.func58 (by kernel_rfl) rfl⟩
theorem fi_59 : FI 59 Tryz.f59 := ⟨Tryz.func59, enters_of Tryz.func59 (by kernel_rfl) rfl⟩
theorem fi_60 : FI 60 Tryz.f60 := ⟨Tryz.func60, enters_of Tryz.func60 (by kernel_rfl) rfl⟩
theorem fi_61 : FI 61 Tryz.f61 := ⟨Tryz.func61, enters_of Tryz.func61 (by kernel_rfl) rfl⟩
theorem fi_62 : FI 62 Tryz.f62 := ⟨Tryz.func62, enters_of Tryz.func62 (by kernel_rfl) rfl⟩
theorem fi_63 : FI 63 Tryz.f63 := ⟨Tryz.func63, enters_of Tryz.func63 (by kernel_rfl) rfl⟩
theorem fi_64 : FI 64 Tryz.f64 := ⟨Tryz.func64, enters_of Tryz.func64 (by kernel_rfl) rfl⟩
theorem fi_65 : FI 65 Tryz.f65 := ⟨Tryz.func65, enters_of Tryz.func65 (by kernel_rfl) rfl⟩
theorem fi_66 : FI 66 Tryz.f66 := ⟨Tryz.func66, enters_of Tryz.func66 (by kernel_rfl) rfl⟩
theorem fi_67 : FI 67 Tryz.f67 := ⟨Tryz.func67, enters_of Tryz.func67 (by kernel_rfl) rfl⟩
theorem fi_68 : FI 68 Tryz.f68 := ⟨Tryz.func68, enters_of Tryz.func68 (by kernel_rfl) rfl⟩
theorem fi_69 : FI 69 Tryz.f69 := ⟨Tryz.func69, enters_of Tryz.func69 (by kernel_rfl) rfl⟩
theorem fi_70 : FI 70 Tryz.f70 := ⟨Tryz.func70, enters_of Tryz.func70 (by kernel_rfl) rfl⟩
theorem fi_71 : FI 71 Tryz.f71 := ⟨Tryz.func71, enters_of Tryz.func71 (by kernel_rfl) rfl⟩
theorem fi_72 : FI 72 Tryz.f72 := ⟨Tryz.func72, enters_of Tryz.func72 (by kernel_rfl) rfl⟩
theorem fi_73 : FI 73 Tryz.f73 := ⟨Tryz.func73, enters_of Tryz.func73 (by kernel_rfl) rfl⟩
theorem fi_74 : FI 74 Tryz.f74 := ⟨Tryz.func74, enters_of Tryz.func74 (by kernel_rfl) rfl⟩
theorem fi_75 : FI 75 Tryz.f75 := ⟨Tryz.func75, enters_of Tryz.func75 (by kernel_rfl) rfl⟩
theorem fi_76 : FI 76 Tryz.f76 := ⟨Tryz.func76, enters_of Tryz.func76 (by kernel_rfl) rfl⟩
theorem fi_77 : FI 77 Tryz.f77 := ⟨Tryz.func77, enters_of Tryz.func77 (by kernel_rfl) rfl⟩
theorem fi_78 : FI 78 Tryz.f78 := ⟨Tryz.func78, enters_of Tryz.func78 (by kernel_rfl) rfl⟩
theorem fi_79 : FI 79 Tryz.f79 := ⟨Tryz.func79, enters_of Tryz.func79 (by kernel_rfl) rfl⟩
theorem fi_80 : FI 80 Tryz.f80 := ⟨Tryz.func80, enters_of Tryz.func80 (by kernel_rfl) rfl⟩
theorem fi_81 : FI 81 Tryz.f81 := ⟨Tryz.func81, enters_of Tryz.func81 (by kernel_rfl) rfl⟩
theorem fi_82 : FI 82 Tryz.f82 := ⟨Tryz.func82, enters_of Tryz.func82 (by kernel_rfl) rfl⟩
theorem fi_83 : FI 83 Tryz.f83 := ⟨Tryz.func83, enters_of Tryz.func83 (by kernel_rfl) rfl⟩
theorem fi_84 : FI 84 Tryz.f84 := ⟨Tryz.func84, enters_of Tryz.func84 (by kernel_rfl) rfl⟩
theorem fi_85 : FI 85 Tryz.f85 := ⟨Tryz.func85, enters_of Tryz.func85 (by kernel_rfl) rfl⟩
theorem fi_86 : FI 86 Tryz.f86 := ⟨Tryz.func86, enters_of Tryz.func86 (by kernel_rfl) rfl⟩
theorem fi_87 : FI 87 Tryz.f87 := ⟨Tryz.func87, enters_of Tryz.func87 (by kernel_rfl) rfl⟩
theorem fi_88 : FI 88 Tryz.f88 := ⟨Tryz.func88, enters_of Tryz.func88 (by kernel_rfl) rfl⟩
theorem fi_89 : FI 89 Tryz.f89 := ⟨Tryz.func89, enters_of Tryz.func89 (by kernel_rfl) rfl⟩
theorem fi_90 : FI 90 Tryz.f90 := ⟨Tryz.func90, enters_of Tryz.func90 (by kernel_rfl) rfl⟩
theorem fi_91 : FI 91 Tryz.f91 := ⟨Tryz.func91, enters_of Tryz.func91 (by kernel_rfl) rfl⟩
theorem fi_92 : FI 92 Tryz.f92 := ⟨Tryz.func92, enters_of Tryz.func92 (by kernel_rfl) rfl⟩
theorem fi_93 : FI 93 Tryz.f93 := ⟨Tryz.func93, enters_of Tryz.func93 (by kernel_rfl) rfl⟩
theorem fi_94 : FI 94 Tryz.f94 := ⟨Tryz.func94, enters_of Tryz.func94 (by kernel_rfl) rfl⟩
theorem fi_95 : FI 95 Tryz.f95 := ⟨Tryz.func95, enters_of Tryz.func95 (by kernel_rfl) rfl⟩
theorem fi_96 : FI 96 Tryz.f96 := ⟨Tryz.func96, enters_of Tryz.func96 (by kernel_rfl) rfl⟩
theorem fi_97 : FI 97 Tryz.f97 := ⟨Tryz.func97, enters_of Tryz.func97 (by kernel_rfl) rfl⟩
theorem fi_98 : FI 98 Tryz.f98 := ⟨Tryz.func98, enters_of Tryz.func98 (by kernel_rfl) rfl⟩
theorem fi_99 : FI 99 Tryz.f99 := ⟨Tryz.func99, enters_of Tryz.func99 (by kernel_rfl) rfl⟩
theorem fi_100 : FI 100 Tryz.f100 := ⟨Tryz.func100, enters_of Tryz.func100 (by kernel_rfl) rfl⟩
theorem fi_101 : FI 101 Tryz.f101 := ⟨Tryz.func101, enters_of Tryz.func101 (by kernel_rfl) rfl⟩
theorem fi_102 : FI 102 Tryz.f102 := ⟨Tryz.func102, enters_of Tryz.func102 (by kernel_rfl) rfl⟩
theorem fi_103 : FI 103 Tryz.f103 := ⟨Tryz.func103, enters_of Tryz.func103 (by kernel_rfl) rfl⟩
theorem fi_104 : FI 104 Tryz.f104 := ⟨Tryz.func104, enters_of Tryz.func104 (by kernel_rfl) rfl⟩
theorem fi_105 : FI 105 Tryz.f105 := ⟨Tryz.func105, enters_of Tryz.func105 (by kernel_rfl) rfl⟩
theorem fi_106 : FI 106 Tryz.f106 := ⟨Tryz.func106, enters_of Tryz.func106 (by kernel_rfl) rfl⟩
theorem fi_107 : FI 107 Tryz.f107 := ⟨Tryz.func107, enters_of Tryz.func107 (by kernel_rfl) rfl⟩
theorem fi_108 : FI 108 Tryz.f108 := ⟨Tryz.func108, enters_of Tryz.func108 (by kernel_rfl) rfl⟩
theorem fi_109 : FI 109 Tryz.f109 := ⟨Tryz.func109, enters_of Tryz.func109 (by kernel_rfl) rfl⟩
theorem fi_110 : FI 110 Tryz.f110 := ⟨Tryz.func110, enters_of Tryz.func110 (by kernel_rfl) rfl⟩
theorem fi_111 : FI 111 Tryz.f111 := ⟨Tryz.func111, enters_of Tryz.func111 (by kernel_rfl) rfl⟩
theorem fi_112 : FI 112 Tryz.f112 := ⟨Tryz.func112, enters_of Tryz.func112 (by kernel_rfl) rfl⟩
theorem fi_113 : FI 113 Tryz.f113 := ⟨Tryz.func113, enters_of Tryz.func113 (by kernel_rfl) rfl⟩
theorem fi_114 : FI 114 Tryz.f114 := ⟨Tryz.func114, enters_of Tryz.func114 (by kernel_rfl) rfl⟩
theorem fi_115 : FI 115 Tryz.f115 := ⟨Tryz.func115, enters_of Tryz.func115 (by kernel_rfl) rfl⟩
theorem fi_116 : FI 116 Tryz.f116 := ⟨Tryz.func116, enters_of Tryz.func116 (by kernel_rfl) rfl⟩
theorem fi_117 : FI 117 Tryz.f117 := ⟨Tryz.func117, enters_of Tryz.func117 (by kernel_rfl) rfl⟩
theorem fi_118 : FI 118 Tryz.f118 := ⟨Tryz.func118, enters_of Tryz.func118 (by kernel_rfl) rfl⟩
theorem fi_119 : FI 119 Tryz.f119 := ⟨Tryz.func119, enters_of Tryz.func119 (by kernel_rfl) rfl⟩
theorem fi_120 : FI 120 Tryz.f120 := ⟨Tryz.func120, enters_of Tryz.func120 (by kernel_rfl) rfl⟩
theorem fi_121 : FI 121 Tryz.f121 := ⟨Tryz.func121, enters_of Tryz.func121 (by kernel_rfl) rfl⟩
theorem fi_122 : FI 122 Tryz.f122 := ⟨Tryz.func122, enters_of Tryz.func122 (by kernel_rfl) rfl⟩
theorem fi_123 : FI 123 Tryz.f123 := ⟨Tryz.func123, enters_of Tryz.func123 (by kernel_rfl) rfl⟩
theorem fi_124 : FI 124 Tryz.f124 := ⟨Tryz.func124, enters_of Tryz.func124 (by kernel_rfl) rfl⟩
theorem fi_125 : FI 125 Tryz.f125 := ⟨Tryz.func125, enters_of Tryz.func125 (by kernel_rfl) rfl⟩
theorem fi_126 : FI 126 Tryz.f126 := ⟨Tryz.func126, enters_of Tryz.func126 (by kernel_rfl) rfl⟩
theorem fi_127 : FI 127 Tryz.f127 := ⟨Tryz.func127, enters_of Tryz.func127 (by kernel_rfl) rfl⟩
theorem fi_128 : FI 128 Tryz.f128 := ⟨Tryz.func128, enters_of Tryz.func128 (by kernel_rfl) rfl⟩
theorem fi_129 : FI 129 Tryz.f129 := ⟨Tryz.func129, enters_of Tryz.func129 (by kernel_rfl) rfl⟩
theorem fi_130 : FI 130 Tryz.f130 := ⟨Tryz.func130, enters_of Tryz.func130 (by kernel_rfl) rfl⟩
theorem fi_131 : FI 131 Tryz.f131 := ⟨Tryz.func131, enters_of Tryz.func131 (by kernel_rfl) rfl⟩
theorem fi_132 : FI 132 Tryz.f132 := ⟨Tryz.func132, enters_of Tryz.func132 (by kernel_rfl) rfl⟩
theorem fi_133 : FI 133 Tryz.f133 := ⟨Tryz.func133, enters_of Tryz.func133 (by kernel_rfl) rfl⟩
theorem fi_134 : FI 134 Tryz.f134 := ⟨Tryz.func134, enters_of Tryz.func134 (by kernel_rfl) rfl⟩
theorem fi_135 : FI 135 Tryz.f135 := ⟨Tryz.func135, enters_of Tryz.func135 (by kernel_rfl) rfl⟩
theorem fi_136 : FI 136 Tryz.f136 := ⟨Tryz.func136, enters_of Tryz.func136 (by kernel_rfl) rfl⟩
theorem fi_137 : FI 137 Tryz.f137 := ⟨Tryz.func137, enters_of Tryz.func137 (by kernel_rfl) rfl⟩
theorem fi_138 : FI 138 Tryz.f138 := ⟨Tryz.func138, enters_of Tryz.func138 (by kernel_rfl) rfl⟩
theorem fi_141 : FI 141 Tryz.f141 := ⟨Tryz.func141, enters_of Tryz.func141 (by kernel_rfl) rfl⟩
theorem fi_142 : FI 142 Tryz.f142 := ⟨Tryz.func142, enters_of Tryz.func142 (by kernel_rfl) rfl⟩
theorem fi_143 : FI 143 Tryz.f143 := ⟨Tryz.func143, enters_of Tryz.func143 (by kernel_rfl) rfl⟩
theorem fi_144 : FI 144 Tryz.f144 := ⟨Tryz.func144, enters_of Tryz.func144 (by kernel_rfl) rfl⟩
theorem fi_145 : FI 145 Tryz.f145 := ⟨Tryz.func145, enters_of Tryz.func145 (by kernel_rfl) rfl⟩
theorem fi_146 : FI 146 Tryz.f146 := ⟨Tryz.func146, enters_of Tryz.func146 (by kernel_rfl) rfl⟩
theorem fi_147 : FI 147 Tryz.f147 := ⟨Tryz.func147, enters_of Tryz.func147 (by kernel_rfl) rfl⟩
theorem fi_148 : FI 148 Tryz.f148 := ⟨Tryz.func148, enters_of Tryz.func148 (by kernel_rfl) rfl⟩
theorem fi_149 : FI 149 Tryz.f149 := ⟨Tryz.func149, enters_of Tryz.func149 (by kernel_rfl) rfl⟩
theorem fi_150 : FI 150 Tryz.f150 := ⟨Tryz.func150, enters_of Tryz.func150 (by kernel_rfl) rfl⟩
theorem fi_151 : FI 151 Tryz.f151 := ⟨Tryz.func151, enters_of Tryz.func151 (by kernel_rfl) rfl⟩
theorem fi_153 : FI 153 Tryz.f153 := ⟨Tryz.func153, enters_of Tryz.func153 (by kernel_rfl) rfl⟩
theorem fi_154 : FI 154 Tryz.f154 := ⟨Tryz.func154, enters_of Tryz.func154 (by kernel_rfl) rfl⟩
theorem fi_155 : FI 155 Tryz.f155 := ⟨Tryz.func155, enters_of Tryz.func155 (by kernel_rfl) rfl⟩
theorem fi_156 : FI 156 Tryz.f156 := ⟨Tryz.func156, enters_of Tryz.func156 (by kernel_rfl) rfl⟩
theorem fi_157 : FI 157 Tryz.f157 := ⟨Tryz.func157, enters_of Tryz.func157 (by kernel_rfl) rfl⟩
theorem fi_158 : FI 158 Tryz.f158 := ⟨Tryz.func158, enters_of Tryz.func158 (by kernel_rfl) rfl⟩
theorem fi_162 : FI 162 Tryz.f162 := ⟨Tryz.func162, enters_of Tryz.func162 (by kernel_rfl) rfl⟩
theorem o_l_szSession (k : Nat) : Ok Tryz.prog (c_l_szSession k) := ok_of (map0) (ptr0) (eq0) (tab1 (ty_9) (tab1 (ty_70) (tab0))) (inl1 (fi_27) (inl0)) (spec0) (mspec0)
theorem n_l_szSession (k : Nat) : NOk (c_l_szSession k) := nok (inl1 (fi_27) (inl0))
theorem s_l_szSession (k : Nat) : SG 27 (sp_l_szSession k) := ⟨specGood_run (o_l_szSession k) mixed (n_l_szSession k) (d := k) [ySession, (.int .i64)] [(.int .i64)] [] (fun x => l_szSession k x.1 x.2.1) (fun x => r_l_szSession k x.1 x.2.1), (fi_27).2⟩
theorem o_l_szSessionS (k : Nat) : Ok Tryz.prog (c_l_szSessionS k) := ok_of (map0) (ptr0) (eq0) (tab1 (ty_22) (tab1 (ty_70) (tab0))) (inl1 (fi_9) (inl0)) (spec1 (s_l_szSession k) (spec0)) (mspec0)
theorem n_l_szSessionS (k : Nat) : NOk (c_l_szSessionS k) := nok (inl1 (fi_9) (inl0))
theorem s_l_szSessionS (k : Nat) : SG 9 (sp_l_szSessionS k) := ⟨specGood_run (o_l_szSessionS k) mixed (n_l_szSessionS k) (d := k) [(.slice 70 ySession), (.int .i64)] [(.int .i64)] [] (fun x => l_szSessionS k x.1 x.2.1) (fun x => r_l_szSessionS k x.1 x.2.1), (fi_9).2⟩
theorem o_l_szIntS (k : Nat) : Ok Tryz.prog (c_l_szIntS k) := ok_of (map0) (ptr0) (eq0) (tab1 (ty_55) (tab0)) (inl1 (fi_56) (inl0)) (spec0) (mspec0)
theorem n_l_szIntS (k : Nat) : NOk (c_l_szIntS k) := nok (inl1 (fi_56) (inl0))
theorem s_l_szIntS (k : Nat) : SG 56 (sp_l_szIntS k) := ⟨specGood_run (o_l_szIntS k) mixed (n_l_szIntS k) (d := k) [(.slice 3 (.int .i64)), (.int .i64)] [(.int .i64)] [] (fun x => l_szIntS k x.1 x.2.1) (fun x => r_l_szIntS k x.1 x.2.1), (fi_56).2⟩
theorem o_l_szEvent (k : Nat) : Ok Tryz.prog (c_l_szEvent k) := ok_of (map0) (ptr0) (eq0) (tab1 (ty_9) (tab1 (ty_55) (tab1 (ty_93) (tab0)))) (inl1 (fi_54) (inl0)) (spec1 (s_l_szIntS k) (spec0)) (mspec0)
theorem n_l_szEvent (k : Nat) : NOk (c_l_szEvent k) := nok (inl1 (fi_54) (inl0))
theorem s_l_szEvent (k : Nat) : SG 54 (sp_l_szEvent k) := ⟨specGood_run (o_l_szEvent k) mixed (n_l_szEvent k) (d := k) [yEvent, (.int .i64)] [(.int .i64)] [] (fun x => l_szEvent k x.1 x.2.1) (fun x => r_l_szEvent k x.1 x.2.1), (fi_54).2⟩
theorem o_l_szEventS (k : Nat) : Ok Tryz.prog (c_l_szEventS k) := ok_of (map0) (ptr0) (eq0) (tab1 (ty_23) (tab1 (ty_93) (tab0))) (inl1 (fi_28) (inl0)) (spec1 (s_l_szEvent k) (spec0)) (mspec0)
theorem n_l_szEventS (k : Nat) : NOk (c_l_szEventS k) := nok (inl1 (fi_28) (inl0))
theorem s_l_szEventS (k : Nat) : SG 28 (sp_l_szEventS k) := ⟨specGood_run (o_l_szEventS k) mixed (n_l_szEventS k) (d := k) [(.slice 93 yEvent), (.int .i64)] [(.int .i64)] [] (fun x => l_szEventS k x.1 x.2.1) (fun x => r_l_szEventS k x.1 x.2.1), (fi_28).2⟩
theorem o_l_szItemS (k : Nat) : Ok Tryz.prog (c_l_szItemS k) := ok_of (map0) (ptr0) (eq0) (tab1 (ty_95) (tab0)) (inl1 (fi_55) (inl0)) (spec0) (mspec0)
theorem n_l_szItemS (k : Nat) : NOk (c_l_szItemS k) := nok (inl1 (fi_55) (inl0))
theorem s_l_szItemS (k : Nat) : SG 55 (sp_l_szItemS k) := ⟨specGood_run (o_l_szItemS k) mixed (n_l_szItemS k) (d := k) [(.slice 119 yItem), (.int .i64)] [(.int .i64)] [] (fun x => l_szItemS k x.1 x.2.1) (fun x => r_l_szItemS k x.1 x.2.1), (fi_55).2⟩
theorem o_l_szItemSS (k : Nat) : Ok Tryz.prog (c_l_szItemSS k) := ok_of (map0) (ptr0) (eq0) (tab1 (ty_24) (tab1 (ty_95) (tab0))) (inl1 (fi_29) (inl0)) (spec1 (s_l_szItemS k) (spec0)) (mspec0)
theorem n_l_szItemSS (k : Nat) : NOk (c_l_szItemSS k) := nok (inl1 (fi_29) (inl0))
theorem s_l_szItemSS (k : Nat) : SG 29 (sp_l_szItemSS k) := ⟨specGood_run (o_l_szItemSS k) mixed (n_l_szItemSS k) (d := k) [(.slice 95 (.slice 119 yItem)), (.int .i64)] [(.int .i64)] [] (fun x => l_szItemSS k x.1 x.2.1) (fun x => r_l_szItemSS k x.1 x.2.1), (fi_29).2⟩
theorem o_l_szBoolS (k : Nat) : Ok Tryz.prog (c_l_szBoolS k) := ok_of (map0) (ptr0) (eq0) (tab1 (ty_25) (tab0)) (inl1 (fi_30) (inl0)) (spec0) (mspec0)
theorem n_l_szBoolS (k : Nat) : NOk (c_l_szBoolS k) := nok (inl1 (fi_30) (inl0))
theorem s_l_szBoolS (k : Nat) : SG 30 (sp_l_szBoolS k) := ⟨specGood_run (o_l_szBoolS k) mixed (n_l_szBoolS k) (d := k) [(.slice 4 .bool), (.int .i64)] [(.int .i64)] [] (fun x => l_szBoolS k x.1 x.2.1) (fun x => r_l_szBoolS k x.1 x.2.1), (fi_30).2⟩
theorem o_l_szRoom (k : Nat) : Ok Tryz.prog (c_l_szRoom k) := ok_of (map0) (ptr0) (eq0) (tab1 (ty_23) (tab1 (ty_24) (tab1 (ty_25) (tab1 (ty_27) (tab0))))) (inl1 (fi_10) (inl0)) (spec1 (s_l_szEventS k) (spec1 (s_l_szItemSS k) (spec1 (s_l_szBoolS k) (spec0)))) (mspec0)
theorem n_l_szRoom (k : Nat) : NOk (c_l_szRoom k) := nok (inl1 (fi_10) (inl0))
theorem s_l_szRoom (k : Nat) : SG 10 (sp_l_szRoom k) := ⟨specGood_run (o_l_szRoom k) mixed (n_l_szRoom k) (d := k) [yRoom, (.int .i64)] [(.int .i64)] [] (fun x => l_szRoom k x.1 x.2.1) (fun x => r_l_szRoom k x.1 x.2.1), (fi_10).2⟩
theorem o_l_szOut (k : Nat) : Ok Tryz.prog (c_l_szOut k) := ok_of (map0) (ptr0) (eq0) (tab1 (ty_55) (tab1 (ty_75) (tab0))) (inl1 (fi_31) (inl0)) (spec1 (s_l_szIntS k) (spec0)) (mspec0)
theorem n_l_szOut (k : Nat) : NOk (c_l_szOut k) := nok (inl1 (fi_31) (inl0))
theorem s_l_szOut (k : Nat) : SG 31 (sp_l_szOut k) := ⟨specGood_run (o_l_szOut k) mixed (n_l_szOut k) (d := k) [yOut, (.int .i64)] [(.int .i64)] [] (fun x => l_szOut k x.1 x.2.1) (fun x => r_l_szOut k x.1 x.2.1), (fi_31).2⟩
theorem o_l_szOutS (k : Nat) : Ok Tryz.prog (c_l_szOutS k) := ok_of (map0) (ptr0) (eq0) (tab1 (ty_28) (tab1 (ty_75) (tab0))) (inl1 (fi_11) (inl0)) (spec1 (s_l_szOut k) (spec0)) (mspec0)
theorem n_l_szOutS (k : Nat) : NOk (c_l_szOutS k) := nok (inl1 (fi_11) (inl0))
theorem s_l_szOutS (k : Nat) : SG 11 (sp_l_szOutS k) := ⟨specGood_run (o_l_szOutS k) mixed (n_l_szOutS k) (d := k) [(.slice 75 yOut), (.int .i64)] [(.int .i64)] [] (fun x => l_szOutS k x.1 x.2.1) (fun x => r_l_szOutS k x.1 x.2.1), (fi_11).2⟩
theorem o_l_szHall (k : Nat) : Ok Tryz.prog (c_l_szHall k) := ok_of (map0) (ptr0) (eq0) (tab1 (ty_22) (tab1 (ty_27) (tab1 (ty_28) (tab1 (ty_30) (tab0))))) (inl1 (fi_4) (inl0)) (spec1 (s_l_szSessionS k) (spec1 (s_l_szRoom k) (spec1 (s_l_szOutS k) (spec0)))) (mspec0)
theorem n_l_szHall (k : Nat) : NOk (c_l_szHall k) := nok (inl1 (fi_4) (inl0))
theorem s_l_szHall (k : Nat) : SG 4 (sp_l_szHall k) := ⟨specGood_run (o_l_szHall k) mixed (n_l_szHall k) (d := k) [yHall, (.int .i64)] [(.int .i64)] [] (fun x => l_szHall k x.1 x.2.1) (fun x => r_l_szHall k x.1 x.2.1), (fi_4).2⟩
theorem o_s_l01In (k : Nat) : Ok Tryz.prog (c_s_l01In k) := ok_of (map0) (ptr0) (eq0) (tab0) (inl1 (fi_33) (inl0)) (spec0) (mspec0)
theorem n_s_l01In (k : Nat) : NOk (c_s_l01In k) := nok (inl1 (fi_33) (inl0))
theorem s_s_l01In (k : Nat) : SG 33 (sp_s_l01In k) := ⟨specGood_run (o_s_l01In k) mixed (n_s_l01In k) (d := k) [(.int .i64), (.int .i64), (.int .i64)] [.bool] [] (fun x => s_l01In k x.1 x.2.1 x.2.2.1) (fun x => r_s_l01In k x.1 x.2.1 x.2.2.1), (fi_33).2⟩
theorem o_s_l09Levels (k : Nat) : Ok Tryz.prog (c_s_l09Levels k) := ok_of (map0) (ptr0) (eq0) (tab1 (ty_3) (tab1 (ty_55) (tab0))) (inl1 (fi_81) (inl0)) (spec1 (s_s_l01In k) (spec0)) (mspec0)
theorem n_s_l09Levels (k : Nat) : NOk (c_s_l09Levels k) := nok (inl1 (fi_81) (inl0))
theorem s_s_l09Levels (k : Nat) : SG 81 (sp_s_l09Levels k) := ⟨specGood_run (o_s_l09Levels k) mixed (n_s_l09Levels k) (d := k) [(.slice 3 (.int .i64))] [.bool] [] (fun x => s_l09Levels k x.1) (fun x => r_s_l09Levels k x.1), (fi_81).2⟩
theorem o_s_l09Body (k : Nat) : Ok Tryz.prog (c_s_l09Body k) := ok_of (map0) (ptr0) (eq0) (tab1 (ty_3) (tab1 (ty_9) (tab1 (ty_55) (tab1 (ty_57) (tab0))))) (inl1 (fi_59) (inl0)) (spec1 (s_s_l01In k) (spec1 (s_s_l09Levels k) (spec0))) (mspec0)
theorem n_s_l09Body (k : Nat) : NOk (c_s_l09Body k) := nok (inl1 (fi_59) (inl0))
theorem s_s_l09Body (k : Nat) : SG 59 (sp_s_l09Body k) := ⟨specGood_run (o_s_l09Body k) mixed (n_s_l09Body k) (d := k) [yEvent] [.bool] [] (fun x => s_l09Body k x.1) (fun x => r_s_l09Body k x.1), (fi_59).2⟩
theorem o_s_EventOk (k : Nat) : Ok Tryz.prog (c_s_EventOk k) := ok_of (map0) (ptr0) (eq0) (tab1 (ty_3) (tab1 (ty_4) (tab1 (ty_55) (tab1 (ty_57) (tab0))))) (inl1 (fi_36) (inl0)) (spec1 (s_s_l01In k) (spec1 (s_s_l09Body k) (spec0))) (mspec0)
theorem n_s_EventOk (k : Nat) : NOk (c_s_EventOk k) := nok (inl1 (fi_36) (inl0))
theorem s_s_EventOk (k : Nat) : SG 36 (sp_s_EventOk k) := ⟨specGood_run (o_s_EventOk k) mixed (n_s_EventOk k) (d := k) [yEvent] [.bool] [] (fun x => s_EventOk k x.1) (fun x => r_s_EventOk k x.1), (fi_36).2⟩
theorem o_s_l12Has (k : Nat) : Ok Tryz.prog (c_s_l12Has k) := ok_of (map0) (ptr0) (eq0) (tab1 (ty_3) (tab1 (ty_35) (tab1 (ty_38) (tab1 (ty_57) (tab0))))) (inl1 (fi_74) (inl0)) (spec0) (mspec0)
theorem n_s_l12Has (k : Nat) : NOk (c_s_l12Has k) := nok (inl1 (fi_74) (inl0))
theorem s_s_l12Has (k : Nat) : SG 74 (sp_s_l12Has k) := ⟨specGood_run (o_s_l12Has k) mixed (n_s_l12Has k) (d := k) [yRoom1, (.int .i64)] [(.int .i64)] [] (fun x => s_l12Has k x.1 x.2.1) (fun x => r_s_l12Has k x.1 x.2.1), (fi_74).2⟩
theorem o_s_l10Find (k : Nat) : Ok Tryz.prog (c_s_l10Find k) := ok_of (map0) (ptr0) (eq0) (tab1 (ty_3) (tab1 (ty_35) (tab1 (ty_57) (tab0)))) (inl1 (fi_92) (inl0)) (spec0) (mspec0)
theorem n_s_l10Find (k : Nat) : NOk (c_s_l10Find k) := nok (inl1 (fi_92) (inl0))
theorem s_s_l10Find (k : Nat) : SG 92 (sp_s_l10Find k) := ⟨specGood_run (o_s_l10Find k) mixed (n_s_l10Find k) (d := k) [(.slice 57 yEvent), (.int .i64)] [yEvent, .bool] [false, false] (fun x => s_l10Find k x.1 x.2.1) (fun x => r_s_l10Find k x.1 x.2.1), (fi_92).2⟩
theorem o_s_At (k : Nat) : Ok Tryz.prog (c_s_At k) := ok_of (map0) (ptr0) (eq0) (tab1 (ty_3) (tab1 (ty_100) (tab1 (ty_117) (tab0)))) (inl1 (fi_93) (inl0)) (spec0) (mspec0)
theorem n_s_At (k : Nat) : NOk (c_s_At k) := nok (inl1 (fi_93) (inl0))
theorem s_s_At (k : Nat) : SG 93 (sp_s_At k) := ⟨specGood_run (o_s_At k) mixed (n_s_At k) (d := k) [(.slice 117 yItem), (.int .i64)] [(.int .i64)] [] (fun x => s_At k x.1 x.2.1) (fun x => r_s_At k x.1 x.2.1), (fi_93).2⟩
theorem o_s_MemberOf (k : Nat) : Ok Tryz.prog (c_s_MemberOf k) := ok_of (map0) (ptr0) (eq0) (tab1 (ty_3) (tab1 (ty_57) (tab0))) (inl1 (fi_96) (inl0)) (spec1 (s_s_l01In k) (spec1 (s_s_l10Find k) (spec1 (s_s_At k) (spec0)))) (mspec0)
theorem n_s_MemberOf (k : Nat) : NOk (c_s_MemberOf k) := nok (inl1 (fi_96) (inl0))
theorem s_s_MemberOf (k : Nat) : SG 96 (sp_s_MemberOf k) := ⟨specGood_run (o_s_MemberOf k) mixed (n_s_MemberOf k) (d := k) [(.slice 57 yEvent), (.slice 117 yItem), (.int .i64)] [(.int .i64)] [] (fun x => s_MemberOf k x.1 x.2.1 x.2.2.1) (fun x => r_s_MemberOf k x.1 x.2.1 x.2.2.1), (fi_96).2⟩
theorem o_s_LevelOf (k : Nat) : Ok Tryz.prog (c_s_LevelOf k) := ok_of (map0) (ptr0) (eq0) (tab1 (ty_3) (tab1 (ty_55) (tab1 (ty_57) (tab0)))) (inl1 (fi_97) (inl0)) (spec1 (s_s_l01In k) (spec1 (s_s_l10Find k) (spec1 (s_s_At k) (spec0)))) (mspec0)
theorem n_s_LevelOf (k : Nat) : NOk (c_s_LevelOf k) := nok (inl1 (fi_97) (inl0))
theorem s_s_LevelOf (k : Nat) : SG 97 (sp_s_LevelOf k) := ⟨specGood_run (o_s_LevelOf k) mixed (n_s_LevelOf k) (d := k) [(.slice 57 yEvent), (.slice 117 yItem), (.int .i64)] [(.int .i64)] [] (fun x => s_LevelOf k x.1 x.2.1 x.2.2.1) (fun x => r_s_LevelOf k x.1 x.2.1 x.2.2.1), (fi_97).2⟩
theorem o_s_l10Empty (k : Nat) : Ok Tryz.prog (c_s_l10Empty k) := ok_of (map0) (ptr0) (eq0) (tab1 (ty_3) (tab1 (ty_100) (tab1 (ty_117) (tab0)))) (inl1 (fi_131) (inl0)) (spec0) (mspec0)
theorem n_s_l10Empty (k : Nat) : NOk (c_s_l10Empty k) := nok (inl1 (fi_131) (inl0))
theorem s_s_l10Empty (k : Nat) : SG 131 (sp_s_l10Empty k) := ⟨specGood_run (o_s_l10Empty k) mixed (n_s_l10Empty k) (d := k) [(.slice 117 yItem)] [.bool] [] (fun x => s_l10Empty k x.1) (fun x => r_s_l10Empty k x.1), (fi_131).2⟩
theorem o_s_l10Self (k : Nat) : Ok Tryz.prog (c_s_l10Self k) := ok_of (map0) (ptr0) (eq0) (tab1 (ty_3) (tab1 (ty_57) (tab0))) (inl1 (fi_110) (inl0)) (spec1 (s_s_l10Find k) (spec1 (s_s_At k) (spec1 (s_s_MemberOf k) (spec1 (s_s_l10Empty k) (spec0))))) (mspec0)
theorem n_s_l10Self (k : Nat) : NOk (c_s_l10Self k) := nok (inl1 (fi_110) (inl0))
theorem s_s_l10Self (k : Nat) : SG 110 (sp_s_l10Self k) := ⟨specGood_run (o_s_l10Self k) mixed (n_s_l10Self k) (d := k) [(.slice 57 yEvent), (.slice 117 yItem), yEvent] [.bool] [] (fun x => s_l10Self k x.1 x.2.1 x.2.2.1) (fun x => r_s_l10Self k x.1 x.2.1 x.2.2.1), (fi_110).2⟩
theorem o_s_l10Member (k : Nat) : Ok Tryz.prog (c_s_l10Member k) := ok_of (map0) (ptr0) (eq0) (tab1 (ty_3) (tab1 (ty_57) (tab0))) (inl1 (fi_94) (inl0)) (spec1 (s_s_MemberOf k) (spec1 (s_s_LevelOf k) (spec1 (s_s_l10Self k) (spec0)))) (mspec0)
theorem n_s_l10Member (k : Nat) : NOk (c_s_l10Member k) := nok (inl1 (fi_94) (inl0))
theorem s_s_l10Member (k : Nat) : SG 94 (sp_s_l10Member k) := ⟨specGood_run (o_s_l10Member k) mixed (n_s_l10Member k) (d := k) [(.slice 57 yEvent), (.slice 117 yItem), yEvent] [.bool] [] (fun x => s_l10Member k x.1 x.2.1 x.2.2.1) (fun x => r_s_l10Member k x.1 x.2.1 x.2.2.1), (fi_94).2⟩
theorem o_s_l10Power (k : Nat) : Ok Tryz.prog (c_s_l10Power k) := ok_of (map0) (ptr0) (eq0) (tab1 (ty_3) (tab1 (ty_55) (tab1 (ty_57) (tab0)))) (inl1 (fi_95) (inl0)) (spec1 (s_s_MemberOf k) (spec1 (s_s_LevelOf k) (spec0))) (mspec0)
theorem n_s_l10Power (k : Nat) : NOk (c_s_l10Power k) := nok (inl1 (fi_95) (inl0))
theorem s_s_l10Power (k : Nat) : SG 95 (sp_s_l10Power k) := ⟨specGood_run (o_s_l10Power k) mixed (n_s_l10Power k) (d := k) [(.slice 57 yEvent), (.slice 117 yItem), yEvent] [.bool] [] (fun x => s_l10Power k x.1 x.2.1 x.2.2.1) (fun x => r_s_l10Power k x.1 x.2.1 x.2.2.1), (fi_95).2⟩
theorem o_s_Allowed (k : Nat) : Ok Tryz.prog (c_s_Allowed k) := ok_of (map0) (ptr0) (eq0) (tab1 (ty_3) (tab1 (ty_57) (tab1 (ty_100) (tab0)))) (inl1 (fi_76) (inl0)) (spec1 (s_s_EventOk k) (spec1 (s_s_l10Find k) (spec1 (s_s_At k) (spec1 (s_s_l10Member k) (spec1 (s_s_l10Power k) (spec1 (s_s_MemberOf k) (spec1 (s_s_LevelOf k) (spec0)))))))) (mspec0)
theorem n_s_Allowed (k : Nat) : NOk (c_s_Allowed k) := nok (inl1 (fi_76) (inl0))
theorem s_s_Allowed (k : Nat) : SG 76 (sp_s_Allowed k) := ⟨specGood_run (o_s_Allowed k) mixed (n_s_Allowed k) (d := k) [(.slice 57 yEvent), (.slice 117 yItem), yEvent] [.bool] [] (fun x => s_Allowed k x.1 x.2.1 x.2.2.1) (fun x => r_s_Allowed k x.1 x.2.1 x.2.2.1), (fi_76).2⟩
theorem o_s_KeyOf (k : Nat) : Ok Tryz.prog (c_s_KeyOf k) := ok_of (map0) (ptr0) (eq0) (tab1 (ty_3) (tab1 (ty_57) (tab0))) (inl1 (fi_77) (inl0)) (spec1 (s_s_l01In k) (spec0)) (mspec0)
theorem n_s_KeyOf (k : Nat) : NOk (c_s_KeyOf k) := nok (inl1 (fi_77) (inl0))
theorem s_s_KeyOf (k : Nat) : SG 77 (sp_s_KeyOf k) := ⟨specGood_run (o_s_KeyOf k) mixed (n_s_KeyOf k) (d := k) [yEvent] [(.int .i64)] [] (fun x => s_KeyOf k x.1) (fun x => r_s_KeyOf k x.1), (fi_77).2⟩
theorem o_s_l10Key (k : Nat) : Ok Tryz.prog (c_s_l10Key k) := ok_of (map0) (ptr0) (eq0) (tab0) (inl1 (fi_111) (inl0)) (spec1 (s_s_l01In k) (spec0)) (mspec0)
theorem n_s_l10Key (k : Nat) : NOk (c_s_l10Key k) := nok (inl1 (fi_111) (inl0))
theorem s_s_l10Key (k : Nat) : SG 111 (sp_s_l10Key k) := ⟨specGood_run (o_s_l10Key k) mixed (n_s_l10Key k) (d := k) [(.int .i64)] [.bool] [] (fun x => s_l10Key k x.1) (fun x => r_s_l10Key k x.1), (fi_111).2⟩
theorem o_s_StateOk (k : Nat) : Ok Tryz.prog (c_s_StateOk k) := ok_of (map0) (ptr0) (eq0) (tab1 (ty_3) (tab1 (ty_100) (tab1 (ty_117) (tab0)))) (inl1 (fi_98) (inl0)) (spec1 (s_s_l01In k) (spec1 (s_s_l10Key k) (spec0))) (mspec0)
theorem n_s_StateOk (k : Nat) : NOk (c_s_StateOk k) := nok (inl1 (fi_98) (inl0))
theorem s_s_StateOk (k : Nat) : SG 98 (sp_s_StateOk k) := ⟨specGood_run (o_s_StateOk k) mixed (n_s_StateOk k) (d := k) [(.slice 117 yItem)] [.bool] [] (fun x => s_StateOk k x.1) (fun x => r_s_StateOk k x.1), (fi_98).2⟩
theorem o_s_Put (k : Nat) : Ok Tryz.prog (c_s_Put k) := ok_of (map0) (ptr0) (eq0) (tab1 (ty_3) (tab1 (ty_100) (tab1 (ty_117) (tab0)))) (inl1 (fi_78) (inl0)) (spec1 (s_s_StateOk k) (spec0)) (mspec0)
theorem n_s_Put (k : Nat) : NOk (c_s_Put k) := nok (inl1 (fi_78) (inl0))
theorem s_s_Put (k : Nat) : SG 78 (sp_s_Put k) := ⟨specGood_run (o_s_Put k) mixed (n_s_Put k) (d := k) [(.slice 117 yItem), (.int .i64), (.int .i64)] [(.slice 117 yItem)] [true] (fun x => s_Put k x.1 x.2.1 x.2.2.1) (fun x => r_s_Put k x.1 x.2.1 x.2.2.1), (fi_78).2⟩
theorem o_s_l11Keys (k : Nat) : Ok Tryz.prog (c_s_l11Keys k) := ok_of (map0) (ptr0) (eq0) (tab1 (ty_3) (tab1 (ty_36) (tab1 (ty_55) (tab1 (ty_100) (tab1 (ty_117) (tab0)))))) (inl1 (fi_124) (inl0)) (spec0) (mspec0)
theorem n_s_l11Keys (k : Nat) : NOk (c_s_l11Keys k) := nok (inl1 (fi_124) (inl0))
theorem s_s_l11Keys (k : Nat) : SG 124 (sp_s_l11Keys k) := ⟨specGood_run (o_s_l11Keys k) mixed (n_s_l11Keys k) (d := k) [(.slice 100 (.slice 117 yItem))] [(.slice 3 (.int .i64))] [true] (fun x => s_l11Keys k x.1) (fun x => r_s_l11Keys k x.1), (fi_124).2⟩
theorem o_s_l11Alike (k : Nat) : Ok Tryz.prog (c_s_l11Alike k) := ok_of (map0) (ptr0) (eq0) (tab1 (ty_36) (tab1 (ty_100) (tab0))) (inl1 (fi_125) (inl0)) (spec1 (s_s_At k) (spec0)) (mspec0)
theorem n_s_l11Alike (k : Nat) : NOk (c_s_l11Alike k) := nok (inl1 (fi_125) (inl0))
theorem s_s_l11Alike (k : Nat) : SG 125 (sp_s_l11Alike k) := ⟨specGood_run (o_s_l11Alike k) mixed (n_s_l11Alike k) (d := k) [(.slice 100 (.slice 117 yItem)), (.int .i64)] [.bool] [] (fun x => s_l11Alike k x.1 x.2.1) (fun x => r_s_l11Alike k x.1 x.2.1), (fi_125).2⟩
theorem o_s_Agreed (k : Nat) : Ok Tryz.prog (c_s_Agreed k) := ok_of (map0) (ptr0) (eq0) (tab1 (ty_3) (tab1 (ty_36) (tab1 (ty_55) (tab1 (ty_100) (tab1 (ty_117) (tab0)))))) (inl1 (fi_107) (inl0)) (spec1 (s_s_At k) (spec1 (s_s_l11Keys k) (spec1 (s_s_l11Alike k) (spec0)))) (mspec0)
theorem n_s_Agreed (k : Nat) : NOk (c_s_Agreed k) := nok (inl1 (fi_107) (inl0))
theorem s_s_Agreed (k : Nat) : SG 107 (sp_s_Agreed k) := ⟨specGood_run (o_s_Agreed k) mixed (n_s_Agreed k) (d := k) [(.slice 100 (.slice 117 yItem))] [(.slice 117 yItem)] [true] (fun x => s_Agreed k x.1) (fun x => r_s_Agreed k x.1), (fi_107).2⟩
theorem o_s_Clash (k : Nat) : Ok Tryz.prog (c_s_Clash k) := ok_of (map0) (ptr0) (eq0) (tab1 (ty_3) (tab1 (ty_55) (tab0))) (inl1 (fi_108) (inl0)) (spec1 (s_s_l11Keys k) (spec1 (s_s_l11Alike k) (spec0))) (mspec0)
theorem n_s_Clash (k : Nat) : NOk (c_s_Clash k) := nok (inl1 (fi_108) (inl0))
theorem s_s_Clash (k : Nat) : SG 108 (sp_s_Clash k) := ⟨specGood_run (o_s_Clash k) mixed (n_s_Clash k) (d := k) [(.slice 100 (.slice 117 yItem))] [(.slice 3 (.int .i64))] [true] (fun x => s_Clash k x.1) (fun x => r_s_Clash k x.1), (fi_108).2⟩
theorem o_s_l11Add (k : Nat) : Ok Tryz.prog (c_s_l11Add k) := ok_of (map0) (ptr0) (eq0) (tab1 (ty_3) (tab1 (ty_55) (tab0))) (inl1 (fi_126) (inl0)) (spec0) (mspec0)
theorem n_s_l11Add (k : Nat) : NOk (c_s_l11Add k) := nok (inl1 (fi_126) (inl0))
theorem s_s_l11Add (k : Nat) : SG 126 (sp_s_l11Add k) := ⟨specGood_run (o_s_l11Add k) mixed (n_s_l11Add k) (d := k) [(.slice 3 (.int .i64)), (.int .i64)] [(.slice 3 (.int .i64))] [true] (fun x => s_l11Add k x.1 x.2.1) (fun x => r_s_l11Add k x.1 x.2.1), (fi_126).2⟩
theorem o_s_l05In (k : Nat) : Ok Tryz.prog (c_s_l05In k) := ok_of (map0) (ptr0) (eq0) (tab1 (ty_3) (tab1 (ty_55) (tab0))) (inl1 (fi_128) (inl0)) (spec0) (mspec0)
theorem n_s_l05In (k : Nat) : NOk (c_s_l05In k) := nok (inl1 (fi_128) (inl0))
theorem s_s_l05In (k : Nat) : SG 128 (sp_s_l05In k) := ⟨specGood_run (o_s_l05In k) mixed (n_s_l05In k) (d := k) [(.slice 3 (.int .i64)), (.int .i64)] [.bool] [] (fun x => s_l05In k x.1 x.2.1) (fun x => r_s_l05In k x.1 x.2.1), (fi_128).2⟩
theorem o_s_l11Behind (k : Nat) : Ok Tryz.prog (c_s_l11Behind k) := ok_of (map0) (ptr0) (eq0) (tab1 (ty_3) (tab1 (ty_55) (tab1 (ty_57) (tab0)))) (inl1 (fi_127) (inl0)) (spec1 (s_s_l10Find k) (spec1 (s_s_l05In k) (spec0))) (mspec0)
theorem n_s_l11Behind (k : Nat) : NOk (c_s_l11Behind k) := nok (inl1 (fi_127) (inl0))
theorem s_s_l11Behind (k : Nat) : SG 127 (sp_s_l11Behind k) := ⟨specGood_run (o_s_l11Behind k) mixed (n_s_l11Behind k) (d := k) [(.slice 57 yEvent), (.int .i64)] [(.slice 3 (.int .i64))] [true] (fun x => s_l11Behind k x.1 x.2.1) (fun x => r_s_l11Behind k x.1 x.2.1), (fi_127).2⟩
theorem o_s_l11Ready (k : Nat) : Ok Tryz.prog (c_s_l11Ready k) := ok_of (map0) (ptr0) (eq0) (tab1 (ty_3) (tab1 (ty_55) (tab0))) (inl1 (fi_129) (inl0)) (spec1 (s_s_l05In k) (spec0)) (mspec0)
theorem n_s_l11Ready (k : Nat) : NOk (c_s_l11Ready k) := nok (inl1 (fi_129) (inl0))
theorem s_s_l11Ready (k : Nat) : SG 129 (sp_s_l11Ready k) := ⟨specGood_run (o_s_l11Ready k) mixed (n_s_l11Ready k) (d := k) [(.slice 3 (.int .i64)), (.slice 3 (.int .i64)), (.slice 3 (.int .i64))] [.bool] [] (fun x => s_l11Ready k x.1 x.2.1 x.2.2.1) (fun x => r_s_l11Ready k x.1 x.2.1 x.2.2.1), (fi_129).2⟩
theorem o_s_l11Heavy (k : Nat) : Ok Tryz.prog (c_s_l11Heavy k) := ok_of (map0) (ptr0) (eq0) (tab1 (ty_3) (tab1 (ty_57) (tab0))) (inl1 (fi_141) (inl0)) (spec0) (mspec0)
theorem n_s_l11Heavy (k : Nat) : NOk (c_s_l11Heavy k) := nok (inl1 (fi_141) (inl0))
theorem s_s_l11Heavy (k : Nat) : SG 141 (sp_s_l11Heavy k) := ⟨specGood_run (o_s_l11Heavy k) mixed (n_s_l11Heavy k) (d := k) [yEvent] [.bool] [] (fun x => s_l11Heavy k x.1) (fun x => r_s_l11Heavy k x.1), (fi_141).2⟩
theorem o_s_Heavier (k : Nat) : Ok Tryz.prog (c_s_Heavier k) := ok_of (map0) (ptr0) (eq0) (tab1 (ty_3) (tab1 (ty_4) (tab1 (ty_57) (tab0)))) (inl1 (fi_130) (inl0)) (spec1 (s_s_LevelOf k) (spec1 (s_s_l11Heavy k) (spec0))) (mspec0)
theorem n_s_Heavier (k : Nat) : NOk (c_s_Heavier k) := nok (inl1 (fi_130) (inl0))
theorem s_s_Heavier (k : Nat) : SG 130 (sp_s_Heavier k) := ⟨specGood_run (o_s_Heavier k) mixed (n_s_Heavier k) (d := k) [(.slice 57 yEvent), (.slice 117 yItem), yEvent, yEvent] [.bool] [] (fun x => s_Heavier k x.1 x.2.1 x.2.2.1 x.2.2.2.1) (fun x => r_s_Heavier k x.1 x.2.1 x.2.2.1 x.2.2.2.1), (fi_130).2⟩
theorem o_s_Order (k : Nat) : Ok Tryz.prog (c_s_Order k) := ok_of (map0) (ptr0) (eq0) (tab1 (ty_3) (tab1 (ty_55) (tab1 (ty_57) (tab1 (ty_141) (tab0))))) (inl1 (fi_109) (inl0)) (spec1 (s_s_l10Find k) (spec1 (s_s_l11Add k) (spec1 (s_s_l11Behind k) (spec1 (s_s_l05In k) (spec1 (s_s_l11Ready k) (spec1 (s_s_Heavier k) (spec0))))))) (mspec0)
theorem n_s_Order (k : Nat) : NOk (c_s_Order k) := nok (inl1 (fi_109) (inl0))
theorem s_s_Order (k : Nat) : SG 109 (sp_s_Order k) := ⟨specGood_run (o_s_Order k) mixed (n_s_Order k) (d := k) [(.slice 57 yEvent), (.slice 117 yItem), (.slice 3 (.int .i64))] [(.slice 3 (.int .i64))] [true] (fun x => s_Order k x.1 x.2.1 x.2.2.1) (fun x => r_s_Order k x.1 x.2.1 x.2.2.1), (fi_109).2⟩
theorem o_s_Resolve (k : Nat) : Ok Tryz.prog (c_s_Resolve k) := ok_of (map0) (ptr0) (eq0) (tab1 (ty_3) (tab1 (ty_36) (tab1 (ty_55) (tab1 (ty_57) (tab1 (ty_100) (tab0)))))) (inl1 (fi_91) (inl0)) (spec1 (s_s_Allowed k) (spec1 (s_s_KeyOf k) (spec1 (s_s_Put k) (spec1 (s_s_l10Find k) (spec1 (s_s_At k) (spec1 (s_s_Agreed k) (spec1 (s_s_Clash k) (spec1 (s_s_Order k) (spec0))))))))) (mspec0)
theorem n_s_Resolve (k : Nat) : NOk (c_s_Resolve k) := nok (inl1 (fi_91) (inl0))
theorem s_s_Resolve (k : Nat) : SG 91 (sp_s_Resolve k) := ⟨specGood_run (o_s_Resolve k) mixed (n_s_Resolve k) (d := k) [(.slice 57 yEvent), (.slice 100 (.slice 117 yItem))] [(.slice 117 yItem)] [true] (fun x => s_Resolve k x.1 x.2.1) (fun x => r_s_Resolve k x.1 x.2.1), (fi_91).2⟩
theorem o_s_l12Before (k : Nat) : Ok Tryz.prog (c_s_l12Before k) := ok_of (map0) (ptr0) (eq0) (tab1 (ty_3) (tab1 (ty_35) (tab1 (ty_36) (tab1 (ty_38) (tab1 (ty_55) (tab1 (ty_100) (tab0))))))) (inl1 (fi_73) (inl0)) (spec1 (s_s_l12Has k) (spec1 (s_s_Resolve k) (spec0))) (mspec0)
theorem n_s_l12Before (k : Nat) : NOk (c_s_l12Before k) := nok (inl1 (fi_73) (inl0))
theorem s_s_l12Before (k : Nat) : SG 73 (sp_s_l12Before k) := ⟨specGood_run (o_s_l12Before k) mixed (n_s_l12Before k) (d := k) [yRoom1, (.slice 3 (.int .i64))] [(.slice 117 yItem), .bool] [true] (fun x => s_l12Before k x.1 x.2.1) (fun x => r_s_l12Before k x.1 x.2.1), (fi_73).2⟩
theorem o_s_DepthOf (k : Nat) : Ok Tryz.prog (c_s_DepthOf k) := ok_of (map0) (ptr0) (eq0) (tab1 (ty_3) (tab1 (ty_35) (tab1 (ty_38) (tab1 (ty_55) (tab1 (ty_57) (tab0)))))) (inl1 (fi_75) (inl0)) (spec1 (s_s_l12Has k) (spec0)) (mspec0)
theorem n_s_DepthOf (k : Nat) : NOk (c_s_DepthOf k) := nok (inl1 (fi_75) (inl0))
theorem s_s_DepthOf (k : Nat) : SG 75 (sp_s_DepthOf k) := ⟨specGood_run (o_s_DepthOf k) mixed (n_s_DepthOf k) (d := k) [yRoom1, (.slice 3 (.int .i64))] [(.int .i64)] [] (fun x => s_DepthOf k x.1 x.2.1) (fun x => r_s_DepthOf k x.1 x.2.1), (fi_75).2⟩
theorem o_s_l12Add (k : Nat) : Ok Tryz.prog (c_s_l12Add k) := ok_of (map0) (ptr0) (eq0) (tab1 (ty_3) (tab1 (ty_25) (tab1 (ty_35) (tab1 (ty_36) (tab1 (ty_38) (tab1 (ty_55) (tab1 (ty_57) (tab0)))))))) (inl1 (fi_57) (inl0)) (spec1 (s_s_EventOk k) (spec1 (s_s_l12Before k) (spec1 (s_s_l12Has k) (spec1 (s_s_DepthOf k) (spec1 (s_s_Allowed k) (spec1 (s_s_KeyOf k) (spec1 (s_s_Put k) (spec0)))))))) (mspec0)
theorem n_s_l12Add (k : Nat) : NOk (c_s_l12Add k) := nok (inl1 (fi_57) (inl0))
theorem s_s_l12Add (k : Nat) : SG 57 (sp_s_l12Add k) := ⟨specGood_run (o_s_l12Add k) mixed (n_s_l12Add k) (d := k) [yRoom1, yEvent] [yRoom1, .bool] [true, true, true] (fun x => s_l12Add k x.1 x.2.1) (fun x => r_s_l12Add k x.1 x.2.1), (fi_57).2⟩
theorem o_s_l05SameInts (k : Nat) : Ok Tryz.prog (c_s_l05SameInts k) := ok_of (map0) (ptr0) (eq0) (tab1 (ty_3) (tab1 (ty_55) (tab0))) (inl1 (fi_35) (inl0)) (spec0) (mspec0)
theorem n_s_l05SameInts (k : Nat) : NOk (c_s_l05SameInts k) := nok (inl1 (fi_35) (inl0))
theorem s_s_l05SameInts (k : Nat) : SG 35 (sp_s_l05SameInts k) := ⟨specGood_run (o_s_l05SameInts k) mixed (n_s_l05SameInts k) (d := k) [(.slice 3 (.int .i64)), (.slice 3 (.int .i64))] [.bool] [] (fun x => s_l05SameInts k x.1 x.2.1) (fun x => r_s_l05SameInts k x.1 x.2.1), (fi_35).2⟩
theorem o_s_l09Same (k : Nat) : Ok Tryz.prog (c_s_l09Same k) := ok_of (map0) (ptr0) (eq0) (tab1 (ty_3) (tab1 (ty_9) (tab1 (ty_55) (tab1 (ty_57) (tab0))))) (inl1 (fi_79) (inl0)) (spec1 (s_s_l05SameInts k) (spec0)) (mspec0)
theorem n_s_l09Same (k : Nat) : NOk (c_s_l09Same k) := nok (inl1 (fi_79) (inl0))
theorem s_s_l09Same (k : Nat) : SG 79 (sp_s_l09Same k) := ⟨specGood_run (o_s_l09Same k) mixed (n_s_l09Same k) (d := k) [yEvent, yEvent] [.bool] [] (fun x => s_l09Same k x.1 x.2.1) (fun x => r_s_l09Same k x.1 x.2.1), (fi_79).2⟩
theorem o_s_l12SameState (k : Nat) : Ok Tryz.prog (c_s_l12SameState k) := ok_of (map0) (ptr0) (eq1 (eqt_117) (eq0)) (tab1 (ty_100) (tab1 (ty_117) (tab0))) (inl1 (fi_80) (inl0)) (spec0) (mspec0)
theorem n_s_l12SameState (k : Nat) : NOk (c_s_l12SameState k) := nok (inl1 (fi_80) (inl0))
theorem s_s_l12SameState (k : Nat) : SG 80 (sp_s_l12SameState k) := ⟨specGood_run (o_s_l12SameState k) mixed (n_s_l12SameState k) (d := k) [(.slice 117 yItem), (.slice 117 yItem)] [.bool] [] (fun x => s_l12SameState k x.1 x.2.1) (fun x => r_s_l12SameState k x.1 x.2.1), (fi_80).2⟩
theorem o_s_l12Same (k : Nat) : Ok Tryz.prog (c_s_l12Same k) := ok_of (map0) (ptr0) (eq0) (tab1 (ty_4) (tab1 (ty_25) (tab1 (ty_35) (tab1 (ty_36) (tab1 (ty_38) (tab1 (ty_57) (tab1 (ty_100) (tab0)))))))) (inl1 (fi_58) (inl0)) (spec1 (s_s_l09Same k) (spec1 (s_s_l12SameState k) (spec0))) (mspec0)
theorem n_s_l12Same (k : Nat) : NOk (c_s_l12Same k) := nok (inl1 (fi_58) (inl0))
theorem s_s_l12Same (k : Nat) : SG 58 (sp_s_l12Same k) := ⟨specGood_run (o_s_l12Same k) mixed (n_s_l12Same k) (d := k) [yRoom1, yRoom1] [.bool] [] (fun x => s_l12Same k x.1 x.2.1) (fun x => r_s_l12Same k x.1 x.2.1), (fi_58).2⟩
theorem o_s_RoomOk (k : Nat) : Ok Tryz.prog (c_s_RoomOk k) := ok_of (map0) (ptr0) (eq0) (tab1 (ty_35) (tab1 (ty_38) (tab1 (ty_57) (tab0)))) (inl1 (fi_32) (inl0)) (spec1 (s_s_l12Add k) (spec1 (s_s_l12Same k) (spec0))) (mspec0)
theorem n_s_RoomOk (k : Nat) : NOk (c_s_RoomOk k) := nok (inl1 (fi_32) (inl0))
theorem s_s_RoomOk (k : Nat) : SG 32 (sp_s_RoomOk k) := ⟨specGood_run (o_s_RoomOk k) mixed (n_s_RoomOk k) (d := k) [yRoom1] [.bool] [] (fun x => s_RoomOk k x.1) (fun x => r_s_RoomOk k x.1), (fi_32).2⟩
theorem o_s_l13Own (k : Nat) : Ok Tryz.prog (c_s_l13Own k) := ok_of (map0) (ptr0) (eq0) (tab1 (ty_3) (tab1 (ty_4) (tab1 (ty_25) (tab1 (ty_35) (tab1 (ty_38) (tab1 (ty_55) (tab1 (ty_57) (tab0)))))))) (inl1 (fi_34) (inl0)) (spec0) (mspec0)
theorem n_s_l13Own (k : Nat) : NOk (c_s_l13Own k) := nok (inl1 (fi_34) (inl0))
theorem s_s_l13Own (k : Nat) : SG 34 (sp_s_l13Own k) := ⟨specGood_run (o_s_l13Own k) mixed (n_s_l13Own k) (d := k) [yRoom1] [(.slice 3 (.int .i64))] [true] (fun x => s_l13Own k x.1) (fun x => r_s_l13Own k x.1), (fi_34).2⟩
theorem o_s_HallOk (k : Nat) : Ok Tryz.prog (c_s_HallOk k) := ok_of (map0) (ptr0) (eq0) (tab1 (ty_3) (tab1 (ty_9) (tab1 (ty_34) (tab1 (ty_38) (tab1 (ty_39) (tab1 (ty_41) (tab1 (ty_52) (tab1 (ty_55) (tab1 (ty_59) (tab0)))))))))) (inl1 (fi_12) (inl0)) (spec1 (s_s_RoomOk k) (spec1 (s_s_l01In k) (spec1 (s_s_l13Own k) (spec1 (s_s_l05SameInts k) (spec0))))) (mspec0)
theorem n_s_HallOk (k : Nat) : NOk (c_s_HallOk k) := nok (inl1 (fi_12) (inl0))
theorem s_s_HallOk (k : Nat) : SG 12 (sp_s_HallOk k) := ⟨specGood_run (o_s_HallOk k) mixed (n_s_HallOk k) (d := k) [yHall1] [.bool] [] (fun x => s_HallOk k x.1) (fun x => r_s_HallOk k x.1), (fi_12).2⟩
theorem o_s_l01Var (k : Nat) : Ok Tryz.prog (c_s_l01Var k) := ok_of (map0) (ptr0) (eq0) (tab1 (ty_3) (tab1 (ty_5) (tab1 (ty_9) (tab1 (ty_49) (tab0))))) (inl1 (fi_13) (inl0)) (spec0) (mspec0)
theorem n_s_l01Var (k : Nat) : NOk (c_s_l01Var k) := nok (inl1 (fi_13) (inl0))
theorem s_s_l01Var (k : Nat) : SG 13 (sp_s_l01Var k) := ⟨specGood_run (o_s_l01Var k) mixed (n_s_l01Var k) (d := k) [(.int .i64)] [.str] [] (fun x => s_l01Var k x.1) (fun x => r_s_l01Var k x.1), (fi_13).2⟩
theorem o_s_l05Short (k : Nat) : Ok Tryz.prog (c_s_l05Short k) := ok_of (map0) (ptr0) (eq0) (tab1 (ty_9) (tab0)) (inl1 (fi_14) (inl0)) (spec1 (s_s_l01Var k) (spec0)) (mspec0)
theorem n_s_l05Short (k : Nat) : NOk (c_s_l05Short k) := nok (inl1 (fi_14) (inl0))
theorem s_s_l05Short (k : Nat) : SG 14 (sp_s_l05Short k) := ⟨specGood_run (o_s_l05Short k) mixed (n_s_l05Short k) (d := k) [.str] [.str] [] (fun x => s_l05Short k x.1) (fun x => r_s_l05Short k x.1), (fi_14).2⟩
theorem o_s_l09Byte (k : Nat) : Ok Tryz.prog (c_s_l09Byte k) := ok_of (map0) (ptr0) (eq0) (tab1 (ty_3) (tab1 (ty_5) (tab1 (ty_9) (tab1 (ty_49) (tab0))))) (inl1 (fi_60) (inl0)) (spec0) (mspec0)
theorem n_s_l09Byte (k : Nat) : NOk (c_s_l09Byte k) := nok (inl1 (fi_60) (inl0))
theorem s_s_l09Byte (k : Nat) : SG 60 (sp_s_l09Byte k) := ⟨specGood_run (o_s_l09Byte k) mixed (n_s_l09Byte k) (d := k) [(.int .i64)] [.str] [] (fun x => s_l09Byte k x.1) (fun x => r_s_l09Byte k x.1), (fi_60).2⟩
theorem o_s_l09BodyText (k : Nat) : Ok Tryz.prog (c_s_l09BodyText k) := ok_of (map0) (ptr0) (eq0) (tab1 (ty_3) (tab1 (ty_9) (tab1 (ty_55) (tab1 (ty_57) (tab0))))) (inl1 (fi_37) (inl0)) (spec1 (s_s_l01Var k) (spec1 (s_s_l05Short k) (spec1 (s_s_l09Byte k) (spec0)))) (mspec0)
theorem n_s_l09BodyText (k : Nat) : NOk (c_s_l09BodyText k) := nok (inl1 (fi_37) (inl0))
theorem s_s_l09BodyText (k : Nat) : SG 37 (sp_s_l09BodyText k) := ⟨specGood_run (o_s_l09BodyText k) mixed (n_s_l09BodyText k) (d := k) [yEvent] [.str] [] (fun x => s_l09BodyText k x.1) (fun x => r_s_l09BodyText k x.1), (fi_37).2⟩
theorem o_s_EventText (k : Nat) : Ok Tryz.prog (c_s_EventText k) := ok_of (map0) (ptr0) (eq0) (tab1 (ty_3) (tab1 (ty_55) (tab1 (ty_57) (tab0)))) (inl1 (fi_15) (inl0)) (spec1 (s_s_l01Var k) (spec1 (s_s_EventOk k) (spec1 (s_s_l09BodyText k) (spec0)))) (mspec0)
theorem n_s_EventText (k : Nat) : NOk (c_s_EventText k) := nok (inl1 (fi_15) (inl0))
theorem s_s_EventText (k : Nat) : SG 15 (sp_s_EventText k) := ⟨specGood_run (o_s_EventText k) mixed (n_s_EventText k) (d := k) [yEvent] [.str, .bool] [] (fun x => s_EventText k x.1) (fun x => r_s_EventText k x.1), (fi_15).2⟩
theorem o_s_HallText (k : Nat) : Ok Tryz.prog (c_s_HallText k) := ok_of (map0) (ptr0) (eq0) (tab1 (ty_3) (tab1 (ty_9) (tab1 (ty_34) (tab1 (ty_35) (tab1 (ty_38) (tab1 (ty_39) (tab1 (ty_41) (tab1 (ty_49) (tab1 (ty_52) (tab1 (ty_57) (tab1 (ty_59) (tab0)))))))))))) (inl1 (fi_5) (inl0)) (spec1 (s_s_HallOk k) (spec1 (s_s_l01Var k) (spec1 (s_s_l05Short k) (spec1 (s_s_EventText k) (spec0))))) (mspec0)
theorem n_s_HallText (k : Nat) : NOk (c_s_HallText k) := nok (inl1 (fi_5) (inl0))
theorem s_s_HallText (k : Nat) : SG 5 (sp_s_HallText k) := ⟨specGood_run (o_s_HallText k) mixed (n_s_HallText k) (d := k) [yHall1] [.str, .bool] [] (fun x => s_HallText k x.1) (fun x => r_s_HallText k x.1), (fi_5).2⟩
theorem o_l_toSession (k : Nat) : Ok Tryz.prog (c_l_toSession k) := ok_of (map0) (ptr0) (eq0) (tab1 (ty_3) (tab1 (ty_9) (tab1 (ty_52) (tab1 (ty_70) (tab0))))) (inl1 (fi_38) (inl0)) (spec0) (mspec0)
theorem n_l_toSession (k : Nat) : NOk (c_l_toSession k) := nok (inl1 (fi_38) (inl0))
theorem s_l_toSession (k : Nat) : SG 38 (sp_l_toSession k) := ⟨specGood_run (o_l_toSession k) mixed (n_l_toSession k) (d := k) [ySession] [ySession] [] (fun x => l_toSession k x.1) (fun x => r_l_toSession k x.1), (fi_38).2⟩
theorem o_l_toSessionS (k : Nat) : Ok Tryz.prog (c_l_toSessionS k) := ok_of (map0) (ptr0) (eq0) (tab1 (ty_22) (tab1 (ty_34) (tab1 (ty_52) (tab1 (ty_70) (tab0))))) (inl1 (fi_16) (inl0)) (spec1 (s_l_toSession k) (spec0)) (mspec0)
theorem n_l_toSessionS (k : Nat) : NOk (c_l_toSessionS k) := nok (inl1 (fi_16) (inl0))
theorem s_l_toSessionS (k : Nat) : SG 16 (sp_l_toSessionS k) := ⟨specGood_run (o_l_toSessionS k) mixed (n_l_toSessionS k) (d := k) [(.slice 70 ySession)] [(.slice 52 ySession)] [true] (fun x => l_toSessionS k x.1) (fun x => r_l_toSessionS k x.1), (fi_16).2⟩
theorem o_l_toIntS (k : Nat) : Ok Tryz.prog (c_l_toIntS k) := ok_of (map0) (ptr0) (eq0) (tab1 (ty_3) (tab1 (ty_55) (tab0))) (inl1 (fi_63) (inl0)) (spec0) (mspec0)
theorem n_l_toIntS (k : Nat) : NOk (c_l_toIntS k) := nok (inl1 (fi_63) (inl0))
theorem s_l_toIntS (k : Nat) : SG 63 (sp_l_toIntS k) := ⟨specGood_run (o_l_toIntS k) mixed (n_l_toIntS k) (d := k) [(.slice 3 (.int .i64))] [(.slice 3 (.int .i64))] [true] (fun x => l_toIntS k x.1) (fun x => r_l_toIntS k x.1), (fi_63).2⟩
theorem o_l_toEvent (k : Nat) : Ok Tryz.prog (c_l_toEvent k) := ok_of (map0) (ptr0) (eq0) (tab1 (ty_3) (tab1 (ty_9) (tab1 (ty_55) (tab1 (ty_57) (tab1 (ty_93) (tab0)))))) (inl1 (fi_61) (inl0)) (spec1 (s_l_toIntS k) (spec0)) (mspec0)
theorem n_l_toEvent (k : Nat) : NOk (c_l_toEvent k) := nok (inl1 (fi_61) (inl0))
theorem s_l_toEvent (k : Nat) : SG 61 (sp_l_toEvent k) := ⟨specGood_run (o_l_toEvent k) mixed (n_l_toEvent k) (d := k) [yEvent] [yEvent] [true, true] (fun x => l_toEvent k x.1) (fun x => r_l_toEvent k x.1), (fi_61).2⟩
theorem o_l_toEventS (k : Nat) : Ok Tryz.prog (c_l_toEventS k) := ok_of (map0) (ptr0) (eq0) (tab1 (ty_23) (tab1 (ty_35) (tab1 (ty_57) (tab1 (ty_93) (tab0))))) (inl1 (fi_39) (inl0)) (spec1 (s_l_toEvent k) (spec0)) (mspec0)
theorem n_l_toEventS (k : Nat) : NOk (c_l_toEventS k) := nok (inl1 (fi_39) (inl0))
theorem s_l_toEventS (k : Nat) : SG 39 (sp_l_toEventS k) := ⟨specGood_run (o_l_toEventS k) mixed (n_l_toEventS k) (d := k) [(.slice 93 yEvent)] [(.slice 57 yEvent)] [true] (fun x => l_toEventS k x.1) (fun x => r_l_toEventS k x.1), (fi_39).2⟩
theorem o_l_toItem (k : Nat) : Ok Tryz.prog (c_l_toItem k) := ok_of (map0) (ptr0) (eq0) (tab1 (ty_3) (tab1 (ty_117) (tab1 (ty_119) (tab0)))) (inl1 (fi_82) (inl0)) (spec0) (mspec0)
theorem n_l_toItem (k : Nat) : NOk (c_l_toItem k) := nok (inl1 (fi_82) (inl0))
theorem s_l_toItem (k : Nat) : SG 82 (sp_l_toItem k) := ⟨specGood_run (o_l_toItem k) mixed (n_l_toItem k) (d := k) [yItem] [yItem] [] (fun x => l_toItem k x.1) (fun x => r_l_toItem k x.1), (fi_82).2⟩
theorem o_l_toItemS (k : Nat) : Ok Tryz.prog (c_l_toItemS k) := ok_of (map0) (ptr0) (eq0) (tab1 (ty_95) (tab1 (ty_100) (tab1 (ty_117) (tab1 (ty_119) (tab0))))) (inl1 (fi_62) (inl0)) (spec1 (s_l_toItem k) (spec0)) (mspec0)
theorem n_l_toItemS (k : Nat) : NOk (c_l_toItemS k) := nok (inl1 (fi_62) (inl0))
theorem s_l_toItemS (k : Nat) : SG 62 (sp_l_toItemS k) := ⟨specGood_run (o_l_toItemS k) mixed (n_l_toItemS k) (d := k) [(.slice 119 yItem)] [(.slice 117 yItem)] [true] (fun x => l_toItemS k x.1) (fun x => r_l_toItemS k x.1), (fi_62).2⟩
theorem o_l_toItemSS (k : Nat) : Ok Tryz.prog (c_l_toItemSS k) := ok_of (map0) (ptr0) (eq0) (tab1 (ty_24) (tab1 (ty_36) (tab1 (ty_95) (tab1 (ty_100) (tab0))))) (inl1 (fi_40) (inl0)) (spec1 (s_l_toItemS k) (spec0)) (mspec0)
theorem n_l_toItemSS (k : Nat) : NOk (c_l_toItemSS k) := nok (inl1 (fi_40) (inl0))
theorem s_l_toItemSS (k : Nat) : SG 40 (sp_l_toItemSS k) := ⟨specGood_run (o_l_toItemSS k) mixed (n_l_toItemSS k) (d := k) [(.slice 95 (.slice 119 yItem))] [(.slice 100 (.slice 117 yItem))] [true] (fun x => l_toItemSS k x.1) (fun x => r_l_toItemSS k x.1), (fi_40).2⟩
theorem o_l_toBoolS (k : Nat) : Ok Tryz.prog (c_l_toBoolS k) := ok_of (map0) (ptr0) (eq0) (tab1 (ty_4) (tab1 (ty_25) (tab0))) (inl1 (fi_41) (inl0)) (spec0) (mspec0)
theorem n_l_toBoolS (k : Nat) : NOk (c_l_toBoolS k) := nok (inl1 (fi_41) (inl0))
theorem s_l_toBoolS (k : Nat) : SG 41 (sp_l_toBoolS k) := ⟨specGood_run (o_l_toBoolS k) mixed (n_l_toBoolS k) (d := k) [(.slice 4 .bool)] [(.slice 4 .bool)] [true] (fun x => l_toBoolS k x.1) (fun x => r_l_toBoolS k x.1), (fi_41).2⟩
theorem o_l_toRoom (k : Nat) : Ok Tryz.prog (c_l_toRoom k) := ok_of (map0) (ptr0) (eq0) (tab1 (ty_23) (tab1 (ty_24) (tab1 (ty_25) (tab1 (ty_27) (tab1 (ty_35) (tab1 (ty_36) (tab1 (ty_38) (tab0)))))))) (inl1 (fi_17) (inl0)) (spec1 (s_l_toEventS k) (spec1 (s_l_toItemSS k) (spec1 (s_l_toBoolS k) (spec0)))) (mspec0)
theorem n_l_toRoom (k : Nat) : NOk (c_l_toRoom k) := nok (inl1 (fi_17) (inl0))
theorem s_l_toRoom (k : Nat) : SG 17 (sp_l_toRoom k) := ⟨specGood_run (o_l_toRoom k) mixed (n_l_toRoom k) (d := k) [yRoom] [yRoom1] [true, true, true] (fun x => l_toRoom k x.1) (fun x => r_l_toRoom k x.1), (fi_17).2⟩
theorem o_l_toOut (k : Nat) : Ok Tryz.prog (c_l_toOut k) := ok_of (map0) (ptr0) (eq0) (tab1 (ty_3) (tab1 (ty_55) (tab1 (ty_59) (tab1 (ty_75) (tab0))))) (inl1 (fi_42) (inl0)) (spec1 (s_l_toIntS k) (spec0)) (mspec0)
theorem n_l_toOut (k : Nat) : NOk (c_l_toOut k) := nok (inl1 (fi_42) (inl0))
theorem s_l_toOut (k : Nat) : SG 42 (sp_l_toOut k) := ⟨specGood_run (o_l_toOut k) mixed (n_l_toOut k) (d := k) [yOut] [yOut] [true] (fun x => l_toOut k x.1) (fun x => r_l_toOut k x.1), (fi_42).2⟩
theorem o_l_toOutS (k : Nat) : Ok Tryz.prog (c_l_toOutS k) := ok_of (map0) (ptr0) (eq0) (tab1 (ty_28) (tab1 (ty_39) (tab1 (ty_59) (tab1 (ty_75) (tab0))))) (inl1 (fi_18) (inl0)) (spec1 (s_l_toOut k) (spec0)) (mspec0)
theorem n_l_toOutS (k : Nat) : NOk (c_l_toOutS k) := nok (inl1 (fi_18) (inl0))
theorem s_l_toOutS (k : Nat) : SG 18 (sp_l_toOutS k) := ⟨specGood_run (o_l_toOutS k) mixed (n_l_toOutS k) (d := k) [(.slice 75 yOut)] [(.slice 59 yOut)] [true] (fun x => l_toOutS k x.1) (fun x => r_l_toOutS k x.1), (fi_18).2⟩
theorem o_l_toHall (k : Nat) : Ok Tryz.prog (c_l_toHall k) := ok_of (map0) (ptr0) (eq0) (tab1 (ty_22) (tab1 (ty_27) (tab1 (ty_28) (tab1 (ty_30) (tab1 (ty_34) (tab1 (ty_38) (tab1 (ty_39) (tab1 (ty_41) (tab0))))))))) (inl1 (fi_6) (inl0)) (spec1 (s_l_toSessionS k) (spec1 (s_l_toRoom k) (spec1 (s_l_toOutS k) (spec0)))) (mspec0)
theorem n_l_toHall (k : Nat) : NOk (c_l_toHall k) := nok (inl1 (fi_6) (inl0))
theorem s_l_toHall (k : Nat) : SG 6 (sp_l_toHall k) := ⟨specGood_run (o_l_toHall k) mixed (n_l_toHall k) (d := k) [yHall] [yHall1] [true, true, true, true, true] (fun x => l_toHall k x.1) (fun x => r_l_toHall k x.1), (fi_6).2⟩
theorem o_i_within (k : Nat) : Ok Tryz.prog (c_i_within k) := ok_of (map0) (ptr0) (eq0) (tab0) (inl1 (fi_44) (inl0)) (spec0) (mspec0)
theorem n_i_within (k : Nat) : NOk (c_i_within k) := nok (inl1 (fi_44) (inl0))
theorem s_i_within (k : Nat) : SG 44 (sp_i_within k) := ⟨specGood_run (o_i_within k) mixed (n_i_within k) (d := k) [(.int .i64), (.int .i64), (.int .i64)] [.bool] [] (fun x => i_within k x.1 x.2.1 x.2.2.1) (fun x => r_i_within k x.1 x.2.1 x.2.2.1), (fi_44).2⟩
theorem o_i_levelsOk (k : Nat) : Ok Tryz.prog (c_i_levelsOk k) := ok_of (map0) (ptr0) (eq0) (tab1 (ty_3) (tab1 (ty_55) (tab1 (ty_57) (tab0)))) (inl1 (fi_67) (inl0)) (spec1 (s_i_within k) (spec0)) (mspec0)
theorem n_i_levelsOk (k : Nat) : NOk (c_i_levelsOk k) := nok (inl1 (fi_67) (inl0))
theorem s_i_levelsOk (k : Nat) : SG 67 (sp_i_levelsOk k) := ⟨specGood_run (o_i_levelsOk k) mixed (n_i_levelsOk k) (d := k) [yEvent] [.bool] [] (fun x => i_levelsOk k x.1) (fun x => r_i_levelsOk k x.1), (fi_67).2⟩
theorem o_i_prevOk (k : Nat) : Ok Tryz.prog (c_i_prevOk k) := ok_of (map0) (ptr0) (eq0) (tab1 (ty_3) (tab1 (ty_4) (tab1 (ty_55) (tab1 (ty_57) (tab0))))) (inl1 (fi_68) (inl0)) (spec1 (s_i_within k) (spec0)) (mspec0)
theorem n_i_prevOk (k : Nat) : NOk (c_i_prevOk k) := nok (inl1 (fi_68) (inl0))
theorem s_i_prevOk (k : Nat) : SG 68 (sp_i_prevOk k) := ⟨specGood_run (o_i_prevOk k) mixed (n_i_prevOk k) (d := k) [yEvent] [.bool] [] (fun x => i_prevOk k x.1) (fun x => r_i_prevOk k x.1), (fi_68).2⟩
theorem o_i_EventOk (k : Nat) : Ok Tryz.prog (c_i_EventOk k) := ok_of (map0) (ptr0) (eq0) (tab1 (ty_3) (tab1 (ty_9) (tab1 (ty_57) (tab0)))) (inl1 (fi_47) (inl0)) (spec1 (s_i_within k) (spec1 (s_i_levelsOk k) (spec1 (s_i_prevOk k) (spec0)))) (mspec0)
theorem n_i_EventOk (k : Nat) : NOk (c_i_EventOk k) := nok (inl1 (fi_47) (inl0))
theorem s_i_EventOk (k : Nat) : SG 47 (sp_i_EventOk k) := ⟨specGood_run (o_i_EventOk k) mixed (n_i_EventOk k) (d := k) [yEvent] [.bool] [] (fun x => i_EventOk k x.1) (fun x => r_i_EventOk k x.1), (fi_47).2⟩
theorem o_i_eventAt (k : Nat) : Ok Tryz.prog (c_i_eventAt k) := ok_of (map0) (ptr0) (eq0) (tab1 (ty_3) (tab1 (ty_35) (tab1 (ty_38) (tab1 (ty_57) (tab0))))) (inl1 (fi_99) (inl1 (fi_112) (inl1 (fi_113) (inl0)))) (spec0) (mspec0)
theorem n_i_eventAt (k : Nat) : NOk (c_i_eventAt k) := nok (inl1 (fi_99) (inl1 (fi_112) (inl1 (fi_113) (inl0))))
theorem s_i_eventAt (k : Nat) : SG 99 (sp_i_eventAt k) := ⟨specGood_run (o_i_eventAt k) mixed (n_i_eventAt k) (d := k) [yRoom1, (.int .i64)] [(.int .i64)] [] (fun x => i_eventAt k x.1 x.2.1) (fun x => r_i_eventAt k x.1 x.2.1), (fi_99).2⟩
theorem o_i_copyEvent (k : Nat) : Ok Tryz.prog (c_i_copyEvent k) := ok_of (map0) (ptr0) (eq0) (tab1 (ty_55) (tab1 (ty_57) (tab0))) (inl1 (fi_106) (inl0)) (spec0) (mspec0)
theorem n_i_copyEvent (k : Nat) : NOk (c_i_copyEvent k) := nok (inl1 (fi_106) (inl0))
theorem s_i_copyEvent (k : Nat) : SG 106 (sp_i_copyEvent k) := ⟨specGood_run (o_i_copyEvent k) mixed (n_i_copyEvent k) (d := k) [yEvent] [yEvent] [true, true] (fun x => i_copyEvent k x.1) (fun x => r_i_copyEvent k x.1), (fi_106).2⟩
theorem o_i_Known (k : Nat) : Ok Tryz.prog (c_i_Known k) := ok_of (map0) (ptr0) (eq0) (tab1 (ty_3) (tab1 (ty_35) (tab1 (ty_57) (tab0)))) (inl1 (fi_115) (inl0)) (spec1 (s_i_copyEvent k) (spec0)) (mspec0)
theorem n_i_Known (k : Nat) : NOk (c_i_Known k) := nok (inl1 (fi_115) (inl0))
theorem s_i_Known (k : Nat) : SG 115 (sp_i_Known k) := ⟨specGood_run (o_i_Known k) mixed (n_i_Known k) (d := k) [(.slice 57 yEvent), (.int .i64)] [yEvent, .bool] [true, true] (fun x => i_Known k x.1 x.2.1) (fun x => r_i_Known k x.1 x.2.1), (fi_115).2⟩
theorem o_i_At (k : Nat) : Ok Tryz.prog (c_i_At k) := ok_of (map0) (ptr0) (eq0) (tab1 (ty_3) (tab1 (ty_100) (tab1 (ty_117) (tab0)))) (inl1 (fi_134) (inl0)) (spec0) (mspec0)
theorem n_i_At (k : Nat) : NOk (c_i_At k) := nok (inl1 (fi_134) (inl0))
theorem s_i_At (k : Nat) : SG 134 (sp_i_At k) := ⟨specGood_run (o_i_At k) mixed (n_i_At k) (d := k) [(.slice 117 yItem), (.int .i64)] [(.int .i64)] [] (fun x => i_At k x.1 x.2.1) (fun x => r_i_At k x.1 x.2.1), (fi_134).2⟩
theorem o_i_tells (k : Nat) : Ok Tryz.prog (c_i_tells k) := ok_of (map0) (ptr0) (eq0) (tab1 (ty_57) (tab0)) (inl1 (fi_116) (inl0)) (spec1 (s_i_Known k) (spec1 (s_i_At k) (spec0))) (mspec0)
theorem n_i_tells (k : Nat) : NOk (c_i_tells k) := nok (inl1 (fi_116) (inl0))
theorem s_i_tells (k : Nat) : SG 116 (sp_i_tells k) := ⟨specGood_run (o_i_tells k) mixed (n_i_tells k) (d := k) [(.slice 57 yEvent), (.slice 117 yItem), (.int .i64)] [yEvent, .bool] [true, true] (fun x => i_tells k x.1 x.2.1 x.2.2.1) (fun x => r_i_tells k x.1 x.2.1 x.2.2.1), (fi_116).2⟩
theorem o_i_MemberOf (k : Nat) : Ok Tryz.prog (c_i_MemberOf k) := ok_of (map0) (ptr0) (eq0) (tab1 (ty_3) (tab1 (ty_57) (tab0))) (inl1 (fi_118) (inl0)) (spec1 (s_i_within k) (spec1 (s_i_tells k) (spec0))) (mspec0)
theorem n_i_MemberOf (k : Nat) : NOk (c_i_MemberOf k) := nok (inl1 (fi_118) (inl0))
theorem s_i_MemberOf (k : Nat) : SG 118 (sp_i_MemberOf k) := ⟨specGood_run (o_i_MemberOf k) mixed (n_i_MemberOf k) (d := k) [(.slice 57 yEvent), (.slice 117 yItem), (.int .i64)] [(.int .i64)] [] (fun x => i_MemberOf k x.1 x.2.1 x.2.2.1) (fun x => r_i_MemberOf k x.1 x.2.1 x.2.2.1), (fi_118).2⟩
theorem o_i_created (k : Nat) : Ok Tryz.prog (c_i_created k) := ok_of (map0) (ptr0) (eq0) (tab1 (ty_3) (tab1 (ty_57) (tab0))) (inl1 (fi_136) (inl0)) (spec1 (s_i_tells k) (spec0)) (mspec0)
theorem n_i_created (k : Nat) : NOk (c_i_created k) := nok (inl1 (fi_136) (inl0))
theorem s_i_created (k : Nat) : SG 136 (sp_i_created k) := ⟨specGood_run (o_i_created k) mixed (n_i_created k) (d := k) [(.slice 57 yEvent), (.slice 117 yItem), (.int .i64)] [.bool] [] (fun x => i_created k x.1 x.2.1 x.2.2.1) (fun x => r_i_created k x.1 x.2.1 x.2.2.1), (fi_136).2⟩
theorem o_i_LevelOf (k : Nat) : Ok Tryz.prog (c_i_LevelOf k) := ok_of (map0) (ptr0) (eq0) (tab1 (ty_3) (tab1 (ty_55) (tab1 (ty_57) (tab0)))) (inl1 (fi_120) (inl0)) (spec1 (s_i_within k) (spec1 (s_i_tells k) (spec1 (s_i_created k) (spec0)))) (mspec0)
theorem n_i_LevelOf (k : Nat) : NOk (c_i_LevelOf k) := nok (inl1 (fi_120) (inl0))
theorem s_i_LevelOf (k : Nat) : SG 120 (sp_i_LevelOf k) := ⟨specGood_run (o_i_LevelOf k) mixed (n_i_LevelOf k) (d := k) [(.slice 57 yEvent), (.slice 117 yItem), (.int .i64)] [(.int .i64)] [] (fun x => i_LevelOf k x.1 x.2.1 x.2.2.1) (fun x => r_i_LevelOf k x.1 x.2.1 x.2.2.1), (fi_120).2⟩
theorem o_i_memberAllowed (k : Nat) : Ok Tryz.prog (c_i_memberAllowed k) := ok_of (map0) (ptr0) (eq0) (tab1 (ty_3) (tab1 (ty_57) (tab1 (ty_100) (tab1 (ty_117) (tab0))))) (inl1 (fi_117) (inl1 (fi_137) (inl1 (fi_138) (inl1 (fi_151) (inl0))))) (spec1 (s_i_MemberOf k) (spec1 (s_i_LevelOf k) (spec1 (s_i_created k) (spec0)))) (mspec0)
theorem n_i_memberAllowed (k : Nat) : NOk (c_i_memberAllowed k) := nok (inl1 (fi_117) (inl1 (fi_137) (inl1 (fi_138) (inl1 (fi_151) (inl0)))))
theorem s_i_memberAllowed (k : Nat) : SG 117 (sp_i_memberAllowed k) := ⟨specGood_run (o_i_memberAllowed k) mixed (n_i_memberAllowed k) (d := k) [(.slice 57 yEvent), (.slice 117 yItem), yEvent] [.bool] [] (fun x => i_memberAllowed k x.1 x.2.1 x.2.2.1) (fun x => r_i_memberAllowed k x.1 x.2.1 x.2.2.1), (fi_117).2⟩
theorem o_i_powerAllowed (k : Nat) : Ok Tryz.prog (c_i_powerAllowed k) := ok_of (map0) (ptr0) (eq0) (tab1 (ty_3) (tab1 (ty_55) (tab1 (ty_57) (tab0)))) (inl1 (fi_119) (inl0)) (spec1 (s_i_LevelOf k) (spec0)) (mspec0)
theorem n_i_powerAllowed (k : Nat) : NOk (c_i_powerAllowed k) := nok (inl1 (fi_119) (inl0))
theorem s_i_powerAllowed (k : Nat) : SG 119 (sp_i_powerAllowed k) := ⟨specGood_run (o_i_powerAllowed k) mixed (n_i_powerAllowed k) (d := k) [(.slice 57 yEvent), (.slice 117 yItem), yEvent] [.bool] [] (fun x => i_powerAllowed k x.1 x.2.1 x.2.2.1) (fun x => r_i_powerAllowed k x.1 x.2.1 x.2.2.1), (fi_119).2⟩
theorem o_i_Allowed (k : Nat) : Ok Tryz.prog (c_i_Allowed k) := ok_of (map0) (ptr0) (eq0) (tab1 (ty_3) (tab1 (ty_57) (tab1 (ty_100) (tab0)))) (inl1 (fi_102) (inl0)) (spec1 (s_i_EventOk k) (spec1 (s_i_tells k) (spec1 (s_i_memberAllowed k) (spec1 (s_i_MemberOf k) (spec1 (s_i_powerAllowed k) (spec1 (s_i_LevelOf k) (spec0))))))) (mspec0)
theorem n_i_Allowed (k : Nat) : NOk (c_i_Allowed k) := nok (inl1 (fi_102) (inl0))
theorem s_i_Allowed (k : Nat) : SG 102 (sp_i_Allowed k) := ⟨specGood_run (o_i_Allowed k) mixed (n_i_Allowed k) (d := k) [(.slice 57 yEvent), (.slice 117 yItem), yEvent] [.bool] [] (fun x => i_Allowed k x.1 x.2.1 x.2.2.1) (fun x => r_i_Allowed k x.1 x.2.1 x.2.2.1), (fi_102).2⟩
theorem o_i_KeyOf (k : Nat) : Ok Tryz.prog (c_i_KeyOf k) := ok_of (map0) (ptr0) (eq0) (tab1 (ty_3) (tab1 (ty_57) (tab0))) (inl1 (fi_103) (inl0)) (spec1 (s_i_within k) (spec0)) (mspec0)
theorem n_i_KeyOf (k : Nat) : NOk (c_i_KeyOf k) := nok (inl1 (fi_103) (inl0))
theorem s_i_KeyOf (k : Nat) : SG 103 (sp_i_KeyOf k) := ⟨specGood_run (o_i_KeyOf k) mixed (n_i_KeyOf k) (d := k) [yEvent] [(.int .i64)] [] (fun x => i_KeyOf k x.1) (fun x => r_i_KeyOf k x.1), (fi_103).2⟩
theorem s_slices_Insert_impl_Item_impl_Item (k : Nat) : MGood Tryz.prog 121 (sp_slices_Insert_impl_Item_impl_Item k) ∧ Enters Tryz.prog 121 := ⟨ins_mgood 117 yItem (by decide) (by intro h; injection h) ins121_walk, (fi_121).2⟩
theorem o_i_StateOk (k : Nat) : Ok Tryz.prog (c_i_StateOk k) := ok_of (map0) (ptr0) (eq0) (tab1 (ty_3) (tab1 (ty_100) (tab1 (ty_117) (tab0)))) (inl1 (fi_122) (inl0)) (spec1 (s_i_within k) (spec0)) (mspec0)
theorem n_i_StateOk (k : Nat) : NOk (c_i_StateOk k) := nok (inl1 (fi_122) (inl0))
theorem s_i_StateOk (k : Nat) : SG 122 (sp_i_StateOk k) := ⟨specGood_run (o_i_StateOk k) mixed (n_i_StateOk k) (d := k) [(.slice 117 yItem)] [.bool] [] (fun x => i_StateOk k x.1) (fun x => r_i_StateOk k x.1), (fi_122).2⟩
theorem o_i_Put (k : Nat) : Ok Tryz.prog (c_i_Put k) := ok_of (map0) (ptr0) (eq0) (tab1 (ty_3) (tab1 (ty_100) (tab1 (ty_117) (tab0)))) (inl1 (fi_104) (inl0)) (spec1 (s_i_StateOk k) (spec0)) (mspec1 (s_slices_Insert_impl_Item_impl_Item k) (mspec0))
theorem n_i_Put (k : Nat) : NOk (c_i_Put k) := nok (inl1 (fi_104) (inl0))
theorem s_i_Put (k : Nat) : SG 104 (sp_i_Put k) := ⟨specGood_run (o_i_Put k) mixed (n_i_Put k) (d := k) [(.slice 117 yItem), (.int .i64), (.int .i64)] [(.slice 117 yItem)] [true] (fun x => i_Put k x.1 x.2.1 x.2.2.1) (fun x => r_i_Put k x.1 x.2.1 x.2.2.1), (fi_104).2⟩
theorem o_i_copyState (k : Nat) : Ok Tryz.prog (c_i_copyState k) := ok_of (map0) (ptr0) (eq0) (tab1 (ty_100) (tab0)) (inl1 (fi_123) (inl0)) (spec0) (mspec0)
theorem n_i_copyState (k : Nat) : NOk (c_i_copyState k) := nok (inl1 (fi_123) (inl0))
theorem s_i_copyState (k : Nat) : SG 123 (sp_i_copyState k) := ⟨specGood_run (o_i_copyState k) mixed (n_i_copyState k) (d := k) [(.slice 117 yItem)] [(.slice 117 yItem)] [true] (fun x => i_copyState k x.1) (fun x => r_i_copyState k x.1), (fi_123).2⟩
theorem s_slices_Sort_int_int (k : Nat) : MGood Tryz.prog 153 (sp_slices_Sort_int_int k) ∧ Enters Tryz.prog 153 := ⟨sort_mgood Tryz.sortL 3, (fi_153).2⟩
theorem o_i_keysIn (k : Nat) : Ok Tryz.prog (c_i_keysIn k) := ok_of (map0) (ptr0) (eq0) (tab1 (ty_3) (tab1 (ty_36) (tab1 (ty_55) (tab1 (ty_100) (tab1 (ty_117) (tab0)))))) (inl1 (fi_142) (inl1 (fi_154) (inl0))) (spec1 (s_i_within k) (spec0)) (mspec1 (s_slices_Sort_int_int k) (mspec0))
theorem n_i_keysIn (k : Nat) : NOk (c_i_keysIn k) := nok (inl1 (fi_142) (inl1 (fi_154) (inl0)))
theorem s_i_keysIn (k : Nat) : SG 142 (sp_i_keysIn k) := ⟨specGood_run (o_i_keysIn k) mixed (n_i_keysIn k) (d := k) [(.slice 100 (.slice 117 yItem))] [(.slice 3 (.int .i64))] [true] (fun x => i_keysIn k x.1) (fun x => r_i_keysIn k x.1), (fi_142).2⟩
theorem o_i_allTell (k : Nat) : Ok Tryz.prog (c_i_allTell k) := ok_of (map0) (ptr0) (eq0) (tab1 (ty_3) (tab1 (ty_36) (tab1 (ty_100) (tab0)))) (inl1 (fi_143) (inl1 (fi_155) (inl1 (fi_156) (inl1 (fi_162) (inl0))))) (spec1 (s_i_At k) (spec0)) (mspec0)
theorem n_i_allTell (k : Nat) : NOk (c_i_allTell k) := nok (inl1 (fi_143) (inl1 (fi_155) (inl1 (fi_156) (inl1 (fi_162) (inl0)))))
theorem s_i_allTell (k : Nat) : SG 143 (sp_i_allTell k) := ⟨specGood_run (o_i_allTell k) mixed (n_i_allTell k) (d := k) [(.slice 100 (.slice 117 yItem)), (.int .i64)] [.bool] [] (fun x => i_allTell k x.1 x.2.1) (fun x => r_i_allTell k x.1 x.2.1), (fi_143).2⟩
theorem o_i_Agreed (k : Nat) : Ok Tryz.prog (c_i_Agreed k) := ok_of (map0) (ptr0) (eq0) (tab1 (ty_3) (tab1 (ty_36) (tab1 (ty_55) (tab1 (ty_100) (tab1 (ty_117) (tab0)))))) (inl1 (fi_132) (inl0)) (spec1 (s_i_At k) (spec1 (s_i_keysIn k) (spec1 (s_i_allTell k) (spec0)))) (mspec0)
theorem n_i_Agreed (k : Nat) : NOk (c_i_Agreed k) := nok (inl1 (fi_132) (inl0))
theorem s_i_Agreed (k : Nat) : SG 132 (sp_i_Agreed k) := ⟨specGood_run (o_i_Agreed k) mixed (n_i_Agreed k) (d := k) [(.slice 100 (.slice 117 yItem))] [(.slice 117 yItem)] [true] (fun x => i_Agreed k x.1) (fun x => r_i_Agreed k x.1), (fi_132).2⟩
theorem o_i_Clash (k : Nat) : Ok Tryz.prog (c_i_Clash k) := ok_of (map0) (ptr0) (eq0) (tab1 (ty_3) (tab1 (ty_55) (tab0))) (inl1 (fi_133) (inl0)) (spec1 (s_i_keysIn k) (spec1 (s_i_allTell k) (spec0))) (mspec0)
theorem n_i_Clash (k : Nat) : NOk (c_i_Clash k) := nok (inl1 (fi_133) (inl0))
theorem s_i_Clash (k : Nat) : SG 133 (sp_i_Clash k) := ⟨specGood_run (o_i_Clash k) mixed (n_i_Clash k) (d := k) [(.slice 100 (.slice 117 yItem))] [(.slice 3 (.int .i64))] [true] (fun x => i_Clash k x.1) (fun x => r_i_Clash k x.1), (fi_133).2⟩
theorem o_slices_Index_int_int (k : Nat) : Ok Tryz.prog (c_slices_Index_int_int k) := ok_of (map0) (ptr0) (eq0) (tab1 (ty_3) (tab1 (ty_55) (tab0))) (inl1 (fi_157) (inl0)) (spec0) (mspec0)
theorem n_slices_Index_int_int (k : Nat) : NOk (c_slices_Index_int_int k) := nok (inl1 (fi_157) (inl0))
theorem s_slices_Index_int_int (k : Nat) : SG 157 (sp_slices_Index_int_int k) := ⟨specGood_run (o_slices_Index_int_int k) mixed (n_slices_Index_int_int k) (d := k) [(.slice 3 (.int .i64)), (.int .i64)] [(.int .i64)] [] (fun x => slices_Index_int_int k x.1 x.2.1) (fun x => r_slices_Index_int_int k x.1 x.2.1), (fi_157).2⟩
theorem o_slices_Contains_int_int (k : Nat) : Ok Tryz.prog (c_slices_Contains_int_int k) := ok_of (map0) (ptr0) (eq0) (tab0) (inl1 (fi_148) (inl0)) (spec1 (s_slices_Index_int_int k) (spec0)) (mspec0)
theorem n_slices_Contains_int_int (k : Nat) : NOk (c_slices_Contains_int_int k) := nok (inl1 (fi_148) (inl0))
theorem s_slices_Contains_int_int (k : Nat) : SG 148 (sp_slices_Contains_int_int k) := ⟨specGood_run (o_slices_Contains_int_int k) mixed (n_slices_Contains_int_int k) (d := k) [(.slice 3 (.int .i64)), (.int .i64)] [.bool] [] (fun x => slices_Contains_int_int k x.1 x.2.1) (fun x => r_slices_Contains_int_int k x.1 x.2.1), (fi_148).2⟩
theorem o_i_aheadOf (k : Nat) : Ok Tryz.prog (c_i_aheadOf k) := ok_of (map0) (ptr0) (eq0) (tab1 (ty_3) (tab1 (ty_55) (tab1 (ty_57) (tab0)))) (inl1 (fi_146) (inl0)) (spec1 (s_i_Known k) (spec1 (s_slices_Contains_int_int k) (spec0))) (mspec0)
theorem n_i_aheadOf (k : Nat) : NOk (c_i_aheadOf k) := nok (inl1 (fi_146) (inl0))
theorem s_i_aheadOf (k : Nat) : SG 146 (sp_i_aheadOf k) := ⟨specGood_run (o_i_aheadOf k) mixed (n_i_aheadOf k) (d := k) [(.slice 57 yEvent), (.int .i64)] [(.slice 3 (.int .i64))] [true] (fun x => i_aheadOf k x.1 x.2.1) (fun x => r_i_aheadOf k x.1 x.2.1), (fi_146).2⟩
theorem o_i_isHeavy (k : Nat) : Ok Tryz.prog (c_i_isHeavy k) := ok_of (map0) (ptr0) (eq0) (tab1 (ty_3) (tab1 (ty_57) (tab0))) (inl1 (fi_158) (inl0)) (spec0) (mspec0)
theorem n_i_isHeavy (k : Nat) : NOk (c_i_isHeavy k) := nok (inl1 (fi_158) (inl0))
theorem s_i_isHeavy (k : Nat) : SG 158 (sp_i_isHeavy k) := ⟨specGood_run (o_i_isHeavy k) mixed (n_i_isHeavy k) (d := k) [yEvent] [.bool] [] (fun x => i_isHeavy k x.1) (fun x => r_i_isHeavy k x.1), (fi_158).2⟩
theorem o_i_Heavier (k : Nat) : Ok Tryz.prog (c_i_Heavier k) := ok_of (map0) (ptr0) (eq0) (tab1 (ty_3) (tab1 (ty_4) (tab1 (ty_57) (tab0)))) (inl1 (fi_149) (inl0)) (spec1 (s_i_LevelOf k) (spec1 (s_i_isHeavy k) (spec0))) (mspec0)
theorem n_i_Heavier (k : Nat) : NOk (c_i_Heavier k) := nok (inl1 (fi_149) (inl0))
theorem s_i_Heavier (k : Nat) : SG 149 (sp_i_Heavier k) := ⟨specGood_run (o_i_Heavier k) mixed (n_i_Heavier k) (d := k) [(.slice 57 yEvent), (.slice 117 yItem), yEvent, yEvent] [.bool] [] (fun x => i_Heavier k x.1 x.2.1 x.2.2.1 x.2.2.2.1) (fun x => r_i_Heavier k x.1 x.2.1 x.2.2.1 x.2.2.2.1), (fi_149).2⟩
theorem o_i_Order (k : Nat) : Ok Tryz.prog (c_i_Order k) := ok_of (map1 (mpt_151) (map0)) (ptr0) (eq0) (tab1 (ty_3) (tab1 (ty_35) (tab1 (ty_55) (tab1 (ty_57) (tab0))))) (inl1 (fi_112) (inl1 (fi_135) (inl1 (fi_144) (inl1 (fi_145) (inl1 (fi_147) (inl1 (fi_150) (inl0))))))) (spec1 (s_i_Known k) (spec1 (s_i_aheadOf k) (spec1 (s_slices_Contains_int_int k) (spec1 (s_i_Heavier k) (spec0))))) (mspec0)
theorem n_i_Order (k : Nat) : NOk (c_i_Order k) := nok (inl1 (fi_112) (inl1 (fi_135) (inl1 (fi_144) (inl1 (fi_145) (inl1 (fi_147) (inl1 (fi_150) (inl0)))))))
theorem s_i_Order (k : Nat) : SG 135 (sp_i_Order k) := ⟨specGood_run (o_i_Order k) mixed (n_i_Order k) (d := k) [(.slice 57 yEvent), (.slice 117 yItem), (.slice 3 (.int .i64))] [(.slice 3 (.int .i64))] [true] (fun x => i_Order k x.1 x.2.1 x.2.2.1) (fun x => r_i_Order k x.1 x.2.1 x.2.2.1), (fi_135).2⟩
theorem o_i_Resolve (k : Nat) : Ok Tryz.prog (c_i_Resolve k) := ok_of (map0) (ptr0) (eq0) (tab1 (ty_3) (tab1 (ty_36) (tab1 (ty_55) (tab1 (ty_57) (tab1 (ty_100) (tab0)))))) (inl1 (fi_114) (inl0)) (spec1 (s_i_Allowed k) (spec1 (s_i_KeyOf k) (spec1 (s_i_Put k) (spec1 (s_i_Known k) (spec1 (s_i_copyState k) (spec1 (s_i_Agreed k) (spec1 (s_i_Clash k) (spec1 (s_i_At k) (spec1 (s_i_Order k) (spec0)))))))))) (mspec0)
theorem n_i_Resolve (k : Nat) : NOk (c_i_Resolve k) := nok (inl1 (fi_114) (inl0))
theorem s_i_Resolve (k : Nat) : SG 114 (sp_i_Resolve k) := ⟨specGood_run (o_i_Resolve k) mixed (n_i_Resolve k) (d := k) [(.slice 57 yEvent), (.slice 100 (.slice 117 yItem))] [(.slice 117 yItem)] [true] (fun x => i_Resolve k x.1 x.2.1) (fun x => r_i_Resolve k x.1 x.2.1), (fi_114).2⟩
theorem o_i_Before (k : Nat) : Ok Tryz.prog (c_i_Before k) := ok_of (map0) (ptr0) (eq0) (tab1 (ty_3) (tab1 (ty_35) (tab1 (ty_36) (tab1 (ty_38) (tab1 (ty_55) (tab1 (ty_100) (tab0))))))) (inl1 (fi_100) (inl0)) (spec1 (s_i_eventAt k) (spec1 (s_i_Resolve k) (spec0))) (mspec0)
theorem n_i_Before (k : Nat) : NOk (c_i_Before k) := nok (inl1 (fi_100) (inl0))
theorem s_i_Before (k : Nat) : SG 100 (sp_i_Before k) := ⟨specGood_run (o_i_Before k) mixed (n_i_Before k) (d := k) [yRoom1, (.slice 3 (.int .i64))] [(.slice 117 yItem), .bool] [true] (fun x => i_Before k x.1 x.2.1) (fun x => r_i_Before k x.1 x.2.1), (fi_100).2⟩
theorem o_i_DepthOf (k : Nat) : Ok Tryz.prog (c_i_DepthOf k) := ok_of (map0) (ptr0) (eq0) (tab1 (ty_3) (tab1 (ty_35) (tab1 (ty_38) (tab1 (ty_55) (tab1 (ty_57) (tab0)))))) (inl1 (fi_101) (inl0)) (spec1 (s_i_Known k) (spec0)) (mspec0)
theorem n_i_DepthOf (k : Nat) : NOk (c_i_DepthOf k) := nok (inl1 (fi_101) (inl0))
theorem s_i_DepthOf (k : Nat) : SG 101 (sp_i_DepthOf k) := ⟨specGood_run (o_i_DepthOf k) mixed (n_i_DepthOf k) (d := k) [yRoom1, (.slice 3 (.int .i64))] [(.int .i64)] [] (fun x => i_DepthOf k x.1 x.2.1) (fun x => r_i_DepthOf k x.1 x.2.1), (fi_101).2⟩
theorem o_i_copyRoom (k : Nat) : Ok Tryz.prog (c_i_copyRoom k) := ok_of (map0) (ptr0) (eq0) (tab1 (ty_25) (tab1 (ty_35) (tab1 (ty_36) (tab1 (ty_38) (tab1 (ty_57) (tab1 (ty_100) (tab0))))))) (inl1 (fi_105) (inl0)) (spec1 (s_i_copyEvent k) (spec1 (s_i_copyState k) (spec0))) (mspec0)
theorem n_i_copyRoom (k : Nat) : NOk (c_i_copyRoom k) := nok (inl1 (fi_105) (inl0))
theorem s_i_copyRoom (k : Nat) : SG 105 (sp_i_copyRoom k) := ⟨specGood_run (o_i_copyRoom k) mixed (n_i_copyRoom k) (d := k) [yRoom1] [yRoom1] [true, true, true] (fun x => i_copyRoom k x.1) (fun x => r_i_copyRoom k x.1), (fi_105).2⟩
theorem o_i_AddEvent (k : Nat) : Ok Tryz.prog (c_i_AddEvent k) := ok_of (map0) (ptr0) (eq0) (tab1 (ty_3) (tab1 (ty_25) (tab1 (ty_35) (tab1 (ty_36) (tab1 (ty_38) (tab1 (ty_55) (tab1 (ty_57) (tab0)))))))) (inl1 (fi_83) (inl0)) (spec1 (s_i_EventOk k) (spec1 (s_i_eventAt k) (spec1 (s_i_Before k) (spec1 (s_i_DepthOf k) (spec1 (s_i_Allowed k) (spec1 (s_i_KeyOf k) (spec1 (s_i_Put k) (spec1 (s_i_copyRoom k) (spec1 (s_i_copyEvent k) (spec0)))))))))) (mspec0)
theorem n_i_AddEvent (k : Nat) : NOk (c_i_AddEvent k) := nok (inl1 (fi_83) (inl0))
theorem s_i_AddEvent (k : Nat) : SG 83 (sp_i_AddEvent k) := ⟨specGood_run (o_i_AddEvent k) mixed (n_i_AddEvent k) (d := k) [yRoom1, yEvent] [yRoom1, .bool] [true, true, true] (fun x => i_AddEvent k x.1 x.2.1) (fun x => r_i_AddEvent k x.1 x.2.1), (fi_83).2⟩
theorem o_i_roomOf (k : Nat) : Ok Tryz.prog (c_i_roomOf k) := ok_of (map0) (ptr0) (eq0) (tab1 (ty_35) (tab1 (ty_38) (tab1 (ty_57) (tab0)))) (inl1 (fi_64) (inl0)) (spec1 (s_i_AddEvent k) (spec0)) (mspec0)
theorem n_i_roomOf (k : Nat) : NOk (c_i_roomOf k) := nok (inl1 (fi_64) (inl0))
theorem s_i_roomOf (k : Nat) : SG 64 (sp_i_roomOf k) := ⟨specGood_run (o_i_roomOf k) mixed (n_i_roomOf k) (d := k) [(.slice 57 yEvent)] [yRoom1, .bool] [true, true, true] (fun x => i_roomOf k x.1) (fun x => r_i_roomOf k x.1), (fi_64).2⟩
theorem o_slices_Equal_int_int (k : Nat) : Ok Tryz.prog (c_slices_Equal_int_int k) := ok_of (map0) (ptr0) (eq0) (tab1 (ty_3) (tab1 (ty_55) (tab0))) (inl1 (fi_46) (inl0)) (spec0) (mspec0)
theorem n_slices_Equal_int_int (k : Nat) : NOk (c_slices_Equal_int_int k) := nok (inl1 (fi_46) (inl0))
theorem s_slices_Equal_int_int (k : Nat) : SG 46 (sp_slices_Equal_int_int k) := ⟨specGood_run (o_slices_Equal_int_int k) mixed (n_slices_Equal_int_int k) (d := k) [(.slice 3 (.int .i64)), (.slice 3 (.int .i64))] [.bool] [] (fun x => slices_Equal_int_int k x.1 x.2.1) (fun x => r_slices_Equal_int_int k x.1 x.2.1), (fi_46).2⟩
theorem o_slices_Equal_impl_Item_impl_Item (k : Nat) : Ok Tryz.prog (c_slices_Equal_impl_Item_impl_Item k) := ok_of (map0) (ptr0) (eq1 (eqt_117) (eq0)) (tab1 (ty_100) (tab1 (ty_117) (tab0))) (inl1 (fi_85) (inl0)) (spec0) (mspec0)
theorem n_slices_Equal_impl_Item_impl_Item (k : Nat) : NOk (c_slices_Equal_impl_Item_impl_Item k) := nok (inl1 (fi_85) (inl0))
theorem s_slices_Equal_impl_Item_impl_Item (k : Nat) : SG 85 (sp_slices_Equal_impl_Item_impl_Item k) := ⟨specGood_run (o_slices_Equal_impl_Item_impl_Item k) mixed (n_slices_Equal_impl_Item_impl_Item k) (d := k) [(.slice 117 yItem), (.slice 117 yItem)] [.bool] [] (fun x => slices_Equal_impl_Item_impl_Item k x.1 x.2.1) (fun x => r_slices_Equal_impl_Item_impl_Item k x.1 x.2.1), (fi_85).2⟩
theorem o_slices_Equal_bool_bool (k : Nat) : Ok Tryz.prog (c_slices_Equal_bool_bool k) := ok_of (map0) (ptr0) (eq0) (tab1 (ty_4) (tab1 (ty_25) (tab0))) (inl1 (fi_89) (inl0)) (spec0) (mspec0)
theorem n_slices_Equal_bool_bool (k : Nat) : NOk (c_slices_Equal_bool_bool k) := nok (inl1 (fi_89) (inl0))
theorem s_slices_Equal_bool_bool (k : Nat) : SG 89 (sp_slices_Equal_bool_bool k) := ⟨specGood_run (o_slices_Equal_bool_bool k) mixed (n_slices_Equal_bool_bool k) (d := k) [(.slice 4 .bool), (.slice 4 .bool)] [.bool] [] (fun x => slices_Equal_bool_bool k x.1 x.2.1) (fun x => r_slices_Equal_bool_bool k x.1 x.2.1), (fi_89).2⟩
theorem o_i_sameRoom (k : Nat) : Ok Tryz.prog (c_i_sameRoom k) := ok_of (map0) (ptr0) (eq0) (tab1 (ty_3) (tab1 (ty_9) (tab1 (ty_25) (tab1 (ty_35) (tab1 (ty_36) (tab1 (ty_38) (tab1 (ty_55) (tab1 (ty_57) (tab1 (ty_100) (tab0)))))))))) (inl1 (fi_65) (inl1 (fi_84) (inl1 (fi_86) (inl1 (fi_87) (inl1 (fi_88) (inl0)))))) (spec1 (s_slices_Equal_int_int k) (spec1 (s_slices_Equal_impl_Item_impl_Item k) (spec1 (s_slices_Equal_bool_bool k) (spec0)))) (mspec0)
theorem n_i_sameRoom (k : Nat) : NOk (c_i_sameRoom k) := nok (inl1 (fi_65) (inl1 (fi_84) (inl1 (fi_86) (inl1 (fi_87) (inl1 (fi_88) (inl0))))))
theorem s_i_sameRoom (k : Nat) : SG 65 (sp_i_sameRoom k) := ⟨specGood_run (o_i_sameRoom k) mixed (n_i_sameRoom k) (d := k) [yRoom1, yRoom1] [.bool] [] (fun x => i_sameRoom k x.1 x.2.1) (fun x => r_i_sameRoom k x.1 x.2.1), (fi_65).2⟩
theorem o_i_RoomOk (k : Nat) : Ok Tryz.prog (c_i_RoomOk k) := ok_of (map0) (ptr0) (eq0) (tab1 (ty_35) (tab1 (ty_38) (tab0))) (inl1 (fi_43) (inl0)) (spec1 (s_i_roomOf k) (spec1 (s_i_sameRoom k) (spec0))) (mspec0)
theorem n_i_RoomOk (k : Nat) : NOk (c_i_RoomOk k) := nok (inl1 (fi_43) (inl0))
theorem s_i_RoomOk (k : Nat) : SG 43 (sp_i_RoomOk k) := ⟨specGood_run (o_i_RoomOk k) mixed (n_i_RoomOk k) (d := k) [yRoom1] [.bool] [] (fun x => i_RoomOk k x.1) (fun x => r_i_RoomOk k x.1), (fi_43).2⟩
theorem o_i_isGood (k : Nat) : Ok Tryz.prog (c_i_isGood k) := ok_of (map0) (ptr0) (eq0) (tab1 (ty_4) (tab1 (ty_25) (tab1 (ty_38) (tab0)))) (inl1 (fi_66) (inl0)) (spec0) (mspec0)
theorem n_i_isGood (k : Nat) : NOk (c_i_isGood k) := nok (inl1 (fi_66) (inl0))
theorem s_i_isGood (k : Nat) : SG 66 (sp_i_isGood k) := ⟨specGood_run (o_i_isGood k) mixed (n_i_isGood k) (d := k) [yRoom1, (.int .i64)] [.bool] [] (fun x => i_isGood k x.1 x.2.1) (fun x => r_i_isGood k x.1 x.2.1), (fi_66).2⟩
theorem o_i_forward (k : Nat) : Ok Tryz.prog (c_i_forward k) := ok_of (map0) (ptr0) (eq0) (tab1 (ty_3) (tab1 (ty_35) (tab1 (ty_38) (tab1 (ty_55) (tab1 (ty_57) (tab0)))))) (inl1 (fi_45) (inl0)) (spec1 (s_i_isGood k) (spec0)) (mspec0)
theorem n_i_forward (k : Nat) : NOk (c_i_forward k) := nok (inl1 (fi_45) (inl0))
theorem s_i_forward (k : Nat) : SG 45 (sp_i_forward k) := ⟨specGood_run (o_i_forward k) mixed (n_i_forward k) (d := k) [yRoom1] [(.slice 3 (.int .i64))] [true] (fun x => i_forward k x.1) (fun x => r_i_forward k x.1), (fi_45).2⟩
theorem o_i_HallOk (k : Nat) : Ok Tryz.prog (c_i_HallOk k) := ok_of (map0) (ptr0) (eq0) (tab1 (ty_3) (tab1 (ty_9) (tab1 (ty_34) (tab1 (ty_38) (tab1 (ty_39) (tab1 (ty_41) (tab1 (ty_52) (tab1 (ty_55) (tab1 (ty_59) (tab0)))))))))) (inl1 (fi_19) (inl0)) (spec1 (s_i_RoomOk k) (spec1 (s_i_within k) (spec1 (s_i_forward k) (spec1 (s_slices_Equal_int_int k) (spec0))))) (mspec0)
theorem n_i_HallOk (k : Nat) : NOk (c_i_HallOk k) := nok (inl1 (fi_19) (inl0))
theorem s_i_HallOk (k : Nat) : SG 19 (sp_i_HallOk k) := ⟨specGood_run (o_i_HallOk k) mixed (n_i_HallOk k) (d := k) [yHall1] [.bool] [] (fun x => i_HallOk k x.1) (fun x => r_i_HallOk k x.1), (fi_19).2⟩
theorem o_i_VarText (k : Nat) : Ok Tryz.prog (c_i_VarText k) := ok_of (map0) (ptr0) (eq0) (tab1 (ty_3) (tab1 (ty_5) (tab1 (ty_9) (tab1 (ty_49) (tab0))))) (inl1 (fi_20) (inl0)) (spec1 (s_i_within k) (spec0)) (mspec0)
theorem n_i_VarText (k : Nat) : NOk (c_i_VarText k) := nok (inl1 (fi_20) (inl0))
theorem s_i_VarText (k : Nat) : SG 20 (sp_i_VarText k) := ⟨specGood_run (o_i_VarText k) mixed (n_i_VarText k) (d := k) [(.int .i64)] [.str, .bool] [] (fun x => i_VarText k x.1) (fun x => r_i_VarText k x.1), (fi_20).2⟩
theorem o_i_vars (k : Nat) : Ok Tryz.prog (c_i_vars k) := ok_of (map0) (ptr0) (eq0) (tab1 (ty_3) (tab1 (ty_9) (tab1 (ty_49) (tab1 (ty_55) (tab0))))) (inl1 (fi_21) (inl0)) (spec1 (s_i_VarText k) (spec0)) (mspec0)
theorem n_i_vars (k : Nat) : NOk (c_i_vars k) := nok (inl1 (fi_21) (inl0))
theorem s_i_vars (k : Nat) : SG 21 (sp_i_vars k) := ⟨specGood_run (o_i_vars k) mixed (n_i_vars k) (d := k) [(.slice 3 (.int .i64))] [.str, .bool] [] (fun x => i_vars k x.1) (fun x => r_i_vars k x.1), (fi_21).2⟩
theorem o_i_ShortText (k : Nat) : Ok Tryz.prog (c_i_ShortText k) := ok_of (map0) (ptr0) (eq0) (tab1 (ty_9) (tab0)) (inl1 (fi_22) (inl0)) (spec1 (s_i_VarText k) (spec0)) (mspec0)
theorem n_i_ShortText (k : Nat) : NOk (c_i_ShortText k) := nok (inl1 (fi_22) (inl0))
theorem s_i_ShortText (k : Nat) : SG 22 (sp_i_ShortText k) := ⟨specGood_run (o_i_ShortText k) mixed (n_i_ShortText k) (d := k) [.str] [.str, .bool] [] (fun x => i_ShortText k x.1) (fun x => r_i_ShortText k x.1), (fi_22).2⟩
theorem o_i_listText (k : Nat) : Ok Tryz.prog (c_i_listText k) := ok_of (map0) (ptr0) (eq0) (tab1 (ty_3) (tab1 (ty_5) (tab1 (ty_9) (tab1 (ty_49) (tab1 (ty_55) (tab0)))))) (inl1 (fi_69) (inl0)) (spec1 (s_i_VarText k) (spec0)) (mspec0)
theorem n_i_listText (k : Nat) : NOk (c_i_listText k) := nok (inl1 (fi_69) (inl0))
theorem s_i_listText (k : Nat) : SG 69 (sp_i_listText k) := ⟨specGood_run (o_i_listText k) mixed (n_i_listText k) (d := k) [(.slice 3 (.int .i64))] [.str] [] (fun x => i_listText k x.1) (fun x => r_i_listText k x.1), (fi_69).2⟩
theorem o_i_mainText (k : Nat) : Ok Tryz.prog (c_i_mainText k) := ok_of (map0) (ptr0) (eq0) (tab1 (ty_3) (tab1 (ty_5) (tab1 (ty_9) (tab1 (ty_49) (tab1 (ty_55) (tab1 (ty_57) (tab0))))))) (inl1 (fi_48) (inl0)) (spec1 (s_i_ShortText k) (spec1 (s_i_listText k) (spec0))) (mspec0)
theorem n_i_mainText (k : Nat) : NOk (c_i_mainText k) := nok (inl1 (fi_48) (inl0))
theorem s_i_mainText (k : Nat) : SG 48 (sp_i_mainText k) := ⟨specGood_run (o_i_mainText k) mixed (n_i_mainText k) (d := k) [yEvent] [.str] [] (fun x => i_mainText k x.1) (fun x => r_i_mainText k x.1), (fi_48).2⟩
theorem o_i_EventText (k : Nat) : Ok Tryz.prog (c_i_EventText k) := ok_of (map0) (ptr0) (eq0) (tab1 (ty_3) (tab1 (ty_55) (tab1 (ty_57) (tab0)))) (inl1 (fi_23) (inl0)) (spec1 (s_i_VarText k) (spec1 (s_i_vars k) (spec1 (s_i_EventOk k) (spec1 (s_i_mainText k) (spec0))))) (mspec0)
theorem n_i_EventText (k : Nat) : NOk (c_i_EventText k) := nok (inl1 (fi_23) (inl0))
theorem s_i_EventText (k : Nat) : SG 23 (sp_i_EventText k) := ⟨specGood_run (o_i_EventText k) mixed (n_i_EventText k) (d := k) [yEvent] [.str, .bool] [] (fun x => i_EventText k x.1) (fun x => r_i_EventText k x.1), (fi_23).2⟩
theorem o_i_HallText (k : Nat) : Ok Tryz.prog (c_i_HallText k) := ok_of (map0) (ptr0) (eq0) (tab1 (ty_3) (tab1 (ty_9) (tab1 (ty_34) (tab1 (ty_35) (tab1 (ty_38) (tab1 (ty_39) (tab1 (ty_41) (tab1 (ty_52) (tab1 (ty_55) (tab1 (ty_57) (tab1 (ty_59) (tab0)))))))))))) (inl1 (fi_7) (inl0)) (spec1 (s_i_HallOk k) (spec1 (s_i_VarText k) (spec1 (s_i_vars k) (spec1 (s_i_ShortText k) (spec1 (s_i_EventText k) (spec0)))))) (mspec0)
theorem n_i_HallText (k : Nat) : NOk (c_i_HallText k) := nok (inl1 (fi_7) (inl0))
theorem s_i_HallText (k : Nat) : SG 7 (sp_i_HallText k) := ⟨specGood_run (o_i_HallText k) mixed (n_i_HallText k) (d := k) [yHall1] [.str, .bool] [] (fun x => i_HallText k x.1) (fun x => r_i_HallText k x.1), (fi_7).2⟩
theorem o_l_eqSession (k : Nat) : Ok Tryz.prog (c_l_eqSession k) := ok_of (map0) (ptr0) (eq0) (tab1 (ty_3) (tab1 (ty_9) (tab1 (ty_52) (tab0)))) (inl1 (fi_49) (inl0)) (spec0) (mspec0)
theorem n_l_eqSession (k : Nat) : NOk (c_l_eqSession k) := nok (inl1 (fi_49) (inl0))
theorem s_l_eqSession (k : Nat) : SG 49 (sp_l_eqSession k) := ⟨specGood_run (o_l_eqSession k) mixed (n_l_eqSession k) (d := k) [ySession, ySession] [.bool] [] (fun x => l_eqSession k x.1 x.2.1) (fun x => r_l_eqSession k x.1 x.2.1), (fi_49).2⟩
theorem o_l_eqSessionS (k : Nat) : Ok Tryz.prog (c_l_eqSessionS k) := ok_of (map0) (ptr0) (eq0) (tab1 (ty_34) (tab1 (ty_52) (tab0))) (inl1 (fi_24) (inl0)) (spec1 (s_l_eqSession k) (spec0)) (mspec0)
theorem n_l_eqSessionS (k : Nat) : NOk (c_l_eqSessionS k) := nok (inl1 (fi_24) (inl0))
theorem s_l_eqSessionS (k : Nat) : SG 24 (sp_l_eqSessionS k) := ⟨specGood_run (o_l_eqSessionS k) mixed (n_l_eqSessionS k) (d := k) [(.slice 52 ySession), (.slice 52 ySession)] [.bool] [] (fun x => l_eqSessionS k x.1 x.2.1) (fun x => r_l_eqSessionS k x.1 x.2.1), (fi_24).2⟩
theorem o_l_eqIntS (k : Nat) : Ok Tryz.prog (c_l_eqIntS k) := ok_of (map0) (ptr0) (eq0) (tab1 (ty_3) (tab1 (ty_55) (tab0))) (inl1 (fi_72) (inl0)) (spec0) (mspec0)
theorem n_l_eqIntS (k : Nat) : NOk (c_l_eqIntS k) := nok (inl1 (fi_72) (inl0))
theorem s_l_eqIntS (k : Nat) : SG 72 (sp_l_eqIntS k) := ⟨specGood_run (o_l_eqIntS k) mixed (n_l_eqIntS k) (d := k) [(.slice 3 (.int .i64)), (.slice 3 (.int .i64))] [.bool] [] (fun x => l_eqIntS k x.1 x.2.1) (fun x => r_l_eqIntS k x.1 x.2.1), (fi_72).2⟩
theorem o_l_eqEvent (k : Nat) : Ok Tryz.prog (c_l_eqEvent k) := ok_of (map0) (ptr0) (eq0) (tab1 (ty_3) (tab1 (ty_9) (tab1 (ty_55) (tab1 (ty_57) (tab0))))) (inl1 (fi_70) (inl0)) (spec1 (s_l_eqIntS k) (spec0)) (mspec0)
theorem n_l_eqEvent (k : Nat) : NOk (c_l_eqEvent k) := nok (inl1 (fi_70) (inl0))
theorem s_l_eqEvent (k : Nat) : SG 70 (sp_l_eqEvent k) := ⟨specGood_run (o_l_eqEvent k) mixed (n_l_eqEvent k) (d := k) [yEvent, yEvent] [.bool] [] (fun x => l_eqEvent k x.1 x.2.1) (fun x => r_l_eqEvent k x.1 x.2.1), (fi_70).2⟩
theorem o_l_eqEventS (k : Nat) : Ok Tryz.prog (c_l_eqEventS k) := ok_of (map0) (ptr0) (eq0) (tab1 (ty_35) (tab1 (ty_57) (tab0))) (inl1 (fi_50) (inl0)) (spec1 (s_l_eqEvent k) (spec0)) (mspec0)
theorem n_l_eqEventS (k : Nat) : NOk (c_l_eqEventS k) := nok (inl1 (fi_50) (inl0))
theorem s_l_eqEventS (k : Nat) : SG 50 (sp_l_eqEventS k) := ⟨specGood_run (o_l_eqEventS k) mixed (n_l_eqEventS k) (d := k) [(.slice 57 yEvent), (.slice 57 yEvent)] [.bool] [] (fun x => l_eqEventS k x.1 x.2.1) (fun x => r_l_eqEventS k x.1 x.2.1), (fi_50).2⟩
theorem o_l_eqItem (k : Nat) : Ok Tryz.prog (c_l_eqItem k) := ok_of (map0) (ptr0) (eq0) (tab1 (ty_3) (tab1 (ty_117) (tab0))) (inl1 (fi_90) (inl0)) (spec0) (mspec0)
theorem n_l_eqItem (k : Nat) : NOk (c_l_eqItem k) := nok (inl1 (fi_90) (inl0))
theorem s_l_eqItem (k : Nat) : SG 90 (sp_l_eqItem k) := ⟨specGood_run (o_l_eqItem k) mixed (n_l_eqItem k) (d := k) [yItem, yItem] [.bool] [] (fun x => l_eqItem k x.1 x.2.1) (fun x => r_l_eqItem k x.1 x.2.1), (fi_90).2⟩
theorem o_l_eqItemS (k : Nat) : Ok Tryz.prog (c_l_eqItemS k) := ok_of (map0) (ptr0) (eq0) (tab1 (ty_100) (tab1 (ty_117) (tab0))) (inl1 (fi_71) (inl0)) (spec1 (s_l_eqItem k) (spec0)) (mspec0)
theorem n_l_eqItemS (k : Nat) : NOk (c_l_eqItemS k) := nok (inl1 (fi_71) (inl0))
theorem s_l_eqItemS (k : Nat) : SG 71 (sp_l_eqItemS k) := ⟨specGood_run (o_l_eqItemS k) mixed (n_l_eqItemS k) (d := k) [(.slice 117 yItem), (.slice 117 yItem)] [.bool] [] (fun x => l_eqItemS k x.1 x.2.1) (fun x => r_l_eqItemS k x.1 x.2.1), (fi_71).2⟩
theorem o_l_eqItemSS (k : Nat) : Ok Tryz.prog (c_l_eqItemSS k) := ok_of (map0) (ptr0) (eq0) (tab1 (ty_36) (tab1 (ty_100) (tab0))) (inl1 (fi_51) (inl0)) (spec1 (s_l_eqItemS k) (spec0)) (mspec0)
theorem n_l_eqItemSS (k : Nat) : NOk (c_l_eqItemSS k) := nok (inl1 (fi_51) (inl0))
theorem s_l_eqItemSS (k : Nat) : SG 51 (sp_l_eqItemSS k) := ⟨specGood_run (o_l_eqItemSS k) mixed (n_l_eqItemSS k) (d := k) [(.slice 100 (.slice 117 yItem)), (.slice 100 (.slice 117 yItem))] [.bool] [] (fun x => l_eqItemSS k x.1 x.2.1) (fun x => r_l_eqItemSS k x.1 x.2.1), (fi_51).2⟩
theorem o_l_eqBoolS (k : Nat) : Ok Tryz.prog (c_l_eqBoolS k) := ok_of (map0) (ptr0) (eq0) (tab1 (ty_4) (tab1 (ty_25) (tab0))) (inl1 (fi_52) (inl0)) (spec0) (mspec0)
theorem n_l_eqBoolS (k : Nat) : NOk (c_l_eqBoolS k) := nok (inl1 (fi_52) (inl0))
theorem s_l_eqBoolS (k : Nat) : SG 52 (sp_l_eqBoolS k) := ⟨specGood_run (o_l_eqBoolS k) mixed (n_l_eqBoolS k) (d := k) [(.slice 4 .bool), (.slice 4 .bool)] [.bool] [] (fun x => l_eqBoolS k x.1 x.2.1) (fun x => r_l_eqBoolS k x.1 x.2.1), (fi_52).2⟩
theorem o_l_eqRoom (k : Nat) : Ok Tryz.prog (c_l_eqRoom k) := ok_of (map0) (ptr0) (eq0) (tab1 (ty_25) (tab1 (ty_35) (tab1 (ty_36) (tab1 (ty_38) (tab0))))) (inl1 (fi_25) (inl0)) (spec1 (s_l_eqEventS k) (spec1 (s_l_eqItemSS k) (spec1 (s_l_eqBoolS k) (spec0)))) (mspec0)
theorem n_l_eqRoom (k : Nat) : NOk (c_l_eqRoom k) := nok (inl1 (fi_25) (inl0))
theorem s_l_eqRoom (k : Nat) : SG 25 (sp_l_eqRoom k) := ⟨specGood_run (o_l_eqRoom k) mixed (n_l_eqRoom k) (d := k) [yRoom1, yRoom1] [.bool] [] (fun x => l_eqRoom k x.1 x.2.1) (fun x => r_l_eqRoom k x.1 x.2.1), (fi_25).2⟩
theorem o_l_eqOut (k : Nat) : Ok Tryz.prog (c_l_eqOut k) := ok_of (map0) (ptr0) (eq0) (tab1 (ty_3) (tab1 (ty_55) (tab1 (ty_59) (tab0)))) (inl1 (fi_53) (inl0)) (spec1 (s_l_eqIntS k) (spec0)) (mspec0)
theorem n_l_eqOut (k : Nat) : NOk (c_l_eqOut k) := nok (inl1 (fi_53) (inl0))
theorem s_l_eqOut (k : Nat) : SG 53 (sp_l_eqOut k) := ⟨specGood_run (o_l_eqOut k) mixed (n_l_eqOut k) (d := k) [yOut, yOut] [.bool] [] (fun x => l_eqOut k x.1 x.2.1) (fun x => r_l_eqOut k x.1 x.2.1), (fi_53).2⟩
theorem o_l_eqOutS (k : Nat) : Ok Tryz.prog (c_l_eqOutS k) := ok_of (map0) (ptr0) (eq0) (tab1 (ty_39) (tab1 (ty_59) (tab0))) (inl1 (fi_26) (inl0)) (spec1 (s_l_eqOut k) (spec0)) (mspec0)
theorem n_l_eqOutS (k : Nat) : NOk (c_l_eqOutS k) := nok (inl1 (fi_26) (inl0))
theorem s_l_eqOutS (k : Nat) : SG 26 (sp_l_eqOutS k) := ⟨specGood_run (o_l_eqOutS k) mixed (n_l_eqOutS k) (d := k) [(.slice 59 yOut), (.slice 59 yOut)] [.bool] [] (fun x => l_eqOutS k x.1 x.2.1) (fun x => r_l_eqOutS k x.1 x.2.1), (fi_26).2⟩
theorem o_l_eqHall (k : Nat) : Ok Tryz.prog (c_l_eqHall k) := ok_of (map0) (ptr0) (eq0) (tab1 (ty_34) (tab1 (ty_38) (tab1 (ty_39) (tab1 (ty_41) (tab0))))) (inl1 (fi_8) (inl0)) (spec1 (s_l_eqSessionS k) (spec1 (s_l_eqRoom k) (spec1 (s_l_eqOutS k) (spec0)))) (mspec0)
theorem n_l_eqHall (k : Nat) : NOk (c_l_eqHall k) := nok (inl1 (fi_8) (inl0))
theorem s_l_eqHall (k : Nat) : SG 8 (sp_l_eqHall k) := ⟨specGood_run (o_l_eqHall k) mixed (n_l_eqHall k) (d := k) [yHall1, yHall1] [.bool] [] (fun x => l_eqHall k x.1 x.2.1) (fun x => r_l_eqHall k x.1 x.2.1), (fi_8).2⟩
theorem o_l_FnExactHallText (k : Nat) : Ok Tryz.prog (c_l_FnExactHallText k) := ok_of (map0) (ptr0) (eq0) (tab1 (ty_4) (tab1 (ty_30) (tab1 (ty_41) (tab0)))) (inl1 (fi_3) (inl0)) (spec1 (s_l_szHall k) (spec1 (s_s_HallText k) (spec1 (s_l_toHall k) (spec1 (s_i_HallText k) (spec1 (s_l_eqHall k) (spec0)))))) (mspec0)
theorem n_l_FnExactHallText (k : Nat) : NOk (c_l_FnExactHallText k) := nok (inl1 (fi_3) (inl0))
theorem s_l_FnExactHallText (k : Nat) : SG 3 (sp_l_FnExactHallText k) := ⟨specGood_run (o_l_FnExactHallText k) mixed (n_l_FnExactHallText k) (d := k) [yHall] [.bool] [] (fun x => l_FnExactHallText k x.1) (fun x => r_l_FnExactHallText k x.1), (fi_3).2⟩
end Go.Vm
