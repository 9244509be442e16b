/- The functions keep their specifications. -/
import Derived.Test.YtdpbokpmionoeaaH2
import Derived.Test.YtdpbokpmionoeaaChecked
set_option linter.unusedVariables false
namespace Go.Vm
open Go Go.Proofs
theorem mixed : Try.prog.follows .mixedOrders = true := Try.checked.mixed
theorem ty_3 : TyOk Try.prog (.int .i64) 3 := tyB_sound _ _ _ [] (by kernel_rfl)
theorem ty_4 : TyOk Try.prog .bool 4 := tyB_sound _ _ _ [] (by kernel_rfl)
theorem ty_5 : TyOk Try.prog (.int .u8) 5 := tyB_sound _ _ _ [] (by kernel_rfl)
theorem ty_9 : TyOk Try.prog .str 9 := tyB_sound _ _ _ [] (by kernel_rfl)
theorem ty_22 : TyOk Try.prog (.slice 97 yItem) 22 := tyB_sound _ _ _ [] (by kernel_rfl)
theorem ty_25 : TyOk Try.prog (.slice 95 yItem) 25 := tyB_sound _ _ _ [] (by kernel_rfl)
theorem ty_31 : TyOk Try.prog (.slice 3 (.int .i64)) 31 := tyB_sound _ _ _ [] (by kernel_rfl)
theorem ty_33 : TyOk Try.prog yEvent 33 := tyB_sound _ _ _ [] (by kernel_rfl)
theorem ty_36 : TyOk Try.prog yEvent 36 := tyB_sound _ _ _ [] (by kernel_rfl)
theorem ty_40 : TyOk Try.prog (.slice 33 yEvent) 40 := tyB_sound _ _ _ [] (by kernel_rfl)
theorem ty_44 : TyOk Try.prog (.slice 36 yEvent) 44 := tyB_sound _ _ _ [] (by kernel_rfl)
theorem ty_55 : TyOk Try.prog yCommand 55 := tyB_sound _ _ _ [] (by kernel_rfl)
theorem ty_59 : TyOk Try.prog yCommand 59 := tyB_sound _ _ _ [] (by kernel_rfl)
theorem ty_63 : TyOk Try.prog (.slice 22 (.slice 97 yItem)) 63 := tyB_sound _ _ _ [] (by kernel_rfl)
theorem ty_64 : TyOk Try.prog (.slice 4 .bool) 64 := tyB_sound _ _ _ [] (by kernel_rfl)
theorem ty_66 : TyOk Try.prog yRoom 66 := tyB_sound _ _ _ [] (by kernel_rfl)
theorem ty_69 : TyOk Try.prog (.slice 25 (.slice 95 yItem)) 69 := tyB_sound _ _ _ [] (by kernel_rfl)
theorem ty_71 : TyOk Try.prog yRoom1 71 := tyB_sound _ _ _ [] (by kernel_rfl)
theorem ty_95 : TyOk Try.prog yItem 95 := tyB_sound _ _ _ [] (by kernel_rfl)
theorem ty_97 : TyOk Try.prog yItem 97 := tyB_sound _ _ _ [] (by kernel_rfl)
theorem ty_116 : TyOk Try.prog yL05Cur 116 := tyB_sound _ _ _ [] (by kernel_rfl)
theorem ty_122 : TyOk Try.prog yL05Cur 122 := tyB_sound _ _ _ [] (by kernel_rfl)
theorem ty_129 : TyOk Try.prog (.slice 5 (.int .u8)) 129 := tyB_sound _ _ _ [] (by kernel_rfl)
theorem pt_120 : PtrOk Try.prog 120 := ptrB_sound (by kernel_rfl)
theorem fi_3 : Try.prog.funcs[3]? = some Try.f3 ∧ Enters Try.prog 3 := ⟨Try.func3, enters_of Try.func3 (by kernel_rfl) rfl⟩
theorem fi_4 : Try.prog.funcs[4]? = some Try.f4 ∧ Enters Try.prog 4 := ⟨Try.func4, enters_of Try.func4 (by kernel_rfl) rfl⟩
theorem fi_5 : Try.prog.funcs[5]? = some Try.f5 ∧ Enters Try.prog 5 := ⟨Try.func5, enters_of Try.func5 (by kernel_rfl) rfl⟩
theorem fi_8 : Try.prog.funcs[8]? = some Try.f8 ∧ Enters Try.prog 8 := ⟨Try.func8, enters_of Try.func8 (by kernel_rfl) rfl⟩
theorem fi_9 : Try.prog.funcs[9]? = some Try.f9 ∧ Enters Try.prog 9 := ⟨Try.func9, enters_of Try.func9 (by kernel_rfl) rfl⟩
theorem fi_10 : Try.prog.funcs[10]? = some Try.f10 ∧ Enters Try.prog 10 := ⟨Try.func10, enters_of Try.func10 (by kernel_rfl) rfl⟩
theorem fi_11 : Try.prog.funcs[11]? = some Try.f11 ∧ Enters Try.prog 11 := ⟨Try.func11, enters_of Try.func11 (by kernel_rfl) rfl⟩
theorem fi_13 : Try.prog.funcs[13]? = some Try.f13 ∧ Enters Try.prog 13 := ⟨Try.func13, enters_of Try.func13 (by kernel_rfl) rfl⟩
theorem fi_15 : Try.prog.funcs[15]? = some Try.f15 ∧ Enters Try.prog 15 := ⟨Try.func15, enters_of Try.func15 (by kernel_rfl) rfl⟩
theorem fi_16 : Try.prog.funcs[16]? = some Try.f16 ∧ Enters Try.prog 16 := ⟨Try.func16, enters_of Try.func16 (by kernel_rfl) rfl⟩
theorem fi_17 : Try.prog.funcs[17]? = some Try.f17 ∧ Enters Try.prog 17 := ⟨Try.func17, enters_of Try.func17 (by kernel_rfl) rfl⟩
theorem fi_18 : Try.prog.funcs[18]? = some Try.f18 ∧ Enters Try.prog 18 := ⟨Try.func18, enters_of Try.func18 (by kernel_rfl) rfl⟩
theorem fi_19 : Try.prog.funcs[19]? = some Try.f19 ∧ Enters Try.prog 19 := ⟨Try.func19, enters_of Try.func19 (by kernel_rfl) rfl⟩
theorem fi_20 : Try.prog.funcs[20]? = some Try.f20 ∧ Enters Try.prog 20 := ⟨Try.func20, enters_of Try.func20 (by kernel_rfl) rfl⟩
theorem fi_21 : Try.prog.funcs[21]? = some Try.f21 ∧ Enters Try.prog 21 := ⟨Try.func21, enters_of Try.func21 (by kernel_rfl) rfl⟩
theorem fi_22 : Try.prog.funcs[22]? = some Try.f22 ∧ Enters Try.prog 22 := ⟨Try.func22, enters_of Try.func22 (by kernel_rfl) rfl⟩
theorem fi_23 : Try.prog.funcs[23]? = some Try.f23 ∧ Enters Try.prog 23 := ⟨Try.func23, enters_of Try.func23 (by kernel_rfl) rfl⟩
theorem fi_24 : Try.prog.funcs[24]? = some Try.f24 ∧ Enters Try.prog 24 := ⟨Try.func24, enters_of Try.func24 (by kernel_rfl) rfl⟩
theorem fi_25 : Try.prog.funcs[25]? = some Try.f25 ∧ Enters Try.prog 25 := ⟨Try.func25, enters_of Try.func25 (by kernel_rfl) rfl⟩
theorem fi_26 : Try.prog.funcs[26]? = some Try.f26 ∧ Enters Try.prog 26 := ⟨Try.func26, enters_of Try.func26 (by kernel_rfl) rfl⟩
theorem fi_27 : Try.prog.funcs[27]? = some Try.f27 ∧ Enters Try.prog 27 := ⟨Try.func27, enters_of Try.func27 (by kernel_rfl) rfl⟩
theorem fi_29 : Try.prog.funcs[29]? = some Try.f29 ∧ Enters Try.prog 29 := ⟨Try.func29, enters_of Try.func29 (by kernel_rfl) rfl⟩
theorem fi_30 : Try.prog.funcs[30]? = some Try.f30 ∧ Enters Try.prog 30 := ⟨Try.func30, enters_of Try.func30 (by kernel_rfl) rfl⟩
theorem fi_31 : Try.prog.funcs[31]? = some Try.f31 ∧ Enters Try.prog 31 := ⟨Try.func31, enters_of Try.func31 (by kernel_rfl) rfl⟩
theorem fi_33 : Try.prog.funcs[33]? = some Try.f33 ∧ Enters Try.prog 33 := ⟨Try.func33, enters_of Try.func33 (by kernel_rfl) rfl⟩
theorem fi_34 : Try.prog.funcs[34]? = some Try.f34 ∧ Enters Try.prog 34 := ⟨Try.func34, enters_of Try.func34 (by kernel_rfl) rfl⟩
theorem fi_39 : Try.prog.funcs[39]? = some Try.f39 ∧ Enters Try.prog 39 := ⟨Try.func39, enters_of Try.func39 (by kernel_rfl) rfl⟩
theorem fi_40 : Try.prog.funcs[40]? = some Try.f40 ∧ Enters Try.prog 40 := ⟨Try.func40, enters_of Try.func40 (by kernel_rfl) rfl⟩
theorem fi_41 : Try.prog.funcs[41]? = some Try.f41 ∧ Enters Try.prog 41 := ⟨Try.func41, enters_of Try.func41 (by kernel_rfl) rfl⟩
theorem fi_42 : Try.prog.funcs[42]? = some Try.f42 ∧ Enters Try.prog 42 := ⟨Try.func42, enters_of Try.func42 (by kernel_rfl) rfl⟩
theorem fi_43 : Try.prog.funcs[43]? = some Try.f43 ∧ Enters Try.prog 43 := ⟨Try.func43, enters_of Try.func43 (by kernel_rfl) rfl⟩
theorem fi_44 : Try.prog.funcs[44]? = some Try.f44 ∧ Enters Try.prog 44 := ⟨Try.func44, enters_of Try.func44 (by kernel_rfl) rfl⟩
theorem fi_45 : Try.prog.funcs[45]? = some Try.f45 ∧ Enters Try.prog 45 := ⟨Try.func45, enters_of Try.func45 (by kernel_rfl) rfl⟩
theorem fi_46 : Try.prog.funcs[46]? = some Try.f46 ∧ Enters Try.prog 46 := ⟨Try.func46, enters_of Try.func46 (by kernel_rfl) rfl⟩
theorem fi_47 : Try.prog.funcs[47]? = some Try.f47 ∧ Enters Try.prog 47 := ⟨Try.func47, enters_of Try.func47 (by kernel_rfl) rfl⟩
theorem fi_48 : Try.prog.funcs[48]? = some Try.f48 ∧ Enters Try.prog 48 := ⟨Try.func48, enters_of Try.func48 (by kernel_rfl) rfl⟩
theorem fi_49 : Try.prog.funcs[49]? = some Try.f49 ∧ Enters Try.prog 49 := ⟨Try.func49, enters_of Try.func49 (by kernel_rfl) rfl⟩
theorem fi_50 : Try.prog.funcs[50]? = some Try.f50 ∧ Enters Try.prog 50 := ⟨Try.func50, enters_of Try.func50 (by kernel_rfl) rfl⟩
theorem fi_51 : Try.prog.funcs[51]? = some Try.f51 ∧ Enters Try.prog 51 := ⟨Try.func51, enters_of Try.func51 (by kernel_rfl) rfl⟩
theorem fi_52 : Try.prog.funcs[52]? = some Try.f52 ∧ Enters Try.prog 52 := ⟨Try.func52, enters_of Try.func52 (by kernel_rfl) rfl⟩
theorem fi_53 : Try.prog.funcs[53]? = some Try.f53 ∧ Enters Try.prog 53 := ⟨Try.func53, enters_of Try.func53 (by kernel_rfl) rfl⟩
theorem fi_54 : Try.prog.funcs[54]? = some Try.f54 ∧ Enters Try.prog 54 := ⟨Try.func54, enters_of Try.func54 (by kernel_rfl) rfl⟩
theorem fi_61 : Try.prog.funcs[61]? = some Try.f61 ∧ Enters Try.prog 61 := ⟨Try.func61, enters_of Try.func61 (by kernel_rfl) rfl⟩
theorem fi_62 : Try.prog.funcs[62]? = some Try.f62 ∧ Enters Try.prog 62 := ⟨Try.func62, enters_of Try.func62 (by kernel_rfl) rfl⟩
theorem fi_68 : Try.prog.funcs[68]? = some Try.f68 ∧ Enters Try.prog 68 := ⟨Try.func68, enters_of Try.func68 (by kernel_rfl) rfl⟩
theorem fi_69 : Try.prog.funcs[69]? = some Try.f69 ∧ Enters Try.prog 69 := ⟨Try.func69, enters_of Try.func69 (by kernel_rfl) rfl⟩
theorem fi_70 : Try.prog.funcs[70]? = some Try.f70 ∧ Enters Try.prog 70 := ⟨Try.func70, enters_of Try.func70 (by kernel_rfl) rfl⟩
theorem fi_71 : Try.prog.funcs[71]? = some Try.f71 ∧ Enters Try.prog 71 := ⟨Try.func71, enters_of Try.func71 (by kernel_rfl) rfl⟩
theorem fi_72 : Try.prog.funcs[72]? = some Try.f72 ∧ Enters Try.prog 72 := ⟨Try.func72, enters_of Try.func72 (by kernel_rfl) rfl⟩
theorem fi_73 : Try.prog.funcs[73]? = some Try.f73 ∧ Enters Try.prog 73 := ⟨Try.func73, enters_of Try.func73 (by kernel_rfl) rfl⟩
theorem fi_74 : Try.prog.funcs[74]? = some Try.f74 ∧ Enters Try.prog 74 := ⟨Try.func74, enters_of Try.func74 (by kernel_rfl) rfl⟩
theorem fi_75 : Try.prog.funcs[75]? = some Try.f75 ∧ Enters Try.prog 75 := ⟨Try.func75, enters_of Try.func75 (by kernel_rfl) rfl⟩
theorem fi_76 : Try.prog.funcs[76]? = some Try.f76 ∧ Enters Try.prog 76 := ⟨Try.func76, enters_of Try.func76 (by kernel_rfl) rfl⟩
theorem fi_79 : Try.prog.funcs[79]? = some Try.f79 ∧ Enters Try.prog 79 := ⟨Try.func79, enters_of Try.func79 (by kernel_rfl) rfl⟩
theorem fi_80 : Try.prog.funcs[80]? = some Try.f80 ∧ Enters Try.prog 80 := ⟨Try.func80, enters_of Try.func80 (by kernel_rfl) rfl⟩
theorem fi_82 : Try.prog.funcs[82]? = some Try.f82 ∧ Enters Try.prog 82 := ⟨Try.func82, enters_of Try.func82 (by kernel_rfl) rfl⟩
theorem fi_84 : Try.prog.funcs[84]? = some Try.f84 ∧ Enters Try.prog 84 := ⟨Try.func84, enters_of Try.func84 (by kernel_rfl) rfl⟩
theorem fi_85 : Try.prog.funcs[85]? = some Try.f85 ∧ Enters Try.prog 85 := ⟨Try.func85, enters_of Try.func85 (by kernel_rfl) rfl⟩
theorem fi_86 : Try.prog.funcs[86]? = some Try.f86 ∧ Enters Try.prog 86 := ⟨Try.func86, enters_of Try.func86 (by kernel_rfl) rfl⟩
theorem fi_87 : Try.prog.funcs[87]? = some Try.f87 ∧ Enters Try.prog 87 := ⟨Try.func87, enters_of Try.func87 (by kernel_rfl) rfl⟩
theorem fi_88 : Try.prog.funcs[88]? = some Try.f88 ∧ Enters Try.prog 88 := ⟨Try.func88, enters_of Try.func88 (by kernel_rfl) rfl⟩
theorem fi_89 : Try.prog.funcs[89]? = some Try.f89 ∧ Enters Try.prog 89 := ⟨Try.func89, enters_of Try.func89 (by kernel_rfl) rfl⟩
theorem fi_90 : Try.prog.funcs[90]? = some Try.f90 ∧ Enters Try.prog 90 := ⟨Try.func90, enters_of Try.func90 (by kernel_rfl) rfl⟩
theorem fi_91 : Try.prog.funcs[91]? = some Try.f91 ∧ Enters Try.prog 91 := ⟨Try.func91, enters_of Try.func91 (by kernel_rfl) rfl⟩
theorem fi_92 : Try.prog.funcs[92]? = some Try.f92 ∧ Enters Try.prog 92 := ⟨Try.func92, enters_of Try.func92 (by kernel_rfl) rfl⟩
theorem fi_93 : Try.prog.funcs[93]? = some Try.f93 ∧ Enters Try.prog 93 := ⟨Try.func93, enters_of Try.func93 (by kernel_rfl) rfl⟩
theorem fi_94 : Try.prog.funcs[94]? = some Try.f94 ∧ Enters Try.prog 94 := ⟨Try.func94, enters_of Try.func94 (by kernel_rfl) rfl⟩
theorem fi_95 : Try.prog.funcs[95]? = some Try.f95 ∧ Enters Try.prog 95 := ⟨Try.func95, enters_of Try.func95 (by kernel_rfl) rfl⟩
theorem fi_96 : Try.prog.funcs[96]? = some Try.f96 ∧ Enters Try.prog 96 := ⟨Try.func96, enters_of Try.func96 (by kernel_rfl) rfl⟩
theorem fi_97 : Try.prog.funcs[97]? = some Try.f97 ∧ Enters Try.prog 97 := ⟨Try.func97, enters_of Try.func97 (by kernel_rfl) rfl⟩
theorem fi_98 : Try.prog.funcs[98]? = some Try.f98 ∧ Enters Try.prog 98 := ⟨Try.func98, enters_of Try.func98 (by kernel_rfl) rfl⟩
theorem fi_99 : Try.prog.funcs[99]? = some Try.f99 ∧ Enters Try.prog 99 := ⟨Try.func99, enters_of Try.func99 (by kernel_rfl) rfl⟩
theorem fi_100 : Try.prog.funcs[100]? = some Try.f100 ∧ Enters Try.prog 100 := ⟨Try.func100, enters_of Try.func100 (by kernel_rfl) rfl⟩
theorem fi_101 : Try.prog.funcs[101]? = some Try.f101 ∧ Enters Try.prog 101 := ⟨Try.func101, enters_of Try.func101 (by kernel_rfl) rfl⟩
theorem fi_102 : Try.prog.funcs[102]? = some Try.f102 ∧ Enters Try.prog 102 := ⟨Try.func102, enters_of Try.func102 (by kernel_rfl) rfl⟩
theorem fi_103 : Try.prog.funcs[103]? = some Try.f103 ∧ Enters Try.prog 103 := ⟨Try.func103, enters_of Try.func103 (by kernel_rfl) rfl⟩
theorem fi_104 : Try.prog.funcs[104]? = some Try.f104 ∧ Enters Try.prog 104 := ⟨Try.func104, enters_of Try.func104 (by kernel_rfl) rfl⟩
theorem fi_105 : Try.prog.funcs[105]? = some Try.f105 ∧ Enters Try.prog 105 := ⟨Try.func105, enters_of Try.func105 (by kernel_rfl) rfl⟩
theorem fi_109 : Try.prog.funcs[109]? = some Try.f109 ∧ Enters Try.prog 109 := ⟨Try.func109, enters_of Try.func109 (by kernel_rfl) rfl⟩
theorem fi_110 : Try.prog.funcs[110]? = some Try.f110 ∧ Enters Try.prog 110 := ⟨Try.func110, enters_of Try.func110 (by kernel_rfl) rfl⟩
theorem fi_111 : Try.prog.funcs[111]? = some Try.f111 ∧ Enters Try.prog 111 := ⟨Try.func111, enters_of Try.func111 (by kernel_rfl) rfl⟩
theorem fi_119 : Try.prog.funcs[119]? = some Try.f119 ∧ Enters Try.prog 119 := ⟨Try.func119, enters_of Try.func119 (by kernel_rfl) rfl⟩
theorem fi_122 : Try.prog.funcs[122]? = some Try.f122 ∧ Enters Try.prog 122 := ⟨Try.func122, enters_of Try.func122 (by kernel_rfl) rfl⟩
theorem fi_123 : Try.prog.funcs[123]? = some Try.f123 ∧ Enters Try.prog 123 := ⟨Try.func123, enters_of Try.func123 (by kernel_rfl) rfl⟩
theorem fi_124 : Try.prog.funcs[124]? = some Try.f124 ∧ Enters Try.prog 124 := ⟨Try.func124, enters_of Try.func124 (by kernel_rfl) rfl⟩
theorem fi_125 : Try.prog.funcs[125]? = some Try.f125 ∧ Enters Try.prog 125 := ⟨Try.func125, enters_of Try.func125 (by kernel_rfl) rfl⟩
theorem fi_126 : Try.prog.funcs[126]? = some Try.f126 ∧ Enters Try.prog 126 := ⟨Try.func126, enters_of Try.func126 (by kernel_rfl) rfl⟩
theorem fi_127 : Try.prog.funcs[127]? = some Try.f127 ∧ Enters Try.prog 127 := ⟨Try.func127, enters_of Try.func127 (by kernel_rfl) rfl⟩
theorem fi_128 : Try.prog.funcs[128]? = some Try.f128 ∧ Enters Try.prog 128 := ⟨Try.func128, enters_of Try.func128 (by kernel_rfl) rfl⟩
theorem fi_129 : Try.prog.funcs[129]? = some Try.f129 ∧ Enters Try.prog 129 := ⟨Try.func129, enters_of Try.func129 (by kernel_rfl) rfl⟩
theorem fi_130 : Try.prog.funcs[130]? = some Try.f130 ∧ Enters Try.prog 130 := ⟨Try.func130, enters_of Try.func130 (by kernel_rfl) rfl⟩
theorem fi_131 : Try.prog.funcs[131]? = some Try.f131 ∧ Enters Try.prog 131 := ⟨Try.func131, enters_of Try.func131 (by kernel_rfl) rfl⟩
theorem fi_138 : Try.prog.funcs[138]? = some Try.f138 ∧ Enters Try.prog 138 := ⟨Try.func138, enters_of Try.func138 (by kernel_rfl) rfl⟩
theorem fi_139 : Try.prog.funcs[139]? = some Try.f139 ∧ Enters Try.prog 139 := ⟨Try.func139, enters_of Try.func139 (by kernel_rfl) rfl⟩
theorem fi_140 : Try.prog.funcs[140]? = some Try.f140 ∧ Enters Try.prog 140 := ⟨Try.func140, enters_of Try.func140 (by kernel_rfl) rfl⟩
theorem o_l_szItemS (k : Nat) : Ok Try.prog (c_l_szItemS k) := ok_of (ptr0) (eq0) (tab1 (ty_22) (tab0)) (inl1 (fi_15) (inl0)) (spec0) (mspec0)
theorem n_l_szItemS (k : Nat) : ∀ f fn, look (c_l_szItemS k).inl f = some fn → Try.prog.funcs[f]? = some fn := fun f fn h => (show InlL Try.prog (c_l_szItemS k).inl from inl1 (fi_15) (inl0)) f fn h |>.1
theorem s_l_szItemS (k : Nat) : SpecGood Try.prog 15 (sp_l_szItemS k) ∧ Enters Try.prog 15 := ⟨specGood_run (o_l_szItemS k) mixed (n_l_szItemS k) (d := 1) [(.slice 97 yItem), (.int .i64)] [(.int .i64)] [] (fun x => l_szItemS k x.1 x.2.1) (fun x => r_l_szItemS k x.1 x.2.1), (fi_15).2⟩
theorem o_s_At (k : Nat) : Ok Try.prog (c_s_At k) := ok_of (ptr0) (eq0) (tab1 (ty_3) (tab1 (ty_25) (tab1 (ty_95) (tab0)))) (inl1 (fi_16) (inl0)) (spec0) (mspec0)
theorem n_s_At (k : Nat) : ∀ f fn, look (c_s_At k).inl f = some fn → Try.prog.funcs[f]? = some fn := fun f fn h => (show InlL Try.prog (c_s_At k).inl from inl1 (fi_16) (inl0)) f fn h |>.1
theorem s_s_At (k : Nat) : SpecGood Try.prog 16 (sp_s_At k) ∧ Enters Try.prog 16 := ⟨specGood_run (o_s_At k) mixed (n_s_At k) (d := 1) [(.slice 95 yItem), (.int .i64)] [(.int .i64)] [] (fun x => s_At k x.1 x.2.1) (fun x => r_s_At k x.1 x.2.1), (fi_16).2⟩
theorem o_l_toItem (k : Nat) : Ok Try.prog (c_l_toItem k) := ok_of (ptr0) (eq0) (tab1 (ty_3) (tab1 (ty_95) (tab1 (ty_97) (tab0)))) (inl1 (fi_68) (inl0)) (spec0) (mspec0)
theorem n_l_toItem (k : Nat) : ∀ f fn, look (c_l_toItem k).inl f = some fn → Try.prog.funcs[f]? = some fn := fun f fn h => (show InlL Try.prog (c_l_toItem k).inl from inl1 (fi_68) (inl0)) f fn h |>.1
theorem s_l_toItem (k : Nat) : SpecGood Try.prog 68 (sp_l_toItem k) ∧ Enters Try.prog 68 := ⟨specGood_run (o_l_toItem k) mixed (n_l_toItem k) (d := 1) [yItem] [yItem] [] (fun x => l_toItem k x.1) (fun x => r_l_toItem k x.1), (fi_68).2⟩
theorem o_l_toItemS (k : Nat) : Ok Try.prog (c_l_toItemS k) := ok_of (ptr0) (eq0) (tab1 (ty_22) (tab1 (ty_25) (tab1 (ty_95) (tab1 (ty_97) (tab0))))) (inl1 (fi_17) (inl0)) (spec1 (s_l_toItem k) (spec0)) (mspec0)
theorem n_l_toItemS (k : Nat) : ∀ f fn, look (c_l_toItemS k).inl f = some fn → Try.prog.funcs[f]? = some fn := fun f fn h => (show InlL Try.prog (c_l_toItemS k).inl from inl1 (fi_17) (inl0)) f fn h |>.1
theorem s_l_toItemS (k : Nat) : SpecGood Try.prog 17 (sp_l_toItemS k) ∧ Enters Try.prog 17 := ⟨specGood_run (o_l_toItemS k) mixed (n_l_toItemS k) (d := 1) [(.slice 97 yItem)] [(.slice 95 yItem)] [true] (fun x => l_toItemS k x.1) (fun x => r_l_toItemS k x.1), (fi_17).2⟩
theorem o_i_At (k : Nat) : Ok Try.prog (c_i_At k) := ok_of (ptr0) (eq0) (tab1 (ty_3) (tab1 (ty_25) (tab1 (ty_95) (tab0)))) (inl1 (fi_18) (inl0)) (spec0) (mspec0)
theorem n_i_At (k : Nat) : ∀ f fn, look (c_i_At k).inl f = some fn → Try.prog.funcs[f]? = some fn := fun f fn h => (show InlL Try.prog (c_i_At k).inl from inl1 (fi_18) (inl0)) f fn h |>.1
theorem s_i_At (k : Nat) : SpecGood Try.prog 18 (sp_i_At k) ∧ Enters Try.prog 18 := ⟨specGood_run (o_i_At k) mixed (n_i_At k) (d := 1) [(.slice 95 yItem), (.int .i64)] [(.int .i64)] [] (fun x => i_At k x.1 x.2.1) (fun x => r_i_At k x.1 x.2.1), (fi_18).2⟩
theorem o_l_eqItem (k : Nat) : Ok Try.prog (c_l_eqItem k) := ok_of (ptr0) (eq0) (tab1 (ty_3) (tab1 (ty_95) (tab0))) (inl1 (fi_69) (inl0)) (spec0) (mspec0)
theorem n_l_eqItem (k : Nat) : ∀ f fn, look (c_l_eqItem k).inl f = some fn → Try.prog.funcs[f]? = some fn := fun f fn h => (show InlL Try.prog (c_l_eqItem k).inl from inl1 (fi_69) (inl0)) f fn h |>.1
theorem s_l_eqItem (k : Nat) : SpecGood Try.prog 69 (sp_l_eqItem k) ∧ Enters Try.prog 69 := ⟨specGood_run (o_l_eqItem k) mixed (n_l_eqItem k) (d := 1) [yItem, yItem] [.bool] [] (fun x => l_eqItem k x.1 x.2.1) (fun x => r_l_eqItem k x.1 x.2.1), (fi_69).2⟩
theorem o_l_eqItemS (k : Nat) : Ok Try.prog (c_l_eqItemS k) := ok_of (ptr0) (eq0) (tab1 (ty_25) (tab1 (ty_95) (tab0))) (inl1 (fi_19) (inl0)) (spec1 (s_l_eqItem k) (spec0)) (mspec0)
theorem n_l_eqItemS (k : Nat) : ∀ f fn, look (c_l_eqItemS k).inl f = some fn → Try.prog.funcs[f]? = some fn := fun f fn h => (show InlL Try.prog (c_l_eqItemS k).inl from inl1 (fi_19) (inl0)) f fn h |>.1
theorem s_l_eqItemS (k : Nat) : SpecGood Try.prog 19 (sp_l_eqItemS k) ∧ Enters Try.prog 19 := ⟨specGood_run (o_l_eqItemS k) mixed (n_l_eqItemS k) (d := 1) [(.slice 95 yItem), (.slice 95 yItem)] [.bool] [] (fun x => l_eqItemS k x.1 x.2.1) (fun x => r_l_eqItemS k x.1 x.2.1), (fi_19).2⟩
theorem o_l_FnExactAt (k : Nat) : Ok Try.prog (c_l_FnExactAt k) := ok_of (ptr0) (eq0) (tab0) (inl1 (fi_3) (inl0)) (spec1 (s_l_szItemS k) (spec1 (s_s_At k) (spec1 (s_l_toItemS k) (spec1 (s_i_At k) (spec1 (s_l_eqItemS k) (spec0)))))) (mspec0)
theorem n_l_FnExactAt (k : Nat) : ∀ f fn, look (c_l_FnExactAt k).inl f = some fn → Try.prog.funcs[f]? = some fn := fun f fn h => (show InlL Try.prog (c_l_FnExactAt k).inl from inl1 (fi_3) (inl0)) f fn h |>.1
theorem s_l_FnExactAt (k : Nat) : SpecGood Try.prog 3 (sp_l_FnExactAt k) ∧ Enters Try.prog 3 := ⟨specGood_run (o_l_FnExactAt k) mixed (n_l_FnExactAt k) (d := 1) [(.slice 97 yItem), (.int .i64)] [.bool] [] (fun x => l_FnExactAt k x.1 x.2.1) (fun x => r_l_FnExactAt k x.1 x.2.1), (fi_3).2⟩
theorem o_s_l01In (k : Nat) : Ok Try.prog (c_s_l01In k) := ok_of (ptr0) (eq0) (tab0) (inl1 (fi_71) (inl0)) (spec0) (mspec0)
theorem n_s_l01In (k : Nat) : ∀ f fn, look (c_s_l01In k).inl f = some fn → Try.prog.funcs[f]? = some fn := fun f fn h => (show InlL Try.prog (c_s_l01In k).inl from inl1 (fi_71) (inl0)) f fn h |>.1
theorem s_s_l01In (k : Nat) : SpecGood Try.prog 71 (sp_s_l01In k) ∧ Enters Try.prog 71 := ⟨specGood_run (o_s_l01In k) mixed (n_s_l01In k) (d := 1) [(.int .i64), (.int .i64), (.int .i64)] [.bool] [] (fun x => s_l01In k x.1 x.2.1 x.2.2.1) (fun x => r_s_l01In k x.1 x.2.1 x.2.2.1), (fi_71).2⟩
theorem o_s_l10Key (k : Nat) : Ok Try.prog (c_s_l10Key k) := ok_of (ptr0) (eq0) (tab0) (inl1 (fi_70) (inl0)) (spec1 (s_s_l01In k) (spec0)) (mspec0)
theorem n_s_l10Key (k : Nat) : ∀ f fn, look (c_s_l10Key k).inl f = some fn → Try.prog.funcs[f]? = some fn := fun f fn h => (show InlL Try.prog (c_s_l10Key k).inl from inl1 (fi_70) (inl0)) f fn h |>.1
theorem s_s_l10Key (k : Nat) : SpecGood Try.prog 70 (sp_s_l10Key k) ∧ Enters Try.prog 70 := ⟨specGood_run (o_s_l10Key k) mixed (n_s_l10Key k) (d := 1) [(.int .i64)] [.bool] [] (fun x => s_l10Key k x.1) (fun x => r_s_l10Key k x.1), (fi_70).2⟩
theorem o_s_StateOk (k : Nat) : Ok Try.prog (c_s_StateOk k) := ok_of (ptr0) (eq0) (tab1 (ty_3) (tab1 (ty_25) (tab1 (ty_95) (tab0)))) (inl1 (fi_20) (inl0)) (spec1 (s_s_l10Key k) (spec1 (s_s_l01In k) (spec0))) (mspec0)
theorem n_s_StateOk (k : Nat) : ∀ f fn, look (c_s_StateOk k).inl f = some fn → Try.prog.funcs[f]? = some fn := fun f fn h => (show InlL Try.prog (c_s_StateOk k).inl from inl1 (fi_20) (inl0)) f fn h |>.1
theorem s_s_StateOk (k : Nat) : SpecGood Try.prog 20 (sp_s_StateOk k) ∧ Enters Try.prog 20 := ⟨specGood_run (o_s_StateOk k) mixed (n_s_StateOk k) (d := 1) [(.slice 95 yItem)] [.bool] [] (fun x => s_StateOk k x.1) (fun x => r_s_StateOk k x.1), (fi_20).2⟩
theorem o_i_within (k : Nat) : Ok Try.prog (c_i_within k) := ok_of (ptr0) (eq0) (tab0) (inl1 (fi_72) (inl0)) (spec0) (mspec0)
theorem n_i_within (k : Nat) : ∀ f fn, look (c_i_within k).inl f = some fn → Try.prog.funcs[f]? = some fn := fun f fn h => (show InlL Try.prog (c_i_within k).inl from inl1 (fi_72) (inl0)) f fn h |>.1
theorem s_i_within (k : Nat) : SpecGood Try.prog 72 (sp_i_within k) ∧ Enters Try.prog 72 := ⟨specGood_run (o_i_within k) mixed (n_i_within k) (d := 1) [(.int .i64), (.int .i64), (.int .i64)] [.bool] [] (fun x => i_within k x.1 x.2.1 x.2.2.1) (fun x => r_i_within k x.1 x.2.1 x.2.2.1), (fi_72).2⟩
theorem o_i_StateOk (k : Nat) : Ok Try.prog (c_i_StateOk k) := ok_of (ptr0) (eq0) (tab1 (ty_3) (tab1 (ty_25) (tab1 (ty_95) (tab0)))) (inl1 (fi_21) (inl0)) (spec1 (s_i_within k) (spec0)) (mspec0)
theorem n_i_StateOk (k : Nat) : ∀ f fn, look (c_i_StateOk k).inl f = some fn → Try.prog.funcs[f]? = some fn := fun f fn h => (show InlL Try.prog (c_i_StateOk k).inl from inl1 (fi_21) (inl0)) f fn h |>.1
theorem s_i_StateOk (k : Nat) : SpecGood Try.prog 21 (sp_i_StateOk k) ∧ Enters Try.prog 21 := ⟨specGood_run (o_i_StateOk k) mixed (n_i_StateOk k) (d := 1) [(.slice 95 yItem)] [.bool] [] (fun x => i_StateOk k x.1) (fun x => r_i_StateOk k x.1), (fi_21).2⟩
theorem o_l_FnExactStateOk (k : Nat) : Ok Try.prog (c_l_FnExactStateOk k) := ok_of (ptr0) (eq0) (tab1 (ty_4) (tab0)) (inl1 (fi_4) (inl0)) (spec1 (s_l_szItemS k) (spec1 (s_l_toItemS k) (spec1 (s_l_eqItemS k) (spec1 (s_s_StateOk k) (spec1 (s_i_StateOk k) (spec0)))))) (mspec0)
theorem n_l_FnExactStateOk (k : Nat) : ∀ f fn, look (c_l_FnExactStateOk k).inl f = some fn → Try.prog.funcs[f]? = some fn := fun f fn h => (show InlL Try.prog (c_l_FnExactStateOk k).inl from inl1 (fi_4) (inl0)) f fn h |>.1
theorem s_l_FnExactStateOk (k : Nat) : SpecGood Try.prog 4 (sp_l_FnExactStateOk k) ∧ Enters Try.prog 4 := ⟨specGood_run (o_l_FnExactStateOk k) mixed (n_l_FnExactStateOk k) (d := 1) [(.slice 97 yItem)] [.bool] [] (fun x => l_FnExactStateOk k x.1) (fun x => r_l_FnExactStateOk k x.1), (fi_4).2⟩
theorem o_l_szIntS (k : Nat) : Ok Try.prog (c_l_szIntS k) := ok_of (ptr0) (eq0) (tab1 (ty_31) (tab0)) (inl1 (fi_73) (inl0)) (spec0) (mspec0)
theorem n_l_szIntS (k : Nat) : ∀ f fn, look (c_l_szIntS k).inl f = some fn → Try.prog.funcs[f]? = some fn := fun f fn h => (show InlL Try.prog (c_l_szIntS k).inl from inl1 (fi_73) (inl0)) f fn h |>.1
theorem s_l_szIntS (k : Nat) : SpecGood Try.prog 73 (sp_l_szIntS k) ∧ Enters Try.prog 73 := ⟨specGood_run (o_l_szIntS k) mixed (n_l_szIntS k) (d := 1) [(.slice 3 (.int .i64)), (.int .i64)] [(.int .i64)] [] (fun x => l_szIntS k x.1 x.2.1) (fun x => r_l_szIntS k x.1 x.2.1), (fi_73).2⟩
theorem o_l_szEvent (k : Nat) : Ok Try.prog (c_l_szEvent k) := ok_of (ptr0) (eq0) (tab1 (ty_9) (tab1 (ty_31) (tab1 (ty_33) (tab0)))) (inl1 (fi_22) (inl0)) (spec1 (s_l_szIntS k) (spec0)) (mspec0)
theorem n_l_szEvent (k : Nat) : ∀ f fn, look (c_l_szEvent k).inl f = some fn → Try.prog.funcs[f]? = some fn := fun f fn h => (show InlL Try.prog (c_l_szEvent k).inl from inl1 (fi_22) (inl0)) f fn h |>.1
theorem s_l_szEvent (k : Nat) : SpecGood Try.prog 22 (sp_l_szEvent k) ∧ Enters Try.prog 22 := ⟨specGood_run (o_l_szEvent k) mixed (n_l_szEvent k) (d := 1) [yEvent, (.int .i64)] [(.int .i64)] [] (fun x => l_szEvent k x.1 x.2.1) (fun x => r_l_szEvent k x.1 x.2.1), (fi_22).2⟩
theorem o_s_l09Levels (k : Nat) : Ok Try.prog (c_s_l09Levels k) := ok_of (ptr0) (eq0) (tab1 (ty_3) (tab1 (ty_31) (tab0))) (inl1 (fi_119) (inl0)) (spec1 (s_s_l01In k) (spec0)) (mspec0)
theorem n_s_l09Levels (k : Nat) : ∀ f fn, look (c_s_l09Levels k).inl f = some fn → Try.prog.funcs[f]? = some fn := fun f fn h => (show InlL Try.prog (c_s_l09Levels k).inl from inl1 (fi_119) (inl0)) f fn h |>.1
theorem s_s_l09Levels (k : Nat) : SpecGood Try.prog 119 (sp_s_l09Levels k) ∧ Enters Try.prog 119 := ⟨specGood_run (o_s_l09Levels k) mixed (n_s_l09Levels k) (d := 1) [(.slice 3 (.int .i64))] [.bool] [] (fun x => s_l09Levels k x.1) (fun x => r_s_l09Levels k x.1), (fi_119).2⟩
theorem o_s_l09Body (k : Nat) : Ok Try.prog (c_s_l09Body k) := ok_of (ptr0) (eq0) (tab1 (ty_3) (tab1 (ty_9) (tab1 (ty_31) (tab1 (ty_36) (tab0))))) (inl1 (fi_74) (inl0)) (spec1 (s_s_l01In k) (spec1 (s_s_l09Levels k) (spec0))) (mspec0)
theorem n_s_l09Body (k : Nat) : ∀ f fn, look (c_s_l09Body k).inl f = some fn → Try.prog.funcs[f]? = some fn := fun f fn h => (show InlL Try.prog (c_s_l09Body k).inl from inl1 (fi_74) (inl0)) f fn h |>.1
theorem s_s_l09Body (k : Nat) : SpecGood Try.prog 74 (sp_s_l09Body k) ∧ Enters Try.prog 74 := ⟨specGood_run (o_s_l09Body k) mixed (n_s_l09Body k) (d := 1) [yEvent] [.bool] [] (fun x => s_l09Body k x.1) (fun x => r_s_l09Body k x.1), (fi_74).2⟩
theorem o_s_EventOk (k : Nat) : Ok Try.prog (c_s_EventOk k) := ok_of (ptr0) (eq0) (tab1 (ty_3) (tab1 (ty_4) (tab1 (ty_31) (tab1 (ty_36) (tab0))))) (inl1 (fi_23) (inl0)) (spec1 (s_s_l01In k) (spec1 (s_s_l09Body k) (spec0))) (mspec0)
theorem n_s_EventOk (k : Nat) : ∀ f fn, look (c_s_EventOk k).inl f = some fn → Try.prog.funcs[f]? = some fn := fun f fn h => (show InlL Try.prog (c_s_EventOk k).inl from inl1 (fi_23) (inl0)) f fn h |>.1
theorem s_s_EventOk (k : Nat) : SpecGood Try.prog 23 (sp_s_EventOk k) ∧ Enters Try.prog 23 := ⟨specGood_run (o_s_EventOk k) mixed (n_s_EventOk k) (d := 1) [yEvent] [.bool] [] (fun x => s_EventOk k x.1) (fun x => r_s_EventOk k x.1), (fi_23).2⟩
theorem o_l_toIntS (k : Nat) : Ok Try.prog (c_l_toIntS k) := ok_of (ptr0) (eq0) (tab1 (ty_3) (tab1 (ty_31) (tab0))) (inl1 (fi_49) (inl0)) (spec0) (mspec0)
theorem n_l_toIntS (k : Nat) : ∀ f fn, look (c_l_toIntS k).inl f = some fn → Try.prog.funcs[f]? = some fn := fun f fn h => (show InlL Try.prog (c_l_toIntS k).inl from inl1 (fi_49) (inl0)) f fn h |>.1
theorem s_l_toIntS (k : Nat) : SpecGood Try.prog 49 (sp_l_toIntS k) ∧ Enters Try.prog 49 := ⟨specGood_run (o_l_toIntS k) mixed (n_l_toIntS k) (d := 1) [(.slice 3 (.int .i64))] [(.slice 3 (.int .i64))] [true] (fun x => l_toIntS k x.1) (fun x => r_l_toIntS k x.1), (fi_49).2⟩
theorem o_l_toEvent (k : Nat) : Ok Try.prog (c_l_toEvent k) := ok_of (ptr0) (eq0) (tab1 (ty_3) (tab1 (ty_9) (tab1 (ty_31) (tab1 (ty_33) (tab1 (ty_36) (tab0)))))) (inl1 (fi_24) (inl0)) (spec1 (s_l_toIntS k) (spec0)) (mspec0)
theorem n_l_toEvent (k : Nat) : ∀ f fn, look (c_l_toEvent k).inl f = some fn → Try.prog.funcs[f]? = some fn := fun f fn h => (show InlL Try.prog (c_l_toEvent k).inl from inl1 (fi_24) (inl0)) f fn h |>.1
theorem s_l_toEvent (k : Nat) : SpecGood Try.prog 24 (sp_l_toEvent k) ∧ Enters Try.prog 24 := ⟨specGood_run (o_l_toEvent k) mixed (n_l_toEvent k) (d := 1) [yEvent] [yEvent] [true, true] (fun x => l_toEvent k x.1) (fun x => r_l_toEvent k x.1), (fi_24).2⟩
theorem o_i_levelsOk (k : Nat) : Ok Try.prog (c_i_levelsOk k) := ok_of (ptr0) (eq0) (tab1 (ty_3) (tab1 (ty_31) (tab1 (ty_36) (tab0)))) (inl1 (fi_75) (inl0)) (spec1 (s_i_within k) (spec0)) (mspec0)
theorem n_i_levelsOk (k : Nat) : ∀ f fn, look (c_i_levelsOk k).inl f = some fn → Try.prog.funcs[f]? = some fn := fun f fn h => (show InlL Try.prog (c_i_levelsOk k).inl from inl1 (fi_75) (inl0)) f fn h |>.1
theorem s_i_levelsOk (k : Nat) : SpecGood Try.prog 75 (sp_i_levelsOk k) ∧ Enters Try.prog 75 := ⟨specGood_run (o_i_levelsOk k) mixed (n_i_levelsOk k) (d := 1) [yEvent] [.bool] [] (fun x => i_levelsOk k x.1) (fun x => r_i_levelsOk k x.1), (fi_75).2⟩
theorem o_i_prevOk (k : Nat) : Ok Try.prog (c_i_prevOk k) := ok_of (ptr0) (eq0) (tab1 (ty_3) (tab1 (ty_4) (tab1 (ty_31) (tab1 (ty_36) (tab0))))) (inl1 (fi_76) (inl0)) (spec1 (s_i_within k) (spec0)) (mspec0)
theorem n_i_prevOk (k : Nat) : ∀ f fn, look (c_i_prevOk k).inl f = some fn → Try.prog.funcs[f]? = some fn := fun f fn h => (show InlL Try.prog (c_i_prevOk k).inl from inl1 (fi_76) (inl0)) f fn h |>.1
theorem s_i_prevOk (k : Nat) : SpecGood Try.prog 76 (sp_i_prevOk k) ∧ Enters Try.prog 76 := ⟨specGood_run (o_i_prevOk k) mixed (n_i_prevOk k) (d := 1) [yEvent] [.bool] [] (fun x => i_prevOk k x.1) (fun x => r_i_prevOk k x.1), (fi_76).2⟩
theorem o_i_EventOk (k : Nat) : Ok Try.prog (c_i_EventOk k) := ok_of (ptr0) (eq0) (tab1 (ty_3) (tab1 (ty_9) (tab1 (ty_36) (tab0)))) (inl1 (fi_25) (inl0)) (spec1 (s_i_within k) (spec1 (s_i_levelsOk k) (spec1 (s_i_prevOk k) (spec0)))) (mspec0)
theorem n_i_EventOk (k : Nat) : ∀ f fn, look (c_i_EventOk k).inl f = some fn → Try.prog.funcs[f]? = some fn := fun f fn h => (show InlL Try.prog (c_i_EventOk k).inl from inl1 (fi_25) (inl0)) f fn h |>.1
theorem s_i_EventOk (k : Nat) : SpecGood Try.prog 25 (sp_i_EventOk k) ∧ Enters Try.prog 25 := ⟨specGood_run (o_i_EventOk k) mixed (n_i_EventOk k) (d := 1) [yEvent] [.bool] [] (fun x => i_EventOk k x.1) (fun x => r_i_EventOk k x.1), (fi_25).2⟩
theorem o_l_eqIntS (k : Nat) : Ok Try.prog (c_l_eqIntS k) := ok_of (ptr0) (eq0) (tab1 (ty_3) (tab1 (ty_31) (tab0))) (inl1 (fi_52) (inl0)) (spec0) (mspec0)
theorem n_l_eqIntS (k : Nat) : ∀ f fn, look (c_l_eqIntS k).inl f = some fn → Try.prog.funcs[f]? = some fn := fun f fn h => (show InlL Try.prog (c_l_eqIntS k).inl from inl1 (fi_52) (inl0)) f fn h |>.1
theorem s_l_eqIntS (k : Nat) : SpecGood Try.prog 52 (sp_l_eqIntS k) ∧ Enters Try.prog 52 := ⟨specGood_run (o_l_eqIntS k) mixed (n_l_eqIntS k) (d := 1) [(.slice 3 (.int .i64)), (.slice 3 (.int .i64))] [.bool] [] (fun x => l_eqIntS k x.1 x.2.1) (fun x => r_l_eqIntS k x.1 x.2.1), (fi_52).2⟩
theorem o_l_eqEvent (k : Nat) : Ok Try.prog (c_l_eqEvent k) := ok_of (ptr0) (eq0) (tab1 (ty_3) (tab1 (ty_9) (tab1 (ty_31) (tab1 (ty_36) (tab0))))) (inl1 (fi_26) (inl0)) (spec1 (s_l_eqIntS k) (spec0)) (mspec0)
theorem n_l_eqEvent (k : Nat) : ∀ f fn, look (c_l_eqEvent k).inl f = some fn → Try.prog.funcs[f]? = some fn := fun f fn h => (show InlL Try.prog (c_l_eqEvent k).inl from inl1 (fi_26) (inl0)) f fn h |>.1
theorem s_l_eqEvent (k : Nat) : SpecGood Try.prog 26 (sp_l_eqEvent k) ∧ Enters Try.prog 26 := ⟨specGood_run (o_l_eqEvent k) mixed (n_l_eqEvent k) (d := 1) [yEvent, yEvent] [.bool] [] (fun x => l_eqEvent k x.1 x.2.1) (fun x => r_l_eqEvent k x.1 x.2.1), (fi_26).2⟩
theorem o_l_FnExactEventOk (k : Nat) : Ok Try.prog (c_l_FnExactEventOk k) := ok_of (ptr0) (eq0) (tab1 (ty_4) (tab1 (ty_33) (tab1 (ty_36) (tab0)))) (inl1 (fi_5) (inl0)) (spec1 (s_l_szEvent k) (spec1 (s_s_EventOk k) (spec1 (s_l_toEvent k) (spec1 (s_i_EventOk k) (spec1 (s_l_eqEvent k) (spec0)))))) (mspec0)
theorem n_l_FnExactEventOk (k : Nat) : ∀ f fn, look (c_l_FnExactEventOk k).inl f = some fn → Try.prog.funcs[f]? = some fn := fun f fn h => (show InlL Try.prog (c_l_FnExactEventOk k).inl from inl1 (fi_5) (inl0)) f fn h |>.1
theorem s_l_FnExactEventOk (k : Nat) : SpecGood Try.prog 5 (sp_l_FnExactEventOk k) ∧ Enters Try.prog 5 := ⟨specGood_run (o_l_FnExactEventOk k) mixed (n_l_FnExactEventOk k) (d := 1) [yEvent] [.bool] [] (fun x => l_FnExactEventOk k x.1) (fun x => r_l_FnExactEventOk k x.1), (fi_5).2⟩
theorem o_s_l01Var (k : Nat) : Ok Try.prog (c_s_l01Var k) := ok_of (ptr0) (eq0) (tab1 (ty_3) (tab1 (ty_5) (tab1 (ty_9) (tab1 (ty_129) (tab0))))) (inl1 (fi_84) (inl0)) (spec0) (mspec0)
theorem n_s_l01Var (k : Nat) : ∀ f fn, look (c_s_l01Var k).inl f = some fn → Try.prog.funcs[f]? = some fn := fun f fn h => (show InlL Try.prog (c_s_l01Var k).inl from inl1 (fi_84) (inl0)) f fn h |>.1
theorem s_s_l01Var (k : Nat) : SpecGood Try.prog 84 (sp_s_l01Var k) ∧ Enters Try.prog 84 := ⟨specGood_run (o_s_l01Var k) mixed (n_s_l01Var k) (d := 1) [(.int .i64)] [.str] [] (fun x => s_l01Var k x.1) (fun x => r_s_l01Var k x.1), (fi_84).2⟩
theorem o_s_l09Byte (k : Nat) : Ok Try.prog (c_s_l09Byte k) := ok_of (ptr0) (eq0) (tab1 (ty_3) (tab1 (ty_5) (tab1 (ty_9) (tab1 (ty_129) (tab0))))) (inl1 (fi_109) (inl0)) (spec0) (mspec0)
theorem n_s_l09Byte (k : Nat) : ∀ f fn, look (c_s_l09Byte k).inl f = some fn → Try.prog.funcs[f]? = some fn := fun f fn h => (show InlL Try.prog (c_s_l09Byte k).inl from inl1 (fi_109) (inl0)) f fn h |>.1
theorem s_s_l09Byte (k : Nat) : SpecGood Try.prog 109 (sp_s_l09Byte k) ∧ Enters Try.prog 109 := ⟨specGood_run (o_s_l09Byte k) mixed (n_s_l09Byte k) (d := 1) [(.int .i64)] [.str] [] (fun x => s_l09Byte k x.1) (fun x => r_s_l09Byte k x.1), (fi_109).2⟩
theorem o_s_l05Short (k : Nat) : Ok Try.prog (c_s_l05Short k) := ok_of (ptr0) (eq0) (tab1 (ty_9) (tab0)) (inl1 (fi_110) (inl0)) (spec1 (s_s_l01Var k) (spec0)) (mspec0)
theorem n_s_l05Short (k : Nat) : ∀ f fn, look (c_s_l05Short k).inl f = some fn → Try.prog.funcs[f]? = some fn := fun f fn h => (show InlL Try.prog (c_s_l05Short k).inl from inl1 (fi_110) (inl0)) f fn h |>.1
theorem s_s_l05Short (k : Nat) : SpecGood Try.prog 110 (sp_s_l05Short k) ∧ Enters Try.prog 110 := ⟨specGood_run (o_s_l05Short k) mixed (n_s_l05Short k) (d := 1) [.str] [.str] [] (fun x => s_l05Short k x.1) (fun x => r_s_l05Short k x.1), (fi_110).2⟩
theorem o_s_l09BodyText (k : Nat) : Ok Try.prog (c_s_l09BodyText k) := ok_of (ptr0) (eq0) (tab1 (ty_3) (tab1 (ty_9) (tab1 (ty_31) (tab1 (ty_36) (tab0))))) (inl1 (fi_85) (inl0)) (spec1 (s_s_l01Var k) (spec1 (s_s_l09Byte k) (spec1 (s_s_l05Short k) (spec0)))) (mspec0)
theorem n_s_l09BodyText (k : Nat) : ∀ f fn, look (c_s_l09BodyText k).inl f = some fn → Try.prog.funcs[f]? = some fn := fun f fn h => (show InlL Try.prog (c_s_l09BodyText k).inl from inl1 (fi_85) (inl0)) f fn h |>.1
theorem s_s_l09BodyText (k : Nat) : SpecGood Try.prog 85 (sp_s_l09BodyText k) ∧ Enters Try.prog 85 := ⟨specGood_run (o_s_l09BodyText k) mixed (n_s_l09BodyText k) (d := 1) [yEvent] [.str] [] (fun x => s_l09BodyText k x.1) (fun x => r_s_l09BodyText k x.1), (fi_85).2⟩
theorem o_s_EventText (k : Nat) : Ok Try.prog (c_s_EventText k) := ok_of (ptr0) (eq0) (tab1 (ty_3) (tab1 (ty_31) (tab1 (ty_36) (tab0)))) (inl1 (fi_39) (inl0)) (spec1 (s_s_EventOk k) (spec1 (s_s_l01Var k) (spec1 (s_s_l09BodyText k) (spec0)))) (mspec0)
theorem n_s_EventText (k : Nat) : ∀ f fn, look (c_s_EventText k).inl f = some fn → Try.prog.funcs[f]? = some fn := fun f fn h => (show InlL Try.prog (c_s_EventText k).inl from inl1 (fi_39) (inl0)) f fn h |>.1
theorem s_s_EventText (k : Nat) : SpecGood Try.prog 39 (sp_s_EventText k) ∧ Enters Try.prog 39 := ⟨specGood_run (o_s_EventText k) mixed (n_s_EventText k) (d := 1) [yEvent] [.str, .bool] [] (fun x => s_EventText k x.1) (fun x => r_s_EventText k x.1), (fi_39).2⟩
theorem o_i_VarText (k : Nat) : Ok Try.prog (c_i_VarText k) := ok_of (ptr0) (eq0) (tab1 (ty_3) (tab1 (ty_5) (tab1 (ty_9) (tab1 (ty_129) (tab0))))) (inl1 (fi_86) (inl0)) (spec1 (s_i_within k) (spec0)) (mspec0)
theorem n_i_VarText (k : Nat) : ∀ f fn, look (c_i_VarText k).inl f = some fn → Try.prog.funcs[f]? = some fn := fun f fn h => (show InlL Try.prog (c_i_VarText k).inl from inl1 (fi_86) (inl0)) f fn h |>.1
theorem s_i_VarText (k : Nat) : SpecGood Try.prog 86 (sp_i_VarText k) ∧ Enters Try.prog 86 := ⟨specGood_run (o_i_VarText k) mixed (n_i_VarText k) (d := 1) [(.int .i64)] [.str, .bool] [] (fun x => i_VarText k x.1) (fun x => r_i_VarText k x.1), (fi_86).2⟩
theorem o_i_vars (k : Nat) : Ok Try.prog (c_i_vars k) := ok_of (ptr0) (eq0) (tab1 (ty_3) (tab1 (ty_9) (tab1 (ty_31) (tab1 (ty_129) (tab0))))) (inl1 (fi_87) (inl0)) (spec1 (s_i_VarText k) (spec0)) (mspec0)
theorem n_i_vars (k : Nat) : ∀ f fn, look (c_i_vars k).inl f = some fn → Try.prog.funcs[f]? = some fn := fun f fn h => (show InlL Try.prog (c_i_vars k).inl from inl1 (fi_87) (inl0)) f fn h |>.1
theorem s_i_vars (k : Nat) : SpecGood Try.prog 87 (sp_i_vars k) ∧ Enters Try.prog 87 := ⟨specGood_run (o_i_vars k) mixed (n_i_vars k) (d := 1) [(.slice 3 (.int .i64))] [.str, .bool] [] (fun x => i_vars k x.1) (fun x => r_i_vars k x.1), (fi_87).2⟩
theorem o_i_ShortText (k : Nat) : Ok Try.prog (c_i_ShortText k) := ok_of (ptr0) (eq0) (tab1 (ty_9) (tab0)) (inl1 (fi_111) (inl0)) (spec1 (s_i_VarText k) (spec0)) (mspec0)
theorem n_i_ShortText (k : Nat) : ∀ f fn, look (c_i_ShortText k).inl f = some fn → Try.prog.funcs[f]? = some fn := fun f fn h => (show InlL Try.prog (c_i_ShortText k).inl from inl1 (fi_111) (inl0)) f fn h |>.1
theorem s_i_ShortText (k : Nat) : SpecGood Try.prog 111 (sp_i_ShortText k) ∧ Enters Try.prog 111 := ⟨specGood_run (o_i_ShortText k) mixed (n_i_ShortText k) (d := 1) [.str] [.str, .bool] [] (fun x => i_ShortText k x.1) (fun x => r_i_ShortText k x.1), (fi_111).2⟩
theorem o_i_listText (k : Nat) : Ok Try.prog (c_i_listText k) := ok_of (ptr0) (eq0) (tab1 (ty_3) (tab1 (ty_5) (tab1 (ty_9) (tab1 (ty_31) (tab1 (ty_129) (tab0)))))) (inl1 (fi_122) (inl0)) (spec1 (s_i_VarText k) (spec0)) (mspec0)
theorem n_i_listText (k : Nat) : ∀ f fn, look (c_i_listText k).inl f = some fn → Try.prog.funcs[f]? = some fn := fun f fn h => (show InlL Try.prog (c_i_listText k).inl from inl1 (fi_122) (inl0)) f fn h |>.1
theorem s_i_listText (k : Nat) : SpecGood Try.prog 122 (sp_i_listText k) ∧ Enters Try.prog 122 := ⟨specGood_run (o_i_listText k) mixed (n_i_listText k) (d := 1) [(.slice 3 (.int .i64))] [.str] [] (fun x => i_listText k x.1) (fun x => r_i_listText k x.1), (fi_122).2⟩
theorem o_i_mainText (k : Nat) : Ok Try.prog (c_i_mainText k) := ok_of (ptr0) (eq0) (tab1 (ty_3) (tab1 (ty_5) (tab1 (ty_9) (tab1 (ty_31) (tab1 (ty_36) (tab1 (ty_129) (tab0))))))) (inl1 (fi_88) (inl0)) (spec1 (s_i_ShortText k) (spec1 (s_i_listText k) (spec0))) (mspec0)
theorem n_i_mainText (k : Nat) : ∀ f fn, look (c_i_mainText k).inl f = some fn → Try.prog.funcs[f]? = some fn := fun f fn h => (show InlL Try.prog (c_i_mainText k).inl from inl1 (fi_88) (inl0)) f fn h |>.1
theorem s_i_mainText (k : Nat) : SpecGood Try.prog 88 (sp_i_mainText k) ∧ Enters Try.prog 88 := ⟨specGood_run (o_i_mainText k) mixed (n_i_mainText k) (d := 1) [yEvent] [.str] [] (fun x => i_mainText k x.1) (fun x => r_i_mainText k x.1), (fi_88).2⟩
theorem o_i_EventText (k : Nat) : Ok Try.prog (c_i_EventText k) := ok_of (ptr0) (eq0) (tab1 (ty_3) (tab1 (ty_31) (tab1 (ty_36) (tab0)))) (inl1 (fi_40) (inl0)) (spec1 (s_i_EventOk k) (spec1 (s_i_VarText k) (spec1 (s_i_vars k) (spec1 (s_i_mainText k) (spec0))))) (mspec0)
theorem n_i_EventText (k : Nat) : ∀ f fn, look (c_i_EventText k).inl f = some fn → Try.prog.funcs[f]? = some fn := fun f fn h => (show InlL Try.prog (c_i_EventText k).inl from inl1 (fi_40) (inl0)) f fn h |>.1
theorem s_i_EventText (k : Nat) : SpecGood Try.prog 40 (sp_i_EventText k) ∧ Enters Try.prog 40 := ⟨specGood_run (o_i_EventText k) mixed (n_i_EventText k) (d := 1) [yEvent] [.str, .bool] [] (fun x => i_EventText k x.1) (fun x => r_i_EventText k x.1), (fi_40).2⟩
theorem o_l_FnExactEventText (k : Nat) : Ok Try.prog (c_l_FnExactEventText k) := ok_of (ptr0) (eq0) (tab1 (ty_4) (tab1 (ty_33) (tab1 (ty_36) (tab0)))) (inl1 (fi_8) (inl0)) (spec1 (s_l_szEvent k) (spec1 (s_l_toEvent k) (spec1 (s_l_eqEvent k) (spec1 (s_s_EventText k) (spec1 (s_i_EventText k) (spec0)))))) (mspec0)
theorem n_l_FnExactEventText (k : Nat) : ∀ f fn, look (c_l_FnExactEventText k).inl f = some fn → Try.prog.funcs[f]? = some fn := fun f fn h => (show InlL Try.prog (c_l_FnExactEventText k).inl from inl1 (fi_8) (inl0)) f fn h |>.1
theorem s_l_FnExactEventText (k : Nat) : SpecGood Try.prog 8 (sp_l_FnExactEventText k) ∧ Enters Try.prog 8 := ⟨specGood_run (o_l_FnExactEventText k) mixed (n_l_FnExactEventText k) (d := 1) [yEvent] [.bool] [] (fun x => l_FnExactEventText k x.1) (fun x => r_l_FnExactEventText k x.1), (fi_8).2⟩
theorem o_l_szCommand (k : Nat) : Ok Try.prog (c_l_szCommand k) := ok_of (ptr0) (eq0) (tab1 (ty_33) (tab1 (ty_55) (tab0))) (inl1 (fi_41) (inl0)) (spec1 (s_l_szEvent k) (spec0)) (mspec0)
theorem n_l_szCommand (k : Nat) : ∀ f fn, look (c_l_szCommand k).inl f = some fn → Try.prog.funcs[f]? = some fn := fun f fn h => (show InlL Try.prog (c_l_szCommand k).inl from inl1 (fi_41) (inl0)) f fn h |>.1
theorem s_l_szCommand (k : Nat) : SpecGood Try.prog 41 (sp_l_szCommand k) ∧ Enters Try.prog 41 := ⟨specGood_run (o_l_szCommand k) mixed (n_l_szCommand k) (d := 1) [yCommand, (.int .i64)] [(.int .i64)] [] (fun x => l_szCommand k x.1 x.2.1) (fun x => r_l_szCommand k x.1 x.2.1), (fi_41).2⟩
theorem o_s_l05SameInts (k : Nat) : Ok Try.prog (c_s_l05SameInts k) := ok_of (ptr0) (eq0) (tab1 (ty_3) (tab1 (ty_31) (tab0))) (inl1 (fi_138) (inl0)) (spec0) (mspec0)
theorem n_s_l05SameInts (k : Nat) : ∀ f fn, look (c_s_l05SameInts k).inl f = some fn → Try.prog.funcs[f]? = some fn := fun f fn h => (show InlL Try.prog (c_s_l05SameInts k).inl from inl1 (fi_138) (inl0)) f fn h |>.1
theorem s_s_l05SameInts (k : Nat) : SpecGood Try.prog 138 (sp_s_l05SameInts k) ∧ Enters Try.prog 138 := ⟨specGood_run (o_s_l05SameInts k) mixed (n_s_l05SameInts k) (d := 1) [(.slice 3 (.int .i64)), (.slice 3 (.int .i64))] [.bool] [] (fun x => s_l05SameInts k x.1 x.2.1) (fun x => r_s_l05SameInts k x.1 x.2.1), (fi_138).2⟩
theorem o_s_l09Same (k : Nat) : Ok Try.prog (c_s_l09Same k) := ok_of (ptr0) (eq0) (tab1 (ty_3) (tab1 (ty_9) (tab1 (ty_31) (tab1 (ty_36) (tab0))))) (inl1 (fi_123) (inl0)) (spec1 (s_s_l05SameInts k) (spec0)) (mspec0)
theorem n_s_l09Same (k : Nat) : ∀ f fn, look (c_s_l09Same k).inl f = some fn → Try.prog.funcs[f]? = some fn := fun f fn h => (show InlL Try.prog (c_s_l09Same k).inl from inl1 (fi_123) (inl0)) f fn h |>.1
theorem s_s_l09Same (k : Nat) : SpecGood Try.prog 123 (sp_s_l09Same k) ∧ Enters Try.prog 123 := ⟨specGood_run (o_s_l09Same k) mixed (n_s_l09Same k) (d := 1) [yEvent, yEvent] [.bool] [] (fun x => s_l09Same k x.1 x.2.1) (fun x => r_s_l09Same k x.1 x.2.1), (fi_123).2⟩
theorem o_s_l13Blank (k : Nat) : Ok Try.prog (c_s_l13Blank k) := ok_of (ptr0) (eq0) (tab1 (ty_36) (tab0)) (inl1 (fi_89) (inl0)) (spec1 (s_s_l09Same k) (spec0)) (mspec0)
theorem n_s_l13Blank (k : Nat) : ∀ f fn, look (c_s_l13Blank k).inl f = some fn → Try.prog.funcs[f]? = some fn := fun f fn h => (show InlL Try.prog (c_s_l13Blank k).inl from inl1 (fi_89) (inl0)) f fn h |>.1
theorem s_s_l13Blank (k : Nat) : SpecGood Try.prog 89 (sp_s_l13Blank k) ∧ Enters Try.prog 89 := ⟨specGood_run (o_s_l13Blank k) mixed (n_s_l13Blank k) (d := 1) [yEvent] [.bool] [] (fun x => s_l13Blank k x.1) (fun x => r_s_l13Blank k x.1), (fi_89).2⟩
theorem o_s_CommandOk (k : Nat) : Ok Try.prog (c_s_CommandOk k) := ok_of (ptr0) (eq0) (tab1 (ty_3) (tab1 (ty_31) (tab1 (ty_36) (tab1 (ty_59) (tab0))))) (inl1 (fi_42) (inl0)) (spec1 (s_s_EventOk k) (spec1 (s_s_l01In k) (spec1 (s_s_l09Body k) (spec1 (s_s_l13Blank k) (spec0))))) (mspec0)
theorem n_s_CommandOk (k : Nat) : ∀ f fn, look (c_s_CommandOk k).inl f = some fn → Try.prog.funcs[f]? = some fn := fun f fn h => (show InlL Try.prog (c_s_CommandOk k).inl from inl1 (fi_42) (inl0)) f fn h |>.1
theorem s_s_CommandOk (k : Nat) : SpecGood Try.prog 42 (sp_s_CommandOk k) ∧ Enters Try.prog 42 := ⟨specGood_run (o_s_CommandOk k) mixed (n_s_CommandOk k) (d := 1) [yCommand] [.bool] [] (fun x => s_CommandOk k x.1) (fun x => r_s_CommandOk k x.1), (fi_42).2⟩
theorem o_l_toCommand (k : Nat) : Ok Try.prog (c_l_toCommand k) := ok_of (ptr0) (eq0) (tab1 (ty_3) (tab1 (ty_33) (tab1 (ty_36) (tab1 (ty_55) (tab1 (ty_59) (tab0)))))) (inl1 (fi_43) (inl0)) (spec1 (s_l_toEvent k) (spec0)) (mspec0)
theorem n_l_toCommand (k : Nat) : ∀ f fn, look (c_l_toCommand k).inl f = some fn → Try.prog.funcs[f]? = some fn := fun f fn h => (show InlL Try.prog (c_l_toCommand k).inl from inl1 (fi_43) (inl0)) f fn h |>.1
theorem s_l_toCommand (k : Nat) : SpecGood Try.prog 43 (sp_l_toCommand k) ∧ Enters Try.prog 43 := ⟨specGood_run (o_l_toCommand k) mixed (n_l_toCommand k) (d := 1) [yCommand] [yCommand] [true, true] (fun x => l_toCommand k x.1) (fun x => r_l_toCommand k x.1), (fi_43).2⟩
theorem o_slices_Equal_int_int (k : Nat) : Ok Try.prog (c_slices_Equal_int_int k) := ok_of (ptr0) (eq0) (tab1 (ty_3) (tab1 (ty_31) (tab0))) (inl1 (fi_124) (inl0)) (spec0) (mspec0)
theorem n_slices_Equal_int_int (k : Nat) : ∀ f fn, look (c_slices_Equal_int_int k).inl f = some fn → Try.prog.funcs[f]? = some fn := fun f fn h => (show InlL Try.prog (c_slices_Equal_int_int k).inl from inl1 (fi_124) (inl0)) f fn h |>.1
theorem s_slices_Equal_int_int (k : Nat) : SpecGood Try.prog 124 (sp_slices_Equal_int_int k) ∧ Enters Try.prog 124 := ⟨specGood_run (o_slices_Equal_int_int k) mixed (n_slices_Equal_int_int k) (d := 1) [(.slice 3 (.int .i64)), (.slice 3 (.int .i64))] [.bool] [] (fun x => slices_Equal_int_int k x.1 x.2.1) (fun x => r_slices_Equal_int_int k x.1 x.2.1), (fi_124).2⟩
theorem o_i_sameEvent (k : Nat) : Ok Try.prog (c_i_sameEvent k) := ok_of (ptr0) (eq0) (tab1 (ty_3) (tab1 (ty_9) (tab1 (ty_31) (tab1 (ty_36) (tab0))))) (inl1 (fi_90) (inl0)) (spec1 (s_slices_Equal_int_int k) (spec0)) (mspec0)
theorem n_i_sameEvent (k : Nat) : ∀ f fn, look (c_i_sameEvent k).inl f = some fn → Try.prog.funcs[f]? = some fn := fun f fn h => (show InlL Try.prog (c_i_sameEvent k).inl from inl1 (fi_90) (inl0)) f fn h |>.1
theorem s_i_sameEvent (k : Nat) : SpecGood Try.prog 90 (sp_i_sameEvent k) ∧ Enters Try.prog 90 := ⟨specGood_run (o_i_sameEvent k) mixed (n_i_sameEvent k) (d := 1) [yEvent, yEvent] [.bool] [] (fun x => i_sameEvent k x.1 x.2.1) (fun x => r_i_sameEvent k x.1 x.2.1), (fi_90).2⟩
theorem o_i_sentOk (k : Nat) : Ok Try.prog (c_i_sentOk k) := ok_of (ptr0) (eq0) (tab1 (ty_3) (tab1 (ty_31) (tab1 (ty_36) (tab0)))) (inl1 (fi_91) (inl0)) (spec1 (s_i_EventOk k) (spec0)) (mspec0)
theorem n_i_sentOk (k : Nat) : ∀ f fn, look (c_i_sentOk k).inl f = some fn → Try.prog.funcs[f]? = some fn := fun f fn h => (show InlL Try.prog (c_i_sentOk k).inl from inl1 (fi_91) (inl0)) f fn h |>.1
theorem s_i_sentOk (k : Nat) : SpecGood Try.prog 91 (sp_i_sentOk k) ∧ Enters Try.prog 91 := ⟨specGood_run (o_i_sentOk k) mixed (n_i_sentOk k) (d := 1) [yEvent] [.bool] [] (fun x => i_sentOk k x.1) (fun x => r_i_sentOk k x.1), (fi_91).2⟩
theorem o_i_CommandOk (k : Nat) : Ok Try.prog (c_i_CommandOk k) := ok_of (ptr0) (eq0) (tab1 (ty_3) (tab1 (ty_36) (tab1 (ty_59) (tab0)))) (inl1 (fi_44) (inl0)) (spec1 (s_i_EventOk k) (spec1 (s_i_within k) (spec1 (s_i_sameEvent k) (spec1 (s_i_sentOk k) (spec0))))) (mspec0)
theorem n_i_CommandOk (k : Nat) : ∀ f fn, look (c_i_CommandOk k).inl f = some fn → Try.prog.funcs[f]? = some fn := fun f fn h => (show InlL Try.prog (c_i_CommandOk k).inl from inl1 (fi_44) (inl0)) f fn h |>.1
theorem s_i_CommandOk (k : Nat) : SpecGood Try.prog 44 (sp_i_CommandOk k) ∧ Enters Try.prog 44 := ⟨specGood_run (o_i_CommandOk k) mixed (n_i_CommandOk k) (d := 1) [yCommand] [.bool] [] (fun x => i_CommandOk k x.1) (fun x => r_i_CommandOk k x.1), (fi_44).2⟩
theorem o_l_eqCommand (k : Nat) : Ok Try.prog (c_l_eqCommand k) := ok_of (ptr0) (eq0) (tab1 (ty_3) (tab1 (ty_36) (tab1 (ty_59) (tab0)))) (inl1 (fi_45) (inl0)) (spec1 (s_l_eqEvent k) (spec0)) (mspec0)
theorem n_l_eqCommand (k : Nat) : ∀ f fn, look (c_l_eqCommand k).inl f = some fn → Try.prog.funcs[f]? = some fn := fun f fn h => (show InlL Try.prog (c_l_eqCommand k).inl from inl1 (fi_45) (inl0)) f fn h |>.1
theorem s_l_eqCommand (k : Nat) : SpecGood Try.prog 45 (sp_l_eqCommand k) ∧ Enters Try.prog 45 := ⟨specGood_run (o_l_eqCommand k) mixed (n_l_eqCommand k) (d := 1) [yCommand, yCommand] [.bool] [] (fun x => l_eqCommand k x.1 x.2.1) (fun x => r_l_eqCommand k x.1 x.2.1), (fi_45).2⟩
theorem o_l_FnExactCommandOk (k : Nat) : Ok Try.prog (c_l_FnExactCommandOk k) := ok_of (ptr0) (eq0) (tab1 (ty_4) (tab1 (ty_55) (tab1 (ty_59) (tab0)))) (inl1 (fi_9) (inl0)) (spec1 (s_l_szCommand k) (spec1 (s_s_CommandOk k) (spec1 (s_l_toCommand k) (spec1 (s_i_CommandOk k) (spec1 (s_l_eqCommand k) (spec0)))))) (mspec0)
theorem n_l_FnExactCommandOk (k : Nat) : ∀ f fn, look (c_l_FnExactCommandOk k).inl f = some fn → Try.prog.funcs[f]? = some fn := fun f fn h => (show InlL Try.prog (c_l_FnExactCommandOk k).inl from inl1 (fi_9) (inl0)) f fn h |>.1
theorem s_l_FnExactCommandOk (k : Nat) : SpecGood Try.prog 9 (sp_l_FnExactCommandOk k) ∧ Enters Try.prog 9 := ⟨specGood_run (o_l_FnExactCommandOk k) mixed (n_l_FnExactCommandOk k) (d := 1) [yCommand] [.bool] [] (fun x => l_FnExactCommandOk k x.1) (fun x => r_l_FnExactCommandOk k x.1), (fi_9).2⟩
theorem o_l_szEventS (k : Nat) : Ok Try.prog (c_l_szEventS k) := ok_of (ptr0) (eq0) (tab1 (ty_33) (tab1 (ty_40) (tab0))) (inl1 (fi_27) (inl0)) (spec1 (s_l_szEvent k) (spec0)) (mspec0)
theorem n_l_szEventS (k : Nat) : ∀ f fn, look (c_l_szEventS k).inl f = some fn → Try.prog.funcs[f]? = some fn := fun f fn h => (show InlL Try.prog (c_l_szEventS k).inl from inl1 (fi_27) (inl0)) f fn h |>.1
theorem s_l_szEventS (k : Nat) : SpecGood Try.prog 27 (sp_l_szEventS k) ∧ Enters Try.prog 27 := ⟨specGood_run (o_l_szEventS k) mixed (n_l_szEventS k) (d := 1) [(.slice 33 yEvent), (.int .i64)] [(.int .i64)] [] (fun x => l_szEventS k x.1 x.2.1) (fun x => r_l_szEventS k x.1 x.2.1), (fi_27).2⟩
theorem o_l_szItemSS (k : Nat) : Ok Try.prog (c_l_szItemSS k) := ok_of (ptr0) (eq0) (tab1 (ty_22) (tab1 (ty_63) (tab0))) (inl1 (fi_92) (inl0)) (spec1 (s_l_szItemS k) (spec0)) (mspec0)
theorem n_l_szItemSS (k : Nat) : ∀ f fn, look (c_l_szItemSS k).inl f = some fn → Try.prog.funcs[f]? = some fn := fun f fn h => (show InlL Try.prog (c_l_szItemSS k).inl from inl1 (fi_92) (inl0)) f fn h |>.1
theorem s_l_szItemSS (k : Nat) : SpecGood Try.prog 92 (sp_l_szItemSS k) ∧ Enters Try.prog 92 := ⟨specGood_run (o_l_szItemSS k) mixed (n_l_szItemSS k) (d := 1) [(.slice 22 (.slice 97 yItem)), (.int .i64)] [(.int .i64)] [] (fun x => l_szItemSS k x.1 x.2.1) (fun x => r_l_szItemSS k x.1 x.2.1), (fi_92).2⟩
theorem o_l_szBoolS (k : Nat) : Ok Try.prog (c_l_szBoolS k) := ok_of (ptr0) (eq0) (tab1 (ty_64) (tab0)) (inl1 (fi_93) (inl0)) (spec0) (mspec0)
theorem n_l_szBoolS (k : Nat) : ∀ f fn, look (c_l_szBoolS k).inl f = some fn → Try.prog.funcs[f]? = some fn := fun f fn h => (show InlL Try.prog (c_l_szBoolS k).inl from inl1 (fi_93) (inl0)) f fn h |>.1
theorem s_l_szBoolS (k : Nat) : SpecGood Try.prog 93 (sp_l_szBoolS k) ∧ Enters Try.prog 93 := ⟨specGood_run (o_l_szBoolS k) mixed (n_l_szBoolS k) (d := 1) [(.slice 4 .bool), (.int .i64)] [(.int .i64)] [] (fun x => l_szBoolS k x.1 x.2.1) (fun x => r_l_szBoolS k x.1 x.2.1), (fi_93).2⟩
theorem o_l_szRoom (k : Nat) : Ok Try.prog (c_l_szRoom k) := ok_of (ptr0) (eq0) (tab1 (ty_40) (tab1 (ty_63) (tab1 (ty_64) (tab1 (ty_66) (tab0))))) (inl1 (fi_46) (inl0)) (spec1 (s_l_szEventS k) (spec1 (s_l_szItemSS k) (spec1 (s_l_szBoolS k) (spec0)))) (mspec0)
theorem n_l_szRoom (k : Nat) : ∀ f fn, look (c_l_szRoom k).inl f = some fn → Try.prog.funcs[f]? = some fn := fun f fn h => (show InlL Try.prog (c_l_szRoom k).inl from inl1 (fi_46) (inl0)) f fn h |>.1
theorem s_l_szRoom (k : Nat) : SpecGood Try.prog 46 (sp_l_szRoom k) ∧ Enters Try.prog 46 := ⟨specGood_run (o_l_szRoom k) mixed (n_l_szRoom k) (d := 1) [yRoom, (.int .i64)] [(.int .i64)] [] (fun x => l_szRoom k x.1 x.2.1) (fun x => r_l_szRoom k x.1 x.2.1), (fi_46).2⟩
theorem o_s_l12Has (k : Nat) : Ok Try.prog (c_s_l12Has k) := ok_of (ptr0) (eq0) (tab1 (ty_3) (tab1 (ty_36) (tab1 (ty_44) (tab1 (ty_71) (tab0))))) (inl1 (fi_94) (inl0)) (spec0) (mspec0)
theorem n_s_l12Has (k : Nat) : ∀ f fn, look (c_s_l12Has k).inl f = some fn → Try.prog.funcs[f]? = some fn := fun f fn h => (show InlL Try.prog (c_s_l12Has k).inl from inl1 (fi_94) (inl0)) f fn h |>.1
theorem s_s_l12Has (k : Nat) : SpecGood Try.prog 94 (sp_s_l12Has k) ∧ Enters Try.prog 94 := ⟨specGood_run (o_s_l12Has k) mixed (n_s_l12Has k) (d := 1) [yRoom1, (.int .i64)] [(.int .i64)] [] (fun x => s_l12Has k x.1 x.2.1) (fun x => r_s_l12Has k x.1 x.2.1), (fi_94).2⟩
theorem o_s_DepthOf (k : Nat) : Ok Try.prog (c_s_DepthOf k) := ok_of (ptr0) (eq0) (tab1 (ty_3) (tab1 (ty_31) (tab1 (ty_36) (tab1 (ty_44) (tab1 (ty_71) (tab0)))))) (inl1 (fi_47) (inl0)) (spec1 (s_s_l12Has k) (spec0)) (mspec0)
theorem n_s_DepthOf (k : Nat) : ∀ f fn, look (c_s_DepthOf k).inl f = some fn → Try.prog.funcs[f]? = some fn := fun f fn h => (show InlL Try.prog (c_s_DepthOf k).inl from inl1 (fi_47) (inl0)) f fn h |>.1
theorem s_s_DepthOf (k : Nat) : SpecGood Try.prog 47 (sp_s_DepthOf k) ∧ Enters Try.prog 47 := ⟨specGood_run (o_s_DepthOf k) mixed (n_s_DepthOf k) (d := 1) [yRoom1, (.slice 3 (.int .i64))] [(.int .i64)] [] (fun x => s_DepthOf k x.1 x.2.1) (fun x => r_s_DepthOf k x.1 x.2.1), (fi_47).2⟩
theorem o_l_toEventS (k : Nat) : Ok Try.prog (c_l_toEventS k) := ok_of (ptr0) (eq0) (tab1 (ty_33) (tab1 (ty_36) (tab1 (ty_40) (tab1 (ty_44) (tab0))))) (inl1 (fi_29) (inl0)) (spec1 (s_l_toEvent k) (spec0)) (mspec0)
theorem n_l_toEventS (k : Nat) : ∀ f fn, look (c_l_toEventS k).inl f = some fn → Try.prog.funcs[f]? = some fn := fun f fn h => (show InlL Try.prog (c_l_toEventS k).inl from inl1 (fi_29) (inl0)) f fn h |>.1
theorem s_l_toEventS (k : Nat) : SpecGood Try.prog 29 (sp_l_toEventS k) ∧ Enters Try.prog 29 := ⟨specGood_run (o_l_toEventS k) mixed (n_l_toEventS k) (d := 1) [(.slice 33 yEvent)] [(.slice 36 yEvent)] [true] (fun x => l_toEventS k x.1) (fun x => r_l_toEventS k x.1), (fi_29).2⟩
theorem o_l_toItemSS (k : Nat) : Ok Try.prog (c_l_toItemSS k) := ok_of (ptr0) (eq0) (tab1 (ty_22) (tab1 (ty_25) (tab1 (ty_63) (tab1 (ty_69) (tab0))))) (inl1 (fi_95) (inl0)) (spec1 (s_l_toItemS k) (spec0)) (mspec0)
theorem n_l_toItemSS (k : Nat) : ∀ f fn, look (c_l_toItemSS k).inl f = some fn → Try.prog.funcs[f]? = some fn := fun f fn h => (show InlL Try.prog (c_l_toItemSS k).inl from inl1 (fi_95) (inl0)) f fn h |>.1
theorem s_l_toItemSS (k : Nat) : SpecGood Try.prog 95 (sp_l_toItemSS k) ∧ Enters Try.prog 95 := ⟨specGood_run (o_l_toItemSS k) mixed (n_l_toItemSS k) (d := 1) [(.slice 22 (.slice 97 yItem))] [(.slice 25 (.slice 95 yItem))] [true] (fun x => l_toItemSS k x.1) (fun x => r_l_toItemSS k x.1), (fi_95).2⟩
theorem o_l_toBoolS (k : Nat) : Ok Try.prog (c_l_toBoolS k) := ok_of (ptr0) (eq0) (tab1 (ty_4) (tab1 (ty_64) (tab0))) (inl1 (fi_96) (inl0)) (spec0) (mspec0)
theorem n_l_toBoolS (k : Nat) : ∀ f fn, look (c_l_toBoolS k).inl f = some fn → Try.prog.funcs[f]? = some fn := fun f fn h => (show InlL Try.prog (c_l_toBoolS k).inl from inl1 (fi_96) (inl0)) f fn h |>.1
theorem s_l_toBoolS (k : Nat) : SpecGood Try.prog 96 (sp_l_toBoolS k) ∧ Enters Try.prog 96 := ⟨specGood_run (o_l_toBoolS k) mixed (n_l_toBoolS k) (d := 1) [(.slice 4 .bool)] [(.slice 4 .bool)] [true] (fun x => l_toBoolS k x.1) (fun x => r_l_toBoolS k x.1), (fi_96).2⟩
theorem o_l_toRoom (k : Nat) : Ok Try.prog (c_l_toRoom k) := ok_of (ptr0) (eq0) (tab1 (ty_40) (tab1 (ty_44) (tab1 (ty_63) (tab1 (ty_64) (tab1 (ty_66) (tab1 (ty_69) (tab1 (ty_71) (tab0)))))))) (inl1 (fi_48) (inl0)) (spec1 (s_l_toEventS k) (spec1 (s_l_toItemSS k) (spec1 (s_l_toBoolS k) (spec0)))) (mspec0)
theorem n_l_toRoom (k : Nat) : ∀ f fn, look (c_l_toRoom k).inl f = some fn → Try.prog.funcs[f]? = some fn := fun f fn h => (show InlL Try.prog (c_l_toRoom k).inl from inl1 (fi_48) (inl0)) f fn h |>.1
theorem s_l_toRoom (k : Nat) : SpecGood Try.prog 48 (sp_l_toRoom k) ∧ Enters Try.prog 48 := ⟨specGood_run (o_l_toRoom k) mixed (n_l_toRoom k) (d := 1) [yRoom] [yRoom1] [true, true, true] (fun x => l_toRoom k x.1) (fun x => r_l_toRoom k x.1), (fi_48).2⟩
theorem o_i_copyEvent (k : Nat) : Ok Try.prog (c_i_copyEvent k) := ok_of (ptr0) (eq0) (tab1 (ty_31) (tab1 (ty_36) (tab0))) (inl1 (fi_79) (inl0)) (spec0) (mspec0)
theorem n_i_copyEvent (k : Nat) : ∀ f fn, look (c_i_copyEvent k).inl f = some fn → Try.prog.funcs[f]? = some fn := fun f fn h => (show InlL Try.prog (c_i_copyEvent k).inl from inl1 (fi_79) (inl0)) f fn h |>.1
theorem s_i_copyEvent (k : Nat) : SpecGood Try.prog 79 (sp_i_copyEvent k) ∧ Enters Try.prog 79 := ⟨specGood_run (o_i_copyEvent k) mixed (n_i_copyEvent k) (d := 1) [yEvent] [yEvent] [true, true] (fun x => i_copyEvent k x.1) (fun x => r_i_copyEvent k x.1), (fi_79).2⟩
theorem o_i_Known (k : Nat) : Ok Try.prog (c_i_Known k) := ok_of (ptr0) (eq0) (tab1 (ty_3) (tab1 (ty_36) (tab1 (ty_44) (tab0)))) (inl1 (fi_30) (inl0)) (spec1 (s_i_copyEvent k) (spec0)) (mspec0)
theorem n_i_Known (k : Nat) : ∀ f fn, look (c_i_Known k).inl f = some fn → Try.prog.funcs[f]? = some fn := fun f fn h => (show InlL Try.prog (c_i_Known k).inl from inl1 (fi_30) (inl0)) f fn h |>.1
theorem s_i_Known (k : Nat) : SpecGood Try.prog 30 (sp_i_Known k) ∧ Enters Try.prog 30 := ⟨specGood_run (o_i_Known k) mixed (n_i_Known k) (d := 1) [(.slice 36 yEvent), (.int .i64)] [yEvent, .bool] [true, true] (fun x => i_Known k x.1 x.2.1) (fun x => r_i_Known k x.1 x.2.1), (fi_30).2⟩
theorem o_i_DepthOf (k : Nat) : Ok Try.prog (c_i_DepthOf k) := ok_of (ptr0) (eq0) (tab1 (ty_3) (tab1 (ty_31) (tab1 (ty_36) (tab1 (ty_44) (tab1 (ty_71) (tab0)))))) (inl1 (fi_50) (inl0)) (spec1 (s_i_Known k) (spec0)) (mspec0)
theorem n_i_DepthOf (k : Nat) : ∀ f fn, look (c_i_DepthOf k).inl f = some fn → Try.prog.funcs[f]? = some fn := fun f fn h => (show InlL Try.prog (c_i_DepthOf k).inl from inl1 (fi_50) (inl0)) f fn h |>.1
theorem s_i_DepthOf (k : Nat) : SpecGood Try.prog 50 (sp_i_DepthOf k) ∧ Enters Try.prog 50 := ⟨specGood_run (o_i_DepthOf k) mixed (n_i_DepthOf k) (d := 1) [yRoom1, (.slice 3 (.int .i64))] [(.int .i64)] [] (fun x => i_DepthOf k x.1 x.2.1) (fun x => r_i_DepthOf k x.1 x.2.1), (fi_50).2⟩
theorem o_l_eqEventS (k : Nat) : Ok Try.prog (c_l_eqEventS k) := ok_of (ptr0) (eq0) (tab1 (ty_36) (tab1 (ty_44) (tab0))) (inl1 (fi_31) (inl0)) (spec1 (s_l_eqEvent k) (spec0)) (mspec0)
theorem n_l_eqEventS (k : Nat) : ∀ f fn, look (c_l_eqEventS k).inl f = some fn → Try.prog.funcs[f]? = some fn := fun f fn h => (show InlL Try.prog (c_l_eqEventS k).inl from inl1 (fi_31) (inl0)) f fn h |>.1
theorem s_l_eqEventS (k : Nat) : SpecGood Try.prog 31 (sp_l_eqEventS k) ∧ Enters Try.prog 31 := ⟨specGood_run (o_l_eqEventS k) mixed (n_l_eqEventS k) (d := 1) [(.slice 36 yEvent), (.slice 36 yEvent)] [.bool] [] (fun x => l_eqEventS k x.1 x.2.1) (fun x => r_l_eqEventS k x.1 x.2.1), (fi_31).2⟩
theorem o_l_eqItemSS (k : Nat) : Ok Try.prog (c_l_eqItemSS k) := ok_of (ptr0) (eq0) (tab1 (ty_25) (tab1 (ty_69) (tab0))) (inl1 (fi_97) (inl0)) (spec1 (s_l_eqItemS k) (spec0)) (mspec0)
theorem n_l_eqItemSS (k : Nat) : ∀ f fn, look (c_l_eqItemSS k).inl f = some fn → Try.prog.funcs[f]? = some fn := fun f fn h => (show InlL Try.prog (c_l_eqItemSS k).inl from inl1 (fi_97) (inl0)) f fn h |>.1
theorem s_l_eqItemSS (k : Nat) : SpecGood Try.prog 97 (sp_l_eqItemSS k) ∧ Enters Try.prog 97 := ⟨specGood_run (o_l_eqItemSS k) mixed (n_l_eqItemSS k) (d := 1) [(.slice 25 (.slice 95 yItem)), (.slice 25 (.slice 95 yItem))] [.bool] [] (fun x => l_eqItemSS k x.1 x.2.1) (fun x => r_l_eqItemSS k x.1 x.2.1), (fi_97).2⟩
theorem o_l_eqBoolS (k : Nat) : Ok Try.prog (c_l_eqBoolS k) := ok_of (ptr0) (eq0) (tab1 (ty_4) (tab1 (ty_64) (tab0))) (inl1 (fi_98) (inl0)) (spec0) (mspec0)
theorem n_l_eqBoolS (k : Nat) : ∀ f fn, look (c_l_eqBoolS k).inl f = some fn → Try.prog.funcs[f]? = some fn := fun f fn h => (show InlL Try.prog (c_l_eqBoolS k).inl from inl1 (fi_98) (inl0)) f fn h |>.1
theorem s_l_eqBoolS (k : Nat) : SpecGood Try.prog 98 (sp_l_eqBoolS k) ∧ Enters Try.prog 98 := ⟨specGood_run (o_l_eqBoolS k) mixed (n_l_eqBoolS k) (d := 1) [(.slice 4 .bool), (.slice 4 .bool)] [.bool] [] (fun x => l_eqBoolS k x.1 x.2.1) (fun x => r_l_eqBoolS k x.1 x.2.1), (fi_98).2⟩
theorem o_l_eqRoom (k : Nat) : Ok Try.prog (c_l_eqRoom k) := ok_of (ptr0) (eq0) (tab1 (ty_44) (tab1 (ty_64) (tab1 (ty_69) (tab1 (ty_71) (tab0))))) (inl1 (fi_51) (inl0)) (spec1 (s_l_eqEventS k) (spec1 (s_l_eqItemSS k) (spec1 (s_l_eqBoolS k) (spec0)))) (mspec0)
theorem n_l_eqRoom (k : Nat) : ∀ f fn, look (c_l_eqRoom k).inl f = some fn → Try.prog.funcs[f]? = some fn := fun f fn h => (show InlL Try.prog (c_l_eqRoom k).inl from inl1 (fi_51) (inl0)) f fn h |>.1
theorem s_l_eqRoom (k : Nat) : SpecGood Try.prog 51 (sp_l_eqRoom k) ∧ Enters Try.prog 51 := ⟨specGood_run (o_l_eqRoom k) mixed (n_l_eqRoom k) (d := 1) [yRoom1, yRoom1] [.bool] [] (fun x => l_eqRoom k x.1 x.2.1) (fun x => r_l_eqRoom k x.1 x.2.1), (fi_51).2⟩
theorem o_l_FnExactDepthOf (k : Nat) : Ok Try.prog (c_l_FnExactDepthOf k) := ok_of (ptr0) (eq0) (tab1 (ty_31) (tab1 (ty_66) (tab1 (ty_71) (tab0)))) (inl1 (fi_10) (inl0)) (spec1 (s_l_szRoom k) (spec1 (s_s_DepthOf k) (spec1 (s_l_toRoom k) (spec1 (s_l_toIntS k) (spec1 (s_i_DepthOf k) (spec1 (s_l_eqRoom k) (spec1 (s_l_eqIntS k) (spec0)))))))) (mspec0)
theorem n_l_FnExactDepthOf (k : Nat) : ∀ f fn, look (c_l_FnExactDepthOf k).inl f = some fn → Try.prog.funcs[f]? = some fn := fun f fn h => (show InlL Try.prog (c_l_FnExactDepthOf k).inl from inl1 (fi_10) (inl0)) f fn h |>.1
theorem s_l_FnExactDepthOf (k : Nat) : SpecGood Try.prog 10 (sp_l_FnExactDepthOf k) ∧ Enters Try.prog 10 := ⟨specGood_run (o_l_FnExactDepthOf k) mixed (n_l_FnExactDepthOf k) (d := 1) [yRoom, (.slice 3 (.int .i64))] [.bool] [] (fun x => l_FnExactDepthOf k x.1 x.2.1) (fun x => r_l_FnExactDepthOf k x.1 x.2.1), (fi_10).2⟩
theorem o_l_heldIntS (k : Nat) : Ok Try.prog (c_l_heldIntS k) := ok_of (ptr0) (eq0) (tab1 (ty_3) (tab1 (ty_31) (tab0))) (inl1 (fi_82) (inl0)) (spec0) (mspec0)
theorem n_l_heldIntS (k : Nat) : ∀ f fn, look (c_l_heldIntS k).inl f = some fn → Try.prog.funcs[f]? = some fn := fun f fn h => (show InlL Try.prog (c_l_heldIntS k).inl from inl1 (fi_82) (inl0)) f fn h |>.1
theorem s_l_heldIntS (k : Nat) : SpecGood Try.prog 82 (sp_l_heldIntS k) ∧ Enters Try.prog 82 := ⟨specGood_run (o_l_heldIntS k) mixed (n_l_heldIntS k) (d := 1) [(.slice 3 (.int .i64)), (.int .i64)] [(.int .i64)] [] (fun x => l_heldIntS k x.1 x.2.1) (fun x => r_l_heldIntS k x.1 x.2.1), (fi_82).2⟩
theorem o_l_heldEvent (k : Nat) : Ok Try.prog (c_l_heldEvent k) := ok_of (ptr0) (eq0) (tab1 (ty_31) (tab1 (ty_36) (tab0))) (inl1 (fi_34) (inl0)) (spec1 (s_l_heldIntS k) (spec0)) (mspec0)
theorem n_l_heldEvent (k : Nat) : ∀ f fn, look (c_l_heldEvent k).inl f = some fn → Try.prog.funcs[f]? = some fn := fun f fn h => (show InlL Try.prog (c_l_heldEvent k).inl from inl1 (fi_34) (inl0)) f fn h |>.1
theorem s_l_heldEvent (k : Nat) : SpecGood Try.prog 34 (sp_l_heldEvent k) ∧ Enters Try.prog 34 := ⟨specGood_run (o_l_heldEvent k) mixed (n_l_heldEvent k) (d := 1) [yEvent, (.int .i64)] [(.int .i64)] [] (fun x => l_heldEvent k x.1 x.2.1) (fun x => r_l_heldEvent k x.1 x.2.1), (fi_34).2⟩
theorem o_s_ReadVar (k : Nat) : Ok Try.prog (c_s_ReadVar k) := ok_of (ptr0) (eq0) (tab1 (ty_3) (tab1 (ty_5) (tab1 (ty_9) (tab0)))) (inl1 (fi_125) (inl0)) (spec1 (s_s_l01In k) (spec1 (s_s_l01Var k) (spec0))) (mspec0)
theorem n_s_ReadVar (k : Nat) : ∀ f fn, look (c_s_ReadVar k).inl f = some fn → Try.prog.funcs[f]? = some fn := fun f fn h => (show InlL Try.prog (c_s_ReadVar k).inl from inl1 (fi_125) (inl0)) f fn h |>.1
theorem s_s_ReadVar (k : Nat) : SpecGood Try.prog 125 (sp_s_ReadVar k) ∧ Enters Try.prog 125 := ⟨specGood_run (o_s_ReadVar k) mixed (n_s_ReadVar k) (d := 1) [.str, (.int .i64)] [(.int .i64), (.int .i64), .bool] [] (fun x => s_ReadVar k x.1 x.2.1) (fun x => r_s_ReadVar k x.1 x.2.1), (fi_125).2⟩
theorem o_s_l05Var (k : Nat) : Ok Try.prog (c_s_l05Var k) := ok_of (ptr0) (eq0) (tab1 (ty_3) (tab1 (ty_4) (tab1 (ty_9) (tab1 (ty_116) (tab0))))) (inl1 (fi_99) (inl0)) (spec1 (s_s_ReadVar k) (spec0)) (mspec0)
theorem n_s_l05Var (k : Nat) : ∀ f fn, look (c_s_l05Var k).inl f = some fn → Try.prog.funcs[f]? = some fn := fun f fn h => (show InlL Try.prog (c_s_l05Var k).inl from inl1 (fi_99) (inl0)) f fn h |>.1
theorem s_s_l05Var (k : Nat) : MGood Try.prog 99 (sp_s_l05Var k) ∧ Enters Try.prog 99 := ⟨mgood_run (o_s_l05Var k) mixed (n_s_l05Var k) (d := 1) [.box yL05Cur] [(.int .i64)] [] (fun x => s_l05Var k x.1) (fun x => r_s_l05Var k x.1), (fi_99).2⟩
theorem o_s_l05Take (k : Nat) : Ok Try.prog (c_s_l05Take k) := ok_of (ptr0) (eq0) (tab1 (ty_3) (tab1 (ty_4) (tab1 (ty_9) (tab1 (ty_116) (tab0))))) (inl1 (fi_139) (inl0)) (spec0) (mspec0)
theorem n_s_l05Take (k : Nat) : ∀ f fn, look (c_s_l05Take k).inl f = some fn → Try.prog.funcs[f]? = some fn := fun f fn h => (show InlL Try.prog (c_s_l05Take k).inl from inl1 (fi_139) (inl0)) f fn h |>.1
theorem s_s_l05Take (k : Nat) : MGood Try.prog 139 (sp_s_l05Take k) ∧ Enters Try.prog 139 := ⟨mgood_run (o_s_l05Take k) mixed (n_s_l05Take k) (d := 1) [.box yL05Cur, .imm (.int .i64)] [.str] [] (fun x => s_l05Take k x.1 x.2.1) (fun x => r_s_l05Take k x.1 x.2.1), (fi_139).2⟩
theorem o_s_l09One (k : Nat) : Ok Try.prog (c_s_l09One k) := ok_of (ptr0) (eq0) (tab1 (ty_3) (tab1 (ty_4) (tab1 (ty_5) (tab1 (ty_9) (tab1 (ty_116) (tab0)))))) (inl1 (fi_126) (inl0)) (spec0) (mspec1 (s_s_l05Take k) (mspec0))
theorem n_s_l09One (k : Nat) : ∀ f fn, look (c_s_l09One k).inl f = some fn → Try.prog.funcs[f]? = some fn := fun f fn h => (show InlL Try.prog (c_s_l09One k).inl from inl1 (fi_126) (inl0)) f fn h |>.1
theorem s_s_l09One (k : Nat) : MGood Try.prog 126 (sp_s_l09One k) ∧ Enters Try.prog 126 := ⟨mgood_run (o_s_l09One k) mixed (n_s_l09One k) (d := 1) [.box yL05Cur] [(.int .i64)] [] (fun x => s_l09One k x.1) (fun x => r_s_l09One k x.1), (fi_126).2⟩
theorem o_s_l05ReadShort (k : Nat) : Ok Try.prog (c_s_l05ReadShort k) := ok_of (ptr0) (eq0) (tab0) (inl1 (fi_127) (inl0)) (spec0) (mspec1 (s_s_l05Var k) (mspec1 (s_s_l05Take k) (mspec0)))
theorem n_s_l05ReadShort (k : Nat) : ∀ f fn, look (c_s_l05ReadShort k).inl f = some fn → Try.prog.funcs[f]? = some fn := fun f fn h => (show InlL Try.prog (c_s_l05ReadShort k).inl from inl1 (fi_127) (inl0)) f fn h |>.1
theorem s_s_l05ReadShort (k : Nat) : MGood Try.prog 127 (sp_s_l05ReadShort k) ∧ Enters Try.prog 127 := ⟨mgood_run (o_s_l05ReadShort k) mixed (n_s_l05ReadShort k) (d := 1) [.box yL05Cur] [.str] [] (fun x => s_l05ReadShort k x.1) (fun x => r_s_l05ReadShort k x.1), (fi_127).2⟩
theorem o_s_ReadEvent (k : Nat) : Ok Try.prog (c_s_ReadEvent k) := ok_of (ptr0) (eq0) (tab1 (ty_3) (tab1 (ty_4) (tab1 (ty_9) (tab1 (ty_31) (tab1 (ty_36) (tab1 (ty_116) (tab0))))))) (inl1 (fi_53) (inl1 (fi_100) (inl0))) (spec1 (s_s_EventText k) (spec0)) (mspec1 (s_s_l05Var k) (mspec1 (s_s_l09One k) (mspec1 (s_s_l05ReadShort k) (mspec0))))
theorem n_s_ReadEvent (k : Nat) : ∀ f fn, look (c_s_ReadEvent k).inl f = some fn → Try.prog.funcs[f]? = some fn := fun f fn h => (show InlL Try.prog (c_s_ReadEvent k).inl from inl1 (fi_53) (inl1 (fi_100) (inl0))) f fn h |>.1
theorem s_s_ReadEvent (k : Nat) : SpecGood Try.prog 53 (sp_s_ReadEvent k) ∧ Enters Try.prog 53 := ⟨specGood_run (o_s_ReadEvent k) mixed (n_s_ReadEvent k) (d := 2) [.str] [yEvent, .bool] [true, true] (fun x => s_ReadEvent k x.1) (fun x => r_s_ReadEvent k x.1), (fi_53).2⟩
theorem o_i_ReadVar (k : Nat) : Ok Try.prog (c_i_ReadVar k) := ok_of (ptr0) (eq0) (tab1 (ty_3) (tab1 (ty_5) (tab1 (ty_9) (tab0)))) (inl1 (fi_128) (inl0)) (spec1 (s_i_within k) (spec1 (s_i_VarText k) (spec0))) (mspec0)
theorem n_i_ReadVar (k : Nat) : ∀ f fn, look (c_i_ReadVar k).inl f = some fn → Try.prog.funcs[f]? = some fn := fun f fn h => (show InlL Try.prog (c_i_ReadVar k).inl from inl1 (fi_128) (inl0)) f fn h |>.1
theorem s_i_ReadVar (k : Nat) : SpecGood Try.prog 128 (sp_i_ReadVar k) ∧ Enters Try.prog 128 := ⟨specGood_run (o_i_ReadVar k) mixed (n_i_ReadVar k) (d := 1) [.str, (.int .i64)] [(.int .i64), (.int .i64), .bool] [] (fun x => i_ReadVar k x.1 x.2.1) (fun x => r_i_ReadVar k x.1 x.2.1), (fi_128).2⟩
theorem o_i_reader_num (k : Nat) : Ok Try.prog (c_i_reader_num k) := ok_of (ptr0) (eq0) (tab1 (ty_3) (tab1 (ty_4) (tab1 (ty_9) (tab1 (ty_122) (tab0))))) (inl1 (fi_101) (inl0)) (spec1 (s_i_ReadVar k) (spec0)) (mspec0)
theorem n_i_reader_num (k : Nat) : ∀ f fn, look (c_i_reader_num k).inl f = some fn → Try.prog.funcs[f]? = some fn := fun f fn h => (show InlL Try.prog (c_i_reader_num k).inl from inl1 (fi_101) (inl0)) f fn h |>.1
theorem s_i_reader_num (k : Nat) : MGood Try.prog 101 (sp_i_reader_num k) ∧ Enters Try.prog 101 := ⟨mgood_run (o_i_reader_num k) mixed (n_i_reader_num k) (d := 1) [.box yL05Cur] [(.int .i64)] [] (fun x => i_reader_num k x.1) (fun x => r_i_reader_num k x.1), (fi_101).2⟩
theorem o_i_reader_byte (k : Nat) : Ok Try.prog (c_i_reader_byte k) := ok_of (ptr0) (eq0) (tab1 (ty_3) (tab1 (ty_4) (tab1 (ty_5) (tab1 (ty_9) (tab1 (ty_122) (tab0)))))) (inl1 (fi_129) (inl0)) (spec0) (mspec0)
theorem n_i_reader_byte (k : Nat) : ∀ f fn, look (c_i_reader_byte k).inl f = some fn → Try.prog.funcs[f]? = some fn := fun f fn h => (show InlL Try.prog (c_i_reader_byte k).inl from inl1 (fi_129) (inl0)) f fn h |>.1
theorem s_i_reader_byte (k : Nat) : MGood Try.prog 129 (sp_i_reader_byte k) ∧ Enters Try.prog 129 := ⟨mgood_run (o_i_reader_byte k) mixed (n_i_reader_byte k) (d := 1) [.box yL05Cur] [(.int .i64)] [] (fun x => i_reader_byte k x.1) (fun x => r_i_reader_byte k x.1), (fi_129).2⟩
theorem o_i_ReadShort (k : Nat) : Ok Try.prog (c_i_ReadShort k) := ok_of (ptr0) (eq0) (tab1 (ty_9) (tab0)) (inl1 (fi_140) (inl0)) (spec1 (s_i_ReadVar k) (spec0)) (mspec0)
theorem n_i_ReadShort (k : Nat) : ∀ f fn, look (c_i_ReadShort k).inl f = some fn → Try.prog.funcs[f]? = some fn := fun f fn h => (show InlL Try.prog (c_i_ReadShort k).inl from inl1 (fi_140) (inl0)) f fn h |>.1
theorem s_i_ReadShort (k : Nat) : SpecGood Try.prog 140 (sp_i_ReadShort k) ∧ Enters Try.prog 140 := ⟨specGood_run (o_i_ReadShort k) mixed (n_i_ReadShort k) (d := 1) [.str, (.int .i64)] [.str, (.int .i64), .bool] [] (fun x => i_ReadShort k x.1 x.2.1) (fun x => r_i_ReadShort k x.1 x.2.1), (fi_140).2⟩
theorem o_i_reader_text (k : Nat) : Ok Try.prog (c_i_reader_text k) := ok_of (ptr0) (eq0) (tab1 (ty_3) (tab1 (ty_4) (tab1 (ty_9) (tab1 (ty_122) (tab0))))) (inl1 (fi_131) (inl0)) (spec1 (s_i_ReadShort k) (spec0)) (mspec0)
theorem n_i_reader_text (k : Nat) : ∀ f fn, look (c_i_reader_text k).inl f = some fn → Try.prog.funcs[f]? = some fn := fun f fn h => (show InlL Try.prog (c_i_reader_text k).inl from inl1 (fi_131) (inl0)) f fn h |>.1
theorem s_i_reader_text (k : Nat) : MGood Try.prog 131 (sp_i_reader_text k) ∧ Enters Try.prog 131 := ⟨mgood_run (o_i_reader_text k) mixed (n_i_reader_text k) (d := 1) [.box yL05Cur] [.str] [] (fun x => i_reader_text k x.1) (fun x => r_i_reader_text k x.1), (fi_131).2⟩
theorem o_i_reader_main (k : Nat) : Ok Try.prog (c_i_reader_main k) := ok_of (ptr1 (pt_120) (ptr0)) (eq0) (tab1 (ty_4) (tab1 (ty_9) (tab1 (ty_31) (tab1 (ty_36) (tab1 (ty_122) (tab0)))))) (inl1 (fi_102) (inl1 (fi_103) (inl1 (fi_130) (inl0)))) (spec0) (mspec1 (s_i_reader_num k) (mspec1 (s_i_reader_byte k) (mspec1 (s_i_reader_text k) (mspec0))))
theorem n_i_reader_main (k : Nat) : ∀ f fn, look (c_i_reader_main k).inl f = some fn → Try.prog.funcs[f]? = some fn := fun f fn h => (show InlL Try.prog (c_i_reader_main k).inl from inl1 (fi_102) (inl1 (fi_103) (inl1 (fi_130) (inl0)))) f fn h |>.1
theorem s_i_reader_main (k : Nat) : MGood Try.prog 102 (sp_i_reader_main k) ∧ Enters Try.prog 102 := ⟨mgood_run (o_i_reader_main k) mixed (n_i_reader_main k) (d := 3) [.box yL05Cur] [yEvent] [true, true] (fun x => i_reader_main k x.1) (fun x => r_i_reader_main k x.1), (fi_102).2⟩
theorem o_i_reader_done (k : Nat) : Ok Try.prog (c_i_reader_done k) := ok_of (ptr0) (eq0) (tab1 (ty_3) (tab1 (ty_4) (tab1 (ty_9) (tab1 (ty_122) (tab0))))) (inl1 (fi_105) (inl0)) (spec0) (mspec0)
theorem n_i_reader_done (k : Nat) : ∀ f fn, look (c_i_reader_done k).inl f = some fn → Try.prog.funcs[f]? = some fn := fun f fn h => (show InlL Try.prog (c_i_reader_done k).inl from inl1 (fi_105) (inl0)) f fn h |>.1
theorem s_i_reader_done (k : Nat) : MGood Try.prog 105 (sp_i_reader_done k) ∧ Enters Try.prog 105 := ⟨mgood_run (o_i_reader_done k) mixed (n_i_reader_done k) (d := 1) [.box yL05Cur] [.bool] [] (fun x => i_reader_done k x.1) (fun x => r_i_reader_done k x.1), (fi_105).2⟩
theorem o_i_ReadEvent (k : Nat) : Ok Try.prog (c_i_ReadEvent k) := ok_of (ptr1 (pt_120) (ptr0)) (eq0) (tab1 (ty_3) (tab1 (ty_4) (tab1 (ty_31) (tab1 (ty_36) (tab1 (ty_122) (tab0)))))) (inl1 (fi_54) (inl1 (fi_103) (inl1 (fi_104) (inl0)))) (spec1 (s_i_EventOk k) (spec0)) (mspec1 (s_i_reader_num k) (mspec1 (s_i_reader_main k) (mspec1 (s_i_reader_done k) (mspec0))))
theorem n_i_ReadEvent (k : Nat) : ∀ f fn, look (c_i_ReadEvent k).inl f = some fn → Try.prog.funcs[f]? = some fn := fun f fn h => (show InlL Try.prog (c_i_ReadEvent k).inl from inl1 (fi_54) (inl1 (fi_103) (inl1 (fi_104) (inl0)))) f fn h |>.1
theorem s_i_ReadEvent (k : Nat) : SpecGood Try.prog 54 (sp_i_ReadEvent k) ∧ Enters Try.prog 54 := ⟨specGood_run (o_i_ReadEvent k) mixed (n_i_ReadEvent k) (d := 3) [.str] [yEvent, .bool] [true, true] (fun x => i_ReadEvent k x.1) (fun x => r_i_ReadEvent k x.1), (fi_54).2⟩
theorem o_l_markIntS (k : Nat) : Ok Try.prog (c_l_markIntS k) := ok_of (ptr0) (eq0) (tab1 (ty_3) (tab1 (ty_31) (tab0))) (inl1 (fi_80) (inl0)) (spec0) (mspec0)
theorem n_l_markIntS (k : Nat) : ∀ f fn, look (c_l_markIntS k).inl f = some fn → Try.prog.funcs[f]? = some fn := fun f fn h => (show InlL Try.prog (c_l_markIntS k).inl from inl1 (fi_80) (inl0)) f fn h |>.1
theorem s_l_markIntS (k : Nat) : MGood Try.prog 80 (sp_l_markIntS k) ∧ Enters Try.prog 80 := ⟨mgood_run (o_l_markIntS k) mixed (n_l_markIntS k) (d := 1) [.row 3 (.int .i64), .imm (.int .i64)] [(.int .i64)] [] (fun x => l_markIntS k x.1 x.2.1) (fun x => r_l_markIntS k x.1 x.2.1), (fi_80).2⟩
theorem o_l_FnExactReadEvent (k : Nat) : Ok Try.prog (c_l_FnExactReadEvent k) := ok_of (ptr0) (eq0) (tab1 (ty_4) (tab1 (ty_9) (tab1 (ty_31) (tab1 (ty_36) (tab0))))) (inl1 (fi_11) (inl1 (fi_33) (inl0))) (spec1 (s_l_eqEvent k) (spec1 (s_l_heldEvent k) (spec1 (s_s_ReadEvent k) (spec1 (s_i_ReadEvent k) (spec0))))) (mspec1 (s_l_markIntS k) (mspec0))
theorem n_l_FnExactReadEvent (k : Nat) : ∀ f fn, look (c_l_FnExactReadEvent k).inl f = some fn → Try.prog.funcs[f]? = some fn := fun f fn h => (show InlL Try.prog (c_l_FnExactReadEvent k).inl from inl1 (fi_11) (inl1 (fi_33) (inl0))) f fn h |>.1
theorem s_l_FnExactReadEvent (k : Nat) : SpecGood Try.prog 11 (sp_l_FnExactReadEvent k) ∧ Enters Try.prog 11 := ⟨specGood_run (o_l_FnExactReadEvent k) mixed (n_l_FnExactReadEvent k) (d := 2) [.str] [.bool] [] (fun x => l_FnExactReadEvent k x.1) (fun x => r_l_FnExactReadEvent k x.1), (fi_11).2⟩
theorem o_s_CommandText (k : Nat) : Ok Try.prog (c_s_CommandText k) := ok_of (ptr0) (eq0) (tab1 (ty_3) (tab1 (ty_36) (tab1 (ty_59) (tab0)))) (inl1 (fi_61) (inl0)) (spec1 (s_s_EventText k) (spec1 (s_s_CommandOk k) (spec1 (s_s_l01Var k) (spec1 (s_s_l09BodyText k) (spec1 (s_s_l09Byte k) (spec1 (s_s_l05Short k) (spec0))))))) (mspec0)
theorem n_s_CommandText (k : Nat) : ∀ f fn, look (c_s_CommandText k).inl f = some fn → Try.prog.funcs[f]? = some fn := fun f fn h => (show InlL Try.prog (c_s_CommandText k).inl from inl1 (fi_61) (inl0)) f fn h |>.1
theorem s_s_CommandText (k : Nat) : SpecGood Try.prog 61 (sp_s_CommandText k) ∧ Enters Try.prog 61 := ⟨specGood_run (o_s_CommandText k) mixed (n_s_CommandText k) (d := 1) [yCommand] [.str, .bool] [] (fun x => s_CommandText k x.1) (fun x => r_s_CommandText k x.1), (fi_61).2⟩
theorem o_i_CommandText (k : Nat) : Ok Try.prog (c_i_CommandText k) := ok_of (ptr0) (eq0) (tab1 (ty_3) (tab1 (ty_5) (tab1 (ty_9) (tab1 (ty_31) (tab1 (ty_36) (tab1 (ty_59) (tab1 (ty_129) (tab0)))))))) (inl1 (fi_62) (inl0)) (spec1 (s_i_EventText k) (spec1 (s_i_CommandOk k) (spec1 (s_i_vars k) (spec1 (s_i_mainText k) (spec1 (s_i_ShortText k) (spec0)))))) (mspec0)
theorem n_i_CommandText (k : Nat) : ∀ f fn, look (c_i_CommandText k).inl f = some fn → Try.prog.funcs[f]? = some fn := fun f fn h => (show InlL Try.prog (c_i_CommandText k).inl from inl1 (fi_62) (inl0)) f fn h |>.1
theorem s_i_CommandText (k : Nat) : SpecGood Try.prog 62 (sp_i_CommandText k) ∧ Enters Try.prog 62 := ⟨specGood_run (o_i_CommandText k) mixed (n_i_CommandText k) (d := 1) [yCommand] [.str, .bool] [] (fun x => i_CommandText k x.1) (fun x => r_i_CommandText k x.1), (fi_62).2⟩
theorem o_l_FnExactCommandText (k : Nat) : Ok Try.prog (c_l_FnExactCommandText k) := ok_of (ptr0) (eq0) (tab1 (ty_4) (tab1 (ty_55) (tab1 (ty_59) (tab0)))) (inl1 (fi_13) (inl0)) (spec1 (s_l_szCommand k) (spec1 (s_l_toCommand k) (spec1 (s_l_eqCommand k) (spec1 (s_s_CommandText k) (spec1 (s_i_CommandText k) (spec0)))))) (mspec0)
theorem n_l_FnExactCommandText (k : Nat) : ∀ f fn, look (c_l_FnExactCommandText k).inl f = some fn → Try.prog.funcs[f]? = some fn := fun f fn h => (show InlL Try.prog (c_l_FnExactCommandText k).inl from inl1 (fi_13) (inl0)) f fn h |>.1
theorem s_l_FnExactCommandText (k : Nat) : SpecGood Try.prog 13 (sp_l_FnExactCommandText k) ∧ Enters Try.prog 13 := ⟨specGood_run (o_l_FnExactCommandText k) mixed (n_l_FnExactCommandText k) (d := 1) [yCommand] [.bool] [] (fun x => l_FnExactCommandText k x.1) (fun x => r_l_FnExactCommandText k x.1), (fi_13).2⟩
end Go.Vm
