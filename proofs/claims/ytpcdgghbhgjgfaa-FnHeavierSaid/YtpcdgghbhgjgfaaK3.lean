/- The functions keep their specifications. -/
import Derived.Test.YtpcdgghbhgjgfaaH3
import Derived.Test.YtpcdgghbhgjgfaaChecked
import Derived.Test.YtpcdgghbhgjgfaaIns
import Derived.Test.YtpcdgghbhgjgfaaLy
set_option linter.unusedVariables false
namespace Go.Vm
open Go Go.Proofs
theorem mixed : Try.prog.follows .mixedOrders = true := Try.checked.mixed
theorem ty_3 : TyOk Try.prog (.int .i64) 3 := tyB_sound _ _ _ [] (by kernel_rfl)
theorem ty_4 : TyOk Try.prog .bool 4 := tyB_sound _ _ _ [] (by kernel_rfl)
theorem ty_5 : TyOk Try.prog (.int .u8) 5 := tyB_sound _ _ _ [] (by kernel_rfl)
theorem ty_9 : TyOk Try.prog .str 9 := tyB_sound _ _ _ [] (by kernel_rfl)
theorem ty_24 : TyOk Try.prog (.slice 42 yItem) 24 := tyB_sound _ _ _ [] (by kernel_rfl)
theorem ty_30 : TyOk Try.prog (.slice 5 (.int .u8)) 30 := tyB_sound _ _ _ [] (by kernel_rfl)
theorem ty_32 : TyOk Try.prog (.slice 35 yEvent) 32 := tyB_sound _ _ _ [] (by kernel_rfl)
theorem ty_33 : TyOk Try.prog (.slice 3 (.int .i64)) 33 := tyB_sound _ _ _ [] (by kernel_rfl)
theorem ty_35 : TyOk Try.prog yEvent 35 := tyB_sound _ _ _ [] (by kernel_rfl)
theorem ty_42 : TyOk Try.prog yItem 42 := tyB_sound _ _ _ [] (by kernel_rfl)
theorem ty_67 : TyOk Try.prog yL01Cur 67 := tyB_sound _ _ _ [] (by kernel_rfl)
theorem ty_68 : TyOk Try.prog (.slice 24 (.slice 42 yItem)) 68 := tyB_sound _ _ _ [] (by kernel_rfl)
theorem ty_69 : TyOk Try.prog (.slice 4 .bool) 69 := tyB_sound _ _ _ [] (by kernel_rfl)
theorem ty_71 : TyOk Try.prog yRoom 71 := tyB_sound _ _ _ [] (by kernel_rfl)
theorem ty_88 : TyOk Try.prog (.slice 9 .str) 88 := tyB_sound _ _ _ [] (by kernel_rfl)
theorem ty_127 : TyOk Try.prog (.slice 33 (.slice 3 (.int .i64))) 127 := tyB_sound _ _ _ [] (by kernel_rfl)
theorem fi_4 : Try.prog.funcs[4]? = some Try.f4 ∧ Enters Try.prog 4 := ⟨Try.func4, enters_of Try.func4 (by kernel_rfl) rfl⟩
theorem fi_6 : Try.prog.funcs[6]? = some Try.f6 ∧ Enters Try.prog 6 := ⟨Try.func6, enters_of Try.func6 (by kernel_rfl) rfl⟩
theorem fi_12 : Try.prog.funcs[12]? = some Try.f12 ∧ Enters Try.prog 12 := ⟨Try.func12, enters_of Try.func12 (by kernel_rfl) rfl⟩
theorem fi_13 : Try.prog.funcs[13]? = some Try.f13 ∧ Enters Try.prog 13 := ⟨Try.func13, enters_of Try.func13 (by kernel_rfl) rfl⟩
theorem fi_14 : Try.prog.funcs[14]? = some Try.f14 ∧ Enters Try.prog 14 := ⟨Try.func14, enters_of Try.func14 (by kernel_rfl) rfl⟩
theorem fi_15 : Try.prog.funcs[15]? = some Try.f15 ∧ Enters Try.prog 15 := ⟨Try.func15, enters_of Try.func15 (by kernel_rfl) rfl⟩
theorem fi_16 : Try.prog.funcs[16]? = some Try.f16 ∧ Enters Try.prog 16 := ⟨Try.func16, enters_of Try.func16 (by kernel_rfl) rfl⟩
theorem fi_17 : Try.prog.funcs[17]? = some Try.f17 ∧ Enters Try.prog 17 := ⟨Try.func17, enters_of Try.func17 (by kernel_rfl) rfl⟩
theorem fi_18 : Try.prog.funcs[18]? = some Try.f18 ∧ Enters Try.prog 18 := ⟨Try.func18, enters_of Try.func18 (by kernel_rfl) rfl⟩
theorem fi_19 : Try.prog.funcs[19]? = some Try.f19 ∧ Enters Try.prog 19 := ⟨Try.func19, enters_of Try.func19 (by kernel_rfl) rfl⟩
theorem fi_24 : Try.prog.funcs[24]? = some Try.f24 ∧ Enters Try.prog 24 := ⟨Try.func24, enters_of Try.func24 (by kernel_rfl) rfl⟩
theorem fi_25 : Try.prog.funcs[25]? = some Try.f25 ∧ Enters Try.prog 25 := ⟨Try.func25, enters_of Try.func25 (by kernel_rfl) rfl⟩
theorem fi_26 : Try.prog.funcs[26]? = some Try.f26 ∧ Enters Try.prog 26 := ⟨Try.func26, enters_of Try.func26 (by kernel_rfl) rfl⟩
theorem fi_27 : Try.prog.funcs[27]? = some Try.f27 ∧ Enters Try.prog 27 := ⟨Try.func27, enters_of Try.func27 (by kernel_rfl) rfl⟩
theorem fi_28 : Try.prog.funcs[28]? = some Try.f28 ∧ Enters Try.prog 28 := ⟨Try.func28, enters_of Try.func28 (by kernel_rfl) rfl⟩
theorem fi_29 : Try.prog.funcs[29]? = some Try.f29 ∧ Enters Try.prog 29 := ⟨Try.func29, enters_of Try.func29 (by kernel_rfl) rfl⟩
theorem fi_30 : Try.prog.funcs[30]? = some Try.f30 ∧ Enters Try.prog 30 := ⟨Try.func30, enters_of Try.func30 (by kernel_rfl) rfl⟩
theorem fi_31 : Try.prog.funcs[31]? = some Try.f31 ∧ Enters Try.prog 31 := ⟨Try.func31, enters_of Try.func31 (by kernel_rfl) rfl⟩
theorem fi_32 : Try.prog.funcs[32]? = some Try.f32 ∧ Enters Try.prog 32 := ⟨Try.func32, enters_of Try.func32 (by kernel_rfl) rfl⟩
theorem fi_33 : Try.prog.funcs[33]? = some Try.f33 ∧ Enters Try.prog 33 := ⟨Try.func33, enters_of Try.func33 (by kernel_rfl) rfl⟩
theorem fi_34 : Try.prog.funcs[34]? = some Try.f34 ∧ Enters Try.prog 34 := ⟨Try.func34, enters_of Try.func34 (by kernel_rfl) rfl⟩
theorem fi_35 : Try.prog.funcs[35]? = some Try.f35 ∧ Enters Try.prog 35 := ⟨Try.func35, enters_of Try.func35 (by kernel_rfl) rfl⟩
theorem fi_36 : Try.prog.funcs[36]? = some Try.f36 ∧ Enters Try.prog 36 := ⟨Try.func36, enters_of Try.func36 (by kernel_rfl) rfl⟩
theorem fi_37 : Try.prog.funcs[37]? = some Try.f37 ∧ Enters Try.prog 37 := ⟨Try.func37, enters_of Try.func37 (by kernel_rfl) rfl⟩
theorem fi_38 : Try.prog.funcs[38]? = some Try.f38 ∧ Enters Try.prog 38 := ⟨Try.func38, enters_of Try.func38 (by kernel_rfl) rfl⟩
theorem fi_39 : Try.prog.funcs[39]? = some Try.f39 ∧ Enters Try.prog 39 := ⟨Try.func39, enters_of Try.func39 (by kernel_rfl) rfl⟩
theorem fi_40 : Try.prog.funcs[40]? = some Try.f40 ∧ Enters Try.prog 40 := ⟨Try.func40, enters_of Try.func40 (by kernel_rfl) rfl⟩
theorem fi_41 : Try.prog.funcs[41]? = some Try.f41 ∧ Enters Try.prog 41 := ⟨Try.func41, enters_of Try.func41 (by kernel_rfl) rfl⟩
theorem fi_44 : Try.prog.funcs[44]? = some Try.f44 ∧ Enters Try.prog 44 := ⟨Try.func44, enters_of Try.func44 (by kernel_rfl) rfl⟩
theorem fi_45 : Try.prog.funcs[45]? = some Try.f45 ∧ Enters Try.prog 45 := ⟨Try.func45, enters_of Try.func45 (by kernel_rfl) rfl⟩
theorem fi_46 : Try.prog.funcs[46]? = some Try.f46 ∧ Enters Try.prog 46 := ⟨Try.func46, enters_of Try.func46 (by kernel_rfl) rfl⟩
theorem fi_47 : Try.prog.funcs[47]? = some Try.f47 ∧ Enters Try.prog 47 := ⟨Try.func47, enters_of Try.func47 (by kernel_rfl) rfl⟩
theorem fi_48 : Try.prog.funcs[48]? = some Try.f48 ∧ Enters Try.prog 48 := ⟨Try.func48, enters_of Try.func48 (by kernel_rfl) rfl⟩
theorem fi_49 : Try.prog.funcs[49]? = some Try.f49 ∧ Enters Try.prog 49 := ⟨Try.func49, enters_of Try.func49 (by kernel_rfl) rfl⟩
theorem fi_50 : Try.prog.funcs[50]? = some Try.f50 ∧ Enters Try.prog 50 := ⟨Try.func50, enters_of Try.func50 (by kernel_rfl) rfl⟩
theorem fi_51 : Try.prog.funcs[51]? = some Try.f51 ∧ Enters Try.prog 51 := ⟨Try.func51, enters_of Try.func51 (by kernel_rfl) rfl⟩
theorem fi_52 : Try.prog.funcs[52]? = some Try.f52 ∧ Enters Try.prog 52 := ⟨Try.func52, enters_of Try.func52 (by kernel_rfl) rfl⟩
theorem fi_56 : Try.prog.funcs[56]? = some Try.f56 ∧ Enters Try.prog 56 := ⟨Try.func56, enters_of Try.func56 (by kernel_rfl) rfl⟩
theorem fi_57 : Try.prog.funcs[57]? = some Try.f57 ∧ Enters Try.prog 57 := ⟨Try.func57, enters_of Try.func57 (by kernel_rfl) rfl⟩
theorem fi_58 : Try.prog.funcs[58]? = some Try.f58 ∧ Enters Try.prog 58 := ⟨Try.func58, enters_of Try.func58 (by kernel_rfl) rfl⟩
theorem fi_59 : Try.prog.funcs[59]? = some Try.f59 ∧ Enters Try.prog 59 := ⟨Try.func59, enters_of Try.func59 (by kernel_rfl) rfl⟩
theorem fi_60 : Try.prog.funcs[60]? = some Try.f60 ∧ Enters Try.prog 60 := ⟨Try.func60, enters_of Try.func60 (by kernel_rfl) rfl⟩
theorem fi_61 : Try.prog.funcs[61]? = some Try.f61 ∧ Enters Try.prog 61 := ⟨Try.func61, enters_of Try.func61 (by kernel_rfl) rfl⟩
theorem fi_62 : Try.prog.funcs[62]? = some Try.f62 ∧ Enters Try.prog 62 := ⟨Try.func62, enters_of Try.func62 (by kernel_rfl) rfl⟩
theorem fi_63 : Try.prog.funcs[63]? = some Try.f63 ∧ Enters Try.prog 63 := ⟨Try.func63, enters_of Try.func63 (by kernel_rfl) rfl⟩
theorem fi_76 : Try.prog.funcs[76]? = some Try.f76 ∧ Enters Try.prog 76 := ⟨Try.func76, enters_of Try.func76 (by kernel_rfl) rfl⟩
theorem fi_77 : Try.prog.funcs[77]? = some Try.f77 ∧ Enters Try.prog 77 := ⟨Try.func77, enters_of Try.func77 (by kernel_rfl) rfl⟩
theorem fi_78 : Try.prog.funcs[78]? = some Try.f78 ∧ Enters Try.prog 78 := ⟨Try.func78, enters_of Try.func78 (by kernel_rfl) rfl⟩
theorem fi_79 : Try.prog.funcs[79]? = some Try.f79 ∧ Enters Try.prog 79 := ⟨Try.func79, enters_of Try.func79 (by kernel_rfl) rfl⟩
theorem fi_80 : Try.prog.funcs[80]? = some Try.f80 ∧ Enters Try.prog 80 := ⟨Try.func80, enters_of Try.func80 (by kernel_rfl) rfl⟩
theorem fi_81 : Try.prog.funcs[81]? = some Try.f81 ∧ Enters Try.prog 81 := ⟨Try.func81, enters_of Try.func81 (by kernel_rfl) rfl⟩
theorem fi_82 : Try.prog.funcs[82]? = some Try.f82 ∧ Enters Try.prog 82 := ⟨Try.func82, enters_of Try.func82 (by kernel_rfl) rfl⟩
theorem fi_89 : Try.prog.funcs[89]? = some Try.f89 ∧ Enters Try.prog 89 := ⟨Try.func89, enters_of Try.func89 (by kernel_rfl) rfl⟩
theorem fi_90 : Try.prog.funcs[90]? = some Try.f90 ∧ Enters Try.prog 90 := ⟨Try.func90, enters_of Try.func90 (by kernel_rfl) rfl⟩
theorem fi_91 : Try.prog.funcs[91]? = some Try.f91 ∧ Enters Try.prog 91 := ⟨Try.func91, enters_of Try.func91 (by kernel_rfl) rfl⟩
theorem fi_92 : Try.prog.funcs[92]? = some Try.f92 ∧ Enters Try.prog 92 := ⟨Try.func92, enters_of Try.func92 (by kernel_rfl) rfl⟩
theorem fi_93 : Try.prog.funcs[93]? = some Try.f93 ∧ Enters Try.prog 93 := ⟨Try.func93, enters_of Try.func93 (by kernel_rfl) rfl⟩
theorem fi_94 : Try.prog.funcs[94]? = some Try.f94 ∧ Enters Try.prog 94 := ⟨Try.func94, enters_of Try.func94 (by kernel_rfl) rfl⟩
theorem fi_96 : Try.prog.funcs[96]? = some Try.f96 ∧ Enters Try.prog 96 := ⟨Try.func96, enters_of Try.func96 (by kernel_rfl) rfl⟩
theorem fi_97 : Try.prog.funcs[97]? = some Try.f97 ∧ Enters Try.prog 97 := ⟨Try.func97, enters_of Try.func97 (by kernel_rfl) rfl⟩
theorem fi_98 : Try.prog.funcs[98]? = some Try.f98 ∧ Enters Try.prog 98 := ⟨Try.func98, enters_of Try.func98 (by kernel_rfl) rfl⟩
theorem fi_99 : Try.prog.funcs[99]? = some Try.f99 ∧ Enters Try.prog 99 := ⟨Try.func99, enters_of Try.func99 (by kernel_rfl) rfl⟩
theorem fi_100 : Try.prog.funcs[100]? = some Try.f100 ∧ Enters Try.prog 100 := ⟨Try.func100, enters_of Try.func100 (by kernel_rfl) rfl⟩
theorem fi_101 : Try.prog.funcs[101]? = some Try.f101 ∧ Enters Try.prog 101 := ⟨Try.func101, enters_of Try.func101 (by kernel_rfl) rfl⟩
theorem fi_102 : Try.prog.funcs[102]? = some Try.f102 ∧ Enters Try.prog 102 := ⟨Try.func102, enters_of Try.func102 (by kernel_rfl) rfl⟩
theorem fi_103 : Try.prog.funcs[103]? = some Try.f103 ∧ Enters Try.prog 103 := ⟨Try.func103, enters_of Try.func103 (by kernel_rfl) rfl⟩
theorem fi_104 : Try.prog.funcs[104]? = some Try.f104 ∧ Enters Try.prog 104 := ⟨Try.func104, enters_of Try.func104 (by kernel_rfl) rfl⟩
theorem fi_105 : Try.prog.funcs[105]? = some Try.f105 ∧ Enters Try.prog 105 := ⟨Try.func105, enters_of Try.func105 (by kernel_rfl) rfl⟩
theorem o_l_big (k : Nat) : Ok Try.prog (c_l_big k) := ok_of (map0) (ptr0) (eq0) (tab1 (ty_30) (tab0)) (inl1 (fi_12) (inl0)) (spec0) (mspec0)
theorem n_l_big (k : Nat) : ∀ f fn, look (c_l_big k).inl f = some fn → Try.prog.funcs[f]? = some fn := fun f fn h => (show InlL Try.prog (c_l_big k).inl from inl1 (fi_12) (inl0)) f fn h |>.1
theorem s_l_big (k : Nat) : SpecGood Try.prog 12 (sp_l_big k) ∧ Enters Try.prog 12 := ⟨specGood_run (o_l_big k) mixed (n_l_big k) (d := k) [(.slice 5 (.int .u8))] [.bool] [] (fun x => l_big k x.1) (fun x => r_l_big k x.1), (fi_12).2⟩
theorem o_s_l01Byte (k : Nat) : Ok Try.prog (c_s_l01Byte k) := ok_of (map0) (ptr0) (eq0) (tab1 (ty_3) (tab1 (ty_5) (tab1 (ty_30) (tab1 (ty_67) (tab0))))) (inl1 (fi_47) (inl0)) (spec0) (mspec0)
theorem n_s_l01Byte (k : Nat) : ∀ f fn, look (c_s_l01Byte k).inl f = some fn → Try.prog.funcs[f]? = some fn := fun f fn h => (show InlL Try.prog (c_s_l01Byte k).inl from inl1 (fi_47) (inl0)) f fn h |>.1
theorem s_s_l01Byte (k : Nat) : MGood Try.prog 47 (sp_s_l01Byte k) ∧ Enters Try.prog 47 := ⟨mgood_run (o_s_l01Byte k) mixed (n_s_l01Byte k) (d := k) [.box yL01Cur] [(.int .i64)] [] (fun x => s_l01Byte k x.1) (fun x => r_s_l01Byte k x.1), (fi_47).2⟩
theorem o_s_l01Below (k : Nat) : Ok Try.prog (c_s_l01Below k) := ok_of (map0) (ptr0) (eq0) (tab0) (inl1 (fi_27) (inl0)) (spec0) (mspec1 (s_s_l01Byte k) (mspec0))
theorem n_s_l01Below (k : Nat) : ∀ f fn, look (c_s_l01Below k).inl f = some fn → Try.prog.funcs[f]? = some fn := fun f fn h => (show InlL Try.prog (c_s_l01Below k).inl from inl1 (fi_27) (inl0)) f fn h |>.1
theorem s_s_l01Below (k : Nat) : MGood Try.prog 27 (sp_s_l01Below k) ∧ Enters Try.prog 27 := ⟨mgood_run (o_s_l01Below k) mixed (n_s_l01Below k) (d := k) [.box yL01Cur, .imm (.int .i64)] [(.int .i64)] [] (fun x => s_l01Below k x.1 x.2.1) (fun x => r_s_l01Below k x.1 x.2.1), (fi_27).2⟩
theorem o_s_l12Size (k : Nat) : Ok Try.prog (c_s_l12Size k) := ok_of (map0) (ptr0) (eq0) (tab1 (ty_30) (tab0)) (inl1 (fi_56) (inl0)) (spec0) (mspec0)
theorem n_s_l12Size (k : Nat) : ∀ f fn, look (c_s_l12Size k).inl f = some fn → Try.prog.funcs[f]? = some fn := fun f fn h => (show InlL Try.prog (c_s_l12Size k).inl from inl1 (fi_56) (inl0)) f fn h |>.1
theorem s_s_l12Size (k : Nat) : SpecGood Try.prog 56 (sp_s_l12Size k) ∧ Enters Try.prog 56 := ⟨specGood_run (o_s_l12Size k) mixed (n_s_l12Size k) (d := k) [(.slice 5 (.int .u8))] [(.int .i64)] [] (fun x => s_l12Size k x.1) (fun x => r_s_l12Size k x.1), (fi_56).2⟩
theorem o_s_l01In (k : Nat) : Ok Try.prog (c_s_l01In k) := ok_of (map0) (ptr0) (eq0) (tab0) (inl1 (fi_37) (inl0)) (spec0) (mspec0)
theorem n_s_l01In (k : Nat) : ∀ f fn, look (c_s_l01In k).inl f = some fn → Try.prog.funcs[f]? = some fn := fun f fn h => (show InlL Try.prog (c_s_l01In k).inl from inl1 (fi_37) (inl0)) f fn h |>.1
theorem s_s_l01In (k : Nat) : SpecGood Try.prog 37 (sp_s_l01In k) ∧ Enters Try.prog 37 := ⟨specGood_run (o_s_l01In k) mixed (n_s_l01In k) (d := k) [(.int .i64), (.int .i64), (.int .i64)] [.bool] [] (fun x => s_l01In k x.1 x.2.1 x.2.2.1) (fun x => r_s_l01In k x.1 x.2.1 x.2.2.1), (fi_37).2⟩
theorem o_s_l10Key (k : Nat) : Ok Try.prog (c_s_l10Key k) := ok_of (map0) (ptr0) (eq0) (tab0) (inl1 (fi_41) (inl0)) (spec1 (s_s_l01In k) (spec0)) (mspec0)
theorem n_s_l10Key (k : Nat) : ∀ f fn, look (c_s_l10Key k).inl f = some fn → Try.prog.funcs[f]? = some fn := fun f fn h => (show InlL Try.prog (c_s_l10Key k).inl from inl1 (fi_41) (inl0)) f fn h |>.1
theorem s_s_l10Key (k : Nat) : SpecGood Try.prog 41 (sp_s_l10Key k) ∧ Enters Try.prog 41 := ⟨specGood_run (o_s_l10Key k) mixed (n_s_l10Key k) (d := k) [(.int .i64)] [.bool] [] (fun x => s_l10Key k x.1) (fun x => r_s_l10Key k x.1), (fi_41).2⟩
theorem o_s_StateOk (k : Nat) : Ok Try.prog (c_s_StateOk k) := ok_of (map0) (ptr0) (eq0) (tab1 (ty_3) (tab1 (ty_24) (tab1 (ty_42) (tab0)))) (inl1 (fi_19) (inl0)) (spec1 (s_s_l01In k) (spec1 (s_s_l10Key k) (spec0))) (mspec0)
theorem n_s_StateOk (k : Nat) : ∀ f fn, look (c_s_StateOk k).inl f = some fn → Try.prog.funcs[f]? = some fn := fun f fn h => (show InlL Try.prog (c_s_StateOk k).inl from inl1 (fi_19) (inl0)) f fn h |>.1
theorem s_s_StateOk (k : Nat) : SpecGood Try.prog 19 (sp_s_StateOk k) ∧ Enters Try.prog 19 := ⟨specGood_run (o_s_StateOk k) mixed (n_s_StateOk k) (d := k) [(.slice 42 yItem)] [.bool] [] (fun x => s_StateOk k x.1) (fun x => r_s_StateOk k x.1), (fi_19).2⟩
theorem o_s_Put (k : Nat) : Ok Try.prog (c_s_Put k) := ok_of (map0) (ptr0) (eq0) (tab1 (ty_3) (tab1 (ty_24) (tab1 (ty_42) (tab0)))) (inl1 (fi_6) (inl0)) (spec1 (s_s_StateOk k) (spec0)) (mspec0)
theorem n_s_Put (k : Nat) : ∀ f fn, look (c_s_Put k).inl f = some fn → Try.prog.funcs[f]? = some fn := fun f fn h => (show InlL Try.prog (c_s_Put k).inl from inl1 (fi_6) (inl0)) f fn h |>.1
theorem s_s_Put (k : Nat) : SpecGood Try.prog 6 (sp_s_Put k) ∧ Enters Try.prog 6 := ⟨specGood_run (o_s_Put k) mixed (n_s_Put k) (d := k) [(.slice 42 yItem), (.int .i64), (.int .i64)] [(.slice 42 yItem)] [true] (fun x => s_Put k x.1 x.2.1 x.2.2.1) (fun x => r_s_Put k x.1 x.2.1 x.2.2.1), (fi_6).2⟩
theorem o_s_l12Has (k : Nat) : Ok Try.prog (c_s_l12Has k) := ok_of (map0) (ptr0) (eq0) (tab1 (ty_3) (tab1 (ty_32) (tab1 (ty_35) (tab1 (ty_71) (tab0))))) (inl1 (fi_78) (inl0)) (spec0) (mspec0)
theorem n_s_l12Has (k : Nat) : ∀ f fn, look (c_s_l12Has k).inl f = some fn → Try.prog.funcs[f]? = some fn := fun f fn h => (show InlL Try.prog (c_s_l12Has k).inl from inl1 (fi_78) (inl0)) f fn h |>.1
theorem s_s_l12Has (k : Nat) : SpecGood Try.prog 78 (sp_s_l12Has k) ∧ Enters Try.prog 78 := ⟨specGood_run (o_s_l12Has k) mixed (n_s_l12Has k) (d := k) [yRoom, (.int .i64)] [(.int .i64)] [] (fun x => s_l12Has k x.1 x.2.1) (fun x => r_s_l12Has k x.1 x.2.1), (fi_78).2⟩
theorem o_s_At (k : Nat) : Ok Try.prog (c_s_At k) := ok_of (map0) (ptr0) (eq0) (tab1 (ty_3) (tab1 (ty_24) (tab1 (ty_42) (tab0)))) (inl1 (fi_38) (inl0)) (spec0) (mspec0)
theorem n_s_At (k : Nat) : ∀ f fn, look (c_s_At k).inl f = some fn → Try.prog.funcs[f]? = some fn := fun f fn h => (show InlL Try.prog (c_s_At k).inl from inl1 (fi_38) (inl0)) f fn h |>.1
theorem s_s_At (k : Nat) : SpecGood Try.prog 38 (sp_s_At k) ∧ Enters Try.prog 38 := ⟨specGood_run (o_s_At k) mixed (n_s_At k) (d := k) [(.slice 42 yItem), (.int .i64)] [(.int .i64)] [] (fun x => s_At k x.1 x.2.1) (fun x => r_s_At k x.1 x.2.1), (fi_38).2⟩
theorem o_s_l10Find (k : Nat) : Ok Try.prog (c_s_l10Find k) := ok_of (map0) (ptr0) (eq0) (tab1 (ty_3) (tab1 (ty_32) (tab1 (ty_35) (tab0)))) (inl1 (fi_39) (inl0)) (spec0) (mspec0)
theorem n_s_l10Find (k : Nat) : ∀ f fn, look (c_s_l10Find k).inl f = some fn → Try.prog.funcs[f]? = some fn := fun f fn h => (show InlL Try.prog (c_s_l10Find k).inl from inl1 (fi_39) (inl0)) f fn h |>.1
theorem s_s_l10Find (k : Nat) : SpecGood Try.prog 39 (sp_s_l10Find k) ∧ Enters Try.prog 39 := ⟨specGood_run (o_s_l10Find k) mixed (n_s_l10Find k) (d := k) [(.slice 35 yEvent), (.int .i64)] [yEvent, .bool] [false, false] (fun x => s_l10Find k x.1 x.2.1) (fun x => r_s_l10Find k x.1 x.2.1), (fi_39).2⟩
theorem o_s_LevelOf (k : Nat) : Ok Try.prog (c_s_LevelOf k) := ok_of (map0) (ptr0) (eq0) (tab1 (ty_3) (tab1 (ty_33) (tab1 (ty_35) (tab0)))) (inl1 (fi_32) (inl0)) (spec1 (s_s_l01In k) (spec1 (s_s_At k) (spec1 (s_s_l10Find k) (spec0)))) (mspec0)
theorem n_s_LevelOf (k : Nat) : ∀ f fn, look (c_s_LevelOf k).inl f = some fn → Try.prog.funcs[f]? = some fn := fun f fn h => (show InlL Try.prog (c_s_LevelOf k).inl from inl1 (fi_32) (inl0)) f fn h |>.1
theorem s_s_LevelOf (k : Nat) : SpecGood Try.prog 32 (sp_s_LevelOf k) ∧ Enters Try.prog 32 := ⟨specGood_run (o_s_LevelOf k) mixed (n_s_LevelOf k) (d := k) [(.slice 35 yEvent), (.slice 42 yItem), (.int .i64)] [(.int .i64)] [] (fun x => s_LevelOf k x.1 x.2.1 x.2.2.1) (fun x => r_s_LevelOf k x.1 x.2.1 x.2.2.1), (fi_32).2⟩
theorem o_s_l09Levels (k : Nat) : Ok Try.prog (c_s_l09Levels k) := ok_of (map0) (ptr0) (eq0) (tab1 (ty_3) (tab1 (ty_33) (tab0))) (inl1 (fi_99) (inl0)) (spec1 (s_s_l01In k) (spec0)) (mspec0)
theorem n_s_l09Levels (k : Nat) : ∀ f fn, look (c_s_l09Levels k).inl f = some fn → Try.prog.funcs[f]? = some fn := fun f fn h => (show InlL Try.prog (c_s_l09Levels k).inl from inl1 (fi_99) (inl0)) f fn h |>.1
theorem s_s_l09Levels (k : Nat) : SpecGood Try.prog 99 (sp_s_l09Levels k) ∧ Enters Try.prog 99 := ⟨specGood_run (o_s_l09Levels k) mixed (n_s_l09Levels k) (d := k) [(.slice 3 (.int .i64))] [.bool] [] (fun x => s_l09Levels k x.1) (fun x => r_s_l09Levels k x.1), (fi_99).2⟩
theorem o_s_l09Body (k : Nat) : Ok Try.prog (c_s_l09Body k) := ok_of (map0) (ptr0) (eq0) (tab1 (ty_3) (tab1 (ty_9) (tab1 (ty_33) (tab1 (ty_35) (tab0))))) (inl1 (fi_90) (inl0)) (spec1 (s_s_l01In k) (spec1 (s_s_l09Levels k) (spec0))) (mspec0)
theorem n_s_l09Body (k : Nat) : ∀ f fn, look (c_s_l09Body k).inl f = some fn → Try.prog.funcs[f]? = some fn := fun f fn h => (show InlL Try.prog (c_s_l09Body k).inl from inl1 (fi_90) (inl0)) f fn h |>.1
theorem s_s_l09Body (k : Nat) : SpecGood Try.prog 90 (sp_s_l09Body k) ∧ Enters Try.prog 90 := ⟨specGood_run (o_s_l09Body k) mixed (n_s_l09Body k) (d := k) [yEvent] [.bool] [] (fun x => s_l09Body k x.1) (fun x => r_s_l09Body k x.1), (fi_90).2⟩
theorem o_s_EventOk (k : Nat) : Ok Try.prog (c_s_EventOk k) := ok_of (map0) (ptr0) (eq0) (tab1 (ty_3) (tab1 (ty_4) (tab1 (ty_33) (tab1 (ty_35) (tab0))))) (inl1 (fi_77) (inl0)) (spec1 (s_s_l01In k) (spec1 (s_s_l09Body k) (spec0))) (mspec0)
theorem n_s_EventOk (k : Nat) : ∀ f fn, look (c_s_EventOk k).inl f = some fn → Try.prog.funcs[f]? = some fn := fun f fn h => (show InlL Try.prog (c_s_EventOk k).inl from inl1 (fi_77) (inl0)) f fn h |>.1
theorem s_s_EventOk (k : Nat) : SpecGood Try.prog 77 (sp_s_EventOk k) ∧ Enters Try.prog 77 := ⟨specGood_run (o_s_EventOk k) mixed (n_s_EventOk k) (d := k) [yEvent] [.bool] [] (fun x => s_EventOk k x.1) (fun x => r_s_EventOk k x.1), (fi_77).2⟩
theorem o_s_MemberOf (k : Nat) : Ok Try.prog (c_s_MemberOf k) := ok_of (map0) (ptr0) (eq0) (tab1 (ty_3) (tab1 (ty_35) (tab0))) (inl1 (fi_93) (inl0)) (spec1 (s_s_l01In k) (spec1 (s_s_At k) (spec1 (s_s_l10Find k) (spec0)))) (mspec0)
theorem n_s_MemberOf (k : Nat) : ∀ f fn, look (c_s_MemberOf k).inl f = some fn → Try.prog.funcs[f]? = some fn := fun f fn h => (show InlL Try.prog (c_s_MemberOf k).inl from inl1 (fi_93) (inl0)) f fn h |>.1
theorem s_s_MemberOf (k : Nat) : SpecGood Try.prog 93 (sp_s_MemberOf k) ∧ Enters Try.prog 93 := ⟨specGood_run (o_s_MemberOf k) mixed (n_s_MemberOf k) (d := k) [(.slice 35 yEvent), (.slice 42 yItem), (.int .i64)] [(.int .i64)] [] (fun x => s_MemberOf k x.1 x.2.1 x.2.2.1) (fun x => r_s_MemberOf k x.1 x.2.1 x.2.2.1), (fi_93).2⟩
theorem o_s_l10Empty (k : Nat) : Ok Try.prog (c_s_l10Empty k) := ok_of (map0) (ptr0) (eq0) (tab1 (ty_3) (tab1 (ty_24) (tab1 (ty_42) (tab0)))) (inl1 (fi_105) (inl0)) (spec0) (mspec0)
theorem n_s_l10Empty (k : Nat) : ∀ f fn, look (c_s_l10Empty k).inl f = some fn → Try.prog.funcs[f]? = some fn := fun f fn h => (show InlL Try.prog (c_s_l10Empty k).inl from inl1 (fi_105) (inl0)) f fn h |>.1
theorem s_s_l10Empty (k : Nat) : SpecGood Try.prog 105 (sp_s_l10Empty k) ∧ Enters Try.prog 105 := ⟨specGood_run (o_s_l10Empty k) mixed (n_s_l10Empty k) (d := k) [(.slice 42 yItem)] [.bool] [] (fun x => s_l10Empty k x.1) (fun x => r_s_l10Empty k x.1), (fi_105).2⟩
theorem o_s_l10Self (k : Nat) : Ok Try.prog (c_s_l10Self k) := ok_of (map0) (ptr0) (eq0) (tab1 (ty_3) (tab1 (ty_35) (tab0))) (inl1 (fi_100) (inl0)) (spec1 (s_s_At k) (spec1 (s_s_l10Find k) (spec1 (s_s_MemberOf k) (spec1 (s_s_l10Empty k) (spec0))))) (mspec0)
theorem n_s_l10Self (k : Nat) : ∀ f fn, look (c_s_l10Self k).inl f = some fn → Try.prog.funcs[f]? = some fn := fun f fn h => (show InlL Try.prog (c_s_l10Self k).inl from inl1 (fi_100) (inl0)) f fn h |>.1
theorem s_s_l10Self (k : Nat) : SpecGood Try.prog 100 (sp_s_l10Self k) ∧ Enters Try.prog 100 := ⟨specGood_run (o_s_l10Self k) mixed (n_s_l10Self k) (d := k) [(.slice 35 yEvent), (.slice 42 yItem), yEvent] [.bool] [] (fun x => s_l10Self k x.1 x.2.1 x.2.2.1) (fun x => r_s_l10Self k x.1 x.2.1 x.2.2.1), (fi_100).2⟩
theorem o_s_l10Member (k : Nat) : Ok Try.prog (c_s_l10Member k) := ok_of (map0) (ptr0) (eq0) (tab1 (ty_3) (tab1 (ty_35) (tab0))) (inl1 (fi_91) (inl0)) (spec1 (s_s_LevelOf k) (spec1 (s_s_MemberOf k) (spec1 (s_s_l10Self k) (spec0)))) (mspec0)
theorem n_s_l10Member (k : Nat) : ∀ f fn, look (c_s_l10Member k).inl f = some fn → Try.prog.funcs[f]? = some fn := fun f fn h => (show InlL Try.prog (c_s_l10Member k).inl from inl1 (fi_91) (inl0)) f fn h |>.1
theorem s_s_l10Member (k : Nat) : SpecGood Try.prog 91 (sp_s_l10Member k) ∧ Enters Try.prog 91 := ⟨specGood_run (o_s_l10Member k) mixed (n_s_l10Member k) (d := k) [(.slice 35 yEvent), (.slice 42 yItem), yEvent] [.bool] [] (fun x => s_l10Member k x.1 x.2.1 x.2.2.1) (fun x => r_s_l10Member k x.1 x.2.1 x.2.2.1), (fi_91).2⟩
theorem o_s_l10Power (k : Nat) : Ok Try.prog (c_s_l10Power k) := ok_of (map0) (ptr0) (eq0) (tab1 (ty_3) (tab1 (ty_33) (tab1 (ty_35) (tab0)))) (inl1 (fi_92) (inl0)) (spec1 (s_s_LevelOf k) (spec1 (s_s_MemberOf k) (spec0))) (mspec0)
theorem n_s_l10Power (k : Nat) : ∀ f fn, look (c_s_l10Power k).inl f = some fn → Try.prog.funcs[f]? = some fn := fun f fn h => (show InlL Try.prog (c_s_l10Power k).inl from inl1 (fi_92) (inl0)) f fn h |>.1
theorem s_s_l10Power (k : Nat) : SpecGood Try.prog 92 (sp_s_l10Power k) ∧ Enters Try.prog 92 := ⟨specGood_run (o_s_l10Power k) mixed (n_s_l10Power k) (d := k) [(.slice 35 yEvent), (.slice 42 yItem), yEvent] [.bool] [] (fun x => s_l10Power k x.1 x.2.1 x.2.2.1) (fun x => r_s_l10Power k x.1 x.2.1 x.2.2.1), (fi_92).2⟩
theorem o_s_Allowed (k : Nat) : Ok Try.prog (c_s_Allowed k) := ok_of (map0) (ptr0) (eq0) (tab1 (ty_3) (tab1 (ty_24) (tab1 (ty_35) (tab0)))) (inl1 (fi_80) (inl0)) (spec1 (s_s_LevelOf k) (spec1 (s_s_At k) (spec1 (s_s_l10Find k) (spec1 (s_s_EventOk k) (spec1 (s_s_l10Member k) (spec1 (s_s_l10Power k) (spec1 (s_s_MemberOf k) (spec0)))))))) (mspec0)
theorem n_s_Allowed (k : Nat) : ∀ f fn, look (c_s_Allowed k).inl f = some fn → Try.prog.funcs[f]? = some fn := fun f fn h => (show InlL Try.prog (c_s_Allowed k).inl from inl1 (fi_80) (inl0)) f fn h |>.1
theorem s_s_Allowed (k : Nat) : SpecGood Try.prog 80 (sp_s_Allowed k) ∧ Enters Try.prog 80 := ⟨specGood_run (o_s_Allowed k) mixed (n_s_Allowed k) (d := k) [(.slice 35 yEvent), (.slice 42 yItem), yEvent] [.bool] [] (fun x => s_Allowed k x.1 x.2.1 x.2.2.1) (fun x => r_s_Allowed k x.1 x.2.1 x.2.2.1), (fi_80).2⟩
theorem o_s_KeyOf (k : Nat) : Ok Try.prog (c_s_KeyOf k) := ok_of (map0) (ptr0) (eq0) (tab1 (ty_3) (tab1 (ty_35) (tab0))) (inl1 (fi_81) (inl0)) (spec1 (s_s_l01In k) (spec0)) (mspec0)
theorem n_s_KeyOf (k : Nat) : ∀ f fn, look (c_s_KeyOf k).inl f = some fn → Try.prog.funcs[f]? = some fn := fun f fn h => (show InlL Try.prog (c_s_KeyOf k).inl from inl1 (fi_81) (inl0)) f fn h |>.1
theorem s_s_KeyOf (k : Nat) : SpecGood Try.prog 81 (sp_s_KeyOf k) ∧ Enters Try.prog 81 := ⟨specGood_run (o_s_KeyOf k) mixed (n_s_KeyOf k) (d := k) [yEvent] [(.int .i64)] [] (fun x => s_KeyOf k x.1) (fun x => r_s_KeyOf k x.1), (fi_81).2⟩
theorem o_s_l11Keys (k : Nat) : Ok Try.prog (c_s_l11Keys k) := ok_of (map0) (ptr0) (eq0) (tab1 (ty_3) (tab1 (ty_24) (tab1 (ty_33) (tab1 (ty_42) (tab1 (ty_68) (tab0)))))) (inl1 (fi_101) (inl0)) (spec0) (mspec0)
theorem n_s_l11Keys (k : Nat) : ∀ f fn, look (c_s_l11Keys k).inl f = some fn → Try.prog.funcs[f]? = some fn := fun f fn h => (show InlL Try.prog (c_s_l11Keys k).inl from inl1 (fi_101) (inl0)) f fn h |>.1
theorem s_s_l11Keys (k : Nat) : SpecGood Try.prog 101 (sp_s_l11Keys k) ∧ Enters Try.prog 101 := ⟨specGood_run (o_s_l11Keys k) mixed (n_s_l11Keys k) (d := k) [(.slice 24 (.slice 42 yItem))] [(.slice 3 (.int .i64))] [true] (fun x => s_l11Keys k x.1) (fun x => r_s_l11Keys k x.1), (fi_101).2⟩
theorem o_s_l11Alike (k : Nat) : Ok Try.prog (c_s_l11Alike k) := ok_of (map0) (ptr0) (eq0) (tab1 (ty_24) (tab1 (ty_68) (tab0))) (inl1 (fi_102) (inl0)) (spec1 (s_s_At k) (spec0)) (mspec0)
theorem n_s_l11Alike (k : Nat) : ∀ f fn, look (c_s_l11Alike k).inl f = some fn → Try.prog.funcs[f]? = some fn := fun f fn h => (show InlL Try.prog (c_s_l11Alike k).inl from inl1 (fi_102) (inl0)) f fn h |>.1
theorem s_s_l11Alike (k : Nat) : SpecGood Try.prog 102 (sp_s_l11Alike k) ∧ Enters Try.prog 102 := ⟨specGood_run (o_s_l11Alike k) mixed (n_s_l11Alike k) (d := k) [(.slice 24 (.slice 42 yItem)), (.int .i64)] [.bool] [] (fun x => s_l11Alike k x.1 x.2.1) (fun x => r_s_l11Alike k x.1 x.2.1), (fi_102).2⟩
theorem o_s_Agreed (k : Nat) : Ok Try.prog (c_s_Agreed k) := ok_of (map0) (ptr0) (eq0) (tab1 (ty_3) (tab1 (ty_24) (tab1 (ty_33) (tab1 (ty_42) (tab1 (ty_68) (tab0)))))) (inl1 (fi_96) (inl0)) (spec1 (s_s_At k) (spec1 (s_s_l11Keys k) (spec1 (s_s_l11Alike k) (spec0)))) (mspec0)
theorem n_s_Agreed (k : Nat) : ∀ f fn, look (c_s_Agreed k).inl f = some fn → Try.prog.funcs[f]? = some fn := fun f fn h => (show InlL Try.prog (c_s_Agreed k).inl from inl1 (fi_96) (inl0)) f fn h |>.1
theorem s_s_Agreed (k : Nat) : SpecGood Try.prog 96 (sp_s_Agreed k) ∧ Enters Try.prog 96 := ⟨specGood_run (o_s_Agreed k) mixed (n_s_Agreed k) (d := k) [(.slice 24 (.slice 42 yItem))] [(.slice 42 yItem)] [true] (fun x => s_Agreed k x.1) (fun x => r_s_Agreed k x.1), (fi_96).2⟩
theorem o_s_Clash (k : Nat) : Ok Try.prog (c_s_Clash k) := ok_of (map0) (ptr0) (eq0) (tab1 (ty_3) (tab1 (ty_33) (tab0))) (inl1 (fi_97) (inl0)) (spec1 (s_s_l11Keys k) (spec1 (s_s_l11Alike k) (spec0))) (mspec0)
theorem n_s_Clash (k : Nat) : ∀ f fn, look (c_s_Clash k).inl f = some fn → Try.prog.funcs[f]? = some fn := fun f fn h => (show InlL Try.prog (c_s_Clash k).inl from inl1 (fi_97) (inl0)) f fn h |>.1
theorem s_s_Clash (k : Nat) : SpecGood Try.prog 97 (sp_s_Clash k) ∧ Enters Try.prog 97 := ⟨specGood_run (o_s_Clash k) mixed (n_s_Clash k) (d := k) [(.slice 24 (.slice 42 yItem))] [(.slice 3 (.int .i64))] [true] (fun x => s_Clash k x.1) (fun x => r_s_Clash k x.1), (fi_97).2⟩
theorem o_s_l11Heavy (k : Nat) : Ok Try.prog (c_s_l11Heavy k) := ok_of (map0) (ptr0) (eq0) (tab1 (ty_3) (tab1 (ty_35) (tab0))) (inl1 (fi_31) (inl0)) (spec0) (mspec0)
theorem n_s_l11Heavy (k : Nat) : ∀ f fn, look (c_s_l11Heavy k).inl f = some fn → Try.prog.funcs[f]? = some fn := fun f fn h => (show InlL Try.prog (c_s_l11Heavy k).inl from inl1 (fi_31) (inl0)) f fn h |>.1
theorem s_s_l11Heavy (k : Nat) : SpecGood Try.prog 31 (sp_s_l11Heavy k) ∧ Enters Try.prog 31 := ⟨specGood_run (o_s_l11Heavy k) mixed (n_s_l11Heavy k) (d := k) [yEvent] [.bool] [] (fun x => s_l11Heavy k x.1) (fun x => r_s_l11Heavy k x.1), (fi_31).2⟩
theorem o_s_Heavier (k : Nat) : Ok Try.prog (c_s_Heavier k) := ok_of (map0) (ptr0) (eq0) (tab1 (ty_3) (tab1 (ty_4) (tab1 (ty_35) (tab0)))) (inl1 (fi_15) (inl0)) (spec1 (s_s_l11Heavy k) (spec1 (s_s_LevelOf k) (spec0))) (mspec0)
theorem n_s_Heavier (k : Nat) : ∀ f fn, look (c_s_Heavier k).inl f = some fn → Try.prog.funcs[f]? = some fn := fun f fn h => (show InlL Try.prog (c_s_Heavier k).inl from inl1 (fi_15) (inl0)) f fn h |>.1
theorem s_s_Heavier (k : Nat) : SpecGood Try.prog 15 (sp_s_Heavier k) ∧ Enters Try.prog 15 := ⟨specGood_run (o_s_Heavier k) mixed (n_s_Heavier k) (d := k) [(.slice 35 yEvent), (.slice 42 yItem), yEvent, yEvent] [.bool] [] (fun x => s_Heavier k x.1 x.2.1 x.2.2.1 x.2.2.2.1) (fun x => r_s_Heavier k x.1 x.2.1 x.2.2.1 x.2.2.2.1), (fi_15).2⟩
theorem o_s_l11Add (k : Nat) : Ok Try.prog (c_s_l11Add k) := ok_of (map0) (ptr0) (eq0) (tab1 (ty_3) (tab1 (ty_33) (tab0))) (inl1 (fi_40) (inl0)) (spec0) (mspec0)
theorem n_s_l11Add (k : Nat) : ∀ f fn, look (c_s_l11Add k).inl f = some fn → Try.prog.funcs[f]? = some fn := fun f fn h => (show InlL Try.prog (c_s_l11Add k).inl from inl1 (fi_40) (inl0)) f fn h |>.1
theorem s_s_l11Add (k : Nat) : SpecGood Try.prog 40 (sp_s_l11Add k) ∧ Enters Try.prog 40 := ⟨specGood_run (o_s_l11Add k) mixed (n_s_l11Add k) (d := k) [(.slice 3 (.int .i64)), (.int .i64)] [(.slice 3 (.int .i64))] [true] (fun x => s_l11Add k x.1 x.2.1) (fun x => r_s_l11Add k x.1 x.2.1), (fi_40).2⟩
theorem o_s_l05In (k : Nat) : Ok Try.prog (c_s_l05In k) := ok_of (map0) (ptr0) (eq0) (tab1 (ty_3) (tab1 (ty_33) (tab0))) (inl1 (fi_94) (inl0)) (spec0) (mspec0)
theorem n_s_l05In (k : Nat) : ∀ f fn, look (c_s_l05In k).inl f = some fn → Try.prog.funcs[f]? = some fn := fun f fn h => (show InlL Try.prog (c_s_l05In k).inl from inl1 (fi_94) (inl0)) f fn h |>.1
theorem s_s_l05In (k : Nat) : SpecGood Try.prog 94 (sp_s_l05In k) ∧ Enters Try.prog 94 := ⟨specGood_run (o_s_l05In k) mixed (n_s_l05In k) (d := k) [(.slice 3 (.int .i64)), (.int .i64)] [.bool] [] (fun x => s_l05In k x.1 x.2.1) (fun x => r_s_l05In k x.1 x.2.1), (fi_94).2⟩
theorem o_s_l11Behind (k : Nat) : Ok Try.prog (c_s_l11Behind k) := ok_of (map0) (ptr0) (eq0) (tab1 (ty_3) (tab1 (ty_33) (tab1 (ty_35) (tab0)))) (inl1 (fi_103) (inl0)) (spec1 (s_s_l10Find k) (spec1 (s_s_l05In k) (spec0))) (mspec0)
theorem n_s_l11Behind (k : Nat) : ∀ f fn, look (c_s_l11Behind k).inl f = some fn → Try.prog.funcs[f]? = some fn := fun f fn h => (show InlL Try.prog (c_s_l11Behind k).inl from inl1 (fi_103) (inl0)) f fn h |>.1
theorem s_s_l11Behind (k : Nat) : SpecGood Try.prog 103 (sp_s_l11Behind k) ∧ Enters Try.prog 103 := ⟨specGood_run (o_s_l11Behind k) mixed (n_s_l11Behind k) (d := k) [(.slice 35 yEvent), (.int .i64)] [(.slice 3 (.int .i64))] [true] (fun x => s_l11Behind k x.1 x.2.1) (fun x => r_s_l11Behind k x.1 x.2.1), (fi_103).2⟩
theorem o_s_l11Ready (k : Nat) : Ok Try.prog (c_s_l11Ready k) := ok_of (map0) (ptr0) (eq0) (tab1 (ty_3) (tab1 (ty_33) (tab0))) (inl1 (fi_104) (inl0)) (spec1 (s_s_l05In k) (spec0)) (mspec0)
theorem n_s_l11Ready (k : Nat) : ∀ f fn, look (c_s_l11Ready k).inl f = some fn → Try.prog.funcs[f]? = some fn := fun f fn h => (show InlL Try.prog (c_s_l11Ready k).inl from inl1 (fi_104) (inl0)) f fn h |>.1
theorem s_s_l11Ready (k : Nat) : SpecGood Try.prog 104 (sp_s_l11Ready k) ∧ Enters Try.prog 104 := ⟨specGood_run (o_s_l11Ready k) mixed (n_s_l11Ready k) (d := k) [(.slice 3 (.int .i64)), (.slice 3 (.int .i64)), (.slice 3 (.int .i64))] [.bool] [] (fun x => s_l11Ready k x.1 x.2.1 x.2.2.1) (fun x => r_s_l11Ready k x.1 x.2.1 x.2.2.1), (fi_104).2⟩
theorem o_s_Order (k : Nat) : Ok Try.prog (c_s_Order k) := ok_of (map0) (ptr0) (eq0) (tab1 (ty_3) (tab1 (ty_33) (tab1 (ty_35) (tab1 (ty_127) (tab0))))) (inl1 (fi_98) (inl0)) (spec1 (s_s_Heavier k) (spec1 (s_s_l10Find k) (spec1 (s_s_l11Add k) (spec1 (s_s_l05In k) (spec1 (s_s_l11Behind k) (spec1 (s_s_l11Ready k) (spec0))))))) (mspec0)
theorem n_s_Order (k : Nat) : ∀ f fn, look (c_s_Order k).inl f = some fn → Try.prog.funcs[f]? = some fn := fun f fn h => (show InlL Try.prog (c_s_Order k).inl from inl1 (fi_98) (inl0)) f fn h |>.1
theorem s_s_Order (k : Nat) : SpecGood Try.prog 98 (sp_s_Order k) ∧ Enters Try.prog 98 := ⟨specGood_run (o_s_Order k) mixed (n_s_Order k) (d := k) [(.slice 35 yEvent), (.slice 42 yItem), (.slice 3 (.int .i64))] [(.slice 3 (.int .i64))] [true] (fun x => s_Order k x.1 x.2.1 x.2.2.1) (fun x => r_s_Order k x.1 x.2.1 x.2.2.1), (fi_98).2⟩
theorem o_s_Resolve (k : Nat) : Ok Try.prog (c_s_Resolve k) := ok_of (map0) (ptr0) (eq0) (tab1 (ty_3) (tab1 (ty_24) (tab1 (ty_33) (tab1 (ty_35) (tab1 (ty_68) (tab0)))))) (inl1 (fi_89) (inl0)) (spec1 (s_s_Put k) (spec1 (s_s_At k) (spec1 (s_s_l10Find k) (spec1 (s_s_Allowed k) (spec1 (s_s_KeyOf k) (spec1 (s_s_Agreed k) (spec1 (s_s_Clash k) (spec1 (s_s_Order k) (spec0))))))))) (mspec0)
theorem n_s_Resolve (k : Nat) : ∀ f fn, look (c_s_Resolve k).inl f = some fn → Try.prog.funcs[f]? = some fn := fun f fn h => (show InlL Try.prog (c_s_Resolve k).inl from inl1 (fi_89) (inl0)) f fn h |>.1
theorem s_s_Resolve (k : Nat) : SpecGood Try.prog 89 (sp_s_Resolve k) ∧ Enters Try.prog 89 := ⟨specGood_run (o_s_Resolve k) mixed (n_s_Resolve k) (d := k) [(.slice 35 yEvent), (.slice 24 (.slice 42 yItem))] [(.slice 42 yItem)] [true] (fun x => s_Resolve k x.1 x.2.1) (fun x => r_s_Resolve k x.1 x.2.1), (fi_89).2⟩
theorem o_s_l12Before (k : Nat) : Ok Try.prog (c_s_l12Before k) := ok_of (map0) (ptr0) (eq0) (tab1 (ty_3) (tab1 (ty_24) (tab1 (ty_32) (tab1 (ty_33) (tab1 (ty_68) (tab1 (ty_71) (tab0))))))) (inl1 (fi_76) (inl0)) (spec1 (s_s_l12Has k) (spec1 (s_s_Resolve k) (spec0))) (mspec0)
theorem n_s_l12Before (k : Nat) : ∀ f fn, look (c_s_l12Before k).inl f = some fn → Try.prog.funcs[f]? = some fn := fun f fn h => (show InlL Try.prog (c_s_l12Before k).inl from inl1 (fi_76) (inl0)) f fn h |>.1
theorem s_s_l12Before (k : Nat) : SpecGood Try.prog 76 (sp_s_l12Before k) ∧ Enters Try.prog 76 := ⟨specGood_run (o_s_l12Before k) mixed (n_s_l12Before k) (d := k) [yRoom, (.slice 3 (.int .i64))] [(.slice 42 yItem), .bool] [true] (fun x => s_l12Before k x.1 x.2.1) (fun x => r_s_l12Before k x.1 x.2.1), (fi_76).2⟩
theorem o_s_DepthOf (k : Nat) : Ok Try.prog (c_s_DepthOf k) := ok_of (map0) (ptr0) (eq0) (tab1 (ty_3) (tab1 (ty_32) (tab1 (ty_33) (tab1 (ty_35) (tab1 (ty_71) (tab0)))))) (inl1 (fi_79) (inl0)) (spec1 (s_s_l12Has k) (spec0)) (mspec0)
theorem n_s_DepthOf (k : Nat) : ∀ f fn, look (c_s_DepthOf k).inl f = some fn → Try.prog.funcs[f]? = some fn := fun f fn h => (show InlL Try.prog (c_s_DepthOf k).inl from inl1 (fi_79) (inl0)) f fn h |>.1
theorem s_s_DepthOf (k : Nat) : SpecGood Try.prog 79 (sp_s_DepthOf k) ∧ Enters Try.prog 79 := ⟨specGood_run (o_s_DepthOf k) mixed (n_s_DepthOf k) (d := k) [yRoom, (.slice 3 (.int .i64))] [(.int .i64)] [] (fun x => s_DepthOf k x.1 x.2.1) (fun x => r_s_DepthOf k x.1 x.2.1), (fi_79).2⟩
theorem o_s_l12Add (k : Nat) : Ok Try.prog (c_s_l12Add k) := ok_of (map0) (ptr0) (eq0) (tab1 (ty_3) (tab1 (ty_32) (tab1 (ty_33) (tab1 (ty_35) (tab1 (ty_68) (tab1 (ty_69) (tab1 (ty_71) (tab0)))))))) (inl1 (fi_57) (inl0)) (spec1 (s_s_Put k) (spec1 (s_s_l12Before k) (spec1 (s_s_EventOk k) (spec1 (s_s_l12Has k) (spec1 (s_s_DepthOf k) (spec1 (s_s_Allowed k) (spec1 (s_s_KeyOf k) (spec0)))))))) (mspec0)
theorem n_s_l12Add (k : Nat) : ∀ f fn, look (c_s_l12Add k).inl f = some fn → Try.prog.funcs[f]? = some fn := fun f fn h => (show InlL Try.prog (c_s_l12Add k).inl from inl1 (fi_57) (inl0)) f fn h |>.1
theorem s_s_l12Add (k : Nat) : SpecGood Try.prog 57 (sp_s_l12Add k) ∧ Enters Try.prog 57 := ⟨specGood_run (o_s_l12Add k) mixed (n_s_l12Add k) (d := k) [yRoom, yEvent] [yRoom, .bool] [true, true, true] (fun x => s_l12Add k x.1 x.2.1) (fun x => r_s_l12Add k x.1 x.2.1), (fi_57).2⟩
theorem o_s_l01Once (k : Nat) : Ok Try.prog (c_s_l01Once k) := ok_of (map0) (ptr0) (eq0) (tab0) (inl1 (fi_26) (inl0)) (spec0) (mspec1 (s_s_l01Below k) (mspec0))
theorem n_s_l01Once (k : Nat) : ∀ f fn, look (c_s_l01Once k).inl f = some fn → Try.prog.funcs[f]? = some fn := fun f fn h => (show InlL Try.prog (c_s_l01Once k).inl from inl1 (fi_26) (inl0)) f fn h |>.1
theorem s_s_l01Once (k : Nat) : MGood Try.prog 26 (sp_s_l01Once k) ∧ Enters Try.prog 26 := ⟨mgood_run (o_s_l01Once k) mixed (n_s_l01Once k) (d := k) [.box yL01Cur, .imm (.int .i64)] [.bool] [] (fun x => s_l01Once k x.1 x.2.1) (fun x => r_s_l01Once k x.1 x.2.1), (fi_26).2⟩
theorem o_s_l01PickInt (k : Nat) : Ok Try.prog (c_s_l01PickInt k) := ok_of (map0) (ptr0) (eq0) (tab1 (ty_3) (tab1 (ty_33) (tab0))) (inl1 (fi_46) (inl0)) (spec0) (mspec1 (s_s_l01Below k) (mspec0))
theorem n_s_l01PickInt (k : Nat) : ∀ f fn, look (c_s_l01PickInt k).inl f = some fn → Try.prog.funcs[f]? = some fn := fun f fn h => (show InlL Try.prog (c_s_l01PickInt k).inl from inl1 (fi_46) (inl0)) f fn h |>.1
theorem s_s_l01PickInt (k : Nat) : MGood Try.prog 46 (sp_s_l01PickInt k) ∧ Enters Try.prog 46 := ⟨mgood_run (o_s_l01PickInt k) mixed (n_s_l01PickInt k) (d := k) [.box yL01Cur, .imm (.slice 3 (.int .i64))] [(.int .i64)] [] (fun x => s_l01PickInt k x.1 x.2.1) (fun x => r_s_l01PickInt k x.1 x.2.1), (fi_46).2⟩
theorem o_s_l01Pick (k : Nat) : Ok Try.prog (c_s_l01Pick k) := ok_of (map0) (ptr0) (eq0) (tab1 (ty_9) (tab1 (ty_88) (tab0))) (inl1 (fi_61) (inl0)) (spec0) (mspec1 (s_s_l01Below k) (mspec0))
theorem n_s_l01Pick (k : Nat) : ∀ f fn, look (c_s_l01Pick k).inl f = some fn → Try.prog.funcs[f]? = some fn := fun f fn h => (show InlL Try.prog (c_s_l01Pick k).inl from inl1 (fi_61) (inl0)) f fn h |>.1
theorem s_s_l01Pick (k : Nat) : MGood Try.prog 61 (sp_s_l01Pick k) ∧ Enters Try.prog 61 := ⟨mgood_run (o_s_l01Pick k) mixed (n_s_l01Pick k) (d := k) [.box yL01Cur, .imm (.slice 9 .str)] [.str] [] (fun x => s_l01Pick k x.1 x.2.1) (fun x => r_s_l01Pick k x.1 x.2.1), (fi_61).2⟩
theorem o_s_l09Bodied (k : Nat) : Ok Try.prog (c_s_l09Bodied k) := ok_of (map0) (ptr0) (eq0) (tab1 (ty_3) (tab1 (ty_9) (tab1 (ty_33) (tab1 (ty_35) (tab1 (ty_88) (tab0)))))) (inl1 (fi_48) (inl0)) (spec0) (mspec1 (s_s_l01Once k) (mspec1 (s_s_l01Below k) (mspec1 (s_s_l01PickInt k) (mspec1 (s_s_l01Pick k) (mspec0)))))
theorem n_s_l09Bodied (k : Nat) : ∀ f fn, look (c_s_l09Bodied k).inl f = some fn → Try.prog.funcs[f]? = some fn := fun f fn h => (show InlL Try.prog (c_s_l09Bodied k).inl from inl1 (fi_48) (inl0)) f fn h |>.1
theorem s_s_l09Bodied (k : Nat) : MGood Try.prog 48 (sp_s_l09Bodied k) ∧ Enters Try.prog 48 := ⟨mgood_run (o_s_l09Bodied k) mixed (n_s_l09Bodied k) (d := k) [.box yL01Cur] [yEvent] [true, true] (fun x => s_l09Bodied k x.1) (fun x => r_s_l09Bodied k x.1), (fi_48).2⟩
theorem o_s_EndsOf (k : Nat) : Ok Try.prog (c_s_EndsOf k) := ok_of (map0) (ptr0) (eq0) (tab1 (ty_3) (tab1 (ty_32) (tab1 (ty_33) (tab1 (ty_35) (tab1 (ty_71) (tab0)))))) (inl1 (fi_82) (inl0)) (spec1 (s_s_l11Add k) (spec1 (s_s_l05In k) (spec0))) (mspec0)
theorem n_s_EndsOf (k : Nat) : ∀ f fn, look (c_s_EndsOf k).inl f = some fn → Try.prog.funcs[f]? = some fn := fun f fn h => (show InlL Try.prog (c_s_EndsOf k).inl from inl1 (fi_82) (inl0)) f fn h |>.1
theorem s_s_EndsOf (k : Nat) : SpecGood Try.prog 82 (sp_s_EndsOf k) ∧ Enters Try.prog 82 := ⟨specGood_run (o_s_EndsOf k) mixed (n_s_EndsOf k) (d := k) [yRoom] [(.slice 3 (.int .i64))] [true] (fun x => s_EndsOf k x.1) (fun x => r_s_EndsOf k x.1), (fi_82).2⟩
theorem o_s_l12Next (k : Nat) : Ok Try.prog (c_s_l12Next k) := ok_of (map0) (ptr0) (eq0) (tab1 (ty_3) (tab1 (ty_32) (tab1 (ty_33) (tab1 (ty_35) (tab1 (ty_71) (tab0)))))) (inl1 (fi_58) (inl0)) (spec1 (s_s_l12Before k) (spec1 (s_s_DepthOf k) (spec1 (s_s_Allowed k) (spec1 (s_s_EndsOf k) (spec0))))) (mspec1 (s_s_l01Once k) (mspec1 (s_s_l01Below k) (mspec1 (s_s_l09Bodied k) (mspec0))))
theorem n_s_l12Next (k : Nat) : ∀ f fn, look (c_s_l12Next k).inl f = some fn → Try.prog.funcs[f]? = some fn := fun f fn h => (show InlL Try.prog (c_s_l12Next k).inl from inl1 (fi_58) (inl0)) f fn h |>.1
theorem s_s_l12Next (k : Nat) : MGood Try.prog 58 (sp_s_l12Next k) ∧ Enters Try.prog 58 := ⟨mgood_run (o_s_l12Next k) mixed (n_s_l12Next k) (d := k) [.box yL01Cur, .imm yRoom, .imm (.int .i64)] [yEvent] [true, true] (fun x => s_l12Next k x.1 x.2.1 x.2.2.1) (fun x => r_s_l12Next k x.1 x.2.1 x.2.2.1), (fi_58).2⟩
theorem o_s_l09Copy (k : Nat) : Ok Try.prog (c_s_l09Copy k) := ok_of (map0) (ptr0) (eq0) (tab1 (ty_33) (tab1 (ty_35) (tab0))) (inl1 (fi_60) (inl0)) (spec0) (mspec0)
theorem n_s_l09Copy (k : Nat) : ∀ f fn, look (c_s_l09Copy k).inl f = some fn → Try.prog.funcs[f]? = some fn := fun f fn h => (show InlL Try.prog (c_s_l09Copy k).inl from inl1 (fi_60) (inl0)) f fn h |>.1
theorem s_s_l09Copy (k : Nat) : SpecGood Try.prog 60 (sp_s_l09Copy k) ∧ Enters Try.prog 60 := ⟨specGood_run (o_s_l09Copy k) mixed (n_s_l09Copy k) (d := k) [yEvent] [yEvent] [true, true] (fun x => s_l09Copy k x.1) (fun x => r_s_l09Copy k x.1), (fi_60).2⟩
theorem o_s_l09CopyList (k : Nat) : Ok Try.prog (c_s_l09CopyList k) := ok_of (map0) (ptr0) (eq0) (tab1 (ty_32) (tab1 (ty_35) (tab0))) (inl1 (fi_45) (inl0)) (spec1 (s_s_l09Copy k) (spec0)) (mspec0)
theorem n_s_l09CopyList (k : Nat) : ∀ f fn, look (c_s_l09CopyList k).inl f = some fn → Try.prog.funcs[f]? = some fn := fun f fn h => (show InlL Try.prog (c_s_l09CopyList k).inl from inl1 (fi_45) (inl0)) f fn h |>.1
theorem s_s_l09CopyList (k : Nat) : SpecGood Try.prog 45 (sp_s_l09CopyList k) ∧ Enters Try.prog 45 := ⟨specGood_run (o_s_l09CopyList k) mixed (n_s_l09CopyList k) (d := k) [(.slice 35 yEvent)] [(.slice 35 yEvent)] [true] (fun x => s_l09CopyList k x.1) (fun x => r_s_l09CopyList k x.1), (fi_45).2⟩
theorem o_s_l12Copy (k : Nat) : Ok Try.prog (c_s_l12Copy k) := ok_of (map0) (ptr0) (eq0) (tab1 (ty_24) (tab1 (ty_32) (tab1 (ty_68) (tab1 (ty_69) (tab1 (ty_71) (tab0)))))) (inl1 (fi_59) (inl0)) (spec1 (s_s_l09CopyList k) (spec0)) (mspec0)
theorem n_s_l12Copy (k : Nat) : ∀ f fn, look (c_s_l12Copy k).inl f = some fn → Try.prog.funcs[f]? = some fn := fun f fn h => (show InlL Try.prog (c_s_l12Copy k).inl from inl1 (fi_59) (inl0)) f fn h |>.1
theorem s_s_l12Copy (k : Nat) : SpecGood Try.prog 59 (sp_s_l12Copy k) ∧ Enters Try.prog 59 := ⟨specGood_run (o_s_l12Copy k) mixed (n_s_l12Copy k) (d := k) [yRoom] [yRoom] [true, true, true] (fun x => s_l12Copy k x.1) (fun x => r_s_l12Copy k x.1), (fi_59).2⟩
theorem o_s_l12Room (k : Nat) : Ok Try.prog (c_s_l12Room k) := ok_of (map0) (ptr0) (eq0) (tab1 (ty_71) (tab0)) (inl1 (fi_44) (inl0)) (spec1 (s_s_l12Size k) (spec1 (s_s_l12Add k) (spec1 (s_s_l12Copy k) (spec0)))) (mspec1 (s_s_l12Next k) (mspec0))
theorem n_s_l12Room (k : Nat) : ∀ f fn, look (c_s_l12Room k).inl f = some fn → Try.prog.funcs[f]? = some fn := fun f fn h => (show InlL Try.prog (c_s_l12Room k).inl from inl1 (fi_44) (inl0)) f fn h |>.1
theorem s_s_l12Room (k : Nat) : MGood Try.prog 44 (sp_s_l12Room k) ∧ Enters Try.prog 44 := ⟨mgood_run (o_s_l12Room k) mixed (n_s_l12Room k) (d := k) [.box yL01Cur, .imm (.slice 5 (.int .u8))] [yRoom] [true, true, true] (fun x => s_l12Room k x.1 x.2.1) (fun x => r_s_l12Room k x.1 x.2.1), (fi_44).2⟩
theorem o_s_l10Pair (k : Nat) : Ok Try.prog (c_s_l10Pair k) := ok_of (map0) (ptr0) (eq0) (tab1 (ty_3) (tab1 (ty_24) (tab1 (ty_32) (tab1 (ty_33) (tab1 (ty_42) (tab1 (ty_68) (tab1 (ty_71) (tab0)))))))) (inl1 (fi_25) (inl0)) (spec1 (s_s_l09CopyList k) (spec0)) (mspec1 (s_s_l01Below k) (mspec1 (s_s_l12Room k) (mspec1 (s_s_l01PickInt k) (mspec0))))
theorem n_s_l10Pair (k : Nat) : ∀ f fn, look (c_s_l10Pair k).inl f = some fn → Try.prog.funcs[f]? = some fn := fun f fn h => (show InlL Try.prog (c_s_l10Pair k).inl from inl1 (fi_25) (inl0)) f fn h |>.1
theorem s_s_l10Pair (k : Nat) : MGood Try.prog 25 (sp_s_l10Pair k) ∧ Enters Try.prog 25 := ⟨mgood_run (o_s_l10Pair k) mixed (n_s_l10Pair k) (d := k) [.box yL01Cur, .imm (.slice 5 (.int .u8))] [(.slice 35 yEvent), (.slice 42 yItem)] [true, true] (fun x => s_l10Pair k x.1 x.2.1) (fun x => r_s_l10Pair k x.1 x.2.1), (fi_25).2⟩
theorem o_s_l01Long (k : Nat) : Ok Try.prog (c_s_l01Long k) := ok_of (map0) (ptr0) (eq0) (tab1 (ty_5) (tab1 (ty_9) (tab1 (ty_30) (tab0)))) (inl1 (fi_62) (inl0)) (spec0) (mspec0)
theorem n_s_l01Long (k : Nat) : ∀ f fn, look (c_s_l01Long k).inl f = some fn → Try.prog.funcs[f]? = some fn := fun f fn h => (show InlL Try.prog (c_s_l01Long k).inl from inl1 (fi_62) (inl0)) f fn h |>.1
theorem s_s_l01Long (k : Nat) : SpecGood Try.prog 62 (sp_s_l01Long k) ∧ Enters Try.prog 62 := ⟨specGood_run (o_s_l01Long k) mixed (n_s_l01Long k) (d := k) [(.int .i64), (.int .u8)] [.str] [] (fun x => s_l01Long k x.1 x.2.1) (fun x => r_s_l01Long k x.1 x.2.1), (fi_62).2⟩
theorem o_s_l09Any (k : Nat) : Ok Try.prog (c_s_l09Any k) := ok_of (map0) (ptr0) (eq0) (tab1 (ty_3) (tab1 (ty_9) (tab1 (ty_33) (tab1 (ty_35) (tab0))))) (inl1 (fi_49) (inl0)) (spec1 (s_s_l01Long k) (spec0)) (mspec1 (s_s_l01Below k) (mspec1 (s_s_l01PickInt k) (mspec1 (s_s_l09Bodied k) (mspec0))))
theorem n_s_l09Any (k : Nat) : ∀ f fn, look (c_s_l09Any k).inl f = some fn → Try.prog.funcs[f]? = some fn := fun f fn h => (show InlL Try.prog (c_s_l09Any k).inl from inl1 (fi_49) (inl0)) f fn h |>.1
theorem s_s_l09Any (k : Nat) : MGood Try.prog 49 (sp_s_l09Any k) ∧ Enters Try.prog 49 := ⟨mgood_run (o_s_l09Any k) mixed (n_s_l09Any k) (d := k) [.box yL01Cur] [yEvent] [true, true] (fun x => s_l09Any k x.1) (fun x => r_s_l09Any k x.1), (fi_49).2⟩
theorem o_s_l10Next (k : Nat) : Ok Try.prog (c_s_l10Next k) := ok_of (map0) (ptr0) (eq0) (tab1 (ty_3) (tab1 (ty_32) (tab1 (ty_33) (tab1 (ty_35) (tab0))))) (inl1 (fi_28) (inl0)) (spec0) (mspec1 (s_s_l01Once k) (mspec1 (s_s_l01Below k) (mspec1 (s_s_l09Bodied k) (mspec1 (s_s_l09Any k) (mspec0)))))
theorem n_s_l10Next (k : Nat) : ∀ f fn, look (c_s_l10Next k).inl f = some fn → Try.prog.funcs[f]? = some fn := fun f fn h => (show InlL Try.prog (c_s_l10Next k).inl from inl1 (fi_28) (inl0)) f fn h |>.1
theorem s_s_l10Next (k : Nat) : MGood Try.prog 28 (sp_s_l10Next k) ∧ Enters Try.prog 28 := ⟨mgood_run (o_s_l10Next k) mixed (n_s_l10Next k) (d := k) [.box yL01Cur, .imm (.slice 35 yEvent)] [yEvent] [true, true] (fun x => s_l10Next k x.1 x.2.1) (fun x => r_s_l10Next k x.1 x.2.1), (fi_28).2⟩
theorem o_s_DrawHeavier (k : Nat) : Ok Try.prog (c_s_DrawHeavier k) := ok_of (map0) (ptr0) (eq0) (tab1 (ty_3) (tab1 (ty_5) (tab1 (ty_30) (tab1 (ty_32) (tab1 (ty_35) (tab1 (ty_67) (tab0))))))) (inl1 (fi_13) (inl1 (fi_24) (inl0))) (spec0) (mspec1 (s_s_l10Pair k) (mspec1 (s_s_l01Once k) (mspec1 (s_s_l01Below k) (mspec1 (s_s_l10Next k) (mspec0)))))
theorem n_s_DrawHeavier (k : Nat) : ∀ f fn, look (c_s_DrawHeavier k).inl f = some fn → Try.prog.funcs[f]? = some fn := fun f fn h => (show InlL Try.prog (c_s_DrawHeavier k).inl from inl1 (fi_13) (inl1 (fi_24) (inl0))) f fn h |>.1
theorem s_s_DrawHeavier (k : Nat) : SpecGood Try.prog 13 (sp_s_DrawHeavier k) ∧ Enters Try.prog 13 := ⟨specGood_run (o_s_DrawHeavier k) mixed (n_s_DrawHeavier k) (d := k) [(.slice 5 (.int .u8))] [(.slice 35 yEvent), (.slice 42 yItem), yEvent, yEvent] [false, true, false, false, false, false] (fun x => s_DrawHeavier k x.1) (fun x => r_s_DrawHeavier k x.1), (fi_13).2⟩
theorem o_i_isHeavy (k : Nat) : Ok Try.prog (c_i_isHeavy k) := ok_of (map0) (ptr0) (eq0) (tab1 (ty_3) (tab1 (ty_35) (tab0))) (inl1 (fi_29) (inl0)) (spec0) (mspec0)
theorem n_i_isHeavy (k : Nat) : ∀ f fn, look (c_i_isHeavy k).inl f = some fn → Try.prog.funcs[f]? = some fn := fun f fn h => (show InlL Try.prog (c_i_isHeavy k).inl from inl1 (fi_29) (inl0)) f fn h |>.1
theorem s_i_isHeavy (k : Nat) : SpecGood Try.prog 29 (sp_i_isHeavy k) ∧ Enters Try.prog 29 := ⟨specGood_run (o_i_isHeavy k) mixed (n_i_isHeavy k) (d := k) [yEvent] [.bool] [] (fun x => i_isHeavy k x.1) (fun x => r_i_isHeavy k x.1), (fi_29).2⟩
theorem o_i_within (k : Nat) : Ok Try.prog (c_i_within k) := ok_of (map0) (ptr0) (eq0) (tab0) (inl1 (fi_33) (inl0)) (spec0) (mspec0)
theorem n_i_within (k : Nat) : ∀ f fn, look (c_i_within k).inl f = some fn → Try.prog.funcs[f]? = some fn := fun f fn h => (show InlL Try.prog (c_i_within k).inl from inl1 (fi_33) (inl0)) f fn h |>.1
theorem s_i_within (k : Nat) : SpecGood Try.prog 33 (sp_i_within k) ∧ Enters Try.prog 33 := ⟨specGood_run (o_i_within k) mixed (n_i_within k) (d := k) [(.int .i64), (.int .i64), (.int .i64)] [.bool] [] (fun x => i_within k x.1 x.2.1 x.2.2.1) (fun x => r_i_within k x.1 x.2.1 x.2.2.1), (fi_33).2⟩
theorem o_i_At (k : Nat) : Ok Try.prog (c_i_At k) := ok_of (map0) (ptr0) (eq0) (tab1 (ty_3) (tab1 (ty_24) (tab1 (ty_42) (tab0)))) (inl1 (fi_51) (inl0)) (spec0) (mspec0)
theorem n_i_At (k : Nat) : ∀ f fn, look (c_i_At k).inl f = some fn → Try.prog.funcs[f]? = some fn := fun f fn h => (show InlL Try.prog (c_i_At k).inl from inl1 (fi_51) (inl0)) f fn h |>.1
theorem s_i_At (k : Nat) : SpecGood Try.prog 51 (sp_i_At k) ∧ Enters Try.prog 51 := ⟨specGood_run (o_i_At k) mixed (n_i_At k) (d := k) [(.slice 42 yItem), (.int .i64)] [(.int .i64)] [] (fun x => i_At k x.1 x.2.1) (fun x => r_i_At k x.1 x.2.1), (fi_51).2⟩
theorem o_i_copyEvent (k : Nat) : Ok Try.prog (c_i_copyEvent k) := ok_of (map0) (ptr0) (eq0) (tab1 (ty_33) (tab1 (ty_35) (tab0))) (inl1 (fi_63) (inl0)) (spec0) (mspec0)
theorem n_i_copyEvent (k : Nat) : ∀ f fn, look (c_i_copyEvent k).inl f = some fn → Try.prog.funcs[f]? = some fn := fun f fn h => (show InlL Try.prog (c_i_copyEvent k).inl from inl1 (fi_63) (inl0)) f fn h |>.1
theorem s_i_copyEvent (k : Nat) : SpecGood Try.prog 63 (sp_i_copyEvent k) ∧ Enters Try.prog 63 := ⟨specGood_run (o_i_copyEvent k) mixed (n_i_copyEvent k) (d := k) [yEvent] [yEvent] [true, true] (fun x => i_copyEvent k x.1) (fun x => r_i_copyEvent k x.1), (fi_63).2⟩
theorem o_i_Known (k : Nat) : Ok Try.prog (c_i_Known k) := ok_of (map0) (ptr0) (eq0) (tab1 (ty_3) (tab1 (ty_32) (tab1 (ty_35) (tab0)))) (inl1 (fi_52) (inl0)) (spec1 (s_i_copyEvent k) (spec0)) (mspec0)
theorem n_i_Known (k : Nat) : ∀ f fn, look (c_i_Known k).inl f = some fn → Try.prog.funcs[f]? = some fn := fun f fn h => (show InlL Try.prog (c_i_Known k).inl from inl1 (fi_52) (inl0)) f fn h |>.1
theorem s_i_Known (k : Nat) : SpecGood Try.prog 52 (sp_i_Known k) ∧ Enters Try.prog 52 := ⟨specGood_run (o_i_Known k) mixed (n_i_Known k) (d := k) [(.slice 35 yEvent), (.int .i64)] [yEvent, .bool] [true, true] (fun x => i_Known k x.1 x.2.1) (fun x => r_i_Known k x.1 x.2.1), (fi_52).2⟩
theorem o_i_tells (k : Nat) : Ok Try.prog (c_i_tells k) := ok_of (map0) (ptr0) (eq0) (tab1 (ty_35) (tab0)) (inl1 (fi_34) (inl0)) (spec1 (s_i_At k) (spec1 (s_i_Known k) (spec0))) (mspec0)
theorem n_i_tells (k : Nat) : ∀ f fn, look (c_i_tells k).inl f = some fn → Try.prog.funcs[f]? = some fn := fun f fn h => (show InlL Try.prog (c_i_tells k).inl from inl1 (fi_34) (inl0)) f fn h |>.1
theorem s_i_tells (k : Nat) : SpecGood Try.prog 34 (sp_i_tells k) ∧ Enters Try.prog 34 := ⟨specGood_run (o_i_tells k) mixed (n_i_tells k) (d := k) [(.slice 35 yEvent), (.slice 42 yItem), (.int .i64)] [yEvent, .bool] [true, true] (fun x => i_tells k x.1 x.2.1 x.2.2.1) (fun x => r_i_tells k x.1 x.2.1 x.2.2.1), (fi_34).2⟩
theorem o_i_created (k : Nat) : Ok Try.prog (c_i_created k) := ok_of (map0) (ptr0) (eq0) (tab1 (ty_3) (tab1 (ty_35) (tab0))) (inl1 (fi_50) (inl0)) (spec1 (s_i_tells k) (spec0)) (mspec0)
theorem n_i_created (k : Nat) : ∀ f fn, look (c_i_created k).inl f = some fn → Try.prog.funcs[f]? = some fn := fun f fn h => (show InlL Try.prog (c_i_created k).inl from inl1 (fi_50) (inl0)) f fn h |>.1
theorem s_i_created (k : Nat) : SpecGood Try.prog 50 (sp_i_created k) ∧ Enters Try.prog 50 := ⟨specGood_run (o_i_created k) mixed (n_i_created k) (d := k) [(.slice 35 yEvent), (.slice 42 yItem), (.int .i64)] [.bool] [] (fun x => i_created k x.1 x.2.1 x.2.2.1) (fun x => r_i_created k x.1 x.2.1 x.2.2.1), (fi_50).2⟩
theorem o_i_LevelOf (k : Nat) : Ok Try.prog (c_i_LevelOf k) := ok_of (map0) (ptr0) (eq0) (tab1 (ty_3) (tab1 (ty_33) (tab1 (ty_35) (tab0)))) (inl1 (fi_30) (inl0)) (spec1 (s_i_within k) (spec1 (s_i_tells k) (spec1 (s_i_created k) (spec0)))) (mspec0)
theorem n_i_LevelOf (k : Nat) : ∀ f fn, look (c_i_LevelOf k).inl f = some fn → Try.prog.funcs[f]? = some fn := fun f fn h => (show InlL Try.prog (c_i_LevelOf k).inl from inl1 (fi_30) (inl0)) f fn h |>.1
theorem s_i_LevelOf (k : Nat) : SpecGood Try.prog 30 (sp_i_LevelOf k) ∧ Enters Try.prog 30 := ⟨specGood_run (o_i_LevelOf k) mixed (n_i_LevelOf k) (d := k) [(.slice 35 yEvent), (.slice 42 yItem), (.int .i64)] [(.int .i64)] [] (fun x => i_LevelOf k x.1 x.2.1 x.2.2.1) (fun x => r_i_LevelOf k x.1 x.2.1 x.2.2.1), (fi_30).2⟩
theorem o_i_Heavier (k : Nat) : Ok Try.prog (c_i_Heavier k) := ok_of (map0) (ptr0) (eq0) (tab1 (ty_3) (tab1 (ty_4) (tab1 (ty_35) (tab0)))) (inl1 (fi_14) (inl0)) (spec1 (s_i_isHeavy k) (spec1 (s_i_LevelOf k) (spec0))) (mspec0)
theorem n_i_Heavier (k : Nat) : ∀ f fn, look (c_i_Heavier k).inl f = some fn → Try.prog.funcs[f]? = some fn := fun f fn h => (show InlL Try.prog (c_i_Heavier k).inl from inl1 (fi_14) (inl0)) f fn h |>.1
theorem s_i_Heavier (k : Nat) : SpecGood Try.prog 14 (sp_i_Heavier k) ∧ Enters Try.prog 14 := ⟨specGood_run (o_i_Heavier k) mixed (n_i_Heavier k) (d := k) [(.slice 35 yEvent), (.slice 42 yItem), yEvent, yEvent] [.bool] [] (fun x => i_Heavier k x.1 x.2.1 x.2.2.1 x.2.2.2.1) (fun x => r_i_Heavier k x.1 x.2.1 x.2.2.1 x.2.2.2.1), (fi_14).2⟩
theorem s_slices_Sort_int_int (k : Nat) : MGood Try.prog 35 (sp_slices_Sort_int_int k) ∧ Enters Try.prog 35 := ⟨sort_mgood Try.sortL 3, (fi_35).2⟩
theorem o_i_AuthOf (k : Nat) : Ok Try.prog (c_i_AuthOf k) := ok_of (map0) (ptr0) (eq0) (tab1 (ty_3) (tab1 (ty_33) (tab1 (ty_35) (tab0)))) (inl1 (fi_16) (inl1 (fi_36) (inl0))) (spec1 (s_i_within k) (spec1 (s_i_tells k) (spec0))) (mspec1 (s_slices_Sort_int_int k) (mspec0))
theorem n_i_AuthOf (k : Nat) : ∀ f fn, look (c_i_AuthOf k).inl f = some fn → Try.prog.funcs[f]? = some fn := fun f fn h => (show InlL Try.prog (c_i_AuthOf k).inl from inl1 (fi_16) (inl1 (fi_36) (inl0))) f fn h |>.1
theorem s_i_AuthOf (k : Nat) : SpecGood Try.prog 16 (sp_i_AuthOf k) ∧ Enters Try.prog 16 := ⟨specGood_run (o_i_AuthOf k) mixed (n_i_AuthOf k) (d := k) [(.slice 35 yEvent), (.slice 42 yItem), yEvent] [(.slice 3 (.int .i64))] [true] (fun x => i_AuthOf k x.1 x.2.1 x.2.2.1) (fun x => r_i_AuthOf k x.1 x.2.1 x.2.2.1), (fi_16).2⟩
theorem o_l_sameInts (k : Nat) : Ok Try.prog (c_l_sameInts k) := ok_of (map0) (ptr0) (eq0) (tab1 (ty_3) (tab1 (ty_33) (tab0))) (inl1 (fi_17) (inl0)) (spec0) (mspec0)
theorem n_l_sameInts (k : Nat) : ∀ f fn, look (c_l_sameInts k).inl f = some fn → Try.prog.funcs[f]? = some fn := fun f fn h => (show InlL Try.prog (c_l_sameInts k).inl from inl1 (fi_17) (inl0)) f fn h |>.1
theorem s_l_sameInts (k : Nat) : SpecGood Try.prog 17 (sp_l_sameInts k) ∧ Enters Try.prog 17 := ⟨specGood_run (o_l_sameInts k) mixed (n_l_sameInts k) (d := k) [(.slice 3 (.int .i64)), (.slice 3 (.int .i64))] [.bool] [] (fun x => l_sameInts k x.1 x.2.1) (fun x => r_l_sameInts k x.1 x.2.1), (fi_17).2⟩
theorem o_s_AuthOf (k : Nat) : Ok Try.prog (c_s_AuthOf k) := ok_of (map0) (ptr0) (eq0) (tab1 (ty_3) (tab1 (ty_33) (tab1 (ty_35) (tab0)))) (inl1 (fi_18) (inl0)) (spec1 (s_s_l01In k) (spec1 (s_s_At k) (spec1 (s_s_l10Find k) (spec1 (s_s_l11Add k) (spec0))))) (mspec0)
theorem n_s_AuthOf (k : Nat) : ∀ f fn, look (c_s_AuthOf k).inl f = some fn → Try.prog.funcs[f]? = some fn := fun f fn h => (show InlL Try.prog (c_s_AuthOf k).inl from inl1 (fi_18) (inl0)) f fn h |>.1
theorem s_s_AuthOf (k : Nat) : SpecGood Try.prog 18 (sp_s_AuthOf k) ∧ Enters Try.prog 18 := ⟨specGood_run (o_s_AuthOf k) mixed (n_s_AuthOf k) (d := k) [(.slice 35 yEvent), (.slice 42 yItem), yEvent] [(.slice 3 (.int .i64))] [true] (fun x => s_AuthOf k x.1 x.2.1 x.2.2.1) (fun x => r_s_AuthOf k x.1 x.2.1 x.2.2.1), (fi_18).2⟩
theorem o_l_FnHeavier (k : Nat) : Ok Try.prog (c_l_FnHeavier k) := ok_of (map0) (ptr0) (eq0) (tab1 (ty_3) (tab1 (ty_4) (tab1 (ty_24) (tab1 (ty_33) (tab1 (ty_35) (tab1 (ty_42) (tab0))))))) (inl1 (fi_4) (inl0)) (spec1 (s_l_big k) (spec1 (s_s_DrawHeavier k) (spec1 (s_i_Heavier k) (spec1 (s_s_Heavier k) (spec1 (s_i_AuthOf k) (spec1 (s_l_sameInts k) (spec1 (s_s_AuthOf k) (spec0)))))))) (mspec0)
theorem n_l_FnHeavier (k : Nat) : ∀ f fn, look (c_l_FnHeavier k).inl f = some fn → Try.prog.funcs[f]? = some fn := fun f fn h => (show InlL Try.prog (c_l_FnHeavier k).inl from inl1 (fi_4) (inl0)) f fn h |>.1
theorem s_l_FnHeavier (k : Nat) : SpecGood Try.prog 4 (sp_l_FnHeavier k) ∧ Enters Try.prog 4 := ⟨specGood_run (o_l_FnHeavier k) mixed (n_l_FnHeavier k) (d := k) [(.slice 5 (.int .u8))] [.bool] [] (fun x => l_FnHeavier k x.1) (fun x => r_l_FnHeavier k x.1), (fi_4).2⟩
end Go.Vm
