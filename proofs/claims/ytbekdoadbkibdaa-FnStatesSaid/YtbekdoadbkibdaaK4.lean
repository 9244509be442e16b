/- The functions keep their specifications. -/
import Derived.Test.YtbekdoadbkibdaaH4
import Derived.Test.YtbekdoadbkibdaaChecked
import Derived.Test.YtbekdoadbkibdaaIns
set_option linter.unusedVariables false
namespace Go.Vm
open Go Go.Proofs
theorem mixed : Try.prog.follows .mixedOrders = true := Try.checked.mixed
theorem ty_3 : TyOk Try.prog (.int .i64) 3 := tyB_sound _ _ _ [] (by kernel_rfl)
theorem ty_4 : TyOk Try.prog .bool 4 := tyB_sound _ _ _ [] (by kernel_rfl)
theorem ty_5 : TyOk Try.prog (.int .u8) 5 := tyB_sound _ _ _ [] (by kernel_rfl)
theorem ty_9 : TyOk Try.prog .str 9 := tyB_sound _ _ _ [] (by kernel_rfl)
theorem ty_22 : TyOk Try.prog (.slice 5 (.int .u8)) 22 := tyB_sound _ _ _ [] (by kernel_rfl)
theorem ty_24 : TyOk Try.prog (.slice 34 yEvent) 24 := tyB_sound _ _ _ [] (by kernel_rfl)
theorem ty_25 : TyOk Try.prog (.slice 30 (.slice 52 yItem)) 25 := tyB_sound _ _ _ [] (by kernel_rfl)
theorem ty_26 : TyOk Try.prog (.slice 4 .bool) 26 := tyB_sound _ _ _ [] (by kernel_rfl)
theorem ty_28 : TyOk Try.prog yRoom 28 := tyB_sound _ _ _ [] (by kernel_rfl)
theorem ty_30 : TyOk Try.prog (.slice 52 yItem) 30 := tyB_sound _ _ _ [] (by kernel_rfl)
theorem ty_32 : TyOk Try.prog (.slice 3 (.int .i64)) 32 := tyB_sound _ _ _ [] (by kernel_rfl)
theorem ty_34 : TyOk Try.prog yEvent 34 := tyB_sound _ _ _ [] (by kernel_rfl)
theorem ty_52 : TyOk Try.prog yItem 52 := tyB_sound _ _ _ [] (by kernel_rfl)
theorem ty_66 : TyOk Try.prog (.slice 32 (.slice 3 (.int .i64))) 66 := tyB_sound _ _ _ [] (by kernel_rfl)
theorem ty_83 : TyOk Try.prog yL01Cur 83 := tyB_sound _ _ _ [] (by kernel_rfl)
theorem ty_100 : TyOk Try.prog (.slice 9 .str) 100 := tyB_sound _ _ _ [] (by kernel_rfl)
theorem eqt_52 : Try.prog.stoodInHeld 52 = false ∧ Try.prog.eqGuardType Try.prog.depth 52 = false := ⟨by kernel_rfl, by kernel_rfl⟩
theorem fi_7 : Try.prog.funcs[7]? = some Try.f7 ∧ Enters Try.prog 7 := ⟨Try.func7, enters_of Try.func7 (by kernel_rfl) rfl⟩
theorem fi_8 : Try.prog.funcs[8]? = some Try.f8 ∧ Enters Try.prog 8 := ⟨Try.func8, enters_of Try.func8 (by kernel_rfl) rfl⟩
theorem fi_13 : Try.prog.funcs[13]? = some Try.f13 ∧ Enters Try.prog 13 := ⟨Try.func13, enters_of Try.func13 (by kernel_rfl) rfl⟩
theorem fi_20 : Try.prog.funcs[20]? = some Try.f20 ∧ Enters Try.prog 20 := ⟨Try.func20, enters_of Try.func20 (by kernel_rfl) rfl⟩
theorem fi_23 : Try.prog.funcs[23]? = some Try.f23 ∧ Enters Try.prog 23 := ⟨Try.func23, enters_of Try.func23 (by kernel_rfl) rfl⟩
theorem fi_24 : Try.prog.funcs[24]? = some Try.f24 ∧ Enters Try.prog 24 := ⟨Try.func24, enters_of Try.func24 (by kernel_rfl) rfl⟩
theorem fi_25 : Try.prog.funcs[25]? = some Try.f25 ∧ Enters Try.prog 25 := ⟨Try.func25, enters_of Try.func25 (by kernel_rfl) rfl⟩
theorem fi_26 : Try.prog.funcs[26]? = some Try.f26 ∧ Enters Try.prog 26 := ⟨Try.func26, enters_of Try.func26 (by kernel_rfl) rfl⟩
theorem fi_27 : Try.prog.funcs[27]? = some Try.f27 ∧ Enters Try.prog 27 := ⟨Try.func27, enters_of Try.func27 (by kernel_rfl) rfl⟩
theorem fi_28 : Try.prog.funcs[28]? = some Try.f28 ∧ Enters Try.prog 28 := ⟨Try.func28, enters_of Try.func28 (by kernel_rfl) rfl⟩
theorem fi_29 : Try.prog.funcs[29]? = some Try.f29 ∧ Enters Try.prog 29 := ⟨Try.func29, enters_of Try.func29 (by kernel_rfl) rfl⟩
theorem fi_30 : Try.prog.funcs[30]? = some Try.f30 ∧ Enters Try.prog 30 := ⟨Try.func30, enters_of Try.func30 (by kernel_rfl) rfl⟩
theorem fi_31 : Try.prog.funcs[31]? = some Try.f31 ∧ Enters Try.prog 31 := ⟨Try.func31, enters_of Try.func31 (by kernel_rfl) rfl⟩
theorem fi_32 : Try.prog.funcs[32]? = some Try.f32 ∧ Enters Try.prog 32 := ⟨Try.func32, enters_of Try.func32 (by kernel_rfl) rfl⟩
theorem fi_33 : Try.prog.funcs[33]? = some Try.f33 ∧ Enters Try.prog 33 := ⟨Try.func33, enters_of Try.func33 (by kernel_rfl) rfl⟩
theorem fi_34 : Try.prog.funcs[34]? = some Try.f34 ∧ Enters Try.prog 34 := ⟨Try.func34, enters_of Try.func34 (by kernel_rfl) rfl⟩
theorem fi_42 : Try.prog.funcs[42]? = some Try.f42 ∧ Enters Try.prog 42 := ⟨Try.func42, enters_of Try.func42 (by kernel_rfl) rfl⟩
theorem fi_43 : Try.prog.funcs[43]? = some Try.f43 ∧ Enters Try.prog 43 := ⟨Try.func43, enters_of Try.func43 (by kernel_rfl) rfl⟩
theorem fi_44 : Try.prog.funcs[44]? = some Try.f44 ∧ Enters Try.prog 44 := ⟨Try.func44, enters_of Try.func44 (by kernel_rfl) rfl⟩
theorem fi_45 : Try.prog.funcs[45]? = some Try.f45 ∧ Enters Try.prog 45 := ⟨Try.func45, enters_of Try.func45 (by kernel_rfl) rfl⟩
theorem fi_46 : Try.prog.funcs[46]? = some Try.f46 ∧ Enters Try.prog 46 := ⟨Try.func46, enters_of Try.func46 (by kernel_rfl) rfl⟩
theorem fi_47 : Try.prog.funcs[47]? = some Try.f47 ∧ Enters Try.prog 47 := ⟨Try.func47, enters_of Try.func47 (by kernel_rfl) rfl⟩
theorem fi_48 : Try.prog.funcs[48]? = some Try.f48 ∧ Enters Try.prog 48 := ⟨Try.func48, enters_of Try.func48 (by kernel_rfl) rfl⟩
theorem fi_50 : Try.prog.funcs[50]? = some Try.f50 ∧ Enters Try.prog 50 := ⟨Try.func50, enters_of Try.func50 (by kernel_rfl) rfl⟩
theorem fi_55 : Try.prog.funcs[55]? = some Try.f55 ∧ Enters Try.prog 55 := ⟨Try.func55, enters_of Try.func55 (by kernel_rfl) rfl⟩
theorem fi_56 : Try.prog.funcs[56]? = some Try.f56 ∧ Enters Try.prog 56 := ⟨Try.func56, enters_of Try.func56 (by kernel_rfl) rfl⟩
theorem fi_57 : Try.prog.funcs[57]? = some Try.f57 ∧ Enters Try.prog 57 := ⟨Try.func57, enters_of Try.func57 (by kernel_rfl) rfl⟩
theorem fi_58 : Try.prog.funcs[58]? = some Try.f58 ∧ Enters Try.prog 58 := ⟨Try.func58, enters_of Try.func58 (by kernel_rfl) rfl⟩
theorem fi_59 : Try.prog.funcs[59]? = some Try.f59 ∧ Enters Try.prog 59 := ⟨Try.func59, enters_of Try.func59 (by kernel_rfl) rfl⟩
theorem fi_60 : Try.prog.funcs[60]? = some Try.f60 ∧ Enters Try.prog 60 := ⟨Try.func60, enters_of Try.func60 (by kernel_rfl) rfl⟩
theorem fi_62 : Try.prog.funcs[62]? = some Try.f62 ∧ Enters Try.prog 62 := ⟨Try.func62, enters_of Try.func62 (by kernel_rfl) rfl⟩
theorem fi_63 : Try.prog.funcs[63]? = some Try.f63 ∧ Enters Try.prog 63 := ⟨Try.func63, enters_of Try.func63 (by kernel_rfl) rfl⟩
theorem fi_64 : Try.prog.funcs[64]? = some Try.f64 ∧ Enters Try.prog 64 := ⟨Try.func64, enters_of Try.func64 (by kernel_rfl) rfl⟩
theorem fi_65 : Try.prog.funcs[65]? = some Try.f65 ∧ Enters Try.prog 65 := ⟨Try.func65, enters_of Try.func65 (by kernel_rfl) rfl⟩
theorem fi_66 : Try.prog.funcs[66]? = some Try.f66 ∧ Enters Try.prog 66 := ⟨Try.func66, enters_of Try.func66 (by kernel_rfl) rfl⟩
theorem fi_67 : Try.prog.funcs[67]? = some Try.f67 ∧ Enters Try.prog 67 := ⟨Try.func67, enters_of Try.func67 (by kernel_rfl) rfl⟩
theorem fi_68 : Try.prog.funcs[68]? = some Try.f68 ∧ Enters Try.prog 68 := ⟨Try.func68, enters_of Try.func68 (by kernel_rfl) rfl⟩
theorem fi_69 : Try.prog.funcs[69]? = some Try.f69 ∧ Enters Try.prog 69 := ⟨Try.func69, enters_of Try.func69 (by kernel_rfl) rfl⟩
theorem fi_70 : Try.prog.funcs[70]? = some Try.f70 ∧ Enters Try.prog 70 := ⟨Try.func70, enters_of Try.func70 (by kernel_rfl) rfl⟩
theorem fi_71 : Try.prog.funcs[71]? = some Try.f71 ∧ Enters Try.prog 71 := ⟨Try.func71, enters_of Try.func71 (by kernel_rfl) rfl⟩
theorem fi_75 : Try.prog.funcs[75]? = some Try.f75 ∧ Enters Try.prog 75 := ⟨Try.func75, enters_of Try.func75 (by kernel_rfl) rfl⟩
theorem fi_76 : Try.prog.funcs[76]? = some Try.f76 ∧ Enters Try.prog 76 := ⟨Try.func76, enters_of Try.func76 (by kernel_rfl) rfl⟩
theorem fi_77 : Try.prog.funcs[77]? = some Try.f77 ∧ Enters Try.prog 77 := ⟨Try.func77, enters_of Try.func77 (by kernel_rfl) rfl⟩
theorem fi_78 : Try.prog.funcs[78]? = some Try.f78 ∧ Enters Try.prog 78 := ⟨Try.func78, enters_of Try.func78 (by kernel_rfl) rfl⟩
theorem fi_79 : Try.prog.funcs[79]? = some Try.f79 ∧ Enters Try.prog 79 := ⟨Try.func79, enters_of Try.func79 (by kernel_rfl) rfl⟩
theorem fi_84 : Try.prog.funcs[84]? = some Try.f84 ∧ Enters Try.prog 84 := ⟨Try.func84, enters_of Try.func84 (by kernel_rfl) rfl⟩
theorem fi_85 : Try.prog.funcs[85]? = some Try.f85 ∧ Enters Try.prog 85 := ⟨Try.func85, enters_of Try.func85 (by kernel_rfl) rfl⟩
theorem fi_86 : Try.prog.funcs[86]? = some Try.f86 ∧ Enters Try.prog 86 := ⟨Try.func86, enters_of Try.func86 (by kernel_rfl) rfl⟩
theorem fi_89 : Try.prog.funcs[89]? = some Try.f89 ∧ Enters Try.prog 89 := ⟨Try.func89, enters_of Try.func89 (by kernel_rfl) rfl⟩
theorem fi_90 : Try.prog.funcs[90]? = some Try.f90 ∧ Enters Try.prog 90 := ⟨Try.func90, enters_of Try.func90 (by kernel_rfl) rfl⟩
theorem fi_91 : Try.prog.funcs[91]? = some Try.f91 ∧ Enters Try.prog 91 := ⟨Try.func91, enters_of Try.func91 (by kernel_rfl) rfl⟩
theorem fi_92 : Try.prog.funcs[92]? = some Try.f92 ∧ Enters Try.prog 92 := ⟨Try.func92, enters_of Try.func92 (by kernel_rfl) rfl⟩
theorem fi_93 : Try.prog.funcs[93]? = some Try.f93 ∧ Enters Try.prog 93 := ⟨Try.func93, enters_of Try.func93 (by kernel_rfl) rfl⟩
theorem fi_95 : Try.prog.funcs[95]? = some Try.f95 ∧ Enters Try.prog 95 := ⟨Try.func95, enters_of Try.func95 (by kernel_rfl) rfl⟩
theorem fi_96 : Try.prog.funcs[96]? = some Try.f96 ∧ Enters Try.prog 96 := ⟨Try.func96, enters_of Try.func96 (by kernel_rfl) rfl⟩
theorem fi_98 : Try.prog.funcs[98]? = some Try.f98 ∧ Enters Try.prog 98 := ⟨Try.func98, enters_of Try.func98 (by kernel_rfl) rfl⟩
theorem fi_99 : Try.prog.funcs[99]? = some Try.f99 ∧ Enters Try.prog 99 := ⟨Try.func99, enters_of Try.func99 (by kernel_rfl) rfl⟩
theorem o_l_big (k : Nat) : Ok Try.prog (c_l_big k) := ok_of (map0) (ptr0) (eq0) (tab1 (ty_22) (tab0)) (inl1 (fi_8) (inl0)) (spec0) (mspec0)
theorem n_l_big (k : Nat) : ∀ f fn, look (c_l_big k).inl f = some fn → Try.prog.funcs[f]? = some fn := fun f fn h => (show InlL Try.prog (c_l_big k).inl from inl1 (fi_8) (inl0)) f fn h |>.1
theorem s_l_big (k : Nat) : SpecGood Try.prog 8 (sp_l_big k) ∧ Enters Try.prog 8 := ⟨specGood_run (o_l_big k) mixed (n_l_big k) (d := k) [(.slice 5 (.int .u8))] [.bool] [] (fun x => l_big k x.1) (fun x => r_l_big k x.1), (fi_8).2⟩
theorem o_s_l10Find (k : Nat) : Ok Try.prog (c_s_l10Find k) := ok_of (map0) (ptr0) (eq0) (tab1 (ty_3) (tab1 (ty_24) (tab1 (ty_34) (tab0)))) (inl1 (fi_42) (inl0)) (spec0) (mspec0)
theorem n_s_l10Find (k : Nat) : ∀ f fn, look (c_s_l10Find k).inl f = some fn → Try.prog.funcs[f]? = some fn := fun f fn h => (show InlL Try.prog (c_s_l10Find k).inl from inl1 (fi_42) (inl0)) f fn h |>.1
theorem s_s_l10Find (k : Nat) : SpecGood Try.prog 42 (sp_s_l10Find k) ∧ Enters Try.prog 42 := ⟨specGood_run (o_s_l10Find k) mixed (n_s_l10Find k) (d := k) [(.slice 34 yEvent), (.int .i64)] [yEvent, .bool] [false, false] (fun x => s_l10Find k x.1 x.2.1) (fun x => r_s_l10Find k x.1 x.2.1), (fi_42).2⟩
theorem o_s_At (k : Nat) : Ok Try.prog (c_s_At k) := ok_of (map0) (ptr0) (eq0) (tab1 (ty_3) (tab1 (ty_30) (tab1 (ty_52) (tab0)))) (inl1 (fi_56) (inl0)) (spec0) (mspec0)
theorem n_s_At (k : Nat) : ∀ f fn, look (c_s_At k).inl f = some fn → Try.prog.funcs[f]? = some fn := fun f fn h => (show InlL Try.prog (c_s_At k).inl from inl1 (fi_56) (inl0)) f fn h |>.1
theorem s_s_At (k : Nat) : SpecGood Try.prog 56 (sp_s_At k) ∧ Enters Try.prog 56 := ⟨specGood_run (o_s_At k) mixed (n_s_At k) (d := k) [(.slice 52 yItem), (.int .i64)] [(.int .i64)] [] (fun x => s_At k x.1 x.2.1) (fun x => r_s_At k x.1 x.2.1), (fi_56).2⟩
theorem o_s_l01In (k : Nat) : Ok Try.prog (c_s_l01In k) := ok_of (map0) (ptr0) (eq0) (tab0) (inl1 (fi_62) (inl0)) (spec0) (mspec0)
theorem n_s_l01In (k : Nat) : ∀ f fn, look (c_s_l01In k).inl f = some fn → Try.prog.funcs[f]? = some fn := fun f fn h => (show InlL Try.prog (c_s_l01In k).inl from inl1 (fi_62) (inl0)) f fn h |>.1
theorem s_s_l01In (k : Nat) : SpecGood Try.prog 62 (sp_s_l01In k) ∧ Enters Try.prog 62 := ⟨specGood_run (o_s_l01In k) mixed (n_s_l01In k) (d := k) [(.int .i64), (.int .i64), (.int .i64)] [.bool] [] (fun x => s_l01In k x.1 x.2.1 x.2.2.1) (fun x => r_s_l01In k x.1 x.2.1 x.2.2.1), (fi_62).2⟩
theorem o_s_LevelOf (k : Nat) : Ok Try.prog (c_s_LevelOf k) := ok_of (map0) (ptr0) (eq0) (tab1 (ty_3) (tab1 (ty_32) (tab1 (ty_34) (tab0)))) (inl1 (fi_23) (inl0)) (spec1 (s_s_l10Find k) (spec1 (s_s_At k) (spec1 (s_s_l01In k) (spec0)))) (mspec0)
theorem n_s_LevelOf (k : Nat) : ∀ f fn, look (c_s_LevelOf k).inl f = some fn → Try.prog.funcs[f]? = some fn := fun f fn h => (show InlL Try.prog (c_s_LevelOf k).inl from inl1 (fi_23) (inl0)) f fn h |>.1
theorem s_s_LevelOf (k : Nat) : SpecGood Try.prog 23 (sp_s_LevelOf k) ∧ Enters Try.prog 23 := ⟨specGood_run (o_s_LevelOf k) mixed (n_s_LevelOf k) (d := k) [(.slice 34 yEvent), (.slice 52 yItem), (.int .i64)] [(.int .i64)] [] (fun x => s_LevelOf k x.1 x.2.1 x.2.2.1) (fun x => r_s_LevelOf k x.1 x.2.1 x.2.2.1), (fi_23).2⟩
theorem o_s_l09Levels (k : Nat) : Ok Try.prog (c_s_l09Levels k) := ok_of (map0) (ptr0) (eq0) (tab1 (ty_3) (tab1 (ty_32) (tab0))) (inl1 (fi_95) (inl0)) (spec1 (s_s_l01In k) (spec0)) (mspec0)
theorem n_s_l09Levels (k : Nat) : ∀ f fn, look (c_s_l09Levels k).inl f = some fn → Try.prog.funcs[f]? = some fn := fun f fn h => (show InlL Try.prog (c_s_l09Levels k).inl from inl1 (fi_95) (inl0)) f fn h |>.1
theorem s_s_l09Levels (k : Nat) : SpecGood Try.prog 95 (sp_s_l09Levels k) ∧ Enters Try.prog 95 := ⟨specGood_run (o_s_l09Levels k) mixed (n_s_l09Levels k) (d := k) [(.slice 3 (.int .i64))] [.bool] [] (fun x => s_l09Levels k x.1) (fun x => r_s_l09Levels k x.1), (fi_95).2⟩
theorem o_s_l09Body (k : Nat) : Ok Try.prog (c_s_l09Body k) := ok_of (map0) (ptr0) (eq0) (tab1 (ty_3) (tab1 (ty_9) (tab1 (ty_32) (tab1 (ty_34) (tab0))))) (inl1 (fi_84) (inl0)) (spec1 (s_s_l01In k) (spec1 (s_s_l09Levels k) (spec0))) (mspec0)
theorem n_s_l09Body (k : Nat) : ∀ f fn, look (c_s_l09Body k).inl f = some fn → Try.prog.funcs[f]? = some fn := fun f fn h => (show InlL Try.prog (c_s_l09Body k).inl from inl1 (fi_84) (inl0)) f fn h |>.1
theorem s_s_l09Body (k : Nat) : SpecGood Try.prog 84 (sp_s_l09Body k) ∧ Enters Try.prog 84 := ⟨specGood_run (o_s_l09Body k) mixed (n_s_l09Body k) (d := k) [yEvent] [.bool] [] (fun x => s_l09Body k x.1) (fun x => r_s_l09Body k x.1), (fi_84).2⟩
theorem o_s_EventOk (k : Nat) : Ok Try.prog (c_s_EventOk k) := ok_of (map0) (ptr0) (eq0) (tab1 (ty_3) (tab1 (ty_4) (tab1 (ty_32) (tab1 (ty_34) (tab0))))) (inl1 (fi_55) (inl0)) (spec1 (s_s_l01In k) (spec1 (s_s_l09Body k) (spec0))) (mspec0)
theorem n_s_EventOk (k : Nat) : ∀ f fn, look (c_s_EventOk k).inl f = some fn → Try.prog.funcs[f]? = some fn := fun f fn h => (show InlL Try.prog (c_s_EventOk k).inl from inl1 (fi_55) (inl0)) f fn h |>.1
theorem s_s_EventOk (k : Nat) : SpecGood Try.prog 55 (sp_s_EventOk k) ∧ Enters Try.prog 55 := ⟨specGood_run (o_s_EventOk k) mixed (n_s_EventOk k) (d := k) [yEvent] [.bool] [] (fun x => s_EventOk k x.1) (fun x => r_s_EventOk k x.1), (fi_55).2⟩
theorem o_s_MemberOf (k : Nat) : Ok Try.prog (c_s_MemberOf k) := ok_of (map0) (ptr0) (eq0) (tab1 (ty_3) (tab1 (ty_34) (tab0))) (inl1 (fi_59) (inl0)) (spec1 (s_s_l10Find k) (spec1 (s_s_At k) (spec1 (s_s_l01In k) (spec0)))) (mspec0)
theorem n_s_MemberOf (k : Nat) : ∀ f fn, look (c_s_MemberOf k).inl f = some fn → Try.prog.funcs[f]? = some fn := fun f fn h => (show InlL Try.prog (c_s_MemberOf k).inl from inl1 (fi_59) (inl0)) f fn h |>.1
theorem s_s_MemberOf (k : Nat) : SpecGood Try.prog 59 (sp_s_MemberOf k) ∧ Enters Try.prog 59 := ⟨specGood_run (o_s_MemberOf k) mixed (n_s_MemberOf k) (d := k) [(.slice 34 yEvent), (.slice 52 yItem), (.int .i64)] [(.int .i64)] [] (fun x => s_MemberOf k x.1 x.2.1 x.2.2.1) (fun x => r_s_MemberOf k x.1 x.2.1 x.2.2.1), (fi_59).2⟩
theorem o_s_l10Empty (k : Nat) : Ok Try.prog (c_s_l10Empty k) := ok_of (map0) (ptr0) (eq0) (tab1 (ty_3) (tab1 (ty_30) (tab1 (ty_52) (tab0)))) (inl1 (fi_96) (inl0)) (spec0) (mspec0)
theorem n_s_l10Empty (k : Nat) : ∀ f fn, look (c_s_l10Empty k).inl f = some fn → Try.prog.funcs[f]? = some fn := fun f fn h => (show InlL Try.prog (c_s_l10Empty k).inl from inl1 (fi_96) (inl0)) f fn h |>.1
theorem s_s_l10Empty (k : Nat) : SpecGood Try.prog 96 (sp_s_l10Empty k) ∧ Enters Try.prog 96 := ⟨specGood_run (o_s_l10Empty k) mixed (n_s_l10Empty k) (d := k) [(.slice 52 yItem)] [.bool] [] (fun x => s_l10Empty k x.1) (fun x => r_s_l10Empty k x.1), (fi_96).2⟩
theorem o_s_l10Self (k : Nat) : Ok Try.prog (c_s_l10Self k) := ok_of (map0) (ptr0) (eq0) (tab1 (ty_3) (tab1 (ty_34) (tab0))) (inl1 (fi_85) (inl0)) (spec1 (s_s_l10Find k) (spec1 (s_s_At k) (spec1 (s_s_MemberOf k) (spec1 (s_s_l10Empty k) (spec0))))) (mspec0)
theorem n_s_l10Self (k : Nat) : ∀ f fn, look (c_s_l10Self k).inl f = some fn → Try.prog.funcs[f]? = some fn := fun f fn h => (show InlL Try.prog (c_s_l10Self k).inl from inl1 (fi_85) (inl0)) f fn h |>.1
theorem s_s_l10Self (k : Nat) : SpecGood Try.prog 85 (sp_s_l10Self k) ∧ Enters Try.prog 85 := ⟨specGood_run (o_s_l10Self k) mixed (n_s_l10Self k) (d := k) [(.slice 34 yEvent), (.slice 52 yItem), yEvent] [.bool] [] (fun x => s_l10Self k x.1 x.2.1 x.2.2.1) (fun x => r_s_l10Self k x.1 x.2.1 x.2.2.1), (fi_85).2⟩
theorem o_s_l10Member (k : Nat) : Ok Try.prog (c_s_l10Member k) := ok_of (map0) (ptr0) (eq0) (tab1 (ty_3) (tab1 (ty_34) (tab0))) (inl1 (fi_57) (inl0)) (spec1 (s_s_LevelOf k) (spec1 (s_s_MemberOf k) (spec1 (s_s_l10Self k) (spec0)))) (mspec0)
theorem n_s_l10Member (k : Nat) : ∀ f fn, look (c_s_l10Member k).inl f = some fn → Try.prog.funcs[f]? = some fn := fun f fn h => (show InlL Try.prog (c_s_l10Member k).inl from inl1 (fi_57) (inl0)) f fn h |>.1
theorem s_s_l10Member (k : Nat) : SpecGood Try.prog 57 (sp_s_l10Member k) ∧ Enters Try.prog 57 := ⟨specGood_run (o_s_l10Member k) mixed (n_s_l10Member k) (d := k) [(.slice 34 yEvent), (.slice 52 yItem), yEvent] [.bool] [] (fun x => s_l10Member k x.1 x.2.1 x.2.2.1) (fun x => r_s_l10Member k x.1 x.2.1 x.2.2.1), (fi_57).2⟩
theorem o_s_l10Power (k : Nat) : Ok Try.prog (c_s_l10Power k) := ok_of (map0) (ptr0) (eq0) (tab1 (ty_3) (tab1 (ty_32) (tab1 (ty_34) (tab0)))) (inl1 (fi_58) (inl0)) (spec1 (s_s_LevelOf k) (spec1 (s_s_MemberOf k) (spec0))) (mspec0)
theorem n_s_l10Power (k : Nat) : ∀ f fn, look (c_s_l10Power k).inl f = some fn → Try.prog.funcs[f]? = some fn := fun f fn h => (show InlL Try.prog (c_s_l10Power k).inl from inl1 (fi_58) (inl0)) f fn h |>.1
theorem s_s_l10Power (k : Nat) : SpecGood Try.prog 58 (sp_s_l10Power k) ∧ Enters Try.prog 58 := ⟨specGood_run (o_s_l10Power k) mixed (n_s_l10Power k) (d := k) [(.slice 34 yEvent), (.slice 52 yItem), yEvent] [.bool] [] (fun x => s_l10Power k x.1 x.2.1 x.2.2.1) (fun x => r_s_l10Power k x.1 x.2.1 x.2.2.1), (fi_58).2⟩
theorem o_s_Allowed (k : Nat) : Ok Try.prog (c_s_Allowed k) := ok_of (map0) (ptr0) (eq0) (tab1 (ty_3) (tab1 (ty_30) (tab1 (ty_34) (tab0)))) (inl1 (fi_20) (inl0)) (spec1 (s_s_LevelOf k) (spec1 (s_s_l10Find k) (spec1 (s_s_EventOk k) (spec1 (s_s_At k) (spec1 (s_s_l10Member k) (spec1 (s_s_l10Power k) (spec1 (s_s_MemberOf k) (spec0)))))))) (mspec0)
theorem n_s_Allowed (k : Nat) : ∀ f fn, look (c_s_Allowed k).inl f = some fn → Try.prog.funcs[f]? = some fn := fun f fn h => (show InlL Try.prog (c_s_Allowed k).inl from inl1 (fi_20) (inl0)) f fn h |>.1
theorem s_s_Allowed (k : Nat) : SpecGood Try.prog 20 (sp_s_Allowed k) ∧ Enters Try.prog 20 := ⟨specGood_run (o_s_Allowed k) mixed (n_s_Allowed k) (d := k) [(.slice 34 yEvent), (.slice 52 yItem), yEvent] [.bool] [] (fun x => s_Allowed k x.1 x.2.1 x.2.2.1) (fun x => r_s_Allowed k x.1 x.2.1 x.2.2.1), (fi_20).2⟩
theorem o_s_l12Has (k : Nat) : Ok Try.prog (c_s_l12Has k) := ok_of (map0) (ptr0) (eq0) (tab1 (ty_3) (tab1 (ty_24) (tab1 (ty_28) (tab1 (ty_34) (tab0))))) (inl1 (fi_70) (inl0)) (spec0) (mspec0)
theorem n_s_l12Has (k : Nat) : ∀ f fn, look (c_s_l12Has k).inl f = some fn → Try.prog.funcs[f]? = some fn := fun f fn h => (show InlL Try.prog (c_s_l12Has k).inl from inl1 (fi_70) (inl0)) f fn h |>.1
theorem s_s_l12Has (k : Nat) : SpecGood Try.prog 70 (sp_s_l12Has k) ∧ Enters Try.prog 70 := ⟨specGood_run (o_s_l12Has k) mixed (n_s_l12Has k) (d := k) [yRoom, (.int .i64)] [(.int .i64)] [] (fun x => s_l12Has k x.1 x.2.1) (fun x => r_s_l12Has k x.1 x.2.1), (fi_70).2⟩
theorem o_s_l11Add (k : Nat) : Ok Try.prog (c_s_l11Add k) := ok_of (map0) (ptr0) (eq0) (tab1 (ty_3) (tab1 (ty_32) (tab0))) (inl1 (fi_43) (inl0)) (spec0) (mspec0)
theorem n_s_l11Add (k : Nat) : ∀ f fn, look (c_s_l11Add k).inl f = some fn → Try.prog.funcs[f]? = some fn := fun f fn h => (show InlL Try.prog (c_s_l11Add k).inl from inl1 (fi_43) (inl0)) f fn h |>.1
theorem s_s_l11Add (k : Nat) : SpecGood Try.prog 43 (sp_s_l11Add k) ∧ Enters Try.prog 43 := ⟨specGood_run (o_s_l11Add k) mixed (n_s_l11Add k) (d := k) [(.slice 3 (.int .i64)), (.int .i64)] [(.slice 3 (.int .i64))] [true] (fun x => s_l11Add k x.1 x.2.1) (fun x => r_s_l11Add k x.1 x.2.1), (fi_43).2⟩
theorem o_s_l05In (k : Nat) : Ok Try.prog (c_s_l05In k) := ok_of (map0) (ptr0) (eq0) (tab1 (ty_3) (tab1 (ty_32) (tab0))) (inl1 (fi_45) (inl0)) (spec0) (mspec0)
theorem n_s_l05In (k : Nat) : ∀ f fn, look (c_s_l05In k).inl f = some fn → Try.prog.funcs[f]? = some fn := fun f fn h => (show InlL Try.prog (c_s_l05In k).inl from inl1 (fi_45) (inl0)) f fn h |>.1
theorem s_s_l05In (k : Nat) : SpecGood Try.prog 45 (sp_s_l05In k) ∧ Enters Try.prog 45 := ⟨specGood_run (o_s_l05In k) mixed (n_s_l05In k) (d := k) [(.slice 3 (.int .i64)), (.int .i64)] [.bool] [] (fun x => s_l05In k x.1 x.2.1) (fun x => r_s_l05In k x.1 x.2.1), (fi_45).2⟩
theorem o_s_l11Behind (k : Nat) : Ok Try.prog (c_s_l11Behind k) := ok_of (map0) (ptr0) (eq0) (tab1 (ty_3) (tab1 (ty_32) (tab1 (ty_34) (tab0)))) (inl1 (fi_44) (inl0)) (spec1 (s_s_l10Find k) (spec1 (s_s_l05In k) (spec0))) (mspec0)
theorem n_s_l11Behind (k : Nat) : ∀ f fn, look (c_s_l11Behind k).inl f = some fn → Try.prog.funcs[f]? = some fn := fun f fn h => (show InlL Try.prog (c_s_l11Behind k).inl from inl1 (fi_44) (inl0)) f fn h |>.1
theorem s_s_l11Behind (k : Nat) : SpecGood Try.prog 44 (sp_s_l11Behind k) ∧ Enters Try.prog 44 := ⟨specGood_run (o_s_l11Behind k) mixed (n_s_l11Behind k) (d := k) [(.slice 34 yEvent), (.int .i64)] [(.slice 3 (.int .i64))] [true] (fun x => s_l11Behind k x.1 x.2.1) (fun x => r_s_l11Behind k x.1 x.2.1), (fi_44).2⟩
theorem o_s_l11Ready (k : Nat) : Ok Try.prog (c_s_l11Ready k) := ok_of (map0) (ptr0) (eq0) (tab1 (ty_3) (tab1 (ty_32) (tab0))) (inl1 (fi_46) (inl0)) (spec1 (s_s_l05In k) (spec0)) (mspec0)
theorem n_s_l11Ready (k : Nat) : ∀ f fn, look (c_s_l11Ready k).inl f = some fn → Try.prog.funcs[f]? = some fn := fun f fn h => (show InlL Try.prog (c_s_l11Ready k).inl from inl1 (fi_46) (inl0)) f fn h |>.1
theorem s_s_l11Ready (k : Nat) : SpecGood Try.prog 46 (sp_s_l11Ready k) ∧ Enters Try.prog 46 := ⟨specGood_run (o_s_l11Ready k) mixed (n_s_l11Ready k) (d := k) [(.slice 3 (.int .i64)), (.slice 3 (.int .i64)), (.slice 3 (.int .i64))] [.bool] [] (fun x => s_l11Ready k x.1 x.2.1 x.2.2.1) (fun x => r_s_l11Ready k x.1 x.2.1 x.2.2.1), (fi_46).2⟩
theorem o_s_l11Heavy (k : Nat) : Ok Try.prog (c_s_l11Heavy k) := ok_of (map0) (ptr0) (eq0) (tab1 (ty_3) (tab1 (ty_34) (tab0))) (inl1 (fi_75) (inl0)) (spec0) (mspec0)
theorem n_s_l11Heavy (k : Nat) : ∀ f fn, look (c_s_l11Heavy k).inl f = some fn → Try.prog.funcs[f]? = some fn := fun f fn h => (show InlL Try.prog (c_s_l11Heavy k).inl from inl1 (fi_75) (inl0)) f fn h |>.1
theorem s_s_l11Heavy (k : Nat) : SpecGood Try.prog 75 (sp_s_l11Heavy k) ∧ Enters Try.prog 75 := ⟨specGood_run (o_s_l11Heavy k) mixed (n_s_l11Heavy k) (d := k) [yEvent] [.bool] [] (fun x => s_l11Heavy k x.1) (fun x => r_s_l11Heavy k x.1), (fi_75).2⟩
theorem o_s_Heavier (k : Nat) : Ok Try.prog (c_s_Heavier k) := ok_of (map0) (ptr0) (eq0) (tab1 (ty_3) (tab1 (ty_4) (tab1 (ty_34) (tab0)))) (inl1 (fi_47) (inl0)) (spec1 (s_s_LevelOf k) (spec1 (s_s_l11Heavy k) (spec0))) (mspec0)
theorem n_s_Heavier (k : Nat) : ∀ f fn, look (c_s_Heavier k).inl f = some fn → Try.prog.funcs[f]? = some fn := fun f fn h => (show InlL Try.prog (c_s_Heavier k).inl from inl1 (fi_47) (inl0)) f fn h |>.1
theorem s_s_Heavier (k : Nat) : SpecGood Try.prog 47 (sp_s_Heavier k) ∧ Enters Try.prog 47 := ⟨specGood_run (o_s_Heavier k) mixed (n_s_Heavier k) (d := k) [(.slice 34 yEvent), (.slice 52 yItem), yEvent, yEvent] [.bool] [] (fun x => s_Heavier k x.1 x.2.1 x.2.2.1 x.2.2.2.1) (fun x => r_s_Heavier k x.1 x.2.1 x.2.2.1 x.2.2.2.1), (fi_47).2⟩
theorem o_s_Order (k : Nat) : Ok Try.prog (c_s_Order k) := ok_of (map0) (ptr0) (eq0) (tab1 (ty_3) (tab1 (ty_32) (tab1 (ty_34) (tab1 (ty_66) (tab0))))) (inl1 (fi_13) (inl0)) (spec1 (s_s_l10Find k) (spec1 (s_s_l11Add k) (spec1 (s_s_l11Behind k) (spec1 (s_s_l05In k) (spec1 (s_s_l11Ready k) (spec1 (s_s_Heavier k) (spec0))))))) (mspec0)
theorem n_s_Order (k : Nat) : ∀ f fn, look (c_s_Order k).inl f = some fn → Try.prog.funcs[f]? = some fn := fun f fn h => (show InlL Try.prog (c_s_Order k).inl from inl1 (fi_13) (inl0)) f fn h |>.1
theorem s_s_Order (k : Nat) : SpecGood Try.prog 13 (sp_s_Order k) ∧ Enters Try.prog 13 := ⟨specGood_run (o_s_Order k) mixed (n_s_Order k) (d := k) [(.slice 34 yEvent), (.slice 52 yItem), (.slice 3 (.int .i64))] [(.slice 3 (.int .i64))] [true] (fun x => s_Order k x.1 x.2.1 x.2.2.1) (fun x => r_s_Order k x.1 x.2.1 x.2.2.1), (fi_13).2⟩
theorem o_s_l10Key (k : Nat) : Ok Try.prog (c_s_l10Key k) := ok_of (map0) (ptr0) (eq0) (tab0) (inl1 (fi_66) (inl0)) (spec1 (s_s_l01In k) (spec0)) (mspec0)
theorem n_s_l10Key (k : Nat) : ∀ f fn, look (c_s_l10Key k).inl f = some fn → Try.prog.funcs[f]? = some fn := fun f fn h => (show InlL Try.prog (c_s_l10Key k).inl from inl1 (fi_66) (inl0)) f fn h |>.1
theorem s_s_l10Key (k : Nat) : SpecGood Try.prog 66 (sp_s_l10Key k) ∧ Enters Try.prog 66 := ⟨specGood_run (o_s_l10Key k) mixed (n_s_l10Key k) (d := k) [(.int .i64)] [.bool] [] (fun x => s_l10Key k x.1) (fun x => r_s_l10Key k x.1), (fi_66).2⟩
theorem o_s_StateOk (k : Nat) : Ok Try.prog (c_s_StateOk k) := ok_of (map0) (ptr0) (eq0) (tab1 (ty_3) (tab1 (ty_30) (tab1 (ty_52) (tab0)))) (inl1 (fi_29) (inl0)) (spec1 (s_s_l01In k) (spec1 (s_s_l10Key k) (spec0))) (mspec0)
theorem n_s_StateOk (k : Nat) : ∀ f fn, look (c_s_StateOk k).inl f = some fn → Try.prog.funcs[f]? = some fn := fun f fn h => (show InlL Try.prog (c_s_StateOk k).inl from inl1 (fi_29) (inl0)) f fn h |>.1
theorem s_s_StateOk (k : Nat) : SpecGood Try.prog 29 (sp_s_StateOk k) ∧ Enters Try.prog 29 := ⟨specGood_run (o_s_StateOk k) mixed (n_s_StateOk k) (d := k) [(.slice 52 yItem)] [.bool] [] (fun x => s_StateOk k x.1) (fun x => r_s_StateOk k x.1), (fi_29).2⟩
theorem o_s_Put (k : Nat) : Ok Try.prog (c_s_Put k) := ok_of (map0) (ptr0) (eq0) (tab1 (ty_3) (tab1 (ty_30) (tab1 (ty_52) (tab0)))) (inl1 (fi_27) (inl0)) (spec1 (s_s_StateOk k) (spec0)) (mspec0)
theorem n_s_Put (k : Nat) : ∀ f fn, look (c_s_Put k).inl f = some fn → Try.prog.funcs[f]? = some fn := fun f fn h => (show InlL Try.prog (c_s_Put k).inl from inl1 (fi_27) (inl0)) f fn h |>.1
theorem s_s_Put (k : Nat) : SpecGood Try.prog 27 (sp_s_Put k) ∧ Enters Try.prog 27 := ⟨specGood_run (o_s_Put k) mixed (n_s_Put k) (d := k) [(.slice 52 yItem), (.int .i64), (.int .i64)] [(.slice 52 yItem)] [true] (fun x => s_Put k x.1 x.2.1 x.2.2.1) (fun x => r_s_Put k x.1 x.2.1 x.2.2.1), (fi_27).2⟩
theorem o_s_KeyOf (k : Nat) : Ok Try.prog (c_s_KeyOf k) := ok_of (map0) (ptr0) (eq0) (tab1 (ty_3) (tab1 (ty_34) (tab0))) (inl1 (fi_89) (inl0)) (spec1 (s_s_l01In k) (spec0)) (mspec0)
theorem n_s_KeyOf (k : Nat) : ∀ f fn, look (c_s_KeyOf k).inl f = some fn → Try.prog.funcs[f]? = some fn := fun f fn h => (show InlL Try.prog (c_s_KeyOf k).inl from inl1 (fi_89) (inl0)) f fn h |>.1
theorem s_s_KeyOf (k : Nat) : SpecGood Try.prog 89 (sp_s_KeyOf k) ∧ Enters Try.prog 89 := ⟨specGood_run (o_s_KeyOf k) mixed (n_s_KeyOf k) (d := k) [yEvent] [(.int .i64)] [] (fun x => s_KeyOf k x.1) (fun x => r_s_KeyOf k x.1), (fi_89).2⟩
theorem o_s_l11Keys (k : Nat) : Ok Try.prog (c_s_l11Keys k) := ok_of (map0) (ptr0) (eq0) (tab1 (ty_3) (tab1 (ty_25) (tab1 (ty_30) (tab1 (ty_32) (tab1 (ty_52) (tab0)))))) (inl1 (fi_98) (inl0)) (spec0) (mspec0)
theorem n_s_l11Keys (k : Nat) : ∀ f fn, look (c_s_l11Keys k).inl f = some fn → Try.prog.funcs[f]? = some fn := fun f fn h => (show InlL Try.prog (c_s_l11Keys k).inl from inl1 (fi_98) (inl0)) f fn h |>.1
theorem s_s_l11Keys (k : Nat) : SpecGood Try.prog 98 (sp_s_l11Keys k) ∧ Enters Try.prog 98 := ⟨specGood_run (o_s_l11Keys k) mixed (n_s_l11Keys k) (d := k) [(.slice 30 (.slice 52 yItem))] [(.slice 3 (.int .i64))] [true] (fun x => s_l11Keys k x.1) (fun x => r_s_l11Keys k x.1), (fi_98).2⟩
theorem o_s_l11Alike (k : Nat) : Ok Try.prog (c_s_l11Alike k) := ok_of (map0) (ptr0) (eq0) (tab1 (ty_25) (tab1 (ty_30) (tab0))) (inl1 (fi_99) (inl0)) (spec1 (s_s_At k) (spec0)) (mspec0)
theorem n_s_l11Alike (k : Nat) : ∀ f fn, look (c_s_l11Alike k).inl f = some fn → Try.prog.funcs[f]? = some fn := fun f fn h => (show InlL Try.prog (c_s_l11Alike k).inl from inl1 (fi_99) (inl0)) f fn h |>.1
theorem s_s_l11Alike (k : Nat) : SpecGood Try.prog 99 (sp_s_l11Alike k) ∧ Enters Try.prog 99 := ⟨specGood_run (o_s_l11Alike k) mixed (n_s_l11Alike k) (d := k) [(.slice 30 (.slice 52 yItem)), (.int .i64)] [.bool] [] (fun x => s_l11Alike k x.1 x.2.1) (fun x => r_s_l11Alike k x.1 x.2.1), (fi_99).2⟩
theorem o_s_Agreed (k : Nat) : Ok Try.prog (c_s_Agreed k) := ok_of (map0) (ptr0) (eq0) (tab1 (ty_3) (tab1 (ty_25) (tab1 (ty_30) (tab1 (ty_32) (tab1 (ty_52) (tab0)))))) (inl1 (fi_90) (inl0)) (spec1 (s_s_At k) (spec1 (s_s_l11Keys k) (spec1 (s_s_l11Alike k) (spec0)))) (mspec0)
theorem n_s_Agreed (k : Nat) : ∀ f fn, look (c_s_Agreed k).inl f = some fn → Try.prog.funcs[f]? = some fn := fun f fn h => (show InlL Try.prog (c_s_Agreed k).inl from inl1 (fi_90) (inl0)) f fn h |>.1
theorem s_s_Agreed (k : Nat) : SpecGood Try.prog 90 (sp_s_Agreed k) ∧ Enters Try.prog 90 := ⟨specGood_run (o_s_Agreed k) mixed (n_s_Agreed k) (d := k) [(.slice 30 (.slice 52 yItem))] [(.slice 52 yItem)] [true] (fun x => s_Agreed k x.1) (fun x => r_s_Agreed k x.1), (fi_90).2⟩
theorem o_s_Clash (k : Nat) : Ok Try.prog (c_s_Clash k) := ok_of (map0) (ptr0) (eq0) (tab1 (ty_3) (tab1 (ty_32) (tab0))) (inl1 (fi_91) (inl0)) (spec1 (s_s_l11Keys k) (spec1 (s_s_l11Alike k) (spec0))) (mspec0)
theorem n_s_Clash (k : Nat) : ∀ f fn, look (c_s_Clash k).inl f = some fn → Try.prog.funcs[f]? = some fn := fun f fn h => (show InlL Try.prog (c_s_Clash k).inl from inl1 (fi_91) (inl0)) f fn h |>.1
theorem s_s_Clash (k : Nat) : SpecGood Try.prog 91 (sp_s_Clash k) ∧ Enters Try.prog 91 := ⟨specGood_run (o_s_Clash k) mixed (n_s_Clash k) (d := k) [(.slice 30 (.slice 52 yItem))] [(.slice 3 (.int .i64))] [true] (fun x => s_Clash k x.1) (fun x => r_s_Clash k x.1), (fi_91).2⟩
theorem o_s_Resolve (k : Nat) : Ok Try.prog (c_s_Resolve k) := ok_of (map0) (ptr0) (eq0) (tab1 (ty_3) (tab1 (ty_25) (tab1 (ty_30) (tab1 (ty_32) (tab1 (ty_34) (tab0)))))) (inl1 (fi_71) (inl0)) (spec1 (s_s_Order k) (spec1 (s_s_Allowed k) (spec1 (s_s_Put k) (spec1 (s_s_l10Find k) (spec1 (s_s_At k) (spec1 (s_s_KeyOf k) (spec1 (s_s_Agreed k) (spec1 (s_s_Clash k) (spec0))))))))) (mspec0)
theorem n_s_Resolve (k : Nat) : ∀ f fn, look (c_s_Resolve k).inl f = some fn → Try.prog.funcs[f]? = some fn := fun f fn h => (show InlL Try.prog (c_s_Resolve k).inl from inl1 (fi_71) (inl0)) f fn h |>.1
theorem s_s_Resolve (k : Nat) : SpecGood Try.prog 71 (sp_s_Resolve k) ∧ Enters Try.prog 71 := ⟨specGood_run (o_s_Resolve k) mixed (n_s_Resolve k) (d := k) [(.slice 34 yEvent), (.slice 30 (.slice 52 yItem))] [(.slice 52 yItem)] [true] (fun x => s_Resolve k x.1 x.2.1) (fun x => r_s_Resolve k x.1 x.2.1), (fi_71).2⟩
theorem o_s_l12Before (k : Nat) : Ok Try.prog (c_s_l12Before k) := ok_of (map0) (ptr0) (eq0) (tab1 (ty_3) (tab1 (ty_24) (tab1 (ty_25) (tab1 (ty_28) (tab1 (ty_30) (tab1 (ty_32) (tab0))))))) (inl1 (fi_33) (inl0)) (spec1 (s_s_l12Has k) (spec1 (s_s_Resolve k) (spec0))) (mspec0)
theorem n_s_l12Before (k : Nat) : ∀ f fn, look (c_s_l12Before k).inl f = some fn → Try.prog.funcs[f]? = some fn := fun f fn h => (show InlL Try.prog (c_s_l12Before k).inl from inl1 (fi_33) (inl0)) f fn h |>.1
theorem s_s_l12Before (k : Nat) : SpecGood Try.prog 33 (sp_s_l12Before k) ∧ Enters Try.prog 33 := ⟨specGood_run (o_s_l12Before k) mixed (n_s_l12Before k) (d := k) [yRoom, (.slice 3 (.int .i64))] [(.slice 52 yItem), .bool] [true] (fun x => s_l12Before k x.1 x.2.1) (fun x => r_s_l12Before k x.1 x.2.1), (fi_33).2⟩
theorem o_s_EndsOf (k : Nat) : Ok Try.prog (c_s_EndsOf k) := ok_of (map0) (ptr0) (eq0) (tab1 (ty_3) (tab1 (ty_24) (tab1 (ty_28) (tab1 (ty_32) (tab1 (ty_34) (tab0)))))) (inl1 (fi_34) (inl0)) (spec1 (s_s_l11Add k) (spec1 (s_s_l05In k) (spec0))) (mspec0)
theorem n_s_EndsOf (k : Nat) : ∀ f fn, look (c_s_EndsOf k).inl f = some fn → Try.prog.funcs[f]? = some fn := fun f fn h => (show InlL Try.prog (c_s_EndsOf k).inl from inl1 (fi_34) (inl0)) f fn h |>.1
theorem s_s_EndsOf (k : Nat) : SpecGood Try.prog 34 (sp_s_EndsOf k) ∧ Enters Try.prog 34 := ⟨specGood_run (o_s_EndsOf k) mixed (n_s_EndsOf k) (d := k) [yRoom] [(.slice 3 (.int .i64))] [true] (fun x => s_EndsOf k x.1) (fun x => r_s_EndsOf k x.1), (fi_34).2⟩
theorem o_s_l01Byte (k : Nat) : Ok Try.prog (c_s_l01Byte k) := ok_of (map0) (ptr0) (eq0) (tab1 (ty_3) (tab1 (ty_5) (tab1 (ty_22) (tab1 (ty_83) (tab0))))) (inl1 (fi_93) (inl0)) (spec0) (mspec0)
theorem n_s_l01Byte (k : Nat) : ∀ f fn, look (c_s_l01Byte k).inl f = some fn → Try.prog.funcs[f]? = some fn := fun f fn h => (show InlL Try.prog (c_s_l01Byte k).inl from inl1 (fi_93) (inl0)) f fn h |>.1
theorem s_s_l01Byte (k : Nat) : MGood Try.prog 93 (sp_s_l01Byte k) ∧ Enters Try.prog 93 := ⟨mgood_run (o_s_l01Byte k) mixed (n_s_l01Byte k) (d := k) [.box yL01Cur] [(.int .i64)] [] (fun x => s_l01Byte k x.1) (fun x => r_s_l01Byte k x.1), (fi_93).2⟩
theorem o_s_l01Below (k : Nat) : Ok Try.prog (c_s_l01Below k) := ok_of (map0) (ptr0) (eq0) (tab0) (inl1 (fi_78) (inl0)) (spec0) (mspec1 (s_s_l01Byte k) (mspec0))
theorem n_s_l01Below (k : Nat) : ∀ f fn, look (c_s_l01Below k).inl f = some fn → Try.prog.funcs[f]? = some fn := fun f fn h => (show InlL Try.prog (c_s_l01Below k).inl from inl1 (fi_78) (inl0)) f fn h |>.1
theorem s_s_l01Below (k : Nat) : MGood Try.prog 78 (sp_s_l01Below k) ∧ Enters Try.prog 78 := ⟨mgood_run (o_s_l01Below k) mixed (n_s_l01Below k) (d := k) [.box yL01Cur, .imm (.int .i64)] [(.int .i64)] [] (fun x => s_l01Below k x.1 x.2.1) (fun x => r_s_l01Below k x.1 x.2.1), (fi_78).2⟩
theorem o_s_l01PickInt (k : Nat) : Ok Try.prog (c_s_l01PickInt k) := ok_of (map0) (ptr0) (eq0) (tab1 (ty_3) (tab1 (ty_32) (tab0))) (inl1 (fi_64) (inl0)) (spec0) (mspec1 (s_s_l01Below k) (mspec0))
theorem n_s_l01PickInt (k : Nat) : ∀ f fn, look (c_s_l01PickInt k).inl f = some fn → Try.prog.funcs[f]? = some fn := fun f fn h => (show InlL Try.prog (c_s_l01PickInt k).inl from inl1 (fi_64) (inl0)) f fn h |>.1
theorem s_s_l01PickInt (k : Nat) : MGood Try.prog 64 (sp_s_l01PickInt k) ∧ Enters Try.prog 64 := ⟨mgood_run (o_s_l01PickInt k) mixed (n_s_l01PickInt k) (d := k) [.box yL01Cur, .imm (.slice 3 (.int .i64))] [(.int .i64)] [] (fun x => s_l01PickInt k x.1 x.2.1) (fun x => r_s_l01PickInt k x.1 x.2.1), (fi_64).2⟩
theorem o_s_l01Once (k : Nat) : Ok Try.prog (c_s_l01Once k) := ok_of (map0) (ptr0) (eq0) (tab0) (inl1 (fi_77) (inl0)) (spec0) (mspec1 (s_s_l01Below k) (mspec0))
theorem n_s_l01Once (k : Nat) : ∀ f fn, look (c_s_l01Once k).inl f = some fn → Try.prog.funcs[f]? = some fn := fun f fn h => (show InlL Try.prog (c_s_l01Once k).inl from inl1 (fi_77) (inl0)) f fn h |>.1
theorem s_s_l01Once (k : Nat) : MGood Try.prog 77 (sp_s_l01Once k) ∧ Enters Try.prog 77 := ⟨mgood_run (o_s_l01Once k) mixed (n_s_l01Once k) (d := k) [.box yL01Cur, .imm (.int .i64)] [.bool] [] (fun x => s_l01Once k x.1 x.2.1) (fun x => r_s_l01Once k x.1 x.2.1), (fi_77).2⟩
theorem o_s_l01Pick (k : Nat) : Ok Try.prog (c_s_l01Pick k) := ok_of (map0) (ptr0) (eq0) (tab1 (ty_9) (tab1 (ty_100) (tab0))) (inl1 (fi_92) (inl0)) (spec0) (mspec1 (s_s_l01Below k) (mspec0))
theorem n_s_l01Pick (k : Nat) : ∀ f fn, look (c_s_l01Pick k).inl f = some fn → Try.prog.funcs[f]? = some fn := fun f fn h => (show InlL Try.prog (c_s_l01Pick k).inl from inl1 (fi_92) (inl0)) f fn h |>.1
theorem s_s_l01Pick (k : Nat) : MGood Try.prog 92 (sp_s_l01Pick k) ∧ Enters Try.prog 92 := ⟨mgood_run (o_s_l01Pick k) mixed (n_s_l01Pick k) (d := k) [.box yL01Cur, .imm (.slice 9 .str)] [.str] [] (fun x => s_l01Pick k x.1 x.2.1) (fun x => r_s_l01Pick k x.1 x.2.1), (fi_92).2⟩
theorem o_s_l09Bodied (k : Nat) : Ok Try.prog (c_s_l09Bodied k) := ok_of (map0) (ptr0) (eq0) (tab1 (ty_3) (tab1 (ty_9) (tab1 (ty_32) (tab1 (ty_34) (tab1 (ty_100) (tab0)))))) (inl1 (fi_76) (inl0)) (spec0) (mspec1 (s_s_l01PickInt k) (mspec1 (s_s_l01Once k) (mspec1 (s_s_l01Below k) (mspec1 (s_s_l01Pick k) (mspec0)))))
theorem n_s_l09Bodied (k : Nat) : ∀ f fn, look (c_s_l09Bodied k).inl f = some fn → Try.prog.funcs[f]? = some fn := fun f fn h => (show InlL Try.prog (c_s_l09Bodied k).inl from inl1 (fi_76) (inl0)) f fn h |>.1
theorem s_s_l09Bodied (k : Nat) : MGood Try.prog 76 (sp_s_l09Bodied k) ∧ Enters Try.prog 76 := ⟨mgood_run (o_s_l09Bodied k) mixed (n_s_l09Bodied k) (d := k) [.box yL01Cur] [yEvent] [true, true] (fun x => s_l09Bodied k x.1) (fun x => r_s_l09Bodied k x.1), (fi_76).2⟩
theorem o_s_DepthOf (k : Nat) : Ok Try.prog (c_s_DepthOf k) := ok_of (map0) (ptr0) (eq0) (tab1 (ty_3) (tab1 (ty_24) (tab1 (ty_28) (tab1 (ty_32) (tab1 (ty_34) (tab0)))))) (inl1 (fi_79) (inl0)) (spec1 (s_s_l12Has k) (spec0)) (mspec0)
theorem n_s_DepthOf (k : Nat) : ∀ f fn, look (c_s_DepthOf k).inl f = some fn → Try.prog.funcs[f]? = some fn := fun f fn h => (show InlL Try.prog (c_s_DepthOf k).inl from inl1 (fi_79) (inl0)) f fn h |>.1
theorem s_s_DepthOf (k : Nat) : SpecGood Try.prog 79 (sp_s_DepthOf k) ∧ Enters Try.prog 79 := ⟨specGood_run (o_s_DepthOf k) mixed (n_s_DepthOf k) (d := k) [yRoom, (.slice 3 (.int .i64))] [(.int .i64)] [] (fun x => s_DepthOf k x.1 x.2.1) (fun x => r_s_DepthOf k x.1 x.2.1), (fi_79).2⟩
theorem o_s_l12Next (k : Nat) : Ok Try.prog (c_s_l12Next k) := ok_of (map0) (ptr0) (eq0) (tab1 (ty_3) (tab1 (ty_24) (tab1 (ty_28) (tab1 (ty_32) (tab1 (ty_34) (tab0)))))) (inl1 (fi_50) (inl0)) (spec1 (s_s_Allowed k) (spec1 (s_s_l12Before k) (spec1 (s_s_EndsOf k) (spec1 (s_s_DepthOf k) (spec0))))) (mspec1 (s_s_l09Bodied k) (mspec1 (s_s_l01Once k) (mspec1 (s_s_l01Below k) (mspec0))))
theorem n_s_l12Next (k : Nat) : ∀ f fn, look (c_s_l12Next k).inl f = some fn → Try.prog.funcs[f]? = some fn := fun f fn h => (show InlL Try.prog (c_s_l12Next k).inl from inl1 (fi_50) (inl0)) f fn h |>.1
theorem s_s_l12Next (k : Nat) : MGood Try.prog 50 (sp_s_l12Next k) ∧ Enters Try.prog 50 := ⟨mgood_run (o_s_l12Next k) mixed (n_s_l12Next k) (d := k) [.box yL01Cur, .imm yRoom, .imm (.int .i64)] [yEvent] [true, true] (fun x => s_l12Next k x.1 x.2.1 x.2.2.1) (fun x => r_s_l12Next k x.1 x.2.1 x.2.2.1), (fi_50).2⟩
theorem o_s_l12Size (k : Nat) : Ok Try.prog (c_s_l12Size k) := ok_of (map0) (ptr0) (eq0) (tab1 (ty_22) (tab0)) (inl1 (fi_67) (inl0)) (spec0) (mspec0)
theorem n_s_l12Size (k : Nat) : ∀ f fn, look (c_s_l12Size k).inl f = some fn → Try.prog.funcs[f]? = some fn := fun f fn h => (show InlL Try.prog (c_s_l12Size k).inl from inl1 (fi_67) (inl0)) f fn h |>.1
theorem s_s_l12Size (k : Nat) : SpecGood Try.prog 67 (sp_s_l12Size k) ∧ Enters Try.prog 67 := ⟨specGood_run (o_s_l12Size k) mixed (n_s_l12Size k) (d := k) [(.slice 5 (.int .u8))] [(.int .i64)] [] (fun x => s_l12Size k x.1) (fun x => r_s_l12Size k x.1), (fi_67).2⟩
theorem o_s_l12Add (k : Nat) : Ok Try.prog (c_s_l12Add k) := ok_of (map0) (ptr0) (eq0) (tab1 (ty_3) (tab1 (ty_24) (tab1 (ty_25) (tab1 (ty_26) (tab1 (ty_28) (tab1 (ty_32) (tab1 (ty_34) (tab0)))))))) (inl1 (fi_68) (inl0)) (spec1 (s_s_Allowed k) (spec1 (s_s_Put k) (spec1 (s_s_l12Before k) (spec1 (s_s_EventOk k) (spec1 (s_s_l12Has k) (spec1 (s_s_DepthOf k) (spec1 (s_s_KeyOf k) (spec0)))))))) (mspec0)
theorem n_s_l12Add (k : Nat) : ∀ f fn, look (c_s_l12Add k).inl f = some fn → Try.prog.funcs[f]? = some fn := fun f fn h => (show InlL Try.prog (c_s_l12Add k).inl from inl1 (fi_68) (inl0)) f fn h |>.1
theorem s_s_l12Add (k : Nat) : SpecGood Try.prog 68 (sp_s_l12Add k) ∧ Enters Try.prog 68 := ⟨specGood_run (o_s_l12Add k) mixed (n_s_l12Add k) (d := k) [yRoom, yEvent] [yRoom, .bool] [true, true, true] (fun x => s_l12Add k x.1 x.2.1) (fun x => r_s_l12Add k x.1 x.2.1), (fi_68).2⟩
theorem o_s_l09Copy (k : Nat) : Ok Try.prog (c_s_l09Copy k) := ok_of (map0) (ptr0) (eq0) (tab1 (ty_32) (tab1 (ty_34) (tab0))) (inl1 (fi_48) (inl0)) (spec0) (mspec0)
theorem n_s_l09Copy (k : Nat) : ∀ f fn, look (c_s_l09Copy k).inl f = some fn → Try.prog.funcs[f]? = some fn := fun f fn h => (show InlL Try.prog (c_s_l09Copy k).inl from inl1 (fi_48) (inl0)) f fn h |>.1
theorem s_s_l09Copy (k : Nat) : SpecGood Try.prog 48 (sp_s_l09Copy k) ∧ Enters Try.prog 48 := ⟨specGood_run (o_s_l09Copy k) mixed (n_s_l09Copy k) (d := k) [yEvent] [yEvent] [true, true] (fun x => s_l09Copy k x.1) (fun x => r_s_l09Copy k x.1), (fi_48).2⟩
theorem o_s_l09CopyList (k : Nat) : Ok Try.prog (c_s_l09CopyList k) := ok_of (map0) (ptr0) (eq0) (tab1 (ty_24) (tab1 (ty_34) (tab0))) (inl1 (fi_86) (inl0)) (spec1 (s_s_l09Copy k) (spec0)) (mspec0)
theorem n_s_l09CopyList (k : Nat) : ∀ f fn, look (c_s_l09CopyList k).inl f = some fn → Try.prog.funcs[f]? = some fn := fun f fn h => (show InlL Try.prog (c_s_l09CopyList k).inl from inl1 (fi_86) (inl0)) f fn h |>.1
theorem s_s_l09CopyList (k : Nat) : SpecGood Try.prog 86 (sp_s_l09CopyList k) ∧ Enters Try.prog 86 := ⟨specGood_run (o_s_l09CopyList k) mixed (n_s_l09CopyList k) (d := k) [(.slice 34 yEvent)] [(.slice 34 yEvent)] [true] (fun x => s_l09CopyList k x.1) (fun x => r_s_l09CopyList k x.1), (fi_86).2⟩
theorem o_s_l12Copy (k : Nat) : Ok Try.prog (c_s_l12Copy k) := ok_of (map0) (ptr0) (eq0) (tab1 (ty_24) (tab1 (ty_25) (tab1 (ty_26) (tab1 (ty_28) (tab1 (ty_30) (tab0)))))) (inl1 (fi_69) (inl0)) (spec1 (s_s_l09CopyList k) (spec0)) (mspec0)
theorem n_s_l12Copy (k : Nat) : ∀ f fn, look (c_s_l12Copy k).inl f = some fn → Try.prog.funcs[f]? = some fn := fun f fn h => (show InlL Try.prog (c_s_l12Copy k).inl from inl1 (fi_69) (inl0)) f fn h |>.1
theorem s_s_l12Copy (k : Nat) : SpecGood Try.prog 69 (sp_s_l12Copy k) ∧ Enters Try.prog 69 := ⟨specGood_run (o_s_l12Copy k) mixed (n_s_l12Copy k) (d := k) [yRoom] [yRoom] [true, true, true] (fun x => s_l12Copy k x.1) (fun x => r_s_l12Copy k x.1), (fi_69).2⟩
theorem o_s_l12Room (k : Nat) : Ok Try.prog (c_s_l12Room k) := ok_of (map0) (ptr0) (eq0) (tab1 (ty_28) (tab0)) (inl1 (fi_31) (inl0)) (spec1 (s_s_l12Size k) (spec1 (s_s_l12Add k) (spec1 (s_s_l12Copy k) (spec0)))) (mspec1 (s_s_l12Next k) (mspec0))
theorem n_s_l12Room (k : Nat) : ∀ f fn, look (c_s_l12Room k).inl f = some fn → Try.prog.funcs[f]? = some fn := fun f fn h => (show InlL Try.prog (c_s_l12Room k).inl from inl1 (fi_31) (inl0)) f fn h |>.1
theorem s_s_l12Room (k : Nat) : MGood Try.prog 31 (sp_s_l12Room k) ∧ Enters Try.prog 31 := ⟨mgood_run (o_s_l12Room k) mixed (n_s_l12Room k) (d := k) [.box yL01Cur, .imm (.slice 5 (.int .u8))] [yRoom] [true, true, true] (fun x => s_l12Room k x.1 x.2.1) (fun x => r_s_l12Room k x.1 x.2.1), (fi_31).2⟩
theorem o_s_l10Pair (k : Nat) : Ok Try.prog (c_s_l10Pair k) := ok_of (map0) (ptr0) (eq0) (tab1 (ty_3) (tab1 (ty_24) (tab1 (ty_25) (tab1 (ty_28) (tab1 (ty_30) (tab1 (ty_32) (tab1 (ty_52) (tab0)))))))) (inl1 (fi_63) (inl0)) (spec1 (s_s_l09CopyList k) (spec0)) (mspec1 (s_s_l12Room k) (mspec1 (s_s_l01PickInt k) (mspec1 (s_s_l01Below k) (mspec0))))
theorem n_s_l10Pair (k : Nat) : ∀ f fn, look (c_s_l10Pair k).inl f = some fn → Try.prog.funcs[f]? = some fn := fun f fn h => (show InlL Try.prog (c_s_l10Pair k).inl from inl1 (fi_63) (inl0)) f fn h |>.1
theorem s_s_l10Pair (k : Nat) : MGood Try.prog 63 (sp_s_l10Pair k) ∧ Enters Try.prog 63 := ⟨mgood_run (o_s_l10Pair k) mixed (n_s_l10Pair k) (d := k) [.box yL01Cur, .imm (.slice 5 (.int .u8))] [(.slice 34 yEvent), (.slice 52 yItem)] [true, true] (fun x => s_l10Pair k x.1 x.2.1) (fun x => r_s_l10Pair k x.1 x.2.1), (fi_63).2⟩
theorem o_s_DrawPut (k : Nat) : Ok Try.prog (c_s_DrawPut k) := ok_of (map0) (ptr0) (eq0) (tab1 (ty_3) (tab1 (ty_5) (tab1 (ty_22) (tab1 (ty_32) (tab1 (ty_83) (tab0)))))) (inl1 (fi_24) (inl1 (fi_32) (inl0))) (spec0) (mspec1 (s_s_l10Pair k) (mspec1 (s_s_l01PickInt k) (mspec0)))
theorem n_s_DrawPut (k : Nat) : ∀ f fn, look (c_s_DrawPut k).inl f = some fn → Try.prog.funcs[f]? = some fn := fun f fn h => (show InlL Try.prog (c_s_DrawPut k).inl from inl1 (fi_24) (inl1 (fi_32) (inl0))) f fn h |>.1
theorem s_s_DrawPut (k : Nat) : SpecGood Try.prog 24 (sp_s_DrawPut k) ∧ Enters Try.prog 24 := ⟨specGood_run (o_s_DrawPut k) mixed (n_s_DrawPut k) (d := k) [(.slice 5 (.int .u8))] [(.slice 52 yItem), (.int .i64), (.int .i64)] [true] (fun x => s_DrawPut k x.1) (fun x => r_s_DrawPut k x.1), (fi_24).2⟩
theorem o_i_within (k : Nat) : Ok Try.prog (c_i_within k) := ok_of (map0) (ptr0) (eq0) (tab0) (inl1 (fi_60) (inl0)) (spec0) (mspec0)
theorem n_i_within (k : Nat) : ∀ f fn, look (c_i_within k).inl f = some fn → Try.prog.funcs[f]? = some fn := fun f fn h => (show InlL Try.prog (c_i_within k).inl from inl1 (fi_60) (inl0)) f fn h |>.1
theorem s_i_within (k : Nat) : SpecGood Try.prog 60 (sp_i_within k) ∧ Enters Try.prog 60 := ⟨specGood_run (o_i_within k) mixed (n_i_within k) (d := k) [(.int .i64), (.int .i64), (.int .i64)] [.bool] [] (fun x => i_within k x.1 x.2.1 x.2.2.1) (fun x => r_i_within k x.1 x.2.1 x.2.2.1), (fi_60).2⟩
theorem o_i_StateOk (k : Nat) : Ok Try.prog (c_i_StateOk k) := ok_of (map0) (ptr0) (eq0) (tab1 (ty_3) (tab1 (ty_30) (tab1 (ty_52) (tab0)))) (inl1 (fi_28) (inl0)) (spec1 (s_i_within k) (spec0)) (mspec0)
theorem n_i_StateOk (k : Nat) : ∀ f fn, look (c_i_StateOk k).inl f = some fn → Try.prog.funcs[f]? = some fn := fun f fn h => (show InlL Try.prog (c_i_StateOk k).inl from inl1 (fi_28) (inl0)) f fn h |>.1
theorem s_i_StateOk (k : Nat) : SpecGood Try.prog 28 (sp_i_StateOk k) ∧ Enters Try.prog 28 := ⟨specGood_run (o_i_StateOk k) mixed (n_i_StateOk k) (d := k) [(.slice 52 yItem)] [.bool] [] (fun x => i_StateOk k x.1) (fun x => r_i_StateOk k x.1), (fi_28).2⟩
theorem s_slices_Insert_impl_Item_impl_Item (k : Nat) : MGood Try.prog 65 (sp_slices_Insert_impl_Item_impl_Item k) ∧ Enters Try.prog 65 := ⟨ins_mgood 52 yItem (by decide) (by intro h; injection h) ins65_walk, (fi_65).2⟩
theorem o_i_Put (k : Nat) : Ok Try.prog (c_i_Put k) := ok_of (map0) (ptr0) (eq0) (tab1 (ty_3) (tab1 (ty_30) (tab1 (ty_52) (tab0)))) (inl1 (fi_25) (inl0)) (spec1 (s_i_StateOk k) (spec0)) (mspec1 (s_slices_Insert_impl_Item_impl_Item k) (mspec0))
theorem n_i_Put (k : Nat) : ∀ f fn, look (c_i_Put k).inl f = some fn → Try.prog.funcs[f]? = some fn := fun f fn h => (show InlL Try.prog (c_i_Put k).inl from inl1 (fi_25) (inl0)) f fn h |>.1
theorem s_i_Put (k : Nat) : SpecGood Try.prog 25 (sp_i_Put k) ∧ Enters Try.prog 25 := ⟨specGood_run (o_i_Put k) mixed (n_i_Put k) (d := k) [(.slice 52 yItem), (.int .i64), (.int .i64)] [(.slice 52 yItem)] [true] (fun x => i_Put k x.1 x.2.1 x.2.2.1) (fun x => r_i_Put k x.1 x.2.1 x.2.2.1), (fi_25).2⟩
theorem o_l_sameState (k : Nat) : Ok Try.prog (c_l_sameState k) := ok_of (map0) (ptr0) (eq1 (eqt_52) (eq0)) (tab1 (ty_30) (tab1 (ty_52) (tab0))) (inl1 (fi_26) (inl0)) (spec0) (mspec0)
theorem n_l_sameState (k : Nat) : ∀ f fn, look (c_l_sameState k).inl f = some fn → Try.prog.funcs[f]? = some fn := fun f fn h => (show InlL Try.prog (c_l_sameState k).inl from inl1 (fi_26) (inl0)) f fn h |>.1
theorem s_l_sameState (k : Nat) : SpecGood Try.prog 26 (sp_l_sameState k) ∧ Enters Try.prog 26 := ⟨specGood_run (o_l_sameState k) mixed (n_l_sameState k) (d := k) [(.slice 52 yItem), (.slice 52 yItem)] [.bool] [] (fun x => l_sameState k x.1 x.2.1) (fun x => r_l_sameState k x.1 x.2.1), (fi_26).2⟩
theorem o_i_At (k : Nat) : Ok Try.prog (c_i_At k) := ok_of (map0) (ptr0) (eq0) (tab1 (ty_3) (tab1 (ty_30) (tab1 (ty_52) (tab0)))) (inl1 (fi_30) (inl0)) (spec0) (mspec0)
theorem n_i_At (k : Nat) : ∀ f fn, look (c_i_At k).inl f = some fn → Try.prog.funcs[f]? = some fn := fun f fn h => (show InlL Try.prog (c_i_At k).inl from inl1 (fi_30) (inl0)) f fn h |>.1
theorem s_i_At (k : Nat) : SpecGood Try.prog 30 (sp_i_At k) ∧ Enters Try.prog 30 := ⟨specGood_run (o_i_At k) mixed (n_i_At k) (d := k) [(.slice 52 yItem), (.int .i64)] [(.int .i64)] [] (fun x => i_At k x.1 x.2.1) (fun x => r_i_At k x.1 x.2.1), (fi_30).2⟩
theorem o_l_FnStates (k : Nat) : Ok Try.prog (c_l_FnStates k) := ok_of (map0) (ptr0) (eq0) (tab1 (ty_3) (tab1 (ty_4) (tab1 (ty_30) (tab1 (ty_52) (tab0))))) (inl1 (fi_7) (inl0)) (spec1 (s_l_big k) (spec1 (s_s_DrawPut k) (spec1 (s_i_Put k) (spec1 (s_l_sameState k) (spec1 (s_s_Put k) (spec1 (s_i_StateOk k) (spec1 (s_s_StateOk k) (spec1 (s_i_At k) (spec0))))))))) (mspec0)
theorem n_l_FnStates (k : Nat) : ∀ f fn, look (c_l_FnStates k).inl f = some fn → Try.prog.funcs[f]? = some fn := fun f fn h => (show InlL Try.prog (c_l_FnStates k).inl from inl1 (fi_7) (inl0)) f fn h |>.1
theorem s_l_FnStates (k : Nat) : SpecGood Try.prog 7 (sp_l_FnStates k) ∧ Enters Try.prog 7 := ⟨specGood_run (o_l_FnStates k) mixed (n_l_FnStates k) (d := k) [(.slice 5 (.int .u8))] [.bool] [] (fun x => l_FnStates k x.1) (fun x => r_l_FnStates k x.1), (fi_7).2⟩
end Go.Vm
