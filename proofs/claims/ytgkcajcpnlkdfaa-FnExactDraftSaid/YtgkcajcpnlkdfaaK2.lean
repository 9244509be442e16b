/- The functions keep their specifications. -/
import Derived.Test.YtgkcajcpnlkdfaaH2
import Derived.Test.YtgkcajcpnlkdfaaChecked
import Derived.Test.YtgkcajcpnlkdfaaLy
set_option linter.unusedVariables false
namespace Go.Vm
open Go Go.Proofs
theorem mixed : Try.prog.follows .mixedOrders = true := Try.checked.mixed
def NOk (c : Cfg) : Prop := ∀ f fn, look c.inl f = some fn → Try.prog.funcs[f]? = some fn
theorem nok {c : Cfg} (h : InlL Try.prog c.inl) : NOk c := fun f fn e => (h f fn e).1
abbrev SG (f : FuncId) (s : Spec) : Prop := SpecGood Try.prog f s ∧ Enters Try.prog f
abbrev FI (n : FuncId) (f : Func) : Prop := Try.prog.funcs[n]? = some f ∧ Enters Try.prog n
theorem ty_3 : TyOk Try.prog (.int .i64) 3 := tyB_sound _ _ _ [] (by kernel_rfl)
theorem ty_4 : TyOk Try.prog .bool 4 := tyB_sound _ _ _ [] (by kernel_rfl)
theorem ty_5 : TyOk Try.prog (.int .u8) 5 := tyB_sound _ _ _ [] (by kernel_rfl)
theorem ty_9 : TyOk Try.prog .str 9 := tyB_sound _ _ _ [] (by kernel_rfl)
theorem ty_22 : TyOk Try.prog (.slice 65 yEvent) 22 := tyB_sound _ _ _ [] (by kernel_rfl)
theorem ty_24 : TyOk Try.prog (.slice 3 (.int .i64)) 24 := tyB_sound _ _ _ [] (by kernel_rfl)
theorem ty_26 : TyOk Try.prog yEvent 26 := tyB_sound _ _ _ [] (by kernel_rfl)
theorem ty_29 : TyOk Try.prog (.slice 26 yEvent) 29 := tyB_sound _ _ _ [] (by kernel_rfl)
theorem ty_36 : TyOk Try.prog (.slice 64 (.slice 96 yItem)) 36 := tyB_sound _ _ _ [] (by kernel_rfl)
theorem ty_37 : TyOk Try.prog (.slice 4 .bool) 37 := tyB_sound _ _ _ [] (by kernel_rfl)
theorem ty_39 : TyOk Try.prog yRoom 39 := tyB_sound _ _ _ [] (by kernel_rfl)
theorem ty_41 : TyOk Try.prog (.slice 9 .str) 41 := tyB_sound _ _ _ [] (by kernel_rfl)
theorem ty_43 : TyOk Try.prog (.slice 53 (.slice 91 yItem)) 43 := tyB_sound _ _ _ [] (by kernel_rfl)
theorem ty_45 : TyOk Try.prog yRoom1 45 := tyB_sound _ _ _ [] (by kernel_rfl)
theorem ty_53 : TyOk Try.prog (.slice 91 yItem) 53 := tyB_sound _ _ _ [] (by kernel_rfl)
theorem ty_64 : TyOk Try.prog (.slice 96 yItem) 64 := tyB_sound _ _ _ [] (by kernel_rfl)
theorem ty_65 : TyOk Try.prog yEvent 65 := tyB_sound _ _ _ [] (by kernel_rfl)
theorem ty_91 : TyOk Try.prog yItem 91 := tyB_sound _ _ _ [] (by kernel_rfl)
theorem ty_96 : TyOk Try.prog yItem 96 := tyB_sound _ _ _ [] (by kernel_rfl)
theorem ty_110 : TyOk Try.prog (.slice 5 (.int .u8)) 110 := tyB_sound _ _ _ [] (by kernel_rfl)
theorem fi_3 : FI 3 Try.f3 := ⟨Try.func3, enters_of Try.func3 (by kernel_rfl) rfl⟩
theorem fi_4 : FI 4 Try.f4 := ⟨Try.func4, enters_of Try.func4 (by kernel_rfl) rfl⟩
theorem fi_5 : FI 5 Try.f5 := ⟨Try.func5, enters_of Try.func5 (by kernel_rfl) rfl⟩
theorem fi_6 : FI 6 Try.f6 := ⟨Try.func6, enters_of Try.func6 (by kernel_rfl) rfl⟩
theorem fi_7 : FI 7 Try.f7 := ⟨Try.func7, enters_of Try.func7 (by kernel_rfl) rfl⟩
theorem fi_8 : FI 8 Try.f8 := ⟨Try.func8, enters_of Try.func8 (by kernel_rfl) rfl⟩
theorem fi_9 : FI 9 Try.f9 := ⟨Try.func9, enters_of Try.func9 (by kernel_rfl) rfl⟩
theorem fi_11 : FI 11 Try.f11 := ⟨Try.func11, enters_of Try.func11 (by kernel_rfl) rfl⟩
theorem fi_12 : FI 12 Try.f12 := ⟨Try.func12, enters_of Try.func12 (by kernel_rfl) rfl⟩
theorem fi_13 : FI 13 Try.f13 := ⟨Try.func13, enters_of Try.func13 (by kernel_rfl) rfl⟩
theorem fi_14 : FI 14 Try.f14 := ⟨Try.func14, enters_of Try.func14 (by kernel_rfl) rfl⟩
theorem fi_15 : FI 15 Try.f15 := ⟨Try.func15, enters_of Try.func15 (by kernel_rfl) rfl⟩
theorem fi_16 : FI 16 Try.f16 := ⟨Try.func16, enters_of Try.func16 (by kernel_rfl) rfl⟩
theorem fi_17 : FI 17 Try.f17 := ⟨Try.func17, enters_of Try.func17 (by kernel_rfl) rfl⟩
theorem fi_18 : FI 18 Try.f18 := ⟨Try.func18, enters_of Try.func18 (by kernel_rfl) rfl⟩
theorem fi_19 : FI 19 Try.f19 := ⟨Try.func19, enters_of Try.func19 (by kernel_rfl) rfl⟩
theorem fi_20 : FI 20 Try.f20 := ⟨Try.func20, enters_of Try.func20 (by kernel_rfl) rfl⟩
theorem fi_21 : FI 21 Try.f21 := ⟨Try.func21, enters_of Try.func21 (by kernel_rfl) rfl⟩
theorem fi_22 : FI 22 Try.f22 := ⟨Try.func22, enters_of Try.func22 (by kernel_rfl) rfl⟩
theorem fi_23 : FI 23 Try.f23 := ⟨Try.func23, enters_of Try.func23 (by kernel_rfl) rfl⟩
theorem fi_24 : FI 24 Try.f24 := ⟨Try.func24, enters_of Try.func24 (by kernel_rfl) rfl⟩
theorem fi_25 : FI 25 Try.f25 := ⟨Try.func25, enters_of Try.func25 (by kernel_rfl) rfl⟩
theorem fi_26 : FI 26 Try.f26 := ⟨Try.func26, enters_of Try.func26 (by kernel_rfl) rfl⟩
theorem fi_27 : FI 27 Try.f27 := ⟨Try.func27, enters_of Try.func27 (by kernel_rfl) rfl⟩
theorem fi_28 : FI 28 Try.f28 := ⟨Try.func28, enters_of Try.func28 (by kernel_rfl) rfl⟩
theorem fi_29 : FI 29 Try.f29 := ⟨Try.func29, enters_of Try.func29 (by kernel_rfl) rfl⟩
theorem fi_30 : FI 30 Try.f30 := ⟨Try.func30, enters_of Try.func30 (by kernel_rfl) rfl⟩
theorem fi_31 : FI 31 Try.f31 := ⟨Try.func31, enters_of Try.func31 (by kernel_rfl) rfl⟩
theorem fi_32 : FI 32 Try.f32 := ⟨Try.func32, enters_of Try.func32 (by kernel_rfl) rfl⟩
theorem fi_33 : FI 33 Try.f33 := ⟨Try.func33, enters_of Try.func33 (by kernel_rfl) rfl⟩
theorem fi_34 : FI 34 Try.f34 := ⟨Try.func34, enters_of Try.func34 (by kernel_rfl) rfl⟩
theorem fi_35 : FI 35 Try.f35 := ⟨Try.func35, enters_of Try.func35 (by kernel_rfl) rfl⟩
theorem fi_36 : FI 36 Try.f36 := ⟨Try.func36, enters_of Try.func36 (by kernel_rfl) rfl⟩
theorem fi_37 : FI 37 Try.f37 := ⟨Try.func37, enters_of Try.func37 (by kernel_rfl) rfl⟩
theorem fi_38 : FI 38 Try.f38 := ⟨Try.func38, enters_of Try.func38 (by kernel_rfl) rfl⟩
theorem fi_39 : FI 39 Try.f39 := ⟨Try.func39, enters_of Try.func39 (by kernel_rfl) rfl⟩
theorem fi_40 : FI 40 Try.f40 := ⟨Try.func40, enters_of Try.func40 (by kernel_rfl) rfl⟩
theorem fi_41 : FI 41 Try.f41 := ⟨Try.func41, enters_of Try.func41 (by kernel_rfl) rfl⟩
theorem fi_42 : FI 42 Try.f42 := ⟨Try.func42, enters_of Try.func42 (by kernel_rfl) rfl⟩
theorem fi_43 : FI 43 Try.f43 := ⟨Try.func43, enters_of Try.func43 (by kernel_rfl) rfl⟩
theorem fi_44 : FI 44 Try.f44 := ⟨Try.func44, enters_of Try.func44 (by kernel_rfl) rfl⟩
theorem fi_45 : FI 45 Try.f45 := ⟨Try.func45, enters_of Try.func45 (by kernel_rfl) rfl⟩
theorem fi_46 : FI 46 Try.f46 := ⟨Try.func46, enters_of Try.func46 (by kernel_rfl) rfl⟩
theorem fi_47 : FI 47 Try.f47 := ⟨Try.func47, enters_of Try.func47 (by kernel_rfl) rfl⟩
theorem fi_48 : FI 48 Try.f48 := ⟨Try.func48, enters_of Try.func48 (by kernel_rfl) rfl⟩
theorem fi_49 : FI 49 Try.f49 := ⟨Try.func49, enters_of Try.func49 (by kernel_rfl) rfl⟩
theorem fi_50 : FI 50 Try.f50 := ⟨Try.func50, enters_of Try.func50 (by kernel_rfl) rfl⟩
theorem fi_51 : FI 51 Try.f51 := ⟨Try.func51, enters_of Try.func51 (by kernel_rfl) rfl⟩
theorem fi_52 : FI 52 Try.f52 := ⟨Try.func52, enters_of Try.func52 (by kernel_rfl) rfl⟩
theorem fi_58 : FI 58 Try.f58 := ⟨Try.func58, enters_of Try.func58 (by kernel_rfl) rfl⟩
theorem fi_59 : FI 59 Try.f59 := ⟨Try.func59, enters_of Try.func59 (by kernel_rfl) rfl⟩
theorem fi_60 : FI 60 Try.f60 := ⟨Try.func60, enters_of Try.func60 (by kernel_rfl) rfl⟩
theorem fi_61 : FI 61 Try.f61 := ⟨Try.func61, enters_of Try.func61 (by kernel_rfl) rfl⟩
theorem fi_62 : FI 62 Try.f62 := ⟨Try.func62, enters_of Try.func62 (by kernel_rfl) rfl⟩
theorem fi_63 : FI 63 Try.f63 := ⟨Try.func63, enters_of Try.func63 (by kernel_rfl) rfl⟩
theorem fi_64 : FI 64 Try.f64 := ⟨Try.func64, enters_of Try.func64 (by kernel_rfl) rfl⟩
theorem fi_65 : FI 65 Try.f65 := ⟨Try.func65, enters_of Try.func65 (by kernel_rfl) rfl⟩
theorem fi_66 : FI 66 Try.f66 := ⟨Try.func66, enters_of Try.func66 (by kernel_rfl) rfl⟩
theorem fi_67 : FI 67 Try.f67 := ⟨Try.func67, enters_of Try.func67 (by kernel_rfl) rfl⟩
theorem fi_68 : FI 68 Try.f68 := ⟨Try.func68, enters_of Try.func68 (by kernel_rfl) rfl⟩
theorem fi_69 : FI 69 Try.f69 := ⟨Try.func69, enters_of Try.func69 (by kernel_rfl) rfl⟩
theorem fi_70 : FI 70 Try.f70 := ⟨Try.func70, enters_of Try.func70 (by kernel_rfl) rfl⟩
theorem fi_71 : FI 71 Try.f71 := ⟨Try.func71, enters_of Try.func71 (by kernel_rfl) rfl⟩
theorem fi_72 : FI 72 Try.f72 := ⟨Try.func72, enters_of Try.func72 (by kernel_rfl) rfl⟩
theorem fi_73 : FI 73 Try.f73 := ⟨Try.func73, enters_of Try.func73 (by kernel_rfl) rfl⟩
theorem fi_74 : FI 74 Try.f74 := ⟨Try.func74, enters_of Try.func74 (by kernel_rfl) rfl⟩
theorem fi_75 : FI 75 Try.f75 := ⟨Try.func75, enters_of Try.func75 (by kernel_rfl) rfl⟩
theorem fi_76 : FI 76 Try.f76 := ⟨Try.func76, enters_of Try.func76 (by kernel_rfl) rfl⟩
theorem fi_77 : FI 77 Try.f77 := ⟨Try.func77, enters_of Try.func77 (by kernel_rfl) rfl⟩
theorem fi_78 : FI 78 Try.f78 := ⟨Try.func78, enters_of Try.func78 (by kernel_rfl) rfl⟩
theorem fi_79 : FI 79 Try.f79 := ⟨Try.func79, enters_of Try.func79 (by kernel_rfl) rfl⟩
theorem fi_80 : FI 80 Try.f80 := ⟨Try.func80, enters_of Try.func80 (by kernel_rfl) rfl⟩
theorem fi_81 : FI 81 Try.f81 := ⟨Try.func81, enters_of Try.func81 (by kernel_rfl) rfl⟩
theorem fi_82 : FI 82 Try.f82 := ⟨Try.func82, enters_of Try.func82 (by kernel_rfl) rfl⟩
theorem fi_83 : FI 83 Try.f83 := ⟨Try.func83, enters_of Try.func83 (by kernel_rfl) rfl⟩
theorem fi_84 : FI 84 Try.f84 := ⟨Try.func84, enters_of Try.func84 (by kernel_rfl) rfl⟩
theorem fi_85 : FI 85 Try.f85 := ⟨Try.func85, enters_of Try.func85 (by kernel_rfl) rfl⟩
theorem fi_86 : FI 86 Try.f86 := ⟨Try.func86, enters_of Try.func86 (by kernel_rfl) rfl⟩
theorem fi_87 : FI 87 Try.f87 := ⟨Try.func87, enters_of Try.func87 (by kernel_rfl) rfl⟩
theorem fi_88 : FI 88 Try.f88 := ⟨Try.func88, enters_of Try.func88 (by kernel_rfl) rfl⟩
theorem fi_96 : FI 96 Try.f96 := ⟨Try.func96, enters_of Try.func96 (by kernel_rfl) rfl⟩
theorem fi_97 : FI 97 Try.f97 := ⟨Try.func97, enters_of Try.func97 (by kernel_rfl) rfl⟩
theorem fi_100 : FI 100 Try.f100 := ⟨Try.func100, enters_of Try.func100 (by kernel_rfl) rfl⟩
theorem fi_101 : FI 101 Try.f101 := ⟨Try.func101, enters_of Try.func101 (by kernel_rfl) rfl⟩
theorem fi_102 : FI 102 Try.f102 := ⟨Try.func102, enters_of Try.func102 (by kernel_rfl) rfl⟩
theorem fi_108 : FI 108 Try.f108 := ⟨Try.func108, enters_of Try.func108 (by kernel_rfl) rfl⟩
theorem o_l_szIntS (k : Nat) : Ok Try.prog (c_l_szIntS k) := ok_of (map0) (ptr0) (eq0) (tab1 (ty_24) (tab0)) (inl1 (fi_74) (inl0)) (spec0) (mspec0)
theorem n_l_szIntS (k : Nat) : NOk (c_l_szIntS k) := nok (inl1 (fi_74) (inl0))
theorem s_l_szIntS (k : Nat) : SG 74 (sp_l_szIntS k) := ⟨specGood_run (o_l_szIntS k) mixed (n_l_szIntS k) (d := k) [(.slice 3 (.int .i64)), (.int .i64)] [(.int .i64)] [] (fun x => l_szIntS k x.1 x.2.1) (fun x => r_l_szIntS k x.1 x.2.1), (fi_74).2⟩
theorem o_l_szEvent (k : Nat) : Ok Try.prog (c_l_szEvent k) := ok_of (map0) (ptr0) (eq0) (tab1 (ty_9) (tab1 (ty_24) (tab1 (ty_65) (tab0)))) (inl1 (fi_44) (inl0)) (spec1 (s_l_szIntS k) (spec0)) (mspec0)
theorem n_l_szEvent (k : Nat) : NOk (c_l_szEvent k) := nok (inl1 (fi_44) (inl0))
theorem s_l_szEvent (k : Nat) : SG 44 (sp_l_szEvent k) := ⟨specGood_run (o_l_szEvent k) mixed (n_l_szEvent k) (d := k) [yEvent, (.int .i64)] [(.int .i64)] [] (fun x => l_szEvent k x.1 x.2.1) (fun x => r_l_szEvent k x.1 x.2.1), (fi_44).2⟩
theorem o_l_szEventS (k : Nat) : Ok Try.prog (c_l_szEventS k) := ok_of (map0) (ptr0) (eq0) (tab1 (ty_22) (tab1 (ty_65) (tab0))) (inl1 (fi_11) (inl0)) (spec1 (s_l_szEvent k) (spec0)) (mspec0)
theorem n_l_szEventS (k : Nat) : NOk (c_l_szEventS k) := nok (inl1 (fi_11) (inl0))
theorem s_l_szEventS (k : Nat) : SG 11 (sp_l_szEventS k) := ⟨specGood_run (o_l_szEventS k) mixed (n_l_szEventS k) (d := k) [(.slice 65 yEvent), (.int .i64)] [(.int .i64)] [] (fun x => l_szEventS k x.1 x.2.1) (fun x => r_l_szEventS k x.1 x.2.1), (fi_11).2⟩
theorem o_s_l10Find (k : Nat) : Ok Try.prog (c_s_l10Find k) := ok_of (map0) (ptr0) (eq0) (tab1 (ty_3) (tab1 (ty_26) (tab1 (ty_29) (tab0)))) (inl1 (fi_58) (inl0)) (spec0) (mspec0)
theorem n_s_l10Find (k : Nat) : NOk (c_s_l10Find k) := nok (inl1 (fi_58) (inl0))
theorem s_s_l10Find (k : Nat) : SG 58 (sp_s_l10Find k) := ⟨specGood_run (o_s_l10Find k) mixed (n_s_l10Find k) (d := k) [(.slice 26 yEvent), (.int .i64)] [yEvent, .bool] [.s, .s] (fun x => s_l10Find k x.1 x.2.1) (fun x => r_s_l10Find k x.1 x.2.1), (fi_58).2⟩
theorem o_s_l09Copy (k : Nat) : Ok Try.prog (c_s_l09Copy k) := ok_of (map0) (ptr0) (eq0) (tab1 (ty_24) (tab1 (ty_26) (tab0))) (inl1 (fi_59) (inl0)) (spec0) (mspec0)
theorem n_s_l09Copy (k : Nat) : NOk (c_s_l09Copy k) := nok (inl1 (fi_59) (inl0))
theorem s_s_l09Copy (k : Nat) : SG 59 (sp_s_l09Copy k) := ⟨specGood_run (o_s_l09Copy k) mixed (n_s_l09Copy k) (d := k) [yEvent] [yEvent] [.o, .o] (fun x => s_l09Copy k x.1) (fun x => r_s_l09Copy k x.1), (fi_59).2⟩
theorem o_s_Known (k : Nat) : Ok Try.prog (c_s_Known k) := ok_of (map0) (ptr0) (eq0) (tab1 (ty_26) (tab0)) (inl1 (fi_12) (inl0)) (spec1 (s_s_l10Find k) (spec1 (s_s_l09Copy k) (spec0))) (mspec0)
theorem n_s_Known (k : Nat) : NOk (c_s_Known k) := nok (inl1 (fi_12) (inl0))
theorem s_s_Known (k : Nat) : SG 12 (sp_s_Known k) := ⟨specGood_run (o_s_Known k) mixed (n_s_Known k) (d := k) [(.slice 26 yEvent), (.int .i64)] [yEvent, .bool] [.o, .o] (fun x => s_Known k x.1 x.2.1) (fun x => r_s_Known k x.1 x.2.1), (fi_12).2⟩
theorem o_l_toIntS (k : Nat) : Ok Try.prog (c_l_toIntS k) := ok_of (map0) (ptr0) (eq0) (tab1 (ty_3) (tab1 (ty_24) (tab0))) (inl1 (fi_78) (inl0)) (spec0) (mspec0)
theorem n_l_toIntS (k : Nat) : NOk (c_l_toIntS k) := nok (inl1 (fi_78) (inl0))
theorem s_l_toIntS (k : Nat) : SG 78 (sp_l_toIntS k) := ⟨specGood_run (o_l_toIntS k) mixed (n_l_toIntS k) (d := k) [(.slice 3 (.int .i64))] [(.slice 3 (.int .i64))] [.o] (fun x => l_toIntS k x.1) (fun x => r_l_toIntS k x.1), (fi_78).2⟩
theorem o_l_toEvent (k : Nat) : Ok Try.prog (c_l_toEvent k) := ok_of (map0) (ptr0) (eq0) (tab1 (ty_3) (tab1 (ty_9) (tab1 (ty_24) (tab1 (ty_26) (tab1 (ty_65) (tab0)))))) (inl1 (fi_47) (inl0)) (spec1 (s_l_toIntS k) (spec0)) (mspec0)
theorem n_l_toEvent (k : Nat) : NOk (c_l_toEvent k) := nok (inl1 (fi_47) (inl0))
theorem s_l_toEvent (k : Nat) : SG 47 (sp_l_toEvent k) := ⟨specGood_run (o_l_toEvent k) mixed (n_l_toEvent k) (d := k) [yEvent] [yEvent] [.o, .o] (fun x => l_toEvent k x.1) (fun x => r_l_toEvent k x.1), (fi_47).2⟩
theorem o_l_toEventS (k : Nat) : Ok Try.prog (c_l_toEventS k) := ok_of (map0) (ptr0) (eq0) (tab1 (ty_22) (tab1 (ty_26) (tab1 (ty_29) (tab1 (ty_65) (tab0))))) (inl1 (fi_13) (inl0)) (spec1 (s_l_toEvent k) (spec0)) (mspec0)
theorem n_l_toEventS (k : Nat) : NOk (c_l_toEventS k) := nok (inl1 (fi_13) (inl0))
theorem s_l_toEventS (k : Nat) : SG 13 (sp_l_toEventS k) := ⟨specGood_run (o_l_toEventS k) mixed (n_l_toEventS k) (d := k) [(.slice 65 yEvent)] [(.slice 26 yEvent)] [.t] (fun x => l_toEventS k x.1) (fun x => r_l_toEventS k x.1), (fi_13).2⟩
theorem o_i_copyEvent (k : Nat) : Ok Try.prog (c_i_copyEvent k) := ok_of (map0) (ptr0) (eq0) (tab1 (ty_24) (tab1 (ty_26) (tab0))) (inl1 (fi_60) (inl0)) (spec0) (mspec0)
theorem n_i_copyEvent (k : Nat) : NOk (c_i_copyEvent k) := nok (inl1 (fi_60) (inl0))
theorem s_i_copyEvent (k : Nat) : SG 60 (sp_i_copyEvent k) := ⟨specGood_run (o_i_copyEvent k) mixed (n_i_copyEvent k) (d := k) [yEvent] [yEvent] [.o, .o] (fun x => i_copyEvent k x.1) (fun x => r_i_copyEvent k x.1), (fi_60).2⟩
theorem o_i_Known (k : Nat) : Ok Try.prog (c_i_Known k) := ok_of (map0) (ptr0) (eq0) (tab1 (ty_3) (tab1 (ty_26) (tab1 (ty_29) (tab0)))) (inl1 (fi_14) (inl0)) (spec1 (s_i_copyEvent k) (spec0)) (mspec0)
theorem n_i_Known (k : Nat) : NOk (c_i_Known k) := nok (inl1 (fi_14) (inl0))
theorem s_i_Known (k : Nat) : SG 14 (sp_i_Known k) := ⟨specGood_run (o_i_Known k) mixed (n_i_Known k) (d := k) [(.slice 26 yEvent), (.int .i64)] [yEvent, .bool] [.o, .o] (fun x => i_Known k x.1 x.2.1) (fun x => r_i_Known k x.1 x.2.1), (fi_14).2⟩
theorem o_l_eqIntS (k : Nat) : Ok Try.prog (c_l_eqIntS k) := ok_of (map0) (ptr0) (eq0) (tab1 (ty_3) (tab1 (ty_24) (tab0))) (inl1 (fi_40) (inl0)) (spec0) (mspec0)
theorem n_l_eqIntS (k : Nat) : NOk (c_l_eqIntS k) := nok (inl1 (fi_40) (inl0))
theorem s_l_eqIntS (k : Nat) : SG 40 (sp_l_eqIntS k) := ⟨specGood_run (o_l_eqIntS k) mixed (n_l_eqIntS k) (d := k) [(.slice 3 (.int .i64)), (.slice 3 (.int .i64))] [.bool] [] (fun x => l_eqIntS k x.1 x.2.1) (fun x => r_l_eqIntS k x.1 x.2.1), (fi_40).2⟩
theorem o_l_eqEvent (k : Nat) : Ok Try.prog (c_l_eqEvent k) := ok_of (map0) (ptr0) (eq0) (tab1 (ty_3) (tab1 (ty_9) (tab1 (ty_24) (tab1 (ty_26) (tab0))))) (inl1 (fi_15) (inl0)) (spec1 (s_l_eqIntS k) (spec0)) (mspec0)
theorem n_l_eqEvent (k : Nat) : NOk (c_l_eqEvent k) := nok (inl1 (fi_15) (inl0))
theorem s_l_eqEvent (k : Nat) : SG 15 (sp_l_eqEvent k) := ⟨specGood_run (o_l_eqEvent k) mixed (n_l_eqEvent k) (d := k) [yEvent, yEvent] [.bool] [] (fun x => l_eqEvent k x.1 x.2.1) (fun x => r_l_eqEvent k x.1 x.2.1), (fi_15).2⟩
theorem o_l_eqEventS (k : Nat) : Ok Try.prog (c_l_eqEventS k) := ok_of (map0) (ptr0) (eq0) (tab1 (ty_26) (tab1 (ty_29) (tab0))) (inl1 (fi_16) (inl0)) (spec1 (s_l_eqEvent k) (spec0)) (mspec0)
theorem n_l_eqEventS (k : Nat) : NOk (c_l_eqEventS k) := nok (inl1 (fi_16) (inl0))
theorem s_l_eqEventS (k : Nat) : SG 16 (sp_l_eqEventS k) := ⟨specGood_run (o_l_eqEventS k) mixed (n_l_eqEventS k) (d := k) [(.slice 26 yEvent), (.slice 26 yEvent)] [.bool] [] (fun x => l_eqEventS k x.1 x.2.1) (fun x => r_l_eqEventS k x.1 x.2.1), (fi_16).2⟩
theorem o_l_markIntS (k : Nat) : Ok Try.prog (c_l_markIntS k) := ok_of (map0) (ptr0) (eq0) (tab1 (ty_3) (tab1 (ty_24) (tab0))) (inl1 (fi_41) (inl0)) (spec0) (mspec0)
theorem n_l_markIntS (k : Nat) : NOk (c_l_markIntS k) := nok (inl1 (fi_41) (inl0))
theorem s_l_markIntS (k : Nat) : MGood Try.prog 41 (sp_l_markIntS k) ∧ Enters Try.prog 41 := ⟨mgood_run (o_l_markIntS k) mixed (n_l_markIntS k) (d := k) [.row 3 (.int .i64), .imm (.int .i64)] [(.int .i64)] [] (fun x => l_markIntS k x.1 x.2.1) (fun x => r_l_markIntS k x.1 x.2.1), (fi_41).2⟩
theorem o_l_markText (k : Nat) : Ok Try.prog (c_l_markText k) := ok_of (map0) (ptr0) (eq0) (tab1 (ty_3) (tab1 (ty_5) (tab1 (ty_9) (tab1 (ty_110) (tab0))))) (inl1 (fi_61) (inl0)) (spec0) (mspec0)
theorem n_l_markText (k : Nat) : NOk (c_l_markText k) := nok (inl1 (fi_61) (inl0))
theorem s_l_markText (k : Nat) : SG 61 (sp_l_markText k) := ⟨specGood_run (o_l_markText k) mixed (n_l_markText k) (d := k) [(.int .i64)] [.str] [] (fun x => l_markText k x.1) (fun x => r_l_markText k x.1), (fi_61).2⟩
theorem o_l_markEventS (k : Nat) : Ok Try.prog (c_l_markEventS k) := ok_of (map0) (ptr0) (eq0) (tab1 (ty_3) (tab1 (ty_9) (tab1 (ty_24) (tab1 (ty_26) (tab1 (ty_29) (tab0)))))) (inl1 (fi_17) (inl0)) (spec1 (s_l_markText k) (spec0)) (mspec1 (s_l_markIntS k) (mspec0))
theorem n_l_markEventS (k : Nat) : NOk (c_l_markEventS k) := nok (inl1 (fi_17) (inl0))
theorem s_l_markEventS (k : Nat) : MGood Try.prog 17 (sp_l_markEventS k) ∧ Enters Try.prog 17 := ⟨mgood_run (o_l_markEventS k) mixed (n_l_markEventS k) (d := k) [.tree 26 yEvent, .imm (.int .i64)] [(.int .i64)] [] (fun x => l_markEventS k x.1 x.2.1) (fun x => r_l_markEventS k x.1 x.2.1), (fi_17).2⟩
theorem o_l_heldIntS (k : Nat) : Ok Try.prog (c_l_heldIntS k) := ok_of (map0) (ptr0) (eq0) (tab1 (ty_3) (tab1 (ty_24) (tab0))) (inl1 (fi_42) (inl0)) (spec0) (mspec0)
theorem n_l_heldIntS (k : Nat) : NOk (c_l_heldIntS k) := nok (inl1 (fi_42) (inl0))
theorem s_l_heldIntS (k : Nat) : SG 42 (sp_l_heldIntS k) := ⟨specGood_run (o_l_heldIntS k) mixed (n_l_heldIntS k) (d := k) [(.slice 3 (.int .i64)), (.int .i64)] [(.int .i64)] [] (fun x => l_heldIntS k x.1 x.2.1) (fun x => r_l_heldIntS k x.1 x.2.1), (fi_42).2⟩
theorem o_l_heldEvent (k : Nat) : Ok Try.prog (c_l_heldEvent k) := ok_of (map0) (ptr0) (eq0) (tab1 (ty_24) (tab1 (ty_26) (tab0))) (inl1 (fi_19) (inl0)) (spec1 (s_l_heldIntS k) (spec0)) (mspec0)
theorem n_l_heldEvent (k : Nat) : NOk (c_l_heldEvent k) := nok (inl1 (fi_19) (inl0))
theorem s_l_heldEvent (k : Nat) : SG 19 (sp_l_heldEvent k) := ⟨specGood_run (o_l_heldEvent k) mixed (n_l_heldEvent k) (d := k) [yEvent, (.int .i64)] [(.int .i64)] [] (fun x => l_heldEvent k x.1 x.2.1) (fun x => r_l_heldEvent k x.1 x.2.1), (fi_19).2⟩
theorem o_l_FnExactKnown (k : Nat) : Ok Try.prog (c_l_FnExactKnown k) := ok_of (map0) (ptr0) (eq0) (tab1 (ty_4) (tab1 (ty_24) (tab1 (ty_26) (tab0)))) (inl1 (fi_3) (inl1 (fi_18) (inl0))) (spec1 (s_l_szEventS k) (spec1 (s_s_Known k) (spec1 (s_l_toEventS k) (spec1 (s_i_Known k) (spec1 (s_l_eqEvent k) (spec1 (s_l_eqEventS k) (spec1 (s_l_heldEvent k) (spec0)))))))) (mspec1 (s_l_markEventS k) (mspec1 (s_l_markIntS k) (mspec0)))
theorem n_l_FnExactKnown (k : Nat) : NOk (c_l_FnExactKnown k) := nok (inl1 (fi_3) (inl1 (fi_18) (inl0)))
theorem s_l_FnExactKnown (k : Nat) : SG 3 (sp_l_FnExactKnown k) := ⟨specGood_run (o_l_FnExactKnown k) mixed (n_l_FnExactKnown k) (d := k) [(.slice 65 yEvent), (.int .i64)] [.bool] [] (fun x => l_FnExactKnown k x.1 x.2.1) (fun x => r_l_FnExactKnown k x.1 x.2.1), (fi_3).2⟩
theorem o_l_szItemS (k : Nat) : Ok Try.prog (c_l_szItemS k) := ok_of (map0) (ptr0) (eq0) (tab1 (ty_64) (tab0)) (inl1 (fi_43) (inl0)) (spec0) (mspec0)
theorem n_l_szItemS (k : Nat) : NOk (c_l_szItemS k) := nok (inl1 (fi_43) (inl0))
theorem s_l_szItemS (k : Nat) : SG 43 (sp_l_szItemS k) := ⟨specGood_run (o_l_szItemS k) mixed (n_l_szItemS k) (d := k) [(.slice 96 yItem), (.int .i64)] [(.int .i64)] [] (fun x => l_szItemS k x.1 x.2.1) (fun x => r_l_szItemS k x.1 x.2.1), (fi_43).2⟩
theorem o_l_szItemSS (k : Nat) : Ok Try.prog (c_l_szItemSS k) := ok_of (map0) (ptr0) (eq0) (tab1 (ty_36) (tab1 (ty_64) (tab0))) (inl1 (fi_29) (inl0)) (spec1 (s_l_szItemS k) (spec0)) (mspec0)
theorem n_l_szItemSS (k : Nat) : NOk (c_l_szItemSS k) := nok (inl1 (fi_29) (inl0))
theorem s_l_szItemSS (k : Nat) : SG 29 (sp_l_szItemSS k) := ⟨specGood_run (o_l_szItemSS k) mixed (n_l_szItemSS k) (d := k) [(.slice 64 (.slice 96 yItem)), (.int .i64)] [(.int .i64)] [] (fun x => l_szItemSS k x.1 x.2.1) (fun x => r_l_szItemSS k x.1 x.2.1), (fi_29).2⟩
theorem o_l_szBoolS (k : Nat) : Ok Try.prog (c_l_szBoolS k) := ok_of (map0) (ptr0) (eq0) (tab1 (ty_37) (tab0)) (inl1 (fi_62) (inl0)) (spec0) (mspec0)
theorem n_l_szBoolS (k : Nat) : NOk (c_l_szBoolS k) := nok (inl1 (fi_62) (inl0))
theorem s_l_szBoolS (k : Nat) : SG 62 (sp_l_szBoolS k) := ⟨specGood_run (o_l_szBoolS k) mixed (n_l_szBoolS k) (d := k) [(.slice 4 .bool), (.int .i64)] [(.int .i64)] [] (fun x => l_szBoolS k x.1 x.2.1) (fun x => r_l_szBoolS k x.1 x.2.1), (fi_62).2⟩
theorem o_l_szRoom (k : Nat) : Ok Try.prog (c_l_szRoom k) := ok_of (map0) (ptr0) (eq0) (tab1 (ty_22) (tab1 (ty_36) (tab1 (ty_37) (tab1 (ty_39) (tab0))))) (inl1 (fi_20) (inl0)) (spec1 (s_l_szEventS k) (spec1 (s_l_szItemSS k) (spec1 (s_l_szBoolS k) (spec0)))) (mspec0)
theorem n_l_szRoom (k : Nat) : NOk (c_l_szRoom k) := nok (inl1 (fi_20) (inl0))
theorem s_l_szRoom (k : Nat) : SG 20 (sp_l_szRoom k) := ⟨specGood_run (o_l_szRoom k) mixed (n_l_szRoom k) (d := k) [yRoom, (.int .i64)] [(.int .i64)] [] (fun x => l_szRoom k x.1 x.2.1) (fun x => r_l_szRoom k x.1 x.2.1), (fi_20).2⟩
theorem o_s_Said (k : Nat) : Ok Try.prog (c_s_Said k) := ok_of (map0) (ptr0) (eq0) (tab1 (ty_3) (tab1 (ty_4) (tab1 (ty_9) (tab1 (ty_26) (tab1 (ty_29) (tab1 (ty_37) (tab1 (ty_41) (tab1 (ty_45) (tab0))))))))) (inl1 (fi_21) (inl0)) (spec0) (mspec0)
theorem n_s_Said (k : Nat) : NOk (c_s_Said k) := nok (inl1 (fi_21) (inl0))
theorem s_s_Said (k : Nat) : SG 21 (sp_s_Said k) := ⟨specGood_run (o_s_Said k) mixed (n_s_Said k) (d := k) [yRoom1] [(.slice 9 .str)] [.o] (fun x => s_Said k x.1) (fun x => r_s_Said k x.1), (fi_21).2⟩
theorem o_l_toItem (k : Nat) : Ok Try.prog (c_l_toItem k) := ok_of (map0) (ptr0) (eq0) (tab1 (ty_3) (tab1 (ty_91) (tab1 (ty_96) (tab0)))) (inl1 (fi_77) (inl0)) (spec0) (mspec0)
theorem n_l_toItem (k : Nat) : NOk (c_l_toItem k) := nok (inl1 (fi_77) (inl0))
theorem s_l_toItem (k : Nat) : SG 77 (sp_l_toItem k) := ⟨specGood_run (o_l_toItem k) mixed (n_l_toItem k) (d := k) [yItem] [yItem] [] (fun x => l_toItem k x.1) (fun x => r_l_toItem k x.1), (fi_77).2⟩
theorem o_l_toItemS (k : Nat) : Ok Try.prog (c_l_toItemS k) := ok_of (map0) (ptr0) (eq0) (tab1 (ty_53) (tab1 (ty_64) (tab1 (ty_91) (tab1 (ty_96) (tab0))))) (inl1 (fi_46) (inl0)) (spec1 (s_l_toItem k) (spec0)) (mspec0)
theorem n_l_toItemS (k : Nat) : NOk (c_l_toItemS k) := nok (inl1 (fi_46) (inl0))
theorem s_l_toItemS (k : Nat) : SG 46 (sp_l_toItemS k) := ⟨specGood_run (o_l_toItemS k) mixed (n_l_toItemS k) (d := k) [(.slice 96 yItem)] [(.slice 91 yItem)] [.o] (fun x => l_toItemS k x.1) (fun x => r_l_toItemS k x.1), (fi_46).2⟩
theorem o_l_toItemSS (k : Nat) : Ok Try.prog (c_l_toItemSS k) := ok_of (map0) (ptr0) (eq0) (tab1 (ty_36) (tab1 (ty_43) (tab1 (ty_53) (tab1 (ty_64) (tab0))))) (inl1 (fi_31) (inl0)) (spec1 (s_l_toItemS k) (spec0)) (mspec0)
theorem n_l_toItemSS (k : Nat) : NOk (c_l_toItemSS k) := nok (inl1 (fi_31) (inl0))
theorem s_l_toItemSS (k : Nat) : SG 31 (sp_l_toItemSS k) := ⟨specGood_run (o_l_toItemSS k) mixed (n_l_toItemSS k) (d := k) [(.slice 64 (.slice 96 yItem))] [(.slice 53 (.slice 91 yItem))] [.t] (fun x => l_toItemSS k x.1) (fun x => r_l_toItemSS k x.1), (fi_31).2⟩
theorem o_l_toBoolS (k : Nat) : Ok Try.prog (c_l_toBoolS k) := ok_of (map0) (ptr0) (eq0) (tab1 (ty_4) (tab1 (ty_37) (tab0))) (inl1 (fi_63) (inl0)) (spec0) (mspec0)
theorem n_l_toBoolS (k : Nat) : NOk (c_l_toBoolS k) := nok (inl1 (fi_63) (inl0))
theorem s_l_toBoolS (k : Nat) : SG 63 (sp_l_toBoolS k) := ⟨specGood_run (o_l_toBoolS k) mixed (n_l_toBoolS k) (d := k) [(.slice 4 .bool)] [(.slice 4 .bool)] [.o] (fun x => l_toBoolS k x.1) (fun x => r_l_toBoolS k x.1), (fi_63).2⟩
theorem o_l_toRoom (k : Nat) : Ok Try.prog (c_l_toRoom k) := ok_of (map0) (ptr0) (eq0) (tab1 (ty_22) (tab1 (ty_29) (tab1 (ty_36) (tab1 (ty_37) (tab1 (ty_39) (tab1 (ty_43) (tab1 (ty_45) (tab0)))))))) (inl1 (fi_22) (inl0)) (spec1 (s_l_toEventS k) (spec1 (s_l_toItemSS k) (spec1 (s_l_toBoolS k) (spec0)))) (mspec0)
theorem n_l_toRoom (k : Nat) : NOk (c_l_toRoom k) := nok (inl1 (fi_22) (inl0))
theorem s_l_toRoom (k : Nat) : SG 22 (sp_l_toRoom k) := ⟨specGood_run (o_l_toRoom k) mixed (n_l_toRoom k) (d := k) [yRoom] [yRoom1] [.t, .t, .o] (fun x => l_toRoom k x.1) (fun x => r_l_toRoom k x.1), (fi_22).2⟩
theorem o_i_isGood (k : Nat) : Ok Try.prog (c_i_isGood k) := ok_of (map0) (ptr0) (eq0) (tab1 (ty_4) (tab1 (ty_37) (tab1 (ty_45) (tab0)))) (inl1 (fi_64) (inl0)) (spec0) (mspec0)
theorem n_i_isGood (k : Nat) : NOk (c_i_isGood k) := nok (inl1 (fi_64) (inl0))
theorem s_i_isGood (k : Nat) : SG 64 (sp_i_isGood k) := ⟨specGood_run (o_i_isGood k) mixed (n_i_isGood k) (d := k) [yRoom1, (.int .i64)] [.bool] [] (fun x => i_isGood k x.1 x.2.1) (fun x => r_i_isGood k x.1 x.2.1), (fi_64).2⟩
theorem o_i_Said (k : Nat) : Ok Try.prog (c_i_Said k) := ok_of (map0) (ptr0) (eq0) (tab1 (ty_3) (tab1 (ty_9) (tab1 (ty_26) (tab1 (ty_29) (tab1 (ty_41) (tab1 (ty_45) (tab0))))))) (inl1 (fi_23) (inl0)) (spec1 (s_i_isGood k) (spec0)) (mspec0)
theorem n_i_Said (k : Nat) : NOk (c_i_Said k) := nok (inl1 (fi_23) (inl0))
theorem s_i_Said (k : Nat) : SG 23 (sp_i_Said k) := ⟨specGood_run (o_i_Said k) mixed (n_i_Said k) (d := k) [yRoom1] [(.slice 9 .str)] [.o] (fun x => i_Said k x.1) (fun x => r_i_Said k x.1), (fi_23).2⟩
theorem o_l_eqStringS (k : Nat) : Ok Try.prog (c_l_eqStringS k) := ok_of (map0) (ptr0) (eq0) (tab1 (ty_9) (tab1 (ty_41) (tab0))) (inl1 (fi_24) (inl0)) (spec0) (mspec0)
theorem n_l_eqStringS (k : Nat) : NOk (c_l_eqStringS k) := nok (inl1 (fi_24) (inl0))
theorem s_l_eqStringS (k : Nat) : SG 24 (sp_l_eqStringS k) := ⟨specGood_run (o_l_eqStringS k) mixed (n_l_eqStringS k) (d := k) [(.slice 9 .str), (.slice 9 .str)] [.bool] [] (fun x => l_eqStringS k x.1 x.2.1) (fun x => r_l_eqStringS k x.1 x.2.1), (fi_24).2⟩
theorem o_l_eqItem (k : Nat) : Ok Try.prog (c_l_eqItem k) := ok_of (map0) (ptr0) (eq0) (tab1 (ty_3) (tab1 (ty_91) (tab0))) (inl1 (fi_73) (inl0)) (spec0) (mspec0)
theorem n_l_eqItem (k : Nat) : NOk (c_l_eqItem k) := nok (inl1 (fi_73) (inl0))
theorem s_l_eqItem (k : Nat) : SG 73 (sp_l_eqItem k) := ⟨specGood_run (o_l_eqItem k) mixed (n_l_eqItem k) (d := k) [yItem, yItem] [.bool] [] (fun x => l_eqItem k x.1 x.2.1) (fun x => r_l_eqItem k x.1 x.2.1), (fi_73).2⟩
theorem o_l_eqItemS (k : Nat) : Ok Try.prog (c_l_eqItemS k) := ok_of (map0) (ptr0) (eq0) (tab1 (ty_53) (tab1 (ty_91) (tab0))) (inl1 (fi_33) (inl0)) (spec1 (s_l_eqItem k) (spec0)) (mspec0)
theorem n_l_eqItemS (k : Nat) : NOk (c_l_eqItemS k) := nok (inl1 (fi_33) (inl0))
theorem s_l_eqItemS (k : Nat) : SG 33 (sp_l_eqItemS k) := ⟨specGood_run (o_l_eqItemS k) mixed (n_l_eqItemS k) (d := k) [(.slice 91 yItem), (.slice 91 yItem)] [.bool] [] (fun x => l_eqItemS k x.1 x.2.1) (fun x => r_l_eqItemS k x.1 x.2.1), (fi_33).2⟩
theorem o_l_eqItemSS (k : Nat) : Ok Try.prog (c_l_eqItemSS k) := ok_of (map0) (ptr0) (eq0) (tab1 (ty_43) (tab1 (ty_53) (tab0))) (inl1 (fi_34) (inl0)) (spec1 (s_l_eqItemS k) (spec0)) (mspec0)
theorem n_l_eqItemSS (k : Nat) : NOk (c_l_eqItemSS k) := nok (inl1 (fi_34) (inl0))
theorem s_l_eqItemSS (k : Nat) : SG 34 (sp_l_eqItemSS k) := ⟨specGood_run (o_l_eqItemSS k) mixed (n_l_eqItemSS k) (d := k) [(.slice 53 (.slice 91 yItem)), (.slice 53 (.slice 91 yItem))] [.bool] [] (fun x => l_eqItemSS k x.1 x.2.1) (fun x => r_l_eqItemSS k x.1 x.2.1), (fi_34).2⟩
theorem o_l_eqBoolS (k : Nat) : Ok Try.prog (c_l_eqBoolS k) := ok_of (map0) (ptr0) (eq0) (tab1 (ty_4) (tab1 (ty_37) (tab0))) (inl1 (fi_65) (inl0)) (spec0) (mspec0)
theorem n_l_eqBoolS (k : Nat) : NOk (c_l_eqBoolS k) := nok (inl1 (fi_65) (inl0))
theorem s_l_eqBoolS (k : Nat) : SG 65 (sp_l_eqBoolS k) := ⟨specGood_run (o_l_eqBoolS k) mixed (n_l_eqBoolS k) (d := k) [(.slice 4 .bool), (.slice 4 .bool)] [.bool] [] (fun x => l_eqBoolS k x.1 x.2.1) (fun x => r_l_eqBoolS k x.1 x.2.1), (fi_65).2⟩
theorem o_l_eqRoom (k : Nat) : Ok Try.prog (c_l_eqRoom k) := ok_of (map0) (ptr0) (eq0) (tab1 (ty_29) (tab1 (ty_37) (tab1 (ty_43) (tab1 (ty_45) (tab0))))) (inl1 (fi_25) (inl0)) (spec1 (s_l_eqEventS k) (spec1 (s_l_eqItemSS k) (spec1 (s_l_eqBoolS k) (spec0)))) (mspec0)
theorem n_l_eqRoom (k : Nat) : NOk (c_l_eqRoom k) := nok (inl1 (fi_25) (inl0))
theorem s_l_eqRoom (k : Nat) : SG 25 (sp_l_eqRoom k) := ⟨specGood_run (o_l_eqRoom k) mixed (n_l_eqRoom k) (d := k) [yRoom1, yRoom1] [.bool] [] (fun x => l_eqRoom k x.1 x.2.1) (fun x => r_l_eqRoom k x.1 x.2.1), (fi_25).2⟩
theorem o_l_markStringS (k : Nat) : Ok Try.prog (c_l_markStringS k) := ok_of (map0) (ptr0) (eq0) (tab1 (ty_9) (tab1 (ty_41) (tab0))) (inl1 (fi_27) (inl0)) (spec1 (s_l_markText k) (spec0)) (mspec0)
theorem n_l_markStringS (k : Nat) : NOk (c_l_markStringS k) := nok (inl1 (fi_27) (inl0))
theorem s_l_markStringS (k : Nat) : MGood Try.prog 27 (sp_l_markStringS k) ∧ Enters Try.prog 27 := ⟨mgood_run (o_l_markStringS k) mixed (n_l_markStringS k) (d := k) [.row 9 .str, .imm (.int .i64)] [(.int .i64)] [] (fun x => l_markStringS k x.1 x.2.1) (fun x => r_l_markStringS k x.1 x.2.1), (fi_27).2⟩
theorem o_l_heldStringS (k : Nat) : Ok Try.prog (c_l_heldStringS k) := ok_of (map0) (ptr0) (eq0) (tab1 (ty_9) (tab1 (ty_41) (tab0))) (inl1 (fi_28) (inl0)) (spec1 (s_l_markText k) (spec0)) (mspec0)
theorem n_l_heldStringS (k : Nat) : NOk (c_l_heldStringS k) := nok (inl1 (fi_28) (inl0))
theorem s_l_heldStringS (k : Nat) : SG 28 (sp_l_heldStringS k) := ⟨specGood_run (o_l_heldStringS k) mixed (n_l_heldStringS k) (d := k) [(.slice 9 .str), (.int .i64)] [(.int .i64)] [] (fun x => l_heldStringS k x.1 x.2.1) (fun x => r_l_heldStringS k x.1 x.2.1), (fi_28).2⟩
theorem o_l_markItemS (k : Nat) : Ok Try.prog (c_l_markItemS k) := ok_of (map0) (ptr0) (eq0) (tab1 (ty_3) (tab1 (ty_53) (tab1 (ty_91) (tab0)))) (inl1 (fi_36) (inl0)) (spec0) (mspec0)
theorem n_l_markItemS (k : Nat) : NOk (c_l_markItemS k) := nok (inl1 (fi_36) (inl0))
theorem s_l_markItemS (k : Nat) : MGood Try.prog 36 (sp_l_markItemS k) ∧ Enters Try.prog 36 := ⟨mgood_run (o_l_markItemS k) mixed (n_l_markItemS k) (d := k) [.row 91 yItem, .imm (.int .i64)] [(.int .i64)] [] (fun x => l_markItemS k x.1 x.2.1) (fun x => r_l_markItemS k x.1 x.2.1), (fi_36).2⟩
theorem o_l_markItemSS (k : Nat) : Ok Try.prog (c_l_markItemSS k) := ok_of (map0) (ptr0) (eq0) (tab1 (ty_43) (tab1 (ty_53) (tab0))) (inl1 (fi_35) (inl0)) (spec0) (mspec1 (s_l_markItemS k) (mspec0))
theorem n_l_markItemSS (k : Nat) : NOk (c_l_markItemSS k) := nok (inl1 (fi_35) (inl0))
theorem s_l_markItemSS (k : Nat) : MGood Try.prog 35 (sp_l_markItemSS k) ∧ Enters Try.prog 35 := ⟨mgood_run (o_l_markItemSS k) mixed (n_l_markItemSS k) (d := k) [.tree 53 (.slice 91 yItem), .imm (.int .i64)] [(.int .i64)] [] (fun x => l_markItemSS k x.1 x.2.1) (fun x => r_l_markItemSS k x.1 x.2.1), (fi_35).2⟩
theorem o_l_markBoolS (k : Nat) : Ok Try.prog (c_l_markBoolS k) := ok_of (map0) (ptr0) (eq0) (tab1 (ty_4) (tab1 (ty_37) (tab0))) (inl1 (fi_66) (inl0)) (spec0) (mspec0)
theorem n_l_markBoolS (k : Nat) : NOk (c_l_markBoolS k) := nok (inl1 (fi_66) (inl0))
theorem s_l_markBoolS (k : Nat) : MGood Try.prog 66 (sp_l_markBoolS k) ∧ Enters Try.prog 66 := ⟨mgood_run (o_l_markBoolS k) mixed (n_l_markBoolS k) (d := k) [.row 4 .bool, .imm (.int .i64)] [(.int .i64)] [] (fun x => l_markBoolS k x.1 x.2.1) (fun x => r_l_markBoolS k x.1 x.2.1), (fi_66).2⟩
theorem o_l_FnExactSaid (k : Nat) : Ok Try.prog (c_l_FnExactSaid k) := ok_of (map0) (ptr0) (eq0) (tab1 (ty_29) (tab1 (ty_37) (tab1 (ty_39) (tab1 (ty_43) (tab1 (ty_45) (tab0)))))) (inl1 (fi_4) (inl1 (fi_26) (inl0))) (spec1 (s_l_szRoom k) (spec1 (s_s_Said k) (spec1 (s_l_toRoom k) (spec1 (s_i_Said k) (spec1 (s_l_eqStringS k) (spec1 (s_l_eqRoom k) (spec1 (s_l_heldStringS k) (spec0)))))))) (mspec1 (s_l_markEventS k) (mspec1 (s_l_markStringS k) (mspec1 (s_l_markItemSS k) (mspec1 (s_l_markBoolS k) (mspec0)))))
theorem n_l_FnExactSaid (k : Nat) : NOk (c_l_FnExactSaid k) := nok (inl1 (fi_4) (inl1 (fi_26) (inl0)))
theorem s_l_FnExactSaid (k : Nat) : SG 4 (sp_l_FnExactSaid k) := ⟨specGood_run (o_l_FnExactSaid k) mixed (n_l_FnExactSaid k) (d := k) [yRoom] [.bool] [] (fun x => l_FnExactSaid k x.1) (fun x => r_l_FnExactSaid k x.1), (fi_4).2⟩
theorem o_s_l11Keys (k : Nat) : Ok Try.prog (c_s_l11Keys k) := ok_of (map0) (ptr0) (eq0) (tab1 (ty_3) (tab1 (ty_24) (tab1 (ty_43) (tab1 (ty_53) (tab1 (ty_91) (tab0)))))) (inl1 (fi_67) (inl0)) (spec0) (mspec0)
theorem n_s_l11Keys (k : Nat) : NOk (c_s_l11Keys k) := nok (inl1 (fi_67) (inl0))
theorem s_s_l11Keys (k : Nat) : SG 67 (sp_s_l11Keys k) := ⟨specGood_run (o_s_l11Keys k) mixed (n_s_l11Keys k) (d := k) [(.slice 53 (.slice 91 yItem))] [(.slice 3 (.int .i64))] [.o] (fun x => s_l11Keys k x.1) (fun x => r_s_l11Keys k x.1), (fi_67).2⟩
theorem o_s_At (k : Nat) : Ok Try.prog (c_s_At k) := ok_of (map0) (ptr0) (eq0) (tab1 (ty_3) (tab1 (ty_53) (tab1 (ty_91) (tab0)))) (inl1 (fi_69) (inl0)) (spec0) (mspec0)
theorem n_s_At (k : Nat) : NOk (c_s_At k) := nok (inl1 (fi_69) (inl0))
theorem s_s_At (k : Nat) : SG 69 (sp_s_At k) := ⟨specGood_run (o_s_At k) mixed (n_s_At k) (d := k) [(.slice 91 yItem), (.int .i64)] [(.int .i64)] [] (fun x => s_At k x.1 x.2.1) (fun x => r_s_At k x.1 x.2.1), (fi_69).2⟩
theorem o_s_l11Alike (k : Nat) : Ok Try.prog (c_s_l11Alike k) := ok_of (map0) (ptr0) (eq0) (tab1 (ty_43) (tab1 (ty_53) (tab0))) (inl1 (fi_68) (inl0)) (spec1 (s_s_At k) (spec0)) (mspec0)
theorem n_s_l11Alike (k : Nat) : NOk (c_s_l11Alike k) := nok (inl1 (fi_68) (inl0))
theorem s_s_l11Alike (k : Nat) : SG 68 (sp_s_l11Alike k) := ⟨specGood_run (o_s_l11Alike k) mixed (n_s_l11Alike k) (d := k) [(.slice 53 (.slice 91 yItem)), (.int .i64)] [.bool] [] (fun x => s_l11Alike k x.1 x.2.1) (fun x => r_s_l11Alike k x.1 x.2.1), (fi_68).2⟩
theorem o_s_Agreed (k : Nat) : Ok Try.prog (c_s_Agreed k) := ok_of (map0) (ptr0) (eq0) (tab1 (ty_3) (tab1 (ty_24) (tab1 (ty_43) (tab1 (ty_53) (tab1 (ty_91) (tab0)))))) (inl1 (fi_30) (inl0)) (spec1 (s_s_l11Keys k) (spec1 (s_s_l11Alike k) (spec1 (s_s_At k) (spec0)))) (mspec0)
theorem n_s_Agreed (k : Nat) : NOk (c_s_Agreed k) := nok (inl1 (fi_30) (inl0))
theorem s_s_Agreed (k : Nat) : SG 30 (sp_s_Agreed k) := ⟨specGood_run (o_s_Agreed k) mixed (n_s_Agreed k) (d := k) [(.slice 53 (.slice 91 yItem))] [(.slice 91 yItem)] [.o] (fun x => s_Agreed k x.1) (fun x => r_s_Agreed k x.1), (fi_30).2⟩
theorem o_i_within (k : Nat) : Ok Try.prog (c_i_within k) := ok_of (map0) (ptr0) (eq0) (tab0) (inl1 (fi_79) (inl0)) (spec0) (mspec0)
theorem n_i_within (k : Nat) : NOk (c_i_within k) := nok (inl1 (fi_79) (inl0))
theorem s_i_within (k : Nat) : SG 79 (sp_i_within k) := ⟨specGood_run (o_i_within k) mixed (n_i_within k) (d := k) [(.int .i64), (.int .i64), (.int .i64)] [.bool] [] (fun x => i_within k x.1 x.2.1 x.2.2.1) (fun x => r_i_within k x.1 x.2.1 x.2.2.1), (fi_79).2⟩
theorem s_slices_Sort_int_int (k : Nat) : MGood Try.prog 81 (sp_slices_Sort_int_int k) ∧ Enters Try.prog 81 := ⟨sort_mgood Try.sortL 3, (fi_81).2⟩
theorem o_i_keysIn (k : Nat) : Ok Try.prog (c_i_keysIn k) := ok_of (map0) (ptr0) (eq0) (tab1 (ty_3) (tab1 (ty_24) (tab1 (ty_43) (tab1 (ty_53) (tab1 (ty_91) (tab0)))))) (inl1 (fi_70) (inl1 (fi_82) (inl0))) (spec1 (s_i_within k) (spec0)) (mspec1 (s_slices_Sort_int_int k) (mspec0))
theorem n_i_keysIn (k : Nat) : NOk (c_i_keysIn k) := nok (inl1 (fi_70) (inl1 (fi_82) (inl0)))
theorem s_i_keysIn (k : Nat) : SG 70 (sp_i_keysIn k) := ⟨specGood_run (o_i_keysIn k) mixed (n_i_keysIn k) (d := k) [(.slice 53 (.slice 91 yItem))] [(.slice 3 (.int .i64))] [.o] (fun x => i_keysIn k x.1) (fun x => r_i_keysIn k x.1), (fi_70).2⟩
theorem o_i_At (k : Nat) : Ok Try.prog (c_i_At k) := ok_of (map0) (ptr0) (eq0) (tab1 (ty_3) (tab1 (ty_53) (tab1 (ty_91) (tab0)))) (inl1 (fi_72) (inl0)) (spec0) (mspec0)
theorem n_i_At (k : Nat) : NOk (c_i_At k) := nok (inl1 (fi_72) (inl0))
theorem s_i_At (k : Nat) : SG 72 (sp_i_At k) := ⟨specGood_run (o_i_At k) mixed (n_i_At k) (d := k) [(.slice 91 yItem), (.int .i64)] [(.int .i64)] [] (fun x => i_At k x.1 x.2.1) (fun x => r_i_At k x.1 x.2.1), (fi_72).2⟩
theorem o_i_allTell (k : Nat) : Ok Try.prog (c_i_allTell k) := ok_of (map0) (ptr0) (eq0) (tab1 (ty_3) (tab1 (ty_43) (tab1 (ty_53) (tab0)))) (inl1 (fi_71) (inl1 (fi_96) (inl1 (fi_97) (inl1 (fi_108) (inl0))))) (spec1 (s_i_At k) (spec0)) (mspec0)
theorem n_i_allTell (k : Nat) : NOk (c_i_allTell k) := nok (inl1 (fi_71) (inl1 (fi_96) (inl1 (fi_97) (inl1 (fi_108) (inl0)))))
theorem s_i_allTell (k : Nat) : SG 71 (sp_i_allTell k) := ⟨specGood_run (o_i_allTell k) mixed (n_i_allTell k) (d := k) [(.slice 53 (.slice 91 yItem)), (.int .i64)] [.bool] [] (fun x => i_allTell k x.1 x.2.1) (fun x => r_i_allTell k x.1 x.2.1), (fi_71).2⟩
theorem o_i_Agreed (k : Nat) : Ok Try.prog (c_i_Agreed k) := ok_of (map0) (ptr0) (eq0) (tab1 (ty_3) (tab1 (ty_24) (tab1 (ty_43) (tab1 (ty_53) (tab1 (ty_91) (tab0)))))) (inl1 (fi_32) (inl0)) (spec1 (s_i_keysIn k) (spec1 (s_i_allTell k) (spec1 (s_i_At k) (spec0)))) (mspec0)
theorem n_i_Agreed (k : Nat) : NOk (c_i_Agreed k) := nok (inl1 (fi_32) (inl0))
theorem s_i_Agreed (k : Nat) : SG 32 (sp_i_Agreed k) := ⟨specGood_run (o_i_Agreed k) mixed (n_i_Agreed k) (d := k) [(.slice 53 (.slice 91 yItem))] [(.slice 91 yItem)] [.o] (fun x => i_Agreed k x.1) (fun x => r_i_Agreed k x.1), (fi_32).2⟩
theorem o_l_heldItemS (k : Nat) : Ok Try.prog (c_l_heldItemS k) := ok_of (map0) (ptr0) (eq0) (tab1 (ty_3) (tab1 (ty_53) (tab1 (ty_91) (tab0)))) (inl1 (fi_37) (inl0)) (spec0) (mspec0)
theorem n_l_heldItemS (k : Nat) : NOk (c_l_heldItemS k) := nok (inl1 (fi_37) (inl0))
theorem s_l_heldItemS (k : Nat) : SG 37 (sp_l_heldItemS k) := ⟨specGood_run (o_l_heldItemS k) mixed (n_l_heldItemS k) (d := k) [(.slice 91 yItem), (.int .i64)] [(.int .i64)] [] (fun x => l_heldItemS k x.1 x.2.1) (fun x => r_l_heldItemS k x.1 x.2.1), (fi_37).2⟩
theorem o_l_FnExactAgreed (k : Nat) : Ok Try.prog (c_l_FnExactAgreed k) := ok_of (map0) (ptr0) (eq0) (tab0) (inl1 (fi_5) (inl0)) (spec1 (s_l_szItemSS k) (spec1 (s_s_Agreed k) (spec1 (s_l_toItemSS k) (spec1 (s_i_Agreed k) (spec1 (s_l_eqItemS k) (spec1 (s_l_eqItemSS k) (spec1 (s_l_heldItemS k) (spec0)))))))) (mspec1 (s_l_markItemSS k) (mspec1 (s_l_markItemS k) (mspec0)))
theorem n_l_FnExactAgreed (k : Nat) : NOk (c_l_FnExactAgreed k) := nok (inl1 (fi_5) (inl0))
theorem s_l_FnExactAgreed (k : Nat) : SG 5 (sp_l_FnExactAgreed k) := ⟨specGood_run (o_l_FnExactAgreed k) mixed (n_l_FnExactAgreed k) (d := k) [(.slice 64 (.slice 96 yItem))] [.bool] [] (fun x => l_FnExactAgreed k x.1) (fun x => r_l_FnExactAgreed k x.1), (fi_5).2⟩
theorem o_s_Clash (k : Nat) : Ok Try.prog (c_s_Clash k) := ok_of (map0) (ptr0) (eq0) (tab1 (ty_3) (tab1 (ty_24) (tab0))) (inl1 (fi_38) (inl0)) (spec1 (s_s_l11Keys k) (spec1 (s_s_l11Alike k) (spec0))) (mspec0)
theorem n_s_Clash (k : Nat) : NOk (c_s_Clash k) := nok (inl1 (fi_38) (inl0))
theorem s_s_Clash (k : Nat) : SG 38 (sp_s_Clash k) := ⟨specGood_run (o_s_Clash k) mixed (n_s_Clash k) (d := k) [(.slice 53 (.slice 91 yItem))] [(.slice 3 (.int .i64))] [.o] (fun x => s_Clash k x.1) (fun x => r_s_Clash k x.1), (fi_38).2⟩
theorem o_i_Clash (k : Nat) : Ok Try.prog (c_i_Clash k) := ok_of (map0) (ptr0) (eq0) (tab1 (ty_3) (tab1 (ty_24) (tab0))) (inl1 (fi_39) (inl0)) (spec1 (s_i_keysIn k) (spec1 (s_i_allTell k) (spec0))) (mspec0)
theorem n_i_Clash (k : Nat) : NOk (c_i_Clash k) := nok (inl1 (fi_39) (inl0))
theorem s_i_Clash (k : Nat) : SG 39 (sp_i_Clash k) := ⟨specGood_run (o_i_Clash k) mixed (n_i_Clash k) (d := k) [(.slice 53 (.slice 91 yItem))] [(.slice 3 (.int .i64))] [.o] (fun x => i_Clash k x.1) (fun x => r_i_Clash k x.1), (fi_39).2⟩
theorem o_l_FnExactClash (k : Nat) : Ok Try.prog (c_l_FnExactClash k) := ok_of (map0) (ptr0) (eq0) (tab0) (inl1 (fi_6) (inl0)) (spec1 (s_l_szItemSS k) (spec1 (s_l_toItemSS k) (spec1 (s_l_eqItemSS k) (spec1 (s_s_Clash k) (spec1 (s_i_Clash k) (spec1 (s_l_eqIntS k) (spec1 (s_l_heldIntS k) (spec0)))))))) (mspec1 (s_l_markItemSS k) (mspec1 (s_l_markIntS k) (mspec0)))
theorem n_l_FnExactClash (k : Nat) : NOk (c_l_FnExactClash k) := nok (inl1 (fi_6) (inl0))
theorem s_l_FnExactClash (k : Nat) : SG 6 (sp_l_FnExactClash k) := ⟨specGood_run (o_l_FnExactClash k) mixed (n_l_FnExactClash k) (d := k) [(.slice 64 (.slice 96 yItem))] [.bool] [] (fun x => l_FnExactClash k x.1) (fun x => r_l_FnExactClash k x.1), (fi_6).2⟩
theorem o_s_l01In (k : Nat) : Ok Try.prog (c_s_l01In k) := ok_of (map0) (ptr0) (eq0) (tab0) (inl1 (fi_75) (inl0)) (spec0) (mspec0)
theorem n_s_l01In (k : Nat) : NOk (c_s_l01In k) := nok (inl1 (fi_75) (inl0))
theorem s_s_l01In (k : Nat) : SG 75 (sp_s_l01In k) := ⟨specGood_run (o_s_l01In k) mixed (n_s_l01In k) (d := k) [(.int .i64), (.int .i64), (.int .i64)] [.bool] [] (fun x => s_l01In k x.1 x.2.1 x.2.2.1) (fun x => r_s_l01In k x.1 x.2.1 x.2.2.1), (fi_75).2⟩
theorem o_s_l11Add (k : Nat) : Ok Try.prog (c_s_l11Add k) := ok_of (map0) (ptr0) (eq0) (tab1 (ty_3) (tab1 (ty_24) (tab0))) (inl1 (fi_76) (inl0)) (spec0) (mspec0)
theorem n_s_l11Add (k : Nat) : NOk (c_s_l11Add k) := nok (inl1 (fi_76) (inl0))
theorem s_s_l11Add (k : Nat) : SG 76 (sp_s_l11Add k) := ⟨specGood_run (o_s_l11Add k) mixed (n_s_l11Add k) (d := k) [(.slice 3 (.int .i64)), (.int .i64)] [(.slice 3 (.int .i64))] [.o] (fun x => s_l11Add k x.1 x.2.1) (fun x => r_s_l11Add k x.1 x.2.1), (fi_76).2⟩
theorem o_s_AuthOf (k : Nat) : Ok Try.prog (c_s_AuthOf k) := ok_of (map0) (ptr0) (eq0) (tab1 (ty_3) (tab1 (ty_24) (tab1 (ty_26) (tab0)))) (inl1 (fi_45) (inl0)) (spec1 (s_s_l10Find k) (spec1 (s_s_At k) (spec1 (s_s_l01In k) (spec1 (s_s_l11Add k) (spec0))))) (mspec0)
theorem n_s_AuthOf (k : Nat) : NOk (c_s_AuthOf k) := nok (inl1 (fi_45) (inl0))
theorem s_s_AuthOf (k : Nat) : SG 45 (sp_s_AuthOf k) := ⟨specGood_run (o_s_AuthOf k) mixed (n_s_AuthOf k) (d := k) [(.slice 26 yEvent), (.slice 91 yItem), yEvent] [(.slice 3 (.int .i64))] [.o] (fun x => s_AuthOf k x.1 x.2.1 x.2.2.1) (fun x => r_s_AuthOf k x.1 x.2.1 x.2.2.1), (fi_45).2⟩
theorem o_i_tells (k : Nat) : Ok Try.prog (c_i_tells k) := ok_of (map0) (ptr0) (eq0) (tab1 (ty_26) (tab0)) (inl1 (fi_80) (inl0)) (spec1 (s_i_Known k) (spec1 (s_i_At k) (spec0))) (mspec0)
theorem n_i_tells (k : Nat) : NOk (c_i_tells k) := nok (inl1 (fi_80) (inl0))
theorem s_i_tells (k : Nat) : SG 80 (sp_i_tells k) := ⟨specGood_run (o_i_tells k) mixed (n_i_tells k) (d := k) [(.slice 26 yEvent), (.slice 91 yItem), (.int .i64)] [yEvent, .bool] [.o, .o] (fun x => i_tells k x.1 x.2.1 x.2.2.1) (fun x => r_i_tells k x.1 x.2.1 x.2.2.1), (fi_80).2⟩
theorem o_i_AuthOf (k : Nat) : Ok Try.prog (c_i_AuthOf k) := ok_of (map0) (ptr0) (eq0) (tab1 (ty_3) (tab1 (ty_24) (tab1 (ty_26) (tab0)))) (inl1 (fi_48) (inl1 (fi_82) (inl0))) (spec1 (s_i_within k) (spec1 (s_i_tells k) (spec0))) (mspec1 (s_slices_Sort_int_int k) (mspec0))
theorem n_i_AuthOf (k : Nat) : NOk (c_i_AuthOf k) := nok (inl1 (fi_48) (inl1 (fi_82) (inl0)))
theorem s_i_AuthOf (k : Nat) : SG 48 (sp_i_AuthOf k) := ⟨specGood_run (o_i_AuthOf k) mixed (n_i_AuthOf k) (d := k) [(.slice 26 yEvent), (.slice 91 yItem), yEvent] [(.slice 3 (.int .i64))] [.o] (fun x => i_AuthOf k x.1 x.2.1 x.2.2.1) (fun x => r_i_AuthOf k x.1 x.2.1 x.2.2.1), (fi_48).2⟩
theorem o_l_FnExactAuthOf (k : Nat) : Ok Try.prog (c_l_FnExactAuthOf k) := ok_of (map0) (ptr0) (eq0) (tab1 (ty_24) (tab1 (ty_26) (tab1 (ty_65) (tab0)))) (inl1 (fi_7) (inl1 (fi_18) (inl0))) (spec1 (s_l_szEventS k) (spec1 (s_l_toEventS k) (spec1 (s_l_eqEvent k) (spec1 (s_l_eqEventS k) (spec1 (s_l_eqItemS k) (spec1 (s_l_eqIntS k) (spec1 (s_l_heldIntS k) (spec1 (s_l_szItemS k) (spec1 (s_l_szEvent k) (spec1 (s_s_AuthOf k) (spec1 (s_l_toItemS k) (spec1 (s_l_toEvent k) (spec1 (s_i_AuthOf k) (spec0)))))))))))))) (mspec1 (s_l_markEventS k) (mspec1 (s_l_markItemS k) (mspec1 (s_l_markIntS k) (mspec0))))
theorem n_l_FnExactAuthOf (k : Nat) : NOk (c_l_FnExactAuthOf k) := nok (inl1 (fi_7) (inl1 (fi_18) (inl0)))
theorem s_l_FnExactAuthOf (k : Nat) : SG 7 (sp_l_FnExactAuthOf k) := ⟨specGood_run (o_l_FnExactAuthOf k) mixed (n_l_FnExactAuthOf k) (d := k) [(.slice 65 yEvent), (.slice 96 yItem), yEvent] [.bool] [] (fun x => l_FnExactAuthOf k x.1 x.2.1 x.2.2.1) (fun x => r_l_FnExactAuthOf k x.1 x.2.1 x.2.2.1), (fi_7).2⟩
theorem o_s_l05In (k : Nat) : Ok Try.prog (c_s_l05In k) := ok_of (map0) (ptr0) (eq0) (tab1 (ty_3) (tab1 (ty_24) (tab0))) (inl1 (fi_83) (inl0)) (spec0) (mspec0)
theorem n_s_l05In (k : Nat) : NOk (c_s_l05In k) := nok (inl1 (fi_83) (inl0))
theorem s_s_l05In (k : Nat) : SG 83 (sp_s_l05In k) := ⟨specGood_run (o_s_l05In k) mixed (n_s_l05In k) (d := k) [(.slice 3 (.int .i64)), (.int .i64)] [.bool] [] (fun x => s_l05In k x.1 x.2.1) (fun x => r_s_l05In k x.1 x.2.1), (fi_83).2⟩
theorem o_s_EndsOf (k : Nat) : Ok Try.prog (c_s_EndsOf k) := ok_of (map0) (ptr0) (eq0) (tab1 (ty_3) (tab1 (ty_24) (tab1 (ty_26) (tab1 (ty_29) (tab1 (ty_45) (tab0)))))) (inl1 (fi_49) (inl0)) (spec1 (s_s_l11Add k) (spec1 (s_s_l05In k) (spec0))) (mspec0)
theorem n_s_EndsOf (k : Nat) : NOk (c_s_EndsOf k) := nok (inl1 (fi_49) (inl0))
theorem s_s_EndsOf (k : Nat) : SG 49 (sp_s_EndsOf k) := ⟨specGood_run (o_s_EndsOf k) mixed (n_s_EndsOf k) (d := k) [yRoom1] [(.slice 3 (.int .i64))] [.o] (fun x => s_EndsOf k x.1) (fun x => r_s_EndsOf k x.1), (fi_49).2⟩
theorem o_slices_Index_int_int (k : Nat) : Ok Try.prog (c_slices_Index_int_int k) := ok_of (map0) (ptr0) (eq0) (tab1 (ty_3) (tab1 (ty_24) (tab0))) (inl1 (fi_101) (inl0)) (spec0) (mspec0)
theorem n_slices_Index_int_int (k : Nat) : NOk (c_slices_Index_int_int k) := nok (inl1 (fi_101) (inl0))
theorem s_slices_Index_int_int (k : Nat) : SG 101 (sp_slices_Index_int_int k) := ⟨specGood_run (o_slices_Index_int_int k) mixed (n_slices_Index_int_int k) (d := k) [(.slice 3 (.int .i64)), (.int .i64)] [(.int .i64)] [] (fun x => slices_Index_int_int k x.1 x.2.1) (fun x => r_slices_Index_int_int k x.1 x.2.1), (fi_101).2⟩
theorem o_slices_Contains_int_int (k : Nat) : Ok Try.prog (c_slices_Contains_int_int k) := ok_of (map0) (ptr0) (eq0) (tab0) (inl1 (fi_86) (inl0)) (spec1 (s_slices_Index_int_int k) (spec0)) (mspec0)
theorem n_slices_Contains_int_int (k : Nat) : NOk (c_slices_Contains_int_int k) := nok (inl1 (fi_86) (inl0))
theorem s_slices_Contains_int_int (k : Nat) : SG 86 (sp_slices_Contains_int_int k) := ⟨specGood_run (o_slices_Contains_int_int k) mixed (n_slices_Contains_int_int k) (d := k) [(.slice 3 (.int .i64)), (.int .i64)] [.bool] [] (fun x => slices_Contains_int_int k x.1 x.2.1) (fun x => r_slices_Contains_int_int k x.1 x.2.1), (fi_86).2⟩
theorem o_i_EndsOf (k : Nat) : Ok Try.prog (c_i_EndsOf k) := ok_of (map0) (ptr0) (eq0) (tab1 (ty_3) (tab1 (ty_24) (tab1 (ty_26) (tab1 (ty_29) (tab1 (ty_45) (tab0)))))) (inl1 (fi_50) (inl1 (fi_82) (inl1 (fi_84) (inl1 (fi_85) (inl1 (fi_100) (inl0)))))) (spec1 (s_slices_Contains_int_int k) (spec0)) (mspec1 (s_slices_Sort_int_int k) (mspec0))
theorem n_i_EndsOf (k : Nat) : NOk (c_i_EndsOf k) := nok (inl1 (fi_50) (inl1 (fi_82) (inl1 (fi_84) (inl1 (fi_85) (inl1 (fi_100) (inl0))))))
theorem s_i_EndsOf (k : Nat) : SG 50 (sp_i_EndsOf k) := ⟨specGood_run (o_i_EndsOf k) mixed (n_i_EndsOf k) (d := k) [yRoom1] [(.slice 3 (.int .i64))] [.o] (fun x => i_EndsOf k x.1) (fun x => r_i_EndsOf k x.1), (fi_50).2⟩
theorem o_l_FnExactEndsOf (k : Nat) : Ok Try.prog (c_l_FnExactEndsOf k) := ok_of (map0) (ptr0) (eq0) (tab1 (ty_29) (tab1 (ty_37) (tab1 (ty_39) (tab1 (ty_43) (tab1 (ty_45) (tab0)))))) (inl1 (fi_8) (inl1 (fi_26) (inl0))) (spec1 (s_l_szRoom k) (spec1 (s_l_toRoom k) (spec1 (s_l_eqRoom k) (spec1 (s_l_eqIntS k) (spec1 (s_l_heldIntS k) (spec1 (s_s_EndsOf k) (spec1 (s_i_EndsOf k) (spec0)))))))) (mspec1 (s_l_markEventS k) (mspec1 (s_l_markItemSS k) (mspec1 (s_l_markIntS k) (mspec1 (s_l_markBoolS k) (mspec0)))))
theorem n_l_FnExactEndsOf (k : Nat) : NOk (c_l_FnExactEndsOf k) := nok (inl1 (fi_8) (inl1 (fi_26) (inl0)))
theorem s_l_FnExactEndsOf (k : Nat) : SG 8 (sp_l_FnExactEndsOf k) := ⟨specGood_run (o_l_FnExactEndsOf k) mixed (n_l_FnExactEndsOf k) (d := k) [yRoom] [.bool] [] (fun x => l_FnExactEndsOf k x.1) (fun x => r_l_FnExactEndsOf k x.1), (fi_8).2⟩
theorem o_s_l12Has (k : Nat) : Ok Try.prog (c_s_l12Has k) := ok_of (map0) (ptr0) (eq0) (tab1 (ty_3) (tab1 (ty_26) (tab1 (ty_29) (tab1 (ty_45) (tab0))))) (inl1 (fi_102) (inl0)) (spec0) (mspec0)
theorem n_s_l12Has (k : Nat) : NOk (c_s_l12Has k) := nok (inl1 (fi_102) (inl0))
theorem s_s_l12Has (k : Nat) : SG 102 (sp_s_l12Has k) := ⟨specGood_run (o_s_l12Has k) mixed (n_s_l12Has k) (d := k) [yRoom1, (.int .i64)] [(.int .i64)] [] (fun x => s_l12Has k x.1 x.2.1) (fun x => r_s_l12Has k x.1 x.2.1), (fi_102).2⟩
theorem o_s_DepthOf (k : Nat) : Ok Try.prog (c_s_DepthOf k) := ok_of (map0) (ptr0) (eq0) (tab1 (ty_3) (tab1 (ty_24) (tab1 (ty_26) (tab1 (ty_29) (tab1 (ty_45) (tab0)))))) (inl1 (fi_87) (inl0)) (spec1 (s_s_l12Has k) (spec0)) (mspec0)
theorem n_s_DepthOf (k : Nat) : NOk (c_s_DepthOf k) := nok (inl1 (fi_87) (inl0))
theorem s_s_DepthOf (k : Nat) : SG 87 (sp_s_DepthOf k) := ⟨specGood_run (o_s_DepthOf k) mixed (n_s_DepthOf k) (d := k) [yRoom1, (.slice 3 (.int .i64))] [(.int .i64)] [] (fun x => s_DepthOf k x.1 x.2.1) (fun x => r_s_DepthOf k x.1 x.2.1), (fi_87).2⟩
theorem o_s_Draft (k : Nat) : Ok Try.prog (c_s_Draft k) := ok_of (map0) (ptr0) (eq0) (tab1 (ty_3) (tab1 (ty_24) (tab1 (ty_26) (tab1 (ty_45) (tab0))))) (inl1 (fi_51) (inl0)) (spec1 (s_s_EndsOf k) (spec1 (s_s_l09Copy k) (spec1 (s_s_l01In k) (spec1 (s_s_DepthOf k) (spec0))))) (mspec0)
theorem n_s_Draft (k : Nat) : NOk (c_s_Draft k) := nok (inl1 (fi_51) (inl0))
theorem s_s_Draft (k : Nat) : SG 51 (sp_s_Draft k) := ⟨specGood_run (o_s_Draft k) mixed (n_s_Draft k) (d := k) [yRoom1, (.int .i64), yEvent] [yEvent] [.o, .o] (fun x => s_Draft k x.1 x.2.1 x.2.2.1) (fun x => r_s_Draft k x.1 x.2.1 x.2.2.1), (fi_51).2⟩
theorem o_i_DepthOf (k : Nat) : Ok Try.prog (c_i_DepthOf k) := ok_of (map0) (ptr0) (eq0) (tab1 (ty_3) (tab1 (ty_24) (tab1 (ty_26) (tab1 (ty_29) (tab1 (ty_45) (tab0)))))) (inl1 (fi_88) (inl0)) (spec1 (s_i_Known k) (spec0)) (mspec0)
theorem n_i_DepthOf (k : Nat) : NOk (c_i_DepthOf k) := nok (inl1 (fi_88) (inl0))
theorem s_i_DepthOf (k : Nat) : SG 88 (sp_i_DepthOf k) := ⟨specGood_run (o_i_DepthOf k) mixed (n_i_DepthOf k) (d := k) [yRoom1, (.slice 3 (.int .i64))] [(.int .i64)] [] (fun x => i_DepthOf k x.1 x.2.1) (fun x => r_i_DepthOf k x.1 x.2.1), (fi_88).2⟩
theorem o_i_Draft (k : Nat) : Ok Try.prog (c_i_Draft k) := ok_of (map0) (ptr0) (eq0) (tab1 (ty_3) (tab1 (ty_24) (tab1 (ty_26) (tab1 (ty_45) (tab0))))) (inl1 (fi_52) (inl0)) (spec1 (s_i_EndsOf k) (spec1 (s_i_copyEvent k) (spec1 (s_i_within k) (spec1 (s_i_DepthOf k) (spec0))))) (mspec0)
theorem n_i_Draft (k : Nat) : NOk (c_i_Draft k) := nok (inl1 (fi_52) (inl0))
theorem s_i_Draft (k : Nat) : SG 52 (sp_i_Draft k) := ⟨specGood_run (o_i_Draft k) mixed (n_i_Draft k) (d := k) [yRoom1, (.int .i64), yEvent] [yEvent] [.o, .o] (fun x => i_Draft k x.1 x.2.1 x.2.2.1) (fun x => r_i_Draft k x.1 x.2.1 x.2.2.1), (fi_52).2⟩
theorem o_l_FnExactDraft (k : Nat) : Ok Try.prog (c_l_FnExactDraft k) := ok_of (map0) (ptr0) (eq0) (tab1 (ty_24) (tab1 (ty_26) (tab1 (ty_29) (tab1 (ty_37) (tab1 (ty_39) (tab1 (ty_43) (tab1 (ty_45) (tab1 (ty_65) (tab0))))))))) (inl1 (fi_9) (inl1 (fi_18) (inl1 (fi_26) (inl0)))) (spec1 (s_l_eqEvent k) (spec1 (s_l_heldEvent k) (spec1 (s_l_szRoom k) (spec1 (s_l_toRoom k) (spec1 (s_l_eqRoom k) (spec1 (s_l_szEvent k) (spec1 (s_l_toEvent k) (spec1 (s_s_Draft k) (spec1 (s_i_Draft k) (spec0)))))))))) (mspec1 (s_l_markEventS k) (mspec1 (s_l_markItemSS k) (mspec1 (s_l_markIntS k) (mspec1 (s_l_markBoolS k) (mspec0)))))
theorem n_l_FnExactDraft (k : Nat) : NOk (c_l_FnExactDraft k) := nok (inl1 (fi_9) (inl1 (fi_18) (inl1 (fi_26) (inl0))))
theorem s_l_FnExactDraft (k : Nat) : SG 9 (sp_l_FnExactDraft k) := ⟨specGood_run (o_l_FnExactDraft k) mixed (n_l_FnExactDraft k) (d := k) [yRoom, (.int .i64), yEvent] [.bool] [] (fun x => l_FnExactDraft k x.1 x.2.1 x.2.2.1) (fun x => r_l_FnExactDraft k x.1 x.2.1 x.2.2.1), (fi_9).2⟩
end Go.Vm
