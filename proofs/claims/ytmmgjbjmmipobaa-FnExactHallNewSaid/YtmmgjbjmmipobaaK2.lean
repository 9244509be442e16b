/- The functions keep their specifications. -/
import Derived.Test.YtmmgjbjmmipobaaH2
import Derived.Test.YtmmgjbjmmipobaaChecked
set_option linter.unusedVariables false
namespace Go.Vm
open Go Go.Proofs
theorem mixed : Try.prog.follows .mixedOrders = true := Try.checked.mixed
def NOk (c : Cfg) : Prop := ∀ f fn, look c.inl f = some fn → Try.prog.funcs[f]? = some fn
theorem nok {c : Cfg} (h : InlL Try.prog c.inl) : NOk c := fun f fn e => (h f fn e).1
abbrev SG (f : FuncId) (s : Spec) : Prop := SpecGood Try.prog f s ∧ Enters Try.prog f
abbrev FI (n : FuncId) (f : Func) : Prop := Try.prog.funcs[n]? = some f ∧ Enters Try.prog n
theorem ty_3 : TyOk Try.prog (.int .i64) 3 := tyB_sound _ _ _ [] (by kernel_rfl)
theorem ty_4 : TyOk Try.prog .bool 4 := tyB_sound _ _ _ [] (by kernel_rfl)
theorem ty_5 : TyOk Try.prog (.int .u8) 5 := tyB_sound _ _ _ [] (by kernel_rfl)
theorem ty_9 : TyOk Try.prog .str 9 := tyB_sound _ _ _ [] (by kernel_rfl)
theorem ty_22 : TyOk Try.prog (.slice 46 ySession) 22 := tyB_sound _ _ _ [] (by kernel_rfl)
theorem ty_23 : TyOk Try.prog (.slice 58 yEvent) 23 := tyB_sound _ _ _ [] (by kernel_rfl)
theorem ty_24 : TyOk Try.prog (.slice 60 (.slice 66 yItem)) 24 := tyB_sound _ _ _ [] (by kernel_rfl)
theorem ty_25 : TyOk Try.prog (.slice 4 .bool) 25 := tyB_sound _ _ _ [] (by kernel_rfl)
theorem ty_27 : TyOk Try.prog yRoom 27 := tyB_sound _ _ _ [] (by kernel_rfl)
theorem ty_28 : TyOk Try.prog (.slice 37 yOut) 28 := tyB_sound _ _ _ [] (by kernel_rfl)
theorem ty_30 : TyOk Try.prog yHall 30 := tyB_sound _ _ _ [] (by kernel_rfl)
theorem ty_35 : TyOk Try.prog (.slice 3 (.int .i64)) 35 := tyB_sound _ _ _ [] (by kernel_rfl)
theorem ty_37 : TyOk Try.prog yOut 37 := tyB_sound _ _ _ [] (by kernel_rfl)
theorem ty_46 : TyOk Try.prog ySession 46 := tyB_sound _ _ _ [] (by kernel_rfl)
theorem ty_58 : TyOk Try.prog yEvent 58 := tyB_sound _ _ _ [] (by kernel_rfl)
theorem ty_60 : TyOk Try.prog (.slice 66 yItem) 60 := tyB_sound _ _ _ [] (by kernel_rfl)
theorem ty_62 : TyOk Try.prog (.slice 5 (.int .u8)) 62 := tyB_sound _ _ _ [] (by kernel_rfl)
theorem ty_66 : TyOk Try.prog yItem 66 := tyB_sound _ _ _ [] (by kernel_rfl)
theorem fi_3 : FI 3 Try.f3 := ⟨Try.func3, enters_of Try.func3 (by kernel_rfl) rfl⟩
theorem fi_4 : FI 4 Try.f4 := ⟨Try.func4, enters_of Try.func4 (by kernel_rfl) rfl⟩
theorem fi_5 : FI 5 Try.f5 := ⟨Try.func5, enters_of Try.func5 (by kernel_rfl) rfl⟩
theorem fi_6 : FI 6 Try.f6 := ⟨Try.func6, enters_of Try.func6 (by kernel_rfl) rfl⟩
theorem fi_7 : FI 7 Try.f7 := ⟨Try.func7, enters_of Try.func7 (by kernel_rfl) rfl⟩
theorem fi_8 : FI 8 Try.f8 := ⟨Try.func8, enters_of Try.func8 (by kernel_rfl) rfl⟩
theorem fi_9 : FI 9 Try.f9 := ⟨Try.func9, enters_of Try.func9 (by kernel_rfl) rfl⟩
theorem fi_10 : FI 10 Try.f10 := ⟨Try.func10, enters_of Try.func10 (by kernel_rfl) rfl⟩
theorem fi_11 : FI 11 Try.f11 := ⟨Try.func11, enters_of Try.func11 (by kernel_rfl) rfl⟩
theorem fi_12 : FI 12 Try.f12 := ⟨Try.func12, enters_of Try.func12 (by kernel_rfl) rfl⟩
theorem fi_13 : FI 13 Try.f13 := ⟨Try.func13, enters_of Try.func13 (by kernel_rfl) rfl⟩
theorem fi_14 : FI 14 Try.f14 := ⟨Try.func14, enters_of Try.func14 (by kernel_rfl) rfl⟩
theorem fi_15 : FI 15 Try.f15 := ⟨Try.func15, enters_of Try.func15 (by kernel_rfl) rfl⟩
theorem fi_16 : FI 16 Try.f16 := ⟨Try.func16, enters_of Try.func16 (by kernel_rfl) rfl⟩
theorem fi_17 : FI 17 Try.f17 := ⟨Try.func17, enters_of Try.func17 (by kernel_rfl) rfl⟩
theorem fi_18 : FI 18 Try.f18 := ⟨Try.func18, enters_of Try.func18 (by kernel_rfl) rfl⟩
theorem fi_19 : FI 19 Try.f19 := ⟨Try.func19, enters_of Try.func19 (by kernel_rfl) rfl⟩
theorem fi_20 : FI 20 Try.f20 := ⟨Try.func20, enters_of Try.func20 (by kernel_rfl) rfl⟩
theorem fi_21 : FI 21 Try.f21 := ⟨Try.func21, enters_of Try.func21 (by kernel_rfl) rfl⟩
theorem fi_22 : FI 22 Try.f22 := ⟨Try.func22, enters_of Try.func22 (by kernel_rfl) rfl⟩
theorem fi_23 : FI 23 Try.f23 := ⟨Try.func23, enters_of Try.func23 (by kernel_rfl) rfl⟩
theorem fi_24 : FI 24 Try.f24 := ⟨Try.func24, enters_of Try.func24 (by kernel_rfl) rfl⟩
theorem fi_25 : FI 25 Try.f25 := ⟨Try.func25, enters_of Try.func25 (by kernel_rfl) rfl⟩
theorem fi_26 : FI 26 Try.f26 := ⟨Try.func26, enters_of Try.func26 (by kernel_rfl) rfl⟩
theorem fi_27 : FI 27 Try.f27 := ⟨Try.func27, enters_of Try.func27 (by kernel_rfl) rfl⟩
theorem fi_28 : FI 28 Try.f28 := ⟨Try.func28, enters_of Try.func28 (by kernel_rfl) rfl⟩
theorem fi_29 : FI 29 Try.f29 := ⟨Try.func29, enters_of Try.func29 (by kernel_rfl) rfl⟩
theorem fi_30 : FI 30 Try.f30 := ⟨Try.func30, enters_of Try.func30 (by kernel_rfl) rfl⟩
theorem fi_31 : FI 31 Try.f31 := ⟨Try.func31, enters_of Try.func31 (by kernel_rfl) rfl⟩
theorem fi_32 : FI 32 Try.f32 := ⟨Try.func32, enters_of Try.func32 (by kernel_rfl) rfl⟩
theorem fi_33 : FI 33 Try.f33 := ⟨Try.func33, enters_of Try.func33 (by kernel_rfl) rfl⟩
theorem fi_34 : FI 34 Try.f34 := ⟨Try.func34, enters_of Try.func34 (by kernel_rfl) rfl⟩
theorem fi_35 : FI 35 Try.f35 := ⟨Try.func35, enters_of Try.func35 (by kernel_rfl) rfl⟩
theorem fi_36 : FI 36 Try.f36 := ⟨Try.func36, enters_of Try.func36 (by kernel_rfl) rfl⟩
theorem fi_37 : FI 37 Try.f37 := ⟨Try.func37, enters_of Try.func37 (by kernel_rfl) rfl⟩
theorem o_s_HallNew (k : Nat) : Ok Try.prog (c_s_HallNew k) := ok_of (map0) (ptr0) (eq0) (tab1 (ty_28) (tab1 (ty_30) (tab1 (ty_37) (tab0)))) (inl1 (fi_4) (inl0)) (spec0) (mspec0)
theorem n_s_HallNew (k : Nat) : NOk (c_s_HallNew k) := nok (inl1 (fi_4) (inl0))
theorem s_s_HallNew (k : Nat) : SG 4 (sp_s_HallNew k) := ⟨specGood_run (o_s_HallNew k) mixed (n_s_HallNew k) (d := k) [] [yHall] [.o, .t, .t, .o, .t] (fun x => s_HallNew k) (fun x => r_s_HallNew k), (fi_4).2⟩
theorem o_i_HallNew (k : Nat) : Ok Try.prog (c_i_HallNew k) := ok_of (map0) (ptr0) (eq0) (tab1 (ty_28) (tab1 (ty_30) (tab1 (ty_37) (tab0)))) (inl1 (fi_5) (inl0)) (spec0) (mspec0)
theorem n_i_HallNew (k : Nat) : NOk (c_i_HallNew k) := nok (inl1 (fi_5) (inl0))
theorem s_i_HallNew (k : Nat) : SG 5 (sp_i_HallNew k) := ⟨specGood_run (o_i_HallNew k) mixed (n_i_HallNew k) (d := k) [] [yHall] [.o, .t, .t, .o, .t] (fun x => i_HallNew k) (fun x => r_i_HallNew k), (fi_5).2⟩
theorem o_l_eqSession (k : Nat) : Ok Try.prog (c_l_eqSession k) := ok_of (map0) (ptr0) (eq0) (tab1 (ty_3) (tab1 (ty_9) (tab1 (ty_46) (tab0)))) (inl1 (fi_18) (inl0)) (spec0) (mspec0)
theorem n_l_eqSession (k : Nat) : NOk (c_l_eqSession k) := nok (inl1 (fi_18) (inl0))
theorem s_l_eqSession (k : Nat) : SG 18 (sp_l_eqSession k) := ⟨specGood_run (o_l_eqSession k) mixed (n_l_eqSession k) (d := k) [ySession, ySession] [.bool] [] (fun x => l_eqSession k x.1 x.2.1) (fun x => r_l_eqSession k x.1 x.2.1), (fi_18).2⟩
theorem o_l_eqSessionS (k : Nat) : Ok Try.prog (c_l_eqSessionS k) := ok_of (map0) (ptr0) (eq0) (tab1 (ty_22) (tab1 (ty_46) (tab0))) (inl1 (fi_9) (inl0)) (spec1 (s_l_eqSession k) (spec0)) (mspec0)
theorem n_l_eqSessionS (k : Nat) : NOk (c_l_eqSessionS k) := nok (inl1 (fi_9) (inl0))
theorem s_l_eqSessionS (k : Nat) : SG 9 (sp_l_eqSessionS k) := ⟨specGood_run (o_l_eqSessionS k) mixed (n_l_eqSessionS k) (d := k) [(.slice 46 ySession), (.slice 46 ySession)] [.bool] [] (fun x => l_eqSessionS k x.1 x.2.1) (fun x => r_l_eqSessionS k x.1 x.2.1), (fi_9).2⟩
theorem o_l_eqIntS (k : Nat) : Ok Try.prog (c_l_eqIntS k) := ok_of (map0) (ptr0) (eq0) (tab1 (ty_3) (tab1 (ty_35) (tab0))) (inl1 (fi_34) (inl0)) (spec0) (mspec0)
theorem n_l_eqIntS (k : Nat) : NOk (c_l_eqIntS k) := nok (inl1 (fi_34) (inl0))
theorem s_l_eqIntS (k : Nat) : SG 34 (sp_l_eqIntS k) := ⟨specGood_run (o_l_eqIntS k) mixed (n_l_eqIntS k) (d := k) [(.slice 3 (.int .i64)), (.slice 3 (.int .i64))] [.bool] [] (fun x => l_eqIntS k x.1 x.2.1) (fun x => r_l_eqIntS k x.1 x.2.1), (fi_34).2⟩
theorem o_l_eqEvent (k : Nat) : Ok Try.prog (c_l_eqEvent k) := ok_of (map0) (ptr0) (eq0) (tab1 (ty_3) (tab1 (ty_9) (tab1 (ty_35) (tab1 (ty_58) (tab0))))) (inl1 (fi_32) (inl0)) (spec1 (s_l_eqIntS k) (spec0)) (mspec0)
theorem n_l_eqEvent (k : Nat) : NOk (c_l_eqEvent k) := nok (inl1 (fi_32) (inl0))
theorem s_l_eqEvent (k : Nat) : SG 32 (sp_l_eqEvent k) := ⟨specGood_run (o_l_eqEvent k) mixed (n_l_eqEvent k) (d := k) [yEvent, yEvent] [.bool] [] (fun x => l_eqEvent k x.1 x.2.1) (fun x => r_l_eqEvent k x.1 x.2.1), (fi_32).2⟩
theorem o_l_eqEventS (k : Nat) : Ok Try.prog (c_l_eqEventS k) := ok_of (map0) (ptr0) (eq0) (tab1 (ty_23) (tab1 (ty_58) (tab0))) (inl1 (fi_19) (inl0)) (spec1 (s_l_eqEvent k) (spec0)) (mspec0)
theorem n_l_eqEventS (k : Nat) : NOk (c_l_eqEventS k) := nok (inl1 (fi_19) (inl0))
theorem s_l_eqEventS (k : Nat) : SG 19 (sp_l_eqEventS k) := ⟨specGood_run (o_l_eqEventS k) mixed (n_l_eqEventS k) (d := k) [(.slice 58 yEvent), (.slice 58 yEvent)] [.bool] [] (fun x => l_eqEventS k x.1 x.2.1) (fun x => r_l_eqEventS k x.1 x.2.1), (fi_19).2⟩
theorem o_l_eqItem (k : Nat) : Ok Try.prog (c_l_eqItem k) := ok_of (map0) (ptr0) (eq0) (tab1 (ty_3) (tab1 (ty_66) (tab0))) (inl1 (fi_37) (inl0)) (spec0) (mspec0)
theorem n_l_eqItem (k : Nat) : NOk (c_l_eqItem k) := nok (inl1 (fi_37) (inl0))
theorem s_l_eqItem (k : Nat) : SG 37 (sp_l_eqItem k) := ⟨specGood_run (o_l_eqItem k) mixed (n_l_eqItem k) (d := k) [yItem, yItem] [.bool] [] (fun x => l_eqItem k x.1 x.2.1) (fun x => r_l_eqItem k x.1 x.2.1), (fi_37).2⟩
theorem o_l_eqItemS (k : Nat) : Ok Try.prog (c_l_eqItemS k) := ok_of (map0) (ptr0) (eq0) (tab1 (ty_60) (tab1 (ty_66) (tab0))) (inl1 (fi_33) (inl0)) (spec1 (s_l_eqItem k) (spec0)) (mspec0)
theorem n_l_eqItemS (k : Nat) : NOk (c_l_eqItemS k) := nok (inl1 (fi_33) (inl0))
theorem s_l_eqItemS (k : Nat) : SG 33 (sp_l_eqItemS k) := ⟨specGood_run (o_l_eqItemS k) mixed (n_l_eqItemS k) (d := k) [(.slice 66 yItem), (.slice 66 yItem)] [.bool] [] (fun x => l_eqItemS k x.1 x.2.1) (fun x => r_l_eqItemS k x.1 x.2.1), (fi_33).2⟩
theorem o_l_eqItemSS (k : Nat) : Ok Try.prog (c_l_eqItemSS k) := ok_of (map0) (ptr0) (eq0) (tab1 (ty_24) (tab1 (ty_60) (tab0))) (inl1 (fi_20) (inl0)) (spec1 (s_l_eqItemS k) (spec0)) (mspec0)
theorem n_l_eqItemSS (k : Nat) : NOk (c_l_eqItemSS k) := nok (inl1 (fi_20) (inl0))
theorem s_l_eqItemSS (k : Nat) : SG 20 (sp_l_eqItemSS k) := ⟨specGood_run (o_l_eqItemSS k) mixed (n_l_eqItemSS k) (d := k) [(.slice 60 (.slice 66 yItem)), (.slice 60 (.slice 66 yItem))] [.bool] [] (fun x => l_eqItemSS k x.1 x.2.1) (fun x => r_l_eqItemSS k x.1 x.2.1), (fi_20).2⟩
theorem o_l_eqBoolS (k : Nat) : Ok Try.prog (c_l_eqBoolS k) := ok_of (map0) (ptr0) (eq0) (tab1 (ty_4) (tab1 (ty_25) (tab0))) (inl1 (fi_21) (inl0)) (spec0) (mspec0)
theorem n_l_eqBoolS (k : Nat) : NOk (c_l_eqBoolS k) := nok (inl1 (fi_21) (inl0))
theorem s_l_eqBoolS (k : Nat) : SG 21 (sp_l_eqBoolS k) := ⟨specGood_run (o_l_eqBoolS k) mixed (n_l_eqBoolS k) (d := k) [(.slice 4 .bool), (.slice 4 .bool)] [.bool] [] (fun x => l_eqBoolS k x.1 x.2.1) (fun x => r_l_eqBoolS k x.1 x.2.1), (fi_21).2⟩
theorem o_l_eqRoom (k : Nat) : Ok Try.prog (c_l_eqRoom k) := ok_of (map0) (ptr0) (eq0) (tab1 (ty_23) (tab1 (ty_24) (tab1 (ty_25) (tab1 (ty_27) (tab0))))) (inl1 (fi_10) (inl0)) (spec1 (s_l_eqEventS k) (spec1 (s_l_eqItemSS k) (spec1 (s_l_eqBoolS k) (spec0)))) (mspec0)
theorem n_l_eqRoom (k : Nat) : NOk (c_l_eqRoom k) := nok (inl1 (fi_10) (inl0))
theorem s_l_eqRoom (k : Nat) : SG 10 (sp_l_eqRoom k) := ⟨specGood_run (o_l_eqRoom k) mixed (n_l_eqRoom k) (d := k) [yRoom, yRoom] [.bool] [] (fun x => l_eqRoom k x.1 x.2.1) (fun x => r_l_eqRoom k x.1 x.2.1), (fi_10).2⟩
theorem o_l_eqOut (k : Nat) : Ok Try.prog (c_l_eqOut k) := ok_of (map0) (ptr0) (eq0) (tab1 (ty_3) (tab1 (ty_35) (tab1 (ty_37) (tab0)))) (inl1 (fi_22) (inl0)) (spec1 (s_l_eqIntS k) (spec0)) (mspec0)
theorem n_l_eqOut (k : Nat) : NOk (c_l_eqOut k) := nok (inl1 (fi_22) (inl0))
theorem s_l_eqOut (k : Nat) : SG 22 (sp_l_eqOut k) := ⟨specGood_run (o_l_eqOut k) mixed (n_l_eqOut k) (d := k) [yOut, yOut] [.bool] [] (fun x => l_eqOut k x.1 x.2.1) (fun x => r_l_eqOut k x.1 x.2.1), (fi_22).2⟩
theorem o_l_eqOutS (k : Nat) : Ok Try.prog (c_l_eqOutS k) := ok_of (map0) (ptr0) (eq0) (tab1 (ty_28) (tab1 (ty_37) (tab0))) (inl1 (fi_11) (inl0)) (spec1 (s_l_eqOut k) (spec0)) (mspec0)
theorem n_l_eqOutS (k : Nat) : NOk (c_l_eqOutS k) := nok (inl1 (fi_11) (inl0))
theorem s_l_eqOutS (k : Nat) : SG 11 (sp_l_eqOutS k) := ⟨specGood_run (o_l_eqOutS k) mixed (n_l_eqOutS k) (d := k) [(.slice 37 yOut), (.slice 37 yOut)] [.bool] [] (fun x => l_eqOutS k x.1 x.2.1) (fun x => r_l_eqOutS k x.1 x.2.1), (fi_11).2⟩
theorem o_l_eqHall (k : Nat) : Ok Try.prog (c_l_eqHall k) := ok_of (map0) (ptr0) (eq0) (tab1 (ty_22) (tab1 (ty_27) (tab1 (ty_28) (tab1 (ty_30) (tab0))))) (inl1 (fi_6) (inl0)) (spec1 (s_l_eqSessionS k) (spec1 (s_l_eqRoom k) (spec1 (s_l_eqOutS k) (spec0)))) (mspec0)
theorem n_l_eqHall (k : Nat) : NOk (c_l_eqHall k) := nok (inl1 (fi_6) (inl0))
theorem s_l_eqHall (k : Nat) : SG 6 (sp_l_eqHall k) := ⟨specGood_run (o_l_eqHall k) mixed (n_l_eqHall k) (d := k) [yHall, yHall] [.bool] [] (fun x => l_eqHall k x.1 x.2.1) (fun x => r_l_eqHall k x.1 x.2.1), (fi_6).2⟩
theorem o_l_markText (k : Nat) : Ok Try.prog (c_l_markText k) := ok_of (map0) (ptr0) (eq0) (tab1 (ty_3) (tab1 (ty_5) (tab1 (ty_9) (tab1 (ty_62) (tab0))))) (inl1 (fi_23) (inl0)) (spec0) (mspec0)
theorem n_l_markText (k : Nat) : NOk (c_l_markText k) := nok (inl1 (fi_23) (inl0))
theorem s_l_markText (k : Nat) : SG 23 (sp_l_markText k) := ⟨specGood_run (o_l_markText k) mixed (n_l_markText k) (d := k) [(.int .i64)] [.str] [] (fun x => l_markText k x.1) (fun x => r_l_markText k x.1), (fi_23).2⟩
theorem o_l_heldSessionS (k : Nat) : Ok Try.prog (c_l_heldSessionS k) := ok_of (map0) (ptr0) (eq0) (tab1 (ty_3) (tab1 (ty_9) (tab1 (ty_22) (tab1 (ty_46) (tab0))))) (inl1 (fi_15) (inl0)) (spec1 (s_l_markText k) (spec0)) (mspec0)
theorem n_l_heldSessionS (k : Nat) : NOk (c_l_heldSessionS k) := nok (inl1 (fi_15) (inl0))
theorem s_l_heldSessionS (k : Nat) : SG 15 (sp_l_heldSessionS k) := ⟨specGood_run (o_l_heldSessionS k) mixed (n_l_heldSessionS k) (d := k) [(.slice 46 ySession), (.int .i64)] [(.int .i64)] [] (fun x => l_heldSessionS k x.1 x.2.1) (fun x => r_l_heldSessionS k x.1 x.2.1), (fi_15).2⟩
theorem o_l_heldIntS (k : Nat) : Ok Try.prog (c_l_heldIntS k) := ok_of (map0) (ptr0) (eq0) (tab1 (ty_3) (tab1 (ty_35) (tab0))) (inl1 (fi_31) (inl0)) (spec0) (mspec0)
theorem n_l_heldIntS (k : Nat) : NOk (c_l_heldIntS k) := nok (inl1 (fi_31) (inl0))
theorem s_l_heldIntS (k : Nat) : SG 31 (sp_l_heldIntS k) := ⟨specGood_run (o_l_heldIntS k) mixed (n_l_heldIntS k) (d := k) [(.slice 3 (.int .i64)), (.int .i64)] [(.int .i64)] [] (fun x => l_heldIntS k x.1 x.2.1) (fun x => r_l_heldIntS k x.1 x.2.1), (fi_31).2⟩
theorem o_l_heldEventS (k : Nat) : Ok Try.prog (c_l_heldEventS k) := ok_of (map0) (ptr0) (eq0) (tab1 (ty_3) (tab1 (ty_9) (tab1 (ty_23) (tab1 (ty_35) (tab1 (ty_58) (tab0)))))) (inl1 (fi_28) (inl0)) (spec1 (s_l_markText k) (spec1 (s_l_heldIntS k) (spec0))) (mspec0)
theorem n_l_heldEventS (k : Nat) : NOk (c_l_heldEventS k) := nok (inl1 (fi_28) (inl0))
theorem s_l_heldEventS (k : Nat) : SG 28 (sp_l_heldEventS k) := ⟨specGood_run (o_l_heldEventS k) mixed (n_l_heldEventS k) (d := k) [(.slice 58 yEvent), (.int .i64)] [(.int .i64)] [] (fun x => l_heldEventS k x.1 x.2.1) (fun x => r_l_heldEventS k x.1 x.2.1), (fi_28).2⟩
theorem o_l_heldItemS (k : Nat) : Ok Try.prog (c_l_heldItemS k) := ok_of (map0) (ptr0) (eq0) (tab1 (ty_3) (tab1 (ty_60) (tab1 (ty_66) (tab0)))) (inl1 (fi_36) (inl0)) (spec0) (mspec0)
theorem n_l_heldItemS (k : Nat) : NOk (c_l_heldItemS k) := nok (inl1 (fi_36) (inl0))
theorem s_l_heldItemS (k : Nat) : SG 36 (sp_l_heldItemS k) := ⟨specGood_run (o_l_heldItemS k) mixed (n_l_heldItemS k) (d := k) [(.slice 66 yItem), (.int .i64)] [(.int .i64)] [] (fun x => l_heldItemS k x.1 x.2.1) (fun x => r_l_heldItemS k x.1 x.2.1), (fi_36).2⟩
theorem o_l_heldItemSS (k : Nat) : Ok Try.prog (c_l_heldItemSS k) := ok_of (map0) (ptr0) (eq0) (tab1 (ty_24) (tab1 (ty_60) (tab0))) (inl1 (fi_29) (inl0)) (spec1 (s_l_heldItemS k) (spec0)) (mspec0)
theorem n_l_heldItemSS (k : Nat) : NOk (c_l_heldItemSS k) := nok (inl1 (fi_29) (inl0))
theorem s_l_heldItemSS (k : Nat) : SG 29 (sp_l_heldItemSS k) := ⟨specGood_run (o_l_heldItemSS k) mixed (n_l_heldItemSS k) (d := k) [(.slice 60 (.slice 66 yItem)), (.int .i64)] [(.int .i64)] [] (fun x => l_heldItemSS k x.1 x.2.1) (fun x => r_l_heldItemSS k x.1 x.2.1), (fi_29).2⟩
theorem o_l_heldBoolS (k : Nat) : Ok Try.prog (c_l_heldBoolS k) := ok_of (map0) (ptr0) (eq0) (tab1 (ty_4) (tab1 (ty_25) (tab0))) (inl1 (fi_30) (inl0)) (spec0) (mspec0)
theorem n_l_heldBoolS (k : Nat) : NOk (c_l_heldBoolS k) := nok (inl1 (fi_30) (inl0))
theorem s_l_heldBoolS (k : Nat) : SG 30 (sp_l_heldBoolS k) := ⟨specGood_run (o_l_heldBoolS k) mixed (n_l_heldBoolS k) (d := k) [(.slice 4 .bool), (.int .i64)] [(.int .i64)] [] (fun x => l_heldBoolS k x.1 x.2.1) (fun x => r_l_heldBoolS k x.1 x.2.1), (fi_30).2⟩
theorem o_l_heldRoom (k : Nat) : Ok Try.prog (c_l_heldRoom k) := ok_of (map0) (ptr0) (eq0) (tab1 (ty_23) (tab1 (ty_24) (tab1 (ty_25) (tab1 (ty_27) (tab0))))) (inl1 (fi_16) (inl0)) (spec1 (s_l_heldEventS k) (spec1 (s_l_heldItemSS k) (spec1 (s_l_heldBoolS k) (spec0)))) (mspec0)
theorem n_l_heldRoom (k : Nat) : NOk (c_l_heldRoom k) := nok (inl1 (fi_16) (inl0))
theorem s_l_heldRoom (k : Nat) : SG 16 (sp_l_heldRoom k) := ⟨specGood_run (o_l_heldRoom k) mixed (n_l_heldRoom k) (d := k) [yRoom, (.int .i64)] [(.int .i64)] [] (fun x => l_heldRoom k x.1 x.2.1) (fun x => r_l_heldRoom k x.1 x.2.1), (fi_16).2⟩
theorem o_l_heldOutS (k : Nat) : Ok Try.prog (c_l_heldOutS k) := ok_of (map0) (ptr0) (eq0) (tab1 (ty_3) (tab1 (ty_28) (tab1 (ty_35) (tab1 (ty_37) (tab0))))) (inl1 (fi_17) (inl0)) (spec1 (s_l_heldIntS k) (spec0)) (mspec0)
theorem n_l_heldOutS (k : Nat) : NOk (c_l_heldOutS k) := nok (inl1 (fi_17) (inl0))
theorem s_l_heldOutS (k : Nat) : SG 17 (sp_l_heldOutS k) := ⟨specGood_run (o_l_heldOutS k) mixed (n_l_heldOutS k) (d := k) [(.slice 37 yOut), (.int .i64)] [(.int .i64)] [] (fun x => l_heldOutS k x.1 x.2.1) (fun x => r_l_heldOutS k x.1 x.2.1), (fi_17).2⟩
theorem o_l_heldHall (k : Nat) : Ok Try.prog (c_l_heldHall k) := ok_of (map0) (ptr0) (eq0) (tab1 (ty_22) (tab1 (ty_27) (tab1 (ty_28) (tab1 (ty_30) (tab0))))) (inl1 (fi_8) (inl0)) (spec1 (s_l_heldSessionS k) (spec1 (s_l_heldRoom k) (spec1 (s_l_heldOutS k) (spec0)))) (mspec0)
theorem n_l_heldHall (k : Nat) : NOk (c_l_heldHall k) := nok (inl1 (fi_8) (inl0))
theorem s_l_heldHall (k : Nat) : SG 8 (sp_l_heldHall k) := ⟨specGood_run (o_l_heldHall k) mixed (n_l_heldHall k) (d := k) [yHall, (.int .i64)] [(.int .i64)] [] (fun x => l_heldHall k x.1 x.2.1) (fun x => r_l_heldHall k x.1 x.2.1), (fi_8).2⟩
theorem o_l_markSessionS (k : Nat) : Ok Try.prog (c_l_markSessionS k) := ok_of (map0) (ptr0) (eq0) (tab1 (ty_3) (tab1 (ty_9) (tab1 (ty_22) (tab1 (ty_46) (tab0))))) (inl1 (fi_12) (inl0)) (spec1 (s_l_markText k) (spec0)) (mspec0)
theorem n_l_markSessionS (k : Nat) : NOk (c_l_markSessionS k) := nok (inl1 (fi_12) (inl0))
theorem s_l_markSessionS (k : Nat) : MGood Try.prog 12 (sp_l_markSessionS k) ∧ Enters Try.prog 12 := ⟨mgood_run (o_l_markSessionS k) mixed (n_l_markSessionS k) (d := k) [.row 46 ySession, .imm (.int .i64)] [(.int .i64)] [] (fun x => l_markSessionS k x.1 x.2.1) (fun x => r_l_markSessionS k x.1 x.2.1), (fi_12).2⟩
theorem o_l_markIntS (k : Nat) : Ok Try.prog (c_l_markIntS k) := ok_of (map0) (ptr0) (eq0) (tab1 (ty_3) (tab1 (ty_35) (tab0))) (inl1 (fi_27) (inl0)) (spec0) (mspec0)
theorem n_l_markIntS (k : Nat) : NOk (c_l_markIntS k) := nok (inl1 (fi_27) (inl0))
theorem s_l_markIntS (k : Nat) : MGood Try.prog 27 (sp_l_markIntS k) ∧ Enters Try.prog 27 := ⟨mgood_run (o_l_markIntS k) mixed (n_l_markIntS k) (d := k) [.row 3 (.int .i64), .imm (.int .i64)] [(.int .i64)] [] (fun x => l_markIntS k x.1 x.2.1) (fun x => r_l_markIntS k x.1 x.2.1), (fi_27).2⟩
theorem o_l_markOutS (k : Nat) : Ok Try.prog (c_l_markOutS k) := ok_of (map0) (ptr0) (eq0) (tab1 (ty_3) (tab1 (ty_28) (tab1 (ty_35) (tab1 (ty_37) (tab0))))) (inl1 (fi_14) (inl0)) (spec0) (mspec1 (s_l_markIntS k) (mspec0))
theorem n_l_markOutS (k : Nat) : NOk (c_l_markOutS k) := nok (inl1 (fi_14) (inl0))
theorem s_l_markOutS (k : Nat) : MGood Try.prog 14 (sp_l_markOutS k) ∧ Enters Try.prog 14 := ⟨mgood_run (o_l_markOutS k) mixed (n_l_markOutS k) (d := k) [.tree 37 yOut, .imm (.int .i64)] [(.int .i64)] [] (fun x => l_markOutS k x.1 x.2.1) (fun x => r_l_markOutS k x.1 x.2.1), (fi_14).2⟩
theorem o_l_markEventS (k : Nat) : Ok Try.prog (c_l_markEventS k) := ok_of (map0) (ptr0) (eq0) (tab1 (ty_3) (tab1 (ty_9) (tab1 (ty_23) (tab1 (ty_35) (tab1 (ty_58) (tab0)))))) (inl1 (fi_24) (inl0)) (spec1 (s_l_markText k) (spec0)) (mspec1 (s_l_markIntS k) (mspec0))
theorem n_l_markEventS (k : Nat) : NOk (c_l_markEventS k) := nok (inl1 (fi_24) (inl0))
theorem s_l_markEventS (k : Nat) : MGood Try.prog 24 (sp_l_markEventS k) ∧ Enters Try.prog 24 := ⟨mgood_run (o_l_markEventS k) mixed (n_l_markEventS k) (d := k) [.tree 58 yEvent, .imm (.int .i64)] [(.int .i64)] [] (fun x => l_markEventS k x.1 x.2.1) (fun x => r_l_markEventS k x.1 x.2.1), (fi_24).2⟩
theorem o_l_markItemS (k : Nat) : Ok Try.prog (c_l_markItemS k) := ok_of (map0) (ptr0) (eq0) (tab1 (ty_3) (tab1 (ty_60) (tab1 (ty_66) (tab0)))) (inl1 (fi_35) (inl0)) (spec0) (mspec0)
theorem n_l_markItemS (k : Nat) : NOk (c_l_markItemS k) := nok (inl1 (fi_35) (inl0))
theorem s_l_markItemS (k : Nat) : MGood Try.prog 35 (sp_l_markItemS k) ∧ Enters Try.prog 35 := ⟨mgood_run (o_l_markItemS k) mixed (n_l_markItemS k) (d := k) [.row 66 yItem, .imm (.int .i64)] [(.int .i64)] [] (fun x => l_markItemS k x.1 x.2.1) (fun x => r_l_markItemS k x.1 x.2.1), (fi_35).2⟩
theorem o_l_markItemSS (k : Nat) : Ok Try.prog (c_l_markItemSS k) := ok_of (map0) (ptr0) (eq0) (tab1 (ty_24) (tab1 (ty_60) (tab0))) (inl1 (fi_25) (inl0)) (spec0) (mspec1 (s_l_markItemS k) (mspec0))
theorem n_l_markItemSS (k : Nat) : NOk (c_l_markItemSS k) := nok (inl1 (fi_25) (inl0))
theorem s_l_markItemSS (k : Nat) : MGood Try.prog 25 (sp_l_markItemSS k) ∧ Enters Try.prog 25 := ⟨mgood_run (o_l_markItemSS k) mixed (n_l_markItemSS k) (d := k) [.tree 60 (.slice 66 yItem), .imm (.int .i64)] [(.int .i64)] [] (fun x => l_markItemSS k x.1 x.2.1) (fun x => r_l_markItemSS k x.1 x.2.1), (fi_25).2⟩
theorem o_l_markBoolS (k : Nat) : Ok Try.prog (c_l_markBoolS k) := ok_of (map0) (ptr0) (eq0) (tab1 (ty_4) (tab1 (ty_25) (tab0))) (inl1 (fi_26) (inl0)) (spec0) (mspec0)
theorem n_l_markBoolS (k : Nat) : NOk (c_l_markBoolS k) := nok (inl1 (fi_26) (inl0))
theorem s_l_markBoolS (k : Nat) : MGood Try.prog 26 (sp_l_markBoolS k) ∧ Enters Try.prog 26 := ⟨mgood_run (o_l_markBoolS k) mixed (n_l_markBoolS k) (d := k) [.row 4 .bool, .imm (.int .i64)] [(.int .i64)] [] (fun x => l_markBoolS k x.1 x.2.1) (fun x => r_l_markBoolS k x.1 x.2.1), (fi_26).2⟩
theorem o_l_FnExactHallNew (k : Nat) : Ok Try.prog (c_l_FnExactHallNew k) := ok_of (map0) (ptr0) (eq0) (tab1 (ty_22) (tab1 (ty_23) (tab1 (ty_24) (tab1 (ty_25) (tab1 (ty_27) (tab1 (ty_28) (tab1 (ty_30) (tab0)))))))) (inl1 (fi_3) (inl1 (fi_7) (inl1 (fi_13) (inl0)))) (spec1 (s_s_HallNew k) (spec1 (s_i_HallNew k) (spec1 (s_l_eqHall k) (spec1 (s_l_heldHall k) (spec0))))) (mspec1 (s_l_markSessionS k) (mspec1 (s_l_markOutS k) (mspec1 (s_l_markEventS k) (mspec1 (s_l_markItemSS k) (mspec1 (s_l_markBoolS k) (mspec0))))))
theorem n_l_FnExactHallNew (k : Nat) : NOk (c_l_FnExactHallNew k) := nok (inl1 (fi_3) (inl1 (fi_7) (inl1 (fi_13) (inl0))))
theorem s_l_FnExactHallNew (k : Nat) : SG 3 (sp_l_FnExactHallNew k) := ⟨specGood_run (o_l_FnExactHallNew k) mixed (n_l_FnExactHallNew k) (d := k) [] [.bool] [] (fun x => l_FnExactHallNew k) (fun x => r_l_FnExactHallNew k), (fi_3).2⟩
end Go.Vm
