/- The functions keep their specifications. -/
import Derived.Test.YtpcdgghbhgjgfaaH2
import Derived.Test.YtpcdgghbhgjgfaaChecked
import Derived.Test.YtpcdgghbhgjgfaaIns
set_option linter.unusedVariables false
namespace Go.Vm
open Go Go.Proofs
theorem mixed : Try.prog.follows .mixedOrders = true := Try.checked.mixed
theorem ty_3 : TyOk Try.prog (.int .i64) 3 := tyB_sound _ _ _ [] (by kernel_rfl)
theorem ty_22 : TyOk Try.prog (.slice 45 yItem) 22 := tyB_sound _ _ _ [] (by kernel_rfl)
theorem ty_24 : TyOk Try.prog (.slice 42 yItem) 24 := tyB_sound _ _ _ [] (by kernel_rfl)
theorem ty_42 : TyOk Try.prog yItem 42 := tyB_sound _ _ _ [] (by kernel_rfl)
theorem ty_45 : TyOk Try.prog yItem 45 := tyB_sound _ _ _ [] (by kernel_rfl)
theorem fi_3 : Try.prog.funcs[3]? = some Try.f3 ∧ Enters Try.prog 3 := ⟨Try.func3, enters_of Try.func3 (by kernel_rfl) rfl⟩
theorem fi_5 : Try.prog.funcs[5]? = some Try.f5 ∧ Enters Try.prog 5 := ⟨Try.func5, enters_of Try.func5 (by kernel_rfl) rfl⟩
theorem fi_6 : Try.prog.funcs[6]? = some Try.f6 ∧ Enters Try.prog 6 := ⟨Try.func6, enters_of Try.func6 (by kernel_rfl) rfl⟩
theorem fi_7 : Try.prog.funcs[7]? = some Try.f7 ∧ Enters Try.prog 7 := ⟨Try.func7, enters_of Try.func7 (by kernel_rfl) rfl⟩
theorem fi_8 : Try.prog.funcs[8]? = some Try.f8 ∧ Enters Try.prog 8 := ⟨Try.func8, enters_of Try.func8 (by kernel_rfl) rfl⟩
theorem fi_9 : Try.prog.funcs[9]? = some Try.f9 ∧ Enters Try.prog 9 := ⟨Try.func9, enters_of Try.func9 (by kernel_rfl) rfl⟩
theorem fi_10 : Try.prog.funcs[10]? = some Try.f10 ∧ Enters Try.prog 10 := ⟨Try.func10, enters_of Try.func10 (by kernel_rfl) rfl⟩
theorem fi_11 : Try.prog.funcs[11]? = some Try.f11 ∧ Enters Try.prog 11 := ⟨Try.func11, enters_of Try.func11 (by kernel_rfl) rfl⟩
theorem fi_19 : Try.prog.funcs[19]? = some Try.f19 ∧ Enters Try.prog 19 := ⟨Try.func19, enters_of Try.func19 (by kernel_rfl) rfl⟩
theorem fi_20 : Try.prog.funcs[20]? = some Try.f20 ∧ Enters Try.prog 20 := ⟨Try.func20, enters_of Try.func20 (by kernel_rfl) rfl⟩
theorem fi_21 : Try.prog.funcs[21]? = some Try.f21 ∧ Enters Try.prog 21 := ⟨Try.func21, enters_of Try.func21 (by kernel_rfl) rfl⟩
theorem fi_22 : Try.prog.funcs[22]? = some Try.f22 ∧ Enters Try.prog 22 := ⟨Try.func22, enters_of Try.func22 (by kernel_rfl) rfl⟩
theorem fi_23 : Try.prog.funcs[23]? = some Try.f23 ∧ Enters Try.prog 23 := ⟨Try.func23, enters_of Try.func23 (by kernel_rfl) rfl⟩
theorem fi_33 : Try.prog.funcs[33]? = some Try.f33 ∧ Enters Try.prog 33 := ⟨Try.func33, enters_of Try.func33 (by kernel_rfl) rfl⟩
theorem fi_37 : Try.prog.funcs[37]? = some Try.f37 ∧ Enters Try.prog 37 := ⟨Try.func37, enters_of Try.func37 (by kernel_rfl) rfl⟩
theorem fi_41 : Try.prog.funcs[41]? = some Try.f41 ∧ Enters Try.prog 41 := ⟨Try.func41, enters_of Try.func41 (by kernel_rfl) rfl⟩
theorem o_l_szItemS (k : Nat) : Ok Try.prog (c_l_szItemS k) := ok_of (map0) (ptr0) (eq0) (tab1 (ty_22) (tab0)) (inl1 (fi_5) (inl0)) (spec0) (mspec0)
theorem n_l_szItemS (k : Nat) : ∀ f fn, look (c_l_szItemS k).inl f = some fn → Try.prog.funcs[f]? = some fn := fun f fn h => (show InlL Try.prog (c_l_szItemS k).inl from inl1 (fi_5) (inl0)) f fn h |>.1
theorem s_l_szItemS (k : Nat) : SpecGood Try.prog 5 (sp_l_szItemS k) ∧ Enters Try.prog 5 := ⟨specGood_run (o_l_szItemS k) mixed (n_l_szItemS k) (d := k) [(.slice 45 yItem), (.int .i64)] [(.int .i64)] [] (fun x => l_szItemS k x.1 x.2.1) (fun x => r_l_szItemS k x.1 x.2.1), (fi_5).2⟩
theorem o_s_l01In (k : Nat) : Ok Try.prog (c_s_l01In k) := ok_of (map0) (ptr0) (eq0) (tab0) (inl1 (fi_37) (inl0)) (spec0) (mspec0)
theorem n_s_l01In (k : Nat) : ∀ f fn, look (c_s_l01In k).inl f = some fn → Try.prog.funcs[f]? = some fn := fun f fn h => (show InlL Try.prog (c_s_l01In k).inl from inl1 (fi_37) (inl0)) f fn h |>.1
theorem s_s_l01In (k : Nat) : SpecGood Try.prog 37 (sp_s_l01In k) ∧ Enters Try.prog 37 := ⟨specGood_run (o_s_l01In k) mixed (n_s_l01In k) (d := k) [(.int .i64), (.int .i64), (.int .i64)] [.bool] [] (fun x => s_l01In k x.1 x.2.1 x.2.2.1) (fun x => r_s_l01In k x.1 x.2.1 x.2.2.1), (fi_37).2⟩
theorem o_s_l10Key (k : Nat) : Ok Try.prog (c_s_l10Key k) := ok_of (map0) (ptr0) (eq0) (tab0) (inl1 (fi_41) (inl0)) (spec1 (s_s_l01In k) (spec0)) (mspec0)
theorem n_s_l10Key (k : Nat) : ∀ f fn, look (c_s_l10Key k).inl f = some fn → Try.prog.funcs[f]? = some fn := fun f fn h => (show InlL Try.prog (c_s_l10Key k).inl from inl1 (fi_41) (inl0)) f fn h |>.1
theorem s_s_l10Key (k : Nat) : SpecGood Try.prog 41 (sp_s_l10Key k) ∧ Enters Try.prog 41 := ⟨specGood_run (o_s_l10Key k) mixed (n_s_l10Key k) (d := k) [(.int .i64)] [.bool] [] (fun x => s_l10Key k x.1) (fun x => r_s_l10Key k x.1), (fi_41).2⟩
theorem o_s_StateOk (k : Nat) : Ok Try.prog (c_s_StateOk k) := ok_of (map0) (ptr0) (eq0) (tab1 (ty_3) (tab1 (ty_24) (tab1 (ty_42) (tab0)))) (inl1 (fi_19) (inl0)) (spec1 (s_s_l01In k) (spec1 (s_s_l10Key k) (spec0))) (mspec0)
theorem n_s_StateOk (k : Nat) : ∀ f fn, look (c_s_StateOk k).inl f = some fn → Try.prog.funcs[f]? = some fn := fun f fn h => (show InlL Try.prog (c_s_StateOk k).inl from inl1 (fi_19) (inl0)) f fn h |>.1
theorem s_s_StateOk (k : Nat) : SpecGood Try.prog 19 (sp_s_StateOk k) ∧ Enters Try.prog 19 := ⟨specGood_run (o_s_StateOk k) mixed (n_s_StateOk k) (d := k) [(.slice 42 yItem)] [.bool] [] (fun x => s_StateOk k x.1) (fun x => r_s_StateOk k x.1), (fi_19).2⟩
theorem o_s_Put (k : Nat) : Ok Try.prog (c_s_Put k) := ok_of (map0) (ptr0) (eq0) (tab1 (ty_3) (tab1 (ty_24) (tab1 (ty_42) (tab0)))) (inl1 (fi_6) (inl0)) (spec1 (s_s_StateOk k) (spec0)) (mspec0)
theorem n_s_Put (k : Nat) : ∀ f fn, look (c_s_Put k).inl f = some fn → Try.prog.funcs[f]? = some fn := fun f fn h => (show InlL Try.prog (c_s_Put k).inl from inl1 (fi_6) (inl0)) f fn h |>.1
theorem s_s_Put (k : Nat) : SpecGood Try.prog 6 (sp_s_Put k) ∧ Enters Try.prog 6 := ⟨specGood_run (o_s_Put k) mixed (n_s_Put k) (d := k) [(.slice 42 yItem), (.int .i64), (.int .i64)] [(.slice 42 yItem)] [true] (fun x => s_Put k x.1 x.2.1 x.2.2.1) (fun x => r_s_Put k x.1 x.2.1 x.2.2.1), (fi_6).2⟩
theorem o_l_toItem (k : Nat) : Ok Try.prog (c_l_toItem k) := ok_of (map0) (ptr0) (eq0) (tab1 (ty_3) (tab1 (ty_42) (tab1 (ty_45) (tab0)))) (inl1 (fi_20) (inl0)) (spec0) (mspec0)
theorem n_l_toItem (k : Nat) : ∀ f fn, look (c_l_toItem k).inl f = some fn → Try.prog.funcs[f]? = some fn := fun f fn h => (show InlL Try.prog (c_l_toItem k).inl from inl1 (fi_20) (inl0)) f fn h |>.1
theorem s_l_toItem (k : Nat) : SpecGood Try.prog 20 (sp_l_toItem k) ∧ Enters Try.prog 20 := ⟨specGood_run (o_l_toItem k) mixed (n_l_toItem k) (d := k) [yItem] [yItem] [] (fun x => l_toItem k x.1) (fun x => r_l_toItem k x.1), (fi_20).2⟩
theorem o_l_toItemS (k : Nat) : Ok Try.prog (c_l_toItemS k) := ok_of (map0) (ptr0) (eq0) (tab1 (ty_22) (tab1 (ty_24) (tab1 (ty_42) (tab1 (ty_45) (tab0))))) (inl1 (fi_7) (inl0)) (spec1 (s_l_toItem k) (spec0)) (mspec0)
theorem n_l_toItemS (k : Nat) : ∀ f fn, look (c_l_toItemS k).inl f = some fn → Try.prog.funcs[f]? = some fn := fun f fn h => (show InlL Try.prog (c_l_toItemS k).inl from inl1 (fi_7) (inl0)) f fn h |>.1
theorem s_l_toItemS (k : Nat) : SpecGood Try.prog 7 (sp_l_toItemS k) ∧ Enters Try.prog 7 := ⟨specGood_run (o_l_toItemS k) mixed (n_l_toItemS k) (d := k) [(.slice 45 yItem)] [(.slice 42 yItem)] [true] (fun x => l_toItemS k x.1) (fun x => r_l_toItemS k x.1), (fi_7).2⟩
theorem s_slices_Insert_impl_Item_impl_Item (k : Nat) : MGood Try.prog 21 (sp_slices_Insert_impl_Item_impl_Item k) ∧ Enters Try.prog 21 := ⟨ins_mgood 42 yItem (by decide) (by intro h; injection h) ins21_walk, (fi_21).2⟩
theorem o_i_within (k : Nat) : Ok Try.prog (c_i_within k) := ok_of (map0) (ptr0) (eq0) (tab0) (inl1 (fi_33) (inl0)) (spec0) (mspec0)
theorem n_i_within (k : Nat) : ∀ f fn, look (c_i_within k).inl f = some fn → Try.prog.funcs[f]? = some fn := fun f fn h => (show InlL Try.prog (c_i_within k).inl from inl1 (fi_33) (inl0)) f fn h |>.1
theorem s_i_within (k : Nat) : SpecGood Try.prog 33 (sp_i_within k) ∧ Enters Try.prog 33 := ⟨specGood_run (o_i_within k) mixed (n_i_within k) (d := k) [(.int .i64), (.int .i64), (.int .i64)] [.bool] [] (fun x => i_within k x.1 x.2.1 x.2.2.1) (fun x => r_i_within k x.1 x.2.1 x.2.2.1), (fi_33).2⟩
theorem o_i_StateOk (k : Nat) : Ok Try.prog (c_i_StateOk k) := ok_of (map0) (ptr0) (eq0) (tab1 (ty_3) (tab1 (ty_24) (tab1 (ty_42) (tab0)))) (inl1 (fi_22) (inl0)) (spec1 (s_i_within k) (spec0)) (mspec0)
theorem n_i_StateOk (k : Nat) : ∀ f fn, look (c_i_StateOk k).inl f = some fn → Try.prog.funcs[f]? = some fn := fun f fn h => (show InlL Try.prog (c_i_StateOk k).inl from inl1 (fi_22) (inl0)) f fn h |>.1
theorem s_i_StateOk (k : Nat) : SpecGood Try.prog 22 (sp_i_StateOk k) ∧ Enters Try.prog 22 := ⟨specGood_run (o_i_StateOk k) mixed (n_i_StateOk k) (d := k) [(.slice 42 yItem)] [.bool] [] (fun x => i_StateOk k x.1) (fun x => r_i_StateOk k x.1), (fi_22).2⟩
theorem o_i_Put (k : Nat) : Ok Try.prog (c_i_Put k) := ok_of (map0) (ptr0) (eq0) (tab1 (ty_3) (tab1 (ty_24) (tab1 (ty_42) (tab0)))) (inl1 (fi_8) (inl0)) (spec1 (s_i_StateOk k) (spec0)) (mspec1 (s_slices_Insert_impl_Item_impl_Item k) (mspec0))
theorem n_i_Put (k : Nat) : ∀ f fn, look (c_i_Put k).inl f = some fn → Try.prog.funcs[f]? = some fn := fun f fn h => (show InlL Try.prog (c_i_Put k).inl from inl1 (fi_8) (inl0)) f fn h |>.1
theorem s_i_Put (k : Nat) : SpecGood Try.prog 8 (sp_i_Put k) ∧ Enters Try.prog 8 := ⟨specGood_run (o_i_Put k) mixed (n_i_Put k) (d := k) [(.slice 42 yItem), (.int .i64), (.int .i64)] [(.slice 42 yItem)] [true] (fun x => i_Put k x.1 x.2.1 x.2.2.1) (fun x => r_i_Put k x.1 x.2.1 x.2.2.1), (fi_8).2⟩
theorem o_l_eqItem (k : Nat) : Ok Try.prog (c_l_eqItem k) := ok_of (map0) (ptr0) (eq0) (tab1 (ty_3) (tab1 (ty_42) (tab0))) (inl1 (fi_23) (inl0)) (spec0) (mspec0)
theorem n_l_eqItem (k : Nat) : ∀ f fn, look (c_l_eqItem k).inl f = some fn → Try.prog.funcs[f]? = some fn := fun f fn h => (show InlL Try.prog (c_l_eqItem k).inl from inl1 (fi_23) (inl0)) f fn h |>.1
theorem s_l_eqItem (k : Nat) : SpecGood Try.prog 23 (sp_l_eqItem k) ∧ Enters Try.prog 23 := ⟨specGood_run (o_l_eqItem k) mixed (n_l_eqItem k) (d := k) [yItem, yItem] [.bool] [] (fun x => l_eqItem k x.1 x.2.1) (fun x => r_l_eqItem k x.1 x.2.1), (fi_23).2⟩
theorem o_l_eqItemS (k : Nat) : Ok Try.prog (c_l_eqItemS k) := ok_of (map0) (ptr0) (eq0) (tab1 (ty_24) (tab1 (ty_42) (tab0))) (inl1 (fi_9) (inl0)) (spec1 (s_l_eqItem k) (spec0)) (mspec0)
theorem n_l_eqItemS (k : Nat) : ∀ f fn, look (c_l_eqItemS k).inl f = some fn → Try.prog.funcs[f]? = some fn := fun f fn h => (show InlL Try.prog (c_l_eqItemS k).inl from inl1 (fi_9) (inl0)) f fn h |>.1
theorem s_l_eqItemS (k : Nat) : SpecGood Try.prog 9 (sp_l_eqItemS k) ∧ Enters Try.prog 9 := ⟨specGood_run (o_l_eqItemS k) mixed (n_l_eqItemS k) (d := k) [(.slice 42 yItem), (.slice 42 yItem)] [.bool] [] (fun x => l_eqItemS k x.1 x.2.1) (fun x => r_l_eqItemS k x.1 x.2.1), (fi_9).2⟩
theorem o_l_markItemS (k : Nat) : Ok Try.prog (c_l_markItemS k) := ok_of (map0) (ptr0) (eq0) (tab1 (ty_3) (tab1 (ty_24) (tab1 (ty_42) (tab0)))) (inl1 (fi_10) (inl0)) (spec0) (mspec0)
theorem n_l_markItemS (k : Nat) : ∀ f fn, look (c_l_markItemS k).inl f = some fn → Try.prog.funcs[f]? = some fn := fun f fn h => (show InlL Try.prog (c_l_markItemS k).inl from inl1 (fi_10) (inl0)) f fn h |>.1
theorem s_l_markItemS (k : Nat) : MGood Try.prog 10 (sp_l_markItemS k) ∧ Enters Try.prog 10 := ⟨mgood_run (o_l_markItemS k) mixed (n_l_markItemS k) (d := k) [.row 42 yItem, .imm (.int .i64)] [(.int .i64)] [] (fun x => l_markItemS k x.1 x.2.1) (fun x => r_l_markItemS k x.1 x.2.1), (fi_10).2⟩
theorem o_l_heldItemS (k : Nat) : Ok Try.prog (c_l_heldItemS k) := ok_of (map0) (ptr0) (eq0) (tab1 (ty_3) (tab1 (ty_24) (tab1 (ty_42) (tab0)))) (inl1 (fi_11) (inl0)) (spec0) (mspec0)
theorem n_l_heldItemS (k : Nat) : ∀ f fn, look (c_l_heldItemS k).inl f = some fn → Try.prog.funcs[f]? = some fn := fun f fn h => (show InlL Try.prog (c_l_heldItemS k).inl from inl1 (fi_11) (inl0)) f fn h |>.1
theorem s_l_heldItemS (k : Nat) : SpecGood Try.prog 11 (sp_l_heldItemS k) ∧ Enters Try.prog 11 := ⟨specGood_run (o_l_heldItemS k) mixed (n_l_heldItemS k) (d := k) [(.slice 42 yItem), (.int .i64)] [(.int .i64)] [] (fun x => l_heldItemS k x.1 x.2.1) (fun x => r_l_heldItemS k x.1 x.2.1), (fi_11).2⟩
theorem o_l_FnExactPut (k : Nat) : Ok Try.prog (c_l_FnExactPut k) := ok_of (map0) (ptr0) (eq0) (tab0) (inl1 (fi_3) (inl0)) (spec1 (s_l_szItemS k) (spec1 (s_s_Put k) (spec1 (s_l_toItemS k) (spec1 (s_i_Put k) (spec1 (s_l_eqItemS k) (spec1 (s_l_heldItemS k) (spec0))))))) (mspec1 (s_l_markItemS k) (mspec0))
theorem n_l_FnExactPut (k : Nat) : ∀ f fn, look (c_l_FnExactPut k).inl f = some fn → Try.prog.funcs[f]? = some fn := fun f fn h => (show InlL Try.prog (c_l_FnExactPut k).inl from inl1 (fi_3) (inl0)) f fn h |>.1
theorem s_l_FnExactPut (k : Nat) : SpecGood Try.prog 3 (sp_l_FnExactPut k) ∧ Enters Try.prog 3 := ⟨specGood_run (o_l_FnExactPut k) mixed (n_l_FnExactPut k) (d := k) [(.slice 45 yItem), (.int .i64), (.int .i64)] [.bool] [] (fun x => l_FnExactPut k x.1 x.2.1 x.2.2.1) (fun x => r_l_FnExactPut k x.1 x.2.1 x.2.2.1), (fi_3).2⟩
end Go.Vm
