/- The machine computes them. -/
import Derived.Test.YtdpbokpmionoeaaG2
import Derived.Test.YtdpbokpmionoeaaWb
import Derived.Test.YtdpbokpmionoeaaProg
import Derived.KernelRfl
set_option linter.unusedVariables false
namespace Go.Vm
open Go Go.Proofs
abbrev yItem : Ty := (.fld (.int .i64) (.fld (.int .i64) .nil))
abbrev yEvent : Ty := (.fld (.int .i64) (.fld (.int .i64) (.fld (.int .i64) (.fld (.int .i64) (.fld (.int .i64) (.fld (.slice 3 (.int .i64)) (.fld .str (.fld (.slice 3 (.int .i64)) (.fld (.int .i64) .nil)))))))))
abbrev yCommand : Ty := (.fld (.int .i64) (.fld (.int .i64) (.fld (.int .i64) (.fld yEvent (.fld (.int .i64) (.fld (.int .i64) .nil))))))
abbrev yRoom : Ty := (.fld (.slice 33 yEvent) (.fld (.slice 22 (.slice 97 yItem)) (.fld (.slice 4 .bool) .nil)))
abbrev yRoom1 : Ty := (.fld (.slice 36 yEvent) (.fld (.slice 25 (.slice 95 yItem)) (.fld (.slice 4 .bool) .nil)))
abbrev yL05Cur : Ty := (.fld .str (.fld (.int .i64) (.fld .bool .nil)))
abbrev yOut : Ty := (.fld (.int .i64) (.fld (.int .i64) (.fld (.slice 3 (.int .i64)) .nil)))
abbrev ySession : Ty := (.fld (.int .i64) (.fld (.int .i64) (.fld .str .nil)))
abbrev yHall : Ty := (.fld (.slice 146 ySession) (.fld yRoom1 (.fld (.slice 132 yOut) .nil)))
noncomputable def c_l_szItemS (k : Nat) : Cfg := { eqs := [], tab := [(22, (.slice 97 yItem))], spec := [], mspec := [], inl := [(15, Try.f15)], keep := [], join := [], hold := [], ptrs := [], fuel := k }
noncomputable def fin_l_szItemS : VV → Ms → Option Int := finV [(.int .i64)] []
theorem r_l_szItemS (k : Nat) (a0 : List TItem) (a1 : Int) : runF (c_l_szItemS k) 1 15 [argV (.slice 97 yItem) a0, argV (.int .i64) a1] (fun v m => fin_l_szItemS v m) ms0 = l_szItemS k a0 a1 := by kernel_rfl
noncomputable def sp_l_szItemS (k : Nat) : Spec := .imm (.slice 97 yItem) fun (a0 : List TItem) => .imm (.int .i64) fun (a1 : Int) => .body (l_szItemS k a0 a1) (outV [(.int .i64)] [])
noncomputable def c_s_At (k : Nat) : Cfg := { eqs := [], tab := [(3, (.int .i64)), (25, (.slice 95 yItem)), (95, yItem)], spec := [], mspec := [], inl := [(16, Try.f16)], keep := [(1002, [0, 1, 5])], join := [], hold := [], ptrs := [], fuel := k }
noncomputable def fin_s_At : VV → Ms → Option Int := finV [(.int .i64)] []
noncomputable def V0_s_At (k n0 : Nat) (a0 : List TItem) (a1 : Int) (v1 : Int) : Option Int := LP (c_s_At k) 0 (cd [1, 0, 1, 0, 0] (bo Try.f16)) 1002 (plug (c_s_At k) fin_s_At 0 [.b 0, .s (cd [1, 1] (bo Try.f16)), .fn Try.f16]) n0 ⟨⟨(mkT 24 0 [(0, one (.slc 95 yItem a0)), (1, one (.int .i64 a1)), (5, one (.int .i64 v1))]), []⟩, 1000, 1, [(0, (mkT 0 0 []))]⟩
theorem t0_s_At (k n0 : Nat) (a0 : List TItem) (a1 : Int) (v1 : Int) : V0_s_At k (n0 + 1) a0 a1 v1 = b0_s_At k (V0_s_At k n0) a0 a1 v1 := by kernel_rfl
theorem e0_s_At (k : Nat) : ∀ n0 : Nat, V0_s_At k n0 = l0_s_At k n0
  | 0 => by funext a0 a1 v1; kernel_rfl
  | n0 + 1 => by funext a0 a1 v1; rw [t0_s_At, e0_s_At k n0] <;> rfl
theorem u_s_At (k : Nat) (a0 : List TItem) (a1 : Int) : runF (c_s_At k) 1 16 [argV (.slice 95 yItem) a0, argV (.int .i64) a1] (fun v m => fin_s_At v m) ms0 = g_s_At k (V0_s_At k k) a0 a1 := by kernel_rfl
theorem r_s_At (k : Nat) (a0 : List TItem) (a1 : Int) : runF (c_s_At k) 1 16 [argV (.slice 95 yItem) a0, argV (.int .i64) a1] (fun v m => fin_s_At v m) ms0 = s_At k a0 a1 := by rw [u_s_At, e0_s_At k k] <;> rfl
noncomputable def sp_s_At (k : Nat) : Spec := .imm (.slice 95 yItem) fun (a0 : List TItem) => .imm (.int .i64) fun (a1 : Int) => .body (s_At k a0 a1) (outV [(.int .i64)] [])
noncomputable def c_l_toItem (k : Nat) : Cfg := { eqs := [], tab := [(3, (.int .i64)), (95, yItem), (97, yItem)], spec := [], mspec := [], inl := [(68, Try.f68)], keep := [], join := [], hold := [], ptrs := [], fuel := k }
noncomputable def fin_l_toItem : VV → Ms → Option TItem := finV [yItem] []
theorem r_l_toItem (k : Nat) (a0 : TItem) : runF (c_l_toItem k) 1 68 [argV yItem a0] (fun v m => fin_l_toItem v m) ms0 = l_toItem k a0 := by kernel_rfl
noncomputable def sp_l_toItem (k : Nat) : Spec := .imm yItem fun (a0 : TItem) => .body (l_toItem k a0) (outV [yItem] [])
noncomputable def c_l_toItemS (k : Nat) : Cfg := { eqs := [], tab := [(22, (.slice 97 yItem)), (25, (.slice 95 yItem)), (95, yItem), (97, yItem)], spec := [(68, sp_l_toItem k)], mspec := [], inl := [(17, Try.f17)], keep := [(1003, [0, 3, 4])], join := [], hold := [], ptrs := [], fuel := k }
noncomputable def fin_l_toItemS : VV → Ms → Option (List TItem) := finV [(.slice 95 yItem)] [true]
noncomputable def V0_l_toItemS (k n0 : Nat) (a0 : List TItem) (v1 : Int) (xs2 : List TItem) : Option (List TItem) := LP (c_l_toItemS k) 0 (cd [1, 1, 0, 1, 0, 0] (bo Try.f17)) 1003 (plug (c_l_toItemS k) fin_l_toItemS 0 [.b 0, .s (cd [1, 1, 1] (bo Try.f17)), .fn Try.f17]) n0 ⟨⟨(mkT 23 0 [(0, one (.slc 97 yItem a0)), (3, one (.row 9000000 none none)), (4, one (.int .i64 v1))]), [(9000000, .row 95 yItem xs2 true)]⟩, 1000, 1, [(0, (mkT 0 0 []))]⟩
theorem t0_l_toItemS (k n0 : Nat) (a0 : List TItem) (v1 : Int) (xs2 : List TItem) : V0_l_toItemS k (n0 + 1) a0 v1 xs2 = b0_l_toItemS k (V0_l_toItemS k n0) a0 v1 xs2 := by kernel_rfl
theorem e0_l_toItemS (k : Nat) : ∀ n0 : Nat, V0_l_toItemS k n0 = l0_l_toItemS k n0
  | 0 => by funext a0 v1 xs2; kernel_rfl
  | n0 + 1 => by funext a0 v1 xs2; rw [t0_l_toItemS, e0_l_toItemS k n0] <;> rfl
theorem u_l_toItemS (k : Nat) (a0 : List TItem) : runF (c_l_toItemS k) 1 17 [argV (.slice 97 yItem) a0] (fun v m => fin_l_toItemS v m) ms0 = g_l_toItemS k (V0_l_toItemS k k) a0 := by kernel_rfl
theorem r_l_toItemS (k : Nat) (a0 : List TItem) : runF (c_l_toItemS k) 1 17 [argV (.slice 97 yItem) a0] (fun v m => fin_l_toItemS v m) ms0 = l_toItemS k a0 := by rw [u_l_toItemS, e0_l_toItemS k k] <;> rfl
noncomputable def sp_l_toItemS (k : Nat) : Spec := .imm (.slice 97 yItem) fun (a0 : List TItem) => .body (l_toItemS k a0) (outV [(.slice 95 yItem)] [true])
noncomputable def c_i_At (k : Nat) : Cfg := { eqs := [], tab := [(3, (.int .i64)), (25, (.slice 95 yItem)), (95, yItem)], spec := [], mspec := [], inl := [(18, Try.f18)], keep := [(1002, [1, 7, 8, 9])], join := [], hold := [], ptrs := [], fuel := k }
noncomputable def fin_i_At : VV → Ms → Option Int := finV [(.int .i64)] []
noncomputable def V0_i_At (k n0 : Nat) (a1 : Int) (a0 : List TItem) (v1 : Int) : Option Int := LP (c_i_At k) 0 (cd [1, 0, 1, 0, 0] (bo Try.f18)) 1002 (plug (c_i_At k) fin_i_At 0 [.b 0, .s (cd [1, 1] (bo Try.f18)), .fn Try.f18]) n0 ⟨⟨(mkT 20 0 [(1, one (.int .i64 a1)), (7, one (.slc 95 yItem a0)), (8, one (.int .i64 (a0.length : Int))), (9, one (.int .i64 v1))]), []⟩, 1000, 1, [(0, (mkT 0 0 []))]⟩
theorem t0_i_At (k n0 : Nat) (a1 : Int) (a0 : List TItem) (v1 : Int) : V0_i_At k (n0 + 1) a1 a0 v1 = b0_i_At k (V0_i_At k n0) a1 a0 v1 := by kernel_rfl
theorem e0_i_At (k : Nat) : ∀ n0 : Nat, V0_i_At k n0 = l0_i_At k n0
  | 0 => by funext a1 a0 v1; kernel_rfl
  | n0 + 1 => by funext a1 a0 v1; rw [t0_i_At, e0_i_At k n0] <;> rfl
theorem u_i_At (k : Nat) (a0 : List TItem) (a1 : Int) : runF (c_i_At k) 1 18 [argV (.slice 95 yItem) a0, argV (.int .i64) a1] (fun v m => fin_i_At v m) ms0 = g_i_At k (V0_i_At k k) a0 a1 := by kernel_rfl
theorem r_i_At (k : Nat) (a0 : List TItem) (a1 : Int) : runF (c_i_At k) 1 18 [argV (.slice 95 yItem) a0, argV (.int .i64) a1] (fun v m => fin_i_At v m) ms0 = i_At k a0 a1 := by rw [u_i_At, e0_i_At k k] <;> rfl
noncomputable def sp_i_At (k : Nat) : Spec := .imm (.slice 95 yItem) fun (a0 : List TItem) => .imm (.int .i64) fun (a1 : Int) => .body (i_At k a0 a1) (outV [(.int .i64)] [])
noncomputable def c_l_eqItem (k : Nat) : Cfg := { eqs := [], tab := [(3, (.int .i64)), (95, yItem)], spec := [], mspec := [], inl := [(69, Try.f69)], keep := [], join := [], hold := [], ptrs := [], fuel := k }
noncomputable def fin_l_eqItem : VV → Ms → Option Bool := finV [.bool] []
theorem r_l_eqItem (k : Nat) (a0 : TItem) (a1 : TItem) : runF (c_l_eqItem k) 1 69 [argV yItem a0, argV yItem a1] (fun v m => fin_l_eqItem v m) ms0 = l_eqItem k a0 a1 := by kernel_rfl
noncomputable def sp_l_eqItem (k : Nat) : Spec := .imm yItem fun (a0 : TItem) => .imm yItem fun (a1 : TItem) => .body (l_eqItem k a0 a1) (outV [.bool] [])
noncomputable def c_l_eqItemS (k : Nat) : Cfg := { eqs := [], tab := [(25, (.slice 95 yItem)), (95, yItem)], spec := [(69, sp_l_eqItem k)], mspec := [], inl := [(19, Try.f19)], keep := [(1004, [0, 1, 5])], join := [], hold := [], ptrs := [], fuel := k }
noncomputable def fin_l_eqItemS : VV → Ms → Option Bool := finV [.bool] []
noncomputable def V0_l_eqItemS (k n0 : Nat) (a0 : List TItem) (a1 : List TItem) (v1 : Int) : Option Bool := LP (c_l_eqItemS k) 0 (cd [1, 1, 0, 1, 0, 0] (bo Try.f19)) 1004 (plug (c_l_eqItemS k) fin_l_eqItemS 0 [.b 0, .s (cd [1, 1, 1] (bo Try.f19)), .fn Try.f19]) n0 ⟨⟨(mkT 27 0 [(0, one (.slc 95 yItem a0)), (1, one (.slc 95 yItem a1)), (5, one (.int .i64 v1))]), []⟩, 1000, 1, [(0, (mkT 0 0 []))]⟩
theorem t0_l_eqItemS (k n0 : Nat) (a0 : List TItem) (a1 : List TItem) (v1 : Int) : V0_l_eqItemS k (n0 + 1) a0 a1 v1 = b0_l_eqItemS k (V0_l_eqItemS k n0) a0 a1 v1 := by kernel_rfl
theorem e0_l_eqItemS (k : Nat) : ∀ n0 : Nat, V0_l_eqItemS k n0 = l0_l_eqItemS k n0
  | 0 => by funext a0 a1 v1; kernel_rfl
  | n0 + 1 => by funext a0 a1 v1; rw [t0_l_eqItemS, e0_l_eqItemS k n0] <;> rfl
theorem u_l_eqItemS (k : Nat) (a0 : List TItem) (a1 : List TItem) : runF (c_l_eqItemS k) 1 19 [argV (.slice 95 yItem) a0, argV (.slice 95 yItem) a1] (fun v m => fin_l_eqItemS v m) ms0 = g_l_eqItemS k (V0_l_eqItemS k k) a0 a1 := by kernel_rfl
theorem r_l_eqItemS (k : Nat) (a0 : List TItem) (a1 : List TItem) : runF (c_l_eqItemS k) 1 19 [argV (.slice 95 yItem) a0, argV (.slice 95 yItem) a1] (fun v m => fin_l_eqItemS v m) ms0 = l_eqItemS k a0 a1 := by rw [u_l_eqItemS, e0_l_eqItemS k k] <;> rfl
noncomputable def sp_l_eqItemS (k : Nat) : Spec := .imm (.slice 95 yItem) fun (a0 : List TItem) => .imm (.slice 95 yItem) fun (a1 : List TItem) => .body (l_eqItemS k a0 a1) (outV [.bool] [])
noncomputable def c_l_FnExactAt (k : Nat) : Cfg := { eqs := [], tab := [], spec := [(15, sp_l_szItemS k), (16, sp_s_At k), (17, sp_l_toItemS k), (18, sp_i_At k), (19, sp_l_eqItemS k)], mspec := [], inl := [(3, Try.f3)], keep := [], join := [], hold := [], ptrs := [], fuel := k }
noncomputable def fin_l_FnExactAt : VV → Ms → Option Bool := finV [.bool] []
theorem r_l_FnExactAt (k : Nat) (a0 : List TItem) (a1 : Int) : runF (c_l_FnExactAt k) 1 3 [argV (.slice 97 yItem) a0, argV (.int .i64) a1] (fun v m => fin_l_FnExactAt v m) ms0 = l_FnExactAt k a0 a1 := by kernel_rfl
noncomputable def sp_l_FnExactAt (k : Nat) : Spec := .imm (.slice 97 yItem) fun (a0 : List TItem) => .imm (.int .i64) fun (a1 : Int) => .body (l_FnExactAt k a0 a1) (outV [.bool] [])
noncomputable def c_s_l01In (k : Nat) : Cfg := { eqs := [], tab := [], spec := [], mspec := [], inl := [(71, Try.f71)], keep := [], join := [], hold := [], ptrs := [], fuel := k }
noncomputable def fin_s_l01In : VV → Ms → Option Bool := finV [.bool] []
theorem r_s_l01In (k : Nat) (a0 : Int) (a1 : Int) (a2 : Int) : runF (c_s_l01In k) 1 71 [argV (.int .i64) a0, argV (.int .i64) a1, argV (.int .i64) a2] (fun v m => fin_s_l01In v m) ms0 = s_l01In k a0 a1 a2 := by kernel_rfl
noncomputable def sp_s_l01In (k : Nat) : Spec := .imm (.int .i64) fun (a0 : Int) => .imm (.int .i64) fun (a1 : Int) => .imm (.int .i64) fun (a2 : Int) => .body (s_l01In k a0 a1 a2) (outV [.bool] [])
noncomputable def c_s_l10Key (k : Nat) : Cfg := { eqs := [], tab := [], spec := [(71, sp_s_l01In k)], mspec := [], inl := [(70, Try.f70)], keep := [], join := [], hold := [], ptrs := [], fuel := k }
noncomputable def fin_s_l10Key : VV → Ms → Option Bool := finV [.bool] []
theorem r_s_l10Key (k : Nat) (a0 : Int) : runF (c_s_l10Key k) 1 70 [argV (.int .i64) a0] (fun v m => fin_s_l10Key v m) ms0 = s_l10Key k a0 := by kernel_rfl
noncomputable def sp_s_l10Key (k : Nat) : Spec := .imm (.int .i64) fun (a0 : Int) => .body (s_l10Key k a0) (outV [.bool] [])
noncomputable def c_s_StateOk (k : Nat) : Cfg := { eqs := [], tab := [(3, (.int .i64)), (25, (.slice 95 yItem)), (95, yItem)], spec := [(70, sp_s_l10Key k), (71, sp_s_l01In k)], mspec := [], inl := [(20, Try.f20)], keep := [(1004, [0, 3])], join := [], hold := [], ptrs := [], fuel := k }
noncomputable def fin_s_StateOk : VV → Ms → Option Bool := finV [.bool] []
noncomputable def V0_s_StateOk (k n0 : Nat) (a0 : List TItem) (v1 : Int) : Option Bool := LP (c_s_StateOk k) 0 (cd [1, 1, 0, 1, 0, 0] (bo Try.f20)) 1004 (plug (c_s_StateOk k) fin_s_StateOk 0 [.b 0, .s (cd [1, 1, 1] (bo Try.f20)), .fn Try.f20]) n0 ⟨⟨(mkT 47 0 [(0, one (.slc 95 yItem a0)), (3, one (.int .i64 v1))]), []⟩, 1000, 1, [(0, (mkT 0 0 []))]⟩
theorem t0_s_StateOk (k n0 : Nat) (a0 : List TItem) (v1 : Int) : V0_s_StateOk k (n0 + 1) a0 v1 = b0_s_StateOk k (V0_s_StateOk k n0) a0 v1 := by kernel_rfl
theorem e0_s_StateOk (k : Nat) : ∀ n0 : Nat, V0_s_StateOk k n0 = l0_s_StateOk k n0
  | 0 => by funext a0 v1; kernel_rfl
  | n0 + 1 => by funext a0 v1; rw [t0_s_StateOk, e0_s_StateOk k n0] <;> rfl
theorem u_s_StateOk (k : Nat) (a0 : List TItem) : runF (c_s_StateOk k) 1 20 [argV (.slice 95 yItem) a0] (fun v m => fin_s_StateOk v m) ms0 = g_s_StateOk k (V0_s_StateOk k k) a0 := by kernel_rfl
theorem r_s_StateOk (k : Nat) (a0 : List TItem) : runF (c_s_StateOk k) 1 20 [argV (.slice 95 yItem) a0] (fun v m => fin_s_StateOk v m) ms0 = s_StateOk k a0 := by rw [u_s_StateOk, e0_s_StateOk k k] <;> rfl
noncomputable def sp_s_StateOk (k : Nat) : Spec := .imm (.slice 95 yItem) fun (a0 : List TItem) => .body (s_StateOk k a0) (outV [.bool] [])
noncomputable def c_i_within (k : Nat) : Cfg := { eqs := [], tab := [], spec := [], mspec := [], inl := [(72, Try.f72)], keep := [], join := [], hold := [], ptrs := [], fuel := k }
noncomputable def fin_i_within : VV → Ms → Option Bool := finV [.bool] []
theorem r_i_within (k : Nat) (a0 : Int) (a1 : Int) (a2 : Int) : runF (c_i_within k) 1 72 [argV (.int .i64) a0, argV (.int .i64) a1, argV (.int .i64) a2] (fun v m => fin_i_within v m) ms0 = i_within k a0 a1 a2 := by kernel_rfl
noncomputable def sp_i_within (k : Nat) : Spec := .imm (.int .i64) fun (a0 : Int) => .imm (.int .i64) fun (a1 : Int) => .imm (.int .i64) fun (a2 : Int) => .body (i_within k a0 a1 a2) (outV [.bool] [])
noncomputable def c_i_StateOk (k : Nat) : Cfg := { eqs := [], tab := [(3, (.int .i64)), (25, (.slice 95 yItem)), (95, yItem)], spec := [(72, sp_i_within k)], mspec := [], inl := [(21, Try.f21)], keep := [(1002, [0, 5, 6, 7])], join := [], hold := [], ptrs := [], fuel := k }
noncomputable def fin_i_StateOk : VV → Ms → Option Bool := finV [.bool] []
noncomputable def V0_i_StateOk (k n0 : Nat) (a0 : List TItem) (v1 : Int) : Option Bool := LP (c_i_StateOk k) 0 (cd [1, 0, 1, 0, 0] (bo Try.f21)) 1002 (plug (c_i_StateOk k) fin_i_StateOk 0 [.b 0, .s (cd [1, 1] (bo Try.f21)), .fn Try.f21]) n0 ⟨⟨(mkT 47 0 [(0, one (.slc 95 yItem a0)), (5, one (.slc 95 yItem a0)), (6, one (.int .i64 (a0.length : Int))), (7, one (.int .i64 v1))]), []⟩, 1000, 1, [(0, (mkT 0 0 []))]⟩
theorem t0_i_StateOk (k n0 : Nat) (a0 : List TItem) (v1 : Int) : V0_i_StateOk k (n0 + 1) a0 v1 = b0_i_StateOk k (V0_i_StateOk k n0) a0 v1 := by kernel_rfl
theorem e0_i_StateOk (k : Nat) : ∀ n0 : Nat, V0_i_StateOk k n0 = l0_i_StateOk k n0
  | 0 => by funext a0 v1; kernel_rfl
  | n0 + 1 => by funext a0 v1; rw [t0_i_StateOk, e0_i_StateOk k n0] <;> rfl
theorem u_i_StateOk (k : Nat) (a0 : List TItem) : runF (c_i_StateOk k) 1 21 [argV (.slice 95 yItem) a0] (fun v m => fin_i_StateOk v m) ms0 = g_i_StateOk k (V0_i_StateOk k k) a0 := by kernel_rfl
theorem r_i_StateOk (k : Nat) (a0 : List TItem) : runF (c_i_StateOk k) 1 21 [argV (.slice 95 yItem) a0] (fun v m => fin_i_StateOk v m) ms0 = i_StateOk k a0 := by rw [u_i_StateOk, e0_i_StateOk k k] <;> rfl
noncomputable def sp_i_StateOk (k : Nat) : Spec := .imm (.slice 95 yItem) fun (a0 : List TItem) => .body (i_StateOk k a0) (outV [.bool] [])
noncomputable def c_l_FnExactStateOk (k : Nat) : Cfg := { eqs := [], tab := [(4, .bool)], spec := [(15, sp_l_szItemS k), (17, sp_l_toItemS k), (19, sp_l_eqItemS k), (20, sp_s_StateOk k), (21, sp_i_StateOk k)], mspec := [], inl := [(4, Try.f4)], keep := [], join := [], hold := [], ptrs := [], fuel := k }
noncomputable def fin_l_FnExactStateOk : VV → Ms → Option Bool := finV [.bool] []
theorem r_l_FnExactStateOk (k : Nat) (a0 : List TItem) : runF (c_l_FnExactStateOk k) 1 4 [argV (.slice 97 yItem) a0] (fun v m => fin_l_FnExactStateOk v m) ms0 = l_FnExactStateOk k a0 := by kernel_rfl
noncomputable def sp_l_FnExactStateOk (k : Nat) : Spec := .imm (.slice 97 yItem) fun (a0 : List TItem) => .body (l_FnExactStateOk k a0) (outV [.bool] [])
noncomputable def c_l_szIntS (k : Nat) : Cfg := { eqs := [], tab := [(31, (.slice 3 (.int .i64)))], spec := [], mspec := [], inl := [(73, Try.f73)], keep := [], join := [], hold := [], ptrs := [], fuel := k }
noncomputable def fin_l_szIntS : VV → Ms → Option Int := finV [(.int .i64)] []
theorem r_l_szIntS (k : Nat) (a0 : List Int) (a1 : Int) : runF (c_l_szIntS k) 1 73 [argV (.slice 3 (.int .i64)) a0, argV (.int .i64) a1] (fun v m => fin_l_szIntS v m) ms0 = l_szIntS k a0 a1 := by kernel_rfl
noncomputable def sp_l_szIntS (k : Nat) : Spec := .imm (.slice 3 (.int .i64)) fun (a0 : List Int) => .imm (.int .i64) fun (a1 : Int) => .body (l_szIntS k a0 a1) (outV [(.int .i64)] [])
noncomputable def c_l_szEvent (k : Nat) : Cfg := { eqs := [], tab := [(9, .str), (31, (.slice 3 (.int .i64))), (33, yEvent)], spec := [(73, sp_l_szIntS k)], mspec := [], inl := [(22, Try.f22)], keep := [], join := [], hold := [], ptrs := [], fuel := k }
noncomputable def fin_l_szEvent : VV → Ms → Option Int := finV [(.int .i64)] []
theorem r_l_szEvent (k : Nat) (a0 : TEvent) (a1 : Int) : runF (c_l_szEvent k) 1 22 [argV yEvent a0, argV (.int .i64) a1] (fun v m => fin_l_szEvent v m) ms0 = l_szEvent k a0 a1 := by kernel_rfl
noncomputable def sp_l_szEvent (k : Nat) : Spec := .imm yEvent fun (a0 : TEvent) => .imm (.int .i64) fun (a1 : Int) => .body (l_szEvent k a0 a1) (outV [(.int .i64)] [])
noncomputable def c_s_l09Levels (k : Nat) : Cfg := { eqs := [], tab := [(3, (.int .i64)), (31, (.slice 3 (.int .i64)))], spec := [(71, sp_s_l01In k)], mspec := [], inl := [(119, Try.f119)], keep := [(1002, [0, 3])], join := [], hold := [], ptrs := [], fuel := k }
noncomputable def fin_s_l09Levels : VV → Ms → Option Bool := finV [.bool] []
noncomputable def V0_s_l09Levels (k n0 : Nat) (a0 : List Int) (v1 : Int) : Option Bool := LP (c_s_l09Levels k) 0 (cd [1, 0, 1, 0, 0] (bo Try.f119)) 1002 (plug (c_s_l09Levels k) fin_s_l09Levels 0 [.b 0, .s (cd [1, 1] (bo Try.f119)), .fn Try.f119]) n0 ⟨⟨(mkT 19 0 [(0, one (.slc 3 (.int .i64) a0)), (3, one (.int .i64 v1))]), []⟩, 1000, 1, [(0, (mkT 0 0 []))]⟩
theorem t0_s_l09Levels (k n0 : Nat) (a0 : List Int) (v1 : Int) : V0_s_l09Levels k (n0 + 1) a0 v1 = b0_s_l09Levels k (V0_s_l09Levels k n0) a0 v1 := by kernel_rfl
theorem e0_s_l09Levels (k : Nat) : ∀ n0 : Nat, V0_s_l09Levels k n0 = l0_s_l09Levels k n0
  | 0 => by funext a0 v1; kernel_rfl
  | n0 + 1 => by funext a0 v1; rw [t0_s_l09Levels, e0_s_l09Levels k n0] <;> rfl
theorem u_s_l09Levels (k : Nat) (a0 : List Int) : runF (c_s_l09Levels k) 1 119 [argV (.slice 3 (.int .i64)) a0] (fun v m => fin_s_l09Levels v m) ms0 = g_s_l09Levels k (V0_s_l09Levels k k) a0 := by kernel_rfl
theorem r_s_l09Levels (k : Nat) (a0 : List Int) : runF (c_s_l09Levels k) 1 119 [argV (.slice 3 (.int .i64)) a0] (fun v m => fin_s_l09Levels v m) ms0 = s_l09Levels k a0 := by rw [u_s_l09Levels, e0_s_l09Levels k k] <;> rfl
noncomputable def sp_s_l09Levels (k : Nat) : Spec := .imm (.slice 3 (.int .i64)) fun (a0 : List Int) => .body (s_l09Levels k a0) (outV [.bool] [])
noncomputable def c_s_l09Body (k : Nat) : Cfg := { eqs := [], tab := [(3, (.int .i64)), (9, .str), (31, (.slice 3 (.int .i64))), (36, yEvent)], spec := [(71, sp_s_l01In k), (119, sp_s_l09Levels k)], mspec := [], inl := [(74, Try.f74)], keep := [], join := [], hold := [], ptrs := [], fuel := k }
noncomputable def fin_s_l09Body : VV → Ms → Option Bool := finV [.bool] []
theorem r_s_l09Body (k : Nat) (a0 : TEvent) : runF (c_s_l09Body k) 1 74 [argV yEvent a0] (fun v m => fin_s_l09Body v m) ms0 = s_l09Body k a0 := by kernel_rfl
noncomputable def sp_s_l09Body (k : Nat) : Spec := .imm yEvent fun (a0 : TEvent) => .body (s_l09Body k a0) (outV [.bool] [])
noncomputable def c_s_EventOk (k : Nat) : Cfg := { eqs := [], tab := [(3, (.int .i64)), (4, .bool), (31, (.slice 3 (.int .i64))), (36, yEvent)], spec := [(71, sp_s_l01In k), (74, sp_s_l09Body k)], mspec := [], inl := [(23, Try.f23)], keep := [(1004, [1, 3])], join := [], hold := [], ptrs := [], fuel := k }
noncomputable def fin_s_EventOk : VV → Ms → Option Bool := finV [.bool] []
noncomputable def V0_s_EventOk (k n0 : Nat) (v1 : Int) (a0 : TEvent) : Option Bool := LP (c_s_EventOk k) 0 (cd [1, 1, 0, 1, 0, 0] (bo Try.f23)) 1004 (plug (c_s_EventOk k) fin_s_EventOk 0 [.b 0, .s (cd [1, 1, 1] (bo Try.f23)), .fn Try.f23]) n0 ⟨⟨(mkT 77 0 [(1, one (.ptr 9000000 0)), (3, one (.int .i64 v1))]), [(9000000, .box [.int .i64 a0.1, .int .i64 a0.2.1, .int .i64 a0.2.2.1, .int .i64 a0.2.2.2.1, .int .i64 a0.2.2.2.2.1, .slc 3 (.int .i64) a0.2.2.2.2.2.1, .str a0.2.2.2.2.2.2.1, .slc 3 (.int .i64) a0.2.2.2.2.2.2.2.1, .int .i64 a0.2.2.2.2.2.2.2.2.1])]⟩, 1000, 1, [(0, (mkT 0 0 []))]⟩
theorem t0_s_EventOk (k n0 : Nat) (v1 : Int) (a0 : TEvent) : V0_s_EventOk k (n0 + 1) v1 a0 = b0_s_EventOk k (V0_s_EventOk k n0) v1 a0 := by kernel_rfl
theorem e0_s_EventOk (k : Nat) : ∀ n0 : Nat, V0_s_EventOk k n0 = l0_s_EventOk k n0
  | 0 => by funext v1 a0; kernel_rfl
  | n0 + 1 => by funext v1 a0; rw [t0_s_EventOk, e0_s_EventOk k n0] <;> rfl
theorem u_s_EventOk (k : Nat) (a0 : TEvent) : runF (c_s_EventOk k) 1 23 [argV yEvent a0] (fun v m => fin_s_EventOk v m) ms0 = g_s_EventOk k (V0_s_EventOk k k) a0 := by kernel_rfl
theorem r_s_EventOk (k : Nat) (a0 : TEvent) : runF (c_s_EventOk k) 1 23 [argV yEvent a0] (fun v m => fin_s_EventOk v m) ms0 = s_EventOk k a0 := by rw [u_s_EventOk, e0_s_EventOk k k] <;> rfl
noncomputable def sp_s_EventOk (k : Nat) : Spec := .imm yEvent fun (a0 : TEvent) => .body (s_EventOk k a0) (outV [.bool] [])
noncomputable def c_l_toIntS (k : Nat) : Cfg := { eqs := [], tab := [(3, (.int .i64)), (31, (.slice 3 (.int .i64)))], spec := [], mspec := [], inl := [(49, Try.f49)], keep := [(1003, [0, 3, 4])], join := [], hold := [], ptrs := [], fuel := k }
noncomputable def fin_l_toIntS : VV → Ms → Option (List Int) := finV [(.slice 3 (.int .i64))] [true]
noncomputable def V0_l_toIntS (k n0 : Nat) (a0 : List Int) (v1 : Int) (xs2 : List Int) : Option (List Int) := LP (c_l_toIntS k) 0 (cd [1, 1, 0, 1, 0, 0] (bo Try.f49)) 1003 (plug (c_l_toIntS k) fin_l_toIntS 0 [.b 0, .s (cd [1, 1, 1] (bo Try.f49)), .fn Try.f49]) n0 ⟨⟨(mkT 22 0 [(0, one (.slc 3 (.int .i64) a0)), (3, one (.row 9000000 none none)), (4, one (.int .i64 v1))]), [(9000000, .row 3 (.int .i64) xs2 true)]⟩, 1000, 1, [(0, (mkT 0 0 []))]⟩
theorem t0_l_toIntS (k n0 : Nat) (a0 : List Int) (v1 : Int) (xs2 : List Int) : V0_l_toIntS k (n0 + 1) a0 v1 xs2 = b0_l_toIntS k (V0_l_toIntS k n0) a0 v1 xs2 := by kernel_rfl
theorem e0_l_toIntS (k : Nat) : ∀ n0 : Nat, V0_l_toIntS k n0 = l0_l_toIntS k n0
  | 0 => by funext a0 v1 xs2; kernel_rfl
  | n0 + 1 => by funext a0 v1 xs2; rw [t0_l_toIntS, e0_l_toIntS k n0] <;> rfl
theorem u_l_toIntS (k : Nat) (a0 : List Int) : runF (c_l_toIntS k) 1 49 [argV (.slice 3 (.int .i64)) a0] (fun v m => fin_l_toIntS v m) ms0 = g_l_toIntS k (V0_l_toIntS k k) a0 := by kernel_rfl
theorem r_l_toIntS (k : Nat) (a0 : List Int) : runF (c_l_toIntS k) 1 49 [argV (.slice 3 (.int .i64)) a0] (fun v m => fin_l_toIntS v m) ms0 = l_toIntS k a0 := by rw [u_l_toIntS, e0_l_toIntS k k] <;> rfl
noncomputable def sp_l_toIntS (k : Nat) : Spec := .imm (.slice 3 (.int .i64)) fun (a0 : List Int) => .body (l_toIntS k a0) (outV [(.slice 3 (.int .i64))] [true])
noncomputable def c_l_toEvent (k : Nat) : Cfg := { eqs := [], tab := [(3, (.int .i64)), (9, .str), (31, (.slice 3 (.int .i64))), (33, yEvent), (36, yEvent)], spec := [(49, sp_l_toIntS k)], mspec := [], inl := [(24, Try.f24)], keep := [], join := [], hold := [], ptrs := [], fuel := k }
noncomputable def fin_l_toEvent : VV → Ms → Option TEvent := finV [yEvent] [true, true]
theorem r_l_toEvent (k : Nat) (a0 : TEvent) : runF (c_l_toEvent k) 1 24 [argV yEvent a0] (fun v m => fin_l_toEvent v m) ms0 = l_toEvent k a0 := by kernel_rfl
noncomputable def sp_l_toEvent (k : Nat) : Spec := .imm yEvent fun (a0 : TEvent) => .body (l_toEvent k a0) (outV [yEvent] [true, true])
noncomputable def c_i_levelsOk (k : Nat) : Cfg := { eqs := [], tab := [(3, (.int .i64)), (31, (.slice 3 (.int .i64))), (36, yEvent)], spec := [(72, sp_i_within k)], mspec := [], inl := [(75, Try.f75)], keep := [(1004, [1, 13, 14, 15])], join := [], hold := [], ptrs := [], fuel := k }
noncomputable def fin_i_levelsOk : VV → Ms → Option Bool := finV [.bool] []
noncomputable def V0_i_levelsOk (k n0 : Nat) (a0 : TEvent) (v1 : Int) : Option Bool := LP (c_i_levelsOk k) 0 (cd [1, 1, 0, 1, 0, 0] (bo Try.f75)) 1004 (plug (c_i_levelsOk k) fin_i_levelsOk 0 [.b 0, .s (cd [1, 1, 1] (bo Try.f75)), .fn Try.f75]) n0 ⟨⟨(mkT 27 0 [(1, one (.ptr 9000000 0)), (13, one (.slc 3 (.int .i64) a0.2.2.2.2.2.1)), (14, one (.int .i64 (a0.2.2.2.2.2.1.length : Int))), (15, one (.int .i64 v1))]), [(9000000, .box [.int .i64 a0.1, .int .i64 a0.2.1, .int .i64 a0.2.2.1, .int .i64 a0.2.2.2.1, .int .i64 a0.2.2.2.2.1, .slc 3 (.int .i64) a0.2.2.2.2.2.1, .str a0.2.2.2.2.2.2.1, .slc 3 (.int .i64) a0.2.2.2.2.2.2.2.1, .int .i64 a0.2.2.2.2.2.2.2.2.1])]⟩, 1000, 1, [(0, (mkT 0 0 []))]⟩
theorem t0_i_levelsOk (k n0 : Nat) (a0 : TEvent) (v1 : Int) : V0_i_levelsOk k (n0 + 1) a0 v1 = b0_i_levelsOk k (V0_i_levelsOk k n0) a0 v1 := by kernel_rfl
theorem e0_i_levelsOk (k : Nat) : ∀ n0 : Nat, V0_i_levelsOk k n0 = l0_i_levelsOk k n0
  | 0 => by funext a0 v1; kernel_rfl
  | n0 + 1 => by funext a0 v1; rw [t0_i_levelsOk, e0_i_levelsOk k n0] <;> rfl
theorem u_i_levelsOk (k : Nat) (a0 : TEvent) : runF (c_i_levelsOk k) 1 75 [argV yEvent a0] (fun v m => fin_i_levelsOk v m) ms0 = g_i_levelsOk k (V0_i_levelsOk k k) a0 := by kernel_rfl
theorem r_i_levelsOk (k : Nat) (a0 : TEvent) : runF (c_i_levelsOk k) 1 75 [argV yEvent a0] (fun v m => fin_i_levelsOk v m) ms0 = i_levelsOk k a0 := by rw [u_i_levelsOk, e0_i_levelsOk k k] <;> rfl
noncomputable def sp_i_levelsOk (k : Nat) : Spec := .imm yEvent fun (a0 : TEvent) => .body (i_levelsOk k a0) (outV [.bool] [])
noncomputable def c_i_prevOk (k : Nat) : Cfg := { eqs := [], tab := [(3, (.int .i64)), (4, .bool), (31, (.slice 3 (.int .i64))), (36, yEvent)], spec := [(72, sp_i_within k)], mspec := [], inl := [(76, Try.f76)], keep := [(1002, [1, 6, 7, 8])], join := [], hold := [], ptrs := [], fuel := k }
noncomputable def fin_i_prevOk : VV → Ms → Option Bool := finV [.bool] []
noncomputable def V0_i_prevOk (k n0 : Nat) (a0 : TEvent) (v1 : Int) : Option Bool := LP (c_i_prevOk k) 0 (cd [1, 0, 1, 0, 0] (bo Try.f76)) 1002 (plug (c_i_prevOk k) fin_i_prevOk 0 [.b 0, .s (cd [1, 1] (bo Try.f76)), .fn Try.f76]) n0 ⟨⟨(mkT 51 0 [(1, one (.ptr 9000000 0)), (6, one (.slc 3 (.int .i64) a0.2.2.2.2.2.2.2.1)), (7, one (.int .i64 (a0.2.2.2.2.2.2.2.1.length : Int))), (8, one (.int .i64 v1))]), [(9000000, .box [.int .i64 a0.1, .int .i64 a0.2.1, .int .i64 a0.2.2.1, .int .i64 a0.2.2.2.1, .int .i64 a0.2.2.2.2.1, .slc 3 (.int .i64) a0.2.2.2.2.2.1, .str a0.2.2.2.2.2.2.1, .slc 3 (.int .i64) a0.2.2.2.2.2.2.2.1, .int .i64 a0.2.2.2.2.2.2.2.2.1])]⟩, 1000, 1, [(0, (mkT 0 0 []))]⟩
theorem t0_i_prevOk (k n0 : Nat) (a0 : TEvent) (v1 : Int) : V0_i_prevOk k (n0 + 1) a0 v1 = b0_i_prevOk k (V0_i_prevOk k n0) a0 v1 := by kernel_rfl
theorem e0_i_prevOk (k : Nat) : ∀ n0 : Nat, V0_i_prevOk k n0 = l0_i_prevOk k n0
  | 0 => by funext a0 v1; kernel_rfl
  | n0 + 1 => by funext a0 v1; rw [t0_i_prevOk, e0_i_prevOk k n0] <;> rfl
theorem u_i_prevOk (k : Nat) (a0 : TEvent) : runF (c_i_prevOk k) 1 76 [argV yEvent a0] (fun v m => fin_i_prevOk v m) ms0 = g_i_prevOk k (V0_i_prevOk k k) a0 := by kernel_rfl
theorem r_i_prevOk (k : Nat) (a0 : TEvent) : runF (c_i_prevOk k) 1 76 [argV yEvent a0] (fun v m => fin_i_prevOk v m) ms0 = i_prevOk k a0 := by rw [u_i_prevOk, e0_i_prevOk k k] <;> rfl
noncomputable def sp_i_prevOk (k : Nat) : Spec := .imm yEvent fun (a0 : TEvent) => .body (i_prevOk k a0) (outV [.bool] [])
noncomputable def c_i_EventOk (k : Nat) : Cfg := { eqs := [], tab := [(3, (.int .i64)), (9, .str), (36, yEvent)], spec := [(72, sp_i_within k), (75, sp_i_levelsOk k), (76, sp_i_prevOk k)], mspec := [], inl := [(25, Try.f25)], keep := [], join := [], hold := [], ptrs := [], fuel := k }
noncomputable def fin_i_EventOk : VV → Ms → Option Bool := finV [.bool] []
theorem r_i_EventOk (k : Nat) (a0 : TEvent) : runF (c_i_EventOk k) 1 25 [argV yEvent a0] (fun v m => fin_i_EventOk v m) ms0 = i_EventOk k a0 := by kernel_rfl
noncomputable def sp_i_EventOk (k : Nat) : Spec := .imm yEvent fun (a0 : TEvent) => .body (i_EventOk k a0) (outV [.bool] [])
noncomputable def c_l_eqIntS (k : Nat) : Cfg := { eqs := [], tab := [(3, (.int .i64)), (31, (.slice 3 (.int .i64)))], spec := [], mspec := [], inl := [(52, Try.f52)], keep := [(1004, [0, 1, 5])], join := [], hold := [], ptrs := [], fuel := k }
noncomputable def fin_l_eqIntS : VV → Ms → Option Bool := finV [.bool] []
noncomputable def V0_l_eqIntS (k n0 : Nat) (a0 : List Int) (a1 : List Int) (v1 : Int) : Option Bool := LP (c_l_eqIntS k) 0 (cd [1, 1, 0, 1, 0, 0] (bo Try.f52)) 1004 (plug (c_l_eqIntS k) fin_l_eqIntS 0 [.b 0, .s (cd [1, 1, 1] (bo Try.f52)), .fn Try.f52]) n0 ⟨⟨(mkT 26 0 [(0, one (.slc 3 (.int .i64) a0)), (1, one (.slc 3 (.int .i64) a1)), (5, one (.int .i64 v1))]), []⟩, 1000, 1, [(0, (mkT 0 0 []))]⟩
theorem t0_l_eqIntS (k n0 : Nat) (a0 : List Int) (a1 : List Int) (v1 : Int) : V0_l_eqIntS k (n0 + 1) a0 a1 v1 = b0_l_eqIntS k (V0_l_eqIntS k n0) a0 a1 v1 := by kernel_rfl
theorem e0_l_eqIntS (k : Nat) : ∀ n0 : Nat, V0_l_eqIntS k n0 = l0_l_eqIntS k n0
  | 0 => by funext a0 a1 v1; kernel_rfl
  | n0 + 1 => by funext a0 a1 v1; rw [t0_l_eqIntS, e0_l_eqIntS k n0] <;> rfl
theorem u_l_eqIntS (k : Nat) (a0 : List Int) (a1 : List Int) : runF (c_l_eqIntS k) 1 52 [argV (.slice 3 (.int .i64)) a0, argV (.slice 3 (.int .i64)) a1] (fun v m => fin_l_eqIntS v m) ms0 = g_l_eqIntS k (V0_l_eqIntS k k) a0 a1 := by kernel_rfl
theorem r_l_eqIntS (k : Nat) (a0 : List Int) (a1 : List Int) : runF (c_l_eqIntS k) 1 52 [argV (.slice 3 (.int .i64)) a0, argV (.slice 3 (.int .i64)) a1] (fun v m => fin_l_eqIntS v m) ms0 = l_eqIntS k a0 a1 := by rw [u_l_eqIntS, e0_l_eqIntS k k] <;> rfl
noncomputable def sp_l_eqIntS (k : Nat) : Spec := .imm (.slice 3 (.int .i64)) fun (a0 : List Int) => .imm (.slice 3 (.int .i64)) fun (a1 : List Int) => .body (l_eqIntS k a0 a1) (outV [.bool] [])
noncomputable def c_l_eqEvent (k : Nat) : Cfg := { eqs := [], tab := [(3, (.int .i64)), (9, .str), (31, (.slice 3 (.int .i64))), (36, yEvent)], spec := [(52, sp_l_eqIntS k)], mspec := [], inl := [(26, Try.f26)], keep := [], join := [], hold := [], ptrs := [], fuel := k }
noncomputable def fin_l_eqEvent : VV → Ms → Option Bool := finV [.bool] []
theorem r_l_eqEvent (k : Nat) (a0 : TEvent) (a1 : TEvent) : runF (c_l_eqEvent k) 1 26 [argV yEvent a0, argV yEvent a1] (fun v m => fin_l_eqEvent v m) ms0 = l_eqEvent k a0 a1 := by kernel_rfl
noncomputable def sp_l_eqEvent (k : Nat) : Spec := .imm yEvent fun (a0 : TEvent) => .imm yEvent fun (a1 : TEvent) => .body (l_eqEvent k a0 a1) (outV [.bool] [])
noncomputable def c_l_FnExactEventOk (k : Nat) : Cfg := { eqs := [], tab := [(4, .bool), (33, yEvent), (36, yEvent)], spec := [(22, sp_l_szEvent k), (23, sp_s_EventOk k), (24, sp_l_toEvent k), (25, sp_i_EventOk k), (26, sp_l_eqEvent k)], mspec := [], inl := [(5, Try.f5)], keep := [], join := [], hold := [], ptrs := [], fuel := k }
noncomputable def fin_l_FnExactEventOk : VV → Ms → Option Bool := finV [.bool] []
theorem r_l_FnExactEventOk (k : Nat) (a0 : TEvent) : runF (c_l_FnExactEventOk k) 1 5 [argV yEvent a0] (fun v m => fin_l_FnExactEventOk v m) ms0 = l_FnExactEventOk k a0 := by kernel_rfl
noncomputable def sp_l_FnExactEventOk (k : Nat) : Spec := .imm yEvent fun (a0 : TEvent) => .body (l_FnExactEventOk k a0) (outV [.bool] [])
noncomputable def c_s_l01Var (k : Nat) : Cfg := { eqs := [], tab := [(3, (.int .i64)), (5, (.int .u8)), (9, .str), (129, (.slice 5 (.int .u8)))], spec := [], mspec := [], inl := [(84, Try.f84)], keep := [(1002, [0, 3])], join := [], hold := [], ptrs := [], fuel := k }
noncomputable def fin_s_l01Var : VV → Ms → Option ByteArray := finV [.str] []
noncomputable def V0_s_l01Var (k n0 : Nat) (a0 : Int) (xs1 : List Int) : Option ByteArray := LP (c_s_l01Var k) 0 (cd [1, 1, 0, 0, 0] (bo Try.f84)) 1002 (plug (c_s_l01Var k) fin_s_l01Var 0 [.b 0, .s (cd [1, 1, 1] (bo Try.f84)), .fn Try.f84]) n0 ⟨⟨(mkT 22 0 [(0, one (.int .i64 a0)), (3, one (.row 9000000 none none))]), [(9000000, .row 5 (.int .u8) xs1 true)]⟩, 1000, 1, [(0, (mkT 0 0 []))]⟩
theorem t0_s_l01Var (k n0 : Nat) (a0 : Int) (xs1 : List Int) : V0_s_l01Var k (n0 + 1) a0 xs1 = b0_s_l01Var k (V0_s_l01Var k n0) a0 xs1 := by kernel_rfl
theorem e0_s_l01Var (k : Nat) : ∀ n0 : Nat, V0_s_l01Var k n0 = l0_s_l01Var k n0
  | 0 => by funext a0 xs1; kernel_rfl
  | n0 + 1 => by funext a0 xs1; rw [t0_s_l01Var, e0_s_l01Var k n0] <;> rfl
theorem u_s_l01Var (k : Nat) (a0 : Int) : runF (c_s_l01Var k) 1 84 [argV (.int .i64) a0] (fun v m => fin_s_l01Var v m) ms0 = g_s_l01Var k (V0_s_l01Var k k) a0 := by kernel_rfl
theorem r_s_l01Var (k : Nat) (a0 : Int) : runF (c_s_l01Var k) 1 84 [argV (.int .i64) a0] (fun v m => fin_s_l01Var v m) ms0 = s_l01Var k a0 := by rw [u_s_l01Var, e0_s_l01Var k k] <;> rfl
noncomputable def sp_s_l01Var (k : Nat) : Spec := .imm (.int .i64) fun (a0 : Int) => .body (s_l01Var k a0) (outV [.str] [])
noncomputable def c_s_l09Byte (k : Nat) : Cfg := { eqs := [], tab := [(3, (.int .i64)), (5, (.int .u8)), (9, .str), (129, (.slice 5 (.int .u8)))], spec := [], mspec := [], inl := [(109, Try.f109)], keep := [], join := [], hold := [], ptrs := [], fuel := k }
noncomputable def fin_s_l09Byte : VV → Ms → Option ByteArray := finV [.str] []
theorem r_s_l09Byte (k : Nat) (a0 : Int) : runF (c_s_l09Byte k) 1 109 [argV (.int .i64) a0] (fun v m => fin_s_l09Byte v m) ms0 = s_l09Byte k a0 := by kernel_rfl
noncomputable def sp_s_l09Byte (k : Nat) : Spec := .imm (.int .i64) fun (a0 : Int) => .body (s_l09Byte k a0) (outV [.str] [])
noncomputable def c_s_l05Short (k : Nat) : Cfg := { eqs := [], tab := [(9, .str)], spec := [(84, sp_s_l01Var k)], mspec := [], inl := [(110, Try.f110)], keep := [], join := [], hold := [], ptrs := [], fuel := k }
noncomputable def fin_s_l05Short : VV → Ms → Option ByteArray := finV [.str] []
theorem r_s_l05Short (k : Nat) (a0 : ByteArray) : runF (c_s_l05Short k) 1 110 [argV .str a0] (fun v m => fin_s_l05Short v m) ms0 = s_l05Short k a0 := by kernel_rfl
noncomputable def sp_s_l05Short (k : Nat) : Spec := .imm .str fun (a0 : ByteArray) => .body (s_l05Short k a0) (outV [.str] [])
noncomputable def c_s_l09BodyText (k : Nat) : Cfg := { eqs := [], tab := [(3, (.int .i64)), (9, .str), (31, (.slice 3 (.int .i64))), (36, yEvent)], spec := [(84, sp_s_l01Var k), (109, sp_s_l09Byte k), (110, sp_s_l05Short k)], mspec := [], inl := [(85, Try.f85)], keep := [(1003, [1, 3, 4])], join := [], hold := [], ptrs := [], fuel := k }
noncomputable def fin_s_l09BodyText : VV → Ms → Option ByteArray := finV [.str] []
noncomputable def V0_s_l09BodyText (k n0 : Nat) (v1 : ByteArray) (v2 : Int) (a0 : TEvent) : Option ByteArray := LP (c_s_l09BodyText k) 0 (cd [1, 1, 0, 1, 0, 0] (bo Try.f85)) 1003 (plug (c_s_l09BodyText k) fin_s_l09BodyText 0 [.b 0, .s (cd [1, 1, 1] (bo Try.f85)), .fn Try.f85]) n0 ⟨⟨(mkT 45 0 [(1, one (.ptr 9000000 0)), (3, one (.str v1)), (4, one (.int .i64 v2))]), [(9000000, .box [.int .i64 a0.1, .int .i64 a0.2.1, .int .i64 a0.2.2.1, .int .i64 a0.2.2.2.1, .int .i64 a0.2.2.2.2.1, .slc 3 (.int .i64) a0.2.2.2.2.2.1, .str a0.2.2.2.2.2.2.1, .slc 3 (.int .i64) a0.2.2.2.2.2.2.2.1, .int .i64 a0.2.2.2.2.2.2.2.2.1])]⟩, 1000, 1, [(0, (mkT 0 0 []))]⟩
theorem t0_s_l09BodyText (k n0 : Nat) (v1 : ByteArray) (v2 : Int) (a0 : TEvent) : V0_s_l09BodyText k (n0 + 1) v1 v2 a0 = b0_s_l09BodyText k (V0_s_l09BodyText k n0) v1 v2 a0 := by kernel_rfl
theorem e0_s_l09BodyText (k : Nat) : ∀ n0 : Nat, V0_s_l09BodyText k n0 = l0_s_l09BodyText k n0
  | 0 => by funext v1 v2 a0; kernel_rfl
  | n0 + 1 => by funext v1 v2 a0; rw [t0_s_l09BodyText, e0_s_l09BodyText k n0] <;> rfl
theorem u_s_l09BodyText (k : Nat) (a0 : TEvent) : runF (c_s_l09BodyText k) 1 85 [argV yEvent a0] (fun v m => fin_s_l09BodyText v m) ms0 = g_s_l09BodyText k (V0_s_l09BodyText k k) a0 := by kernel_rfl
theorem r_s_l09BodyText (k : Nat) (a0 : TEvent) : runF (c_s_l09BodyText k) 1 85 [argV yEvent a0] (fun v m => fin_s_l09BodyText v m) ms0 = s_l09BodyText k a0 := by rw [u_s_l09BodyText, e0_s_l09BodyText k k] <;> rfl
noncomputable def sp_s_l09BodyText (k : Nat) : Spec := .imm yEvent fun (a0 : TEvent) => .body (s_l09BodyText k a0) (outV [.str] [])
noncomputable def c_s_EventText (k : Nat) : Cfg := { eqs := [], tab := [(3, (.int .i64)), (31, (.slice 3 (.int .i64))), (36, yEvent)], spec := [(23, sp_s_EventOk k), (84, sp_s_l01Var k), (85, sp_s_l09BodyText k)], mspec := [], inl := [(39, Try.f39)], keep := [(1005, [1, 4, 5])], join := [], hold := [], ptrs := [], fuel := k }
noncomputable def fin_s_EventText : VV → Ms → Option (ByteArray × Bool) := finV [.str, .bool] []
noncomputable def V0_s_EventText (k n0 : Nat) (v1 : ByteArray) (v2 : Int) (a0 : TEvent) : Option (ByteArray × Bool) := LP (c_s_EventText k) 0 (cd [1, 1, 1, 0, 1, 0, 0] (bo Try.f39)) 1005 (plug (c_s_EventText k) fin_s_EventText 0 [.b 0, .s (cd [1, 1, 1, 1] (bo Try.f39)), .fn Try.f39]) n0 ⟨⟨(mkT 40 0 [(1, one (.ptr 9000000 0)), (4, one (.str v1)), (5, one (.int .i64 v2))]), [(9000000, .box [.int .i64 a0.1, .int .i64 a0.2.1, .int .i64 a0.2.2.1, .int .i64 a0.2.2.2.1, .int .i64 a0.2.2.2.2.1, .slc 3 (.int .i64) a0.2.2.2.2.2.1, .str a0.2.2.2.2.2.2.1, .slc 3 (.int .i64) a0.2.2.2.2.2.2.2.1, .int .i64 a0.2.2.2.2.2.2.2.2.1])]⟩, 1000, 1, [(0, (mkT 0 0 []))]⟩
theorem t0_s_EventText (k n0 : Nat) (v1 : ByteArray) (v2 : Int) (a0 : TEvent) : V0_s_EventText k (n0 + 1) v1 v2 a0 = b0_s_EventText k (V0_s_EventText k n0) v1 v2 a0 := by kernel_rfl
theorem e0_s_EventText (k : Nat) : ∀ n0 : Nat, V0_s_EventText k n0 = l0_s_EventText k n0
  | 0 => by funext v1 v2 a0; kernel_rfl
  | n0 + 1 => by funext v1 v2 a0; rw [t0_s_EventText, e0_s_EventText k n0] <;> rfl
theorem u_s_EventText (k : Nat) (a0 : TEvent) : runF (c_s_EventText k) 1 39 [argV yEvent a0] (fun v m => fin_s_EventText v m) ms0 = g_s_EventText k (V0_s_EventText k k) a0 := by kernel_rfl
theorem r_s_EventText (k : Nat) (a0 : TEvent) : runF (c_s_EventText k) 1 39 [argV yEvent a0] (fun v m => fin_s_EventText v m) ms0 = s_EventText k a0 := by rw [u_s_EventText, e0_s_EventText k k] <;> rfl
noncomputable def sp_s_EventText (k : Nat) : Spec := .imm yEvent fun (a0 : TEvent) => .body (s_EventText k a0) (outV [.str, .bool] [])
noncomputable def c_i_VarText (k : Nat) : Cfg := { eqs := [], tab := [(3, (.int .i64)), (5, (.int .u8)), (9, .str), (129, (.slice 5 (.int .u8)))], spec := [(72, sp_i_within k)], mspec := [], inl := [(86, Try.f86)], keep := [(1004, [0, 4])], join := [], hold := [], ptrs := [], fuel := k }
noncomputable def fin_i_VarText : VV → Ms → Option (ByteArray × Bool) := finV [.str, .bool] []
noncomputable def V1_i_VarText (k n0 : Nat) (v1 : Int) (xs2 : List Int) : Option (ByteArray × Bool) := LP (c_i_VarText k) 0 (cd [1, 1, 1, 0, 0, 0] (bo Try.f86)) 1004 (plug (c_i_VarText k) fin_i_VarText 0 [.b 0, .s (cd [1, 1, 1, 1] (bo Try.f86)), .fn Try.f86]) n0 ⟨⟨(mkT 25 0 [(0, one (.int .i64 v1)), (4, one (.row 9000000 none none))]), [(9000000, .row 5 (.int .u8) xs2 true)]⟩, 1000, 1, [(0, (mkT 0 0 []))]⟩
theorem t1_i_VarText (k n0 : Nat) (v1 : Int) (xs2 : List Int) : V1_i_VarText k (n0 + 1) v1 xs2 = b1_i_VarText k (V1_i_VarText k n0) v1 xs2 := by kernel_rfl
noncomputable def V0_i_VarText (k n0 : Nat) (a0 : Int) : Option (ByteArray × Bool) := LP (c_i_VarText k) 0 (cd [1, 1, 1, 0, 0, 0] (bo Try.f86)) 1004 (plug (c_i_VarText k) fin_i_VarText 0 [.b 0, .s (cd [1, 1, 1, 1] (bo Try.f86)), .fn Try.f86]) n0 ⟨⟨(mkT 25 0 [(0, one (.int .i64 a0)), (4, one (.nilS))]), []⟩, 1000, 1, [(0, (mkT 0 0 []))]⟩
theorem t0_i_VarText (k n0 : Nat) (a0 : Int) : V0_i_VarText k (n0 + 1) a0 = b0_i_VarText k (V1_i_VarText k n0) a0 := by kernel_rfl
theorem e1_i_VarText (k : Nat) : ∀ n0 : Nat, V1_i_VarText k n0 = l1_i_VarText k n0
  | 0 => by funext v1 xs2; kernel_rfl
  | n0 + 1 => by funext v1 xs2; rw [t1_i_VarText, e1_i_VarText k n0] <;> rfl
theorem e0_i_VarText (k : Nat) : ∀ n0 : Nat, V0_i_VarText k n0 = l0_i_VarText k n0
  | 0 => by funext a0; kernel_rfl
  | n0 + 1 => by funext a0; rw [t0_i_VarText, e1_i_VarText k n0] <;> rfl
theorem u_i_VarText (k : Nat) (a0 : Int) : runF (c_i_VarText k) 1 86 [argV (.int .i64) a0] (fun v m => fin_i_VarText v m) ms0 = g_i_VarText k (V0_i_VarText k k) a0 := by kernel_rfl
theorem r_i_VarText (k : Nat) (a0 : Int) : runF (c_i_VarText k) 1 86 [argV (.int .i64) a0] (fun v m => fin_i_VarText v m) ms0 = i_VarText k a0 := by rw [u_i_VarText, e0_i_VarText k k] <;> rfl
noncomputable def sp_i_VarText (k : Nat) : Spec := .imm (.int .i64) fun (a0 : Int) => .body (i_VarText k a0) (outV [.str, .bool] [])
noncomputable def c_i_vars (k : Nat) : Cfg := { eqs := [], tab := [(3, (.int .i64)), (9, .str), (31, (.slice 3 (.int .i64))), (129, (.slice 5 (.int .u8)))], spec := [(86, sp_i_VarText k)], mspec := [], inl := [(87, Try.f87)], keep := [(1003, [4, 9, 10, 11])], join := [], hold := [], ptrs := [], fuel := k }
noncomputable def fin_i_vars : VV → Ms → Option (ByteArray × Bool) := finV [.str, .bool] []
noncomputable def V1_i_vars (k n0 : Nat) (a0 : List Int) (v1 : Int) (xs2 : List Int) : Option (ByteArray × Bool) := LP (c_i_vars k) 0 (cd [1, 1, 0, 1, 0, 0] (bo Try.f87)) 1003 (plug (c_i_vars k) fin_i_vars 0 [.b 0, .s (cd [1, 1, 1] (bo Try.f87)), .fn Try.f87]) n0 ⟨⟨(mkT 28 0 [(4, one (.row 9000000 none none)), (9, one (.slc 3 (.int .i64) a0)), (10, one (.int .i64 (a0.length : Int))), (11, one (.int .i64 v1))]), [(9000000, .row 5 (.int .u8) xs2 true)]⟩, 1000, 1, [(0, (mkT 0 0 []))]⟩
theorem t1_i_vars (k n0 : Nat) (a0 : List Int) (v1 : Int) (xs2 : List Int) : V1_i_vars k (n0 + 1) a0 v1 xs2 = b1_i_vars k (V1_i_vars k n0) a0 v1 xs2 := by kernel_rfl
noncomputable def V0_i_vars (k n0 : Nat) (a0 : List Int) : Option (ByteArray × Bool) := LP (c_i_vars k) 0 (cd [1, 1, 0, 1, 0, 0] (bo Try.f87)) 1003 (plug (c_i_vars k) fin_i_vars 0 [.b 0, .s (cd [1, 1, 1] (bo Try.f87)), .fn Try.f87]) n0 ⟨⟨(mkT 28 0 [(4, one (.nilS)), (9, one (.slc 3 (.int .i64) a0)), (10, one (.int .i64 (a0.length : Int))), (11, one (.int .i64 0))]), []⟩, 1000, 1, [(0, (mkT 0 0 []))]⟩
theorem t0_i_vars (k n0 : Nat) (a0 : List Int) : V0_i_vars k (n0 + 1) a0 = b0_i_vars k (V1_i_vars k n0) a0 := by kernel_rfl
theorem e1_i_vars (k : Nat) : ∀ n0 : Nat, V1_i_vars k n0 = l1_i_vars k n0
  | 0 => by funext a0 v1 xs2; kernel_rfl
  | n0 + 1 => by funext a0 v1 xs2; rw [t1_i_vars, e1_i_vars k n0] <;> rfl
theorem e0_i_vars (k : Nat) : ∀ n0 : Nat, V0_i_vars k n0 = l0_i_vars k n0
  | 0 => by funext a0; kernel_rfl
  | n0 + 1 => by funext a0; rw [t0_i_vars, e1_i_vars k n0] <;> rfl
theorem u_i_vars (k : Nat) (a0 : List Int) : runF (c_i_vars k) 1 87 [argV (.slice 3 (.int .i64)) a0] (fun v m => fin_i_vars v m) ms0 = g_i_vars k (V0_i_vars k k) a0 := by kernel_rfl
theorem r_i_vars (k : Nat) (a0 : List Int) : runF (c_i_vars k) 1 87 [argV (.slice 3 (.int .i64)) a0] (fun v m => fin_i_vars v m) ms0 = i_vars k a0 := by rw [u_i_vars, e0_i_vars k k] <;> rfl
noncomputable def sp_i_vars (k : Nat) : Spec := .imm (.slice 3 (.int .i64)) fun (a0 : List Int) => .body (i_vars k a0) (outV [.str, .bool] [])
noncomputable def c_i_ShortText (k : Nat) : Cfg := { eqs := [], tab := [(9, .str)], spec := [(86, sp_i_VarText k)], mspec := [], inl := [(111, Try.f111)], keep := [], join := [], hold := [], ptrs := [], fuel := k }
noncomputable def fin_i_ShortText : VV → Ms → Option (ByteArray × Bool) := finV [.str, .bool] []
theorem r_i_ShortText (k : Nat) (a0 : ByteArray) : runF (c_i_ShortText k) 1 111 [argV .str a0] (fun v m => fin_i_ShortText v m) ms0 = i_ShortText k a0 := by kernel_rfl
noncomputable def sp_i_ShortText (k : Nat) : Spec := .imm .str fun (a0 : ByteArray) => .body (i_ShortText k a0) (outV [.str, .bool] [])
noncomputable def c_i_listText (k : Nat) : Cfg := { eqs := [], tab := [(3, (.int .i64)), (5, (.int .u8)), (9, .str), (31, (.slice 3 (.int .i64))), (129, (.slice 5 (.int .u8)))], spec := [(86, sp_i_VarText k)], mspec := [], inl := [(122, Try.f122)], keep := [(1003, [3, 13, 14, 15])], join := [], hold := [], ptrs := [], fuel := k }
noncomputable def fin_i_listText : VV → Ms → Option ByteArray := finV [.str] []
noncomputable def V0_i_listText (k n0 : Nat) (v1 : ByteArray) (a0 : List Int) (v2 : Int) : Option ByteArray := LP (c_i_listText k) 0 (cd [1, 1, 0, 1, 0, 0] (bo Try.f122)) 1003 (plug (c_i_listText k) fin_i_listText 0 [.b 0, .s (cd [1, 1, 1] (bo Try.f122)), .fn Try.f122]) n0 ⟨⟨(mkT 27 0 [(3, one (.str v1)), (13, one (.slc 3 (.int .i64) a0)), (14, one (.int .i64 (a0.length : Int))), (15, one (.int .i64 v2))]), []⟩, 1000, 1, [(0, (mkT 0 0 []))]⟩
theorem t0_i_listText (k n0 : Nat) (v1 : ByteArray) (a0 : List Int) (v2 : Int) : V0_i_listText k (n0 + 1) v1 a0 v2 = b0_i_listText k (V0_i_listText k n0) v1 a0 v2 := by kernel_rfl
theorem e0_i_listText (k : Nat) : ∀ n0 : Nat, V0_i_listText k n0 = l0_i_listText k n0
  | 0 => by funext v1 a0 v2; kernel_rfl
  | n0 + 1 => by funext v1 a0 v2; rw [t0_i_listText, e0_i_listText k n0] <;> rfl
theorem u_i_listText (k : Nat) (a0 : List Int) : runF (c_i_listText k) 1 122 [argV (.slice 3 (.int .i64)) a0] (fun v m => fin_i_listText v m) ms0 = g_i_listText k (V0_i_listText k k) a0 := by kernel_rfl
theorem r_i_listText (k : Nat) (a0 : List Int) : runF (c_i_listText k) 1 122 [argV (.slice 3 (.int .i64)) a0] (fun v m => fin_i_listText v m) ms0 = i_listText k a0 := by rw [u_i_listText, e0_i_listText k k] <;> rfl
noncomputable def sp_i_listText (k : Nat) : Spec := .imm (.slice 3 (.int .i64)) fun (a0 : List Int) => .body (i_listText k a0) (outV [.str] [])
noncomputable def c_i_mainText (k : Nat) : Cfg := { eqs := [], tab := [(3, (.int .i64)), (5, (.int .u8)), (9, .str), (31, (.slice 3 (.int .i64))), (36, yEvent), (129, (.slice 5 (.int .u8)))], spec := [(111, sp_i_ShortText k), (122, sp_i_listText k)], mspec := [], inl := [(88, Try.f88)], keep := [], join := [], hold := [], ptrs := [], fuel := k }
noncomputable def fin_i_mainText : VV → Ms → Option ByteArray := finV [.str] []
theorem r_i_mainText (k : Nat) (a0 : TEvent) : runF (c_i_mainText k) 1 88 [argV yEvent a0] (fun v m => fin_i_mainText v m) ms0 = i_mainText k a0 := by kernel_rfl
noncomputable def sp_i_mainText (k : Nat) : Spec := .imm yEvent fun (a0 : TEvent) => .body (i_mainText k a0) (outV [.str] [])
noncomputable def c_i_EventText (k : Nat) : Cfg := { eqs := [], tab := [(3, (.int .i64)), (31, (.slice 3 (.int .i64))), (36, yEvent)], spec := [(25, sp_i_EventOk k), (86, sp_i_VarText k), (87, sp_i_vars k), (88, sp_i_mainText k)], mspec := [], inl := [(40, Try.f40)], keep := [], join := [], hold := [], ptrs := [], fuel := k }
noncomputable def fin_i_EventText : VV → Ms → Option (ByteArray × Bool) := finV [.str, .bool] []
theorem r_i_EventText (k : Nat) (a0 : TEvent) : runF (c_i_EventText k) 1 40 [argV yEvent a0] (fun v m => fin_i_EventText v m) ms0 = i_EventText k a0 := by kernel_rfl
noncomputable def sp_i_EventText (k : Nat) : Spec := .imm yEvent fun (a0 : TEvent) => .body (i_EventText k a0) (outV [.str, .bool] [])
noncomputable def c_l_FnExactEventText (k : Nat) : Cfg := { eqs := [], tab := [(4, .bool), (33, yEvent), (36, yEvent)], spec := [(22, sp_l_szEvent k), (24, sp_l_toEvent k), (26, sp_l_eqEvent k), (39, sp_s_EventText k), (40, sp_i_EventText k)], mspec := [], inl := [(8, Try.f8)], keep := [], join := [], hold := [], ptrs := [], fuel := k }
noncomputable def fin_l_FnExactEventText : VV → Ms → Option Bool := finV [.bool] []
theorem r_l_FnExactEventText (k : Nat) (a0 : TEvent) : runF (c_l_FnExactEventText k) 1 8 [argV yEvent a0] (fun v m => fin_l_FnExactEventText v m) ms0 = l_FnExactEventText k a0 := by kernel_rfl
noncomputable def sp_l_FnExactEventText (k : Nat) : Spec := .imm yEvent fun (a0 : TEvent) => .body (l_FnExactEventText k a0) (outV [.bool] [])
noncomputable def c_l_szCommand (k : Nat) : Cfg := { eqs := [], tab := [(33, yEvent), (55, yCommand)], spec := [(22, sp_l_szEvent k)], mspec := [], inl := [(41, Try.f41)], keep := [], join := [], hold := [], ptrs := [], fuel := k }
noncomputable def fin_l_szCommand : VV → Ms → Option Int := finV [(.int .i64)] []
theorem r_l_szCommand (k : Nat) (a0 : TCommand) (a1 : Int) : runF (c_l_szCommand k) 1 41 [argV yCommand a0, argV (.int .i64) a1] (fun v m => fin_l_szCommand v m) ms0 = l_szCommand k a0 a1 := by kernel_rfl
noncomputable def sp_l_szCommand (k : Nat) : Spec := .imm yCommand fun (a0 : TCommand) => .imm (.int .i64) fun (a1 : Int) => .body (l_szCommand k a0 a1) (outV [(.int .i64)] [])
noncomputable def c_s_l05SameInts (k : Nat) : Cfg := { eqs := [], tab := [(3, (.int .i64)), (31, (.slice 3 (.int .i64)))], spec := [], mspec := [], inl := [(138, Try.f138)], keep := [(1004, [0, 1, 5])], join := [], hold := [], ptrs := [], fuel := k }
noncomputable def fin_s_l05SameInts : VV → Ms → Option Bool := finV [.bool] []
noncomputable def V0_s_l05SameInts (k n0 : Nat) (a0 : List Int) (a1 : List Int) (v1 : Int) : Option Bool := LP (c_s_l05SameInts k) 0 (cd [1, 1, 0, 1, 0, 0] (bo Try.f138)) 1004 (plug (c_s_l05SameInts k) fin_s_l05SameInts 0 [.b 0, .s (cd [1, 1, 1] (bo Try.f138)), .fn Try.f138]) n0 ⟨⟨(mkT 26 0 [(0, one (.slc 3 (.int .i64) a0)), (1, one (.slc 3 (.int .i64) a1)), (5, one (.int .i64 v1))]), []⟩, 1000, 1, [(0, (mkT 0 0 []))]⟩
theorem t0_s_l05SameInts (k n0 : Nat) (a0 : List Int) (a1 : List Int) (v1 : Int) : V0_s_l05SameInts k (n0 + 1) a0 a1 v1 = b0_s_l05SameInts k (V0_s_l05SameInts k n0) a0 a1 v1 := by kernel_rfl
theorem e0_s_l05SameInts (k : Nat) : ∀ n0 : Nat, V0_s_l05SameInts k n0 = l0_s_l05SameInts k n0
  | 0 => by funext a0 a1 v1; kernel_rfl
  | n0 + 1 => by funext a0 a1 v1; rw [t0_s_l05SameInts, e0_s_l05SameInts k n0] <;> rfl
theorem u_s_l05SameInts (k : Nat) (a0 : List Int) (a1 : List Int) : runF (c_s_l05SameInts k) 1 138 [argV (.slice 3 (.int .i64)) a0, argV (.slice 3 (.int .i64)) a1] (fun v m => fin_s_l05SameInts v m) ms0 = g_s_l05SameInts k (V0_s_l05SameInts k k) a0 a1 := by kernel_rfl
theorem r_s_l05SameInts (k : Nat) (a0 : List Int) (a1 : List Int) : runF (c_s_l05SameInts k) 1 138 [argV (.slice 3 (.int .i64)) a0, argV (.slice 3 (.int .i64)) a1] (fun v m => fin_s_l05SameInts v m) ms0 = s_l05SameInts k a0 a1 := by rw [u_s_l05SameInts, e0_s_l05SameInts k k] <;> rfl
noncomputable def sp_s_l05SameInts (k : Nat) : Spec := .imm (.slice 3 (.int .i64)) fun (a0 : List Int) => .imm (.slice 3 (.int .i64)) fun (a1 : List Int) => .body (s_l05SameInts k a0 a1) (outV [.bool] [])
noncomputable def c_s_l09Same (k : Nat) : Cfg := { eqs := [], tab := [(3, (.int .i64)), (9, .str), (31, (.slice 3 (.int .i64))), (36, yEvent)], spec := [(138, sp_s_l05SameInts k)], mspec := [], inl := [(123, Try.f123)], keep := [], join := [], hold := [], ptrs := [], fuel := k }
noncomputable def fin_s_l09Same : VV → Ms → Option Bool := finV [.bool] []
theorem r_s_l09Same (k : Nat) (a0 : TEvent) (a1 : TEvent) : runF (c_s_l09Same k) 1 123 [argV yEvent a0, argV yEvent a1] (fun v m => fin_s_l09Same v m) ms0 = s_l09Same k a0 a1 := by kernel_rfl
noncomputable def sp_s_l09Same (k : Nat) : Spec := .imm yEvent fun (a0 : TEvent) => .imm yEvent fun (a1 : TEvent) => .body (s_l09Same k a0 a1) (outV [.bool] [])
noncomputable def c_s_l13Blank (k : Nat) : Cfg := { eqs := [], tab := [(36, yEvent)], spec := [(123, sp_s_l09Same k)], mspec := [], inl := [(89, Try.f89)], keep := [], join := [], hold := [], ptrs := [], fuel := k }
noncomputable def fin_s_l13Blank : VV → Ms → Option Bool := finV [.bool] []
theorem r_s_l13Blank (k : Nat) (a0 : TEvent) : runF (c_s_l13Blank k) 1 89 [argV yEvent a0] (fun v m => fin_s_l13Blank v m) ms0 = s_l13Blank k a0 := by kernel_rfl
noncomputable def sp_s_l13Blank (k : Nat) : Spec := .imm yEvent fun (a0 : TEvent) => .body (s_l13Blank k a0) (outV [.bool] [])
noncomputable def c_s_CommandOk (k : Nat) : Cfg := { eqs := [], tab := [(3, (.int .i64)), (31, (.slice 3 (.int .i64))), (36, yEvent), (59, yCommand)], spec := [(23, sp_s_EventOk k), (71, sp_s_l01In k), (74, sp_s_l09Body k), (89, sp_s_l13Blank k)], mspec := [], inl := [(42, Try.f42)], keep := [], join := [], hold := [], ptrs := [], fuel := k }
noncomputable def fin_s_CommandOk : VV → Ms → Option Bool := finV [.bool] []
theorem r_s_CommandOk (k : Nat) (a0 : TCommand) : runF (c_s_CommandOk k) 1 42 [argV yCommand a0] (fun v m => fin_s_CommandOk v m) ms0 = s_CommandOk k a0 := by kernel_rfl
noncomputable def sp_s_CommandOk (k : Nat) : Spec := .imm yCommand fun (a0 : TCommand) => .body (s_CommandOk k a0) (outV [.bool] [])
noncomputable def c_l_toCommand (k : Nat) : Cfg := { eqs := [], tab := [(3, (.int .i64)), (33, yEvent), (36, yEvent), (55, yCommand), (59, yCommand)], spec := [(24, sp_l_toEvent k)], mspec := [], inl := [(43, Try.f43)], keep := [], join := [], hold := [], ptrs := [], fuel := k }
noncomputable def fin_l_toCommand : VV → Ms → Option TCommand := finV [yCommand] [true, true]
theorem r_l_toCommand (k : Nat) (a0 : TCommand) : runF (c_l_toCommand k) 1 43 [argV yCommand a0] (fun v m => fin_l_toCommand v m) ms0 = l_toCommand k a0 := by kernel_rfl
noncomputable def sp_l_toCommand (k : Nat) : Spec := .imm yCommand fun (a0 : TCommand) => .body (l_toCommand k a0) (outV [yCommand] [true, true])
noncomputable def c_slices_Equal_int_int (k : Nat) : Cfg := { eqs := [], tab := [(3, (.int .i64)), (31, (.slice 3 (.int .i64)))], spec := [], mspec := [], inl := [(124, Try.f124)], keep := [(1004, [0, 1, 12, 13])], join := [], hold := [], ptrs := [], fuel := k }
noncomputable def fin_slices_Equal_int_int : VV → Ms → Option Bool := finV [.bool] []
noncomputable def V0_slices_Equal_int_int (k n0 : Nat) (a0 : List Int) (a1 : List Int) (v1 : Int) : Option Bool := LP (c_slices_Equal_int_int k) 0 (cd [1, 1, 0, 1, 0, 0] (bo Try.f124)) 1004 (plug (c_slices_Equal_int_int k) fin_slices_Equal_int_int 0 [.b 0, .s (cd [1, 1, 1] (bo Try.f124)), .fn Try.f124]) n0 ⟨⟨(mkT 26 0 [(0, one (.slc 3 (.int .i64) a0)), (1, one (.slc 3 (.int .i64) a1)), (12, one (.int .i64 (a0.length : Int))), (13, one (.int .i64 v1))]), []⟩, 1000, 1, [(0, (mkT 0 0 []))]⟩
theorem t0_slices_Equal_int_int (k n0 : Nat) (a0 : List Int) (a1 : List Int) (v1 : Int) : V0_slices_Equal_int_int k (n0 + 1) a0 a1 v1 = b0_slices_Equal_int_int k (V0_slices_Equal_int_int k n0) a0 a1 v1 := by kernel_rfl
theorem e0_slices_Equal_int_int (k : Nat) : ∀ n0 : Nat, V0_slices_Equal_int_int k n0 = l0_slices_Equal_int_int k n0
  | 0 => by funext a0 a1 v1; kernel_rfl
  | n0 + 1 => by funext a0 a1 v1; rw [t0_slices_Equal_int_int, e0_slices_Equal_int_int k n0] <;> rfl
theorem u_slices_Equal_int_int (k : Nat) (a0 : List Int) (a1 : List Int) : runF (c_slices_Equal_int_int k) 1 124 [argV (.slice 3 (.int .i64)) a0, argV (.slice 3 (.int .i64)) a1] (fun v m => fin_slices_Equal_int_int v m) ms0 = g_slices_Equal_int_int k (V0_slices_Equal_int_int k k) a0 a1 := by kernel_rfl
theorem r_slices_Equal_int_int (k : Nat) (a0 : List Int) (a1 : List Int) : runF (c_slices_Equal_int_int k) 1 124 [argV (.slice 3 (.int .i64)) a0, argV (.slice 3 (.int .i64)) a1] (fun v m => fin_slices_Equal_int_int v m) ms0 = slices_Equal_int_int k a0 a1 := by rw [u_slices_Equal_int_int, e0_slices_Equal_int_int k k] <;> rfl
noncomputable def sp_slices_Equal_int_int (k : Nat) : Spec := .imm (.slice 3 (.int .i64)) fun (a0 : List Int) => .imm (.slice 3 (.int .i64)) fun (a1 : List Int) => .body (slices_Equal_int_int k a0 a1) (outV [.bool] [])
noncomputable def c_i_sameEvent (k : Nat) : Cfg := { eqs := [], tab := [(3, (.int .i64)), (9, .str), (31, (.slice 3 (.int .i64))), (36, yEvent)], spec := [(124, sp_slices_Equal_int_int k)], mspec := [], inl := [(90, Try.f90)], keep := [], join := [], hold := [], ptrs := [], fuel := k }
noncomputable def fin_i_sameEvent : VV → Ms → Option Bool := finV [.bool] []
theorem r_i_sameEvent (k : Nat) (a0 : TEvent) (a1 : TEvent) : runF (c_i_sameEvent k) 1 90 [argV yEvent a0, argV yEvent a1] (fun v m => fin_i_sameEvent v m) ms0 = i_sameEvent k a0 a1 := by kernel_rfl
noncomputable def sp_i_sameEvent (k : Nat) : Spec := .imm yEvent fun (a0 : TEvent) => .imm yEvent fun (a1 : TEvent) => .body (i_sameEvent k a0 a1) (outV [.bool] [])
noncomputable def c_i_sentOk (k : Nat) : Cfg := { eqs := [], tab := [(3, (.int .i64)), (31, (.slice 3 (.int .i64))), (36, yEvent)], spec := [(25, sp_i_EventOk k)], mspec := [], inl := [(91, Try.f91)], keep := [], join := [], hold := [], ptrs := [], fuel := k }
noncomputable def fin_i_sentOk : VV → Ms → Option Bool := finV [.bool] []
theorem r_i_sentOk (k : Nat) (a0 : TEvent) : runF (c_i_sentOk k) 1 91 [argV yEvent a0] (fun v m => fin_i_sentOk v m) ms0 = i_sentOk k a0 := by kernel_rfl
noncomputable def sp_i_sentOk (k : Nat) : Spec := .imm yEvent fun (a0 : TEvent) => .body (i_sentOk k a0) (outV [.bool] [])
noncomputable def c_i_CommandOk (k : Nat) : Cfg := { eqs := [], tab := [(3, (.int .i64)), (36, yEvent), (59, yCommand)], spec := [(25, sp_i_EventOk k), (72, sp_i_within k), (90, sp_i_sameEvent k), (91, sp_i_sentOk k)], mspec := [], inl := [(44, Try.f44)], keep := [], join := [], hold := [], ptrs := [], fuel := k }
noncomputable def fin_i_CommandOk : VV → Ms → Option Bool := finV [.bool] []
theorem r_i_CommandOk (k : Nat) (a0 : TCommand) : runF (c_i_CommandOk k) 1 44 [argV yCommand a0] (fun v m => fin_i_CommandOk v m) ms0 = i_CommandOk k a0 := by kernel_rfl
noncomputable def sp_i_CommandOk (k : Nat) : Spec := .imm yCommand fun (a0 : TCommand) => .body (i_CommandOk k a0) (outV [.bool] [])
noncomputable def c_l_eqCommand (k : Nat) : Cfg := { eqs := [], tab := [(3, (.int .i64)), (36, yEvent), (59, yCommand)], spec := [(26, sp_l_eqEvent k)], mspec := [], inl := [(45, Try.f45)], keep := [], join := [], hold := [], ptrs := [], fuel := k }
noncomputable def fin_l_eqCommand : VV → Ms → Option Bool := finV [.bool] []
theorem r_l_eqCommand (k : Nat) (a0 : TCommand) (a1 : TCommand) : runF (c_l_eqCommand k) 1 45 [argV yCommand a0, argV yCommand a1] (fun v m => fin_l_eqCommand v m) ms0 = l_eqCommand k a0 a1 := by kernel_rfl
noncomputable def sp_l_eqCommand (k : Nat) : Spec := .imm yCommand fun (a0 : TCommand) => .imm yCommand fun (a1 : TCommand) => .body (l_eqCommand k a0 a1) (outV [.bool] [])
noncomputable def c_l_FnExactCommandOk (k : Nat) : Cfg := { eqs := [], tab := [(4, .bool), (55, yCommand), (59, yCommand)], spec := [(41, sp_l_szCommand k), (42, sp_s_CommandOk k), (43, sp_l_toCommand k), (44, sp_i_CommandOk k), (45, sp_l_eqCommand k)], mspec := [], inl := [(9, Try.f9)], keep := [], join := [], hold := [], ptrs := [], fuel := k }
noncomputable def fin_l_FnExactCommandOk : VV → Ms → Option Bool := finV [.bool] []
theorem r_l_FnExactCommandOk (k : Nat) (a0 : TCommand) : runF (c_l_FnExactCommandOk k) 1 9 [argV yCommand a0] (fun v m => fin_l_FnExactCommandOk v m) ms0 = l_FnExactCommandOk k a0 := by kernel_rfl
noncomputable def sp_l_FnExactCommandOk (k : Nat) : Spec := .imm yCommand fun (a0 : TCommand) => .body (l_FnExactCommandOk k a0) (outV [.bool] [])
noncomputable def c_l_szEventS (k : Nat) : Cfg := { eqs := [], tab := [(33, yEvent), (40, (.slice 33 yEvent))], spec := [(22, sp_l_szEvent k)], mspec := [], inl := [(27, Try.f27)], keep := [(1005, [0, 1, 5])], join := [], hold := [], ptrs := [], fuel := k }
noncomputable def fin_l_szEventS : VV → Ms → Option Int := finV [(.int .i64)] []
noncomputable def V0_l_szEventS (k n0 : Nat) (a0 : List TEvent) (v1 : Int) (v2 : Int) : Option Int := LP (c_l_szEventS k) 0 (cd [1, 1, 1, 0, 1, 0, 0] (bo Try.f27)) 1005 (plug (c_l_szEventS k) fin_l_szEventS 0 [.b 0, .s (cd [1, 1, 1, 1] (bo Try.f27)), .fn Try.f27]) n0 ⟨⟨(mkT 27 0 [(0, one (.slc 33 yEvent a0)), (1, one (.int .i64 v1)), (5, one (.int .i64 v2))]), []⟩, 1000, 1, [(0, (mkT 0 0 []))]⟩
theorem t0_l_szEventS (k n0 : Nat) (a0 : List TEvent) (v1 : Int) (v2 : Int) : V0_l_szEventS k (n0 + 1) a0 v1 v2 = b0_l_szEventS k (V0_l_szEventS k n0) a0 v1 v2 := by kernel_rfl
theorem e0_l_szEventS (k : Nat) : ∀ n0 : Nat, V0_l_szEventS k n0 = l0_l_szEventS k n0
  | 0 => by funext a0 v1 v2; kernel_rfl
  | n0 + 1 => by funext a0 v1 v2; rw [t0_l_szEventS, e0_l_szEventS k n0] <;> rfl
theorem u_l_szEventS (k : Nat) (a0 : List TEvent) (a1 : Int) : runF (c_l_szEventS k) 1 27 [argV (.slice 33 yEvent) a0, argV (.int .i64) a1] (fun v m => fin_l_szEventS v m) ms0 = g_l_szEventS k (V0_l_szEventS k k) a0 a1 := by kernel_rfl
theorem r_l_szEventS (k : Nat) (a0 : List TEvent) (a1 : Int) : runF (c_l_szEventS k) 1 27 [argV (.slice 33 yEvent) a0, argV (.int .i64) a1] (fun v m => fin_l_szEventS v m) ms0 = l_szEventS k a0 a1 := by rw [u_l_szEventS, e0_l_szEventS k k] <;> rfl
noncomputable def sp_l_szEventS (k : Nat) : Spec := .imm (.slice 33 yEvent) fun (a0 : List TEvent) => .imm (.int .i64) fun (a1 : Int) => .body (l_szEventS k a0 a1) (outV [(.int .i64)] [])
noncomputable def c_l_szItemSS (k : Nat) : Cfg := { eqs := [], tab := [(22, (.slice 97 yItem)), (63, (.slice 22 (.slice 97 yItem)))], spec := [(15, sp_l_szItemS k)], mspec := [], inl := [(92, Try.f92)], keep := [(1005, [0, 1, 5])], join := [], hold := [], ptrs := [], fuel := k }
noncomputable def fin_l_szItemSS : VV → Ms → Option Int := finV [(.int .i64)] []
noncomputable def V0_l_szItemSS (k n0 : Nat) (a0 : List (List TItem)) (v1 : Int) (v2 : Int) : Option Int := LP (c_l_szItemSS k) 0 (cd [1, 1, 1, 0, 1, 0, 0] (bo Try.f92)) 1005 (plug (c_l_szItemSS k) fin_l_szItemSS 0 [.b 0, .s (cd [1, 1, 1, 1] (bo Try.f92)), .fn Try.f92]) n0 ⟨⟨(mkT 27 0 [(0, one (.slc 22 (.slice 97 yItem) a0)), (1, one (.int .i64 v1)), (5, one (.int .i64 v2))]), []⟩, 1000, 1, [(0, (mkT 0 0 []))]⟩
theorem t0_l_szItemSS (k n0 : Nat) (a0 : List (List TItem)) (v1 : Int) (v2 : Int) : V0_l_szItemSS k (n0 + 1) a0 v1 v2 = b0_l_szItemSS k (V0_l_szItemSS k n0) a0 v1 v2 := by kernel_rfl
theorem e0_l_szItemSS (k : Nat) : ∀ n0 : Nat, V0_l_szItemSS k n0 = l0_l_szItemSS k n0
  | 0 => by funext a0 v1 v2; kernel_rfl
  | n0 + 1 => by funext a0 v1 v2; rw [t0_l_szItemSS, e0_l_szItemSS k n0] <;> rfl
theorem u_l_szItemSS (k : Nat) (a0 : List (List TItem)) (a1 : Int) : runF (c_l_szItemSS k) 1 92 [argV (.slice 22 (.slice 97 yItem)) a0, argV (.int .i64) a1] (fun v m => fin_l_szItemSS v m) ms0 = g_l_szItemSS k (V0_l_szItemSS k k) a0 a1 := by kernel_rfl
theorem r_l_szItemSS (k : Nat) (a0 : List (List TItem)) (a1 : Int) : runF (c_l_szItemSS k) 1 92 [argV (.slice 22 (.slice 97 yItem)) a0, argV (.int .i64) a1] (fun v m => fin_l_szItemSS v m) ms0 = l_szItemSS k a0 a1 := by rw [u_l_szItemSS, e0_l_szItemSS k k] <;> rfl
noncomputable def sp_l_szItemSS (k : Nat) : Spec := .imm (.slice 22 (.slice 97 yItem)) fun (a0 : List (List TItem)) => .imm (.int .i64) fun (a1 : Int) => .body (l_szItemSS k a0 a1) (outV [(.int .i64)] [])
noncomputable def c_l_szBoolS (k : Nat) : Cfg := { eqs := [], tab := [(64, (.slice 4 .bool))], spec := [], mspec := [], inl := [(93, Try.f93)], keep := [], join := [], hold := [], ptrs := [], fuel := k }
noncomputable def fin_l_szBoolS : VV → Ms → Option Int := finV [(.int .i64)] []
theorem r_l_szBoolS (k : Nat) (a0 : List Bool) (a1 : Int) : runF (c_l_szBoolS k) 1 93 [argV (.slice 4 .bool) a0, argV (.int .i64) a1] (fun v m => fin_l_szBoolS v m) ms0 = l_szBoolS k a0 a1 := by kernel_rfl
noncomputable def sp_l_szBoolS (k : Nat) : Spec := .imm (.slice 4 .bool) fun (a0 : List Bool) => .imm (.int .i64) fun (a1 : Int) => .body (l_szBoolS k a0 a1) (outV [(.int .i64)] [])
noncomputable def c_l_szRoom (k : Nat) : Cfg := { eqs := [], tab := [(40, (.slice 33 yEvent)), (63, (.slice 22 (.slice 97 yItem))), (64, (.slice 4 .bool)), (66, yRoom)], spec := [(27, sp_l_szEventS k), (92, sp_l_szItemSS k), (93, sp_l_szBoolS k)], mspec := [], inl := [(46, Try.f46)], keep := [], join := [], hold := [], ptrs := [], fuel := k }
noncomputable def fin_l_szRoom : VV → Ms → Option Int := finV [(.int .i64)] []
theorem r_l_szRoom (k : Nat) (a0 : TRoom) (a1 : Int) : runF (c_l_szRoom k) 1 46 [argV yRoom a0, argV (.int .i64) a1] (fun v m => fin_l_szRoom v m) ms0 = l_szRoom k a0 a1 := by kernel_rfl
noncomputable def sp_l_szRoom (k : Nat) : Spec := .imm yRoom fun (a0 : TRoom) => .imm (.int .i64) fun (a1 : Int) => .body (l_szRoom k a0 a1) (outV [(.int .i64)] [])
noncomputable def c_s_l12Has (k : Nat) : Cfg := { eqs := [], tab := [(3, (.int .i64)), (36, yEvent), (44, (.slice 36 yEvent)), (71, yRoom1)], spec := [], mspec := [], inl := [(94, Try.f94)], keep := [(1002, [1, 2, 5])], join := [], hold := [], ptrs := [], fuel := k }
noncomputable def fin_s_l12Has : VV → Ms → Option Int := finV [(.int .i64)] []
noncomputable def V0_s_l12Has (k n0 : Nat) (a1 : Int) (v1 : Int) (a0 : TRoom) : Option Int := LP (c_s_l12Has k) 0 (cd [1, 0, 1, 0, 0] (bo Try.f94)) 1002 (plug (c_s_l12Has k) fin_s_l12Has 0 [.b 0, .s (cd [1, 1] (bo Try.f94)), .fn Try.f94]) n0 ⟨⟨(mkT 22 0 [(1, one (.int .i64 a1)), (2, one (.ptr 9000000 0)), (5, one (.int .i64 v1))]), [(9000000, .box [.slc 36 yEvent a0.1, .slc 25 (.slice 95 yItem) a0.2.1, .slc 4 .bool a0.2.2.1])]⟩, 1000, 1, [(0, (mkT 0 0 []))]⟩
theorem t0_s_l12Has (k n0 : Nat) (a1 : Int) (v1 : Int) (a0 : TRoom) : V0_s_l12Has k (n0 + 1) a1 v1 a0 = b0_s_l12Has k (V0_s_l12Has k n0) a1 v1 a0 := by kernel_rfl
theorem e0_s_l12Has (k : Nat) : ∀ n0 : Nat, V0_s_l12Has k n0 = l0_s_l12Has k n0
  | 0 => by funext a1 v1 a0; kernel_rfl
  | n0 + 1 => by funext a1 v1 a0; rw [t0_s_l12Has, e0_s_l12Has k n0] <;> rfl
theorem u_s_l12Has (k : Nat) (a0 : TRoom) (a1 : Int) : runF (c_s_l12Has k) 1 94 [argV yRoom1 a0, argV (.int .i64) a1] (fun v m => fin_s_l12Has v m) ms0 = g_s_l12Has k (V0_s_l12Has k k) a0 a1 := by kernel_rfl
theorem r_s_l12Has (k : Nat) (a0 : TRoom) (a1 : Int) : runF (c_s_l12Has k) 1 94 [argV yRoom1 a0, argV (.int .i64) a1] (fun v m => fin_s_l12Has v m) ms0 = s_l12Has k a0 a1 := by rw [u_s_l12Has, e0_s_l12Has k k] <;> rfl
noncomputable def sp_s_l12Has (k : Nat) : Spec := .imm yRoom1 fun (a0 : TRoom) => .imm (.int .i64) fun (a1 : Int) => .body (s_l12Has k a0 a1) (outV [(.int .i64)] [])
noncomputable def c_s_DepthOf (k : Nat) : Cfg := { eqs := [], tab := [(3, (.int .i64)), (31, (.slice 3 (.int .i64))), (36, yEvent), (44, (.slice 36 yEvent)), (71, yRoom1)], spec := [(94, sp_s_l12Has k)], mspec := [], inl := [(47, Try.f47)], keep := [(1003, [1, 2, 5, 6])], join := [], hold := [], ptrs := [], fuel := k }
noncomputable def fin_s_DepthOf : VV → Ms → Option Int := finV [(.int .i64)] []
noncomputable def V0_s_DepthOf (k n0 : Nat) (a1 : List Int) (v1 : Int) (v2 : Int) (a0 : TRoom) : Option Int := LP (c_s_DepthOf k) 0 (cd [1, 1, 0, 1, 0, 0] (bo Try.f47)) 1003 (plug (c_s_DepthOf k) fin_s_DepthOf 0 [.b 0, .s (cd [1, 1, 1] (bo Try.f47)), .fn Try.f47]) n0 ⟨⟨(mkT 42 0 [(1, one (.slc 3 (.int .i64) a1)), (2, one (.ptr 9000000 0)), (5, one (.int .i64 v1)), (6, one (.int .i64 v2))]), [(9000000, .box [.slc 36 yEvent a0.1, .slc 25 (.slice 95 yItem) a0.2.1, .slc 4 .bool a0.2.2.1])]⟩, 1000, 1, [(0, (mkT 0 0 []))]⟩
theorem t0_s_DepthOf (k n0 : Nat) (a1 : List Int) (v1 : Int) (v2 : Int) (a0 : TRoom) : V0_s_DepthOf k (n0 + 1) a1 v1 v2 a0 = b0_s_DepthOf k (V0_s_DepthOf k n0) a1 v1 v2 a0 := by kernel_rfl
theorem e0_s_DepthOf (k : Nat) : ∀ n0 : Nat, V0_s_DepthOf k n0 = l0_s_DepthOf k n0
  | 0 => by funext a1 v1 v2 a0; kernel_rfl
  | n0 + 1 => by funext a1 v1 v2 a0; rw [t0_s_DepthOf, e0_s_DepthOf k n0] <;> rfl
theorem u_s_DepthOf (k : Nat) (a0 : TRoom) (a1 : List Int) : runF (c_s_DepthOf k) 1 47 [argV yRoom1 a0, argV (.slice 3 (.int .i64)) a1] (fun v m => fin_s_DepthOf v m) ms0 = g_s_DepthOf k (V0_s_DepthOf k k) a0 a1 := by kernel_rfl
theorem r_s_DepthOf (k : Nat) (a0 : TRoom) (a1 : List Int) : runF (c_s_DepthOf k) 1 47 [argV yRoom1 a0, argV (.slice 3 (.int .i64)) a1] (fun v m => fin_s_DepthOf v m) ms0 = s_DepthOf k a0 a1 := by rw [u_s_DepthOf, e0_s_DepthOf k k] <;> rfl
noncomputable def sp_s_DepthOf (k : Nat) : Spec := .imm yRoom1 fun (a0 : TRoom) => .imm (.slice 3 (.int .i64)) fun (a1 : List Int) => .body (s_DepthOf k a0 a1) (outV [(.int .i64)] [])
noncomputable def c_l_toEventS (k : Nat) : Cfg := { eqs := [], tab := [(33, yEvent), (36, yEvent), (40, (.slice 33 yEvent)), (44, (.slice 36 yEvent))], spec := [(24, sp_l_toEvent k)], mspec := [], inl := [(29, Try.f29)], keep := [(1003, [0, 3, 4])], join := [], hold := [], ptrs := [], fuel := k }
noncomputable def fin_l_toEventS : VV → Ms → Option (List TEvent) := finV [(.slice 36 yEvent)] [true]
noncomputable def V0_l_toEventS (k n0 : Nat) (a0 : List TEvent) (v1 : Int) (xs2 : List TEvent) : Option (List TEvent) := LP (c_l_toEventS k) 0 (cd [1, 1, 0, 1, 0, 0] (bo Try.f29)) 1003 (plug (c_l_toEventS k) fin_l_toEventS 0 [.b 0, .s (cd [1, 1, 1] (bo Try.f29)), .fn Try.f29]) n0 ⟨⟨(mkT 23 0 [(0, one (.slc 33 yEvent a0)), (3, one (.row 9000000 none none)), (4, one (.int .i64 v1))]), [(9000000, .row 36 yEvent xs2 true)]⟩, 1000, 1, [(0, (mkT 0 0 []))]⟩
theorem t0_l_toEventS (k n0 : Nat) (a0 : List TEvent) (v1 : Int) (xs2 : List TEvent) : V0_l_toEventS k (n0 + 1) a0 v1 xs2 = b0_l_toEventS k (V0_l_toEventS k n0) a0 v1 xs2 := by kernel_rfl
theorem e0_l_toEventS (k : Nat) : ∀ n0 : Nat, V0_l_toEventS k n0 = l0_l_toEventS k n0
  | 0 => by funext a0 v1 xs2; kernel_rfl
  | n0 + 1 => by funext a0 v1 xs2; rw [t0_l_toEventS, e0_l_toEventS k n0] <;> rfl
theorem u_l_toEventS (k : Nat) (a0 : List TEvent) : runF (c_l_toEventS k) 1 29 [argV (.slice 33 yEvent) a0] (fun v m => fin_l_toEventS v m) ms0 = g_l_toEventS k (V0_l_toEventS k k) a0 := by kernel_rfl
theorem r_l_toEventS (k : Nat) (a0 : List TEvent) : runF (c_l_toEventS k) 1 29 [argV (.slice 33 yEvent) a0] (fun v m => fin_l_toEventS v m) ms0 = l_toEventS k a0 := by rw [u_l_toEventS, e0_l_toEventS k k] <;> rfl
noncomputable def sp_l_toEventS (k : Nat) : Spec := .imm (.slice 33 yEvent) fun (a0 : List TEvent) => .body (l_toEventS k a0) (outV [(.slice 36 yEvent)] [true])
noncomputable def c_l_toItemSS (k : Nat) : Cfg := { eqs := [], tab := [(22, (.slice 97 yItem)), (25, (.slice 95 yItem)), (63, (.slice 22 (.slice 97 yItem))), (69, (.slice 25 (.slice 95 yItem)))], spec := [(17, sp_l_toItemS k)], mspec := [], inl := [(95, Try.f95)], keep := [(1003, [0, 3, 4])], join := [], hold := [], ptrs := [], fuel := k }
noncomputable def fin_l_toItemSS : VV → Ms → Option (List (List TItem)) := finV [(.slice 25 (.slice 95 yItem))] [true]
noncomputable def V0_l_toItemSS (k n0 : Nat) (a0 : List (List TItem)) (v1 : Int) (xs2 : List (List TItem)) : Option (List (List TItem)) := LP (c_l_toItemSS k) 0 (cd [1, 1, 0, 1, 0, 0] (bo Try.f95)) 1003 (plug (c_l_toItemSS k) fin_l_toItemSS 0 [.b 0, .s (cd [1, 1, 1] (bo Try.f95)), .fn Try.f95]) n0 ⟨⟨(mkT 23 0 [(0, one (.slc 22 (.slice 97 yItem) a0)), (3, one (.row 9000000 none none)), (4, one (.int .i64 v1))]), [(9000000, .row 25 (.slice 95 yItem) xs2 true)]⟩, 1000, 1, [(0, (mkT 0 0 []))]⟩
theorem t0_l_toItemSS (k n0 : Nat) (a0 : List (List TItem)) (v1 : Int) (xs2 : List (List TItem)) : V0_l_toItemSS k (n0 + 1) a0 v1 xs2 = b0_l_toItemSS k (V0_l_toItemSS k n0) a0 v1 xs2 := by kernel_rfl
theorem e0_l_toItemSS (k : Nat) : ∀ n0 : Nat, V0_l_toItemSS k n0 = l0_l_toItemSS k n0
  | 0 => by funext a0 v1 xs2; kernel_rfl
  | n0 + 1 => by funext a0 v1 xs2; rw [t0_l_toItemSS, e0_l_toItemSS k n0] <;> rfl
theorem u_l_toItemSS (k : Nat) (a0 : List (List TItem)) : runF (c_l_toItemSS k) 1 95 [argV (.slice 22 (.slice 97 yItem)) a0] (fun v m => fin_l_toItemSS v m) ms0 = g_l_toItemSS k (V0_l_toItemSS k k) a0 := by kernel_rfl
theorem r_l_toItemSS (k : Nat) (a0 : List (List TItem)) : runF (c_l_toItemSS k) 1 95 [argV (.slice 22 (.slice 97 yItem)) a0] (fun v m => fin_l_toItemSS v m) ms0 = l_toItemSS k a0 := by rw [u_l_toItemSS, e0_l_toItemSS k k] <;> rfl
noncomputable def sp_l_toItemSS (k : Nat) : Spec := .imm (.slice 22 (.slice 97 yItem)) fun (a0 : List (List TItem)) => .body (l_toItemSS k a0) (outV [(.slice 25 (.slice 95 yItem))] [true])
noncomputable def c_l_toBoolS (k : Nat) : Cfg := { eqs := [], tab := [(4, .bool), (64, (.slice 4 .bool))], spec := [], mspec := [], inl := [(96, Try.f96)], keep := [(1003, [0, 3, 4])], join := [], hold := [], ptrs := [], fuel := k }
noncomputable def fin_l_toBoolS : VV → Ms → Option (List Bool) := finV [(.slice 4 .bool)] [true]
noncomputable def V0_l_toBoolS (k n0 : Nat) (a0 : List Bool) (v1 : Int) (xs2 : List Bool) : Option (List Bool) := LP (c_l_toBoolS k) 0 (cd [1, 1, 0, 1, 0, 0] (bo Try.f96)) 1003 (plug (c_l_toBoolS k) fin_l_toBoolS 0 [.b 0, .s (cd [1, 1, 1] (bo Try.f96)), .fn Try.f96]) n0 ⟨⟨(mkT 22 0 [(0, one (.slc 4 .bool a0)), (3, one (.row 9000000 none none)), (4, one (.int .i64 v1))]), [(9000000, .row 4 .bool xs2 true)]⟩, 1000, 1, [(0, (mkT 0 0 []))]⟩
theorem t0_l_toBoolS (k n0 : Nat) (a0 : List Bool) (v1 : Int) (xs2 : List Bool) : V0_l_toBoolS k (n0 + 1) a0 v1 xs2 = b0_l_toBoolS k (V0_l_toBoolS k n0) a0 v1 xs2 := by kernel_rfl
theorem e0_l_toBoolS (k : Nat) : ∀ n0 : Nat, V0_l_toBoolS k n0 = l0_l_toBoolS k n0
  | 0 => by funext a0 v1 xs2; kernel_rfl
  | n0 + 1 => by funext a0 v1 xs2; rw [t0_l_toBoolS, e0_l_toBoolS k n0] <;> rfl
theorem u_l_toBoolS (k : Nat) (a0 : List Bool) : runF (c_l_toBoolS k) 1 96 [argV (.slice 4 .bool) a0] (fun v m => fin_l_toBoolS v m) ms0 = g_l_toBoolS k (V0_l_toBoolS k k) a0 := by kernel_rfl
theorem r_l_toBoolS (k : Nat) (a0 : List Bool) : runF (c_l_toBoolS k) 1 96 [argV (.slice 4 .bool) a0] (fun v m => fin_l_toBoolS v m) ms0 = l_toBoolS k a0 := by rw [u_l_toBoolS, e0_l_toBoolS k k] <;> rfl
noncomputable def sp_l_toBoolS (k : Nat) : Spec := .imm (.slice 4 .bool) fun (a0 : List Bool) => .body (l_toBoolS k a0) (outV [(.slice 4 .bool)] [true])
noncomputable def c_l_toRoom (k : Nat) : Cfg := { eqs := [], tab := [(40, (.slice 33 yEvent)), (44, (.slice 36 yEvent)), (63, (.slice 22 (.slice 97 yItem))), (64, (.slice 4 .bool)), (66, yRoom), (69, (.slice 25 (.slice 95 yItem))), (71, yRoom1)], spec := [(29, sp_l_toEventS k), (95, sp_l_toItemSS k), (96, sp_l_toBoolS k)], mspec := [], inl := [(48, Try.f48)], keep := [], join := [], hold := [], ptrs := [], fuel := k }
noncomputable def fin_l_toRoom : VV → Ms → Option TRoom := finV [yRoom1] [true, true, true]
theorem r_l_toRoom (k : Nat) (a0 : TRoom) : runF (c_l_toRoom k) 1 48 [argV yRoom a0] (fun v m => fin_l_toRoom v m) ms0 = l_toRoom k a0 := by kernel_rfl
noncomputable def sp_l_toRoom (k : Nat) : Spec := .imm yRoom fun (a0 : TRoom) => .body (l_toRoom k a0) (outV [yRoom1] [true, true, true])
noncomputable def c_i_copyEvent (k : Nat) : Cfg := { eqs := [], tab := [(31, (.slice 3 (.int .i64))), (36, yEvent)], spec := [], mspec := [], inl := [(79, Try.f79)], keep := [], join := [], hold := [], ptrs := [], fuel := k }
noncomputable def fin_i_copyEvent : VV → Ms → Option TEvent := finV [yEvent] [true, true]
theorem r_i_copyEvent (k : Nat) (a0 : TEvent) : runF (c_i_copyEvent k) 1 79 [argV yEvent a0] (fun v m => fin_i_copyEvent v m) ms0 = i_copyEvent k a0 := by kernel_rfl
noncomputable def sp_i_copyEvent (k : Nat) : Spec := .imm yEvent fun (a0 : TEvent) => .body (i_copyEvent k a0) (outV [yEvent] [true, true])
noncomputable def c_i_Known (k : Nat) : Cfg := { eqs := [], tab := [(3, (.int .i64)), (36, yEvent), (44, (.slice 36 yEvent))], spec := [(79, sp_i_copyEvent k)], mspec := [], inl := [(30, Try.f30)], keep := [(1002, [1, 4, 8, 9, 10])], join := [], hold := [], ptrs := [], fuel := k }
noncomputable def fin_i_Known : VV → Ms → Option (TEvent × Bool) := finV [yEvent, .bool] [true, true]
noncomputable def V0_i_Known (k n0 : Nat) (a1 : Int) (a0 : List TEvent) (v1 : Int) : Option (TEvent × Bool) := LP (c_i_Known k) 0 (cd [1, 0, 1, 0, 0] (bo Try.f30)) 1002 (plug (c_i_Known k) fin_i_Known 0 [.b 0, .s (cd [1, 1] (bo Try.f30)), .fn Try.f30]) n0 ⟨⟨(mkT 22 0 [(1, one (.int .i64 a1)), (4, one (.ptr 9000000 0)), (8, one (.slc 36 yEvent a0)), (9, one (.int .i64 (a0.length : Int))), (10, one (.int .i64 v1))]), [(9000000, .box [.int .i64 0, .int .i64 0, .int .i64 0, .int .i64 0, .int .i64 0, .nilS, .str ByteArray.empty, .nilS, .int .i64 0])]⟩, 1000, 1, [(0, (mkT 0 0 []))]⟩
theorem t0_i_Known (k n0 : Nat) (a1 : Int) (a0 : List TEvent) (v1 : Int) : V0_i_Known k (n0 + 1) a1 a0 v1 = b0_i_Known k (V0_i_Known k n0) a1 a0 v1 := by kernel_rfl
theorem e0_i_Known (k : Nat) : ∀ n0 : Nat, V0_i_Known k n0 = l0_i_Known k n0
  | 0 => by funext a1 a0 v1; kernel_rfl
  | n0 + 1 => by funext a1 a0 v1; rw [t0_i_Known, e0_i_Known k n0] <;> rfl
theorem u_i_Known (k : Nat) (a0 : List TEvent) (a1 : Int) : runF (c_i_Known k) 1 30 [argV (.slice 36 yEvent) a0, argV (.int .i64) a1] (fun v m => fin_i_Known v m) ms0 = g_i_Known k (V0_i_Known k k) a0 a1 := by kernel_rfl
theorem r_i_Known (k : Nat) (a0 : List TEvent) (a1 : Int) : runF (c_i_Known k) 1 30 [argV (.slice 36 yEvent) a0, argV (.int .i64) a1] (fun v m => fin_i_Known v m) ms0 = i_Known k a0 a1 := by rw [u_i_Known, e0_i_Known k k] <;> rfl
noncomputable def sp_i_Known (k : Nat) : Spec := .imm (.slice 36 yEvent) fun (a0 : List TEvent) => .imm (.int .i64) fun (a1 : Int) => .body (i_Known k a0 a1) (outV [yEvent, .bool] [true, true])
noncomputable def c_i_DepthOf (k : Nat) : Cfg := { eqs := [], tab := [(3, (.int .i64)), (31, (.slice 3 (.int .i64))), (36, yEvent), (44, (.slice 36 yEvent)), (71, yRoom1)], spec := [(30, sp_i_Known k)], mspec := [], inl := [(50, Try.f50)], keep := [(1003, [2, 5, 10, 11, 12])], join := [], hold := [], ptrs := [], fuel := k }
noncomputable def fin_i_DepthOf : VV → Ms → Option Int := finV [(.int .i64)] []
noncomputable def V0_i_DepthOf (k n0 : Nat) (v1 : Int) (a1 : List Int) (v2 : Int) (a0 : TRoom) : Option Int := LP (c_i_DepthOf k) 0 (cd [1, 1, 0, 1, 0, 0] (bo Try.f50)) 1003 (plug (c_i_DepthOf k) fin_i_DepthOf 0 [.b 0, .s (cd [1, 1, 1] (bo Try.f50)), .fn Try.f50]) n0 ⟨⟨(mkT 32 0 [(2, one (.ptr 9000000 0)), (5, one (.int .i64 v1)), (10, one (.slc 3 (.int .i64) a1)), (11, one (.int .i64 (a1.length : Int))), (12, one (.int .i64 v2))]), [(9000000, .box [.slc 36 yEvent a0.1, .slc 25 (.slice 95 yItem) a0.2.1, .slc 4 .bool a0.2.2.1])]⟩, 1000, 1, [(0, (mkT 0 0 []))]⟩
theorem t0_i_DepthOf (k n0 : Nat) (v1 : Int) (a1 : List Int) (v2 : Int) (a0 : TRoom) : V0_i_DepthOf k (n0 + 1) v1 a1 v2 a0 = b0_i_DepthOf k (V0_i_DepthOf k n0) v1 a1 v2 a0 := by kernel_rfl
theorem e0_i_DepthOf (k : Nat) : ∀ n0 : Nat, V0_i_DepthOf k n0 = l0_i_DepthOf k n0
  | 0 => by funext v1 a1 v2 a0; kernel_rfl
  | n0 + 1 => by funext v1 a1 v2 a0; rw [t0_i_DepthOf, e0_i_DepthOf k n0] <;> rfl
theorem u_i_DepthOf (k : Nat) (a0 : TRoom) (a1 : List Int) : runF (c_i_DepthOf k) 1 50 [argV yRoom1 a0, argV (.slice 3 (.int .i64)) a1] (fun v m => fin_i_DepthOf v m) ms0 = g_i_DepthOf k (V0_i_DepthOf k k) a0 a1 := by kernel_rfl
theorem r_i_DepthOf (k : Nat) (a0 : TRoom) (a1 : List Int) : runF (c_i_DepthOf k) 1 50 [argV yRoom1 a0, argV (.slice 3 (.int .i64)) a1] (fun v m => fin_i_DepthOf v m) ms0 = i_DepthOf k a0 a1 := by rw [u_i_DepthOf, e0_i_DepthOf k k] <;> rfl
noncomputable def sp_i_DepthOf (k : Nat) : Spec := .imm yRoom1 fun (a0 : TRoom) => .imm (.slice 3 (.int .i64)) fun (a1 : List Int) => .body (i_DepthOf k a0 a1) (outV [(.int .i64)] [])
noncomputable def c_l_eqEventS (k : Nat) : Cfg := { eqs := [], tab := [(36, yEvent), (44, (.slice 36 yEvent))], spec := [(26, sp_l_eqEvent k)], mspec := [], inl := [(31, Try.f31)], keep := [(1004, [0, 1, 5])], join := [], hold := [], ptrs := [], fuel := k }
noncomputable def fin_l_eqEventS : VV → Ms → Option Bool := finV [.bool] []
noncomputable def V0_l_eqEventS (k n0 : Nat) (a0 : List TEvent) (a1 : List TEvent) (v1 : Int) : Option Bool := LP (c_l_eqEventS k) 0 (cd [1, 1, 0, 1, 0, 0] (bo Try.f31)) 1004 (plug (c_l_eqEventS k) fin_l_eqEventS 0 [.b 0, .s (cd [1, 1, 1] (bo Try.f31)), .fn Try.f31]) n0 ⟨⟨(mkT 27 0 [(0, one (.slc 36 yEvent a0)), (1, one (.slc 36 yEvent a1)), (5, one (.int .i64 v1))]), []⟩, 1000, 1, [(0, (mkT 0 0 []))]⟩
theorem t0_l_eqEventS (k n0 : Nat) (a0 : List TEvent) (a1 : List TEvent) (v1 : Int) : V0_l_eqEventS k (n0 + 1) a0 a1 v1 = b0_l_eqEventS k (V0_l_eqEventS k n0) a0 a1 v1 := by kernel_rfl
theorem e0_l_eqEventS (k : Nat) : ∀ n0 : Nat, V0_l_eqEventS k n0 = l0_l_eqEventS k n0
  | 0 => by funext a0 a1 v1; kernel_rfl
  | n0 + 1 => by funext a0 a1 v1; rw [t0_l_eqEventS, e0_l_eqEventS k n0] <;> rfl
theorem u_l_eqEventS (k : Nat) (a0 : List TEvent) (a1 : List TEvent) : runF (c_l_eqEventS k) 1 31 [argV (.slice 36 yEvent) a0, argV (.slice 36 yEvent) a1] (fun v m => fin_l_eqEventS v m) ms0 = g_l_eqEventS k (V0_l_eqEventS k k) a0 a1 := by kernel_rfl
theorem r_l_eqEventS (k : Nat) (a0 : List TEvent) (a1 : List TEvent) : runF (c_l_eqEventS k) 1 31 [argV (.slice 36 yEvent) a0, argV (.slice 36 yEvent) a1] (fun v m => fin_l_eqEventS v m) ms0 = l_eqEventS k a0 a1 := by rw [u_l_eqEventS, e0_l_eqEventS k k] <;> rfl
noncomputable def sp_l_eqEventS (k : Nat) : Spec := .imm (.slice 36 yEvent) fun (a0 : List TEvent) => .imm (.slice 36 yEvent) fun (a1 : List TEvent) => .body (l_eqEventS k a0 a1) (outV [.bool] [])
noncomputable def c_l_eqItemSS (k : Nat) : Cfg := { eqs := [], tab := [(25, (.slice 95 yItem)), (69, (.slice 25 (.slice 95 yItem)))], spec := [(19, sp_l_eqItemS k)], mspec := [], inl := [(97, Try.f97)], keep := [(1004, [0, 1, 5])], join := [], hold := [], ptrs := [], fuel := k }
noncomputable def fin_l_eqItemSS : VV → Ms → Option Bool := finV [.bool] []
noncomputable def V0_l_eqItemSS (k n0 : Nat) (a0 : List (List TItem)) (a1 : List (List TItem)) (v1 : Int) : Option Bool := LP (c_l_eqItemSS k) 0 (cd [1, 1, 0, 1, 0, 0] (bo Try.f97)) 1004 (plug (c_l_eqItemSS k) fin_l_eqItemSS 0 [.b 0, .s (cd [1, 1, 1] (bo Try.f97)), .fn Try.f97]) n0 ⟨⟨(mkT 27 0 [(0, one (.slc 25 (.slice 95 yItem) a0)), (1, one (.slc 25 (.slice 95 yItem) a1)), (5, one (.int .i64 v1))]), []⟩, 1000, 1, [(0, (mkT 0 0 []))]⟩
theorem t0_l_eqItemSS (k n0 : Nat) (a0 : List (List TItem)) (a1 : List (List TItem)) (v1 : Int) : V0_l_eqItemSS k (n0 + 1) a0 a1 v1 = b0_l_eqItemSS k (V0_l_eqItemSS k n0) a0 a1 v1 := by kernel_rfl
theorem e0_l_eqItemSS (k : Nat) : ∀ n0 : Nat, V0_l_eqItemSS k n0 = l0_l_eqItemSS k n0
  | 0 => by funext a0 a1 v1; kernel_rfl
  | n0 + 1 => by funext a0 a1 v1; rw [t0_l_eqItemSS, e0_l_eqItemSS k n0] <;> rfl
theorem u_l_eqItemSS (k : Nat) (a0 : List (List TItem)) (a1 : List (List TItem)) : runF (c_l_eqItemSS k) 1 97 [argV (.slice 25 (.slice 95 yItem)) a0, argV (.slice 25 (.slice 95 yItem)) a1] (fun v m => fin_l_eqItemSS v m) ms0 = g_l_eqItemSS k (V0_l_eqItemSS k k) a0 a1 := by kernel_rfl
theorem r_l_eqItemSS (k : Nat) (a0 : List (List TItem)) (a1 : List (List TItem)) : runF (c_l_eqItemSS k) 1 97 [argV (.slice 25 (.slice 95 yItem)) a0, argV (.slice 25 (.slice 95 yItem)) a1] (fun v m => fin_l_eqItemSS v m) ms0 = l_eqItemSS k a0 a1 := by rw [u_l_eqItemSS, e0_l_eqItemSS k k] <;> rfl
noncomputable def sp_l_eqItemSS (k : Nat) : Spec := .imm (.slice 25 (.slice 95 yItem)) fun (a0 : List (List TItem)) => .imm (.slice 25 (.slice 95 yItem)) fun (a1 : List (List TItem)) => .body (l_eqItemSS k a0 a1) (outV [.bool] [])
noncomputable def c_l_eqBoolS (k : Nat) : Cfg := { eqs := [], tab := [(4, .bool), (64, (.slice 4 .bool))], spec := [], mspec := [], inl := [(98, Try.f98)], keep := [(1004, [0, 1, 5])], join := [], hold := [], ptrs := [], fuel := k }
noncomputable def fin_l_eqBoolS : VV → Ms → Option Bool := finV [.bool] []
noncomputable def V0_l_eqBoolS (k n0 : Nat) (a0 : List Bool) (a1 : List Bool) (v1 : Int) : Option Bool := LP (c_l_eqBoolS k) 0 (cd [1, 1, 0, 1, 0, 0] (bo Try.f98)) 1004 (plug (c_l_eqBoolS k) fin_l_eqBoolS 0 [.b 0, .s (cd [1, 1, 1] (bo Try.f98)), .fn Try.f98]) n0 ⟨⟨(mkT 26 0 [(0, one (.slc 4 .bool a0)), (1, one (.slc 4 .bool a1)), (5, one (.int .i64 v1))]), []⟩, 1000, 1, [(0, (mkT 0 0 []))]⟩
theorem t0_l_eqBoolS (k n0 : Nat) (a0 : List Bool) (a1 : List Bool) (v1 : Int) : V0_l_eqBoolS k (n0 + 1) a0 a1 v1 = b0_l_eqBoolS k (V0_l_eqBoolS k n0) a0 a1 v1 := by kernel_rfl
theorem e0_l_eqBoolS (k : Nat) : ∀ n0 : Nat, V0_l_eqBoolS k n0 = l0_l_eqBoolS k n0
  | 0 => by funext a0 a1 v1; kernel_rfl
  | n0 + 1 => by funext a0 a1 v1; rw [t0_l_eqBoolS, e0_l_eqBoolS k n0] <;> rfl
theorem u_l_eqBoolS (k : Nat) (a0 : List Bool) (a1 : List Bool) : runF (c_l_eqBoolS k) 1 98 [argV (.slice 4 .bool) a0, argV (.slice 4 .bool) a1] (fun v m => fin_l_eqBoolS v m) ms0 = g_l_eqBoolS k (V0_l_eqBoolS k k) a0 a1 := by kernel_rfl
theorem r_l_eqBoolS (k : Nat) (a0 : List Bool) (a1 : List Bool) : runF (c_l_eqBoolS k) 1 98 [argV (.slice 4 .bool) a0, argV (.slice 4 .bool) a1] (fun v m => fin_l_eqBoolS v m) ms0 = l_eqBoolS k a0 a1 := by rw [u_l_eqBoolS, e0_l_eqBoolS k k] <;> rfl
noncomputable def sp_l_eqBoolS (k : Nat) : Spec := .imm (.slice 4 .bool) fun (a0 : List Bool) => .imm (.slice 4 .bool) fun (a1 : List Bool) => .body (l_eqBoolS k a0 a1) (outV [.bool] [])
noncomputable def c_l_eqRoom (k : Nat) : Cfg := { eqs := [], tab := [(44, (.slice 36 yEvent)), (64, (.slice 4 .bool)), (69, (.slice 25 (.slice 95 yItem))), (71, yRoom1)], spec := [(31, sp_l_eqEventS k), (97, sp_l_eqItemSS k), (98, sp_l_eqBoolS k)], mspec := [], inl := [(51, Try.f51)], keep := [], join := [], hold := [], ptrs := [], fuel := k }
noncomputable def fin_l_eqRoom : VV → Ms → Option Bool := finV [.bool] []
theorem r_l_eqRoom (k : Nat) (a0 : TRoom) (a1 : TRoom) : runF (c_l_eqRoom k) 1 51 [argV yRoom1 a0, argV yRoom1 a1] (fun v m => fin_l_eqRoom v m) ms0 = l_eqRoom k a0 a1 := by kernel_rfl
noncomputable def sp_l_eqRoom (k : Nat) : Spec := .imm yRoom1 fun (a0 : TRoom) => .imm yRoom1 fun (a1 : TRoom) => .body (l_eqRoom k a0 a1) (outV [.bool] [])
noncomputable def c_l_FnExactDepthOf (k : Nat) : Cfg := { eqs := [], tab := [(31, (.slice 3 (.int .i64))), (66, yRoom), (71, yRoom1)], spec := [(46, sp_l_szRoom k), (47, sp_s_DepthOf k), (48, sp_l_toRoom k), (49, sp_l_toIntS k), (50, sp_i_DepthOf k), (51, sp_l_eqRoom k), (52, sp_l_eqIntS k)], mspec := [], inl := [(10, Try.f10)], keep := [], join := [], hold := [], ptrs := [], fuel := k }
noncomputable def fin_l_FnExactDepthOf : VV → Ms → Option Bool := finV [.bool] []
theorem r_l_FnExactDepthOf (k : Nat) (a0 : TRoom) (a1 : List Int) : runF (c_l_FnExactDepthOf k) 1 10 [argV yRoom a0, argV (.slice 3 (.int .i64)) a1] (fun v m => fin_l_FnExactDepthOf v m) ms0 = l_FnExactDepthOf k a0 a1 := by kernel_rfl
noncomputable def sp_l_FnExactDepthOf (k : Nat) : Spec := .imm yRoom fun (a0 : TRoom) => .imm (.slice 3 (.int .i64)) fun (a1 : List Int) => .body (l_FnExactDepthOf k a0 a1) (outV [.bool] [])
noncomputable def c_l_heldIntS (k : Nat) : Cfg := { eqs := [], tab := [(3, (.int .i64)), (31, (.slice 3 (.int .i64)))], spec := [], mspec := [], inl := [(82, Try.f82)], keep := [(1002, [0, 1, 5])], join := [], hold := [], ptrs := [], fuel := k }
noncomputable def fin_l_heldIntS : VV → Ms → Option Int := finV [(.int .i64)] []
noncomputable def V0_l_heldIntS (k n0 : Nat) (a0 : List Int) (a1 : Int) (v1 : Int) : Option Int := LP (c_l_heldIntS k) 0 (cd [1, 0, 1, 0, 0] (bo Try.f82)) 1002 (plug (c_l_heldIntS k) fin_l_heldIntS 0 [.b 0, .s (cd [1, 1] (bo Try.f82)), .fn Try.f82]) n0 ⟨⟨(mkT 21 0 [(0, one (.slc 3 (.int .i64) a0)), (1, one (.int .i64 a1)), (5, one (.int .i64 v1))]), []⟩, 1000, 1, [(0, (mkT 0 0 []))]⟩
theorem t0_l_heldIntS (k n0 : Nat) (a0 : List Int) (a1 : Int) (v1 : Int) : V0_l_heldIntS k (n0 + 1) a0 a1 v1 = b0_l_heldIntS k (V0_l_heldIntS k n0) a0 a1 v1 := by kernel_rfl
theorem e0_l_heldIntS (k : Nat) : ∀ n0 : Nat, V0_l_heldIntS k n0 = l0_l_heldIntS k n0
  | 0 => by funext a0 a1 v1; kernel_rfl
  | n0 + 1 => by funext a0 a1 v1; rw [t0_l_heldIntS, e0_l_heldIntS k n0] <;> rfl
theorem u_l_heldIntS (k : Nat) (a0 : List Int) (a1 : Int) : runF (c_l_heldIntS k) 1 82 [argV (.slice 3 (.int .i64)) a0, argV (.int .i64) a1] (fun v m => fin_l_heldIntS v m) ms0 = g_l_heldIntS k (V0_l_heldIntS k k) a0 a1 := by kernel_rfl
theorem r_l_heldIntS (k : Nat) (a0 : List Int) (a1 : Int) : runF (c_l_heldIntS k) 1 82 [argV (.slice 3 (.int .i64)) a0, argV (.int .i64) a1] (fun v m => fin_l_heldIntS v m) ms0 = l_heldIntS k a0 a1 := by rw [u_l_heldIntS, e0_l_heldIntS k k] <;> rfl
noncomputable def sp_l_heldIntS (k : Nat) : Spec := .imm (.slice 3 (.int .i64)) fun (a0 : List Int) => .imm (.int .i64) fun (a1 : Int) => .body (l_heldIntS k a0 a1) (outV [(.int .i64)] [])
noncomputable def c_l_heldEvent (k : Nat) : Cfg := { eqs := [], tab := [(31, (.slice 3 (.int .i64))), (36, yEvent)], spec := [(82, sp_l_heldIntS k)], mspec := [], inl := [(34, Try.f34)], keep := [], join := [], hold := [], ptrs := [], fuel := k }
noncomputable def fin_l_heldEvent : VV → Ms → Option Int := finV [(.int .i64)] []
theorem r_l_heldEvent (k : Nat) (a0 : TEvent) (a1 : Int) : runF (c_l_heldEvent k) 1 34 [argV yEvent a0, argV (.int .i64) a1] (fun v m => fin_l_heldEvent v m) ms0 = l_heldEvent k a0 a1 := by kernel_rfl
noncomputable def sp_l_heldEvent (k : Nat) : Spec := .imm yEvent fun (a0 : TEvent) => .imm (.int .i64) fun (a1 : Int) => .body (l_heldEvent k a0 a1) (outV [(.int .i64)] [])
noncomputable def c_s_ReadVar (k : Nat) : Cfg := { eqs := [], tab := [(3, (.int .i64)), (5, (.int .u8)), (9, .str)], spec := [(71, sp_s_l01In k), (84, sp_s_l01Var k)], mspec := [], inl := [(125, Try.f125)], keep := [(1006, [0, 1, 7, 8, 9])], join := [], hold := [], ptrs := [], fuel := k }
noncomputable def fin_s_ReadVar : VV → Ms → Option (Int × Int × Bool) := finV [(.int .i64), (.int .i64), .bool] []
noncomputable def V0_s_ReadVar (k n0 : Nat) (a0 : ByteArray) (a1 : Int) (v1 : Int) (v2 : Int) (v3 : Int) : Option (Int × Int × Bool) := LP (c_s_ReadVar k) 0 (cd [1, 1, 1, 1, 0, 1, 0, 0] (bo Try.f125)) 1006 (plug (c_s_ReadVar k) fin_s_ReadVar 0 [.b 0, .s (cd [1, 1, 1, 1, 1] (bo Try.f125)), .fn Try.f125]) n0 ⟨⟨(mkT 58 0 [(0, one (.str a0)), (1, one (.int .i64 a1)), (7, one (.int .i64 v1)), (8, one (.int .i64 v2)), (9, one (.int .i64 v3))]), []⟩, 1000, 1, [(0, (mkT 0 0 []))]⟩
theorem t0_s_ReadVar (k n0 : Nat) (a0 : ByteArray) (a1 : Int) (v1 : Int) (v2 : Int) (v3 : Int) : V0_s_ReadVar k (n0 + 1) a0 a1 v1 v2 v3 = b0_s_ReadVar k (V0_s_ReadVar k n0) a0 a1 v1 v2 v3 := by kernel_rfl
theorem e0_s_ReadVar (k : Nat) : ∀ n0 : Nat, V0_s_ReadVar k n0 = l0_s_ReadVar k n0
  | 0 => by funext a0 a1 v1 v2 v3; kernel_rfl
  | n0 + 1 => by funext a0 a1 v1 v2 v3; rw [t0_s_ReadVar, e0_s_ReadVar k n0] <;> rfl
theorem u_s_ReadVar (k : Nat) (a0 : ByteArray) (a1 : Int) : runF (c_s_ReadVar k) 1 125 [argV .str a0, argV (.int .i64) a1] (fun v m => fin_s_ReadVar v m) ms0 = g_s_ReadVar k (V0_s_ReadVar k k) a0 a1 := by kernel_rfl
theorem r_s_ReadVar (k : Nat) (a0 : ByteArray) (a1 : Int) : runF (c_s_ReadVar k) 1 125 [argV .str a0, argV (.int .i64) a1] (fun v m => fin_s_ReadVar v m) ms0 = s_ReadVar k a0 a1 := by rw [u_s_ReadVar, e0_s_ReadVar k k] <;> rfl
noncomputable def sp_s_ReadVar (k : Nat) : Spec := .imm .str fun (a0 : ByteArray) => .imm (.int .i64) fun (a1 : Int) => .body (s_ReadVar k a0 a1) (outV [(.int .i64), (.int .i64), .bool] [])
noncomputable def c_s_l05Var (k : Nat) : Cfg := { eqs := [], tab := [(3, (.int .i64)), (4, .bool), (9, .str), (116, yL05Cur)], spec := [(125, sp_s_ReadVar k)], mspec := [], inl := [(99, Try.f99)], keep := [], join := [], hold := [], ptrs := [], fuel := k }
noncomputable def fin_s_l05Var : VV → Ms → Option (Int × TL05Cur × Unit) := finM [(.int .i64)] [] [.box yL05Cur]
theorem r_s_l05Var (k : Nat) (a0 : TL05Cur) : runF (c_s_l05Var k) 1 99 (pArgsV 1 [.box yL05Cur] (a0, ())) (fun v m => fin_s_l05Var v m) (ms1 [.box yL05Cur] (a0, ())) = s_l05Var k a0 := by kernel_rfl
noncomputable def sp_s_l05Var (k : Nat) : MSpec := .box yL05Cur fun (a0 : TL05Cur) => .body (s_l05Var k a0) (fun r => outV [(.int .i64)] [] r.1) (fun r => poV [.box yL05Cur] r.2)
noncomputable def c_s_l05Take (k : Nat) : Cfg := { eqs := [], tab := [(3, (.int .i64)), (4, .bool), (9, .str), (116, yL05Cur)], spec := [], mspec := [], inl := [(139, Try.f139)], keep := [], join := [], hold := [], ptrs := [], fuel := k }
noncomputable def fin_s_l05Take : VV → Ms → Option (ByteArray × TL05Cur × Unit) := finM [.str] [] [.box yL05Cur, .imm (.int .i64)]
theorem r_s_l05Take (k : Nat) (a0 : TL05Cur) (a1 : Int) : runF (c_s_l05Take k) 1 139 (pArgsV 1 [.box yL05Cur, .imm (.int .i64)] (a0, a1, ())) (fun v m => fin_s_l05Take v m) (ms1 [.box yL05Cur, .imm (.int .i64)] (a0, a1, ())) = s_l05Take k a0 a1 := by kernel_rfl
noncomputable def sp_s_l05Take (k : Nat) : MSpec := .box yL05Cur fun (a0 : TL05Cur) => .imm (.int .i64) fun (a1 : Int) => .body (s_l05Take k a0 a1) (fun r => outV [.str] [] r.1) (fun r => poV [.box yL05Cur, .imm (.int .i64)] r.2)
noncomputable def c_s_l09One (k : Nat) : Cfg := { eqs := [], tab := [(3, (.int .i64)), (4, .bool), (5, (.int .u8)), (9, .str), (116, yL05Cur)], spec := [], mspec := [(139, sp_s_l05Take k)], inl := [(126, Try.f126)], keep := [], join := [], hold := [], ptrs := [], fuel := k }
noncomputable def fin_s_l09One : VV → Ms → Option (Int × TL05Cur × Unit) := finM [(.int .i64)] [] [.box yL05Cur]
theorem r_s_l09One (k : Nat) (a0 : TL05Cur) : runF (c_s_l09One k) 1 126 (pArgsV 1 [.box yL05Cur] (a0, ())) (fun v m => fin_s_l09One v m) (ms1 [.box yL05Cur] (a0, ())) = s_l09One k a0 := by kernel_rfl
noncomputable def sp_s_l09One (k : Nat) : MSpec := .box yL05Cur fun (a0 : TL05Cur) => .body (s_l09One k a0) (fun r => outV [(.int .i64)] [] r.1) (fun r => poV [.box yL05Cur] r.2)
noncomputable def c_s_l05ReadShort (k : Nat) : Cfg := { eqs := [], tab := [], spec := [], mspec := [(99, sp_s_l05Var k), (139, sp_s_l05Take k)], inl := [(127, Try.f127)], keep := [], join := [], hold := [], ptrs := [], fuel := k }
noncomputable def fin_s_l05ReadShort : VV → Ms → Option (ByteArray × TL05Cur × Unit) := finM [.str] [] [.box yL05Cur]
theorem r_s_l05ReadShort (k : Nat) (a0 : TL05Cur) : runF (c_s_l05ReadShort k) 1 127 (pArgsV 1 [.box yL05Cur] (a0, ())) (fun v m => fin_s_l05ReadShort v m) (ms1 [.box yL05Cur] (a0, ())) = s_l05ReadShort k a0 := by kernel_rfl
noncomputable def sp_s_l05ReadShort (k : Nat) : MSpec := .box yL05Cur fun (a0 : TL05Cur) => .body (s_l05ReadShort k a0) (fun r => outV [.str] [] r.1) (fun r => poV [.box yL05Cur] r.2)
noncomputable def c_s_ReadEvent (k : Nat) : Cfg := { eqs := [], tab := [(3, (.int .i64)), (4, .bool), (9, .str), (31, (.slice 3 (.int .i64))), (36, yEvent), (116, yL05Cur)], spec := [(39, sp_s_EventText k)], mspec := [(99, sp_s_l05Var k), (126, sp_s_l09One k), (127, sp_s_l05ReadShort k)], inl := [(53, Try.f53), (100, Try.f100)], keep := [(1006, [0, 2, 4, 5, 6, 7]), (2006, [0, 1, 4, 5])], join := [], hold := [], ptrs := [], fuel := k }
noncomputable def fin_s_ReadEvent : VV → Ms → Option (TEvent × Bool) := finV [yEvent, .bool] [true, true]
noncomputable def V3_s_ReadEvent (k n0 : Nat) (a0 : ByteArray) (v6 : Int) (v11 : Int) (v12 : ByteArray) (v13 : Int) (v14 : Bool) (r1 : Int × TL05Cur × Unit) (r2 : Int × TL05Cur × Unit) (r3 : Int × TL05Cur × Unit) (r4 : Int × TL05Cur × Unit) (r5 : Int × TL05Cur × Unit) (v10 : ByteArray) (xs5 : List Int) (xs15 : List Int) : Option (TEvent × Bool) := LP (c_s_ReadEvent k) 1 (cd [1, 1, 1, 1, 1, 0, 1, 0, 0] (bo Try.f53)) 1006 (plug (c_s_ReadEvent k) fin_s_ReadEvent 1 [.b 0, .s (cd [1, 1, 1, 1, 1, 1] (bo Try.f53)), .fn Try.f53]) n0 ⟨⟨(mkT 66 0 [(0, one (.str a0)), (2, one (.ptr 9000000 0)), (4, one (.ptr 9000001 0)), (5, one (.ptr 9000002 0)), (6, one (.int .i64 v6)), (7, one (.int .i64 v11))]), [(9000000, .box [.int .i64 0, .int .i64 0, .int .i64 0, .int .i64 0, .int .i64 0, .nilS, .str ByteArray.empty, .nilS, .int .i64 0]), (9000001, .box [.str v12, .int .i64 v13, .bool v14]), (9000002, .box [.int .i64 r1.1, .int .i64 r2.1, .int .i64 r3.1, .int .i64 r4.1, .int .i64 r5.1, .row 9000003 none none, .str v10, .row 9000004 none none, .int .i64 0]), (9000003, .row 3 (.int .i64) xs5 true), (9000004, .row 3 (.int .i64) xs15 true)]⟩, 1000, 1, [(0, (mkT 0 0 []))]⟩
theorem t3_s_ReadEvent (k n0 : Nat) (a0 : ByteArray) (v6 : Int) (v11 : Int) (v12 : ByteArray) (v13 : Int) (v14 : Bool) (r1 : Int × TL05Cur × Unit) (r2 : Int × TL05Cur × Unit) (r3 : Int × TL05Cur × Unit) (r4 : Int × TL05Cur × Unit) (r5 : Int × TL05Cur × Unit) (v10 : ByteArray) (xs5 : List Int) (xs15 : List Int) : V3_s_ReadEvent k (n0 + 1) a0 v6 v11 v12 v13 v14 r1 r2 r3 r4 r5 v10 xs5 xs15 = b3_s_ReadEvent k (V3_s_ReadEvent k n0) a0 v6 v11 v12 v13 v14 r1 r2 r3 r4 r5 v10 xs5 xs15 := by kernel_rfl
noncomputable def V2_s_ReadEvent (k n0 : Nat) (a0 : ByteArray) (v6 : Int) (v7 : ByteArray) (v8 : Int) (v9 : Bool) (r1 : Int × TL05Cur × Unit) (r2 : Int × TL05Cur × Unit) (r3 : Int × TL05Cur × Unit) (r4 : Int × TL05Cur × Unit) (r5 : Int × TL05Cur × Unit) (v10 : ByteArray) (xs5 : List Int) : Option (TEvent × Bool) := LP (c_s_ReadEvent k) 1 (cd [1, 1, 1, 1, 1, 0, 1, 0, 0] (bo Try.f53)) 1006 (plug (c_s_ReadEvent k) fin_s_ReadEvent 1 [.b 0, .s (cd [1, 1, 1, 1, 1, 1] (bo Try.f53)), .fn Try.f53]) n0 ⟨⟨(mkT 66 0 [(0, one (.str a0)), (2, one (.ptr 9000000 0)), (4, one (.ptr 9000001 0)), (5, one (.ptr 9000002 0)), (6, one (.int .i64 v6)), (7, one (.int .i64 0))]), [(9000000, .box [.int .i64 0, .int .i64 0, .int .i64 0, .int .i64 0, .int .i64 0, .nilS, .str ByteArray.empty, .nilS, .int .i64 0]), (9000001, .box [.str v7, .int .i64 v8, .bool v9]), (9000002, .box [.int .i64 r1.1, .int .i64 r2.1, .int .i64 r3.1, .int .i64 r4.1, .int .i64 r5.1, .row 9000003 none none, .str v10, .nilS, .int .i64 0]), (9000003, .row 3 (.int .i64) xs5 true)]⟩, 1000, 1, [(0, (mkT 0 0 []))]⟩
theorem t2_s_ReadEvent (k n0 : Nat) (a0 : ByteArray) (v6 : Int) (v7 : ByteArray) (v8 : Int) (v9 : Bool) (r1 : Int × TL05Cur × Unit) (r2 : Int × TL05Cur × Unit) (r3 : Int × TL05Cur × Unit) (r4 : Int × TL05Cur × Unit) (r5 : Int × TL05Cur × Unit) (v10 : ByteArray) (xs5 : List Int) : V2_s_ReadEvent k (n0 + 1) a0 v6 v7 v8 v9 r1 r2 r3 r4 r5 v10 xs5 = b2_s_ReadEvent k (V3_s_ReadEvent k n0) a0 v6 v7 v8 v9 r1 r2 r3 r4 r5 v10 xs5 := by kernel_rfl
noncomputable def V1_s_ReadEvent (k n0 : Nat) (r6 : Int × TL05Cur × Unit) (v1 : Int) (v2 : ByteArray) (v3 : Int) (v4 : Bool) (r1 : Int × TL05Cur × Unit) (r2 : Int × TL05Cur × Unit) (r3 : Int × TL05Cur × Unit) (r4 : Int × TL05Cur × Unit) (r5 : Int × TL05Cur × Unit) (xs5 : List Int) (a0 : ByteArray) : Option (TEvent × Bool) := LP (c_s_ReadEvent k) 0 (cd [1, 1, 1, 1, 1, 0, 1, 0, 0] (bo Try.f100)) 2006 (plug (c_s_ReadEvent k) fin_s_ReadEvent 0 [.b 0, .s (cd [1, 1, 1, 1, 1, 1] (bo Try.f100)), .fn Try.f100, .op (rg (cd [1, 1, 1, 0] (bo Try.f53))) 1 (some 17), .s (cd [1, 1, 1, 1] (bo Try.f53)), .fn Try.f53]) n0 ⟨⟨(mkT 60 0 [(0, one (.ptr 9000000 0)), (1, one (.ptr 9000001 0)), (4, one (.int .i64 r6.1)), (5, one (.int .i64 v1))]), [(9000000, .box [.str v2, .int .i64 v3, .bool v4]), (9000001, .box [.int .i64 r1.1, .int .i64 r2.1, .int .i64 r3.1, .int .i64 r4.1, .int .i64 r5.1, .row 9000003 none none, .str ByteArray.empty, .nilS, .int .i64 0]), (9000002, .box [.int .i64 0, .int .i64 0, .int .i64 0, .int .i64 0, .int .i64 0, .nilS, .str ByteArray.empty, .nilS, .int .i64 0]), (9000003, .row 3 (.int .i64) xs5 true)]⟩, 2000, 2, [(1000, (mkT 66 0 [(0, one (.str a0)), (2, one (.ptr 9000002 0)), (3, one (.bool false)), (4, one (.ptr 9000000 0)), (5, one (.ptr 9000001 0)), (10, one (.str a0)), (11, .v ⟨true, [.str a0, .int .i64 0, .bool false]⟩), (12, one (.ptr 9000000 0)), (13, one (.ptr 9000000 0)), (14, one (.int .i64 r1.1)), (15, .v ⟨true, [.int .i64 r1.1, .int .i64 0, .int .i64 0, .int .i64 0, .int .i64 0, .nilS, .str ByteArray.empty, .nilS, .int .i64 0]⟩), (16, one (.ptr 9000000 0))])), (0, (mkT 0 0 []))]⟩
theorem t1_s_ReadEvent (k n0 : Nat) (r6 : Int × TL05Cur × Unit) (v1 : Int) (v2 : ByteArray) (v3 : Int) (v4 : Bool) (r1 : Int × TL05Cur × Unit) (r2 : Int × TL05Cur × Unit) (r3 : Int × TL05Cur × Unit) (r4 : Int × TL05Cur × Unit) (r5 : Int × TL05Cur × Unit) (xs5 : List Int) (a0 : ByteArray) : V1_s_ReadEvent k (n0 + 1) r6 v1 v2 v3 v4 r1 r2 r3 r4 r5 xs5 a0 = b1_s_ReadEvent k (V1_s_ReadEvent k n0) (V2_s_ReadEvent k k) r6 v1 v2 v3 v4 r1 r2 r3 r4 r5 xs5 a0 := by kernel_rfl
noncomputable def V5_s_ReadEvent (k n0 : Nat) (a0 : ByteArray) (v16 : Int) (v21 : Int) (v22 : ByteArray) (v23 : Int) (v24 : Bool) (r1 : Int × TL05Cur × Unit) (r2 : Int × TL05Cur × Unit) (r3 : Int × TL05Cur × Unit) (r4 : Int × TL05Cur × Unit) (r5 : Int × TL05Cur × Unit) (v20 : ByteArray) (xs25 : List Int) : Option (TEvent × Bool) := LP (c_s_ReadEvent k) 1 (cd [1, 1, 1, 1, 1, 0, 1, 0, 0] (bo Try.f53)) 1006 (plug (c_s_ReadEvent k) fin_s_ReadEvent 1 [.b 0, .s (cd [1, 1, 1, 1, 1, 1] (bo Try.f53)), .fn Try.f53]) n0 ⟨⟨(mkT 66 0 [(0, one (.str a0)), (2, one (.ptr 9000000 0)), (4, one (.ptr 9000001 0)), (5, one (.ptr 9000002 0)), (6, one (.int .i64 v16)), (7, one (.int .i64 v21))]), [(9000000, .box [.int .i64 0, .int .i64 0, .int .i64 0, .int .i64 0, .int .i64 0, .nilS, .str ByteArray.empty, .nilS, .int .i64 0]), (9000001, .box [.str v22, .int .i64 v23, .bool v24]), (9000002, .box [.int .i64 r1.1, .int .i64 r2.1, .int .i64 r3.1, .int .i64 r4.1, .int .i64 r5.1, .nilS, .str v20, .row 9000003 none none, .int .i64 0]), (9000003, .row 3 (.int .i64) xs25 true)]⟩, 1000, 1, [(0, (mkT 0 0 []))]⟩
theorem t5_s_ReadEvent (k n0 : Nat) (a0 : ByteArray) (v16 : Int) (v21 : Int) (v22 : ByteArray) (v23 : Int) (v24 : Bool) (r1 : Int × TL05Cur × Unit) (r2 : Int × TL05Cur × Unit) (r3 : Int × TL05Cur × Unit) (r4 : Int × TL05Cur × Unit) (r5 : Int × TL05Cur × Unit) (v20 : ByteArray) (xs25 : List Int) : V5_s_ReadEvent k (n0 + 1) a0 v16 v21 v22 v23 v24 r1 r2 r3 r4 r5 v20 xs25 = b5_s_ReadEvent k (V5_s_ReadEvent k n0) a0 v16 v21 v22 v23 v24 r1 r2 r3 r4 r5 v20 xs25 := by kernel_rfl
noncomputable def V4_s_ReadEvent (k n0 : Nat) (a0 : ByteArray) (v16 : Int) (v17 : ByteArray) (v18 : Int) (v19 : Bool) (r1 : Int × TL05Cur × Unit) (r2 : Int × TL05Cur × Unit) (r3 : Int × TL05Cur × Unit) (r4 : Int × TL05Cur × Unit) (r5 : Int × TL05Cur × Unit) (v20 : ByteArray) : Option (TEvent × Bool) := LP (c_s_ReadEvent k) 1 (cd [1, 1, 1, 1, 1, 0, 1, 0, 0] (bo Try.f53)) 1006 (plug (c_s_ReadEvent k) fin_s_ReadEvent 1 [.b 0, .s (cd [1, 1, 1, 1, 1, 1] (bo Try.f53)), .fn Try.f53]) n0 ⟨⟨(mkT 66 0 [(0, one (.str a0)), (2, one (.ptr 9000000 0)), (4, one (.ptr 9000001 0)), (5, one (.ptr 9000002 0)), (6, one (.int .i64 v16)), (7, one (.int .i64 0))]), [(9000000, .box [.int .i64 0, .int .i64 0, .int .i64 0, .int .i64 0, .int .i64 0, .nilS, .str ByteArray.empty, .nilS, .int .i64 0]), (9000001, .box [.str v17, .int .i64 v18, .bool v19]), (9000002, .box [.int .i64 r1.1, .int .i64 r2.1, .int .i64 r3.1, .int .i64 r4.1, .int .i64 r5.1, .nilS, .str v20, .nilS, .int .i64 0])]⟩, 1000, 1, [(0, (mkT 0 0 []))]⟩
theorem t4_s_ReadEvent (k n0 : Nat) (a0 : ByteArray) (v16 : Int) (v17 : ByteArray) (v18 : Int) (v19 : Bool) (r1 : Int × TL05Cur × Unit) (r2 : Int × TL05Cur × Unit) (r3 : Int × TL05Cur × Unit) (r4 : Int × TL05Cur × Unit) (r5 : Int × TL05Cur × Unit) (v20 : ByteArray) : V4_s_ReadEvent k (n0 + 1) a0 v16 v17 v18 v19 r1 r2 r3 r4 r5 v20 = b4_s_ReadEvent k (V5_s_ReadEvent k n0) a0 v16 v17 v18 v19 r1 r2 r3 r4 r5 v20 := by kernel_rfl
noncomputable def V0_s_ReadEvent (k n0 : Nat) (r6 : Int × TL05Cur × Unit) (r1 : Int × TL05Cur × Unit) (r2 : Int × TL05Cur × Unit) (r3 : Int × TL05Cur × Unit) (r4 : Int × TL05Cur × Unit) (r5 : Int × TL05Cur × Unit) (a0 : ByteArray) : Option (TEvent × Bool) := LP (c_s_ReadEvent k) 0 (cd [1, 1, 1, 1, 1, 0, 1, 0, 0] (bo Try.f100)) 2006 (plug (c_s_ReadEvent k) fin_s_ReadEvent 0 [.b 0, .s (cd [1, 1, 1, 1, 1, 1] (bo Try.f100)), .fn Try.f100, .op (rg (cd [1, 1, 1, 0] (bo Try.f53))) 1 (some 17), .s (cd [1, 1, 1, 1] (bo Try.f53)), .fn Try.f53]) n0 ⟨⟨(mkT 60 0 [(0, one (.ptr 9000000 0)), (1, one (.ptr 9000001 0)), (4, one (.int .i64 r6.1)), (5, one (.int .i64 0))]), [(9000000, .box [.str r6.2.1.1, .int .i64 r6.2.1.2.1, .bool r6.2.1.2.2.1]), (9000001, .box [.int .i64 r1.1, .int .i64 r2.1, .int .i64 r3.1, .int .i64 r4.1, .int .i64 r5.1, .nilS, .str ByteArray.empty, .nilS, .int .i64 0]), (9000002, .box [.int .i64 0, .int .i64 0, .int .i64 0, .int .i64 0, .int .i64 0, .nilS, .str ByteArray.empty, .nilS, .int .i64 0])]⟩, 2000, 2, [(1000, (mkT 66 0 [(0, one (.str a0)), (2, one (.ptr 9000002 0)), (3, one (.bool false)), (4, one (.ptr 9000000 0)), (5, one (.ptr 9000001 0)), (10, one (.str a0)), (11, .v ⟨true, [.str a0, .int .i64 0, .bool false]⟩), (12, one (.ptr 9000000 0)), (13, one (.ptr 9000000 0)), (14, one (.int .i64 r1.1)), (15, .v ⟨true, [.int .i64 r1.1, .int .i64 0, .int .i64 0, .int .i64 0, .int .i64 0, .nilS, .str ByteArray.empty, .nilS, .int .i64 0]⟩), (16, one (.ptr 9000000 0))])), (0, (mkT 0 0 []))]⟩
theorem t0_s_ReadEvent (k n0 : Nat) (r6 : Int × TL05Cur × Unit) (r1 : Int × TL05Cur × Unit) (r2 : Int × TL05Cur × Unit) (r3 : Int × TL05Cur × Unit) (r4 : Int × TL05Cur × Unit) (r5 : Int × TL05Cur × Unit) (a0 : ByteArray) : V0_s_ReadEvent k (n0 + 1) r6 r1 r2 r3 r4 r5 a0 = b0_s_ReadEvent k (V1_s_ReadEvent k n0) (V4_s_ReadEvent k k) r6 r1 r2 r3 r4 r5 a0 := by kernel_rfl
theorem e3_s_ReadEvent (k : Nat) : ∀ n0 : Nat, V3_s_ReadEvent k n0 = l3_s_ReadEvent k n0
  | 0 => by funext a0 v6 v11 v12 v13 v14 r1 r2 r3 r4 r5 v10 xs5 xs15; kernel_rfl
  | n0 + 1 => by funext a0 v6 v11 v12 v13 v14 r1 r2 r3 r4 r5 v10 xs5 xs15; rw [t3_s_ReadEvent, e3_s_ReadEvent k n0] <;> rfl
theorem e2_s_ReadEvent (k : Nat) : ∀ n0 : Nat, V2_s_ReadEvent k n0 = l2_s_ReadEvent k n0
  | 0 => by funext a0 v6 v7 v8 v9 r1 r2 r3 r4 r5 v10 xs5; kernel_rfl
  | n0 + 1 => by funext a0 v6 v7 v8 v9 r1 r2 r3 r4 r5 v10 xs5; rw [t2_s_ReadEvent, e3_s_ReadEvent k n0] <;> rfl
theorem e1_s_ReadEvent (k : Nat) : ∀ n0 : Nat, V1_s_ReadEvent k n0 = l1_s_ReadEvent k n0
  | 0 => by funext r6 v1 v2 v3 v4 r1 r2 r3 r4 r5 xs5 a0; kernel_rfl
  | n0 + 1 => by funext r6 v1 v2 v3 v4 r1 r2 r3 r4 r5 xs5 a0; rw [t1_s_ReadEvent, e2_s_ReadEvent k k, e1_s_ReadEvent k n0] <;> rfl
theorem e5_s_ReadEvent (k : Nat) : ∀ n0 : Nat, V5_s_ReadEvent k n0 = l5_s_ReadEvent k n0
  | 0 => by funext a0 v16 v21 v22 v23 v24 r1 r2 r3 r4 r5 v20 xs25; kernel_rfl
  | n0 + 1 => by funext a0 v16 v21 v22 v23 v24 r1 r2 r3 r4 r5 v20 xs25; rw [t5_s_ReadEvent, e5_s_ReadEvent k n0] <;> rfl
theorem e4_s_ReadEvent (k : Nat) : ∀ n0 : Nat, V4_s_ReadEvent k n0 = l4_s_ReadEvent k n0
  | 0 => by funext a0 v16 v17 v18 v19 r1 r2 r3 r4 r5 v20; kernel_rfl
  | n0 + 1 => by funext a0 v16 v17 v18 v19 r1 r2 r3 r4 r5 v20; rw [t4_s_ReadEvent, e5_s_ReadEvent k n0] <;> rfl
theorem e0_s_ReadEvent (k : Nat) : ∀ n0 : Nat, V0_s_ReadEvent k n0 = l0_s_ReadEvent k n0
  | 0 => by funext r6 r1 r2 r3 r4 r5 a0; kernel_rfl
  | n0 + 1 => by funext r6 r1 r2 r3 r4 r5 a0; rw [t0_s_ReadEvent, e1_s_ReadEvent k n0, e4_s_ReadEvent k k] <;> rfl
theorem u_s_ReadEvent (k : Nat) (a0 : ByteArray) : runF (c_s_ReadEvent k) 2 53 [argV .str a0] (fun v m => fin_s_ReadEvent v m) ms0 = g_s_ReadEvent k (V0_s_ReadEvent k k) a0 := by kernel_rfl
theorem r_s_ReadEvent (k : Nat) (a0 : ByteArray) : runF (c_s_ReadEvent k) 2 53 [argV .str a0] (fun v m => fin_s_ReadEvent v m) ms0 = s_ReadEvent k a0 := by rw [u_s_ReadEvent, e0_s_ReadEvent k k] <;> rfl
noncomputable def sp_s_ReadEvent (k : Nat) : Spec := .imm .str fun (a0 : ByteArray) => .body (s_ReadEvent k a0) (outV [yEvent, .bool] [true, true])
noncomputable def c_i_ReadVar (k : Nat) : Cfg := { eqs := [], tab := [(3, (.int .i64)), (5, (.int .u8)), (9, .str)], spec := [(72, sp_i_within k), (86, sp_i_VarText k)], mspec := [], inl := [(128, Try.f128)], keep := [(1005, [0, 1, 7, 8])], join := [], hold := [], ptrs := [], fuel := k }
noncomputable def fin_i_ReadVar : VV → Ms → Option (Int × Int × Bool) := finV [(.int .i64), (.int .i64), .bool] []
noncomputable def V0_i_ReadVar (k n0 : Nat) (a0 : ByteArray) (a1 : Int) (v1 : Int) (v2 : Int) : Option (Int × Int × Bool) := LP (c_i_ReadVar k) 0 (cd [1, 1, 1, 0, 1, 0, 0] (bo Try.f128)) 1005 (plug (c_i_ReadVar k) fin_i_ReadVar 0 [.b 0, .s (cd [1, 1, 1, 1] (bo Try.f128)), .fn Try.f128]) n0 ⟨⟨(mkT 63 0 [(0, one (.str a0)), (1, one (.int .i64 a1)), (7, one (.int .i64 v1)), (8, one (.int .i64 v2))]), []⟩, 1000, 1, [(0, (mkT 0 0 []))]⟩
theorem t0_i_ReadVar (k n0 : Nat) (a0 : ByteArray) (a1 : Int) (v1 : Int) (v2 : Int) : V0_i_ReadVar k (n0 + 1) a0 a1 v1 v2 = b0_i_ReadVar k (V0_i_ReadVar k n0) a0 a1 v1 v2 := by kernel_rfl
theorem e0_i_ReadVar (k : Nat) : ∀ n0 : Nat, V0_i_ReadVar k n0 = l0_i_ReadVar k n0
  | 0 => by funext a0 a1 v1 v2; kernel_rfl
  | n0 + 1 => by funext a0 a1 v1 v2; rw [t0_i_ReadVar, e0_i_ReadVar k n0] <;> rfl
theorem u_i_ReadVar (k : Nat) (a0 : ByteArray) (a1 : Int) : runF (c_i_ReadVar k) 1 128 [argV .str a0, argV (.int .i64) a1] (fun v m => fin_i_ReadVar v m) ms0 = g_i_ReadVar k (V0_i_ReadVar k k) a0 a1 := by kernel_rfl
theorem r_i_ReadVar (k : Nat) (a0 : ByteArray) (a1 : Int) : runF (c_i_ReadVar k) 1 128 [argV .str a0, argV (.int .i64) a1] (fun v m => fin_i_ReadVar v m) ms0 = i_ReadVar k a0 a1 := by rw [u_i_ReadVar, e0_i_ReadVar k k] <;> rfl
noncomputable def sp_i_ReadVar (k : Nat) : Spec := .imm .str fun (a0 : ByteArray) => .imm (.int .i64) fun (a1 : Int) => .body (i_ReadVar k a0 a1) (outV [(.int .i64), (.int .i64), .bool] [])
noncomputable def c_i_reader_num (k : Nat) : Cfg := { eqs := [], tab := [(3, (.int .i64)), (4, .bool), (9, .str), (122, yL05Cur)], spec := [(128, sp_i_ReadVar k)], mspec := [], inl := [(101, Try.f101)], keep := [], join := [], hold := [], ptrs := [], fuel := k }
noncomputable def fin_i_reader_num : VV → Ms → Option (Int × TL05Cur × Unit) := finM [(.int .i64)] [] [.box yL05Cur]
theorem r_i_reader_num (k : Nat) (a0 : TL05Cur) : runF (c_i_reader_num k) 1 101 (pArgsV 1 [.box yL05Cur] (a0, ())) (fun v m => fin_i_reader_num v m) (ms1 [.box yL05Cur] (a0, ())) = i_reader_num k a0 := by kernel_rfl
noncomputable def sp_i_reader_num (k : Nat) : MSpec := .box yL05Cur fun (a0 : TL05Cur) => .body (i_reader_num k a0) (fun r => outV [(.int .i64)] [] r.1) (fun r => poV [.box yL05Cur] r.2)
noncomputable def c_i_reader_byte (k : Nat) : Cfg := { eqs := [], tab := [(3, (.int .i64)), (4, .bool), (5, (.int .u8)), (9, .str), (122, yL05Cur)], spec := [], mspec := [], inl := [(129, Try.f129)], keep := [], join := [], hold := [], ptrs := [], fuel := k }
noncomputable def fin_i_reader_byte : VV → Ms → Option (Int × TL05Cur × Unit) := finM [(.int .i64)] [] [.box yL05Cur]
theorem r_i_reader_byte (k : Nat) (a0 : TL05Cur) : runF (c_i_reader_byte k) 1 129 (pArgsV 1 [.box yL05Cur] (a0, ())) (fun v m => fin_i_reader_byte v m) (ms1 [.box yL05Cur] (a0, ())) = i_reader_byte k a0 := by kernel_rfl
noncomputable def sp_i_reader_byte (k : Nat) : MSpec := .box yL05Cur fun (a0 : TL05Cur) => .body (i_reader_byte k a0) (fun r => outV [(.int .i64)] [] r.1) (fun r => poV [.box yL05Cur] r.2)
noncomputable def c_i_ReadShort (k : Nat) : Cfg := { eqs := [], tab := [(9, .str)], spec := [(128, sp_i_ReadVar k)], mspec := [], inl := [(140, Try.f140)], keep := [], join := [], hold := [], ptrs := [], fuel := k }
noncomputable def fin_i_ReadShort : VV → Ms → Option (ByteArray × Int × Bool) := finV [.str, (.int .i64), .bool] []
theorem r_i_ReadShort (k : Nat) (a0 : ByteArray) (a1 : Int) : runF (c_i_ReadShort k) 1 140 [argV .str a0, argV (.int .i64) a1] (fun v m => fin_i_ReadShort v m) ms0 = i_ReadShort k a0 a1 := by kernel_rfl
noncomputable def sp_i_ReadShort (k : Nat) : Spec := .imm .str fun (a0 : ByteArray) => .imm (.int .i64) fun (a1 : Int) => .body (i_ReadShort k a0 a1) (outV [.str, (.int .i64), .bool] [])
noncomputable def c_i_reader_text (k : Nat) : Cfg := { eqs := [], tab := [(3, (.int .i64)), (4, .bool), (9, .str), (122, yL05Cur)], spec := [(140, sp_i_ReadShort k)], mspec := [], inl := [(131, Try.f131)], keep := [], join := [], hold := [], ptrs := [], fuel := k }
noncomputable def fin_i_reader_text : VV → Ms → Option (ByteArray × TL05Cur × Unit) := finM [.str] [] [.box yL05Cur]
theorem r_i_reader_text (k : Nat) (a0 : TL05Cur) : runF (c_i_reader_text k) 1 131 (pArgsV 1 [.box yL05Cur] (a0, ())) (fun v m => fin_i_reader_text v m) (ms1 [.box yL05Cur] (a0, ())) = i_reader_text k a0 := by kernel_rfl
noncomputable def sp_i_reader_text (k : Nat) : MSpec := .box yL05Cur fun (a0 : TL05Cur) => .body (i_reader_text k a0) (fun r => outV [.str] [] r.1) (fun r => poV [.box yL05Cur] r.2)
noncomputable def c_i_reader_main (k : Nat) : Cfg := { eqs := [], tab := [(4, .bool), (9, .str), (31, (.slice 3 (.int .i64))), (36, yEvent), (122, yL05Cur)], spec := [], mspec := [(101, sp_i_reader_num k), (129, sp_i_reader_byte k), (131, sp_i_reader_text k)], inl := [(102, Try.f102), (103, Try.f103), (130, Try.f130)], keep := [(2002, [0, 1, 4, 5])], join := [], hold := [], ptrs := [120], fuel := k }
noncomputable def fin_i_reader_main : VV → Ms → Option (TEvent × TL05Cur × Unit) := finM [yEvent] [true, true] [.box yL05Cur]
noncomputable def V1_i_reader_main (k n0 : Nat) (r5 : Int × TL05Cur × Unit) (v1 : Int) (v2 : ByteArray) (v3 : Int) (v4 : Bool) (r1 : Int × TL05Cur × Unit) (r2 : Int × TL05Cur × Unit) (r3 : Int × TL05Cur × Unit) (r4 : Int × TL05Cur × Unit) (xs5 : List Int) : Option (TEvent × TL05Cur × Unit) := LP (c_i_reader_main k) 1 (cd [1, 1, 0, 0] (bo Try.f103)) 2002 (plug (c_i_reader_main k) fin_i_reader_main 1 [.b 0, .fn Try.f103, .op (rg (cd [1, 1, 0] (bo Try.f102))) 2 (some 15), .s (cd [1, 1, 1] (bo Try.f102)), .fn Try.f102]) n0 ⟨⟨(mkT 22 0 [(0, one (.ptr 9000000 0)), (1, one (.fn 130 [9000001, 9000002])), (4, one (.int .i64 r5.1)), (5, one (.int .i64 v1))]), [(9000000, .box [.str v2, .int .i64 v3, .bool v4]), (9000001, .box [.int .i64 0, .int .i64 r1.1, .int .i64 r2.1, .int .i64 r3.1, .int .i64 r4.1, .row 9000004 none none, .str ByteArray.empty, .nilS, .int .i64 0]), (9000002, .box [.ptr 9000000 0]), (9000003, .box [.int .i64 0, .int .i64 0, .int .i64 0, .int .i64 0, .int .i64 0, .nilS, .str ByteArray.empty, .nilS, .int .i64 0]), (9000004, .row 3 (.int .i64) xs5 true)]⟩, 2000, 2, [(1000, (mkT 20 0 [(0, one (.ptr 9000000 0)), (1, one (.ptr 9000002 0)), (2, one (.ptr 9000003 0)), (3, one (.ptr 9000001 0)), (4, one (.ptr 9000000 0)), (5, one (.int .i64 r1.1)), (6, one (.ptr 9000000 0)), (7, one (.int .i64 r2.1)), (8, one (.ptr 9000000 0)), (9, one (.int .i64 r3.1)), (10, one (.ptr 9000000 0)), (11, one (.int .i64 r4.1)), (12, .v ⟨true, [.int .i64 0, .int .i64 r1.1, .int .i64 r2.1, .int .i64 r3.1, .int .i64 r4.1, .nilS, .str ByteArray.empty, .nilS, .int .i64 0]⟩), (13, one (.ptr 9000000 0)), (14, one (.fn 130 [9000001, 9000002]))])), (0, (mkT 1 0 [(0, one (.ptr 9000000 0))]))]⟩
theorem t1_i_reader_main (k n0 : Nat) (r5 : Int × TL05Cur × Unit) (v1 : Int) (v2 : ByteArray) (v3 : Int) (v4 : Bool) (r1 : Int × TL05Cur × Unit) (r2 : Int × TL05Cur × Unit) (r3 : Int × TL05Cur × Unit) (r4 : Int × TL05Cur × Unit) (xs5 : List Int) : V1_i_reader_main k (n0 + 1) r5 v1 v2 v3 v4 r1 r2 r3 r4 xs5 = b1_i_reader_main k (V1_i_reader_main k n0) r5 v1 v2 v3 v4 r1 r2 r3 r4 xs5 := by kernel_rfl
noncomputable def V0_i_reader_main (k n0 : Nat) (r5 : Int × TL05Cur × Unit) (r1 : Int × TL05Cur × Unit) (r2 : Int × TL05Cur × Unit) (r3 : Int × TL05Cur × Unit) (r4 : Int × TL05Cur × Unit) : Option (TEvent × TL05Cur × Unit) := LP (c_i_reader_main k) 1 (cd [1, 1, 0, 0] (bo Try.f103)) 2002 (plug (c_i_reader_main k) fin_i_reader_main 1 [.b 0, .fn Try.f103, .op (rg (cd [1, 1, 0] (bo Try.f102))) 2 (some 15), .s (cd [1, 1, 1] (bo Try.f102)), .fn Try.f102]) n0 ⟨⟨(mkT 22 0 [(0, one (.ptr 9000000 0)), (1, one (.fn 130 [9000001, 9000002])), (4, one (.int .i64 r5.1)), (5, one (.int .i64 0))]), [(9000000, .box [.str r5.2.1.1, .int .i64 r5.2.1.2.1, .bool r5.2.1.2.2.1]), (9000001, .box [.int .i64 0, .int .i64 r1.1, .int .i64 r2.1, .int .i64 r3.1, .int .i64 r4.1, .nilS, .str ByteArray.empty, .nilS, .int .i64 0]), (9000002, .box [.ptr 9000000 0]), (9000003, .box [.int .i64 0, .int .i64 0, .int .i64 0, .int .i64 0, .int .i64 0, .nilS, .str ByteArray.empty, .nilS, .int .i64 0])]⟩, 2000, 2, [(1000, (mkT 20 0 [(0, one (.ptr 9000000 0)), (1, one (.ptr 9000002 0)), (2, one (.ptr 9000003 0)), (3, one (.ptr 9000001 0)), (4, one (.ptr 9000000 0)), (5, one (.int .i64 r1.1)), (6, one (.ptr 9000000 0)), (7, one (.int .i64 r2.1)), (8, one (.ptr 9000000 0)), (9, one (.int .i64 r3.1)), (10, one (.ptr 9000000 0)), (11, one (.int .i64 r4.1)), (12, .v ⟨true, [.int .i64 0, .int .i64 r1.1, .int .i64 r2.1, .int .i64 r3.1, .int .i64 r4.1, .nilS, .str ByteArray.empty, .nilS, .int .i64 0]⟩), (13, one (.ptr 9000000 0)), (14, one (.fn 130 [9000001, 9000002]))])), (0, (mkT 1 0 [(0, one (.ptr 9000000 0))]))]⟩
theorem t0_i_reader_main (k n0 : Nat) (r5 : Int × TL05Cur × Unit) (r1 : Int × TL05Cur × Unit) (r2 : Int × TL05Cur × Unit) (r3 : Int × TL05Cur × Unit) (r4 : Int × TL05Cur × Unit) : V0_i_reader_main k (n0 + 1) r5 r1 r2 r3 r4 = b0_i_reader_main k (V1_i_reader_main k n0) r5 r1 r2 r3 r4 := by kernel_rfl
theorem e1_i_reader_main (k : Nat) : ∀ n0 : Nat, V1_i_reader_main k n0 = l1_i_reader_main k n0
  | 0 => by funext r5 v1 v2 v3 v4 r1 r2 r3 r4 xs5; kernel_rfl
  | n0 + 1 => by funext r5 v1 v2 v3 v4 r1 r2 r3 r4 xs5; rw [t1_i_reader_main, e1_i_reader_main k n0] <;> rfl
theorem e0_i_reader_main (k : Nat) : ∀ n0 : Nat, V0_i_reader_main k n0 = l0_i_reader_main k n0
  | 0 => by funext r5 r1 r2 r3 r4; kernel_rfl
  | n0 + 1 => by funext r5 r1 r2 r3 r4; rw [t0_i_reader_main, e1_i_reader_main k n0] <;> rfl
theorem u_i_reader_main (k : Nat) (a0 : TL05Cur) : runF (c_i_reader_main k) 3 102 (pArgsV 1 [.box yL05Cur] (a0, ())) (fun v m => fin_i_reader_main v m) (ms1 [.box yL05Cur] (a0, ())) = g_i_reader_main k (V0_i_reader_main k k) a0 := by kernel_rfl
theorem r_i_reader_main (k : Nat) (a0 : TL05Cur) : runF (c_i_reader_main k) 3 102 (pArgsV 1 [.box yL05Cur] (a0, ())) (fun v m => fin_i_reader_main v m) (ms1 [.box yL05Cur] (a0, ())) = i_reader_main k a0 := by rw [u_i_reader_main, e0_i_reader_main k k] <;> rfl
noncomputable def sp_i_reader_main (k : Nat) : MSpec := .box yL05Cur fun (a0 : TL05Cur) => .body (i_reader_main k a0) (fun r => outV [yEvent] [true, true] r.1) (fun r => poV [.box yL05Cur] r.2)
noncomputable def c_i_reader_done (k : Nat) : Cfg := { eqs := [], tab := [(3, (.int .i64)), (4, .bool), (9, .str), (122, yL05Cur)], spec := [], mspec := [], inl := [(105, Try.f105)], keep := [], join := [], hold := [], ptrs := [], fuel := k }
noncomputable def fin_i_reader_done : VV → Ms → Option (Bool × TL05Cur × Unit) := finM [.bool] [] [.box yL05Cur]
theorem r_i_reader_done (k : Nat) (a0 : TL05Cur) : runF (c_i_reader_done k) 1 105 (pArgsV 1 [.box yL05Cur] (a0, ())) (fun v m => fin_i_reader_done v m) (ms1 [.box yL05Cur] (a0, ())) = i_reader_done k a0 := by kernel_rfl
noncomputable def sp_i_reader_done (k : Nat) : MSpec := .box yL05Cur fun (a0 : TL05Cur) => .body (i_reader_done k a0) (fun r => outV [.bool] [] r.1) (fun r => poV [.box yL05Cur] r.2)
noncomputable def c_i_ReadEvent (k : Nat) : Cfg := { eqs := [], tab := [(3, (.int .i64)), (4, .bool), (31, (.slice 3 (.int .i64))), (36, yEvent), (122, yL05Cur)], spec := [(25, sp_i_EventOk k)], mspec := [(101, sp_i_reader_num k), (102, sp_i_reader_main k), (105, sp_i_reader_done k)], inl := [(54, Try.f54), (103, Try.f103), (104, Try.f104)], keep := [(2002, [0, 1, 4, 5])], join := [], hold := [], ptrs := [120], fuel := k }
noncomputable def fin_i_ReadEvent : VV → Ms → Option (TEvent × Bool) := finV [yEvent, .bool] [true, true]
noncomputable def V1_i_ReadEvent (k n0 : Nat) (r3 : Int × TL05Cur × Unit) (v1 : Int) (v2 : ByteArray) (v3 : Int) (v4 : Bool) (r1 : Int × TL05Cur × Unit) (r2 : TEvent × TL05Cur × Unit) (xs5 : List Int) (a0 : ByteArray) : Option (TEvent × Bool) := LP (c_i_ReadEvent k) 1 (cd [1, 1, 0, 0] (bo Try.f103)) 2002 (plug (c_i_ReadEvent k) fin_i_ReadEvent 1 [.b 0, .fn Try.f103, .op (rg (cd [1, 1, 1, 1, 1, 0] (bo Try.f54))) 2 (some 18), .s (cd [1, 1, 1, 1, 1, 1] (bo Try.f54)), .fn Try.f54]) n0 ⟨⟨(mkT 22 0 [(0, one (.ptr 9000000 0)), (1, one (.fn 104 [9000001, 9000002])), (4, one (.int .i64 r3.1)), (5, one (.int .i64 v1))]), [(9000000, .box [.str v2, .int .i64 v3, .bool v4]), (9000001, .box [.int .i64 r1.1, .int .i64 r2.1.2.1, .int .i64 r2.1.2.2.1, .int .i64 r2.1.2.2.2.1, .int .i64 r2.1.2.2.2.2.1, .row 9000004 none none, .str r2.1.2.2.2.2.2.2.1, .row 9000006 none none, .int .i64 r2.1.2.2.2.2.2.2.2.2.1]), (9000002, .box [.ptr 9000000 0]), (9000003, .box [.int .i64 0, .int .i64 0, .int .i64 0, .int .i64 0, .int .i64 0, .nilS, .str ByteArray.empty, .nilS, .int .i64 0]), (9000004, .row 3 (.int .i64) r2.1.2.2.2.2.2.1 true), (9000005, .dead), (9000006, .row 3 (.int .i64) xs5 true)]⟩, 2000, 2, [(1000, (mkT 32 0 [(0, one (.str a0)), (2, one (.ptr 9000003 0)), (3, one (.bool false)), (4, one (.ptr 9000002 0)), (5, one (.int .i64 r1.1)), (6, one (.ptr 9000001 0)), (7, one (.str a0)), (8, .v ⟨true, [.str a0, .int .i64 0, .bool false]⟩), (9, one (.ptr 9000000 0)), (10, one (.ptr 9000000 0)), (11, one (.int .i64 r1.1)), (12, one (.ptr 9000000 0)), (13, .v ⟨true, [.int .i64 r2.1.1, .int .i64 r2.1.2.1, .int .i64 r2.1.2.2.1, .int .i64 r2.1.2.2.2.1, .int .i64 r2.1.2.2.2.2.1, .row 9000004 none none, .str r2.1.2.2.2.2.2.2.1, .row 9000005 none none, .int .i64 r2.1.2.2.2.2.2.2.2.2.1]⟩), (14, one (.int .i64 r1.1)), (15, one (.ptr 9000001 0)), (16, one (.ptr 9000000 0)), (17, one (.fn 104 [9000001, 9000002]))])), (0, (mkT 0 0 []))]⟩
theorem t1_i_ReadEvent (k n0 : Nat) (r3 : Int × TL05Cur × Unit) (v1 : Int) (v2 : ByteArray) (v3 : Int) (v4 : Bool) (r1 : Int × TL05Cur × Unit) (r2 : TEvent × TL05Cur × Unit) (xs5 : List Int) (a0 : ByteArray) : V1_i_ReadEvent k (n0 + 1) r3 v1 v2 v3 v4 r1 r2 xs5 a0 = b1_i_ReadEvent k (V1_i_ReadEvent k n0) r3 v1 v2 v3 v4 r1 r2 xs5 a0 := by kernel_rfl
noncomputable def V0_i_ReadEvent (k n0 : Nat) (r3 : Int × TL05Cur × Unit) (r1 : Int × TL05Cur × Unit) (r2 : TEvent × TL05Cur × Unit) (a0 : ByteArray) : Option (TEvent × Bool) := LP (c_i_ReadEvent k) 1 (cd [1, 1, 0, 0] (bo Try.f103)) 2002 (plug (c_i_ReadEvent k) fin_i_ReadEvent 1 [.b 0, .fn Try.f103, .op (rg (cd [1, 1, 1, 1, 1, 0] (bo Try.f54))) 2 (some 18), .s (cd [1, 1, 1, 1, 1, 1] (bo Try.f54)), .fn Try.f54]) n0 ⟨⟨(mkT 22 0 [(0, one (.ptr 9000000 0)), (1, one (.fn 104 [9000001, 9000002])), (4, one (.int .i64 r3.1)), (5, one (.int .i64 0))]), [(9000000, .box [.str r3.2.1.1, .int .i64 r3.2.1.2.1, .bool r3.2.1.2.2.1]), (9000001, .box [.int .i64 r1.1, .int .i64 r2.1.2.1, .int .i64 r2.1.2.2.1, .int .i64 r2.1.2.2.2.1, .int .i64 r2.1.2.2.2.2.1, .row 9000004 none none, .str r2.1.2.2.2.2.2.2.1, .row 9000005 none none, .int .i64 r2.1.2.2.2.2.2.2.2.2.1]), (9000002, .box [.ptr 9000000 0]), (9000003, .box [.int .i64 0, .int .i64 0, .int .i64 0, .int .i64 0, .int .i64 0, .nilS, .str ByteArray.empty, .nilS, .int .i64 0]), (9000004, .row 3 (.int .i64) r2.1.2.2.2.2.2.1 true), (9000005, .row 3 (.int .i64) r2.1.2.2.2.2.2.2.2.1 true)]⟩, 2000, 2, [(1000, (mkT 32 0 [(0, one (.str a0)), (2, one (.ptr 9000003 0)), (3, one (.bool false)), (4, one (.ptr 9000002 0)), (5, one (.int .i64 r1.1)), (6, one (.ptr 9000001 0)), (7, one (.str a0)), (8, .v ⟨true, [.str a0, .int .i64 0, .bool false]⟩), (9, one (.ptr 9000000 0)), (10, one (.ptr 9000000 0)), (11, one (.int .i64 r1.1)), (12, one (.ptr 9000000 0)), (13, .v ⟨true, [.int .i64 r2.1.1, .int .i64 r2.1.2.1, .int .i64 r2.1.2.2.1, .int .i64 r2.1.2.2.2.1, .int .i64 r2.1.2.2.2.2.1, .row 9000004 none none, .str r2.1.2.2.2.2.2.2.1, .row 9000005 none none, .int .i64 r2.1.2.2.2.2.2.2.2.2.1]⟩), (14, one (.int .i64 r1.1)), (15, one (.ptr 9000001 0)), (16, one (.ptr 9000000 0)), (17, one (.fn 104 [9000001, 9000002]))])), (0, (mkT 0 0 []))]⟩
theorem t0_i_ReadEvent (k n0 : Nat) (r3 : Int × TL05Cur × Unit) (r1 : Int × TL05Cur × Unit) (r2 : TEvent × TL05Cur × Unit) (a0 : ByteArray) : V0_i_ReadEvent k (n0 + 1) r3 r1 r2 a0 = b0_i_ReadEvent k (V1_i_ReadEvent k n0) r3 r1 r2 a0 := by kernel_rfl
theorem e1_i_ReadEvent (k : Nat) : ∀ n0 : Nat, V1_i_ReadEvent k n0 = l1_i_ReadEvent k n0
  | 0 => by funext r3 v1 v2 v3 v4 r1 r2 xs5 a0; kernel_rfl
  | n0 + 1 => by funext r3 v1 v2 v3 v4 r1 r2 xs5 a0; rw [t1_i_ReadEvent, e1_i_ReadEvent k n0] <;> rfl
theorem e0_i_ReadEvent (k : Nat) : ∀ n0 : Nat, V0_i_ReadEvent k n0 = l0_i_ReadEvent k n0
  | 0 => by funext r3 r1 r2 a0; kernel_rfl
  | n0 + 1 => by funext r3 r1 r2 a0; rw [t0_i_ReadEvent, e1_i_ReadEvent k n0] <;> rfl
theorem u_i_ReadEvent (k : Nat) (a0 : ByteArray) : runF (c_i_ReadEvent k) 3 54 [argV .str a0] (fun v m => fin_i_ReadEvent v m) ms0 = g_i_ReadEvent k (V0_i_ReadEvent k k) a0 := by kernel_rfl
theorem r_i_ReadEvent (k : Nat) (a0 : ByteArray) : runF (c_i_ReadEvent k) 3 54 [argV .str a0] (fun v m => fin_i_ReadEvent v m) ms0 = i_ReadEvent k a0 := by rw [u_i_ReadEvent, e0_i_ReadEvent k k] <;> rfl
noncomputable def sp_i_ReadEvent (k : Nat) : Spec := .imm .str fun (a0 : ByteArray) => .body (i_ReadEvent k a0) (outV [yEvent, .bool] [true, true])
noncomputable def c_l_markIntS (k : Nat) : Cfg := { eqs := [], tab := [(3, (.int .i64)), (31, (.slice 3 (.int .i64)))], spec := [], mspec := [], inl := [(80, Try.f80)], keep := [(1002, [0, 1, 5])], join := [], hold := [], ptrs := [], fuel := k }
noncomputable def fin_l_markIntS : VV → Ms → Option (Int × List Int × Unit) := finM [(.int .i64)] [] [.row 3 (.int .i64), .imm (.int .i64)]
noncomputable def V0_l_markIntS (k n0 : Nat) (a1 : Int) (v1 : Int) (a0 : List Int) : Option (Int × List Int × Unit) := LP (c_l_markIntS k) 0 (cd [1, 0, 1, 0, 0] (bo Try.f80)) 1002 (plug (c_l_markIntS k) fin_l_markIntS 0 [.b 0, .s (cd [1, 1] (bo Try.f80)), .fn Try.f80]) n0 ⟨⟨(mkT 19 0 [(0, one (.row 9000000 none none)), (1, one (.int .i64 a1)), (5, one (.int .i64 v1))]), [(9000000, .row 3 (.int .i64) a0 true)]⟩, 1000, 1, [(0, (mkT 2 0 [(0, one (.row 9000000 none none))]))]⟩
theorem t0_l_markIntS (k n0 : Nat) (a1 : Int) (v1 : Int) (a0 : List Int) : V0_l_markIntS k (n0 + 1) a1 v1 a0 = b0_l_markIntS k (V0_l_markIntS k n0) a1 v1 a0 := by kernel_rfl
theorem e0_l_markIntS (k : Nat) : ∀ n0 : Nat, V0_l_markIntS k n0 = l0_l_markIntS k n0
  | 0 => by funext a1 v1 a0; kernel_rfl
  | n0 + 1 => by funext a1 v1 a0; rw [t0_l_markIntS, e0_l_markIntS k n0] <;> rfl
theorem u_l_markIntS (k : Nat) (a0 : List Int) (a1 : Int) : runF (c_l_markIntS k) 1 80 (pArgsV 1 [.row 3 (.int .i64), .imm (.int .i64)] (a0, a1, ())) (fun v m => fin_l_markIntS v m) (ms1 [.row 3 (.int .i64), .imm (.int .i64)] (a0, a1, ())) = g_l_markIntS k (V0_l_markIntS k k) a0 a1 := by kernel_rfl
theorem r_l_markIntS (k : Nat) (a0 : List Int) (a1 : Int) : runF (c_l_markIntS k) 1 80 (pArgsV 1 [.row 3 (.int .i64), .imm (.int .i64)] (a0, a1, ())) (fun v m => fin_l_markIntS v m) (ms1 [.row 3 (.int .i64), .imm (.int .i64)] (a0, a1, ())) = l_markIntS k a0 a1 := by rw [u_l_markIntS, e0_l_markIntS k k] <;> rfl
noncomputable def sp_l_markIntS (k : Nat) : MSpec := .row 3 (.int .i64) fun (a0 : List Int) => .imm (.int .i64) fun (a1 : Int) => .body (l_markIntS k a0 a1) (fun r => outV [(.int .i64)] [] r.1) (fun r => poV [.row 3 (.int .i64), .imm (.int .i64)] r.2)
noncomputable def c_l_FnExactReadEvent (k : Nat) : Cfg := { eqs := [], tab := [(4, .bool), (9, .str), (31, (.slice 3 (.int .i64))), (36, yEvent)], spec := [(26, sp_l_eqEvent k), (34, sp_l_heldEvent k), (53, sp_s_ReadEvent k), (54, sp_i_ReadEvent k)], mspec := [(80, sp_l_markIntS k)], inl := [(11, Try.f11), (33, Try.f33)], keep := [], join := [], hold := [], ptrs := [], fuel := k }
noncomputable def fin_l_FnExactReadEvent : VV → Ms → Option Bool := finV [.bool] []
theorem r_l_FnExactReadEvent (k : Nat) (a0 : ByteArray) : runF (c_l_FnExactReadEvent k) 2 11 [argV .str a0] (fun v m => fin_l_FnExactReadEvent v m) ms0 = l_FnExactReadEvent k a0 := by kernel_rfl
noncomputable def sp_l_FnExactReadEvent (k : Nat) : Spec := .imm .str fun (a0 : ByteArray) => .body (l_FnExactReadEvent k a0) (outV [.bool] [])
noncomputable def c_s_CommandText (k : Nat) : Cfg := { eqs := [], tab := [(3, (.int .i64)), (36, yEvent), (59, yCommand)], spec := [(39, sp_s_EventText k), (42, sp_s_CommandOk k), (84, sp_s_l01Var k), (85, sp_s_l09BodyText k), (109, sp_s_l09Byte k), (110, sp_s_l05Short k)], mspec := [], inl := [(61, Try.f61)], keep := [], join := [], hold := [], ptrs := [], fuel := k }
noncomputable def fin_s_CommandText : VV → Ms → Option (ByteArray × Bool) := finV [.str, .bool] []
theorem r_s_CommandText (k : Nat) (a0 : TCommand) : runF (c_s_CommandText k) 1 61 [argV yCommand a0] (fun v m => fin_s_CommandText v m) ms0 = s_CommandText k a0 := by kernel_rfl
noncomputable def sp_s_CommandText (k : Nat) : Spec := .imm yCommand fun (a0 : TCommand) => .body (s_CommandText k a0) (outV [.str, .bool] [])
noncomputable def c_i_CommandText (k : Nat) : Cfg := { eqs := [], tab := [(3, (.int .i64)), (5, (.int .u8)), (9, .str), (31, (.slice 3 (.int .i64))), (36, yEvent), (59, yCommand), (129, (.slice 5 (.int .u8)))], spec := [(40, sp_i_EventText k), (44, sp_i_CommandOk k), (87, sp_i_vars k), (88, sp_i_mainText k), (111, sp_i_ShortText k)], mspec := [], inl := [(62, Try.f62)], keep := [], join := [], hold := [], ptrs := [], fuel := k }
noncomputable def fin_i_CommandText : VV → Ms → Option (ByteArray × Bool) := finV [.str, .bool] []
theorem r_i_CommandText (k : Nat) (a0 : TCommand) : runF (c_i_CommandText k) 1 62 [argV yCommand a0] (fun v m => fin_i_CommandText v m) ms0 = i_CommandText k a0 := by kernel_rfl
noncomputable def sp_i_CommandText (k : Nat) : Spec := .imm yCommand fun (a0 : TCommand) => .body (i_CommandText k a0) (outV [.str, .bool] [])
noncomputable def c_l_FnExactCommandText (k : Nat) : Cfg := { eqs := [], tab := [(4, .bool), (55, yCommand), (59, yCommand)], spec := [(41, sp_l_szCommand k), (43, sp_l_toCommand k), (45, sp_l_eqCommand k), (61, sp_s_CommandText k), (62, sp_i_CommandText k)], mspec := [], inl := [(13, Try.f13)], keep := [], join := [], hold := [], ptrs := [], fuel := k }
noncomputable def fin_l_FnExactCommandText : VV → Ms → Option Bool := finV [.bool] []
theorem r_l_FnExactCommandText (k : Nat) (a0 : TCommand) : runF (c_l_FnExactCommandText k) 1 13 [argV yCommand a0] (fun v m => fin_l_FnExactCommandText v m) ms0 = l_FnExactCommandText k a0 := by kernel_rfl
noncomputable def sp_l_FnExactCommandText (k : Nat) : Spec := .imm yCommand fun (a0 : TCommand) => .body (l_FnExactCommandText k a0) (outV [.bool] [])
end Go.Vm
