/- The machine computes them. -/
import Derived.Test.YtpcdgghbhgjgfaaG2
import Derived.Test.YtpcdgghbhgjgfaaWc
import Derived.Test.YtpcdgghbhgjgfaaProg
import Derived.KernelRfl
set_option linter.unusedVariables false
namespace Go.Vm
open Go Go.Proofs
abbrev yItem : Ty := (.fld (.int .i64) (.fld (.int .i64) .nil))
abbrev yL01Cur : Ty := (.fld (.slice 5 (.int .u8)) (.fld (.int .i64) (.fld (.int .i64) .nil)))
abbrev yEvent : Ty := (.fld (.int .i64) (.fld (.int .i64) (.fld (.int .i64) (.fld (.int .i64) (.fld (.int .i64) (.fld (.slice 3 (.int .i64)) (.fld .str (.fld (.slice 3 (.int .i64)) (.fld (.int .i64) .nil)))))))))
abbrev yRoom : Ty := (.fld (.slice 35 yEvent) (.fld (.slice 24 (.slice 42 yItem)) (.fld (.slice 4 .bool) .nil)))
noncomputable def c_l_szItemS (k : Nat) : Cfg := { eqs := [], tab := [(22, (.slice 45 yItem))], spec := [], mspec := [], inl := [(5, Try.f5)], keep := [], join := [], hold := [], ptrs := [], maps := [], fuel := k }
noncomputable def fin_l_szItemS : VV → Ms → Option Int := finV [(.int .i64)] []
theorem r_l_szItemS (k : Nat) (a0 : List TItem) (a1 : Int) : runX (c_l_szItemS k) fin_l_szItemS k 5 [argV (.slice 45 yItem) a0, argV (.int .i64) a1] ms0 = l_szItemS k a0 a1 := by kernel_rfl
noncomputable def sp_l_szItemS (k : Nat) : Spec := .imm (.slice 45 yItem) fun (a0 : List TItem) => .imm (.int .i64) fun (a1 : Int) => .body (l_szItemS k a0 a1) (outV [(.int .i64)] [])
noncomputable def c_s_l01In (k : Nat) : Cfg := { eqs := [], tab := [], spec := [], mspec := [], inl := [(37, Try.f37)], keep := [], join := [], hold := [], ptrs := [], maps := [], fuel := k }
noncomputable def fin_s_l01In : VV → Ms → Option Bool := finV [.bool] []
theorem r_s_l01In (k : Nat) (a0 : Int) (a1 : Int) (a2 : Int) : runX (c_s_l01In k) fin_s_l01In k 37 [argV (.int .i64) a0, argV (.int .i64) a1, argV (.int .i64) a2] ms0 = s_l01In k a0 a1 a2 := by kernel_rfl
noncomputable def sp_s_l01In (k : Nat) : Spec := .imm (.int .i64) fun (a0 : Int) => .imm (.int .i64) fun (a1 : Int) => .imm (.int .i64) fun (a2 : Int) => .body (s_l01In k a0 a1 a2) (outV [.bool] [])
noncomputable def c_s_l10Key (k : Nat) : Cfg := { eqs := [], tab := [], spec := [(37, sp_s_l01In k)], mspec := [], inl := [(41, Try.f41)], keep := [], join := [], hold := [], ptrs := [], maps := [], fuel := k }
noncomputable def fin_s_l10Key : VV → Ms → Option Bool := finV [.bool] []
theorem r_s_l10Key (k : Nat) (a0 : Int) : runX (c_s_l10Key k) fin_s_l10Key k 41 [argV (.int .i64) a0] ms0 = s_l10Key k a0 := by kernel_rfl
noncomputable def sp_s_l10Key (k : Nat) : Spec := .imm (.int .i64) fun (a0 : Int) => .body (s_l10Key k a0) (outV [.bool] [])
noncomputable def c_s_StateOk (k : Nat) : Cfg := { eqs := [], tab := [(3, (.int .i64)), (24, (.slice 42 yItem)), (42, yItem)], spec := [(37, sp_s_l01In k), (41, sp_s_l10Key k)], mspec := [], inl := [(19, Try.f19)], keep := [(1900001004, [0, 3])], join := [], hold := [], ptrs := [], maps := [], fuel := k }
noncomputable def fin_s_StateOk : VV → Ms → Option Bool := finV [.bool] []
noncomputable def V0_s_StateOk (k n : Nat) (a0 : List TItem) (v1 : Int) : Option Bool := lpN (c_s_StateOk k) fin_s_StateOk n true 1900001004 (cd [1, 1, 0, 1, 0, 0] (bo Try.f19)) [.b 0, .s (cd [1, 1, 1] (bo Try.f19)), .fn Try.f19] ⟨⟨(mkT 47 0 [(0, one (.slc 42 yItem a0)), (3, one (.int .i64 v1))]), []⟩, 1900001000, 1, [(0, (mkT 0 0 []))]⟩
theorem t0_s_StateOk (k n : Nat) (a0 : List TItem) (v1 : Int) : V0_s_StateOk k (n + 1) a0 v1 = b0_s_StateOk k (V0_s_StateOk k n) a0 v1 := by kernel_rfl
theorem e_s_StateOk (k : Nat) : ∀ n : Nat, V0_s_StateOk k n = l0_s_StateOk k n
  | 0 => (by funext a0 v1; rfl)
  | n + 1 => by
    obtain h0 := e_s_StateOk k n
    exact (by funext a0 v1; rw [t0_s_StateOk, h0] <;> rfl)
theorem u_s_StateOk (k : Nat) (a0 : List TItem) : runX (c_s_StateOk k) fin_s_StateOk k 19 [argV (.slice 42 yItem) a0] ms0 = g_s_StateOk k (V0_s_StateOk k k) a0 := by kernel_rfl
theorem r_s_StateOk (k : Nat) (a0 : List TItem) : runX (c_s_StateOk k) fin_s_StateOk k 19 [argV (.slice 42 yItem) a0] ms0 = s_StateOk k a0 := by rw [u_s_StateOk, show V0_s_StateOk k k = l0_s_StateOk k k from (e_s_StateOk k k)] <;> rfl
noncomputable def sp_s_StateOk (k : Nat) : Spec := .imm (.slice 42 yItem) fun (a0 : List TItem) => .body (s_StateOk k a0) (outV [.bool] [])
noncomputable def c_s_Put (k : Nat) : Cfg := { eqs := [], tab := [(3, (.int .i64)), (24, (.slice 42 yItem)), (42, yItem)], spec := [(19, sp_s_StateOk k)], mspec := [], inl := [(6, Try.f6)], keep := [(600001003, [0, 1, 2, 7, 8]), (600001009, [0, 1, 7, 9])], join := [], hold := [], ptrs := [], maps := [], fuel := k }
noncomputable def fin_s_Put : VV → Ms → Option (List TItem) := finV [(.slice 42 yItem)] [true]
noncomputable def V1_s_Put (k n : Nat) (a0 : List TItem) (a1 : Int) (v3 : Int) (xs4 : List TItem) : Option (List TItem) := lpN (c_s_Put k) fin_s_Put n true 600001009 (cd [1, 1, 1, 1, 0, 1, 0, 0] (bo Try.f6)) [.b 2, .s (cd [1, 1, 1, 1, 1] (bo Try.f6)), .fn Try.f6] ⟨⟨(mkT 69 0 [(0, one (.slc 42 yItem a0)), (1, one (.int .i64 a1)), (7, one (.row 9000000 none none)), (9, one (.int .i64 v3))]), [(9000000, .row 42 yItem xs4 true)]⟩, 600001000, 1, [(0, (mkT 0 0 []))]⟩
noncomputable def V0_s_Put (k n : Nat) (a0 : List TItem) (a1 : Int) (a2 : Int) (v1 : Int) (xs2 : List TItem) : Option (List TItem) := lpN (c_s_Put k) fin_s_Put n true 600001003 (cd [1, 1, 0, 1, 0, 0] (bo Try.f6)) [.b 0, .s (cd [1, 1, 1] (bo Try.f6)), .fn Try.f6] ⟨⟨(mkT 69 0 [(0, one (.slc 42 yItem a0)), (1, one (.int .i64 a1)), (2, one (.int .i64 a2)), (7, one (.row 9000000 none none)), (8, one (.int .i64 v1))]), [(9000000, .row 42 yItem xs2 true)]⟩, 600001000, 1, [(0, (mkT 0 0 []))]⟩
theorem t1_s_Put (k n : Nat) (a0 : List TItem) (a1 : Int) (v3 : Int) (xs4 : List TItem) : V1_s_Put k (n + 1) a0 a1 v3 xs4 = b1_s_Put k (V1_s_Put k n) a0 a1 v3 xs4 := by kernel_rfl
theorem t0_s_Put (k n : Nat) (a0 : List TItem) (a1 : Int) (a2 : Int) (v1 : Int) (xs2 : List TItem) : V0_s_Put k (n + 1) a0 a1 a2 v1 xs2 = b0_s_Put k (V0_s_Put k n) (V1_s_Put k n) a0 a1 a2 v1 xs2 := by kernel_rfl
theorem e_s_Put (k : Nat) : ∀ n : Nat, V1_s_Put k n = l1_s_Put k n ∧ V0_s_Put k n = l0_s_Put k n
  | 0 => ⟨(by funext a0 a1 v3 xs4; rfl), (by funext a0 a1 a2 v1 xs2; rfl)⟩
  | n + 1 => by
    obtain ⟨h1, h0⟩ := e_s_Put k n
    exact ⟨(by funext a0 a1 v3 xs4; rw [t1_s_Put, h1] <;> rfl), (by funext a0 a1 a2 v1 xs2; rw [t0_s_Put, h0, h1] <;> rfl)⟩
theorem u_s_Put (k : Nat) (a0 : List TItem) (a1 : Int) (a2 : Int) : runX (c_s_Put k) fin_s_Put k 6 [argV (.slice 42 yItem) a0, argV (.int .i64) a1, argV (.int .i64) a2] ms0 = g_s_Put k (V0_s_Put k k) a0 a1 a2 := by kernel_rfl
theorem r_s_Put (k : Nat) (a0 : List TItem) (a1 : Int) (a2 : Int) : runX (c_s_Put k) fin_s_Put k 6 [argV (.slice 42 yItem) a0, argV (.int .i64) a1, argV (.int .i64) a2] ms0 = s_Put k a0 a1 a2 := by rw [u_s_Put, show V0_s_Put k k = l0_s_Put k k from (e_s_Put k k).2] <;> rfl
noncomputable def sp_s_Put (k : Nat) : Spec := .imm (.slice 42 yItem) fun (a0 : List TItem) => .imm (.int .i64) fun (a1 : Int) => .imm (.int .i64) fun (a2 : Int) => .body (s_Put k a0 a1 a2) (outV [(.slice 42 yItem)] [true])
noncomputable def c_l_toItem (k : Nat) : Cfg := { eqs := [], tab := [(3, (.int .i64)), (42, yItem), (45, yItem)], spec := [], mspec := [], inl := [(20, Try.f20)], keep := [], join := [], hold := [], ptrs := [], maps := [], fuel := k }
noncomputable def fin_l_toItem : VV → Ms → Option TItem := finV [yItem] []
theorem r_l_toItem (k : Nat) (a0 : TItem) : runX (c_l_toItem k) fin_l_toItem k 20 [argV yItem a0] ms0 = l_toItem k a0 := by kernel_rfl
noncomputable def sp_l_toItem (k : Nat) : Spec := .imm yItem fun (a0 : TItem) => .body (l_toItem k a0) (outV [yItem] [])
noncomputable def c_l_toItemS (k : Nat) : Cfg := { eqs := [], tab := [(22, (.slice 45 yItem)), (24, (.slice 42 yItem)), (42, yItem), (45, yItem)], spec := [(20, sp_l_toItem k)], mspec := [], inl := [(7, Try.f7)], keep := [(700001003, [0, 3, 4])], join := [], hold := [], ptrs := [], maps := [], fuel := k }
noncomputable def fin_l_toItemS : VV → Ms → Option (List TItem) := finV [(.slice 42 yItem)] [true]
noncomputable def V0_l_toItemS (k n : Nat) (a0 : List TItem) (v1 : Int) (xs2 : List TItem) : Option (List TItem) := lpN (c_l_toItemS k) fin_l_toItemS n true 700001003 (cd [1, 1, 0, 1, 0, 0] (bo Try.f7)) [.b 0, .s (cd [1, 1, 1] (bo Try.f7)), .fn Try.f7] ⟨⟨(mkT 23 0 [(0, one (.slc 45 yItem a0)), (3, one (.row 9000000 none none)), (4, one (.int .i64 v1))]), [(9000000, .row 42 yItem xs2 true)]⟩, 700001000, 1, [(0, (mkT 0 0 []))]⟩
theorem t0_l_toItemS (k n : Nat) (a0 : List TItem) (v1 : Int) (xs2 : List TItem) : V0_l_toItemS k (n + 1) a0 v1 xs2 = b0_l_toItemS k (V0_l_toItemS k n) a0 v1 xs2 := by kernel_rfl
theorem e_l_toItemS (k : Nat) : ∀ n : Nat, V0_l_toItemS k n = l0_l_toItemS k n
  | 0 => (by funext a0 v1 xs2; rfl)
  | n + 1 => by
    obtain h0 := e_l_toItemS k n
    exact (by funext a0 v1 xs2; rw [t0_l_toItemS, h0] <;> rfl)
theorem u_l_toItemS (k : Nat) (a0 : List TItem) : runX (c_l_toItemS k) fin_l_toItemS k 7 [argV (.slice 45 yItem) a0] ms0 = g_l_toItemS k (V0_l_toItemS k k) a0 := by kernel_rfl
theorem r_l_toItemS (k : Nat) (a0 : List TItem) : runX (c_l_toItemS k) fin_l_toItemS k 7 [argV (.slice 45 yItem) a0] ms0 = l_toItemS k a0 := by rw [u_l_toItemS, show V0_l_toItemS k k = l0_l_toItemS k k from (e_l_toItemS k k)] <;> rfl
noncomputable def sp_l_toItemS (k : Nat) : Spec := .imm (.slice 45 yItem) fun (a0 : List TItem) => .body (l_toItemS k a0) (outV [(.slice 42 yItem)] [true])
noncomputable def sp_slices_Insert_impl_Item_impl_Item (k : Nat) : MSpec := .row 42 yItem fun (a0 : List TItem) => .imm (.int .i64) fun (a1 : Int) => .imm (.slice 42 yItem) fun (a2 : List TItem) => .body (slices_Insert_impl_Item_impl_Item k a0 a1 a2) (fun r => [(false, [.own 42 yItem r])]) (fun _ => [.gone])
noncomputable def c_i_within (k : Nat) : Cfg := { eqs := [], tab := [], spec := [], mspec := [], inl := [(33, Try.f33)], keep := [], join := [], hold := [], ptrs := [], maps := [], fuel := k }
noncomputable def fin_i_within : VV → Ms → Option Bool := finV [.bool] []
theorem r_i_within (k : Nat) (a0 : Int) (a1 : Int) (a2 : Int) : runX (c_i_within k) fin_i_within k 33 [argV (.int .i64) a0, argV (.int .i64) a1, argV (.int .i64) a2] ms0 = i_within k a0 a1 a2 := by kernel_rfl
noncomputable def sp_i_within (k : Nat) : Spec := .imm (.int .i64) fun (a0 : Int) => .imm (.int .i64) fun (a1 : Int) => .imm (.int .i64) fun (a2 : Int) => .body (i_within k a0 a1 a2) (outV [.bool] [])
noncomputable def c_i_StateOk (k : Nat) : Cfg := { eqs := [], tab := [(3, (.int .i64)), (24, (.slice 42 yItem)), (42, yItem)], spec := [(33, sp_i_within k)], mspec := [], inl := [(22, Try.f22)], keep := [(2200001002, [0, 5, 6, 7])], join := [], hold := [], ptrs := [], maps := [], fuel := k }
noncomputable def fin_i_StateOk : VV → Ms → Option Bool := finV [.bool] []
noncomputable def V0_i_StateOk (k n : Nat) (a0 : List TItem) (v1 : Int) : Option Bool := lpN (c_i_StateOk k) fin_i_StateOk n true 2200001002 (cd [1, 0, 1, 0, 0] (bo Try.f22)) [.b 0, .s (cd [1, 1] (bo Try.f22)), .fn Try.f22] ⟨⟨(mkT 47 0 [(0, one (.slc 42 yItem a0)), (5, one (.slc 42 yItem a0)), (6, one (.int .i64 (a0.length : Int))), (7, one (.int .i64 v1))]), []⟩, 2200001000, 1, [(0, (mkT 0 0 []))]⟩
theorem t0_i_StateOk (k n : Nat) (a0 : List TItem) (v1 : Int) : V0_i_StateOk k (n + 1) a0 v1 = b0_i_StateOk k (V0_i_StateOk k n) a0 v1 := by kernel_rfl
theorem e_i_StateOk (k : Nat) : ∀ n : Nat, V0_i_StateOk k n = l0_i_StateOk k n
  | 0 => (by funext a0 v1; rfl)
  | n + 1 => by
    obtain h0 := e_i_StateOk k n
    exact (by funext a0 v1; rw [t0_i_StateOk, h0] <;> rfl)
theorem u_i_StateOk (k : Nat) (a0 : List TItem) : runX (c_i_StateOk k) fin_i_StateOk k 22 [argV (.slice 42 yItem) a0] ms0 = g_i_StateOk k (V0_i_StateOk k k) a0 := by kernel_rfl
theorem r_i_StateOk (k : Nat) (a0 : List TItem) : runX (c_i_StateOk k) fin_i_StateOk k 22 [argV (.slice 42 yItem) a0] ms0 = i_StateOk k a0 := by rw [u_i_StateOk, show V0_i_StateOk k k = l0_i_StateOk k k from (e_i_StateOk k k)] <;> rfl
noncomputable def sp_i_StateOk (k : Nat) : Spec := .imm (.slice 42 yItem) fun (a0 : List TItem) => .body (i_StateOk k a0) (outV [.bool] [])
noncomputable def c_i_Put (k : Nat) : Cfg := { eqs := [], tab := [(3, (.int .i64)), (24, (.slice 42 yItem)), (42, yItem)], spec := [(22, sp_i_StateOk k)], mspec := [(21, sp_slices_Insert_impl_Item_impl_Item k)], inl := [(8, Try.f8)], keep := [(800001003, [0, 1, 2, 7, 8])], join := [], hold := [], ptrs := [], maps := [], fuel := k }
noncomputable def fin_i_Put : VV → Ms → Option (List TItem) := finV [(.slice 42 yItem)] [true]
noncomputable def V0_i_Put (k n : Nat) (a0 : List TItem) (a1 : Int) (a2 : Int) (v1 : Int) : Option (List TItem) := lpN (c_i_Put k) fin_i_Put n true 800001003 (cd [1, 1, 1, 0, 0, 0] (bo Try.f8)) [.b 0, .s (cd [1, 1, 1, 1] (bo Try.f8)), .fn Try.f8] ⟨⟨(mkT 62 0 [(0, one (.slc 42 yItem a0)), (1, one (.int .i64 a1)), (2, one (.int .i64 a2)), (7, one (.row 9000000 none none)), (8, one (.int .i64 v1))]), [(9000000, .row 42 yItem a0 true)]⟩, 800001000, 1, [(0, (mkT 0 0 []))]⟩
theorem t0_i_Put (k n : Nat) (a0 : List TItem) (a1 : Int) (a2 : Int) (v1 : Int) : V0_i_Put k (n + 1) a0 a1 a2 v1 = b0_i_Put k (V0_i_Put k n) a0 a1 a2 v1 := by kernel_rfl
theorem e_i_Put (k : Nat) : ∀ n : Nat, V0_i_Put k n = l0_i_Put k n
  | 0 => (by funext a0 a1 a2 v1; rfl)
  | n + 1 => by
    obtain h0 := e_i_Put k n
    exact (by funext a0 a1 a2 v1; rw [t0_i_Put, h0] <;> rfl)
theorem u_i_Put (k : Nat) (a0 : List TItem) (a1 : Int) (a2 : Int) : runX (c_i_Put k) fin_i_Put k 8 [argV (.slice 42 yItem) a0, argV (.int .i64) a1, argV (.int .i64) a2] ms0 = g_i_Put k (V0_i_Put k k) a0 a1 a2 := by kernel_rfl
theorem r_i_Put (k : Nat) (a0 : List TItem) (a1 : Int) (a2 : Int) : runX (c_i_Put k) fin_i_Put k 8 [argV (.slice 42 yItem) a0, argV (.int .i64) a1, argV (.int .i64) a2] ms0 = i_Put k a0 a1 a2 := by rw [u_i_Put, show V0_i_Put k k = l0_i_Put k k from (e_i_Put k k)] <;> rfl
noncomputable def sp_i_Put (k : Nat) : Spec := .imm (.slice 42 yItem) fun (a0 : List TItem) => .imm (.int .i64) fun (a1 : Int) => .imm (.int .i64) fun (a2 : Int) => .body (i_Put k a0 a1 a2) (outV [(.slice 42 yItem)] [true])
noncomputable def c_l_eqItem (k : Nat) : Cfg := { eqs := [], tab := [(3, (.int .i64)), (42, yItem)], spec := [], mspec := [], inl := [(23, Try.f23)], keep := [], join := [], hold := [], ptrs := [], maps := [], fuel := k }
noncomputable def fin_l_eqItem : VV → Ms → Option Bool := finV [.bool] []
theorem r_l_eqItem (k : Nat) (a0 : TItem) (a1 : TItem) : runX (c_l_eqItem k) fin_l_eqItem k 23 [argV yItem a0, argV yItem a1] ms0 = l_eqItem k a0 a1 := by kernel_rfl
noncomputable def sp_l_eqItem (k : Nat) : Spec := .imm yItem fun (a0 : TItem) => .imm yItem fun (a1 : TItem) => .body (l_eqItem k a0 a1) (outV [.bool] [])
noncomputable def c_l_eqItemS (k : Nat) : Cfg := { eqs := [], tab := [(24, (.slice 42 yItem)), (42, yItem)], spec := [(23, sp_l_eqItem k)], mspec := [], inl := [(9, Try.f9)], keep := [(900001004, [0, 1, 5])], join := [], hold := [], ptrs := [], maps := [], fuel := k }
noncomputable def fin_l_eqItemS : VV → Ms → Option Bool := finV [.bool] []
noncomputable def V0_l_eqItemS (k n : Nat) (a0 : List TItem) (a1 : List TItem) (v1 : Int) : Option Bool := lpN (c_l_eqItemS k) fin_l_eqItemS n true 900001004 (cd [1, 1, 0, 1, 0, 0] (bo Try.f9)) [.b 0, .s (cd [1, 1, 1] (bo Try.f9)), .fn Try.f9] ⟨⟨(mkT 27 0 [(0, one (.slc 42 yItem a0)), (1, one (.slc 42 yItem a1)), (5, one (.int .i64 v1))]), []⟩, 900001000, 1, [(0, (mkT 0 0 []))]⟩
theorem t0_l_eqItemS (k n : Nat) (a0 : List TItem) (a1 : List TItem) (v1 : Int) : V0_l_eqItemS k (n + 1) a0 a1 v1 = b0_l_eqItemS k (V0_l_eqItemS k n) a0 a1 v1 := by kernel_rfl
theorem e_l_eqItemS (k : Nat) : ∀ n : Nat, V0_l_eqItemS k n = l0_l_eqItemS k n
  | 0 => (by funext a0 a1 v1; rfl)
  | n + 1 => by
    obtain h0 := e_l_eqItemS k n
    exact (by funext a0 a1 v1; rw [t0_l_eqItemS, h0] <;> rfl)
theorem u_l_eqItemS (k : Nat) (a0 : List TItem) (a1 : List TItem) : runX (c_l_eqItemS k) fin_l_eqItemS k 9 [argV (.slice 42 yItem) a0, argV (.slice 42 yItem) a1] ms0 = g_l_eqItemS k (V0_l_eqItemS k k) a0 a1 := by kernel_rfl
theorem r_l_eqItemS (k : Nat) (a0 : List TItem) (a1 : List TItem) : runX (c_l_eqItemS k) fin_l_eqItemS k 9 [argV (.slice 42 yItem) a0, argV (.slice 42 yItem) a1] ms0 = l_eqItemS k a0 a1 := by rw [u_l_eqItemS, show V0_l_eqItemS k k = l0_l_eqItemS k k from (e_l_eqItemS k k)] <;> rfl
noncomputable def sp_l_eqItemS (k : Nat) : Spec := .imm (.slice 42 yItem) fun (a0 : List TItem) => .imm (.slice 42 yItem) fun (a1 : List TItem) => .body (l_eqItemS k a0 a1) (outV [.bool] [])
noncomputable def c_l_markItemS (k : Nat) : Cfg := { eqs := [], tab := [(3, (.int .i64)), (24, (.slice 42 yItem)), (42, yItem)], spec := [], mspec := [], inl := [(10, Try.f10)], keep := [(1000001002, [0, 1, 5])], join := [], hold := [], ptrs := [], maps := [], fuel := k }
noncomputable def fin_l_markItemS : VV → Ms → Option (Int × List TItem × Unit) := finM [(.int .i64)] [] [.row 42 yItem, .imm (.int .i64)]
noncomputable def V0_l_markItemS (k n : Nat) (a1 : Int) (v1 : Int) (a0 : List TItem) : Option (Int × List TItem × Unit) := lpN (c_l_markItemS k) fin_l_markItemS n true 1000001002 (cd [1, 0, 1, 0, 0] (bo Try.f10)) [.b 0, .s (cd [1, 1] (bo Try.f10)), .fn Try.f10] ⟨⟨(mkT 27 0 [(0, one (.row 9000000 none none)), (1, one (.int .i64 a1)), (5, one (.int .i64 v1))]), [(9000000, .row 42 yItem a0 true)]⟩, 1000001000, 1, [(0, (mkT 2 0 [(0, one (.row 9000000 none none))]))]⟩
theorem t0_l_markItemS (k n : Nat) (a1 : Int) (v1 : Int) (a0 : List TItem) : V0_l_markItemS k (n + 1) a1 v1 a0 = b0_l_markItemS k (V0_l_markItemS k n) a1 v1 a0 := by kernel_rfl
theorem e_l_markItemS (k : Nat) : ∀ n : Nat, V0_l_markItemS k n = l0_l_markItemS k n
  | 0 => (by funext a1 v1 a0; rfl)
  | n + 1 => by
    obtain h0 := e_l_markItemS k n
    exact (by funext a1 v1 a0; rw [t0_l_markItemS, h0] <;> rfl)
theorem u_l_markItemS (k : Nat) (a0 : List TItem) (a1 : Int) : runX (c_l_markItemS k) fin_l_markItemS k 10 (pArgsV 1 [.row 42 yItem, .imm (.int .i64)] (a0, a1, ())) (ms1 [.row 42 yItem, .imm (.int .i64)] (a0, a1, ())) = g_l_markItemS k (V0_l_markItemS k k) a0 a1 := by kernel_rfl
theorem r_l_markItemS (k : Nat) (a0 : List TItem) (a1 : Int) : runX (c_l_markItemS k) fin_l_markItemS k 10 (pArgsV 1 [.row 42 yItem, .imm (.int .i64)] (a0, a1, ())) (ms1 [.row 42 yItem, .imm (.int .i64)] (a0, a1, ())) = l_markItemS k a0 a1 := by rw [u_l_markItemS, show V0_l_markItemS k k = l0_l_markItemS k k from (e_l_markItemS k k)] <;> rfl
noncomputable def sp_l_markItemS (k : Nat) : MSpec := .row 42 yItem fun (a0 : List TItem) => .imm (.int .i64) fun (a1 : Int) => .body (l_markItemS k a0 a1) (fun r => outV [(.int .i64)] [] r.1) (fun r => poV [.row 42 yItem, .imm (.int .i64)] r.2)
noncomputable def c_l_heldItemS (k : Nat) : Cfg := { eqs := [], tab := [(3, (.int .i64)), (24, (.slice 42 yItem)), (42, yItem)], spec := [], mspec := [], inl := [(11, Try.f11)], keep := [(1100001002, [0, 1, 5])], join := [], hold := [], ptrs := [], maps := [], fuel := k }
noncomputable def fin_l_heldItemS : VV → Ms → Option Int := finV [(.int .i64)] []
noncomputable def V0_l_heldItemS (k n : Nat) (a0 : List TItem) (a1 : Int) (v1 : Int) : Option Int := lpN (c_l_heldItemS k) fin_l_heldItemS n true 1100001002 (cd [1, 0, 1, 0, 0] (bo Try.f11)) [.b 0, .s (cd [1, 1] (bo Try.f11)), .fn Try.f11] ⟨⟨(mkT 31 0 [(0, one (.slc 42 yItem a0)), (1, one (.int .i64 a1)), (5, one (.int .i64 v1))]), []⟩, 1100001000, 1, [(0, (mkT 0 0 []))]⟩
theorem t0_l_heldItemS (k n : Nat) (a0 : List TItem) (a1 : Int) (v1 : Int) : V0_l_heldItemS k (n + 1) a0 a1 v1 = b0_l_heldItemS k (V0_l_heldItemS k n) a0 a1 v1 := by kernel_rfl
theorem e_l_heldItemS (k : Nat) : ∀ n : Nat, V0_l_heldItemS k n = l0_l_heldItemS k n
  | 0 => (by funext a0 a1 v1; rfl)
  | n + 1 => by
    obtain h0 := e_l_heldItemS k n
    exact (by funext a0 a1 v1; rw [t0_l_heldItemS, h0] <;> rfl)
theorem u_l_heldItemS (k : Nat) (a0 : List TItem) (a1 : Int) : runX (c_l_heldItemS k) fin_l_heldItemS k 11 [argV (.slice 42 yItem) a0, argV (.int .i64) a1] ms0 = g_l_heldItemS k (V0_l_heldItemS k k) a0 a1 := by kernel_rfl
theorem r_l_heldItemS (k : Nat) (a0 : List TItem) (a1 : Int) : runX (c_l_heldItemS k) fin_l_heldItemS k 11 [argV (.slice 42 yItem) a0, argV (.int .i64) a1] ms0 = l_heldItemS k a0 a1 := by rw [u_l_heldItemS, show V0_l_heldItemS k k = l0_l_heldItemS k k from (e_l_heldItemS k k)] <;> rfl
noncomputable def sp_l_heldItemS (k : Nat) : Spec := .imm (.slice 42 yItem) fun (a0 : List TItem) => .imm (.int .i64) fun (a1 : Int) => .body (l_heldItemS k a0 a1) (outV [(.int .i64)] [])
noncomputable def c_l_FnExactPut (k : Nat) : Cfg := { eqs := [], tab := [], spec := [(5, sp_l_szItemS k), (6, sp_s_Put k), (7, sp_l_toItemS k), (8, sp_i_Put k), (9, sp_l_eqItemS k), (11, sp_l_heldItemS k)], mspec := [(10, sp_l_markItemS k)], inl := [(3, Try.f3)], keep := [], join := [], hold := [], ptrs := [], maps := [], fuel := k }
noncomputable def fin_l_FnExactPut : VV → Ms → Option Bool := finV [.bool] []
theorem r_l_FnExactPut (k : Nat) (a0 : List TItem) (a1 : Int) (a2 : Int) : runX (c_l_FnExactPut k) fin_l_FnExactPut k 3 [argV (.slice 45 yItem) a0, argV (.int .i64) a1, argV (.int .i64) a2] ms0 = l_FnExactPut k a0 a1 a2 := by kernel_rfl
noncomputable def sp_l_FnExactPut (k : Nat) : Spec := .imm (.slice 45 yItem) fun (a0 : List TItem) => .imm (.int .i64) fun (a1 : Int) => .imm (.int .i64) fun (a2 : Int) => .body (l_FnExactPut k a0 a1 a2) (outV [.bool] [])
end Go.Vm
