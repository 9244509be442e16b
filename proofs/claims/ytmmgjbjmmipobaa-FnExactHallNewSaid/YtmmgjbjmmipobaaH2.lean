/- The machine computes them. -/
import Derived.Test.YtmmgjbjmmipobaaG2
import Derived.Test.YtmmgjbjmmipobaaWc
import Derived.Test.YtmmgjbjmmipobaaProg
import Derived.KernelRfl
set_option linter.unusedVariables false
namespace Go.Vm
open Go Go.Proofs
abbrev yOut : Ty := (.fld (.int .i64) (.fld (.int .i64) (.fld (.slice 3 (.int .i64)) .nil)))
abbrev ySession : Ty := (.fld (.int .i64) (.fld (.int .i64) (.fld .str .nil)))
abbrev yEvent : Ty := (.fld (.int .i64) (.fld (.int .i64) (.fld (.int .i64) (.fld (.int .i64) (.fld (.int .i64) (.fld (.slice 3 (.int .i64)) (.fld .str (.fld (.slice 3 (.int .i64)) (.fld (.int .i64) .nil)))))))))
abbrev yItem : Ty := (.fld (.int .i64) (.fld (.int .i64) .nil))
abbrev yRoom : Ty := (.fld (.slice 58 yEvent) (.fld (.slice 60 (.slice 66 yItem)) (.fld (.slice 4 .bool) .nil)))
abbrev yHall : Ty := (.fld (.slice 46 ySession) (.fld yRoom (.fld (.slice 37 yOut) .nil)))
noncomputable def c_s_HallNew (k : Nat) : Cfg := { eqs := [], tab := [(28, (.slice 37 yOut)), (30, yHall), (37, yOut)], spec := [], mspec := [], inl := [(4, Try.f4)], keep := [(400001003, [0, 1, 2])], join := [], hold := [(400001003, [(1, [999999, 0, 4], 37, yOut, false, false)])], ptrs := [], maps := [], fuel := k, trees := [37] }
noncomputable def fin_s_HallNew : VV → Ms → Option THall := finV [yHall] [.o, .t, .t, .o, .t]
noncomputable def V0_s_HallNew (k n : Nat) (v1 : Int) (xs2 : List TOut) : Option THall := lpN (c_s_HallNew k) fin_s_HallNew n true 400001003 (cd [1, 1, 0, 1, 0, 0] (bo Try.f4)) [.b 0, .s (cd [1, 1, 1] (bo Try.f4)), .fn Try.f4] ⟨⟨(mkT 16 0 [(0, one (.ptr 9000000 0)), (1, one (.ptr 9000001 0)), (2, one (.int .i64 v1))]), [(9000000, .box [.nilS, .nilS, .nilS, .nilS, .nilS]), (9000001, .box [.nilS, .nilS, .nilS, .nilS, .row 9000002 none none]), (9000002, .tree 37 yOut xs2 1)]⟩, 400001000, 1, [(0, (mkT 0 0 []))]⟩
theorem t0_s_HallNew (k n : Nat) (v1 : Int) (xs2 : List TOut) : V0_s_HallNew k (n + 1) v1 xs2 = b0_s_HallNew k (V0_s_HallNew k n) v1 xs2 := by kernel_rfl
theorem e_s_HallNew (k : Nat) : ∀ n : Nat, V0_s_HallNew k n = l0_s_HallNew k n
  | 0 => (by funext v1 xs2; rfl)
  | n + 1 => by
    obtain h0 := e_s_HallNew k n
    exact (by funext v1 xs2; rw [t0_s_HallNew, h0] <;> rfl)
theorem u_s_HallNew (k : Nat) : runX (c_s_HallNew k) fin_s_HallNew k 4 [] ms0 = g_s_HallNew k (V0_s_HallNew k k) := by kernel_rfl
theorem r_s_HallNew (k : Nat) : runX (c_s_HallNew k) fin_s_HallNew k 4 [] ms0 = s_HallNew k := by rw [u_s_HallNew, show V0_s_HallNew k k = l0_s_HallNew k k from (e_s_HallNew k k)] <;> rfl
noncomputable def sp_s_HallNew (k : Nat) : Spec := .body (s_HallNew k) (outV [yHall] [.o, .t, .t, .o, .t])
noncomputable def c_i_HallNew (k : Nat) : Cfg := { eqs := [], tab := [(28, (.slice 37 yOut)), (30, yHall), (37, yOut)], spec := [], mspec := [], inl := [(5, Try.f5)], keep := [(500001003, [0, 1, 2])], join := [], hold := [(500001003, [(1, [999999, 0, 4], 37, yOut, false, false)])], ptrs := [], maps := [], fuel := k, trees := [37] }
noncomputable def fin_i_HallNew : VV → Ms → Option THall := finV [yHall] [.o, .t, .t, .o, .t]
noncomputable def V0_i_HallNew (k n : Nat) (v1 : Int) (xs2 : List TOut) : Option THall := lpN (c_i_HallNew k) fin_i_HallNew n true 500001003 (cd [1, 1, 0, 1, 0, 0] (bo Try.f5)) [.b 0, .s (cd [1, 1, 1] (bo Try.f5)), .fn Try.f5] ⟨⟨(mkT 15 0 [(0, one (.ptr 9000000 0)), (1, one (.ptr 9000001 0)), (2, one (.int .i64 v1))]), [(9000000, .box [.nilS, .nilS, .nilS, .nilS, .nilS]), (9000001, .box [.nilS, .nilS, .nilS, .nilS, .row 9000002 none none]), (9000002, .tree 37 yOut xs2 1)]⟩, 500001000, 1, [(0, (mkT 0 0 []))]⟩
theorem t0_i_HallNew (k n : Nat) (v1 : Int) (xs2 : List TOut) : V0_i_HallNew k (n + 1) v1 xs2 = b0_i_HallNew k (V0_i_HallNew k n) v1 xs2 := by kernel_rfl
theorem e_i_HallNew (k : Nat) : ∀ n : Nat, V0_i_HallNew k n = l0_i_HallNew k n
  | 0 => (by funext v1 xs2; rfl)
  | n + 1 => by
    obtain h0 := e_i_HallNew k n
    exact (by funext v1 xs2; rw [t0_i_HallNew, h0] <;> rfl)
theorem u_i_HallNew (k : Nat) : runX (c_i_HallNew k) fin_i_HallNew k 5 [] ms0 = g_i_HallNew k (V0_i_HallNew k k) := by kernel_rfl
theorem r_i_HallNew (k : Nat) : runX (c_i_HallNew k) fin_i_HallNew k 5 [] ms0 = i_HallNew k := by rw [u_i_HallNew, show V0_i_HallNew k k = l0_i_HallNew k k from (e_i_HallNew k k)] <;> rfl
noncomputable def sp_i_HallNew (k : Nat) : Spec := .body (i_HallNew k) (outV [yHall] [.o, .t, .t, .o, .t])
noncomputable def c_l_eqSession (k : Nat) : Cfg := { eqs := [], tab := [(3, (.int .i64)), (9, .str), (46, ySession)], spec := [], mspec := [], inl := [(18, Try.f18)], keep := [], join := [], hold := [], ptrs := [], maps := [], fuel := k }
noncomputable def fin_l_eqSession : VV → Ms → Option Bool := finV [.bool] []
theorem r_l_eqSession (k : Nat) (a0 : TSession) (a1 : TSession) : runX (c_l_eqSession k) fin_l_eqSession k 18 [argV ySession a0, argV ySession a1] ms0 = l_eqSession k a0 a1 := by kernel_rfl
noncomputable def sp_l_eqSession (k : Nat) : Spec := .imm ySession fun (a0 : TSession) => .imm ySession fun (a1 : TSession) => .body (l_eqSession k a0 a1) (outV [.bool] [])
noncomputable def c_l_eqSessionS (k : Nat) : Cfg := { eqs := [], tab := [(22, (.slice 46 ySession)), (46, ySession)], spec := [(18, sp_l_eqSession k)], mspec := [], inl := [(9, Try.f9)], keep := [(900001004, [0, 1, 5])], join := [], hold := [], ptrs := [], maps := [], fuel := k }
noncomputable def fin_l_eqSessionS : VV → Ms → Option Bool := finV [.bool] []
noncomputable def V0_l_eqSessionS (k n : Nat) (a0 : List TSession) (a1 : List TSession) (v1 : Int) : Option Bool := lpN (c_l_eqSessionS k) fin_l_eqSessionS n true 900001004 (cd [1, 1, 0, 1, 0, 0] (bo Try.f9)) [.b 0, .s (cd [1, 1, 1] (bo Try.f9)), .fn Try.f9] ⟨⟨(mkT 27 0 [(0, one (.slc 46 ySession a0)), (1, one (.slc 46 ySession a1)), (5, one (.int .i64 v1))]), []⟩, 900001000, 1, [(0, (mkT 0 0 []))]⟩
theorem t0_l_eqSessionS (k n : Nat) (a0 : List TSession) (a1 : List TSession) (v1 : Int) : V0_l_eqSessionS k (n + 1) a0 a1 v1 = b0_l_eqSessionS k (V0_l_eqSessionS k n) a0 a1 v1 := by kernel_rfl
theorem e_l_eqSessionS (k : Nat) : ∀ n : Nat, V0_l_eqSessionS k n = l0_l_eqSessionS k n
  | 0 => (by funext a0 a1 v1; rfl)
  | n + 1 => by
    obtain h0 := e_l_eqSessionS k n
    exact (by funext a0 a1 v1; rw [t0_l_eqSessionS, h0] <;> rfl)
theorem u_l_eqSessionS (k : Nat) (a0 : List TSession) (a1 : List TSession) : runX (c_l_eqSessionS k) fin_l_eqSessionS k 9 [argV (.slice 46 ySession) a0, argV (.slice 46 ySession) a1] ms0 = g_l_eqSessionS k (V0_l_eqSessionS k k) a0 a1 := by kernel_rfl
theorem r_l_eqSessionS (k : Nat) (a0 : List TSession) (a1 : List TSession) : runX (c_l_eqSessionS k) fin_l_eqSessionS k 9 [argV (.slice 46 ySession) a0, argV (.slice 46 ySession) a1] ms0 = l_eqSessionS k a0 a1 := by rw [u_l_eqSessionS, show V0_l_eqSessionS k k = l0_l_eqSessionS k k from (e_l_eqSessionS k k)] <;> rfl
noncomputable def sp_l_eqSessionS (k : Nat) : Spec := .imm (.slice 46 ySession) fun (a0 : List TSession) => .imm (.slice 46 ySession) fun (a1 : List TSession) => .body (l_eqSessionS k a0 a1) (outV [.bool] [])
noncomputable def c_l_eqIntS (k : Nat) : Cfg := { eqs := [], tab := [(3, (.int .i64)), (35, (.slice 3 (.int .i64)))], spec := [], mspec := [], inl := [(34, Try.f34)], keep := [(3400001004, [0, 1, 5])], join := [], hold := [], ptrs := [], maps := [], fuel := k }
noncomputable def fin_l_eqIntS : VV → Ms → Option Bool := finV [.bool] []
noncomputable def V0_l_eqIntS (k n : Nat) (a0 : List Int) (a1 : List Int) (v1 : Int) : Option Bool := lpN (c_l_eqIntS k) fin_l_eqIntS n true 3400001004 (cd [1, 1, 0, 1, 0, 0] (bo Try.f34)) [.b 0, .s (cd [1, 1, 1] (bo Try.f34)), .fn Try.f34] ⟨⟨(mkT 26 0 [(0, one (.slc 3 (.int .i64) a0)), (1, one (.slc 3 (.int .i64) a1)), (5, one (.int .i64 v1))]), []⟩, 3400001000, 1, [(0, (mkT 0 0 []))]⟩
theorem t0_l_eqIntS (k n : Nat) (a0 : List Int) (a1 : List Int) (v1 : Int) : V0_l_eqIntS k (n + 1) a0 a1 v1 = b0_l_eqIntS k (V0_l_eqIntS k n) a0 a1 v1 := by kernel_rfl
theorem e_l_eqIntS (k : Nat) : ∀ n : Nat, V0_l_eqIntS k n = l0_l_eqIntS k n
  | 0 => (by funext a0 a1 v1; rfl)
  | n + 1 => by
    obtain h0 := e_l_eqIntS k n
    exact (by funext a0 a1 v1; rw [t0_l_eqIntS, h0] <;> rfl)
theorem u_l_eqIntS (k : Nat) (a0 : List Int) (a1 : List Int) : runX (c_l_eqIntS k) fin_l_eqIntS k 34 [argV (.slice 3 (.int .i64)) a0, argV (.slice 3 (.int .i64)) a1] ms0 = g_l_eqIntS k (V0_l_eqIntS k k) a0 a1 := by kernel_rfl
theorem r_l_eqIntS (k : Nat) (a0 : List Int) (a1 : List Int) : runX (c_l_eqIntS k) fin_l_eqIntS k 34 [argV (.slice 3 (.int .i64)) a0, argV (.slice 3 (.int .i64)) a1] ms0 = l_eqIntS k a0 a1 := by rw [u_l_eqIntS, show V0_l_eqIntS k k = l0_l_eqIntS k k from (e_l_eqIntS k k)] <;> rfl
noncomputable def sp_l_eqIntS (k : Nat) : Spec := .imm (.slice 3 (.int .i64)) fun (a0 : List Int) => .imm (.slice 3 (.int .i64)) fun (a1 : List Int) => .body (l_eqIntS k a0 a1) (outV [.bool] [])
noncomputable def c_l_eqEvent (k : Nat) : Cfg := { eqs := [], tab := [(3, (.int .i64)), (9, .str), (35, (.slice 3 (.int .i64))), (58, yEvent)], spec := [(34, sp_l_eqIntS k)], mspec := [], inl := [(32, Try.f32)], keep := [], join := [], hold := [], ptrs := [], maps := [], fuel := k }
noncomputable def fin_l_eqEvent : VV → Ms → Option Bool := finV [.bool] []
theorem r_l_eqEvent (k : Nat) (a0 : TEvent) (a1 : TEvent) : runX (c_l_eqEvent k) fin_l_eqEvent k 32 [argV yEvent a0, argV yEvent a1] ms0 = l_eqEvent k a0 a1 := by kernel_rfl
noncomputable def sp_l_eqEvent (k : Nat) : Spec := .imm yEvent fun (a0 : TEvent) => .imm yEvent fun (a1 : TEvent) => .body (l_eqEvent k a0 a1) (outV [.bool] [])
noncomputable def c_l_eqEventS (k : Nat) : Cfg := { eqs := [], tab := [(23, (.slice 58 yEvent)), (58, yEvent)], spec := [(32, sp_l_eqEvent k)], mspec := [], inl := [(19, Try.f19)], keep := [(1900001004, [0, 1, 5])], join := [], hold := [], ptrs := [], maps := [], fuel := k }
noncomputable def fin_l_eqEventS : VV → Ms → Option Bool := finV [.bool] []
noncomputable def V0_l_eqEventS (k n : Nat) (a0 : List TEvent) (a1 : List TEvent) (v1 : Int) : Option Bool := lpN (c_l_eqEventS k) fin_l_eqEventS n true 1900001004 (cd [1, 1, 0, 1, 0, 0] (bo Try.f19)) [.b 0, .s (cd [1, 1, 1] (bo Try.f19)), .fn Try.f19] ⟨⟨(mkT 27 0 [(0, one (.slc 58 yEvent a0)), (1, one (.slc 58 yEvent a1)), (5, one (.int .i64 v1))]), []⟩, 1900001000, 1, [(0, (mkT 0 0 []))]⟩
theorem t0_l_eqEventS (k n : Nat) (a0 : List TEvent) (a1 : List TEvent) (v1 : Int) : V0_l_eqEventS k (n + 1) a0 a1 v1 = b0_l_eqEventS k (V0_l_eqEventS k n) a0 a1 v1 := by kernel_rfl
theorem e_l_eqEventS (k : Nat) : ∀ n : Nat, V0_l_eqEventS k n = l0_l_eqEventS k n
  | 0 => (by funext a0 a1 v1; rfl)
  | n + 1 => by
    obtain h0 := e_l_eqEventS k n
    exact (by funext a0 a1 v1; rw [t0_l_eqEventS, h0] <;> rfl)
theorem u_l_eqEventS (k : Nat) (a0 : List TEvent) (a1 : List TEvent) : runX (c_l_eqEventS k) fin_l_eqEventS k 19 [argV (.slice 58 yEvent) a0, argV (.slice 58 yEvent) a1] ms0 = g_l_eqEventS k (V0_l_eqEventS k k) a0 a1 := by kernel_rfl
theorem r_l_eqEventS (k : Nat) (a0 : List TEvent) (a1 : List TEvent) : runX (c_l_eqEventS k) fin_l_eqEventS k 19 [argV (.slice 58 yEvent) a0, argV (.slice 58 yEvent) a1] ms0 = l_eqEventS k a0 a1 := by rw [u_l_eqEventS, show V0_l_eqEventS k k = l0_l_eqEventS k k from (e_l_eqEventS k k)] <;> rfl
noncomputable def sp_l_eqEventS (k : Nat) : Spec := .imm (.slice 58 yEvent) fun (a0 : List TEvent) => .imm (.slice 58 yEvent) fun (a1 : List TEvent) => .body (l_eqEventS k a0 a1) (outV [.bool] [])
noncomputable def c_l_eqItem (k : Nat) : Cfg := { eqs := [], tab := [(3, (.int .i64)), (66, yItem)], spec := [], mspec := [], inl := [(37, Try.f37)], keep := [], join := [], hold := [], ptrs := [], maps := [], fuel := k }
noncomputable def fin_l_eqItem : VV → Ms → Option Bool := finV [.bool] []
theorem r_l_eqItem (k : Nat) (a0 : TItem) (a1 : TItem) : runX (c_l_eqItem k) fin_l_eqItem k 37 [argV yItem a0, argV yItem a1] ms0 = l_eqItem k a0 a1 := by kernel_rfl
noncomputable def sp_l_eqItem (k : Nat) : Spec := .imm yItem fun (a0 : TItem) => .imm yItem fun (a1 : TItem) => .body (l_eqItem k a0 a1) (outV [.bool] [])
noncomputable def c_l_eqItemS (k : Nat) : Cfg := { eqs := [], tab := [(60, (.slice 66 yItem)), (66, yItem)], spec := [(37, sp_l_eqItem k)], mspec := [], inl := [(33, Try.f33)], keep := [(3300001004, [0, 1, 5])], join := [], hold := [], ptrs := [], maps := [], fuel := k }
noncomputable def fin_l_eqItemS : VV → Ms → Option Bool := finV [.bool] []
noncomputable def V0_l_eqItemS (k n : Nat) (a0 : List TItem) (a1 : List TItem) (v1 : Int) : Option Bool := lpN (c_l_eqItemS k) fin_l_eqItemS n true 3300001004 (cd [1, 1, 0, 1, 0, 0] (bo Try.f33)) [.b 0, .s (cd [1, 1, 1] (bo Try.f33)), .fn Try.f33] ⟨⟨(mkT 27 0 [(0, one (.slc 66 yItem a0)), (1, one (.slc 66 yItem a1)), (5, one (.int .i64 v1))]), []⟩, 3300001000, 1, [(0, (mkT 0 0 []))]⟩
theorem t0_l_eqItemS (k n : Nat) (a0 : List TItem) (a1 : List TItem) (v1 : Int) : V0_l_eqItemS k (n + 1) a0 a1 v1 = b0_l_eqItemS k (V0_l_eqItemS k n) a0 a1 v1 := by kernel_rfl
theorem e_l_eqItemS (k : Nat) : ∀ n : Nat, V0_l_eqItemS k n = l0_l_eqItemS k n
  | 0 => (by funext a0 a1 v1; rfl)
  | n + 1 => by
    obtain h0 := e_l_eqItemS k n
    exact (by funext a0 a1 v1; rw [t0_l_eqItemS, h0] <;> rfl)
theorem u_l_eqItemS (k : Nat) (a0 : List TItem) (a1 : List TItem) : runX (c_l_eqItemS k) fin_l_eqItemS k 33 [argV (.slice 66 yItem) a0, argV (.slice 66 yItem) a1] ms0 = g_l_eqItemS k (V0_l_eqItemS k k) a0 a1 := by kernel_rfl
theorem r_l_eqItemS (k : Nat) (a0 : List TItem) (a1 : List TItem) : runX (c_l_eqItemS k) fin_l_eqItemS k 33 [argV (.slice 66 yItem) a0, argV (.slice 66 yItem) a1] ms0 = l_eqItemS k a0 a1 := by rw [u_l_eqItemS, show V0_l_eqItemS k k = l0_l_eqItemS k k from (e_l_eqItemS k k)] <;> rfl
noncomputable def sp_l_eqItemS (k : Nat) : Spec := .imm (.slice 66 yItem) fun (a0 : List TItem) => .imm (.slice 66 yItem) fun (a1 : List TItem) => .body (l_eqItemS k a0 a1) (outV [.bool] [])
noncomputable def c_l_eqItemSS (k : Nat) : Cfg := { eqs := [], tab := [(24, (.slice 60 (.slice 66 yItem))), (60, (.slice 66 yItem))], spec := [(33, sp_l_eqItemS k)], mspec := [], inl := [(20, Try.f20)], keep := [(2000001004, [0, 1, 5])], join := [], hold := [], ptrs := [], maps := [], fuel := k }
noncomputable def fin_l_eqItemSS : VV → Ms → Option Bool := finV [.bool] []
noncomputable def V0_l_eqItemSS (k n : Nat) (a0 : List (List TItem)) (a1 : List (List TItem)) (v1 : Int) : Option Bool := lpN (c_l_eqItemSS k) fin_l_eqItemSS n true 2000001004 (cd [1, 1, 0, 1, 0, 0] (bo Try.f20)) [.b 0, .s (cd [1, 1, 1] (bo Try.f20)), .fn Try.f20] ⟨⟨(mkT 27 0 [(0, one (.slc 60 (.slice 66 yItem) a0)), (1, one (.slc 60 (.slice 66 yItem) a1)), (5, one (.int .i64 v1))]), []⟩, 2000001000, 1, [(0, (mkT 0 0 []))]⟩
theorem t0_l_eqItemSS (k n : Nat) (a0 : List (List TItem)) (a1 : List (List TItem)) (v1 : Int) : V0_l_eqItemSS k (n + 1) a0 a1 v1 = b0_l_eqItemSS k (V0_l_eqItemSS k n) a0 a1 v1 := by kernel_rfl
theorem e_l_eqItemSS (k : Nat) : ∀ n : Nat, V0_l_eqItemSS k n = l0_l_eqItemSS k n
  | 0 => (by funext a0 a1 v1; rfl)
  | n + 1 => by
    obtain h0 := e_l_eqItemSS k n
    exact (by funext a0 a1 v1; rw [t0_l_eqItemSS, h0] <;> rfl)
theorem u_l_eqItemSS (k : Nat) (a0 : List (List TItem)) (a1 : List (List TItem)) : runX (c_l_eqItemSS k) fin_l_eqItemSS k 20 [argV (.slice 60 (.slice 66 yItem)) a0, argV (.slice 60 (.slice 66 yItem)) a1] ms0 = g_l_eqItemSS k (V0_l_eqItemSS k k) a0 a1 := by kernel_rfl
theorem r_l_eqItemSS (k : Nat) (a0 : List (List TItem)) (a1 : List (List TItem)) : runX (c_l_eqItemSS k) fin_l_eqItemSS k 20 [argV (.slice 60 (.slice 66 yItem)) a0, argV (.slice 60 (.slice 66 yItem)) a1] ms0 = l_eqItemSS k a0 a1 := by rw [u_l_eqItemSS, show V0_l_eqItemSS k k = l0_l_eqItemSS k k from (e_l_eqItemSS k k)] <;> rfl
noncomputable def sp_l_eqItemSS (k : Nat) : Spec := .imm (.slice 60 (.slice 66 yItem)) fun (a0 : List (List TItem)) => .imm (.slice 60 (.slice 66 yItem)) fun (a1 : List (List TItem)) => .body (l_eqItemSS k a0 a1) (outV [.bool] [])
noncomputable def c_l_eqBoolS (k : Nat) : Cfg := { eqs := [], tab := [(4, .bool), (25, (.slice 4 .bool))], spec := [], mspec := [], inl := [(21, Try.f21)], keep := [(2100001004, [0, 1, 5])], join := [], hold := [], ptrs := [], maps := [], fuel := k }
noncomputable def fin_l_eqBoolS : VV → Ms → Option Bool := finV [.bool] []
noncomputable def V0_l_eqBoolS (k n : Nat) (a0 : List Bool) (a1 : List Bool) (v1 : Int) : Option Bool := lpN (c_l_eqBoolS k) fin_l_eqBoolS n true 2100001004 (cd [1, 1, 0, 1, 0, 0] (bo Try.f21)) [.b 0, .s (cd [1, 1, 1] (bo Try.f21)), .fn Try.f21] ⟨⟨(mkT 26 0 [(0, one (.slc 4 .bool a0)), (1, one (.slc 4 .bool a1)), (5, one (.int .i64 v1))]), []⟩, 2100001000, 1, [(0, (mkT 0 0 []))]⟩
theorem t0_l_eqBoolS (k n : Nat) (a0 : List Bool) (a1 : List Bool) (v1 : Int) : V0_l_eqBoolS k (n + 1) a0 a1 v1 = b0_l_eqBoolS k (V0_l_eqBoolS k n) a0 a1 v1 := by kernel_rfl
theorem e_l_eqBoolS (k : Nat) : ∀ n : Nat, V0_l_eqBoolS k n = l0_l_eqBoolS k n
  | 0 => (by funext a0 a1 v1; rfl)
  | n + 1 => by
    obtain h0 := e_l_eqBoolS k n
    exact (by funext a0 a1 v1; rw [t0_l_eqBoolS, h0] <;> rfl)
theorem u_l_eqBoolS (k : Nat) (a0 : List Bool) (a1 : List Bool) : runX (c_l_eqBoolS k) fin_l_eqBoolS k 21 [argV (.slice 4 .bool) a0, argV (.slice 4 .bool) a1] ms0 = g_l_eqBoolS k (V0_l_eqBoolS k k) a0 a1 := by kernel_rfl
theorem r_l_eqBoolS (k : Nat) (a0 : List Bool) (a1 : List Bool) : runX (c_l_eqBoolS k) fin_l_eqBoolS k 21 [argV (.slice 4 .bool) a0, argV (.slice 4 .bool) a1] ms0 = l_eqBoolS k a0 a1 := by rw [u_l_eqBoolS, show V0_l_eqBoolS k k = l0_l_eqBoolS k k from (e_l_eqBoolS k k)] <;> rfl
noncomputable def sp_l_eqBoolS (k : Nat) : Spec := .imm (.slice 4 .bool) fun (a0 : List Bool) => .imm (.slice 4 .bool) fun (a1 : List Bool) => .body (l_eqBoolS k a0 a1) (outV [.bool] [])
noncomputable def c_l_eqRoom (k : Nat) : Cfg := { eqs := [], tab := [(23, (.slice 58 yEvent)), (24, (.slice 60 (.slice 66 yItem))), (25, (.slice 4 .bool)), (27, yRoom)], spec := [(19, sp_l_eqEventS k), (20, sp_l_eqItemSS k), (21, sp_l_eqBoolS k)], mspec := [], inl := [(10, Try.f10)], keep := [], join := [], hold := [], ptrs := [], maps := [], fuel := k }
noncomputable def fin_l_eqRoom : VV → Ms → Option Bool := finV [.bool] []
theorem r_l_eqRoom (k : Nat) (a0 : TRoom) (a1 : TRoom) : runX (c_l_eqRoom k) fin_l_eqRoom k 10 [argV yRoom a0, argV yRoom a1] ms0 = l_eqRoom k a0 a1 := by kernel_rfl
noncomputable def sp_l_eqRoom (k : Nat) : Spec := .imm yRoom fun (a0 : TRoom) => .imm yRoom fun (a1 : TRoom) => .body (l_eqRoom k a0 a1) (outV [.bool] [])
noncomputable def c_l_eqOut (k : Nat) : Cfg := { eqs := [], tab := [(3, (.int .i64)), (35, (.slice 3 (.int .i64))), (37, yOut)], spec := [(34, sp_l_eqIntS k)], mspec := [], inl := [(22, Try.f22)], keep := [], join := [], hold := [], ptrs := [], maps := [], fuel := k }
noncomputable def fin_l_eqOut : VV → Ms → Option Bool := finV [.bool] []
theorem r_l_eqOut (k : Nat) (a0 : TOut) (a1 : TOut) : runX (c_l_eqOut k) fin_l_eqOut k 22 [argV yOut a0, argV yOut a1] ms0 = l_eqOut k a0 a1 := by kernel_rfl
noncomputable def sp_l_eqOut (k : Nat) : Spec := .imm yOut fun (a0 : TOut) => .imm yOut fun (a1 : TOut) => .body (l_eqOut k a0 a1) (outV [.bool] [])
noncomputable def c_l_eqOutS (k : Nat) : Cfg := { eqs := [], tab := [(28, (.slice 37 yOut)), (37, yOut)], spec := [(22, sp_l_eqOut k)], mspec := [], inl := [(11, Try.f11)], keep := [(1100001004, [0, 1, 5])], join := [], hold := [], ptrs := [], maps := [], fuel := k }
noncomputable def fin_l_eqOutS : VV → Ms → Option Bool := finV [.bool] []
noncomputable def V0_l_eqOutS (k n : Nat) (a0 : List TOut) (a1 : List TOut) (v1 : Int) : Option Bool := lpN (c_l_eqOutS k) fin_l_eqOutS n true 1100001004 (cd [1, 1, 0, 1, 0, 0] (bo Try.f11)) [.b 0, .s (cd [1, 1, 1] (bo Try.f11)), .fn Try.f11] ⟨⟨(mkT 27 0 [(0, one (.slc 37 yOut a0)), (1, one (.slc 37 yOut a1)), (5, one (.int .i64 v1))]), []⟩, 1100001000, 1, [(0, (mkT 0 0 []))]⟩
theorem t0_l_eqOutS (k n : Nat) (a0 : List TOut) (a1 : List TOut) (v1 : Int) : V0_l_eqOutS k (n + 1) a0 a1 v1 = b0_l_eqOutS k (V0_l_eqOutS k n) a0 a1 v1 := by kernel_rfl
theorem e_l_eqOutS (k : Nat) : ∀ n : Nat, V0_l_eqOutS k n = l0_l_eqOutS k n
  | 0 => (by funext a0 a1 v1; rfl)
  | n + 1 => by
    obtain h0 := e_l_eqOutS k n
    exact (by funext a0 a1 v1; rw [t0_l_eqOutS, h0] <;> rfl)
theorem u_l_eqOutS (k : Nat) (a0 : List TOut) (a1 : List TOut) : runX (c_l_eqOutS k) fin_l_eqOutS k 11 [argV (.slice 37 yOut) a0, argV (.slice 37 yOut) a1] ms0 = g_l_eqOutS k (V0_l_eqOutS k k) a0 a1 := by kernel_rfl
theorem r_l_eqOutS (k : Nat) (a0 : List TOut) (a1 : List TOut) : runX (c_l_eqOutS k) fin_l_eqOutS k 11 [argV (.slice 37 yOut) a0, argV (.slice 37 yOut) a1] ms0 = l_eqOutS k a0 a1 := by rw [u_l_eqOutS, show V0_l_eqOutS k k = l0_l_eqOutS k k from (e_l_eqOutS k k)] <;> rfl
noncomputable def sp_l_eqOutS (k : Nat) : Spec := .imm (.slice 37 yOut) fun (a0 : List TOut) => .imm (.slice 37 yOut) fun (a1 : List TOut) => .body (l_eqOutS k a0 a1) (outV [.bool] [])
noncomputable def c_l_eqHall (k : Nat) : Cfg := { eqs := [], tab := [(22, (.slice 46 ySession)), (27, yRoom), (28, (.slice 37 yOut)), (30, yHall)], spec := [(9, sp_l_eqSessionS k), (10, sp_l_eqRoom k), (11, sp_l_eqOutS k)], mspec := [], inl := [(6, Try.f6)], keep := [], join := [], hold := [], ptrs := [], maps := [], fuel := k }
noncomputable def fin_l_eqHall : VV → Ms → Option Bool := finV [.bool] []
theorem r_l_eqHall (k : Nat) (a0 : THall) (a1 : THall) : runX (c_l_eqHall k) fin_l_eqHall k 6 [argV yHall a0, argV yHall a1] ms0 = l_eqHall k a0 a1 := by kernel_rfl
noncomputable def sp_l_eqHall (k : Nat) : Spec := .imm yHall fun (a0 : THall) => .imm yHall fun (a1 : THall) => .body (l_eqHall k a0 a1) (outV [.bool] [])
noncomputable def c_l_markText (k : Nat) : Cfg := { eqs := [], tab := [(3, (.int .i64)), (5, (.int .u8)), (9, .str), (62, (.slice 5 (.int .u8)))], spec := [], mspec := [], inl := [(23, Try.f23)], keep := [(2300001004, [0, 3])], join := [], hold := [], ptrs := [], maps := [], fuel := k }
noncomputable def fin_l_markText : VV → Ms → Option ByteArray := finV [.str] []
noncomputable def V0_l_markText (k n : Nat) (a0 : Int) (v1 : ByteArray) : Option ByteArray := lpN (c_l_markText k) fin_l_markText n true 2300001004 (cd [1, 1, 1, 0, 0, 0] (bo Try.f23)) [.b 0, .s (cd [1, 1, 1, 1] (bo Try.f23)), .fn Try.f23] ⟨⟨(mkT 20 0 [(0, one (.int .i64 a0)), (3, one (.str v1))]), []⟩, 2300001000, 1, [(0, (mkT 0 0 []))]⟩
theorem t0_l_markText (k n : Nat) (a0 : Int) (v1 : ByteArray) : V0_l_markText k (n + 1) a0 v1 = b0_l_markText k (V0_l_markText k n) a0 v1 := by kernel_rfl
theorem e_l_markText (k : Nat) : ∀ n : Nat, V0_l_markText k n = l0_l_markText k n
  | 0 => (by funext a0 v1; rfl)
  | n + 1 => by
    obtain h0 := e_l_markText k n
    exact (by funext a0 v1; rw [t0_l_markText, h0] <;> rfl)
theorem u_l_markText (k : Nat) (a0 : Int) : runX (c_l_markText k) fin_l_markText k 23 [argV (.int .i64) a0] ms0 = g_l_markText k (V0_l_markText k k) a0 := by kernel_rfl
theorem r_l_markText (k : Nat) (a0 : Int) : runX (c_l_markText k) fin_l_markText k 23 [argV (.int .i64) a0] ms0 = l_markText k a0 := by rw [u_l_markText, show V0_l_markText k k = l0_l_markText k k from (e_l_markText k k)] <;> rfl
noncomputable def sp_l_markText (k : Nat) : Spec := .imm (.int .i64) fun (a0 : Int) => .body (l_markText k a0) (outV [.str] [])
noncomputable def c_l_heldSessionS (k : Nat) : Cfg := { eqs := [], tab := [(3, (.int .i64)), (9, .str), (22, (.slice 46 ySession)), (46, ySession)], spec := [(23, sp_l_markText k)], mspec := [], inl := [(15, Try.f15)], keep := [(1500001002, [0, 1, 5])], join := [], hold := [], ptrs := [], maps := [], fuel := k }
noncomputable def fin_l_heldSessionS : VV → Ms → Option Int := finV [(.int .i64)] []
noncomputable def V0_l_heldSessionS (k n : Nat) (a0 : List TSession) (a1 : Int) (v1 : Int) : Option Int := lpN (c_l_heldSessionS k) fin_l_heldSessionS n true 1500001002 (cd [1, 0, 1, 0, 0] (bo Try.f15)) [.b 0, .s (cd [1, 1] (bo Try.f15)), .fn Try.f15] ⟨⟨(mkT 41 0 [(0, one (.slc 46 ySession a0)), (1, one (.int .i64 a1)), (5, one (.int .i64 v1))]), []⟩, 1500001000, 1, [(0, (mkT 0 0 []))]⟩
theorem t0_l_heldSessionS (k n : Nat) (a0 : List TSession) (a1 : Int) (v1 : Int) : V0_l_heldSessionS k (n + 1) a0 a1 v1 = b0_l_heldSessionS k (V0_l_heldSessionS k n) a0 a1 v1 := by kernel_rfl
theorem e_l_heldSessionS (k : Nat) : ∀ n : Nat, V0_l_heldSessionS k n = l0_l_heldSessionS k n
  | 0 => (by funext a0 a1 v1; rfl)
  | n + 1 => by
    obtain h0 := e_l_heldSessionS k n
    exact (by funext a0 a1 v1; rw [t0_l_heldSessionS, h0] <;> rfl)
theorem u_l_heldSessionS (k : Nat) (a0 : List TSession) (a1 : Int) : runX (c_l_heldSessionS k) fin_l_heldSessionS k 15 [argV (.slice 46 ySession) a0, argV (.int .i64) a1] ms0 = g_l_heldSessionS k (V0_l_heldSessionS k k) a0 a1 := by kernel_rfl
theorem r_l_heldSessionS (k : Nat) (a0 : List TSession) (a1 : Int) : runX (c_l_heldSessionS k) fin_l_heldSessionS k 15 [argV (.slice 46 ySession) a0, argV (.int .i64) a1] ms0 = l_heldSessionS k a0 a1 := by rw [u_l_heldSessionS, show V0_l_heldSessionS k k = l0_l_heldSessionS k k from (e_l_heldSessionS k k)] <;> rfl
noncomputable def sp_l_heldSessionS (k : Nat) : Spec := .imm (.slice 46 ySession) fun (a0 : List TSession) => .imm (.int .i64) fun (a1 : Int) => .body (l_heldSessionS k a0 a1) (outV [(.int .i64)] [])
noncomputable def c_l_heldIntS (k : Nat) : Cfg := { eqs := [], tab := [(3, (.int .i64)), (35, (.slice 3 (.int .i64)))], spec := [], mspec := [], inl := [(31, Try.f31)], keep := [(3100001002, [0, 1, 5])], join := [], hold := [], ptrs := [], maps := [], fuel := k }
noncomputable def fin_l_heldIntS : VV → Ms → Option Int := finV [(.int .i64)] []
noncomputable def V0_l_heldIntS (k n : Nat) (a0 : List Int) (a1 : Int) (v1 : Int) : Option Int := lpN (c_l_heldIntS k) fin_l_heldIntS n true 3100001002 (cd [1, 0, 1, 0, 0] (bo Try.f31)) [.b 0, .s (cd [1, 1] (bo Try.f31)), .fn Try.f31] ⟨⟨(mkT 21 0 [(0, one (.slc 3 (.int .i64) a0)), (1, one (.int .i64 a1)), (5, one (.int .i64 v1))]), []⟩, 3100001000, 1, [(0, (mkT 0 0 []))]⟩
theorem t0_l_heldIntS (k n : Nat) (a0 : List Int) (a1 : Int) (v1 : Int) : V0_l_heldIntS k (n + 1) a0 a1 v1 = b0_l_heldIntS k (V0_l_heldIntS k n) a0 a1 v1 := by kernel_rfl
theorem e_l_heldIntS (k : Nat) : ∀ n : Nat, V0_l_heldIntS k n = l0_l_heldIntS k n
  | 0 => (by funext a0 a1 v1; rfl)
  | n + 1 => by
    obtain h0 := e_l_heldIntS k n
    exact (by funext a0 a1 v1; rw [t0_l_heldIntS, h0] <;> rfl)
theorem u_l_heldIntS (k : Nat) (a0 : List Int) (a1 : Int) : runX (c_l_heldIntS k) fin_l_heldIntS k 31 [argV (.slice 3 (.int .i64)) a0, argV (.int .i64) a1] ms0 = g_l_heldIntS k (V0_l_heldIntS k k) a0 a1 := by kernel_rfl
theorem r_l_heldIntS (k : Nat) (a0 : List Int) (a1 : Int) : runX (c_l_heldIntS k) fin_l_heldIntS k 31 [argV (.slice 3 (.int .i64)) a0, argV (.int .i64) a1] ms0 = l_heldIntS k a0 a1 := by rw [u_l_heldIntS, show V0_l_heldIntS k k = l0_l_heldIntS k k from (e_l_heldIntS k k)] <;> rfl
noncomputable def sp_l_heldIntS (k : Nat) : Spec := .imm (.slice 3 (.int .i64)) fun (a0 : List Int) => .imm (.int .i64) fun (a1 : Int) => .body (l_heldIntS k a0 a1) (outV [(.int .i64)] [])
noncomputable def c_l_heldEventS (k : Nat) : Cfg := { eqs := [], tab := [(3, (.int .i64)), (9, .str), (23, (.slice 58 yEvent)), (35, (.slice 3 (.int .i64))), (58, yEvent)], spec := [(23, sp_l_markText k), (31, sp_l_heldIntS k)], mspec := [], inl := [(28, Try.f28)], keep := [(2800001002, [0, 1, 5])], join := [], hold := [], ptrs := [], maps := [], fuel := k }
noncomputable def fin_l_heldEventS : VV → Ms → Option Int := finV [(.int .i64)] []
noncomputable def V0_l_heldEventS (k n : Nat) (a0 : List TEvent) (a1 : Int) (v1 : Int) : Option Int := lpN (c_l_heldEventS k) fin_l_heldEventS n true 2800001002 (cd [1, 0, 1, 0, 0] (bo Try.f28)) [.b 0, .s (cd [1, 1] (bo Try.f28)), .fn Try.f28] ⟨⟨(mkT 95 0 [(0, one (.slc 58 yEvent a0)), (1, one (.int .i64 a1)), (5, one (.int .i64 v1))]), []⟩, 2800001000, 1, [(0, (mkT 0 0 []))]⟩
theorem t0_l_heldEventS (k n : Nat) (a0 : List TEvent) (a1 : Int) (v1 : Int) : V0_l_heldEventS k (n + 1) a0 a1 v1 = b0_l_heldEventS k (V0_l_heldEventS k n) a0 a1 v1 := by kernel_rfl
theorem e_l_heldEventS (k : Nat) : ∀ n : Nat, V0_l_heldEventS k n = l0_l_heldEventS k n
  | 0 => (by funext a0 a1 v1; rfl)
  | n + 1 => by
    obtain h0 := e_l_heldEventS k n
    exact (by funext a0 a1 v1; rw [t0_l_heldEventS, h0] <;> rfl)
theorem u_l_heldEventS (k : Nat) (a0 : List TEvent) (a1 : Int) : runX (c_l_heldEventS k) fin_l_heldEventS k 28 [argV (.slice 58 yEvent) a0, argV (.int .i64) a1] ms0 = g_l_heldEventS k (V0_l_heldEventS k k) a0 a1 := by kernel_rfl
theorem r_l_heldEventS (k : Nat) (a0 : List TEvent) (a1 : Int) : runX (c_l_heldEventS k) fin_l_heldEventS k 28 [argV (.slice 58 yEvent) a0, argV (.int .i64) a1] ms0 = l_heldEventS k a0 a1 := by rw [u_l_heldEventS, show V0_l_heldEventS k k = l0_l_heldEventS k k from (e_l_heldEventS k k)] <;> rfl
noncomputable def sp_l_heldEventS (k : Nat) : Spec := .imm (.slice 58 yEvent) fun (a0 : List TEvent) => .imm (.int .i64) fun (a1 : Int) => .body (l_heldEventS k a0 a1) (outV [(.int .i64)] [])
noncomputable def c_l_heldItemS (k : Nat) : Cfg := { eqs := [], tab := [(3, (.int .i64)), (60, (.slice 66 yItem)), (66, yItem)], spec := [], mspec := [], inl := [(36, Try.f36)], keep := [(3600001002, [0, 1, 5])], join := [], hold := [], ptrs := [], maps := [], fuel := k }
noncomputable def fin_l_heldItemS : VV → Ms → Option Int := finV [(.int .i64)] []
noncomputable def V0_l_heldItemS (k n : Nat) (a0 : List TItem) (a1 : Int) (v1 : Int) : Option Int := lpN (c_l_heldItemS k) fin_l_heldItemS n true 3600001002 (cd [1, 0, 1, 0, 0] (bo Try.f36)) [.b 0, .s (cd [1, 1] (bo Try.f36)), .fn Try.f36] ⟨⟨(mkT 31 0 [(0, one (.slc 66 yItem a0)), (1, one (.int .i64 a1)), (5, one (.int .i64 v1))]), []⟩, 3600001000, 1, [(0, (mkT 0 0 []))]⟩
theorem t0_l_heldItemS (k n : Nat) (a0 : List TItem) (a1 : Int) (v1 : Int) : V0_l_heldItemS k (n + 1) a0 a1 v1 = b0_l_heldItemS k (V0_l_heldItemS k n) a0 a1 v1 := by kernel_rfl
theorem e_l_heldItemS (k : Nat) : ∀ n : Nat, V0_l_heldItemS k n = l0_l_heldItemS k n
  | 0 => (by funext a0 a1 v1; rfl)
  | n + 1 => by
    obtain h0 := e_l_heldItemS k n
    exact (by funext a0 a1 v1; rw [t0_l_heldItemS, h0] <;> rfl)
theorem u_l_heldItemS (k : Nat) (a0 : List TItem) (a1 : Int) : runX (c_l_heldItemS k) fin_l_heldItemS k 36 [argV (.slice 66 yItem) a0, argV (.int .i64) a1] ms0 = g_l_heldItemS k (V0_l_heldItemS k k) a0 a1 := by kernel_rfl
theorem r_l_heldItemS (k : Nat) (a0 : List TItem) (a1 : Int) : runX (c_l_heldItemS k) fin_l_heldItemS k 36 [argV (.slice 66 yItem) a0, argV (.int .i64) a1] ms0 = l_heldItemS k a0 a1 := by rw [u_l_heldItemS, show V0_l_heldItemS k k = l0_l_heldItemS k k from (e_l_heldItemS k k)] <;> rfl
noncomputable def sp_l_heldItemS (k : Nat) : Spec := .imm (.slice 66 yItem) fun (a0 : List TItem) => .imm (.int .i64) fun (a1 : Int) => .body (l_heldItemS k a0 a1) (outV [(.int .i64)] [])
noncomputable def c_l_heldItemSS (k : Nat) : Cfg := { eqs := [], tab := [(24, (.slice 60 (.slice 66 yItem))), (60, (.slice 66 yItem))], spec := [(36, sp_l_heldItemS k)], mspec := [], inl := [(29, Try.f29)], keep := [(2900001002, [0, 1, 5])], join := [], hold := [], ptrs := [], maps := [], fuel := k }
noncomputable def fin_l_heldItemSS : VV → Ms → Option Int := finV [(.int .i64)] []
noncomputable def V0_l_heldItemSS (k n : Nat) (a0 : List (List TItem)) (a1 : Int) (v1 : Int) : Option Int := lpN (c_l_heldItemSS k) fin_l_heldItemSS n true 2900001002 (cd [1, 0, 1, 0, 0] (bo Try.f29)) [.b 0, .s (cd [1, 1] (bo Try.f29)), .fn Try.f29] ⟨⟨(mkT 21 0 [(0, one (.slc 60 (.slice 66 yItem) a0)), (1, one (.int .i64 a1)), (5, one (.int .i64 v1))]), []⟩, 2900001000, 1, [(0, (mkT 0 0 []))]⟩
theorem t0_l_heldItemSS (k n : Nat) (a0 : List (List TItem)) (a1 : Int) (v1 : Int) : V0_l_heldItemSS k (n + 1) a0 a1 v1 = b0_l_heldItemSS k (V0_l_heldItemSS k n) a0 a1 v1 := by kernel_rfl
theorem e_l_heldItemSS (k : Nat) : ∀ n : Nat, V0_l_heldItemSS k n = l0_l_heldItemSS k n
  | 0 => (by funext a0 a1 v1; rfl)
  | n + 1 => by
    obtain h0 := e_l_heldItemSS k n
    exact (by funext a0 a1 v1; rw [t0_l_heldItemSS, h0] <;> rfl)
theorem u_l_heldItemSS (k : Nat) (a0 : List (List TItem)) (a1 : Int) : runX (c_l_heldItemSS k) fin_l_heldItemSS k 29 [argV (.slice 60 (.slice 66 yItem)) a0, argV (.int .i64) a1] ms0 = g_l_heldItemSS k (V0_l_heldItemSS k k) a0 a1 := by kernel_rfl
theorem r_l_heldItemSS (k : Nat) (a0 : List (List TItem)) (a1 : Int) : runX (c_l_heldItemSS k) fin_l_heldItemSS k 29 [argV (.slice 60 (.slice 66 yItem)) a0, argV (.int .i64) a1] ms0 = l_heldItemSS k a0 a1 := by rw [u_l_heldItemSS, show V0_l_heldItemSS k k = l0_l_heldItemSS k k from (e_l_heldItemSS k k)] <;> rfl
noncomputable def sp_l_heldItemSS (k : Nat) : Spec := .imm (.slice 60 (.slice 66 yItem)) fun (a0 : List (List TItem)) => .imm (.int .i64) fun (a1 : Int) => .body (l_heldItemSS k a0 a1) (outV [(.int .i64)] [])
noncomputable def c_l_heldBoolS (k : Nat) : Cfg := { eqs := [], tab := [(4, .bool), (25, (.slice 4 .bool))], spec := [], mspec := [], inl := [(30, Try.f30)], keep := [(3000001002, [0, 1, 5])], join := [], hold := [], ptrs := [], maps := [], fuel := k }
noncomputable def fin_l_heldBoolS : VV → Ms → Option Int := finV [(.int .i64)] []
noncomputable def V0_l_heldBoolS (k n : Nat) (a0 : List Bool) (a1 : Int) (v1 : Int) : Option Int := lpN (c_l_heldBoolS k) fin_l_heldBoolS n true 3000001002 (cd [1, 0, 1, 0, 0] (bo Try.f30)) [.b 0, .s (cd [1, 1] (bo Try.f30)), .fn Try.f30] ⟨⟨(mkT 23 0 [(0, one (.slc 4 .bool a0)), (1, one (.int .i64 a1)), (5, one (.int .i64 v1))]), []⟩, 3000001000, 1, [(0, (mkT 0 0 []))]⟩
theorem t0_l_heldBoolS (k n : Nat) (a0 : List Bool) (a1 : Int) (v1 : Int) : V0_l_heldBoolS k (n + 1) a0 a1 v1 = b0_l_heldBoolS k (V0_l_heldBoolS k n) a0 a1 v1 := by kernel_rfl
theorem e_l_heldBoolS (k : Nat) : ∀ n : Nat, V0_l_heldBoolS k n = l0_l_heldBoolS k n
  | 0 => (by funext a0 a1 v1; rfl)
  | n + 1 => by
    obtain h0 := e_l_heldBoolS k n
    exact (by funext a0 a1 v1; rw [t0_l_heldBoolS, h0] <;> rfl)
theorem u_l_heldBoolS (k : Nat) (a0 : List Bool) (a1 : Int) : runX (c_l_heldBoolS k) fin_l_heldBoolS k 30 [argV (.slice 4 .bool) a0, argV (.int .i64) a1] ms0 = g_l_heldBoolS k (V0_l_heldBoolS k k) a0 a1 := by kernel_rfl
theorem r_l_heldBoolS (k : Nat) (a0 : List Bool) (a1 : Int) : runX (c_l_heldBoolS k) fin_l_heldBoolS k 30 [argV (.slice 4 .bool) a0, argV (.int .i64) a1] ms0 = l_heldBoolS k a0 a1 := by rw [u_l_heldBoolS, show V0_l_heldBoolS k k = l0_l_heldBoolS k k from (e_l_heldBoolS k k)] <;> rfl
noncomputable def sp_l_heldBoolS (k : Nat) : Spec := .imm (.slice 4 .bool) fun (a0 : List Bool) => .imm (.int .i64) fun (a1 : Int) => .body (l_heldBoolS k a0 a1) (outV [(.int .i64)] [])
noncomputable def c_l_heldRoom (k : Nat) : Cfg := { eqs := [], tab := [(23, (.slice 58 yEvent)), (24, (.slice 60 (.slice 66 yItem))), (25, (.slice 4 .bool)), (27, yRoom)], spec := [(28, sp_l_heldEventS k), (29, sp_l_heldItemSS k), (30, sp_l_heldBoolS k)], mspec := [], inl := [(16, Try.f16)], keep := [], join := [], hold := [], ptrs := [], maps := [], fuel := k }
noncomputable def fin_l_heldRoom : VV → Ms → Option Int := finV [(.int .i64)] []
theorem r_l_heldRoom (k : Nat) (a0 : TRoom) (a1 : Int) : runX (c_l_heldRoom k) fin_l_heldRoom k 16 [argV yRoom a0, argV (.int .i64) a1] ms0 = l_heldRoom k a0 a1 := by kernel_rfl
noncomputable def sp_l_heldRoom (k : Nat) : Spec := .imm yRoom fun (a0 : TRoom) => .imm (.int .i64) fun (a1 : Int) => .body (l_heldRoom k a0 a1) (outV [(.int .i64)] [])
noncomputable def c_l_heldOutS (k : Nat) : Cfg := { eqs := [], tab := [(3, (.int .i64)), (28, (.slice 37 yOut)), (35, (.slice 3 (.int .i64))), (37, yOut)], spec := [(31, sp_l_heldIntS k)], mspec := [], inl := [(17, Try.f17)], keep := [(1700001002, [0, 1, 5])], join := [], hold := [], ptrs := [], maps := [], fuel := k }
noncomputable def fin_l_heldOutS : VV → Ms → Option Int := finV [(.int .i64)] []
noncomputable def V0_l_heldOutS (k n : Nat) (a0 : List TOut) (a1 : Int) (v1 : Int) : Option Int := lpN (c_l_heldOutS k) fin_l_heldOutS n true 1700001002 (cd [1, 0, 1, 0, 0] (bo Try.f17)) [.b 0, .s (cd [1, 1] (bo Try.f17)), .fn Try.f17] ⟨⟨(mkT 40 0 [(0, one (.slc 37 yOut a0)), (1, one (.int .i64 a1)), (5, one (.int .i64 v1))]), []⟩, 1700001000, 1, [(0, (mkT 0 0 []))]⟩
theorem t0_l_heldOutS (k n : Nat) (a0 : List TOut) (a1 : Int) (v1 : Int) : V0_l_heldOutS k (n + 1) a0 a1 v1 = b0_l_heldOutS k (V0_l_heldOutS k n) a0 a1 v1 := by kernel_rfl
theorem e_l_heldOutS (k : Nat) : ∀ n : Nat, V0_l_heldOutS k n = l0_l_heldOutS k n
  | 0 => (by funext a0 a1 v1; rfl)
  | n + 1 => by
    obtain h0 := e_l_heldOutS k n
    exact (by funext a0 a1 v1; rw [t0_l_heldOutS, h0] <;> rfl)
theorem u_l_heldOutS (k : Nat) (a0 : List TOut) (a1 : Int) : runX (c_l_heldOutS k) fin_l_heldOutS k 17 [argV (.slice 37 yOut) a0, argV (.int .i64) a1] ms0 = g_l_heldOutS k (V0_l_heldOutS k k) a0 a1 := by kernel_rfl
theorem r_l_heldOutS (k : Nat) (a0 : List TOut) (a1 : Int) : runX (c_l_heldOutS k) fin_l_heldOutS k 17 [argV (.slice 37 yOut) a0, argV (.int .i64) a1] ms0 = l_heldOutS k a0 a1 := by rw [u_l_heldOutS, show V0_l_heldOutS k k = l0_l_heldOutS k k from (e_l_heldOutS k k)] <;> rfl
noncomputable def sp_l_heldOutS (k : Nat) : Spec := .imm (.slice 37 yOut) fun (a0 : List TOut) => .imm (.int .i64) fun (a1 : Int) => .body (l_heldOutS k a0 a1) (outV [(.int .i64)] [])
noncomputable def c_l_heldHall (k : Nat) : Cfg := { eqs := [], tab := [(22, (.slice 46 ySession)), (27, yRoom), (28, (.slice 37 yOut)), (30, yHall)], spec := [(15, sp_l_heldSessionS k), (16, sp_l_heldRoom k), (17, sp_l_heldOutS k)], mspec := [], inl := [(8, Try.f8)], keep := [], join := [], hold := [], ptrs := [], maps := [], fuel := k }
noncomputable def fin_l_heldHall : VV → Ms → Option Int := finV [(.int .i64)] []
theorem r_l_heldHall (k : Nat) (a0 : THall) (a1 : Int) : runX (c_l_heldHall k) fin_l_heldHall k 8 [argV yHall a0, argV (.int .i64) a1] ms0 = l_heldHall k a0 a1 := by kernel_rfl
noncomputable def sp_l_heldHall (k : Nat) : Spec := .imm yHall fun (a0 : THall) => .imm (.int .i64) fun (a1 : Int) => .body (l_heldHall k a0 a1) (outV [(.int .i64)] [])
noncomputable def c_l_markSessionS (k : Nat) : Cfg := { eqs := [], tab := [(3, (.int .i64)), (9, .str), (22, (.slice 46 ySession)), (46, ySession)], spec := [(23, sp_l_markText k)], mspec := [], inl := [(12, Try.f12)], keep := [(1200001002, [0, 1, 5])], join := [], hold := [], ptrs := [], maps := [], fuel := k }
noncomputable def fin_l_markSessionS : VV → Ms → Option (Int × List TSession × Unit) := finM [(.int .i64)] [] [.row 46 ySession, .imm (.int .i64)]
noncomputable def V0_l_markSessionS (k n : Nat) (a1 : Int) (v1 : Int) (a0 : List TSession) : Option (Int × List TSession × Unit) := lpN (c_l_markSessionS k) fin_l_markSessionS n true 1200001002 (cd [1, 0, 1, 0, 0] (bo Try.f12)) [.b 0, .s (cd [1, 1] (bo Try.f12)), .fn Try.f12] ⟨⟨(mkT 35 0 [(0, one (.row 9000000 none none)), (1, one (.int .i64 a1)), (5, one (.int .i64 v1))]), [(9000000, .row 46 ySession a0 true)]⟩, 1200001000, 1, [(0, (mkT 2 0 [(0, one (.row 9000000 none none))]))]⟩
theorem t0_l_markSessionS (k n : Nat) (a1 : Int) (v1 : Int) (a0 : List TSession) : V0_l_markSessionS k (n + 1) a1 v1 a0 = b0_l_markSessionS k (V0_l_markSessionS k n) a1 v1 a0 := by kernel_rfl
theorem e_l_markSessionS (k : Nat) : ∀ n : Nat, V0_l_markSessionS k n = l0_l_markSessionS k n
  | 0 => (by funext a1 v1 a0; rfl)
  | n + 1 => by
    obtain h0 := e_l_markSessionS k n
    exact (by funext a1 v1 a0; rw [t0_l_markSessionS, h0] <;> rfl)
theorem u_l_markSessionS (k : Nat) (a0 : List TSession) (a1 : Int) : runX (c_l_markSessionS k) fin_l_markSessionS k 12 (pArgsV 1 [.row 46 ySession, .imm (.int .i64)] (a0, a1, ())) (ms1 [.row 46 ySession, .imm (.int .i64)] (a0, a1, ())) = g_l_markSessionS k (V0_l_markSessionS k k) a0 a1 := by kernel_rfl
theorem r_l_markSessionS (k : Nat) (a0 : List TSession) (a1 : Int) : runX (c_l_markSessionS k) fin_l_markSessionS k 12 (pArgsV 1 [.row 46 ySession, .imm (.int .i64)] (a0, a1, ())) (ms1 [.row 46 ySession, .imm (.int .i64)] (a0, a1, ())) = l_markSessionS k a0 a1 := by rw [u_l_markSessionS, show V0_l_markSessionS k k = l0_l_markSessionS k k from (e_l_markSessionS k k)] <;> rfl
noncomputable def sp_l_markSessionS (k : Nat) : MSpec := .row 46 ySession fun (a0 : List TSession) => .imm (.int .i64) fun (a1 : Int) => .body (l_markSessionS k a0 a1) (fun r => outV [(.int .i64)] [] r.1) (fun r => poV [.row 46 ySession, .imm (.int .i64)] r.2)
noncomputable def c_l_markIntS (k : Nat) : Cfg := { eqs := [], tab := [(3, (.int .i64)), (35, (.slice 3 (.int .i64)))], spec := [], mspec := [], inl := [(27, Try.f27)], keep := [(2700001002, [0, 1, 5])], join := [], hold := [], ptrs := [], maps := [], fuel := k }
noncomputable def fin_l_markIntS : VV → Ms → Option (Int × List Int × Unit) := finM [(.int .i64)] [] [.row 3 (.int .i64), .imm (.int .i64)]
noncomputable def V0_l_markIntS (k n : Nat) (a1 : Int) (v1 : Int) (a0 : List Int) : Option (Int × List Int × Unit) := lpN (c_l_markIntS k) fin_l_markIntS n true 2700001002 (cd [1, 0, 1, 0, 0] (bo Try.f27)) [.b 0, .s (cd [1, 1] (bo Try.f27)), .fn Try.f27] ⟨⟨(mkT 19 0 [(0, one (.row 9000000 none none)), (1, one (.int .i64 a1)), (5, one (.int .i64 v1))]), [(9000000, .row 3 (.int .i64) a0 true)]⟩, 2700001000, 1, [(0, (mkT 2 0 [(0, one (.row 9000000 none none))]))]⟩
theorem t0_l_markIntS (k n : Nat) (a1 : Int) (v1 : Int) (a0 : List Int) : V0_l_markIntS k (n + 1) a1 v1 a0 = b0_l_markIntS k (V0_l_markIntS k n) a1 v1 a0 := by kernel_rfl
theorem e_l_markIntS (k : Nat) : ∀ n : Nat, V0_l_markIntS k n = l0_l_markIntS k n
  | 0 => (by funext a1 v1 a0; rfl)
  | n + 1 => by
    obtain h0 := e_l_markIntS k n
    exact (by funext a1 v1 a0; rw [t0_l_markIntS, h0] <;> rfl)
theorem u_l_markIntS (k : Nat) (a0 : List Int) (a1 : Int) : runX (c_l_markIntS k) fin_l_markIntS k 27 (pArgsV 1 [.row 3 (.int .i64), .imm (.int .i64)] (a0, a1, ())) (ms1 [.row 3 (.int .i64), .imm (.int .i64)] (a0, a1, ())) = g_l_markIntS k (V0_l_markIntS k k) a0 a1 := by kernel_rfl
theorem r_l_markIntS (k : Nat) (a0 : List Int) (a1 : Int) : runX (c_l_markIntS k) fin_l_markIntS k 27 (pArgsV 1 [.row 3 (.int .i64), .imm (.int .i64)] (a0, a1, ())) (ms1 [.row 3 (.int .i64), .imm (.int .i64)] (a0, a1, ())) = l_markIntS k a0 a1 := by rw [u_l_markIntS, show V0_l_markIntS k k = l0_l_markIntS k k from (e_l_markIntS k k)] <;> rfl
noncomputable def sp_l_markIntS (k : Nat) : MSpec := .row 3 (.int .i64) fun (a0 : List Int) => .imm (.int .i64) fun (a1 : Int) => .body (l_markIntS k a0 a1) (fun r => outV [(.int .i64)] [] r.1) (fun r => poV [.row 3 (.int .i64), .imm (.int .i64)] r.2)
noncomputable def c_l_markOutS (k : Nat) : Cfg := { eqs := [], tab := [(3, (.int .i64)), (28, (.slice 37 yOut)), (35, (.slice 3 (.int .i64))), (37, yOut)], spec := [], mspec := [(27, sp_l_markIntS k)], inl := [(14, Try.f14)], keep := [(1400001002, [0, 1, 5])], join := [], hold := [], ptrs := [], maps := [], fuel := k }
noncomputable def fin_l_markOutS : VV → Ms → Option (Int × List TOut × Unit) := finM [(.int .i64)] [] [.tree 37 yOut, .imm (.int .i64)]
noncomputable def V0_l_markOutS (k n : Nat) (a1 : Int) (v1 : Int) (a0 : List TOut) : Option (Int × List TOut × Unit) := lpN (c_l_markOutS k) fin_l_markOutS n true 1400001002 (cd [1, 0, 1, 0, 0] (bo Try.f14)) [.b 0, .s (cd [1, 1] (bo Try.f14)), .fn Try.f14] ⟨⟨(mkT 34 0 [(0, one (.row 9000000 none none)), (1, one (.int .i64 a1)), (5, one (.int .i64 v1))]), [(9000000, .tree 37 yOut a0 0)]⟩, 1400001000, 1, [(0, (mkT 2 0 [(0, one (.row 9000000 none none))]))]⟩
theorem t0_l_markOutS (k n : Nat) (a1 : Int) (v1 : Int) (a0 : List TOut) : V0_l_markOutS k (n + 1) a1 v1 a0 = b0_l_markOutS k (V0_l_markOutS k n) a1 v1 a0 := by kernel_rfl
theorem e_l_markOutS (k : Nat) : ∀ n : Nat, V0_l_markOutS k n = l0_l_markOutS k n
  | 0 => (by funext a1 v1 a0; rfl)
  | n + 1 => by
    obtain h0 := e_l_markOutS k n
    exact (by funext a1 v1 a0; rw [t0_l_markOutS, h0] <;> rfl)
theorem u_l_markOutS (k : Nat) (a0 : List TOut) (a1 : Int) : runX (c_l_markOutS k) fin_l_markOutS k 14 (pArgsV 1 [.tree 37 yOut, .imm (.int .i64)] (a0, a1, ())) (ms1 [.tree 37 yOut, .imm (.int .i64)] (a0, a1, ())) = g_l_markOutS k (V0_l_markOutS k k) a0 a1 := by kernel_rfl
theorem r_l_markOutS (k : Nat) (a0 : List TOut) (a1 : Int) : runX (c_l_markOutS k) fin_l_markOutS k 14 (pArgsV 1 [.tree 37 yOut, .imm (.int .i64)] (a0, a1, ())) (ms1 [.tree 37 yOut, .imm (.int .i64)] (a0, a1, ())) = l_markOutS k a0 a1 := by rw [u_l_markOutS, show V0_l_markOutS k k = l0_l_markOutS k k from (e_l_markOutS k k)] <;> rfl
noncomputable def sp_l_markOutS (k : Nat) : MSpec := .tree 37 yOut fun (a0 : List TOut) => .imm (.int .i64) fun (a1 : Int) => .body (l_markOutS k a0 a1) (fun r => outV [(.int .i64)] [] r.1) (fun r => poV [.tree 37 yOut, .imm (.int .i64)] r.2)
noncomputable def c_l_markEventS (k : Nat) : Cfg := { eqs := [], tab := [(3, (.int .i64)), (9, .str), (23, (.slice 58 yEvent)), (35, (.slice 3 (.int .i64))), (58, yEvent)], spec := [(23, sp_l_markText k)], mspec := [(27, sp_l_markIntS k)], inl := [(24, Try.f24)], keep := [(2400001002, [0, 1, 5])], join := [], hold := [], ptrs := [], maps := [], fuel := k }
noncomputable def fin_l_markEventS : VV → Ms → Option (Int × List TEvent × Unit) := finM [(.int .i64)] [] [.tree 58 yEvent, .imm (.int .i64)]
noncomputable def V0_l_markEventS (k n : Nat) (a1 : Int) (v1 : Int) (a0 : List TEvent) : Option (Int × List TEvent × Unit) := lpN (c_l_markEventS k) fin_l_markEventS n true 2400001002 (cd [1, 0, 1, 0, 0] (bo Try.f24)) [.b 0, .s (cd [1, 1] (bo Try.f24)), .fn Try.f24] ⟨⟨(mkT 77 0 [(0, one (.row 9000000 none none)), (1, one (.int .i64 a1)), (5, one (.int .i64 v1))]), [(9000000, .tree 58 yEvent a0 0)]⟩, 2400001000, 1, [(0, (mkT 2 0 [(0, one (.row 9000000 none none))]))]⟩
theorem t0_l_markEventS (k n : Nat) (a1 : Int) (v1 : Int) (a0 : List TEvent) : V0_l_markEventS k (n + 1) a1 v1 a0 = b0_l_markEventS k (V0_l_markEventS k n) a1 v1 a0 := by kernel_rfl
theorem e_l_markEventS (k : Nat) : ∀ n : Nat, V0_l_markEventS k n = l0_l_markEventS k n
  | 0 => (by funext a1 v1 a0; rfl)
  | n + 1 => by
    obtain h0 := e_l_markEventS k n
    exact (by funext a1 v1 a0; rw [t0_l_markEventS, h0] <;> rfl)
theorem u_l_markEventS (k : Nat) (a0 : List TEvent) (a1 : Int) : runX (c_l_markEventS k) fin_l_markEventS k 24 (pArgsV 1 [.tree 58 yEvent, .imm (.int .i64)] (a0, a1, ())) (ms1 [.tree 58 yEvent, .imm (.int .i64)] (a0, a1, ())) = g_l_markEventS k (V0_l_markEventS k k) a0 a1 := by kernel_rfl
theorem r_l_markEventS (k : Nat) (a0 : List TEvent) (a1 : Int) : runX (c_l_markEventS k) fin_l_markEventS k 24 (pArgsV 1 [.tree 58 yEvent, .imm (.int .i64)] (a0, a1, ())) (ms1 [.tree 58 yEvent, .imm (.int .i64)] (a0, a1, ())) = l_markEventS k a0 a1 := by rw [u_l_markEventS, show V0_l_markEventS k k = l0_l_markEventS k k from (e_l_markEventS k k)] <;> rfl
noncomputable def sp_l_markEventS (k : Nat) : MSpec := .tree 58 yEvent fun (a0 : List TEvent) => .imm (.int .i64) fun (a1 : Int) => .body (l_markEventS k a0 a1) (fun r => outV [(.int .i64)] [] r.1) (fun r => poV [.tree 58 yEvent, .imm (.int .i64)] r.2)
noncomputable def c_l_markItemS (k : Nat) : Cfg := { eqs := [], tab := [(3, (.int .i64)), (60, (.slice 66 yItem)), (66, yItem)], spec := [], mspec := [], inl := [(35, Try.f35)], keep := [(3500001002, [0, 1, 5])], join := [], hold := [], ptrs := [], maps := [], fuel := k }
noncomputable def fin_l_markItemS : VV → Ms → Option (Int × List TItem × Unit) := finM [(.int .i64)] [] [.row 66 yItem, .imm (.int .i64)]
noncomputable def V0_l_markItemS (k n : Nat) (a1 : Int) (v1 : Int) (a0 : List TItem) : Option (Int × List TItem × Unit) := lpN (c_l_markItemS k) fin_l_markItemS n true 3500001002 (cd [1, 0, 1, 0, 0] (bo Try.f35)) [.b 0, .s (cd [1, 1] (bo Try.f35)), .fn Try.f35] ⟨⟨(mkT 27 0 [(0, one (.row 9000000 none none)), (1, one (.int .i64 a1)), (5, one (.int .i64 v1))]), [(9000000, .row 66 yItem a0 true)]⟩, 3500001000, 1, [(0, (mkT 2 0 [(0, one (.row 9000000 none none))]))]⟩
theorem t0_l_markItemS (k n : Nat) (a1 : Int) (v1 : Int) (a0 : List TItem) : V0_l_markItemS k (n + 1) a1 v1 a0 = b0_l_markItemS k (V0_l_markItemS k n) a1 v1 a0 := by kernel_rfl
theorem e_l_markItemS (k : Nat) : ∀ n : Nat, V0_l_markItemS k n = l0_l_markItemS k n
  | 0 => (by funext a1 v1 a0; rfl)
  | n + 1 => by
    obtain h0 := e_l_markItemS k n
    exact (by funext a1 v1 a0; rw [t0_l_markItemS, h0] <;> rfl)
theorem u_l_markItemS (k : Nat) (a0 : List TItem) (a1 : Int) : runX (c_l_markItemS k) fin_l_markItemS k 35 (pArgsV 1 [.row 66 yItem, .imm (.int .i64)] (a0, a1, ())) (ms1 [.row 66 yItem, .imm (.int .i64)] (a0, a1, ())) = g_l_markItemS k (V0_l_markItemS k k) a0 a1 := by kernel_rfl
theorem r_l_markItemS (k : Nat) (a0 : List TItem) (a1 : Int) : runX (c_l_markItemS k) fin_l_markItemS k 35 (pArgsV 1 [.row 66 yItem, .imm (.int .i64)] (a0, a1, ())) (ms1 [.row 66 yItem, .imm (.int .i64)] (a0, a1, ())) = l_markItemS k a0 a1 := by rw [u_l_markItemS, show V0_l_markItemS k k = l0_l_markItemS k k from (e_l_markItemS k k)] <;> rfl
noncomputable def sp_l_markItemS (k : Nat) : MSpec := .row 66 yItem fun (a0 : List TItem) => .imm (.int .i64) fun (a1 : Int) => .body (l_markItemS k a0 a1) (fun r => outV [(.int .i64)] [] r.1) (fun r => poV [.row 66 yItem, .imm (.int .i64)] r.2)
noncomputable def c_l_markItemSS (k : Nat) : Cfg := { eqs := [], tab := [(24, (.slice 60 (.slice 66 yItem))), (60, (.slice 66 yItem))], spec := [], mspec := [(35, sp_l_markItemS k)], inl := [(25, Try.f25)], keep := [(2500001002, [0, 1, 5])], join := [], hold := [], ptrs := [], maps := [], fuel := k }
noncomputable def fin_l_markItemSS : VV → Ms → Option (Int × List (List TItem) × Unit) := finM [(.int .i64)] [] [.tree 60 (.slice 66 yItem), .imm (.int .i64)]
noncomputable def V0_l_markItemSS (k n : Nat) (a1 : Int) (v1 : Int) (a0 : List (List TItem)) : Option (Int × List (List TItem) × Unit) := lpN (c_l_markItemSS k) fin_l_markItemSS n true 2500001002 (cd [1, 0, 1, 0, 0] (bo Try.f25)) [.b 0, .s (cd [1, 1] (bo Try.f25)), .fn Try.f25] ⟨⟨(mkT 19 0 [(0, one (.row 9000000 none none)), (1, one (.int .i64 a1)), (5, one (.int .i64 v1))]), [(9000000, .tree 60 (.slice 66 yItem) a0 0)]⟩, 2500001000, 1, [(0, (mkT 2 0 [(0, one (.row 9000000 none none))]))]⟩
theorem t0_l_markItemSS (k n : Nat) (a1 : Int) (v1 : Int) (a0 : List (List TItem)) : V0_l_markItemSS k (n + 1) a1 v1 a0 = b0_l_markItemSS k (V0_l_markItemSS k n) a1 v1 a0 := by kernel_rfl
theorem e_l_markItemSS (k : Nat) : ∀ n : Nat, V0_l_markItemSS k n = l0_l_markItemSS k n
  | 0 => (by funext a1 v1 a0; rfl)
  | n + 1 => by
    obtain h0 := e_l_markItemSS k n
    exact (by funext a1 v1 a0; rw [t0_l_markItemSS, h0] <;> rfl)
theorem u_l_markItemSS (k : Nat) (a0 : List (List TItem)) (a1 : Int) : runX (c_l_markItemSS k) fin_l_markItemSS k 25 (pArgsV 1 [.tree 60 (.slice 66 yItem), .imm (.int .i64)] (a0, a1, ())) (ms1 [.tree 60 (.slice 66 yItem), .imm (.int .i64)] (a0, a1, ())) = g_l_markItemSS k (V0_l_markItemSS k k) a0 a1 := by kernel_rfl
theorem r_l_markItemSS (k : Nat) (a0 : List (List TItem)) (a1 : Int) : runX (c_l_markItemSS k) fin_l_markItemSS k 25 (pArgsV 1 [.tree 60 (.slice 66 yItem), .imm (.int .i64)] (a0, a1, ())) (ms1 [.tree 60 (.slice 66 yItem), .imm (.int .i64)] (a0, a1, ())) = l_markItemSS k a0 a1 := by rw [u_l_markItemSS, show V0_l_markItemSS k k = l0_l_markItemSS k k from (e_l_markItemSS k k)] <;> rfl
noncomputable def sp_l_markItemSS (k : Nat) : MSpec := .tree 60 (.slice 66 yItem) fun (a0 : List (List TItem)) => .imm (.int .i64) fun (a1 : Int) => .body (l_markItemSS k a0 a1) (fun r => outV [(.int .i64)] [] r.1) (fun r => poV [.tree 60 (.slice 66 yItem), .imm (.int .i64)] r.2)
noncomputable def c_l_markBoolS (k : Nat) : Cfg := { eqs := [], tab := [(4, .bool), (25, (.slice 4 .bool))], spec := [], mspec := [], inl := [(26, Try.f26)], keep := [(2600001002, [0, 1, 5])], join := [], hold := [], ptrs := [], maps := [], fuel := k }
noncomputable def fin_l_markBoolS : VV → Ms → Option (Int × List Bool × Unit) := finM [(.int .i64)] [] [.row 4 .bool, .imm (.int .i64)]
noncomputable def V0_l_markBoolS (k n : Nat) (a1 : Int) (v1 : Int) (a0 : List Bool) : Option (Int × List Bool × Unit) := lpN (c_l_markBoolS k) fin_l_markBoolS n true 2600001002 (cd [1, 0, 1, 0, 0] (bo Try.f26)) [.b 0, .s (cd [1, 1] (bo Try.f26)), .fn Try.f26] ⟨⟨(mkT 21 0 [(0, one (.row 9000000 none none)), (1, one (.int .i64 a1)), (5, one (.int .i64 v1))]), [(9000000, .row 4 .bool a0 true)]⟩, 2600001000, 1, [(0, (mkT 2 0 [(0, one (.row 9000000 none none))]))]⟩
theorem t0_l_markBoolS (k n : Nat) (a1 : Int) (v1 : Int) (a0 : List Bool) : V0_l_markBoolS k (n + 1) a1 v1 a0 = b0_l_markBoolS k (V0_l_markBoolS k n) a1 v1 a0 := by kernel_rfl
theorem e_l_markBoolS (k : Nat) : ∀ n : Nat, V0_l_markBoolS k n = l0_l_markBoolS k n
  | 0 => (by funext a1 v1 a0; rfl)
  | n + 1 => by
    obtain h0 := e_l_markBoolS k n
    exact (by funext a1 v1 a0; rw [t0_l_markBoolS, h0] <;> rfl)
theorem u_l_markBoolS (k : Nat) (a0 : List Bool) (a1 : Int) : runX (c_l_markBoolS k) fin_l_markBoolS k 26 (pArgsV 1 [.row 4 .bool, .imm (.int .i64)] (a0, a1, ())) (ms1 [.row 4 .bool, .imm (.int .i64)] (a0, a1, ())) = g_l_markBoolS k (V0_l_markBoolS k k) a0 a1 := by kernel_rfl
theorem r_l_markBoolS (k : Nat) (a0 : List Bool) (a1 : Int) : runX (c_l_markBoolS k) fin_l_markBoolS k 26 (pArgsV 1 [.row 4 .bool, .imm (.int .i64)] (a0, a1, ())) (ms1 [.row 4 .bool, .imm (.int .i64)] (a0, a1, ())) = l_markBoolS k a0 a1 := by rw [u_l_markBoolS, show V0_l_markBoolS k k = l0_l_markBoolS k k from (e_l_markBoolS k k)] <;> rfl
noncomputable def sp_l_markBoolS (k : Nat) : MSpec := .row 4 .bool fun (a0 : List Bool) => .imm (.int .i64) fun (a1 : Int) => .body (l_markBoolS k a0 a1) (fun r => outV [(.int .i64)] [] r.1) (fun r => poV [.row 4 .bool, .imm (.int .i64)] r.2)
noncomputable def c_l_FnExactHallNew (k : Nat) : Cfg := { eqs := [], tab := [(22, (.slice 46 ySession)), (23, (.slice 58 yEvent)), (24, (.slice 60 (.slice 66 yItem))), (25, (.slice 4 .bool)), (27, yRoom), (28, (.slice 37 yOut)), (30, yHall)], spec := [(4, sp_s_HallNew k), (5, sp_i_HallNew k), (6, sp_l_eqHall k), (8, sp_l_heldHall k)], mspec := [(12, sp_l_markSessionS k), (14, sp_l_markOutS k), (24, sp_l_markEventS k), (25, sp_l_markItemSS k), (26, sp_l_markBoolS k)], inl := [(3, Try.f3), (7, Try.f7), (13, Try.f13)], keep := [], join := [], hold := [], ptrs := [], maps := [], fuel := k }
noncomputable def fin_l_FnExactHallNew : VV → Ms → Option Bool := finV [.bool] []
theorem r_l_FnExactHallNew (k : Nat) : runX (c_l_FnExactHallNew k) fin_l_FnExactHallNew k 3 [] ms0 = l_FnExactHallNew k := by kernel_rfl
noncomputable def sp_l_FnExactHallNew (k : Nat) : Spec := .body (l_FnExactHallNew k) (outV [.bool] [])
end Go.Vm
