/- The machine computes them. -/
import Derived.Test.YtgkcajcpnlkdfaaG2
import Derived.Test.YtgkcajcpnlkdfaaWc
import Derived.Test.YtgkcajcpnlkdfaaProg
import Derived.KernelRfl
set_option linter.unusedVariables false
namespace Go.Vm
open Go Go.Proofs
abbrev yEvent : Ty := (.fld (.int .i64) (.fld (.int .i64) (.fld (.int .i64) (.fld (.int .i64) (.fld (.int .i64) (.fld (.slice 3 (.int .i64)) (.fld .str (.fld (.slice 3 (.int .i64)) (.fld (.int .i64) .nil)))))))))
abbrev yItem : Ty := (.fld (.int .i64) (.fld (.int .i64) .nil))
abbrev yRoom : Ty := (.fld (.slice 65 yEvent) (.fld (.slice 64 (.slice 96 yItem)) (.fld (.slice 4 .bool) .nil)))
abbrev yRoom1 : Ty := (.fld (.slice 26 yEvent) (.fld (.slice 53 (.slice 91 yItem)) (.fld (.slice 4 .bool) .nil)))
abbrev yOut : Ty := (.fld (.int .i64) (.fld (.int .i64) (.fld (.slice 3 (.int .i64)) .nil)))
abbrev ySession : Ty := (.fld (.int .i64) (.fld (.int .i64) (.fld .str .nil)))
abbrev yHall : Ty := (.fld (.slice 119 ySession) (.fld yRoom1 (.fld (.slice 105 yOut) .nil)))
noncomputable def c_l_szIntS (k : Nat) : Cfg := { eqs := [], tab := [(24, (.slice 3 (.int .i64)))], spec := [], mspec := [], inl := [(74, Try.f74)], keep := [], join := [], hold := [], ptrs := [], maps := [], fuel := k }
noncomputable def fin_l_szIntS : VV → Ms → Option Int := finV [(.int .i64)] []
theorem r_l_szIntS (k : Nat) (a0 : List Int) (a1 : Int) : runX (c_l_szIntS k) fin_l_szIntS k 74 [argV (.slice 3 (.int .i64)) a0, argV (.int .i64) a1] ms0 = l_szIntS k a0 a1 := by kernel_rfl
noncomputable def sp_l_szIntS (k : Nat) : Spec := .imm (.slice 3 (.int .i64)) fun (a0 : List Int) => .imm (.int .i64) fun (a1 : Int) => .body (l_szIntS k a0 a1) (outV [(.int .i64)] [])
noncomputable def c_l_szEvent (k : Nat) : Cfg := { eqs := [], tab := [(9, .str), (24, (.slice 3 (.int .i64))), (65, yEvent)], spec := [(74, sp_l_szIntS k)], mspec := [], inl := [(44, Try.f44)], keep := [], join := [], hold := [], ptrs := [], maps := [], fuel := k }
noncomputable def fin_l_szEvent : VV → Ms → Option Int := finV [(.int .i64)] []
theorem r_l_szEvent (k : Nat) (a0 : TEvent) (a1 : Int) : runX (c_l_szEvent k) fin_l_szEvent k 44 [argV yEvent a0, argV (.int .i64) a1] ms0 = l_szEvent k a0 a1 := by kernel_rfl
noncomputable def sp_l_szEvent (k : Nat) : Spec := .imm yEvent fun (a0 : TEvent) => .imm (.int .i64) fun (a1 : Int) => .body (l_szEvent k a0 a1) (outV [(.int .i64)] [])
noncomputable def c_l_szEventS (k : Nat) : Cfg := { eqs := [], tab := [(22, (.slice 65 yEvent)), (65, yEvent)], spec := [(44, sp_l_szEvent k)], mspec := [], inl := [(11, Try.f11)], keep := [(1100001005, [0, 1, 5])], join := [], hold := [], ptrs := [], maps := [], fuel := k }
noncomputable def fin_l_szEventS : VV → Ms → Option Int := finV [(.int .i64)] []
noncomputable def V0_l_szEventS (k n : Nat) (a0 : List TEvent) (v1 : Int) (v2 : Int) : Option Int := lpN (c_l_szEventS k) fin_l_szEventS n true 1100001005 (cd [1, 1, 1, 0, 1, 0, 0] (bo Try.f11)) [.b 0, .s (cd [1, 1, 1, 1] (bo Try.f11)), .fn Try.f11] ⟨⟨(mkT 27 0 [(0, one (.slc 65 yEvent a0)), (1, one (.int .i64 v1)), (5, one (.int .i64 v2))]), []⟩, 1100001000, 1, [(0, (mkT 0 0 []))]⟩
theorem t0_l_szEventS (k n : Nat) (a0 : List TEvent) (v1 : Int) (v2 : Int) : V0_l_szEventS k (n + 1) a0 v1 v2 = b0_l_szEventS k (V0_l_szEventS k n) a0 v1 v2 := by kernel_rfl
theorem e_l_szEventS (k : Nat) : ∀ n : Nat, V0_l_szEventS k n = l0_l_szEventS k n
  | 0 => (by funext a0 v1 v2; rfl)
  | n + 1 => by
    obtain h0 := e_l_szEventS k n
    exact (by funext a0 v1 v2; rw [t0_l_szEventS, h0] <;> rfl)
theorem u_l_szEventS (k : Nat) (a0 : List TEvent) (a1 : Int) : runX (c_l_szEventS k) fin_l_szEventS k 11 [argV (.slice 65 yEvent) a0, argV (.int .i64) a1] ms0 = g_l_szEventS k (V0_l_szEventS k k) a0 a1 := by kernel_rfl
theorem r_l_szEventS (k : Nat) (a0 : List TEvent) (a1 : Int) : runX (c_l_szEventS k) fin_l_szEventS k 11 [argV (.slice 65 yEvent) a0, argV (.int .i64) a1] ms0 = l_szEventS k a0 a1 := by rw [u_l_szEventS, show V0_l_szEventS k k = l0_l_szEventS k k from (e_l_szEventS k k)] <;> rfl
noncomputable def sp_l_szEventS (k : Nat) : Spec := .imm (.slice 65 yEvent) fun (a0 : List TEvent) => .imm (.int .i64) fun (a1 : Int) => .body (l_szEventS k a0 a1) (outV [(.int .i64)] [])
noncomputable def c_s_l10Find (k : Nat) : Cfg := { eqs := [], tab := [(3, (.int .i64)), (26, yEvent), (29, (.slice 26 yEvent))], spec := [], mspec := [], inl := [(58, Try.f58)], keep := [(5800001002, [0, 1, 4, 6])], join := [], hold := [], ptrs := [], maps := [], fuel := k }
noncomputable def fin_s_l10Find : VV → Ms → Option (TEvent × Bool) := finV [yEvent, .bool] [.s, .s]
noncomputable def V0_s_l10Find (k n : Nat) (a0 : List TEvent) (a1 : Int) (v1 : Int) : Option (TEvent × Bool) := lpN (c_s_l10Find k) fin_s_l10Find n true 5800001002 (cd [1, 0, 1, 0, 0] (bo Try.f58)) [.b 0, .s (cd [1, 1] (bo Try.f58)), .fn Try.f58] ⟨⟨(mkT 25 0 [(0, one (.slc 26 yEvent a0)), (1, one (.int .i64 a1)), (4, one (.ptr 9000000 0)), (6, one (.int .i64 v1))]), [(9000000, .box [.int .i64 0, .int .i64 0, .int .i64 0, .int .i64 0, .int .i64 0, .nilS, .str ByteArray.empty, .nilS, .int .i64 0])]⟩, 5800001000, 1, [(0, (mkT 0 0 []))]⟩
theorem t0_s_l10Find (k n : Nat) (a0 : List TEvent) (a1 : Int) (v1 : Int) : V0_s_l10Find k (n + 1) a0 a1 v1 = b0_s_l10Find k (V0_s_l10Find k n) a0 a1 v1 := by kernel_rfl
theorem e_s_l10Find (k : Nat) : ∀ n : Nat, V0_s_l10Find k n = l0_s_l10Find k n
  | 0 => (by funext a0 a1 v1; rfl)
  | n + 1 => by
    obtain h0 := e_s_l10Find k n
    exact (by funext a0 a1 v1; rw [t0_s_l10Find, h0] <;> rfl)
theorem u_s_l10Find (k : Nat) (a0 : List TEvent) (a1 : Int) : runX (c_s_l10Find k) fin_s_l10Find k 58 [argV (.slice 26 yEvent) a0, argV (.int .i64) a1] ms0 = g_s_l10Find k (V0_s_l10Find k k) a0 a1 := by kernel_rfl
theorem r_s_l10Find (k : Nat) (a0 : List TEvent) (a1 : Int) : runX (c_s_l10Find k) fin_s_l10Find k 58 [argV (.slice 26 yEvent) a0, argV (.int .i64) a1] ms0 = s_l10Find k a0 a1 := by rw [u_s_l10Find, show V0_s_l10Find k k = l0_s_l10Find k k from (e_s_l10Find k k)] <;> rfl
noncomputable def sp_s_l10Find (k : Nat) : Spec := .imm (.slice 26 yEvent) fun (a0 : List TEvent) => .imm (.int .i64) fun (a1 : Int) => .body (s_l10Find k a0 a1) (outV [yEvent, .bool] [.s, .s])
noncomputable def c_s_l09Copy (k : Nat) : Cfg := { eqs := [], tab := [(24, (.slice 3 (.int .i64))), (26, yEvent)], spec := [], mspec := [], inl := [(59, Try.f59)], keep := [], join := [], hold := [], ptrs := [], maps := [], fuel := k }
noncomputable def fin_s_l09Copy : VV → Ms → Option TEvent := finV [yEvent] [.o, .o]
theorem r_s_l09Copy (k : Nat) (a0 : TEvent) : runX (c_s_l09Copy k) fin_s_l09Copy k 59 [argV yEvent a0] ms0 = s_l09Copy k a0 := by kernel_rfl
noncomputable def sp_s_l09Copy (k : Nat) : Spec := .imm yEvent fun (a0 : TEvent) => .body (s_l09Copy k a0) (outV [yEvent] [.o, .o])
noncomputable def c_s_Known (k : Nat) : Cfg := { eqs := [], tab := [(26, yEvent)], spec := [(58, sp_s_l10Find k), (59, sp_s_l09Copy k)], mspec := [], inl := [(12, Try.f12)], keep := [], join := [], hold := [], ptrs := [], maps := [], fuel := k }
noncomputable def fin_s_Known : VV → Ms → Option (TEvent × Bool) := finV [yEvent, .bool] [.o, .o]
theorem r_s_Known (k : Nat) (a0 : List TEvent) (a1 : Int) : runX (c_s_Known k) fin_s_Known k 12 [argV (.slice 26 yEvent) a0, argV (.int .i64) a1] ms0 = s_Known k a0 a1 := by kernel_rfl
noncomputable def sp_s_Known (k : Nat) : Spec := .imm (.slice 26 yEvent) fun (a0 : List TEvent) => .imm (.int .i64) fun (a1 : Int) => .body (s_Known k a0 a1) (outV [yEvent, .bool] [.o, .o])
noncomputable def c_l_toIntS (k : Nat) : Cfg := { eqs := [], tab := [(3, (.int .i64)), (24, (.slice 3 (.int .i64)))], spec := [], mspec := [], inl := [(78, Try.f78)], keep := [(7800001003, [0, 3, 4])], join := [], hold := [], ptrs := [], maps := [], fuel := k }
noncomputable def fin_l_toIntS : VV → Ms → Option (List Int) := finV [(.slice 3 (.int .i64))] [.o]
noncomputable def V0_l_toIntS (k n : Nat) (a0 : List Int) (v1 : Int) (xs2 : List Int) : Option (List Int) := lpN (c_l_toIntS k) fin_l_toIntS n true 7800001003 (cd [1, 1, 0, 1, 0, 0] (bo Try.f78)) [.b 0, .s (cd [1, 1, 1] (bo Try.f78)), .fn Try.f78] ⟨⟨(mkT 22 0 [(0, one (.slc 3 (.int .i64) a0)), (3, one (.row 9000000 none none)), (4, one (.int .i64 v1))]), [(9000000, .row 3 (.int .i64) xs2 true)]⟩, 7800001000, 1, [(0, (mkT 0 0 []))]⟩
theorem t0_l_toIntS (k n : Nat) (a0 : List Int) (v1 : Int) (xs2 : List Int) : V0_l_toIntS k (n + 1) a0 v1 xs2 = b0_l_toIntS k (V0_l_toIntS k n) a0 v1 xs2 := by kernel_rfl
theorem e_l_toIntS (k : Nat) : ∀ n : Nat, V0_l_toIntS k n = l0_l_toIntS k n
  | 0 => (by funext a0 v1 xs2; rfl)
  | n + 1 => by
    obtain h0 := e_l_toIntS k n
    exact (by funext a0 v1 xs2; rw [t0_l_toIntS, h0] <;> rfl)
theorem u_l_toIntS (k : Nat) (a0 : List Int) : runX (c_l_toIntS k) fin_l_toIntS k 78 [argV (.slice 3 (.int .i64)) a0] ms0 = g_l_toIntS k (V0_l_toIntS k k) a0 := by kernel_rfl
theorem r_l_toIntS (k : Nat) (a0 : List Int) : runX (c_l_toIntS k) fin_l_toIntS k 78 [argV (.slice 3 (.int .i64)) a0] ms0 = l_toIntS k a0 := by rw [u_l_toIntS, show V0_l_toIntS k k = l0_l_toIntS k k from (e_l_toIntS k k)] <;> rfl
noncomputable def sp_l_toIntS (k : Nat) : Spec := .imm (.slice 3 (.int .i64)) fun (a0 : List Int) => .body (l_toIntS k a0) (outV [(.slice 3 (.int .i64))] [.o])
noncomputable def c_l_toEvent (k : Nat) : Cfg := { eqs := [], tab := [(3, (.int .i64)), (9, .str), (24, (.slice 3 (.int .i64))), (26, yEvent), (65, yEvent)], spec := [(78, sp_l_toIntS k)], mspec := [], inl := [(47, Try.f47)], keep := [], join := [], hold := [], ptrs := [], maps := [], fuel := k }
noncomputable def fin_l_toEvent : VV → Ms → Option TEvent := finV [yEvent] [.o, .o]
theorem r_l_toEvent (k : Nat) (a0 : TEvent) : runX (c_l_toEvent k) fin_l_toEvent k 47 [argV yEvent a0] ms0 = l_toEvent k a0 := by kernel_rfl
noncomputable def sp_l_toEvent (k : Nat) : Spec := .imm yEvent fun (a0 : TEvent) => .body (l_toEvent k a0) (outV [yEvent] [.o, .o])
noncomputable def c_l_toEventS (k : Nat) : Cfg := { eqs := [], tab := [(22, (.slice 65 yEvent)), (26, yEvent), (29, (.slice 26 yEvent)), (65, yEvent)], spec := [(47, sp_l_toEvent k)], mspec := [], inl := [(13, Try.f13)], keep := [(1300001003, [0, 3, 4])], join := [], hold := [], ptrs := [], maps := [], fuel := k, trees := [26] }
noncomputable def fin_l_toEventS : VV → Ms → Option (List TEvent) := finV [(.slice 26 yEvent)] [.t]
noncomputable def V0_l_toEventS (k n : Nat) (a0 : List TEvent) (v1 : Int) (xs2 : List TEvent) : Option (List TEvent) := lpN (c_l_toEventS k) fin_l_toEventS n true 1300001003 (cd [1, 1, 0, 1, 0, 0] (bo Try.f13)) [.b 0, .s (cd [1, 1, 1] (bo Try.f13)), .fn Try.f13] ⟨⟨(mkT 23 0 [(0, one (.slc 65 yEvent a0)), (3, one (.row 9000000 none none)), (4, one (.int .i64 v1))]), [(9000000, .tree 26 yEvent xs2 1)]⟩, 1300001000, 1, [(0, (mkT 0 0 []))]⟩
theorem t0_l_toEventS (k n : Nat) (a0 : List TEvent) (v1 : Int) (xs2 : List TEvent) : V0_l_toEventS k (n + 1) a0 v1 xs2 = b0_l_toEventS k (V0_l_toEventS k n) a0 v1 xs2 := by kernel_rfl
theorem e_l_toEventS (k : Nat) : ∀ n : Nat, V0_l_toEventS k n = l0_l_toEventS k n
  | 0 => (by funext a0 v1 xs2; rfl)
  | n + 1 => by
    obtain h0 := e_l_toEventS k n
    exact (by funext a0 v1 xs2; rw [t0_l_toEventS, h0] <;> rfl)
theorem u_l_toEventS (k : Nat) (a0 : List TEvent) : runX (c_l_toEventS k) fin_l_toEventS k 13 [argV (.slice 65 yEvent) a0] ms0 = g_l_toEventS k (V0_l_toEventS k k) a0 := by kernel_rfl
theorem r_l_toEventS (k : Nat) (a0 : List TEvent) : runX (c_l_toEventS k) fin_l_toEventS k 13 [argV (.slice 65 yEvent) a0] ms0 = l_toEventS k a0 := by rw [u_l_toEventS, show V0_l_toEventS k k = l0_l_toEventS k k from (e_l_toEventS k k)] <;> rfl
noncomputable def sp_l_toEventS (k : Nat) : Spec := .imm (.slice 65 yEvent) fun (a0 : List TEvent) => .body (l_toEventS k a0) (outV [(.slice 26 yEvent)] [.t])
noncomputable def c_i_copyEvent (k : Nat) : Cfg := { eqs := [], tab := [(24, (.slice 3 (.int .i64))), (26, yEvent)], spec := [], mspec := [], inl := [(60, Try.f60)], keep := [], join := [], hold := [], ptrs := [], maps := [], fuel := k }
noncomputable def fin_i_copyEvent : VV → Ms → Option TEvent := finV [yEvent] [.o, .o]
theorem r_i_copyEvent (k : Nat) (a0 : TEvent) : runX (c_i_copyEvent k) fin_i_copyEvent k 60 [argV yEvent a0] ms0 = i_copyEvent k a0 := by kernel_rfl
noncomputable def sp_i_copyEvent (k : Nat) : Spec := .imm yEvent fun (a0 : TEvent) => .body (i_copyEvent k a0) (outV [yEvent] [.o, .o])
noncomputable def c_i_Known (k : Nat) : Cfg := { eqs := [], tab := [(3, (.int .i64)), (26, yEvent), (29, (.slice 26 yEvent))], spec := [(60, sp_i_copyEvent k)], mspec := [], inl := [(14, Try.f14)], keep := [(1400001002, [1, 4, 8, 9, 10])], join := [], hold := [], ptrs := [], maps := [], fuel := k }
noncomputable def fin_i_Known : VV → Ms → Option (TEvent × Bool) := finV [yEvent, .bool] [.o, .o]
noncomputable def V0_i_Known (k n : Nat) (a1 : Int) (a0 : List TEvent) (v1 : Int) : Option (TEvent × Bool) := lpN (c_i_Known k) fin_i_Known n true 1400001002 (cd [1, 0, 1, 0, 0] (bo Try.f14)) [.b 0, .s (cd [1, 1] (bo Try.f14)), .fn Try.f14] ⟨⟨(mkT 22 0 [(1, one (.int .i64 a1)), (4, one (.ptr 9000000 0)), (8, one (.slc 26 yEvent a0)), (9, one (.int .i64 (a0.length : Int))), (10, one (.int .i64 v1))]), [(9000000, .box [.int .i64 0, .int .i64 0, .int .i64 0, .int .i64 0, .int .i64 0, .nilS, .str ByteArray.empty, .nilS, .int .i64 0])]⟩, 1400001000, 1, [(0, (mkT 0 0 []))]⟩
theorem t0_i_Known (k n : Nat) (a1 : Int) (a0 : List TEvent) (v1 : Int) : V0_i_Known k (n + 1) a1 a0 v1 = b0_i_Known k (V0_i_Known k n) a1 a0 v1 := by kernel_rfl
theorem e_i_Known (k : Nat) : ∀ n : Nat, V0_i_Known k n = l0_i_Known k n
  | 0 => (by funext a1 a0 v1; rfl)
  | n + 1 => by
    obtain h0 := e_i_Known k n
    exact (by funext a1 a0 v1; rw [t0_i_Known, h0] <;> rfl)
theorem u_i_Known (k : Nat) (a0 : List TEvent) (a1 : Int) : runX (c_i_Known k) fin_i_Known k 14 [argV (.slice 26 yEvent) a0, argV (.int .i64) a1] ms0 = g_i_Known k (V0_i_Known k k) a0 a1 := by kernel_rfl
theorem r_i_Known (k : Nat) (a0 : List TEvent) (a1 : Int) : runX (c_i_Known k) fin_i_Known k 14 [argV (.slice 26 yEvent) a0, argV (.int .i64) a1] ms0 = i_Known k a0 a1 := by rw [u_i_Known, show V0_i_Known k k = l0_i_Known k k from (e_i_Known k k)] <;> rfl
noncomputable def sp_i_Known (k : Nat) : Spec := .imm (.slice 26 yEvent) fun (a0 : List TEvent) => .imm (.int .i64) fun (a1 : Int) => .body (i_Known k a0 a1) (outV [yEvent, .bool] [.o, .o])
noncomputable def c_l_eqIntS (k : Nat) : Cfg := { eqs := [], tab := [(3, (.int .i64)), (24, (.slice 3 (.int .i64)))], spec := [], mspec := [], inl := [(40, Try.f40)], keep := [(4000001004, [0, 1, 5])], join := [], hold := [], ptrs := [], maps := [], fuel := k }
noncomputable def fin_l_eqIntS : VV → Ms → Option Bool := finV [.bool] []
noncomputable def V0_l_eqIntS (k n : Nat) (a0 : List Int) (a1 : List Int) (v1 : Int) : Option Bool := lpN (c_l_eqIntS k) fin_l_eqIntS n true 4000001004 (cd [1, 1, 0, 1, 0, 0] (bo Try.f40)) [.b 0, .s (cd [1, 1, 1] (bo Try.f40)), .fn Try.f40] ⟨⟨(mkT 26 0 [(0, one (.slc 3 (.int .i64) a0)), (1, one (.slc 3 (.int .i64) a1)), (5, one (.int .i64 v1))]), []⟩, 4000001000, 1, [(0, (mkT 0 0 []))]⟩
theorem t0_l_eqIntS (k n : Nat) (a0 : List Int) (a1 : List Int) (v1 : Int) : V0_l_eqIntS k (n + 1) a0 a1 v1 = b0_l_eqIntS k (V0_l_eqIntS k n) a0 a1 v1 := by kernel_rfl
theorem e_l_eqIntS (k : Nat) : ∀ n : Nat, V0_l_eqIntS k n = l0_l_eqIntS k n
  | 0 => (by funext a0 a1 v1; rfl)
  | n + 1 => by
    obtain h0 := e_l_eqIntS k n
    exact (by funext a0 a1 v1; rw [t0_l_eqIntS, h0] <;> rfl)
theorem u_l_eqIntS (k : Nat) (a0 : List Int) (a1 : List Int) : runX (c_l_eqIntS k) fin_l_eqIntS k 40 [argV (.slice 3 (.int .i64)) a0, argV (.slice 3 (.int .i64)) a1] ms0 = g_l_eqIntS k (V0_l_eqIntS k k) a0 a1 := by kernel_rfl
theorem r_l_eqIntS (k : Nat) (a0 : List Int) (a1 : List Int) : runX (c_l_eqIntS k) fin_l_eqIntS k 40 [argV (.slice 3 (.int .i64)) a0, argV (.slice 3 (.int .i64)) a1] ms0 = l_eqIntS k a0 a1 := by rw [u_l_eqIntS, show V0_l_eqIntS k k = l0_l_eqIntS k k from (e_l_eqIntS k k)] <;> rfl
noncomputable def sp_l_eqIntS (k : Nat) : Spec := .imm (.slice 3 (.int .i64)) fun (a0 : List Int) => .imm (.slice 3 (.int .i64)) fun (a1 : List Int) => .body (l_eqIntS k a0 a1) (outV [.bool] [])
noncomputable def c_l_eqEvent (k : Nat) : Cfg := { eqs := [], tab := [(3, (.int .i64)), (9, .str), (24, (.slice 3 (.int .i64))), (26, yEvent)], spec := [(40, sp_l_eqIntS k)], mspec := [], inl := [(15, Try.f15)], keep := [], join := [], hold := [], ptrs := [], maps := [], fuel := k }
noncomputable def fin_l_eqEvent : VV → Ms → Option Bool := finV [.bool] []
theorem r_l_eqEvent (k : Nat) (a0 : TEvent) (a1 : TEvent) : runX (c_l_eqEvent k) fin_l_eqEvent k 15 [argV yEvent a0, argV yEvent a1] ms0 = l_eqEvent k a0 a1 := by kernel_rfl
noncomputable def sp_l_eqEvent (k : Nat) : Spec := .imm yEvent fun (a0 : TEvent) => .imm yEvent fun (a1 : TEvent) => .body (l_eqEvent k a0 a1) (outV [.bool] [])
noncomputable def c_l_eqEventS (k : Nat) : Cfg := { eqs := [], tab := [(26, yEvent), (29, (.slice 26 yEvent))], spec := [(15, sp_l_eqEvent k)], mspec := [], inl := [(16, Try.f16)], keep := [(1600001004, [0, 1, 5])], join := [], hold := [], ptrs := [], maps := [], fuel := k }
noncomputable def fin_l_eqEventS : VV → Ms → Option Bool := finV [.bool] []
noncomputable def V0_l_eqEventS (k n : Nat) (a0 : List TEvent) (a1 : List TEvent) (v1 : Int) : Option Bool := lpN (c_l_eqEventS k) fin_l_eqEventS n true 1600001004 (cd [1, 1, 0, 1, 0, 0] (bo Try.f16)) [.b 0, .s (cd [1, 1, 1] (bo Try.f16)), .fn Try.f16] ⟨⟨(mkT 27 0 [(0, one (.slc 26 yEvent a0)), (1, one (.slc 26 yEvent a1)), (5, one (.int .i64 v1))]), []⟩, 1600001000, 1, [(0, (mkT 0 0 []))]⟩
theorem t0_l_eqEventS (k n : Nat) (a0 : List TEvent) (a1 : List TEvent) (v1 : Int) : V0_l_eqEventS k (n + 1) a0 a1 v1 = b0_l_eqEventS k (V0_l_eqEventS k n) a0 a1 v1 := by kernel_rfl
theorem e_l_eqEventS (k : Nat) : ∀ n : Nat, V0_l_eqEventS k n = l0_l_eqEventS k n
  | 0 => (by funext a0 a1 v1; rfl)
  | n + 1 => by
    obtain h0 := e_l_eqEventS k n
    exact (by funext a0 a1 v1; rw [t0_l_eqEventS, h0] <;> rfl)
theorem u_l_eqEventS (k : Nat) (a0 : List TEvent) (a1 : List TEvent) : runX (c_l_eqEventS k) fin_l_eqEventS k 16 [argV (.slice 26 yEvent) a0, argV (.slice 26 yEvent) a1] ms0 = g_l_eqEventS k (V0_l_eqEventS k k) a0 a1 := by kernel_rfl
theorem r_l_eqEventS (k : Nat) (a0 : List TEvent) (a1 : List TEvent) : runX (c_l_eqEventS k) fin_l_eqEventS k 16 [argV (.slice 26 yEvent) a0, argV (.slice 26 yEvent) a1] ms0 = l_eqEventS k a0 a1 := by rw [u_l_eqEventS, show V0_l_eqEventS k k = l0_l_eqEventS k k from (e_l_eqEventS k k)] <;> rfl
noncomputable def sp_l_eqEventS (k : Nat) : Spec := .imm (.slice 26 yEvent) fun (a0 : List TEvent) => .imm (.slice 26 yEvent) fun (a1 : List TEvent) => .body (l_eqEventS k a0 a1) (outV [.bool] [])
noncomputable def c_l_markIntS (k : Nat) : Cfg := { eqs := [], tab := [(3, (.int .i64)), (24, (.slice 3 (.int .i64)))], spec := [], mspec := [], inl := [(41, Try.f41)], keep := [(4100001002, [0, 1, 5])], join := [], hold := [], ptrs := [], maps := [], fuel := k }
noncomputable def fin_l_markIntS : VV → Ms → Option (Int × List Int × Unit) := finM [(.int .i64)] [] [.row 3 (.int .i64), .imm (.int .i64)]
noncomputable def V0_l_markIntS (k n : Nat) (a1 : Int) (v1 : Int) (a0 : List Int) : Option (Int × List Int × Unit) := lpN (c_l_markIntS k) fin_l_markIntS n true 4100001002 (cd [1, 0, 1, 0, 0] (bo Try.f41)) [.b 0, .s (cd [1, 1] (bo Try.f41)), .fn Try.f41] ⟨⟨(mkT 19 0 [(0, one (.row 9000000 none none)), (1, one (.int .i64 a1)), (5, one (.int .i64 v1))]), [(9000000, .row 3 (.int .i64) a0 true)]⟩, 4100001000, 1, [(0, (mkT 2 0 [(0, one (.row 9000000 none none))]))]⟩
theorem t0_l_markIntS (k n : Nat) (a1 : Int) (v1 : Int) (a0 : List Int) : V0_l_markIntS k (n + 1) a1 v1 a0 = b0_l_markIntS k (V0_l_markIntS k n) a1 v1 a0 := by kernel_rfl
theorem e_l_markIntS (k : Nat) : ∀ n : Nat, V0_l_markIntS k n = l0_l_markIntS k n
  | 0 => (by funext a1 v1 a0; rfl)
  | n + 1 => by
    obtain h0 := e_l_markIntS k n
    exact (by funext a1 v1 a0; rw [t0_l_markIntS, h0] <;> rfl)
theorem u_l_markIntS (k : Nat) (a0 : List Int) (a1 : Int) : runX (c_l_markIntS k) fin_l_markIntS k 41 (pArgsV 1 [.row 3 (.int .i64), .imm (.int .i64)] (a0, a1, ())) (ms1 [.row 3 (.int .i64), .imm (.int .i64)] (a0, a1, ())) = g_l_markIntS k (V0_l_markIntS k k) a0 a1 := by kernel_rfl
theorem r_l_markIntS (k : Nat) (a0 : List Int) (a1 : Int) : runX (c_l_markIntS k) fin_l_markIntS k 41 (pArgsV 1 [.row 3 (.int .i64), .imm (.int .i64)] (a0, a1, ())) (ms1 [.row 3 (.int .i64), .imm (.int .i64)] (a0, a1, ())) = l_markIntS k a0 a1 := by rw [u_l_markIntS, show V0_l_markIntS k k = l0_l_markIntS k k from (e_l_markIntS k k)] <;> rfl
noncomputable def sp_l_markIntS (k : Nat) : MSpec := .row 3 (.int .i64) fun (a0 : List Int) => .imm (.int .i64) fun (a1 : Int) => .body (l_markIntS k a0 a1) (fun r => outV [(.int .i64)] [] r.1) (fun r => poV [.row 3 (.int .i64), .imm (.int .i64)] r.2)
noncomputable def c_l_markText (k : Nat) : Cfg := { eqs := [], tab := [(3, (.int .i64)), (5, (.int .u8)), (9, .str), (110, (.slice 5 (.int .u8)))], spec := [], mspec := [], inl := [(61, Try.f61)], keep := [(6100001004, [0, 3])], join := [], hold := [], ptrs := [], maps := [], fuel := k }
noncomputable def fin_l_markText : VV → Ms → Option ByteArray := finV [.str] []
noncomputable def V0_l_markText (k n : Nat) (a0 : Int) (v1 : ByteArray) : Option ByteArray := lpN (c_l_markText k) fin_l_markText n true 6100001004 (cd [1, 1, 1, 0, 0, 0] (bo Try.f61)) [.b 0, .s (cd [1, 1, 1, 1] (bo Try.f61)), .fn Try.f61] ⟨⟨(mkT 20 0 [(0, one (.int .i64 a0)), (3, one (.str v1))]), []⟩, 6100001000, 1, [(0, (mkT 0 0 []))]⟩
theorem t0_l_markText (k n : Nat) (a0 : Int) (v1 : ByteArray) : V0_l_markText k (n + 1) a0 v1 = b0_l_markText k (V0_l_markText k n) a0 v1 := by kernel_rfl
theorem e_l_markText (k : Nat) : ∀ n : Nat, V0_l_markText k n = l0_l_markText k n
  | 0 => (by funext a0 v1; rfl)
  | n + 1 => by
    obtain h0 := e_l_markText k n
    exact (by funext a0 v1; rw [t0_l_markText, h0] <;> rfl)
theorem u_l_markText (k : Nat) (a0 : Int) : runX (c_l_markText k) fin_l_markText k 61 [argV (.int .i64) a0] ms0 = g_l_markText k (V0_l_markText k k) a0 := by kernel_rfl
theorem r_l_markText (k : Nat) (a0 : Int) : runX (c_l_markText k) fin_l_markText k 61 [argV (.int .i64) a0] ms0 = l_markText k a0 := by rw [u_l_markText, show V0_l_markText k k = l0_l_markText k k from (e_l_markText k k)] <;> rfl
noncomputable def sp_l_markText (k : Nat) : Spec := .imm (.int .i64) fun (a0 : Int) => .body (l_markText k a0) (outV [.str] [])
noncomputable def c_l_markEventS (k : Nat) : Cfg := { eqs := [], tab := [(3, (.int .i64)), (9, .str), (24, (.slice 3 (.int .i64))), (26, yEvent), (29, (.slice 26 yEvent))], spec := [(61, sp_l_markText k)], mspec := [(41, sp_l_markIntS k)], inl := [(17, Try.f17)], keep := [(1700001002, [0, 1, 5])], join := [], hold := [], ptrs := [], maps := [], fuel := k }
noncomputable def fin_l_markEventS : VV → Ms → Option (Int × List TEvent × Unit) := finM [(.int .i64)] [] [.tree 26 yEvent, .imm (.int .i64)]
noncomputable def V0_l_markEventS (k n : Nat) (a1 : Int) (v1 : Int) (a0 : List TEvent) : Option (Int × List TEvent × Unit) := lpN (c_l_markEventS k) fin_l_markEventS n true 1700001002 (cd [1, 0, 1, 0, 0] (bo Try.f17)) [.b 0, .s (cd [1, 1] (bo Try.f17)), .fn Try.f17] ⟨⟨(mkT 77 0 [(0, one (.row 9000000 none none)), (1, one (.int .i64 a1)), (5, one (.int .i64 v1))]), [(9000000, .tree 26 yEvent a0 0)]⟩, 1700001000, 1, [(0, (mkT 2 0 [(0, one (.row 9000000 none none))]))]⟩
theorem t0_l_markEventS (k n : Nat) (a1 : Int) (v1 : Int) (a0 : List TEvent) : V0_l_markEventS k (n + 1) a1 v1 a0 = b0_l_markEventS k (V0_l_markEventS k n) a1 v1 a0 := by kernel_rfl
theorem e_l_markEventS (k : Nat) : ∀ n : Nat, V0_l_markEventS k n = l0_l_markEventS k n
  | 0 => (by funext a1 v1 a0; rfl)
  | n + 1 => by
    obtain h0 := e_l_markEventS k n
    exact (by funext a1 v1 a0; rw [t0_l_markEventS, h0] <;> rfl)
theorem u_l_markEventS (k : Nat) (a0 : List TEvent) (a1 : Int) : runX (c_l_markEventS k) fin_l_markEventS k 17 (pArgsV 1 [.tree 26 yEvent, .imm (.int .i64)] (a0, a1, ())) (ms1 [.tree 26 yEvent, .imm (.int .i64)] (a0, a1, ())) = g_l_markEventS k (V0_l_markEventS k k) a0 a1 := by kernel_rfl
theorem r_l_markEventS (k : Nat) (a0 : List TEvent) (a1 : Int) : runX (c_l_markEventS k) fin_l_markEventS k 17 (pArgsV 1 [.tree 26 yEvent, .imm (.int .i64)] (a0, a1, ())) (ms1 [.tree 26 yEvent, .imm (.int .i64)] (a0, a1, ())) = l_markEventS k a0 a1 := by rw [u_l_markEventS, show V0_l_markEventS k k = l0_l_markEventS k k from (e_l_markEventS k k)] <;> rfl
noncomputable def sp_l_markEventS (k : Nat) : MSpec := .tree 26 yEvent fun (a0 : List TEvent) => .imm (.int .i64) fun (a1 : Int) => .body (l_markEventS k a0 a1) (fun r => outV [(.int .i64)] [] r.1) (fun r => poV [.tree 26 yEvent, .imm (.int .i64)] r.2)
noncomputable def c_l_heldIntS (k : Nat) : Cfg := { eqs := [], tab := [(3, (.int .i64)), (24, (.slice 3 (.int .i64)))], spec := [], mspec := [], inl := [(42, Try.f42)], keep := [(4200001002, [0, 1, 5])], join := [], hold := [], ptrs := [], maps := [], fuel := k }
noncomputable def fin_l_heldIntS : VV → Ms → Option Int := finV [(.int .i64)] []
noncomputable def V0_l_heldIntS (k n : Nat) (a0 : List Int) (a1 : Int) (v1 : Int) : Option Int := lpN (c_l_heldIntS k) fin_l_heldIntS n true 4200001002 (cd [1, 0, 1, 0, 0] (bo Try.f42)) [.b 0, .s (cd [1, 1] (bo Try.f42)), .fn Try.f42] ⟨⟨(mkT 21 0 [(0, one (.slc 3 (.int .i64) a0)), (1, one (.int .i64 a1)), (5, one (.int .i64 v1))]), []⟩, 4200001000, 1, [(0, (mkT 0 0 []))]⟩
theorem t0_l_heldIntS (k n : Nat) (a0 : List Int) (a1 : Int) (v1 : Int) : V0_l_heldIntS k (n + 1) a0 a1 v1 = b0_l_heldIntS k (V0_l_heldIntS k n) a0 a1 v1 := by kernel_rfl
theorem e_l_heldIntS (k : Nat) : ∀ n : Nat, V0_l_heldIntS k n = l0_l_heldIntS k n
  | 0 => (by funext a0 a1 v1; rfl)
  | n + 1 => by
    obtain h0 := e_l_heldIntS k n
    exact (by funext a0 a1 v1; rw [t0_l_heldIntS, h0] <;> rfl)
theorem u_l_heldIntS (k : Nat) (a0 : List Int) (a1 : Int) : runX (c_l_heldIntS k) fin_l_heldIntS k 42 [argV (.slice 3 (.int .i64)) a0, argV (.int .i64) a1] ms0 = g_l_heldIntS k (V0_l_heldIntS k k) a0 a1 := by kernel_rfl
theorem r_l_heldIntS (k : Nat) (a0 : List Int) (a1 : Int) : runX (c_l_heldIntS k) fin_l_heldIntS k 42 [argV (.slice 3 (.int .i64)) a0, argV (.int .i64) a1] ms0 = l_heldIntS k a0 a1 := by rw [u_l_heldIntS, show V0_l_heldIntS k k = l0_l_heldIntS k k from (e_l_heldIntS k k)] <;> rfl
noncomputable def sp_l_heldIntS (k : Nat) : Spec := .imm (.slice 3 (.int .i64)) fun (a0 : List Int) => .imm (.int .i64) fun (a1 : Int) => .body (l_heldIntS k a0 a1) (outV [(.int .i64)] [])
noncomputable def c_l_heldEvent (k : Nat) : Cfg := { eqs := [], tab := [(24, (.slice 3 (.int .i64))), (26, yEvent)], spec := [(42, sp_l_heldIntS k)], mspec := [], inl := [(19, Try.f19)], keep := [], join := [], hold := [], ptrs := [], maps := [], fuel := k }
noncomputable def fin_l_heldEvent : VV → Ms → Option Int := finV [(.int .i64)] []
theorem r_l_heldEvent (k : Nat) (a0 : TEvent) (a1 : Int) : runX (c_l_heldEvent k) fin_l_heldEvent k 19 [argV yEvent a0, argV (.int .i64) a1] ms0 = l_heldEvent k a0 a1 := by kernel_rfl
noncomputable def sp_l_heldEvent (k : Nat) : Spec := .imm yEvent fun (a0 : TEvent) => .imm (.int .i64) fun (a1 : Int) => .body (l_heldEvent k a0 a1) (outV [(.int .i64)] [])
noncomputable def c_l_FnExactKnown (k : Nat) : Cfg := { eqs := [], tab := [(4, .bool), (24, (.slice 3 (.int .i64))), (26, yEvent)], spec := [(11, sp_l_szEventS k), (12, sp_s_Known k), (13, sp_l_toEventS k), (14, sp_i_Known k), (15, sp_l_eqEvent k), (16, sp_l_eqEventS k), (19, sp_l_heldEvent k)], mspec := [(17, sp_l_markEventS k), (41, sp_l_markIntS k)], inl := [(3, Try.f3), (18, Try.f18)], keep := [], join := [], hold := [], ptrs := [], maps := [], fuel := k }
noncomputable def fin_l_FnExactKnown : VV → Ms → Option Bool := finV [.bool] []
theorem r_l_FnExactKnown (k : Nat) (a0 : List TEvent) (a1 : Int) : runX (c_l_FnExactKnown k) fin_l_FnExactKnown k 3 [argV (.slice 65 yEvent) a0, argV (.int .i64) a1] ms0 = l_FnExactKnown k a0 a1 := by kernel_rfl
noncomputable def sp_l_FnExactKnown (k : Nat) : Spec := .imm (.slice 65 yEvent) fun (a0 : List TEvent) => .imm (.int .i64) fun (a1 : Int) => .body (l_FnExactKnown k a0 a1) (outV [.bool] [])
noncomputable def c_l_szItemS (k : Nat) : Cfg := { eqs := [], tab := [(64, (.slice 96 yItem))], spec := [], mspec := [], inl := [(43, Try.f43)], keep := [], join := [], hold := [], ptrs := [], maps := [], fuel := k }
noncomputable def fin_l_szItemS : VV → Ms → Option Int := finV [(.int .i64)] []
theorem r_l_szItemS (k : Nat) (a0 : List TItem) (a1 : Int) : runX (c_l_szItemS k) fin_l_szItemS k 43 [argV (.slice 96 yItem) a0, argV (.int .i64) a1] ms0 = l_szItemS k a0 a1 := by kernel_rfl
noncomputable def sp_l_szItemS (k : Nat) : Spec := .imm (.slice 96 yItem) fun (a0 : List TItem) => .imm (.int .i64) fun (a1 : Int) => .body (l_szItemS k a0 a1) (outV [(.int .i64)] [])
noncomputable def c_l_szItemSS (k : Nat) : Cfg := { eqs := [], tab := [(36, (.slice 64 (.slice 96 yItem))), (64, (.slice 96 yItem))], spec := [(43, sp_l_szItemS k)], mspec := [], inl := [(29, Try.f29)], keep := [(2900001005, [0, 1, 5])], join := [], hold := [], ptrs := [], maps := [], fuel := k }
noncomputable def fin_l_szItemSS : VV → Ms → Option Int := finV [(.int .i64)] []
noncomputable def V0_l_szItemSS (k n : Nat) (a0 : List (List TItem)) (v1 : Int) (v2 : Int) : Option Int := lpN (c_l_szItemSS k) fin_l_szItemSS n true 2900001005 (cd [1, 1, 1, 0, 1, 0, 0] (bo Try.f29)) [.b 0, .s (cd [1, 1, 1, 1] (bo Try.f29)), .fn Try.f29] ⟨⟨(mkT 27 0 [(0, one (.slc 64 (.slice 96 yItem) a0)), (1, one (.int .i64 v1)), (5, one (.int .i64 v2))]), []⟩, 2900001000, 1, [(0, (mkT 0 0 []))]⟩
theorem t0_l_szItemSS (k n : Nat) (a0 : List (List TItem)) (v1 : Int) (v2 : Int) : V0_l_szItemSS k (n + 1) a0 v1 v2 = b0_l_szItemSS k (V0_l_szItemSS k n) a0 v1 v2 := by kernel_rfl
theorem e_l_szItemSS (k : Nat) : ∀ n : Nat, V0_l_szItemSS k n = l0_l_szItemSS k n
  | 0 => (by funext a0 v1 v2; rfl)
  | n + 1 => by
    obtain h0 := e_l_szItemSS k n
    exact (by funext a0 v1 v2; rw [t0_l_szItemSS, h0] <;> rfl)
theorem u_l_szItemSS (k : Nat) (a0 : List (List TItem)) (a1 : Int) : runX (c_l_szItemSS k) fin_l_szItemSS k 29 [argV (.slice 64 (.slice 96 yItem)) a0, argV (.int .i64) a1] ms0 = g_l_szItemSS k (V0_l_szItemSS k k) a0 a1 := by kernel_rfl
theorem r_l_szItemSS (k : Nat) (a0 : List (List TItem)) (a1 : Int) : runX (c_l_szItemSS k) fin_l_szItemSS k 29 [argV (.slice 64 (.slice 96 yItem)) a0, argV (.int .i64) a1] ms0 = l_szItemSS k a0 a1 := by rw [u_l_szItemSS, show V0_l_szItemSS k k = l0_l_szItemSS k k from (e_l_szItemSS k k)] <;> rfl
noncomputable def sp_l_szItemSS (k : Nat) : Spec := .imm (.slice 64 (.slice 96 yItem)) fun (a0 : List (List TItem)) => .imm (.int .i64) fun (a1 : Int) => .body (l_szItemSS k a0 a1) (outV [(.int .i64)] [])
noncomputable def c_l_szBoolS (k : Nat) : Cfg := { eqs := [], tab := [(37, (.slice 4 .bool))], spec := [], mspec := [], inl := [(62, Try.f62)], keep := [], join := [], hold := [], ptrs := [], maps := [], fuel := k }
noncomputable def fin_l_szBoolS : VV → Ms → Option Int := finV [(.int .i64)] []
theorem r_l_szBoolS (k : Nat) (a0 : List Bool) (a1 : Int) : runX (c_l_szBoolS k) fin_l_szBoolS k 62 [argV (.slice 4 .bool) a0, argV (.int .i64) a1] ms0 = l_szBoolS k a0 a1 := by kernel_rfl
noncomputable def sp_l_szBoolS (k : Nat) : Spec := .imm (.slice 4 .bool) fun (a0 : List Bool) => .imm (.int .i64) fun (a1 : Int) => .body (l_szBoolS k a0 a1) (outV [(.int .i64)] [])
noncomputable def c_l_szRoom (k : Nat) : Cfg := { eqs := [], tab := [(22, (.slice 65 yEvent)), (36, (.slice 64 (.slice 96 yItem))), (37, (.slice 4 .bool)), (39, yRoom)], spec := [(11, sp_l_szEventS k), (29, sp_l_szItemSS k), (62, sp_l_szBoolS k)], mspec := [], inl := [(20, Try.f20)], keep := [], join := [], hold := [], ptrs := [], maps := [], fuel := k }
noncomputable def fin_l_szRoom : VV → Ms → Option Int := finV [(.int .i64)] []
theorem r_l_szRoom (k : Nat) (a0 : TRoom) (a1 : Int) : runX (c_l_szRoom k) fin_l_szRoom k 20 [argV yRoom a0, argV (.int .i64) a1] ms0 = l_szRoom k a0 a1 := by kernel_rfl
noncomputable def sp_l_szRoom (k : Nat) : Spec := .imm yRoom fun (a0 : TRoom) => .imm (.int .i64) fun (a1 : Int) => .body (l_szRoom k a0 a1) (outV [(.int .i64)] [])
noncomputable def c_s_Said (k : Nat) : Cfg := { eqs := [], tab := [(3, (.int .i64)), (4, .bool), (9, .str), (26, yEvent), (29, (.slice 26 yEvent)), (37, (.slice 4 .bool)), (41, (.slice 9 .str)), (45, yRoom1)], spec := [], mspec := [], inl := [(21, Try.f21)], keep := [(2100001003, [1, 3, 4])], join := [], hold := [], ptrs := [], maps := [], fuel := k }
noncomputable def fin_s_Said : VV → Ms → Option (List ByteArray) := finV [(.slice 9 .str)] [.o]
noncomputable def V0_s_Said (k n : Nat) (v1 : Int) (a0 : TRoom) (xs2 : List ByteArray) : Option (List ByteArray) := lpN (c_s_Said k) fin_s_Said n true 2100001003 (cd [1, 1, 0, 1, 0, 0] (bo Try.f21)) [.b 0, .s (cd [1, 1, 1] (bo Try.f21)), .fn Try.f21] ⟨⟨(mkT 44 0 [(1, one (.ptr 9000000 0)), (3, one (.row 9000001 none none)), (4, one (.int .i64 v1))]), [(9000000, .box [.slc 26 yEvent a0.1, .slc 53 (.slice 91 yItem) a0.2.1, .slc 4 .bool a0.2.2.1]), (9000001, .row 9 .str xs2 true)]⟩, 2100001000, 1, [(0, (mkT 0 0 []))]⟩
theorem t0_s_Said (k n : Nat) (v1 : Int) (a0 : TRoom) (xs2 : List ByteArray) : V0_s_Said k (n + 1) v1 a0 xs2 = b0_s_Said k (V0_s_Said k n) v1 a0 xs2 := by kernel_rfl
theorem e_s_Said (k : Nat) : ∀ n : Nat, V0_s_Said k n = l0_s_Said k n
  | 0 => (by funext v1 a0 xs2; rfl)
  | n + 1 => by
    obtain h0 := e_s_Said k n
    exact (by funext v1 a0 xs2; rw [t0_s_Said, h0] <;> rfl)
theorem u_s_Said (k : Nat) (a0 : TRoom) : runX (c_s_Said k) fin_s_Said k 21 [argV yRoom1 a0] ms0 = g_s_Said k (V0_s_Said k k) a0 := by kernel_rfl
theorem r_s_Said (k : Nat) (a0 : TRoom) : runX (c_s_Said k) fin_s_Said k 21 [argV yRoom1 a0] ms0 = s_Said k a0 := by rw [u_s_Said, show V0_s_Said k k = l0_s_Said k k from (e_s_Said k k)] <;> rfl
noncomputable def sp_s_Said (k : Nat) : Spec := .imm yRoom1 fun (a0 : TRoom) => .body (s_Said k a0) (outV [(.slice 9 .str)] [.o])
noncomputable def c_l_toItem (k : Nat) : Cfg := { eqs := [], tab := [(3, (.int .i64)), (91, yItem), (96, yItem)], spec := [], mspec := [], inl := [(77, Try.f77)], keep := [], join := [], hold := [], ptrs := [], maps := [], fuel := k }
noncomputable def fin_l_toItem : VV → Ms → Option TItem := finV [yItem] []
theorem r_l_toItem (k : Nat) (a0 : TItem) : runX (c_l_toItem k) fin_l_toItem k 77 [argV yItem a0] ms0 = l_toItem k a0 := by kernel_rfl
noncomputable def sp_l_toItem (k : Nat) : Spec := .imm yItem fun (a0 : TItem) => .body (l_toItem k a0) (outV [yItem] [])
noncomputable def c_l_toItemS (k : Nat) : Cfg := { eqs := [], tab := [(53, (.slice 91 yItem)), (64, (.slice 96 yItem)), (91, yItem), (96, yItem)], spec := [(77, sp_l_toItem k)], mspec := [], inl := [(46, Try.f46)], keep := [(4600001003, [0, 3, 4])], join := [], hold := [], ptrs := [], maps := [], fuel := k }
noncomputable def fin_l_toItemS : VV → Ms → Option (List TItem) := finV [(.slice 91 yItem)] [.o]
noncomputable def V0_l_toItemS (k n : Nat) (a0 : List TItem) (v1 : Int) (xs2 : List TItem) : Option (List TItem) := lpN (c_l_toItemS k) fin_l_toItemS n true 4600001003 (cd [1, 1, 0, 1, 0, 0] (bo Try.f46)) [.b 0, .s (cd [1, 1, 1] (bo Try.f46)), .fn Try.f46] ⟨⟨(mkT 23 0 [(0, one (.slc 96 yItem a0)), (3, one (.row 9000000 none none)), (4, one (.int .i64 v1))]), [(9000000, .row 91 yItem xs2 true)]⟩, 4600001000, 1, [(0, (mkT 0 0 []))]⟩
theorem t0_l_toItemS (k n : Nat) (a0 : List TItem) (v1 : Int) (xs2 : List TItem) : V0_l_toItemS k (n + 1) a0 v1 xs2 = b0_l_toItemS k (V0_l_toItemS k n) a0 v1 xs2 := by kernel_rfl
theorem e_l_toItemS (k : Nat) : ∀ n : Nat, V0_l_toItemS k n = l0_l_toItemS k n
  | 0 => (by funext a0 v1 xs2; rfl)
  | n + 1 => by
    obtain h0 := e_l_toItemS k n
    exact (by funext a0 v1 xs2; rw [t0_l_toItemS, h0] <;> rfl)
theorem u_l_toItemS (k : Nat) (a0 : List TItem) : runX (c_l_toItemS k) fin_l_toItemS k 46 [argV (.slice 96 yItem) a0] ms0 = g_l_toItemS k (V0_l_toItemS k k) a0 := by kernel_rfl
theorem r_l_toItemS (k : Nat) (a0 : List TItem) : runX (c_l_toItemS k) fin_l_toItemS k 46 [argV (.slice 96 yItem) a0] ms0 = l_toItemS k a0 := by rw [u_l_toItemS, show V0_l_toItemS k k = l0_l_toItemS k k from (e_l_toItemS k k)] <;> rfl
noncomputable def sp_l_toItemS (k : Nat) : Spec := .imm (.slice 96 yItem) fun (a0 : List TItem) => .body (l_toItemS k a0) (outV [(.slice 91 yItem)] [.o])
noncomputable def c_l_toItemSS (k : Nat) : Cfg := { eqs := [], tab := [(36, (.slice 64 (.slice 96 yItem))), (43, (.slice 53 (.slice 91 yItem))), (53, (.slice 91 yItem)), (64, (.slice 96 yItem))], spec := [(46, sp_l_toItemS k)], mspec := [], inl := [(31, Try.f31)], keep := [(3100001003, [0, 3, 4])], join := [], hold := [], ptrs := [], maps := [], fuel := k, trees := [53] }
noncomputable def fin_l_toItemSS : VV → Ms → Option (List (List TItem)) := finV [(.slice 53 (.slice 91 yItem))] [.t]
noncomputable def V0_l_toItemSS (k n : Nat) (a0 : List (List TItem)) (v1 : Int) (xs2 : List (List TItem)) : Option (List (List TItem)) := lpN (c_l_toItemSS k) fin_l_toItemSS n true 3100001003 (cd [1, 1, 0, 1, 0, 0] (bo Try.f31)) [.b 0, .s (cd [1, 1, 1] (bo Try.f31)), .fn Try.f31] ⟨⟨(mkT 23 0 [(0, one (.slc 64 (.slice 96 yItem) a0)), (3, one (.row 9000000 none none)), (4, one (.int .i64 v1))]), [(9000000, .tree 53 (.slice 91 yItem) xs2 1)]⟩, 3100001000, 1, [(0, (mkT 0 0 []))]⟩
theorem t0_l_toItemSS (k n : Nat) (a0 : List (List TItem)) (v1 : Int) (xs2 : List (List TItem)) : V0_l_toItemSS k (n + 1) a0 v1 xs2 = b0_l_toItemSS k (V0_l_toItemSS k n) a0 v1 xs2 := by kernel_rfl
theorem e_l_toItemSS (k : Nat) : ∀ n : Nat, V0_l_toItemSS k n = l0_l_toItemSS k n
  | 0 => (by funext a0 v1 xs2; rfl)
  | n + 1 => by
    obtain h0 := e_l_toItemSS k n
    exact (by funext a0 v1 xs2; rw [t0_l_toItemSS, h0] <;> rfl)
theorem u_l_toItemSS (k : Nat) (a0 : List (List TItem)) : runX (c_l_toItemSS k) fin_l_toItemSS k 31 [argV (.slice 64 (.slice 96 yItem)) a0] ms0 = g_l_toItemSS k (V0_l_toItemSS k k) a0 := by kernel_rfl
theorem r_l_toItemSS (k : Nat) (a0 : List (List TItem)) : runX (c_l_toItemSS k) fin_l_toItemSS k 31 [argV (.slice 64 (.slice 96 yItem)) a0] ms0 = l_toItemSS k a0 := by rw [u_l_toItemSS, show V0_l_toItemSS k k = l0_l_toItemSS k k from (e_l_toItemSS k k)] <;> rfl
noncomputable def sp_l_toItemSS (k : Nat) : Spec := .imm (.slice 64 (.slice 96 yItem)) fun (a0 : List (List TItem)) => .body (l_toItemSS k a0) (outV [(.slice 53 (.slice 91 yItem))] [.t])
noncomputable def c_l_toBoolS (k : Nat) : Cfg := { eqs := [], tab := [(4, .bool), (37, (.slice 4 .bool))], spec := [], mspec := [], inl := [(63, Try.f63)], keep := [(6300001003, [0, 3, 4])], join := [], hold := [], ptrs := [], maps := [], fuel := k }
noncomputable def fin_l_toBoolS : VV → Ms → Option (List Bool) := finV [(.slice 4 .bool)] [.o]
noncomputable def V0_l_toBoolS (k n : Nat) (a0 : List Bool) (v1 : Int) (xs2 : List Bool) : Option (List Bool) := lpN (c_l_toBoolS k) fin_l_toBoolS n true 6300001003 (cd [1, 1, 0, 1, 0, 0] (bo Try.f63)) [.b 0, .s (cd [1, 1, 1] (bo Try.f63)), .fn Try.f63] ⟨⟨(mkT 22 0 [(0, one (.slc 4 .bool a0)), (3, one (.row 9000000 none none)), (4, one (.int .i64 v1))]), [(9000000, .row 4 .bool xs2 true)]⟩, 6300001000, 1, [(0, (mkT 0 0 []))]⟩
theorem t0_l_toBoolS (k n : Nat) (a0 : List Bool) (v1 : Int) (xs2 : List Bool) : V0_l_toBoolS k (n + 1) a0 v1 xs2 = b0_l_toBoolS k (V0_l_toBoolS k n) a0 v1 xs2 := by kernel_rfl
theorem e_l_toBoolS (k : Nat) : ∀ n : Nat, V0_l_toBoolS k n = l0_l_toBoolS k n
  | 0 => (by funext a0 v1 xs2; rfl)
  | n + 1 => by
    obtain h0 := e_l_toBoolS k n
    exact (by funext a0 v1 xs2; rw [t0_l_toBoolS, h0] <;> rfl)
theorem u_l_toBoolS (k : Nat) (a0 : List Bool) : runX (c_l_toBoolS k) fin_l_toBoolS k 63 [argV (.slice 4 .bool) a0] ms0 = g_l_toBoolS k (V0_l_toBoolS k k) a0 := by kernel_rfl
theorem r_l_toBoolS (k : Nat) (a0 : List Bool) : runX (c_l_toBoolS k) fin_l_toBoolS k 63 [argV (.slice 4 .bool) a0] ms0 = l_toBoolS k a0 := by rw [u_l_toBoolS, show V0_l_toBoolS k k = l0_l_toBoolS k k from (e_l_toBoolS k k)] <;> rfl
noncomputable def sp_l_toBoolS (k : Nat) : Spec := .imm (.slice 4 .bool) fun (a0 : List Bool) => .body (l_toBoolS k a0) (outV [(.slice 4 .bool)] [.o])
noncomputable def c_l_toRoom (k : Nat) : Cfg := { eqs := [], tab := [(22, (.slice 65 yEvent)), (29, (.slice 26 yEvent)), (36, (.slice 64 (.slice 96 yItem))), (37, (.slice 4 .bool)), (39, yRoom), (43, (.slice 53 (.slice 91 yItem))), (45, yRoom1)], spec := [(13, sp_l_toEventS k), (31, sp_l_toItemSS k), (63, sp_l_toBoolS k)], mspec := [], inl := [(22, Try.f22)], keep := [], join := [], hold := [], ptrs := [], maps := [], fuel := k }
noncomputable def fin_l_toRoom : VV → Ms → Option TRoom := finV [yRoom1] [.t, .t, .o]
theorem r_l_toRoom (k : Nat) (a0 : TRoom) : runX (c_l_toRoom k) fin_l_toRoom k 22 [argV yRoom a0] ms0 = l_toRoom k a0 := by kernel_rfl
noncomputable def sp_l_toRoom (k : Nat) : Spec := .imm yRoom fun (a0 : TRoom) => .body (l_toRoom k a0) (outV [yRoom1] [.t, .t, .o])
noncomputable def c_i_isGood (k : Nat) : Cfg := { eqs := [], tab := [(4, .bool), (37, (.slice 4 .bool)), (45, yRoom1)], spec := [], mspec := [], inl := [(64, Try.f64)], keep := [], join := [], hold := [], ptrs := [], maps := [], fuel := k }
noncomputable def fin_i_isGood : VV → Ms → Option Bool := finV [.bool] []
theorem r_i_isGood (k : Nat) (a0 : TRoom) (a1 : Int) : runX (c_i_isGood k) fin_i_isGood k 64 [argV yRoom1 a0, argV (.int .i64) a1] ms0 = i_isGood k a0 a1 := by kernel_rfl
noncomputable def sp_i_isGood (k : Nat) : Spec := .imm yRoom1 fun (a0 : TRoom) => .imm (.int .i64) fun (a1 : Int) => .body (i_isGood k a0 a1) (outV [.bool] [])
noncomputable def c_i_Said (k : Nat) : Cfg := { eqs := [], tab := [(3, (.int .i64)), (9, .str), (26, yEvent), (29, (.slice 26 yEvent)), (41, (.slice 9 .str)), (45, yRoom1)], spec := [(64, sp_i_isGood k)], mspec := [], inl := [(23, Try.f23)], keep := [(2300001003, [1, 3, 7, 8, 9])], join := [], hold := [(2300001003, [(3, [0], 9, .str, false, false)])], ptrs := [], maps := [], fuel := k }
noncomputable def fin_i_Said : VV → Ms → Option (List ByteArray) := finV [(.slice 9 .str)] [.o]
noncomputable def V0_i_Said (k n : Nat) (a0 : TRoom) (v1 : Int) (xs2 : List ByteArray) : Option (List ByteArray) := lpN (c_i_Said k) fin_i_Said n true 2300001003 (cd [1, 1, 0, 1, 0, 0] (bo Try.f23)) [.b 0, .s (cd [1, 1, 1] (bo Try.f23)), .fn Try.f23] ⟨⟨(mkT 29 0 [(1, one (.ptr 9000000 0)), (3, one (.row 9000001 none none)), (7, one (.slc 26 yEvent a0.1)), (8, one (.int .i64 (a0.1.length : Int))), (9, one (.int .i64 v1))]), [(9000000, .box [.slc 26 yEvent a0.1, .slc 53 (.slice 91 yItem) a0.2.1, .slc 4 .bool a0.2.2.1]), (9000001, .row 9 .str xs2 true)]⟩, 2300001000, 1, [(0, (mkT 0 0 []))]⟩
theorem t0_i_Said (k n : Nat) (a0 : TRoom) (v1 : Int) (xs2 : List ByteArray) : V0_i_Said k (n + 1) a0 v1 xs2 = b0_i_Said k (V0_i_Said k n) a0 v1 xs2 := by kernel_rfl
theorem e_i_Said (k : Nat) : ∀ n : Nat, V0_i_Said k n = l0_i_Said k n
  | 0 => (by funext a0 v1 xs2; rfl)
  | n + 1 => by
    obtain h0 := e_i_Said k n
    exact (by funext a0 v1 xs2; rw [t0_i_Said, h0] <;> rfl)
theorem u_i_Said (k : Nat) (a0 : TRoom) : runX (c_i_Said k) fin_i_Said k 23 [argV yRoom1 a0] ms0 = g_i_Said k (V0_i_Said k k) a0 := by kernel_rfl
theorem r_i_Said (k : Nat) (a0 : TRoom) : runX (c_i_Said k) fin_i_Said k 23 [argV yRoom1 a0] ms0 = i_Said k a0 := by rw [u_i_Said, show V0_i_Said k k = l0_i_Said k k from (e_i_Said k k)] <;> rfl
noncomputable def sp_i_Said (k : Nat) : Spec := .imm yRoom1 fun (a0 : TRoom) => .body (i_Said k a0) (outV [(.slice 9 .str)] [.o])
noncomputable def c_l_eqStringS (k : Nat) : Cfg := { eqs := [], tab := [(9, .str), (41, (.slice 9 .str))], spec := [], mspec := [], inl := [(24, Try.f24)], keep := [(2400001004, [0, 1, 5])], join := [], hold := [], ptrs := [], maps := [], fuel := k }
noncomputable def fin_l_eqStringS : VV → Ms → Option Bool := finV [.bool] []
noncomputable def V0_l_eqStringS (k n : Nat) (a0 : List ByteArray) (a1 : List ByteArray) (v1 : Int) : Option Bool := lpN (c_l_eqStringS k) fin_l_eqStringS n true 2400001004 (cd [1, 1, 0, 1, 0, 0] (bo Try.f24)) [.b 0, .s (cd [1, 1, 1] (bo Try.f24)), .fn Try.f24] ⟨⟨(mkT 26 0 [(0, one (.slc 9 .str a0)), (1, one (.slc 9 .str a1)), (5, one (.int .i64 v1))]), []⟩, 2400001000, 1, [(0, (mkT 0 0 []))]⟩
theorem t0_l_eqStringS (k n : Nat) (a0 : List ByteArray) (a1 : List ByteArray) (v1 : Int) : V0_l_eqStringS k (n + 1) a0 a1 v1 = b0_l_eqStringS k (V0_l_eqStringS k n) a0 a1 v1 := by kernel_rfl
theorem e_l_eqStringS (k : Nat) : ∀ n : Nat, V0_l_eqStringS k n = l0_l_eqStringS k n
  | 0 => (by funext a0 a1 v1; rfl)
  | n + 1 => by
    obtain h0 := e_l_eqStringS k n
    exact (by funext a0 a1 v1; rw [t0_l_eqStringS, h0] <;> rfl)
theorem u_l_eqStringS (k : Nat) (a0 : List ByteArray) (a1 : List ByteArray) : runX (c_l_eqStringS k) fin_l_eqStringS k 24 [argV (.slice 9 .str) a0, argV (.slice 9 .str) a1] ms0 = g_l_eqStringS k (V0_l_eqStringS k k) a0 a1 := by kernel_rfl
theorem r_l_eqStringS (k : Nat) (a0 : List ByteArray) (a1 : List ByteArray) : runX (c_l_eqStringS k) fin_l_eqStringS k 24 [argV (.slice 9 .str) a0, argV (.slice 9 .str) a1] ms0 = l_eqStringS k a0 a1 := by rw [u_l_eqStringS, show V0_l_eqStringS k k = l0_l_eqStringS k k from (e_l_eqStringS k k)] <;> rfl
noncomputable def sp_l_eqStringS (k : Nat) : Spec := .imm (.slice 9 .str) fun (a0 : List ByteArray) => .imm (.slice 9 .str) fun (a1 : List ByteArray) => .body (l_eqStringS k a0 a1) (outV [.bool] [])
noncomputable def c_l_eqItem (k : Nat) : Cfg := { eqs := [], tab := [(3, (.int .i64)), (91, yItem)], spec := [], mspec := [], inl := [(73, Try.f73)], keep := [], join := [], hold := [], ptrs := [], maps := [], fuel := k }
noncomputable def fin_l_eqItem : VV → Ms → Option Bool := finV [.bool] []
theorem r_l_eqItem (k : Nat) (a0 : TItem) (a1 : TItem) : runX (c_l_eqItem k) fin_l_eqItem k 73 [argV yItem a0, argV yItem a1] ms0 = l_eqItem k a0 a1 := by kernel_rfl
noncomputable def sp_l_eqItem (k : Nat) : Spec := .imm yItem fun (a0 : TItem) => .imm yItem fun (a1 : TItem) => .body (l_eqItem k a0 a1) (outV [.bool] [])
noncomputable def c_l_eqItemS (k : Nat) : Cfg := { eqs := [], tab := [(53, (.slice 91 yItem)), (91, yItem)], spec := [(73, sp_l_eqItem k)], mspec := [], inl := [(33, Try.f33)], keep := [(3300001004, [0, 1, 5])], join := [], hold := [], ptrs := [], maps := [], fuel := k }
noncomputable def fin_l_eqItemS : VV → Ms → Option Bool := finV [.bool] []
noncomputable def V0_l_eqItemS (k n : Nat) (a0 : List TItem) (a1 : List TItem) (v1 : Int) : Option Bool := lpN (c_l_eqItemS k) fin_l_eqItemS n true 3300001004 (cd [1, 1, 0, 1, 0, 0] (bo Try.f33)) [.b 0, .s (cd [1, 1, 1] (bo Try.f33)), .fn Try.f33] ⟨⟨(mkT 27 0 [(0, one (.slc 91 yItem a0)), (1, one (.slc 91 yItem a1)), (5, one (.int .i64 v1))]), []⟩, 3300001000, 1, [(0, (mkT 0 0 []))]⟩
theorem t0_l_eqItemS (k n : Nat) (a0 : List TItem) (a1 : List TItem) (v1 : Int) : V0_l_eqItemS k (n + 1) a0 a1 v1 = b0_l_eqItemS k (V0_l_eqItemS k n) a0 a1 v1 := by kernel_rfl
theorem e_l_eqItemS (k : Nat) : ∀ n : Nat, V0_l_eqItemS k n = l0_l_eqItemS k n
  | 0 => (by funext a0 a1 v1; rfl)
  | n + 1 => by
    obtain h0 := e_l_eqItemS k n
    exact (by funext a0 a1 v1; rw [t0_l_eqItemS, h0] <;> rfl)
theorem u_l_eqItemS (k : Nat) (a0 : List TItem) (a1 : List TItem) : runX (c_l_eqItemS k) fin_l_eqItemS k 33 [argV (.slice 91 yItem) a0, argV (.slice 91 yItem) a1] ms0 = g_l_eqItemS k (V0_l_eqItemS k k) a0 a1 := by kernel_rfl
theorem r_l_eqItemS (k : Nat) (a0 : List TItem) (a1 : List TItem) : runX (c_l_eqItemS k) fin_l_eqItemS k 33 [argV (.slice 91 yItem) a0, argV (.slice 91 yItem) a1] ms0 = l_eqItemS k a0 a1 := by rw [u_l_eqItemS, show V0_l_eqItemS k k = l0_l_eqItemS k k from (e_l_eqItemS k k)] <;> rfl
noncomputable def sp_l_eqItemS (k : Nat) : Spec := .imm (.slice 91 yItem) fun (a0 : List TItem) => .imm (.slice 91 yItem) fun (a1 : List TItem) => .body (l_eqItemS k a0 a1) (outV [.bool] [])
noncomputable def c_l_eqItemSS (k : Nat) : Cfg := { eqs := [], tab := [(43, (.slice 53 (.slice 91 yItem))), (53, (.slice 91 yItem))], spec := [(33, sp_l_eqItemS k)], mspec := [], inl := [(34, Try.f34)], keep := [(3400001004, [0, 1, 5])], join := [], hold := [], ptrs := [], maps := [], fuel := k }
noncomputable def fin_l_eqItemSS : VV → Ms → Option Bool := finV [.bool] []
noncomputable def V0_l_eqItemSS (k n : Nat) (a0 : List (List TItem)) (a1 : List (List TItem)) (v1 : Int) : Option Bool := lpN (c_l_eqItemSS k) fin_l_eqItemSS n true 3400001004 (cd [1, 1, 0, 1, 0, 0] (bo Try.f34)) [.b 0, .s (cd [1, 1, 1] (bo Try.f34)), .fn Try.f34] ⟨⟨(mkT 27 0 [(0, one (.slc 53 (.slice 91 yItem) a0)), (1, one (.slc 53 (.slice 91 yItem) a1)), (5, one (.int .i64 v1))]), []⟩, 3400001000, 1, [(0, (mkT 0 0 []))]⟩
theorem t0_l_eqItemSS (k n : Nat) (a0 : List (List TItem)) (a1 : List (List TItem)) (v1 : Int) : V0_l_eqItemSS k (n + 1) a0 a1 v1 = b0_l_eqItemSS k (V0_l_eqItemSS k n) a0 a1 v1 := by kernel_rfl
theorem e_l_eqItemSS (k : Nat) : ∀ n : Nat, V0_l_eqItemSS k n = l0_l_eqItemSS k n
  | 0 => (by funext a0 a1 v1; rfl)
  | n + 1 => by
    obtain h0 := e_l_eqItemSS k n
    exact (by funext a0 a1 v1; rw [t0_l_eqItemSS, h0] <;> rfl)
theorem u_l_eqItemSS (k : Nat) (a0 : List (List TItem)) (a1 : List (List TItem)) : runX (c_l_eqItemSS k) fin_l_eqItemSS k 34 [argV (.slice 53 (.slice 91 yItem)) a0, argV (.slice 53 (.slice 91 yItem)) a1] ms0 = g_l_eqItemSS k (V0_l_eqItemSS k k) a0 a1 := by kernel_rfl
theorem r_l_eqItemSS (k : Nat) (a0 : List (List TItem)) (a1 : List (List TItem)) : runX (c_l_eqItemSS k) fin_l_eqItemSS k 34 [argV (.slice 53 (.slice 91 yItem)) a0, argV (.slice 53 (.slice 91 yItem)) a1] ms0 = l_eqItemSS k a0 a1 := by rw [u_l_eqItemSS, show V0_l_eqItemSS k k = l0_l_eqItemSS k k from (e_l_eqItemSS k k)] <;> rfl
noncomputable def sp_l_eqItemSS (k : Nat) : Spec := .imm (.slice 53 (.slice 91 yItem)) fun (a0 : List (List TItem)) => .imm (.slice 53 (.slice 91 yItem)) fun (a1 : List (List TItem)) => .body (l_eqItemSS k a0 a1) (outV [.bool] [])
noncomputable def c_l_eqBoolS (k : Nat) : Cfg := { eqs := [], tab := [(4, .bool), (37, (.slice 4 .bool))], spec := [], mspec := [], inl := [(65, Try.f65)], keep := [(6500001004, [0, 1, 5])], join := [], hold := [], ptrs := [], maps := [], fuel := k }
noncomputable def fin_l_eqBoolS : VV → Ms → Option Bool := finV [.bool] []
noncomputable def V0_l_eqBoolS (k n : Nat) (a0 : List Bool) (a1 : List Bool) (v1 : Int) : Option Bool := lpN (c_l_eqBoolS k) fin_l_eqBoolS n true 6500001004 (cd [1, 1, 0, 1, 0, 0] (bo Try.f65)) [.b 0, .s (cd [1, 1, 1] (bo Try.f65)), .fn Try.f65] ⟨⟨(mkT 26 0 [(0, one (.slc 4 .bool a0)), (1, one (.slc 4 .bool a1)), (5, one (.int .i64 v1))]), []⟩, 6500001000, 1, [(0, (mkT 0 0 []))]⟩
theorem t0_l_eqBoolS (k n : Nat) (a0 : List Bool) (a1 : List Bool) (v1 : Int) : V0_l_eqBoolS k (n + 1) a0 a1 v1 = b0_l_eqBoolS k (V0_l_eqBoolS k n) a0 a1 v1 := by kernel_rfl
theorem e_l_eqBoolS (k : Nat) : ∀ n : Nat, V0_l_eqBoolS k n = l0_l_eqBoolS k n
  | 0 => (by funext a0 a1 v1; rfl)
  | n + 1 => by
    obtain h0 := e_l_eqBoolS k n
    exact (by funext a0 a1 v1; rw [t0_l_eqBoolS, h0] <;> rfl)
theorem u_l_eqBoolS (k : Nat) (a0 : List Bool) (a1 : List Bool) : runX (c_l_eqBoolS k) fin_l_eqBoolS k 65 [argV (.slice 4 .bool) a0, argV (.slice 4 .bool) a1] ms0 = g_l_eqBoolS k (V0_l_eqBoolS k k) a0 a1 := by kernel_rfl
theorem r_l_eqBoolS (k : Nat) (a0 : List Bool) (a1 : List Bool) : runX (c_l_eqBoolS k) fin_l_eqBoolS k 65 [argV (.slice 4 .bool) a0, argV (.slice 4 .bool) a1] ms0 = l_eqBoolS k a0 a1 := by rw [u_l_eqBoolS, show V0_l_eqBoolS k k = l0_l_eqBoolS k k from (e_l_eqBoolS k k)] <;> rfl
noncomputable def sp_l_eqBoolS (k : Nat) : Spec := .imm (.slice 4 .bool) fun (a0 : List Bool) => .imm (.slice 4 .bool) fun (a1 : List Bool) => .body (l_eqBoolS k a0 a1) (outV [.bool] [])
noncomputable def c_l_eqRoom (k : Nat) : Cfg := { eqs := [], tab := [(29, (.slice 26 yEvent)), (37, (.slice 4 .bool)), (43, (.slice 53 (.slice 91 yItem))), (45, yRoom1)], spec := [(16, sp_l_eqEventS k), (34, sp_l_eqItemSS k), (65, sp_l_eqBoolS k)], mspec := [], inl := [(25, Try.f25)], keep := [], join := [], hold := [], ptrs := [], maps := [], fuel := k }
noncomputable def fin_l_eqRoom : VV → Ms → Option Bool := finV [.bool] []
theorem r_l_eqRoom (k : Nat) (a0 : TRoom) (a1 : TRoom) : runX (c_l_eqRoom k) fin_l_eqRoom k 25 [argV yRoom1 a0, argV yRoom1 a1] ms0 = l_eqRoom k a0 a1 := by kernel_rfl
noncomputable def sp_l_eqRoom (k : Nat) : Spec := .imm yRoom1 fun (a0 : TRoom) => .imm yRoom1 fun (a1 : TRoom) => .body (l_eqRoom k a0 a1) (outV [.bool] [])
noncomputable def c_l_markStringS (k : Nat) : Cfg := { eqs := [], tab := [(9, .str), (41, (.slice 9 .str))], spec := [(61, sp_l_markText k)], mspec := [], inl := [(27, Try.f27)], keep := [(2700001002, [0, 1, 5])], join := [], hold := [], ptrs := [], maps := [], fuel := k }
noncomputable def fin_l_markStringS : VV → Ms → Option (Int × List ByteArray × Unit) := finM [(.int .i64)] [] [.row 9 .str, .imm (.int .i64)]
noncomputable def V0_l_markStringS (k n : Nat) (a1 : Int) (v1 : Int) (a0 : List ByteArray) : Option (Int × List ByteArray × Unit) := lpN (c_l_markStringS k) fin_l_markStringS n true 2700001002 (cd [1, 0, 1, 0, 0] (bo Try.f27)) [.b 0, .s (cd [1, 1] (bo Try.f27)), .fn Try.f27] ⟨⟨(mkT 20 0 [(0, one (.row 9000000 none none)), (1, one (.int .i64 a1)), (5, one (.int .i64 v1))]), [(9000000, .row 9 .str a0 true)]⟩, 2700001000, 1, [(0, (mkT 2 0 [(0, one (.row 9000000 none none))]))]⟩
theorem t0_l_markStringS (k n : Nat) (a1 : Int) (v1 : Int) (a0 : List ByteArray) : V0_l_markStringS k (n + 1) a1 v1 a0 = b0_l_markStringS k (V0_l_markStringS k n) a1 v1 a0 := by kernel_rfl
theorem e_l_markStringS (k : Nat) : ∀ n : Nat, V0_l_markStringS k n = l0_l_markStringS k n
  | 0 => (by funext a1 v1 a0; rfl)
  | n + 1 => by
    obtain h0 := e_l_markStringS k n
    exact (by funext a1 v1 a0; rw [t0_l_markStringS, h0] <;> rfl)
theorem u_l_markStringS (k : Nat) (a0 : List ByteArray) (a1 : Int) : runX (c_l_markStringS k) fin_l_markStringS k 27 (pArgsV 1 [.row 9 .str, .imm (.int .i64)] (a0, a1, ())) (ms1 [.row 9 .str, .imm (.int .i64)] (a0, a1, ())) = g_l_markStringS k (V0_l_markStringS k k) a0 a1 := by kernel_rfl
theorem r_l_markStringS (k : Nat) (a0 : List ByteArray) (a1 : Int) : runX (c_l_markStringS k) fin_l_markStringS k 27 (pArgsV 1 [.row 9 .str, .imm (.int .i64)] (a0, a1, ())) (ms1 [.row 9 .str, .imm (.int .i64)] (a0, a1, ())) = l_markStringS k a0 a1 := by rw [u_l_markStringS, show V0_l_markStringS k k = l0_l_markStringS k k from (e_l_markStringS k k)] <;> rfl
noncomputable def sp_l_markStringS (k : Nat) : MSpec := .row 9 .str fun (a0 : List ByteArray) => .imm (.int .i64) fun (a1 : Int) => .body (l_markStringS k a0 a1) (fun r => outV [(.int .i64)] [] r.1) (fun r => poV [.row 9 .str, .imm (.int .i64)] r.2)
noncomputable def c_l_heldStringS (k : Nat) : Cfg := { eqs := [], tab := [(9, .str), (41, (.slice 9 .str))], spec := [(61, sp_l_markText k)], mspec := [], inl := [(28, Try.f28)], keep := [(2800001002, [0, 1, 5])], join := [], hold := [], ptrs := [], maps := [], fuel := k }
noncomputable def fin_l_heldStringS : VV → Ms → Option Int := finV [(.int .i64)] []
noncomputable def V0_l_heldStringS (k n : Nat) (a0 : List ByteArray) (a1 : Int) (v1 : Int) : Option Int := lpN (c_l_heldStringS k) fin_l_heldStringS n true 2800001002 (cd [1, 0, 1, 0, 0] (bo Try.f28)) [.b 0, .s (cd [1, 1] (bo Try.f28)), .fn Try.f28] ⟨⟨(mkT 22 0 [(0, one (.slc 9 .str a0)), (1, one (.int .i64 a1)), (5, one (.int .i64 v1))]), []⟩, 2800001000, 1, [(0, (mkT 0 0 []))]⟩
theorem t0_l_heldStringS (k n : Nat) (a0 : List ByteArray) (a1 : Int) (v1 : Int) : V0_l_heldStringS k (n + 1) a0 a1 v1 = b0_l_heldStringS k (V0_l_heldStringS k n) a0 a1 v1 := by kernel_rfl
theorem e_l_heldStringS (k : Nat) : ∀ n : Nat, V0_l_heldStringS k n = l0_l_heldStringS k n
  | 0 => (by funext a0 a1 v1; rfl)
  | n + 1 => by
    obtain h0 := e_l_heldStringS k n
    exact (by funext a0 a1 v1; rw [t0_l_heldStringS, h0] <;> rfl)
theorem u_l_heldStringS (k : Nat) (a0 : List ByteArray) (a1 : Int) : runX (c_l_heldStringS k) fin_l_heldStringS k 28 [argV (.slice 9 .str) a0, argV (.int .i64) a1] ms0 = g_l_heldStringS k (V0_l_heldStringS k k) a0 a1 := by kernel_rfl
theorem r_l_heldStringS (k : Nat) (a0 : List ByteArray) (a1 : Int) : runX (c_l_heldStringS k) fin_l_heldStringS k 28 [argV (.slice 9 .str) a0, argV (.int .i64) a1] ms0 = l_heldStringS k a0 a1 := by rw [u_l_heldStringS, show V0_l_heldStringS k k = l0_l_heldStringS k k from (e_l_heldStringS k k)] <;> rfl
noncomputable def sp_l_heldStringS (k : Nat) : Spec := .imm (.slice 9 .str) fun (a0 : List ByteArray) => .imm (.int .i64) fun (a1 : Int) => .body (l_heldStringS k a0 a1) (outV [(.int .i64)] [])
noncomputable def c_l_markItemS (k : Nat) : Cfg := { eqs := [], tab := [(3, (.int .i64)), (53, (.slice 91 yItem)), (91, yItem)], spec := [], mspec := [], inl := [(36, Try.f36)], keep := [(3600001002, [0, 1, 5])], join := [], hold := [], ptrs := [], maps := [], fuel := k }
noncomputable def fin_l_markItemS : VV → Ms → Option (Int × List TItem × Unit) := finM [(.int .i64)] [] [.row 91 yItem, .imm (.int .i64)]
noncomputable def V0_l_markItemS (k n : Nat) (a1 : Int) (v1 : Int) (a0 : List TItem) : Option (Int × List TItem × Unit) := lpN (c_l_markItemS k) fin_l_markItemS n true 3600001002 (cd [1, 0, 1, 0, 0] (bo Try.f36)) [.b 0, .s (cd [1, 1] (bo Try.f36)), .fn Try.f36] ⟨⟨(mkT 27 0 [(0, one (.row 9000000 none none)), (1, one (.int .i64 a1)), (5, one (.int .i64 v1))]), [(9000000, .row 91 yItem a0 true)]⟩, 3600001000, 1, [(0, (mkT 2 0 [(0, one (.row 9000000 none none))]))]⟩
theorem t0_l_markItemS (k n : Nat) (a1 : Int) (v1 : Int) (a0 : List TItem) : V0_l_markItemS k (n + 1) a1 v1 a0 = b0_l_markItemS k (V0_l_markItemS k n) a1 v1 a0 := by kernel_rfl
theorem e_l_markItemS (k : Nat) : ∀ n : Nat, V0_l_markItemS k n = l0_l_markItemS k n
  | 0 => (by funext a1 v1 a0; rfl)
  | n + 1 => by
    obtain h0 := e_l_markItemS k n
    exact (by funext a1 v1 a0; rw [t0_l_markItemS, h0] <;> rfl)
theorem u_l_markItemS (k : Nat) (a0 : List TItem) (a1 : Int) : runX (c_l_markItemS k) fin_l_markItemS k 36 (pArgsV 1 [.row 91 yItem, .imm (.int .i64)] (a0, a1, ())) (ms1 [.row 91 yItem, .imm (.int .i64)] (a0, a1, ())) = g_l_markItemS k (V0_l_markItemS k k) a0 a1 := by kernel_rfl
theorem r_l_markItemS (k : Nat) (a0 : List TItem) (a1 : Int) : runX (c_l_markItemS k) fin_l_markItemS k 36 (pArgsV 1 [.row 91 yItem, .imm (.int .i64)] (a0, a1, ())) (ms1 [.row 91 yItem, .imm (.int .i64)] (a0, a1, ())) = l_markItemS k a0 a1 := by rw [u_l_markItemS, show V0_l_markItemS k k = l0_l_markItemS k k from (e_l_markItemS k k)] <;> rfl
noncomputable def sp_l_markItemS (k : Nat) : MSpec := .row 91 yItem fun (a0 : List TItem) => .imm (.int .i64) fun (a1 : Int) => .body (l_markItemS k a0 a1) (fun r => outV [(.int .i64)] [] r.1) (fun r => poV [.row 91 yItem, .imm (.int .i64)] r.2)
noncomputable def c_l_markItemSS (k : Nat) : Cfg := { eqs := [], tab := [(43, (.slice 53 (.slice 91 yItem))), (53, (.slice 91 yItem))], spec := [], mspec := [(36, sp_l_markItemS k)], inl := [(35, Try.f35)], keep := [(3500001002, [0, 1, 5])], join := [], hold := [], ptrs := [], maps := [], fuel := k }
noncomputable def fin_l_markItemSS : VV → Ms → Option (Int × List (List TItem) × Unit) := finM [(.int .i64)] [] [.tree 53 (.slice 91 yItem), .imm (.int .i64)]
noncomputable def V0_l_markItemSS (k n : Nat) (a1 : Int) (v1 : Int) (a0 : List (List TItem)) : Option (Int × List (List TItem) × Unit) := lpN (c_l_markItemSS k) fin_l_markItemSS n true 3500001002 (cd [1, 0, 1, 0, 0] (bo Try.f35)) [.b 0, .s (cd [1, 1] (bo Try.f35)), .fn Try.f35] ⟨⟨(mkT 19 0 [(0, one (.row 9000000 none none)), (1, one (.int .i64 a1)), (5, one (.int .i64 v1))]), [(9000000, .tree 53 (.slice 91 yItem) a0 0)]⟩, 3500001000, 1, [(0, (mkT 2 0 [(0, one (.row 9000000 none none))]))]⟩
theorem t0_l_markItemSS (k n : Nat) (a1 : Int) (v1 : Int) (a0 : List (List TItem)) : V0_l_markItemSS k (n + 1) a1 v1 a0 = b0_l_markItemSS k (V0_l_markItemSS k n) a1 v1 a0 := by kernel_rfl
theorem e_l_markItemSS (k : Nat) : ∀ n : Nat, V0_l_markItemSS k n = l0_l_markItemSS k n
  | 0 => (by funext a1 v1 a0; rfl)
  | n + 1 => by
    obtain h0 := e_l_markItemSS k n
    exact (by funext a1 v1 a0; rw [t0_l_markItemSS, h0] <;> rfl)
theorem u_l_markItemSS (k : Nat) (a0 : List (List TItem)) (a1 : Int) : runX (c_l_markItemSS k) fin_l_markItemSS k 35 (pArgsV 1 [.tree 53 (.slice 91 yItem), .imm (.int .i64)] (a0, a1, ())) (ms1 [.tree 53 (.slice 91 yItem), .imm (.int .i64)] (a0, a1, ())) = g_l_markItemSS k (V0_l_markItemSS k k) a0 a1 := by kernel_rfl
theorem r_l_markItemSS (k : Nat) (a0 : List (List TItem)) (a1 : Int) : runX (c_l_markItemSS k) fin_l_markItemSS k 35 (pArgsV 1 [.tree 53 (.slice 91 yItem), .imm (.int .i64)] (a0, a1, ())) (ms1 [.tree 53 (.slice 91 yItem), .imm (.int .i64)] (a0, a1, ())) = l_markItemSS k a0 a1 := by rw [u_l_markItemSS, show V0_l_markItemSS k k = l0_l_markItemSS k k from (e_l_markItemSS k k)] <;> rfl
noncomputable def sp_l_markItemSS (k : Nat) : MSpec := .tree 53 (.slice 91 yItem) fun (a0 : List (List TItem)) => .imm (.int .i64) fun (a1 : Int) => .body (l_markItemSS k a0 a1) (fun r => outV [(.int .i64)] [] r.1) (fun r => poV [.tree 53 (.slice 91 yItem), .imm (.int .i64)] r.2)
noncomputable def c_l_markBoolS (k : Nat) : Cfg := { eqs := [], tab := [(4, .bool), (37, (.slice 4 .bool))], spec := [], mspec := [], inl := [(66, Try.f66)], keep := [(6600001002, [0, 1, 5])], join := [], hold := [], ptrs := [], maps := [], fuel := k }
noncomputable def fin_l_markBoolS : VV → Ms → Option (Int × List Bool × Unit) := finM [(.int .i64)] [] [.row 4 .bool, .imm (.int .i64)]
noncomputable def V0_l_markBoolS (k n : Nat) (a1 : Int) (v1 : Int) (a0 : List Bool) : Option (Int × List Bool × Unit) := lpN (c_l_markBoolS k) fin_l_markBoolS n true 6600001002 (cd [1, 0, 1, 0, 0] (bo Try.f66)) [.b 0, .s (cd [1, 1] (bo Try.f66)), .fn Try.f66] ⟨⟨(mkT 21 0 [(0, one (.row 9000000 none none)), (1, one (.int .i64 a1)), (5, one (.int .i64 v1))]), [(9000000, .row 4 .bool a0 true)]⟩, 6600001000, 1, [(0, (mkT 2 0 [(0, one (.row 9000000 none none))]))]⟩
theorem t0_l_markBoolS (k n : Nat) (a1 : Int) (v1 : Int) (a0 : List Bool) : V0_l_markBoolS k (n + 1) a1 v1 a0 = b0_l_markBoolS k (V0_l_markBoolS k n) a1 v1 a0 := by kernel_rfl
theorem e_l_markBoolS (k : Nat) : ∀ n : Nat, V0_l_markBoolS k n = l0_l_markBoolS k n
  | 0 => (by funext a1 v1 a0; rfl)
  | n + 1 => by
    obtain h0 := e_l_markBoolS k n
    exact (by funext a1 v1 a0; rw [t0_l_markBoolS, h0] <;> rfl)
theorem u_l_markBoolS (k : Nat) (a0 : List Bool) (a1 : Int) : runX (c_l_markBoolS k) fin_l_markBoolS k 66 (pArgsV 1 [.row 4 .bool, .imm (.int .i64)] (a0, a1, ())) (ms1 [.row 4 .bool, .imm (.int .i64)] (a0, a1, ())) = g_l_markBoolS k (V0_l_markBoolS k k) a0 a1 := by kernel_rfl
theorem r_l_markBoolS (k : Nat) (a0 : List Bool) (a1 : Int) : runX (c_l_markBoolS k) fin_l_markBoolS k 66 (pArgsV 1 [.row 4 .bool, .imm (.int .i64)] (a0, a1, ())) (ms1 [.row 4 .bool, .imm (.int .i64)] (a0, a1, ())) = l_markBoolS k a0 a1 := by rw [u_l_markBoolS, show V0_l_markBoolS k k = l0_l_markBoolS k k from (e_l_markBoolS k k)] <;> rfl
noncomputable def sp_l_markBoolS (k : Nat) : MSpec := .row 4 .bool fun (a0 : List Bool) => .imm (.int .i64) fun (a1 : Int) => .body (l_markBoolS k a0 a1) (fun r => outV [(.int .i64)] [] r.1) (fun r => poV [.row 4 .bool, .imm (.int .i64)] r.2)
noncomputable def c_l_FnExactSaid (k : Nat) : Cfg := { eqs := [], tab := [(29, (.slice 26 yEvent)), (37, (.slice 4 .bool)), (39, yRoom), (43, (.slice 53 (.slice 91 yItem))), (45, yRoom1)], spec := [(20, sp_l_szRoom k), (21, sp_s_Said k), (22, sp_l_toRoom k), (23, sp_i_Said k), (24, sp_l_eqStringS k), (25, sp_l_eqRoom k), (28, sp_l_heldStringS k)], mspec := [(17, sp_l_markEventS k), (27, sp_l_markStringS k), (35, sp_l_markItemSS k), (66, sp_l_markBoolS k)], inl := [(4, Try.f4), (26, Try.f26)], keep := [], join := [], hold := [], ptrs := [], maps := [], fuel := k }
noncomputable def fin_l_FnExactSaid : VV → Ms → Option Bool := finV [.bool] []
theorem r_l_FnExactSaid (k : Nat) (a0 : TRoom) : runX (c_l_FnExactSaid k) fin_l_FnExactSaid k 4 [argV yRoom a0] ms0 = l_FnExactSaid k a0 := by kernel_rfl
noncomputable def sp_l_FnExactSaid (k : Nat) : Spec := .imm yRoom fun (a0 : TRoom) => .body (l_FnExactSaid k a0) (outV [.bool] [])
noncomputable def c_s_l11Keys (k : Nat) : Cfg := { eqs := [], tab := [(3, (.int .i64)), (24, (.slice 3 (.int .i64))), (43, (.slice 53 (.slice 91 yItem))), (53, (.slice 91 yItem)), (91, yItem)], spec := [], mspec := [], inl := [(67, Try.f67)], keep := [(6700001003, [0, 3, 4]), (6700001007, [0, 3, 4, 5, 6]), (6700001010, [0, 3, 4, 5, 6, 7])], join := [], hold := [], ptrs := [], maps := [], fuel := k }
noncomputable def fin_s_l11Keys : VV → Ms → Option (List Int) := finV [(.slice 3 (.int .i64))] [.o]
noncomputable def V0_s_l11Keys (k n : Nat) (a0 : List (List TItem)) (v1 : Int) (xs2 : List Int) : Option (List Int) := lpN (c_s_l11Keys k) fin_s_l11Keys n true 6700001003 (cd [1, 1, 0, 1, 0, 0] (bo Try.f67)) [.b 0, .s (cd [1, 1, 1] (bo Try.f67)), .fn Try.f67] ⟨⟨(mkT 47 0 [(0, one (.slc 53 (.slice 91 yItem) a0)), (3, one (.row 9000000 none none)), (4, one (.int .i64 v1))]), [(9000000, .row 3 (.int .i64) xs2 true)]⟩, 6700001000, 1, [(0, (mkT 0 0 []))]⟩
noncomputable def V1_s_l11Keys (k n : Nat) (a0 : List (List TItem)) (v1 : Int) (v3 : Bool) (v4 : Int) (xs2 : List Int) : Option (List Int) := lpN (c_s_l11Keys k) fin_s_l11Keys n true 6700001007 (cd [1, 1, 0, 1, 0, 0, 1, 0, 0, 1, 0, 1, 0, 0] (bo Try.f67)) [.b 2, .s (cd [1, 1, 0, 1, 0, 0, 1, 0, 0, 1, 1] (bo Try.f67)), .b 1, .s (cd [1, 1, 0, 1, 0, 0, 1, 1] (bo Try.f67)), .l 6700001003 (cd [1, 1, 0, 1, 0, 0] (bo Try.f67)), .b 0, .s (cd [1, 1, 1] (bo Try.f67)), .fn Try.f67] ⟨⟨(mkT 47 0 [(0, one (.slc 53 (.slice 91 yItem) a0)), (3, one (.row 9000000 none none)), (4, one (.int .i64 v1)), (5, one (.bool v3)), (6, one (.int .i64 v4))]), [(9000000, .row 3 (.int .i64) xs2 true)]⟩, 6700001000, 1, [(0, (mkT 0 0 []))]⟩
noncomputable def V2_s_l11Keys (k n : Nat) (a0 : List (List TItem)) (v1 : Int) (v5 : Bool) (v4 : Int) (v6 : Int) (xs2 : List Int) : Option (List Int) := lpN (c_s_l11Keys k) fin_s_l11Keys n true 6700001010 (cd [1, 1, 0, 1, 0, 0, 1, 0, 0, 1, 0, 1, 0, 0, 1, 0, 0, 1, 0, 0] (bo Try.f67)) [.b 4, .b 3, .s (cd [1, 1, 0, 1, 0, 0, 1, 0, 0, 1, 0, 1, 0, 0, 1, 1] (bo Try.f67)), .l 6700001007 (cd [1, 1, 0, 1, 0, 0, 1, 0, 0, 1, 0, 1, 0, 0] (bo Try.f67)), .b 2, .s (cd [1, 1, 0, 1, 0, 0, 1, 0, 0, 1, 1] (bo Try.f67)), .b 1, .s (cd [1, 1, 0, 1, 0, 0, 1, 1] (bo Try.f67)), .l 6700001003 (cd [1, 1, 0, 1, 0, 0] (bo Try.f67)), .b 0, .s (cd [1, 1, 1] (bo Try.f67)), .fn Try.f67] ⟨⟨(mkT 47 0 [(0, one (.slc 53 (.slice 91 yItem) a0)), (3, one (.row 9000000 none none)), (4, one (.int .i64 v1)), (5, one (.bool v5)), (6, one (.int .i64 v4)), (7, one (.int .i64 v6))]), [(9000000, .row 3 (.int .i64) xs2 true)]⟩, 6700001000, 1, [(0, (mkT 0 0 []))]⟩
theorem t0_s_l11Keys (k n : Nat) (a0 : List (List TItem)) (v1 : Int) (xs2 : List Int) : V0_s_l11Keys k (n + 1) a0 v1 xs2 = b0_s_l11Keys k (V1_s_l11Keys k n) a0 v1 xs2 := by kernel_rfl
theorem t1_s_l11Keys (k n : Nat) (a0 : List (List TItem)) (v1 : Int) (v3 : Bool) (v4 : Int) (xs2 : List Int) : V1_s_l11Keys k (n + 1) a0 v1 v3 v4 xs2 = b1_s_l11Keys k (V2_s_l11Keys k n) (V0_s_l11Keys k n) a0 v1 v3 v4 xs2 := by kernel_rfl
theorem t2_s_l11Keys (k n : Nat) (a0 : List (List TItem)) (v1 : Int) (v5 : Bool) (v4 : Int) (v6 : Int) (xs2 : List Int) : V2_s_l11Keys k (n + 1) a0 v1 v5 v4 v6 xs2 = b2_s_l11Keys k (V2_s_l11Keys k n) (V1_s_l11Keys k n) a0 v1 v5 v4 v6 xs2 := by kernel_rfl
theorem e_s_l11Keys (k : Nat) : ∀ n : Nat, V0_s_l11Keys k n = l0_s_l11Keys k n ∧ V1_s_l11Keys k n = l1_s_l11Keys k n ∧ V2_s_l11Keys k n = l2_s_l11Keys k n
  | 0 => ⟨(by funext a0 v1 xs2; rfl), (by funext a0 v1 v3 v4 xs2; rfl), (by funext a0 v1 v5 v4 v6 xs2; rfl)⟩
  | n + 1 => by
    obtain ⟨h0, h1, h2⟩ := e_s_l11Keys k n
    exact ⟨(by funext a0 v1 xs2; rw [t0_s_l11Keys, h1] <;> rfl), (by funext a0 v1 v3 v4 xs2; rw [t1_s_l11Keys, h2, h0] <;> rfl), (by funext a0 v1 v5 v4 v6 xs2; rw [t2_s_l11Keys, h2, h1] <;> rfl)⟩
theorem u_s_l11Keys (k : Nat) (a0 : List (List TItem)) : runX (c_s_l11Keys k) fin_s_l11Keys k 67 [argV (.slice 53 (.slice 91 yItem)) a0] ms0 = g_s_l11Keys k (V0_s_l11Keys k k) a0 := by kernel_rfl
theorem r_s_l11Keys (k : Nat) (a0 : List (List TItem)) : runX (c_s_l11Keys k) fin_s_l11Keys k 67 [argV (.slice 53 (.slice 91 yItem)) a0] ms0 = s_l11Keys k a0 := by rw [u_s_l11Keys, show V0_s_l11Keys k k = l0_s_l11Keys k k from (e_s_l11Keys k k).1] <;> rfl
noncomputable def sp_s_l11Keys (k : Nat) : Spec := .imm (.slice 53 (.slice 91 yItem)) fun (a0 : List (List TItem)) => .body (s_l11Keys k a0) (outV [(.slice 3 (.int .i64))] [.o])
noncomputable def c_s_At (k : Nat) : Cfg := { eqs := [], tab := [(3, (.int .i64)), (53, (.slice 91 yItem)), (91, yItem)], spec := [], mspec := [], inl := [(69, Try.f69)], keep := [(6900001002, [0, 1, 5])], join := [], hold := [], ptrs := [], maps := [], fuel := k }
noncomputable def fin_s_At : VV → Ms → Option Int := finV [(.int .i64)] []
noncomputable def V0_s_At (k n : Nat) (a0 : List TItem) (a1 : Int) (v1 : Int) : Option Int := lpN (c_s_At k) fin_s_At n true 6900001002 (cd [1, 0, 1, 0, 0] (bo Try.f69)) [.b 0, .s (cd [1, 1] (bo Try.f69)), .fn Try.f69] ⟨⟨(mkT 24 0 [(0, one (.slc 91 yItem a0)), (1, one (.int .i64 a1)), (5, one (.int .i64 v1))]), []⟩, 6900001000, 1, [(0, (mkT 0 0 []))]⟩
theorem t0_s_At (k n : Nat) (a0 : List TItem) (a1 : Int) (v1 : Int) : V0_s_At k (n + 1) a0 a1 v1 = b0_s_At k (V0_s_At k n) a0 a1 v1 := by kernel_rfl
theorem e_s_At (k : Nat) : ∀ n : Nat, V0_s_At k n = l0_s_At k n
  | 0 => (by funext a0 a1 v1; rfl)
  | n + 1 => by
    obtain h0 := e_s_At k n
    exact (by funext a0 a1 v1; rw [t0_s_At, h0] <;> rfl)
theorem u_s_At (k : Nat) (a0 : List TItem) (a1 : Int) : runX (c_s_At k) fin_s_At k 69 [argV (.slice 91 yItem) a0, argV (.int .i64) a1] ms0 = g_s_At k (V0_s_At k k) a0 a1 := by kernel_rfl
theorem r_s_At (k : Nat) (a0 : List TItem) (a1 : Int) : runX (c_s_At k) fin_s_At k 69 [argV (.slice 91 yItem) a0, argV (.int .i64) a1] ms0 = s_At k a0 a1 := by rw [u_s_At, show V0_s_At k k = l0_s_At k k from (e_s_At k k)] <;> rfl
noncomputable def sp_s_At (k : Nat) : Spec := .imm (.slice 91 yItem) fun (a0 : List TItem) => .imm (.int .i64) fun (a1 : Int) => .body (s_At k a0 a1) (outV [(.int .i64)] [])
noncomputable def c_s_l11Alike (k : Nat) : Cfg := { eqs := [], tab := [(43, (.slice 53 (.slice 91 yItem))), (53, (.slice 91 yItem))], spec := [(69, sp_s_At k)], mspec := [], inl := [(68, Try.f68)], keep := [(6800001002, [0, 1, 5])], join := [], hold := [], ptrs := [], maps := [], fuel := k }
noncomputable def fin_s_l11Alike : VV → Ms → Option Bool := finV [.bool] []
noncomputable def V0_s_l11Alike (k n : Nat) (a0 : List (List TItem)) (a1 : Int) (v1 : Int) : Option Bool := lpN (c_s_l11Alike k) fin_s_l11Alike n true 6800001002 (cd [1, 0, 1, 0, 0] (bo Try.f68)) [.b 0, .s (cd [1, 1] (bo Try.f68)), .fn Try.f68] ⟨⟨(mkT 24 0 [(0, one (.slc 53 (.slice 91 yItem) a0)), (1, one (.int .i64 a1)), (5, one (.int .i64 v1))]), []⟩, 6800001000, 1, [(0, (mkT 0 0 []))]⟩
theorem t0_s_l11Alike (k n : Nat) (a0 : List (List TItem)) (a1 : Int) (v1 : Int) : V0_s_l11Alike k (n + 1) a0 a1 v1 = b0_s_l11Alike k (V0_s_l11Alike k n) a0 a1 v1 := by kernel_rfl
theorem e_s_l11Alike (k : Nat) : ∀ n : Nat, V0_s_l11Alike k n = l0_s_l11Alike k n
  | 0 => (by funext a0 a1 v1; rfl)
  | n + 1 => by
    obtain h0 := e_s_l11Alike k n
    exact (by funext a0 a1 v1; rw [t0_s_l11Alike, h0] <;> rfl)
theorem u_s_l11Alike (k : Nat) (a0 : List (List TItem)) (a1 : Int) : runX (c_s_l11Alike k) fin_s_l11Alike k 68 [argV (.slice 53 (.slice 91 yItem)) a0, argV (.int .i64) a1] ms0 = g_s_l11Alike k (V0_s_l11Alike k k) a0 a1 := by kernel_rfl
theorem r_s_l11Alike (k : Nat) (a0 : List (List TItem)) (a1 : Int) : runX (c_s_l11Alike k) fin_s_l11Alike k 68 [argV (.slice 53 (.slice 91 yItem)) a0, argV (.int .i64) a1] ms0 = s_l11Alike k a0 a1 := by rw [u_s_l11Alike, show V0_s_l11Alike k k = l0_s_l11Alike k k from (e_s_l11Alike k k)] <;> rfl
noncomputable def sp_s_l11Alike (k : Nat) : Spec := .imm (.slice 53 (.slice 91 yItem)) fun (a0 : List (List TItem)) => .imm (.int .i64) fun (a1 : Int) => .body (s_l11Alike k a0 a1) (outV [.bool] [])
noncomputable def c_s_Agreed (k : Nat) : Cfg := { eqs := [], tab := [(3, (.int .i64)), (24, (.slice 3 (.int .i64))), (43, (.slice 53 (.slice 91 yItem))), (53, (.slice 91 yItem)), (91, yItem)], spec := [(67, sp_s_l11Keys k), (68, sp_s_l11Alike k), (69, sp_s_At k)], mspec := [], inl := [(30, Try.f30)], keep := [(3000001004, [0, 3, 4, 5])], join := [], hold := [], ptrs := [], maps := [], fuel := k }
noncomputable def fin_s_Agreed : VV → Ms → Option (List TItem) := finV [(.slice 91 yItem)] [.o]
noncomputable def V0_s_Agreed (k n : Nat) (a0 : List (List TItem)) (v1 : Int) (xs2 : List TItem) (r1 : List Int) : Option (List TItem) := lpN (c_s_Agreed k) fin_s_Agreed n true 3000001004 (cd [1, 1, 1, 0, 1, 0, 0] (bo Try.f30)) [.b 0, .s (cd [1, 1, 1, 1] (bo Try.f30)), .fn Try.f30] ⟨⟨(mkT 38 0 [(0, one (.slc 53 (.slice 91 yItem) a0)), (3, one (.row 9000000 none none)), (4, one (.row 9000001 none none)), (5, one (.int .i64 v1))]), [(9000000, .row 91 yItem xs2 true), (9000001, .row 3 (.int .i64) r1 true)]⟩, 3000001000, 1, [(0, (mkT 0 0 []))]⟩
theorem t0_s_Agreed (k n : Nat) (a0 : List (List TItem)) (v1 : Int) (xs2 : List TItem) (r1 : List Int) : V0_s_Agreed k (n + 1) a0 v1 xs2 r1 = b0_s_Agreed k (V0_s_Agreed k n) a0 v1 xs2 r1 := by kernel_rfl
theorem e_s_Agreed (k : Nat) : ∀ n : Nat, V0_s_Agreed k n = l0_s_Agreed k n
  | 0 => (by funext a0 v1 xs2 r1; rfl)
  | n + 1 => by
    obtain h0 := e_s_Agreed k n
    exact (by funext a0 v1 xs2 r1; rw [t0_s_Agreed, h0] <;> rfl)
theorem u_s_Agreed (k : Nat) (a0 : List (List TItem)) : runX (c_s_Agreed k) fin_s_Agreed k 30 [argV (.slice 53 (.slice 91 yItem)) a0] ms0 = g_s_Agreed k (V0_s_Agreed k k) a0 := by kernel_rfl
theorem r_s_Agreed (k : Nat) (a0 : List (List TItem)) : runX (c_s_Agreed k) fin_s_Agreed k 30 [argV (.slice 53 (.slice 91 yItem)) a0] ms0 = s_Agreed k a0 := by rw [u_s_Agreed, show V0_s_Agreed k k = l0_s_Agreed k k from (e_s_Agreed k k)] <;> rfl
noncomputable def sp_s_Agreed (k : Nat) : Spec := .imm (.slice 53 (.slice 91 yItem)) fun (a0 : List (List TItem)) => .body (s_Agreed k a0) (outV [(.slice 91 yItem)] [.o])
noncomputable def c_i_within (k : Nat) : Cfg := { eqs := [], tab := [], spec := [], mspec := [], inl := [(79, Try.f79)], keep := [], join := [], hold := [], ptrs := [], maps := [], fuel := k }
noncomputable def fin_i_within : VV → Ms → Option Bool := finV [.bool] []
theorem r_i_within (k : Nat) (a0 : Int) (a1 : Int) (a2 : Int) : runX (c_i_within k) fin_i_within k 79 [argV (.int .i64) a0, argV (.int .i64) a1, argV (.int .i64) a2] ms0 = i_within k a0 a1 a2 := by kernel_rfl
noncomputable def sp_i_within (k : Nat) : Spec := .imm (.int .i64) fun (a0 : Int) => .imm (.int .i64) fun (a1 : Int) => .imm (.int .i64) fun (a2 : Int) => .body (i_within k a0 a1 a2) (outV [.bool] [])
noncomputable def sp_slices_Sort_int_int (k : Nat) : MSpec := .row 3 (.int .i64) fun (a0 : List Int) => .body (slices_Sort_int_int k a0) (fun r => outV [] [] r.1) (fun r => poV [.row 3 (.int .i64)] r.2)
noncomputable def c_i_keysIn (k : Nat) : Cfg := { eqs := [], tab := [(3, (.int .i64)), (24, (.slice 3 (.int .i64))), (43, (.slice 53 (.slice 91 yItem))), (53, (.slice 91 yItem)), (91, yItem)], spec := [(79, sp_i_within k)], mspec := [(81, sp_slices_Sort_int_int k)], inl := [(70, Try.f70), (82, Try.f82)], keep := [(7000001003, [3, 8, 9, 10]), (7000001006, [3, 8, 9, 10, 14, 15, 16]), (8200002004, [0, 3]), (8200002009, [0, 3, 4, 5])], join := [], hold := [(7000001003, [(3, [0], 3, (.int .i64), false, false)]), (7000001006, [(3, [0], 3, (.int .i64), false, false)])], ptrs := [], maps := [], fuel := k }
noncomputable def fin_i_keysIn : VV → Ms → Option (List Int) := finV [(.slice 3 (.int .i64))] [.o]
noncomputable def V3_i_keysIn (k n : Nat) (v6 : Int) (v5 : Int) (v7 : Int) (xs8 : List Int) (a0 : List (List TItem)) (v1 : Int) : Option (List Int) := lpN (c_i_keysIn k) fin_i_keysIn n true 8200002009 (cd [1, 1, 0, 1, 0, 0, 1, 0, 0, 1, 0, 1, 0, 1, 0, 0] (bo Try.f82)) [.b 2, .s (cd [1, 1, 0, 1, 0, 0, 1, 0, 0, 1, 0, 1, 1] (bo Try.f82)), .b 1, .s (cd [1, 1, 0, 1, 0, 0, 1, 1] (bo Try.f82)), .l 8200002004 (cd [1, 1, 0, 1, 0, 0] (bo Try.f82)), .b 0, .s (cd [1, 1, 1] (bo Try.f82)), .fn Try.f82, .op (rg (cd [1, 1, 1, 1, 0] (bo Try.f70))) ((rg (cd [1, 1, 1, 1, 0] (bo Try.f70))).drop 2) 2 (some 33), .s (cd [1, 1, 1, 1, 1] (bo Try.f70)), .fn Try.f70] ⟨⟨(mkT 61 0 [(0, one (.row 9000000 none none)), (3, one (.int .i64 v6)), (4, one (.row 9000000 (some v5.toNat) none)), (5, one (.int .i64 v7))]), [(9000000, .row 3 (.int .i64) xs8 true)]⟩, 8200002000, 2, [(7000001000, (mkT 34 0 [(3, one (.row 9000000 none none)), (8, one (.slc 53 (.slice 91 yItem) a0)), (9, one (.int .i64 (a0.length : Int))), (10, one (.int .i64 v1)), (11, one (.bool false)), (30, one (.row 9000000 none none)), (31, .tup []), (32, one (.row 9000000 none none))])), (0, (mkT 0 0 []))]⟩
noncomputable def V2_i_keysIn (k n : Nat) (v5 : Int) (r2 : Unit × List Int × Unit) (a0 : List (List TItem)) (v1 : Int) : Option (List Int) := lpN (c_i_keysIn k) fin_i_keysIn n true 8200002004 (cd [1, 1, 0, 1, 0, 0] (bo Try.f82)) [.b 0, .s (cd [1, 1, 1] (bo Try.f82)), .fn Try.f82, .op (rg (cd [1, 1, 1, 1, 0] (bo Try.f70))) ((rg (cd [1, 1, 1, 1, 0] (bo Try.f70))).drop 2) 2 (some 33), .s (cd [1, 1, 1, 1, 1] (bo Try.f70)), .fn Try.f70] ⟨⟨(mkT 61 0 [(0, one (.row 9000000 none none)), (3, one (.int .i64 v5))]), [(9000000, .row 3 (.int .i64) r2.2.1 true)]⟩, 8200002000, 2, [(7000001000, (mkT 34 0 [(3, one (.row 9000000 none none)), (8, one (.slc 53 (.slice 91 yItem) a0)), (9, one (.int .i64 (a0.length : Int))), (10, one (.int .i64 v1)), (11, one (.bool false)), (30, one (.row 9000000 none none)), (31, .tup []), (32, one (.row 9000000 none none))])), (0, (mkT 0 0 []))]⟩
noncomputable def V0_i_keysIn (k n : Nat) (a0 : List (List TItem)) (v1 : Int) (xs2 : List Int) : Option (List Int) := lpN (c_i_keysIn k) fin_i_keysIn n true 7000001003 (cd [1, 1, 0, 1, 0, 0] (bo Try.f70)) [.b 0, .s (cd [1, 1, 1] (bo Try.f70)), .fn Try.f70] ⟨⟨(mkT 34 0 [(3, one (.row 9000000 none none)), (8, one (.slc 53 (.slice 91 yItem) a0)), (9, one (.int .i64 (a0.length : Int))), (10, one (.int .i64 v1))]), [(9000000, .row 3 (.int .i64) xs2 true)]⟩, 7000001000, 1, [(0, (mkT 0 0 []))]⟩
noncomputable def V1_i_keysIn (k n : Nat) (a0 : List (List TItem)) (v1 : Int) (v3 : Int) (xs4 : List Int) : Option (List Int) := lpN (c_i_keysIn k) fin_i_keysIn n true 7000001006 (cd [1, 1, 0, 1, 0, 0, 1, 1, 0, 0, 1, 1, 0, 0] (bo Try.f70)) [.b 2, .b 1, .s (cd [1, 1, 0, 1, 0, 0, 1, 1, 1] (bo Try.f70)), .l 7000001003 (cd [1, 1, 0, 1, 0, 0] (bo Try.f70)), .b 0, .s (cd [1, 1, 1] (bo Try.f70)), .fn Try.f70] ⟨⟨(mkT 34 0 [(3, one (.row 9000000 none none)), (8, one (.slc 53 (.slice 91 yItem) a0)), (9, one (.int .i64 (a0.length : Int))), (10, one (.int .i64 v1)), (14, one (.slc 91 yItem (rd [] a0 v1.toNat))), (15, one (.int .i64 (((rd [] a0 v1.toNat).length : Nat) : Int))), (16, one (.int .i64 v3))]), [(9000000, .row 3 (.int .i64) xs4 true)]⟩, 7000001000, 1, [(0, (mkT 0 0 []))]⟩
theorem t3_i_keysIn (k n : Nat) (v6 : Int) (v5 : Int) (v7 : Int) (xs8 : List Int) (a0 : List (List TItem)) (v1 : Int) : V3_i_keysIn k (n + 1) v6 v5 v7 xs8 a0 v1 = b3_i_keysIn k (V3_i_keysIn k n) v6 v5 v7 xs8 a0 v1 := by kernel_rfl
theorem t2_i_keysIn (k n : Nat) (v5 : Int) (r2 : Unit × List Int × Unit) (a0 : List (List TItem)) (v1 : Int) : V2_i_keysIn k (n + 1) v5 r2 a0 v1 = b2_i_keysIn k (V3_i_keysIn k n) (V2_i_keysIn k n) v5 r2 a0 v1 := by kernel_rfl
theorem t0_i_keysIn (k n : Nat) (a0 : List (List TItem)) (v1 : Int) (xs2 : List Int) : V0_i_keysIn k (n + 1) a0 v1 xs2 = b0_i_keysIn k (V1_i_keysIn k n) (V2_i_keysIn k n) a0 v1 xs2 := by kernel_rfl
theorem t1_i_keysIn (k n : Nat) (a0 : List (List TItem)) (v1 : Int) (v3 : Int) (xs4 : List Int) : V1_i_keysIn k (n + 1) a0 v1 v3 xs4 = b1_i_keysIn k (V1_i_keysIn k n) (V0_i_keysIn k n) a0 v1 v3 xs4 := by kernel_rfl
theorem e_i_keysIn (k : Nat) : ∀ n : Nat, V3_i_keysIn k n = l3_i_keysIn k n ∧ V2_i_keysIn k n = l2_i_keysIn k n ∧ V0_i_keysIn k n = l0_i_keysIn k n ∧ V1_i_keysIn k n = l1_i_keysIn k n
  | 0 => ⟨(by funext v6 v5 v7 xs8 a0 v1; rfl), (by funext v5 r2 a0 v1; rfl), (by funext a0 v1 xs2; rfl), (by funext a0 v1 v3 xs4; rfl)⟩
  | n + 1 => by
    obtain ⟨h3, h2, h0, h1⟩ := e_i_keysIn k n
    exact ⟨(by funext v6 v5 v7 xs8 a0 v1; rw [t3_i_keysIn, h3] <;> rfl), (by funext v5 r2 a0 v1; rw [t2_i_keysIn, h3, h2] <;> rfl), (by funext a0 v1 xs2; rw [t0_i_keysIn, h1, h2] <;> rfl), (by funext a0 v1 v3 xs4; rw [t1_i_keysIn, h1, h0] <;> rfl)⟩
theorem u_i_keysIn (k : Nat) (a0 : List (List TItem)) : runX (c_i_keysIn k) fin_i_keysIn k 70 [argV (.slice 53 (.slice 91 yItem)) a0] ms0 = g_i_keysIn k (V0_i_keysIn k k) a0 := by kernel_rfl
theorem r_i_keysIn (k : Nat) (a0 : List (List TItem)) : runX (c_i_keysIn k) fin_i_keysIn k 70 [argV (.slice 53 (.slice 91 yItem)) a0] ms0 = i_keysIn k a0 := by rw [u_i_keysIn, show V0_i_keysIn k k = l0_i_keysIn k k from (e_i_keysIn k k).2.2.1] <;> rfl
noncomputable def sp_i_keysIn (k : Nat) : Spec := .imm (.slice 53 (.slice 91 yItem)) fun (a0 : List (List TItem)) => .body (i_keysIn k a0) (outV [(.slice 3 (.int .i64))] [.o])
noncomputable def c_i_At (k : Nat) : Cfg := { eqs := [], tab := [(3, (.int .i64)), (53, (.slice 91 yItem)), (91, yItem)], spec := [], mspec := [], inl := [(72, Try.f72)], keep := [(7200001002, [1, 7, 8, 9])], join := [], hold := [], ptrs := [], maps := [], fuel := k }
noncomputable def fin_i_At : VV → Ms → Option Int := finV [(.int .i64)] []
noncomputable def V0_i_At (k n : Nat) (a1 : Int) (a0 : List TItem) (v1 : Int) : Option Int := lpN (c_i_At k) fin_i_At n true 7200001002 (cd [1, 0, 1, 0, 0] (bo Try.f72)) [.b 0, .s (cd [1, 1] (bo Try.f72)), .fn Try.f72] ⟨⟨(mkT 20 0 [(1, one (.int .i64 a1)), (7, one (.slc 91 yItem a0)), (8, one (.int .i64 (a0.length : Int))), (9, one (.int .i64 v1))]), []⟩, 7200001000, 1, [(0, (mkT 0 0 []))]⟩
theorem t0_i_At (k n : Nat) (a1 : Int) (a0 : List TItem) (v1 : Int) : V0_i_At k (n + 1) a1 a0 v1 = b0_i_At k (V0_i_At k n) a1 a0 v1 := by kernel_rfl
theorem e_i_At (k : Nat) : ∀ n : Nat, V0_i_At k n = l0_i_At k n
  | 0 => (by funext a1 a0 v1; rfl)
  | n + 1 => by
    obtain h0 := e_i_At k n
    exact (by funext a1 a0 v1; rw [t0_i_At, h0] <;> rfl)
theorem u_i_At (k : Nat) (a0 : List TItem) (a1 : Int) : runX (c_i_At k) fin_i_At k 72 [argV (.slice 91 yItem) a0, argV (.int .i64) a1] ms0 = g_i_At k (V0_i_At k k) a0 a1 := by kernel_rfl
theorem r_i_At (k : Nat) (a0 : List TItem) (a1 : Int) : runX (c_i_At k) fin_i_At k 72 [argV (.slice 91 yItem) a0, argV (.int .i64) a1] ms0 = i_At k a0 a1 := by rw [u_i_At, show V0_i_At k k = l0_i_At k k from (e_i_At k k)] <;> rfl
noncomputable def sp_i_At (k : Nat) : Spec := .imm (.slice 91 yItem) fun (a0 : List TItem) => .imm (.int .i64) fun (a1 : Int) => .body (i_At k a0 a1) (outV [(.int .i64)] [])
noncomputable def c_i_allTell (k : Nat) : Cfg := { eqs := [], tab := [(3, (.int .i64)), (43, (.slice 53 (.slice 91 yItem))), (53, (.slice 91 yItem))], spec := [(72, sp_i_At k)], mspec := [], inl := [(71, Try.f71), (96, Try.f96), (97, Try.f97), (108, Try.f108)], keep := [(10800003002, [0, 1, 7, 8])], join := [], hold := [], ptrs := [], maps := [], fuel := k }
noncomputable def fin_i_allTell : VV → Ms → Option Bool := finV [.bool] []
noncomputable def V0_i_allTell (k n : Nat) (a0 : List (List TItem)) (v1 : Int) (a1 : Int) : Option Bool := lpN (c_i_allTell k) fin_i_allTell n true 10800003002 (cd [1, 0, 1, 0, 0] (bo Try.f108)) [.b 0, .s (cd [1, 1] (bo Try.f108)), .fn Try.f108, .op (rg (cd [1, 0] (bo Try.f96))) ((rg (cd [1, 0] (bo Try.f96))).drop 3) 3 (some 7), .s (cd [1, 1] (bo Try.f96)), .fn Try.f96, .op (rg (cd [1, 0] (bo Try.f71))) ((rg (cd [1, 0] (bo Try.f71))).drop 3) 3 (some 7), .s (cd [1, 1] (bo Try.f71)), .fn Try.f71] ⟨⟨(mkT 19 0 [(0, one (.slc 53 (.slice 91 yItem) a0)), (1, one (.fn 97 [9000000, 9000001])), (7, one (.int .i64 (a0.length : Int))), (8, one (.int .i64 v1))]), [(9000000, .box [.int .i64 a1]), (9000001, .box [.slc 53 (.slice 91 yItem) a0])]⟩, 10800003000, 3, [(9600002000, (mkT 9 0 [(0, one (.slc 53 (.slice 91 yItem) a0)), (1, one (.fn 97 [9000000, 9000001])), (4, one (.bool false)), (5, one (.slc 53 (.slice 91 yItem) a0)), (6, one (.fn 97 [9000000, 9000001]))])), (7100001000, (mkT 9 0 [(0, one (.slc 53 (.slice 91 yItem) a0)), (1, one (.int .i64 a1)), (2, one (.ptr 9000001 0)), (3, one (.ptr 9000000 0)), (4, one (.bool false)), (5, one (.slc 53 (.slice 91 yItem) a0)), (6, one (.fn 97 [9000000, 9000001]))])), (0, (mkT 0 0 []))]⟩
theorem t0_i_allTell (k n : Nat) (a0 : List (List TItem)) (v1 : Int) (a1 : Int) : V0_i_allTell k (n + 1) a0 v1 a1 = b0_i_allTell k (V0_i_allTell k n) a0 v1 a1 := by kernel_rfl
theorem e_i_allTell (k : Nat) : ∀ n : Nat, V0_i_allTell k n = l0_i_allTell k n
  | 0 => (by funext a0 v1 a1; rfl)
  | n + 1 => by
    obtain h0 := e_i_allTell k n
    exact (by funext a0 v1 a1; rw [t0_i_allTell, h0] <;> rfl)
theorem u_i_allTell (k : Nat) (a0 : List (List TItem)) (a1 : Int) : runX (c_i_allTell k) fin_i_allTell k 71 [argV (.slice 53 (.slice 91 yItem)) a0, argV (.int .i64) a1] ms0 = g_i_allTell k (V0_i_allTell k k) a0 a1 := by kernel_rfl
theorem r_i_allTell (k : Nat) (a0 : List (List TItem)) (a1 : Int) : runX (c_i_allTell k) fin_i_allTell k 71 [argV (.slice 53 (.slice 91 yItem)) a0, argV (.int .i64) a1] ms0 = i_allTell k a0 a1 := by rw [u_i_allTell, show V0_i_allTell k k = l0_i_allTell k k from (e_i_allTell k k)] <;> rfl
noncomputable def sp_i_allTell (k : Nat) : Spec := .imm (.slice 53 (.slice 91 yItem)) fun (a0 : List (List TItem)) => .imm (.int .i64) fun (a1 : Int) => .body (i_allTell k a0 a1) (outV [.bool] [])
noncomputable def c_i_Agreed (k : Nat) : Cfg := { eqs := [], tab := [(3, (.int .i64)), (24, (.slice 3 (.int .i64))), (43, (.slice 53 (.slice 91 yItem))), (53, (.slice 91 yItem)), (91, yItem)], spec := [(70, sp_i_keysIn k), (71, sp_i_allTell k), (72, sp_i_At k)], mspec := [], inl := [(32, Try.f32)], keep := [(3200001003, [0, 3, 7, 8, 9])], join := [], hold := [(3200001003, [(3, [0], 91, yItem, false, false)])], ptrs := [], maps := [], fuel := k }
noncomputable def fin_i_Agreed : VV → Ms → Option (List TItem) := finV [(.slice 91 yItem)] [.o]
noncomputable def V0_i_Agreed (k n : Nat) (a0 : List (List TItem)) (r1 : List Int) (v1 : Int) (xs2 : List TItem) : Option (List TItem) := lpN (c_i_Agreed k) fin_i_Agreed n true 3200001003 (cd [1, 1, 0, 1, 0, 0] (bo Try.f32)) [.b 0, .s (cd [1, 1, 1] (bo Try.f32)), .fn Try.f32] ⟨⟨(mkT 28 0 [(0, one (.slc 53 (.slice 91 yItem) a0)), (3, one (.row 9000000 none none)), (7, one (.row 9000001 none none)), (8, one (.int .i64 (r1.length : Int))), (9, one (.int .i64 v1))]), [(9000000, .row 91 yItem xs2 true), (9000001, .row 3 (.int .i64) r1 true)]⟩, 3200001000, 1, [(0, (mkT 0 0 []))]⟩
theorem t0_i_Agreed (k n : Nat) (a0 : List (List TItem)) (r1 : List Int) (v1 : Int) (xs2 : List TItem) : V0_i_Agreed k (n + 1) a0 r1 v1 xs2 = b0_i_Agreed k (V0_i_Agreed k n) a0 r1 v1 xs2 := by kernel_rfl
theorem e_i_Agreed (k : Nat) : ∀ n : Nat, V0_i_Agreed k n = l0_i_Agreed k n
  | 0 => (by funext a0 r1 v1 xs2; rfl)
  | n + 1 => by
    obtain h0 := e_i_Agreed k n
    exact (by funext a0 r1 v1 xs2; rw [t0_i_Agreed, h0] <;> rfl)
theorem u_i_Agreed (k : Nat) (a0 : List (List TItem)) : runX (c_i_Agreed k) fin_i_Agreed k 32 [argV (.slice 53 (.slice 91 yItem)) a0] ms0 = g_i_Agreed k (V0_i_Agreed k k) a0 := by kernel_rfl
theorem r_i_Agreed (k : Nat) (a0 : List (List TItem)) : runX (c_i_Agreed k) fin_i_Agreed k 32 [argV (.slice 53 (.slice 91 yItem)) a0] ms0 = i_Agreed k a0 := by rw [u_i_Agreed, show V0_i_Agreed k k = l0_i_Agreed k k from (e_i_Agreed k k)] <;> rfl
noncomputable def sp_i_Agreed (k : Nat) : Spec := .imm (.slice 53 (.slice 91 yItem)) fun (a0 : List (List TItem)) => .body (i_Agreed k a0) (outV [(.slice 91 yItem)] [.o])
noncomputable def c_l_heldItemS (k : Nat) : Cfg := { eqs := [], tab := [(3, (.int .i64)), (53, (.slice 91 yItem)), (91, yItem)], spec := [], mspec := [], inl := [(37, Try.f37)], keep := [(3700001002, [0, 1, 5])], join := [], hold := [], ptrs := [], maps := [], fuel := k }
noncomputable def fin_l_heldItemS : VV → Ms → Option Int := finV [(.int .i64)] []
noncomputable def V0_l_heldItemS (k n : Nat) (a0 : List TItem) (a1 : Int) (v1 : Int) : Option Int := lpN (c_l_heldItemS k) fin_l_heldItemS n true 3700001002 (cd [1, 0, 1, 0, 0] (bo Try.f37)) [.b 0, .s (cd [1, 1] (bo Try.f37)), .fn Try.f37] ⟨⟨(mkT 31 0 [(0, one (.slc 91 yItem a0)), (1, one (.int .i64 a1)), (5, one (.int .i64 v1))]), []⟩, 3700001000, 1, [(0, (mkT 0 0 []))]⟩
theorem t0_l_heldItemS (k n : Nat) (a0 : List TItem) (a1 : Int) (v1 : Int) : V0_l_heldItemS k (n + 1) a0 a1 v1 = b0_l_heldItemS k (V0_l_heldItemS k n) a0 a1 v1 := by kernel_rfl
theorem e_l_heldItemS (k : Nat) : ∀ n : Nat, V0_l_heldItemS k n = l0_l_heldItemS k n
  | 0 => (by funext a0 a1 v1; rfl)
  | n + 1 => by
    obtain h0 := e_l_heldItemS k n
    exact (by funext a0 a1 v1; rw [t0_l_heldItemS, h0] <;> rfl)
theorem u_l_heldItemS (k : Nat) (a0 : List TItem) (a1 : Int) : runX (c_l_heldItemS k) fin_l_heldItemS k 37 [argV (.slice 91 yItem) a0, argV (.int .i64) a1] ms0 = g_l_heldItemS k (V0_l_heldItemS k k) a0 a1 := by kernel_rfl
theorem r_l_heldItemS (k : Nat) (a0 : List TItem) (a1 : Int) : runX (c_l_heldItemS k) fin_l_heldItemS k 37 [argV (.slice 91 yItem) a0, argV (.int .i64) a1] ms0 = l_heldItemS k a0 a1 := by rw [u_l_heldItemS, show V0_l_heldItemS k k = l0_l_heldItemS k k from (e_l_heldItemS k k)] <;> rfl
noncomputable def sp_l_heldItemS (k : Nat) : Spec := .imm (.slice 91 yItem) fun (a0 : List TItem) => .imm (.int .i64) fun (a1 : Int) => .body (l_heldItemS k a0 a1) (outV [(.int .i64)] [])
noncomputable def c_l_FnExactAgreed (k : Nat) : Cfg := { eqs := [], tab := [], spec := [(29, sp_l_szItemSS k), (30, sp_s_Agreed k), (31, sp_l_toItemSS k), (32, sp_i_Agreed k), (33, sp_l_eqItemS k), (34, sp_l_eqItemSS k), (37, sp_l_heldItemS k)], mspec := [(35, sp_l_markItemSS k), (36, sp_l_markItemS k)], inl := [(5, Try.f5)], keep := [], join := [], hold := [], ptrs := [], maps := [], fuel := k }
noncomputable def fin_l_FnExactAgreed : VV → Ms → Option Bool := finV [.bool] []
theorem r_l_FnExactAgreed (k : Nat) (a0 : List (List TItem)) : runX (c_l_FnExactAgreed k) fin_l_FnExactAgreed k 5 [argV (.slice 64 (.slice 96 yItem)) a0] ms0 = l_FnExactAgreed k a0 := by kernel_rfl
noncomputable def sp_l_FnExactAgreed (k : Nat) : Spec := .imm (.slice 64 (.slice 96 yItem)) fun (a0 : List (List TItem)) => .body (l_FnExactAgreed k a0) (outV [.bool] [])
noncomputable def c_s_Clash (k : Nat) : Cfg := { eqs := [], tab := [(3, (.int .i64)), (24, (.slice 3 (.int .i64)))], spec := [(67, sp_s_l11Keys k), (68, sp_s_l11Alike k)], mspec := [], inl := [(38, Try.f38)], keep := [(3800001004, [0, 3, 4, 5])], join := [], hold := [], ptrs := [], maps := [], fuel := k }
noncomputable def fin_s_Clash : VV → Ms → Option (List Int) := finV [(.slice 3 (.int .i64))] [.o]
noncomputable def V0_s_Clash (k n : Nat) (a0 : List (List TItem)) (v1 : Int) (xs2 : List Int) (r1 : List Int) : Option (List Int) := lpN (c_s_Clash k) fin_s_Clash n true 3800001004 (cd [1, 1, 1, 0, 1, 0, 0] (bo Try.f38)) [.b 0, .s (cd [1, 1, 1, 1] (bo Try.f38)), .fn Try.f38] ⟨⟨(mkT 30 0 [(0, one (.slc 53 (.slice 91 yItem) a0)), (3, one (.row 9000000 none none)), (4, one (.row 9000001 none none)), (5, one (.int .i64 v1))]), [(9000000, .row 3 (.int .i64) xs2 true), (9000001, .row 3 (.int .i64) r1 true)]⟩, 3800001000, 1, [(0, (mkT 0 0 []))]⟩
theorem t0_s_Clash (k n : Nat) (a0 : List (List TItem)) (v1 : Int) (xs2 : List Int) (r1 : List Int) : V0_s_Clash k (n + 1) a0 v1 xs2 r1 = b0_s_Clash k (V0_s_Clash k n) a0 v1 xs2 r1 := by kernel_rfl
theorem e_s_Clash (k : Nat) : ∀ n : Nat, V0_s_Clash k n = l0_s_Clash k n
  | 0 => (by funext a0 v1 xs2 r1; rfl)
  | n + 1 => by
    obtain h0 := e_s_Clash k n
    exact (by funext a0 v1 xs2 r1; rw [t0_s_Clash, h0] <;> rfl)
theorem u_s_Clash (k : Nat) (a0 : List (List TItem)) : runX (c_s_Clash k) fin_s_Clash k 38 [argV (.slice 53 (.slice 91 yItem)) a0] ms0 = g_s_Clash k (V0_s_Clash k k) a0 := by kernel_rfl
theorem r_s_Clash (k : Nat) (a0 : List (List TItem)) : runX (c_s_Clash k) fin_s_Clash k 38 [argV (.slice 53 (.slice 91 yItem)) a0] ms0 = s_Clash k a0 := by rw [u_s_Clash, show V0_s_Clash k k = l0_s_Clash k k from (e_s_Clash k k)] <;> rfl
noncomputable def sp_s_Clash (k : Nat) : Spec := .imm (.slice 53 (.slice 91 yItem)) fun (a0 : List (List TItem)) => .body (s_Clash k a0) (outV [(.slice 3 (.int .i64))] [.o])
noncomputable def c_i_Clash (k : Nat) : Cfg := { eqs := [], tab := [(3, (.int .i64)), (24, (.slice 3 (.int .i64)))], spec := [(70, sp_i_keysIn k), (71, sp_i_allTell k)], mspec := [], inl := [(39, Try.f39)], keep := [(3900001003, [0, 3, 7, 8, 9])], join := [], hold := [(3900001003, [(3, [0], 3, (.int .i64), false, false)])], ptrs := [], maps := [], fuel := k }
noncomputable def fin_i_Clash : VV → Ms → Option (List Int) := finV [(.slice 3 (.int .i64))] [.o]
noncomputable def V0_i_Clash (k n : Nat) (a0 : List (List TItem)) (r1 : List Int) (v1 : Int) (xs2 : List Int) : Option (List Int) := lpN (c_i_Clash k) fin_i_Clash n true 3900001003 (cd [1, 1, 0, 1, 0, 0] (bo Try.f39)) [.b 0, .s (cd [1, 1, 1] (bo Try.f39)), .fn Try.f39] ⟨⟨(mkT 23 0 [(0, one (.slc 53 (.slice 91 yItem) a0)), (3, one (.row 9000000 none none)), (7, one (.row 9000001 none none)), (8, one (.int .i64 (r1.length : Int))), (9, one (.int .i64 v1))]), [(9000000, .row 3 (.int .i64) xs2 true), (9000001, .row 3 (.int .i64) r1 true)]⟩, 3900001000, 1, [(0, (mkT 0 0 []))]⟩
theorem t0_i_Clash (k n : Nat) (a0 : List (List TItem)) (r1 : List Int) (v1 : Int) (xs2 : List Int) : V0_i_Clash k (n + 1) a0 r1 v1 xs2 = b0_i_Clash k (V0_i_Clash k n) a0 r1 v1 xs2 := by kernel_rfl
theorem e_i_Clash (k : Nat) : ∀ n : Nat, V0_i_Clash k n = l0_i_Clash k n
  | 0 => (by funext a0 r1 v1 xs2; rfl)
  | n + 1 => by
    obtain h0 := e_i_Clash k n
    exact (by funext a0 r1 v1 xs2; rw [t0_i_Clash, h0] <;> rfl)
theorem u_i_Clash (k : Nat) (a0 : List (List TItem)) : runX (c_i_Clash k) fin_i_Clash k 39 [argV (.slice 53 (.slice 91 yItem)) a0] ms0 = g_i_Clash k (V0_i_Clash k k) a0 := by kernel_rfl
theorem r_i_Clash (k : Nat) (a0 : List (List TItem)) : runX (c_i_Clash k) fin_i_Clash k 39 [argV (.slice 53 (.slice 91 yItem)) a0] ms0 = i_Clash k a0 := by rw [u_i_Clash, show V0_i_Clash k k = l0_i_Clash k k from (e_i_Clash k k)] <;> rfl
noncomputable def sp_i_Clash (k : Nat) : Spec := .imm (.slice 53 (.slice 91 yItem)) fun (a0 : List (List TItem)) => .body (i_Clash k a0) (outV [(.slice 3 (.int .i64))] [.o])
noncomputable def c_l_FnExactClash (k : Nat) : Cfg := { eqs := [], tab := [], spec := [(29, sp_l_szItemSS k), (31, sp_l_toItemSS k), (34, sp_l_eqItemSS k), (38, sp_s_Clash k), (39, sp_i_Clash k), (40, sp_l_eqIntS k), (42, sp_l_heldIntS k)], mspec := [(35, sp_l_markItemSS k), (41, sp_l_markIntS k)], inl := [(6, Try.f6)], keep := [], join := [], hold := [], ptrs := [], maps := [], fuel := k }
noncomputable def fin_l_FnExactClash : VV → Ms → Option Bool := finV [.bool] []
theorem r_l_FnExactClash (k : Nat) (a0 : List (List TItem)) : runX (c_l_FnExactClash k) fin_l_FnExactClash k 6 [argV (.slice 64 (.slice 96 yItem)) a0] ms0 = l_FnExactClash k a0 := by kernel_rfl
noncomputable def sp_l_FnExactClash (k : Nat) : Spec := .imm (.slice 64 (.slice 96 yItem)) fun (a0 : List (List TItem)) => .body (l_FnExactClash k a0) (outV [.bool] [])
noncomputable def c_s_l01In (k : Nat) : Cfg := { eqs := [], tab := [], spec := [], mspec := [], inl := [(75, Try.f75)], keep := [], join := [], hold := [], ptrs := [], maps := [], fuel := k }
noncomputable def fin_s_l01In : VV → Ms → Option Bool := finV [.bool] []
theorem r_s_l01In (k : Nat) (a0 : Int) (a1 : Int) (a2 : Int) : runX (c_s_l01In k) fin_s_l01In k 75 [argV (.int .i64) a0, argV (.int .i64) a1, argV (.int .i64) a2] ms0 = s_l01In k a0 a1 a2 := by kernel_rfl
noncomputable def sp_s_l01In (k : Nat) : Spec := .imm (.int .i64) fun (a0 : Int) => .imm (.int .i64) fun (a1 : Int) => .imm (.int .i64) fun (a2 : Int) => .body (s_l01In k a0 a1 a2) (outV [.bool] [])
noncomputable def c_s_l11Add (k : Nat) : Cfg := { eqs := [], tab := [(3, (.int .i64)), (24, (.slice 3 (.int .i64)))], spec := [], mspec := [], inl := [(76, Try.f76)], keep := [(7600001004, [0, 1, 5, 6, 7])], join := [], hold := [], ptrs := [], maps := [], fuel := k }
noncomputable def fin_s_l11Add : VV → Ms → Option (List Int) := finV [(.slice 3 (.int .i64))] [.o]
noncomputable def V0_s_l11Add (k n : Nat) (a0 : List Int) (a1 : Int) (v1 : Bool) (v2 : Int) (xs3 : List Int) : Option (List Int) := lpN (c_s_l11Add k) fin_s_l11Add n true 7600001004 (cd [1, 1, 1, 0, 1, 0, 0] (bo Try.f76)) [.b 0, .s (cd [1, 1, 1, 1] (bo Try.f76)), .fn Try.f76] ⟨⟨(mkT 49 0 [(0, one (.slc 3 (.int .i64) a0)), (1, one (.int .i64 a1)), (5, one (.row 9000000 none none)), (6, one (.bool v1)), (7, one (.int .i64 v2))]), [(9000000, .row 3 (.int .i64) xs3 true)]⟩, 7600001000, 1, [(0, (mkT 0 0 []))]⟩
theorem t0_s_l11Add (k n : Nat) (a0 : List Int) (a1 : Int) (v1 : Bool) (v2 : Int) (xs3 : List Int) : V0_s_l11Add k (n + 1) a0 a1 v1 v2 xs3 = b0_s_l11Add k (V0_s_l11Add k n) a0 a1 v1 v2 xs3 := by kernel_rfl
theorem e_s_l11Add (k : Nat) : ∀ n : Nat, V0_s_l11Add k n = l0_s_l11Add k n
  | 0 => (by funext a0 a1 v1 v2 xs3; rfl)
  | n + 1 => by
    obtain h0 := e_s_l11Add k n
    exact (by funext a0 a1 v1 v2 xs3; rw [t0_s_l11Add, h0] <;> rfl)
theorem u_s_l11Add (k : Nat) (a0 : List Int) (a1 : Int) : runX (c_s_l11Add k) fin_s_l11Add k 76 [argV (.slice 3 (.int .i64)) a0, argV (.int .i64) a1] ms0 = g_s_l11Add k (V0_s_l11Add k k) a0 a1 := by kernel_rfl
theorem r_s_l11Add (k : Nat) (a0 : List Int) (a1 : Int) : runX (c_s_l11Add k) fin_s_l11Add k 76 [argV (.slice 3 (.int .i64)) a0, argV (.int .i64) a1] ms0 = s_l11Add k a0 a1 := by rw [u_s_l11Add, show V0_s_l11Add k k = l0_s_l11Add k k from (e_s_l11Add k k)] <;> rfl
noncomputable def sp_s_l11Add (k : Nat) : Spec := .imm (.slice 3 (.int .i64)) fun (a0 : List Int) => .imm (.int .i64) fun (a1 : Int) => .body (s_l11Add k a0 a1) (outV [(.slice 3 (.int .i64))] [.o])
noncomputable def c_s_AuthOf (k : Nat) : Cfg := { eqs := [], tab := [(3, (.int .i64)), (24, (.slice 3 (.int .i64))), (26, yEvent)], spec := [(58, sp_s_l10Find k), (69, sp_s_At k), (75, sp_s_l01In k), (76, sp_s_l11Add k)], mspec := [], inl := [(45, Try.f45)], keep := [(4500001008, [0, 1, 7, 8, 9])], join := [], hold := [], ptrs := [], maps := [], fuel := k }
noncomputable def fin_s_AuthOf : VV → Ms → Option (List Int) := finV [(.slice 3 (.int .i64))] [.o]
noncomputable def V0_s_AuthOf (k n : Nat) (a0 : List TEvent) (a1 : List TItem) (v1 : Int) (xs2 : List Int) (xs3 : List Int) : Option (List Int) := lpN (c_s_AuthOf k) fin_s_AuthOf n true 4500001008 (cd [1, 1, 1, 1, 1, 0, 1, 0, 0] (bo Try.f45)) [.b 0, .s (cd [1, 1, 1, 1, 1, 1] (bo Try.f45)), .fn Try.f45] ⟨⟨(mkT 65 0 [(0, one (.slc 26 yEvent a0)), (1, one (.slc 91 yItem a1)), (7, one (.row 9000000 none none)), (8, one (.row 9000001 none none)), (9, one (.int .i64 v1))]), [(9000000, .row 3 (.int .i64) xs2 true), (9000001, .row 3 (.int .i64) xs3 true)]⟩, 4500001000, 1, [(0, (mkT 0 0 []))]⟩
theorem t0_s_AuthOf (k n : Nat) (a0 : List TEvent) (a1 : List TItem) (v1 : Int) (xs2 : List Int) (xs3 : List Int) : V0_s_AuthOf k (n + 1) a0 a1 v1 xs2 xs3 = b0_s_AuthOf k (V0_s_AuthOf k n) a0 a1 v1 xs2 xs3 := by kernel_rfl
theorem e_s_AuthOf (k : Nat) : ∀ n : Nat, V0_s_AuthOf k n = l0_s_AuthOf k n
  | 0 => (by funext a0 a1 v1 xs2 xs3; rfl)
  | n + 1 => by
    obtain h0 := e_s_AuthOf k n
    exact (by funext a0 a1 v1 xs2 xs3; rw [t0_s_AuthOf, h0] <;> rfl)
theorem u_s_AuthOf (k : Nat) (a0 : List TEvent) (a1 : List TItem) (a2 : TEvent) : runX (c_s_AuthOf k) fin_s_AuthOf k 45 [argV (.slice 26 yEvent) a0, argV (.slice 91 yItem) a1, argV yEvent a2] ms0 = g_s_AuthOf k (V0_s_AuthOf k k) a0 a1 a2 := by kernel_rfl
theorem r_s_AuthOf (k : Nat) (a0 : List TEvent) (a1 : List TItem) (a2 : TEvent) : runX (c_s_AuthOf k) fin_s_AuthOf k 45 [argV (.slice 26 yEvent) a0, argV (.slice 91 yItem) a1, argV yEvent a2] ms0 = s_AuthOf k a0 a1 a2 := by rw [u_s_AuthOf, show V0_s_AuthOf k k = l0_s_AuthOf k k from (e_s_AuthOf k k)] <;> rfl
noncomputable def sp_s_AuthOf (k : Nat) : Spec := .imm (.slice 26 yEvent) fun (a0 : List TEvent) => .imm (.slice 91 yItem) fun (a1 : List TItem) => .imm yEvent fun (a2 : TEvent) => .body (s_AuthOf k a0 a1 a2) (outV [(.slice 3 (.int .i64))] [.o])
noncomputable def c_i_tells (k : Nat) : Cfg := { eqs := [], tab := [(26, yEvent)], spec := [(14, sp_i_Known k), (72, sp_i_At k)], mspec := [], inl := [(80, Try.f80)], keep := [], join := [], hold := [], ptrs := [], maps := [], fuel := k }
noncomputable def fin_i_tells : VV → Ms → Option (TEvent × Bool) := finV [yEvent, .bool] [.o, .o]
theorem r_i_tells (k : Nat) (a0 : List TEvent) (a1 : List TItem) (a2 : Int) : runX (c_i_tells k) fin_i_tells k 80 [argV (.slice 26 yEvent) a0, argV (.slice 91 yItem) a1, argV (.int .i64) a2] ms0 = i_tells k a0 a1 a2 := by kernel_rfl
noncomputable def sp_i_tells (k : Nat) : Spec := .imm (.slice 26 yEvent) fun (a0 : List TEvent) => .imm (.slice 91 yItem) fun (a1 : List TItem) => .imm (.int .i64) fun (a2 : Int) => .body (i_tells k a0 a1 a2) (outV [yEvent, .bool] [.o, .o])
noncomputable def c_i_AuthOf (k : Nat) : Cfg := { eqs := [], tab := [(3, (.int .i64)), (24, (.slice 3 (.int .i64))), (26, yEvent)], spec := [(79, sp_i_within k), (80, sp_i_tells k)], mspec := [(81, sp_slices_Sort_int_int k)], inl := [(48, Try.f48), (82, Try.f82)], keep := [(4800001008, [0, 1, 8, 37, 38, 39]), (8200002004, [0, 3]), (8200002009, [0, 3, 4, 5])], join := [], hold := [(4800001008, [(8, [0], 3, (.int .i64), false, false)])], ptrs := [], maps := [], fuel := k }
noncomputable def fin_i_AuthOf : VV → Ms → Option (List Int) := finV [(.slice 3 (.int .i64))] [.o]
noncomputable def V2_i_AuthOf (k n : Nat) (v6 : Int) (v5 : Int) (v7 : Int) (xs8 : List Int) (xs4 : List Int) (a0 : List TEvent) (a1 : List TItem) (v1 : Int) (v2 : Int) : Option (List Int) := lpN (c_i_AuthOf k) fin_i_AuthOf n true 8200002009 (cd [1, 1, 0, 1, 0, 0, 1, 0, 0, 1, 0, 1, 0, 1, 0, 0] (bo Try.f82)) [.b 2, .s (cd [1, 1, 0, 1, 0, 0, 1, 0, 0, 1, 0, 1, 1] (bo Try.f82)), .b 1, .s (cd [1, 1, 0, 1, 0, 0, 1, 1] (bo Try.f82)), .l 8200002004 (cd [1, 1, 0, 1, 0, 0] (bo Try.f82)), .b 0, .s (cd [1, 1, 1] (bo Try.f82)), .fn Try.f82, .op (rg (cd [1, 1, 1, 1, 1, 1, 1, 0] (bo Try.f48))) ((rg (cd [1, 1, 1, 1, 1, 1, 1, 0] (bo Try.f48))).drop 2) 2 (some 60), .s (cd [1, 1, 1, 1, 1, 1, 1, 1] (bo Try.f48)), .fn Try.f48] ⟨⟨(mkT 61 0 [(0, one (.row 9000000 none none)), (3, one (.int .i64 v6)), (4, one (.row 9000000 (some v5.toNat) none)), (5, one (.int .i64 v7))]), [(9000000, .row 3 (.int .i64) xs8 true), (9000001, .row 3 (.int .i64) xs4 true)]⟩, 8200002000, 2, [(4800001000, (mkT 61 0 [(0, one (.slc 26 yEvent a0)), (1, one (.slc 91 yItem a1)), (8, one (.row 9000000 none none)), (37, one (.row 9000001 none none)), (38, one (.int .i64 v1)), (39, one (.int .i64 v2)), (40, one (.bool false)), (57, one (.row 9000000 none none)), (58, .tup []), (59, one (.row 9000000 none none))])), (0, (mkT 0 0 []))]⟩
noncomputable def V1_i_AuthOf (k n : Nat) (v5 : Int) (r4 : Unit × List Int × Unit) (xs4 : List Int) (a0 : List TEvent) (a1 : List TItem) (v1 : Int) (v2 : Int) : Option (List Int) := lpN (c_i_AuthOf k) fin_i_AuthOf n true 8200002004 (cd [1, 1, 0, 1, 0, 0] (bo Try.f82)) [.b 0, .s (cd [1, 1, 1] (bo Try.f82)), .fn Try.f82, .op (rg (cd [1, 1, 1, 1, 1, 1, 1, 0] (bo Try.f48))) ((rg (cd [1, 1, 1, 1, 1, 1, 1, 0] (bo Try.f48))).drop 2) 2 (some 60), .s (cd [1, 1, 1, 1, 1, 1, 1, 1] (bo Try.f48)), .fn Try.f48] ⟨⟨(mkT 61 0 [(0, one (.row 9000000 none none)), (3, one (.int .i64 v5))]), [(9000000, .row 3 (.int .i64) r4.2.1 true), (9000001, .row 3 (.int .i64) xs4 true)]⟩, 8200002000, 2, [(4800001000, (mkT 61 0 [(0, one (.slc 26 yEvent a0)), (1, one (.slc 91 yItem a1)), (8, one (.row 9000000 none none)), (37, one (.row 9000001 none none)), (38, one (.int .i64 v1)), (39, one (.int .i64 v2)), (40, one (.bool false)), (57, one (.row 9000000 none none)), (58, .tup []), (59, one (.row 9000000 none none))])), (0, (mkT 0 0 []))]⟩
noncomputable def V0_i_AuthOf (k n : Nat) (a0 : List TEvent) (a1 : List TItem) (v1 : Int) (v2 : Int) (xs3 : List Int) (xs4 : List Int) : Option (List Int) := lpN (c_i_AuthOf k) fin_i_AuthOf n true 4800001008 (cd [1, 1, 1, 1, 1, 0, 1, 0, 0] (bo Try.f48)) [.b 0, .s (cd [1, 1, 1, 1, 1, 1] (bo Try.f48)), .fn Try.f48] ⟨⟨(mkT 61 0 [(0, one (.slc 26 yEvent a0)), (1, one (.slc 91 yItem a1)), (8, one (.row 9000000 none none)), (37, one (.row 9000001 none none)), (38, one (.int .i64 v1)), (39, one (.int .i64 v2))]), [(9000000, .row 3 (.int .i64) xs3 true), (9000001, .row 3 (.int .i64) xs4 true)]⟩, 4800001000, 1, [(0, (mkT 0 0 []))]⟩
theorem t2_i_AuthOf (k n : Nat) (v6 : Int) (v5 : Int) (v7 : Int) (xs8 : List Int) (xs4 : List Int) (a0 : List TEvent) (a1 : List TItem) (v1 : Int) (v2 : Int) : V2_i_AuthOf k (n + 1) v6 v5 v7 xs8 xs4 a0 a1 v1 v2 = b2_i_AuthOf k (V2_i_AuthOf k n) v6 v5 v7 xs8 xs4 a0 a1 v1 v2 := by kernel_rfl
theorem t1_i_AuthOf (k n : Nat) (v5 : Int) (r4 : Unit × List Int × Unit) (xs4 : List Int) (a0 : List TEvent) (a1 : List TItem) (v1 : Int) (v2 : Int) : V1_i_AuthOf k (n + 1) v5 r4 xs4 a0 a1 v1 v2 = b1_i_AuthOf k (V2_i_AuthOf k n) (V1_i_AuthOf k n) v5 r4 xs4 a0 a1 v1 v2 := by kernel_rfl
theorem t0_i_AuthOf (k n : Nat) (a0 : List TEvent) (a1 : List TItem) (v1 : Int) (v2 : Int) (xs3 : List Int) (xs4 : List Int) : V0_i_AuthOf k (n + 1) a0 a1 v1 v2 xs3 xs4 = b0_i_AuthOf k (V0_i_AuthOf k n) (V1_i_AuthOf k n) a0 a1 v1 v2 xs3 xs4 := by kernel_rfl
theorem e_i_AuthOf (k : Nat) : ∀ n : Nat, V2_i_AuthOf k n = l2_i_AuthOf k n ∧ V1_i_AuthOf k n = l1_i_AuthOf k n ∧ V0_i_AuthOf k n = l0_i_AuthOf k n
  | 0 => ⟨(by funext v6 v5 v7 xs8 xs4 a0 a1 v1 v2; rfl), (by funext v5 r4 xs4 a0 a1 v1 v2; rfl), (by funext a0 a1 v1 v2 xs3 xs4; rfl)⟩
  | n + 1 => by
    obtain ⟨h2, h1, h0⟩ := e_i_AuthOf k n
    exact ⟨(by funext v6 v5 v7 xs8 xs4 a0 a1 v1 v2; rw [t2_i_AuthOf, h2] <;> rfl), (by funext v5 r4 xs4 a0 a1 v1 v2; rw [t1_i_AuthOf, h2, h1] <;> rfl), (by funext a0 a1 v1 v2 xs3 xs4; rw [t0_i_AuthOf, h0, h1] <;> rfl)⟩
theorem u_i_AuthOf (k : Nat) (a0 : List TEvent) (a1 : List TItem) (a2 : TEvent) : runX (c_i_AuthOf k) fin_i_AuthOf k 48 [argV (.slice 26 yEvent) a0, argV (.slice 91 yItem) a1, argV yEvent a2] ms0 = g_i_AuthOf k (V0_i_AuthOf k k) a0 a1 a2 := by kernel_rfl
theorem r_i_AuthOf (k : Nat) (a0 : List TEvent) (a1 : List TItem) (a2 : TEvent) : runX (c_i_AuthOf k) fin_i_AuthOf k 48 [argV (.slice 26 yEvent) a0, argV (.slice 91 yItem) a1, argV yEvent a2] ms0 = i_AuthOf k a0 a1 a2 := by rw [u_i_AuthOf, show V0_i_AuthOf k k = l0_i_AuthOf k k from (e_i_AuthOf k k).2.2] <;> rfl
noncomputable def sp_i_AuthOf (k : Nat) : Spec := .imm (.slice 26 yEvent) fun (a0 : List TEvent) => .imm (.slice 91 yItem) fun (a1 : List TItem) => .imm yEvent fun (a2 : TEvent) => .body (i_AuthOf k a0 a1 a2) (outV [(.slice 3 (.int .i64))] [.o])
noncomputable def c_l_FnExactAuthOf (k : Nat) : Cfg := { eqs := [], tab := [(24, (.slice 3 (.int .i64))), (26, yEvent), (65, yEvent)], spec := [(11, sp_l_szEventS k), (13, sp_l_toEventS k), (15, sp_l_eqEvent k), (16, sp_l_eqEventS k), (33, sp_l_eqItemS k), (40, sp_l_eqIntS k), (42, sp_l_heldIntS k), (43, sp_l_szItemS k), (44, sp_l_szEvent k), (45, sp_s_AuthOf k), (46, sp_l_toItemS k), (47, sp_l_toEvent k), (48, sp_i_AuthOf k)], mspec := [(17, sp_l_markEventS k), (36, sp_l_markItemS k), (41, sp_l_markIntS k)], inl := [(7, Try.f7), (18, Try.f18)], keep := [], join := [], hold := [], ptrs := [], maps := [], fuel := k }
noncomputable def fin_l_FnExactAuthOf : VV → Ms → Option Bool := finV [.bool] []
theorem r_l_FnExactAuthOf (k : Nat) (a0 : List TEvent) (a1 : List TItem) (a2 : TEvent) : runX (c_l_FnExactAuthOf k) fin_l_FnExactAuthOf k 7 [argV (.slice 65 yEvent) a0, argV (.slice 96 yItem) a1, argV yEvent a2] ms0 = l_FnExactAuthOf k a0 a1 a2 := by kernel_rfl
noncomputable def sp_l_FnExactAuthOf (k : Nat) : Spec := .imm (.slice 65 yEvent) fun (a0 : List TEvent) => .imm (.slice 96 yItem) fun (a1 : List TItem) => .imm yEvent fun (a2 : TEvent) => .body (l_FnExactAuthOf k a0 a1 a2) (outV [.bool] [])
noncomputable def c_s_l05In (k : Nat) : Cfg := { eqs := [], tab := [(3, (.int .i64)), (24, (.slice 3 (.int .i64)))], spec := [], mspec := [], inl := [(83, Try.f83)], keep := [(8300001002, [0, 1, 5])], join := [], hold := [], ptrs := [], maps := [], fuel := k }
noncomputable def fin_s_l05In : VV → Ms → Option Bool := finV [.bool] []
noncomputable def V0_s_l05In (k n : Nat) (a0 : List Int) (a1 : Int) (v1 : Int) : Option Bool := lpN (c_s_l05In k) fin_s_l05In n true 8300001002 (cd [1, 0, 1, 0, 0] (bo Try.f83)) [.b 0, .s (cd [1, 1] (bo Try.f83)), .fn Try.f83] ⟨⟨(mkT 18 0 [(0, one (.slc 3 (.int .i64) a0)), (1, one (.int .i64 a1)), (5, one (.int .i64 v1))]), []⟩, 8300001000, 1, [(0, (mkT 0 0 []))]⟩
theorem t0_s_l05In (k n : Nat) (a0 : List Int) (a1 : Int) (v1 : Int) : V0_s_l05In k (n + 1) a0 a1 v1 = b0_s_l05In k (V0_s_l05In k n) a0 a1 v1 := by kernel_rfl
theorem e_s_l05In (k : Nat) : ∀ n : Nat, V0_s_l05In k n = l0_s_l05In k n
  | 0 => (by funext a0 a1 v1; rfl)
  | n + 1 => by
    obtain h0 := e_s_l05In k n
    exact (by funext a0 a1 v1; rw [t0_s_l05In, h0] <;> rfl)
theorem u_s_l05In (k : Nat) (a0 : List Int) (a1 : Int) : runX (c_s_l05In k) fin_s_l05In k 83 [argV (.slice 3 (.int .i64)) a0, argV (.int .i64) a1] ms0 = g_s_l05In k (V0_s_l05In k k) a0 a1 := by kernel_rfl
theorem r_s_l05In (k : Nat) (a0 : List Int) (a1 : Int) : runX (c_s_l05In k) fin_s_l05In k 83 [argV (.slice 3 (.int .i64)) a0, argV (.int .i64) a1] ms0 = s_l05In k a0 a1 := by rw [u_s_l05In, show V0_s_l05In k k = l0_s_l05In k k from (e_s_l05In k k)] <;> rfl
noncomputable def sp_s_l05In (k : Nat) : Spec := .imm (.slice 3 (.int .i64)) fun (a0 : List Int) => .imm (.int .i64) fun (a1 : Int) => .body (s_l05In k a0 a1) (outV [.bool] [])
noncomputable def c_s_EndsOf (k : Nat) : Cfg := { eqs := [], tab := [(3, (.int .i64)), (24, (.slice 3 (.int .i64))), (26, yEvent), (29, (.slice 26 yEvent)), (45, yRoom1)], spec := [(76, sp_s_l11Add k), (83, sp_s_l05In k)], mspec := [], inl := [(49, Try.f49)], keep := [(4900001003, [1, 3, 4]), (4900001007, [1, 3, 4, 5, 6])], join := [], hold := [], ptrs := [], maps := [], fuel := k }
noncomputable def fin_s_EndsOf : VV → Ms → Option (List Int) := finV [(.slice 3 (.int .i64))] [.o]
noncomputable def V0_s_EndsOf (k n : Nat) (v1 : Int) (a0 : TRoom) (xs2 : List Int) : Option (List Int) := lpN (c_s_EndsOf k) fin_s_EndsOf n true 4900001003 (cd [1, 1, 0, 1, 0, 0] (bo Try.f49)) [.b 0, .s (cd [1, 1, 1] (bo Try.f49)), .fn Try.f49] ⟨⟨(mkT 49 0 [(1, one (.ptr 9000000 0)), (3, one (.row 9000001 none none)), (4, one (.int .i64 v1))]), [(9000000, .box [.slc 26 yEvent a0.1, .slc 53 (.slice 91 yItem) a0.2.1, .slc 4 .bool a0.2.2.1]), (9000001, .row 3 (.int .i64) xs2 true)]⟩, 4900001000, 1, [(0, (mkT 0 0 []))]⟩
noncomputable def V1_s_EndsOf (k n : Nat) (v1 : Int) (v3 : Bool) (v4 : Int) (a0 : TRoom) (xs2 : List Int) : Option (List Int) := lpN (c_s_EndsOf k) fin_s_EndsOf n true 4900001007 (cd [1, 1, 0, 1, 0, 0, 1, 0, 0, 1, 0, 1, 0, 0] (bo Try.f49)) [.b 2, .s (cd [1, 1, 0, 1, 0, 0, 1, 0, 0, 1, 1] (bo Try.f49)), .b 1, .s (cd [1, 1, 0, 1, 0, 0, 1, 1] (bo Try.f49)), .l 4900001003 (cd [1, 1, 0, 1, 0, 0] (bo Try.f49)), .b 0, .s (cd [1, 1, 1] (bo Try.f49)), .fn Try.f49] ⟨⟨(mkT 49 0 [(1, one (.ptr 9000000 0)), (3, one (.row 9000001 none none)), (4, one (.int .i64 v1)), (5, one (.bool v3)), (6, one (.int .i64 v4))]), [(9000000, .box [.slc 26 yEvent a0.1, .slc 53 (.slice 91 yItem) a0.2.1, .slc 4 .bool a0.2.2.1]), (9000001, .row 3 (.int .i64) xs2 true)]⟩, 4900001000, 1, [(0, (mkT 0 0 []))]⟩
theorem t0_s_EndsOf (k n : Nat) (v1 : Int) (a0 : TRoom) (xs2 : List Int) : V0_s_EndsOf k (n + 1) v1 a0 xs2 = b0_s_EndsOf k (V1_s_EndsOf k n) v1 a0 xs2 := by kernel_rfl
theorem t1_s_EndsOf (k n : Nat) (v1 : Int) (v3 : Bool) (v4 : Int) (a0 : TRoom) (xs2 : List Int) : V1_s_EndsOf k (n + 1) v1 v3 v4 a0 xs2 = b1_s_EndsOf k (V1_s_EndsOf k n) (V0_s_EndsOf k n) v1 v3 v4 a0 xs2 := by kernel_rfl
theorem e_s_EndsOf (k : Nat) : ∀ n : Nat, V0_s_EndsOf k n = l0_s_EndsOf k n ∧ V1_s_EndsOf k n = l1_s_EndsOf k n
  | 0 => ⟨(by funext v1 a0 xs2; rfl), (by funext v1 v3 v4 a0 xs2; rfl)⟩
  | n + 1 => by
    obtain ⟨h0, h1⟩ := e_s_EndsOf k n
    exact ⟨(by funext v1 a0 xs2; rw [t0_s_EndsOf, h1] <;> rfl), (by funext v1 v3 v4 a0 xs2; rw [t1_s_EndsOf, h1, h0] <;> rfl)⟩
theorem u_s_EndsOf (k : Nat) (a0 : TRoom) : runX (c_s_EndsOf k) fin_s_EndsOf k 49 [argV yRoom1 a0] ms0 = g_s_EndsOf k (V0_s_EndsOf k k) a0 := by kernel_rfl
theorem r_s_EndsOf (k : Nat) (a0 : TRoom) : runX (c_s_EndsOf k) fin_s_EndsOf k 49 [argV yRoom1 a0] ms0 = s_EndsOf k a0 := by rw [u_s_EndsOf, show V0_s_EndsOf k k = l0_s_EndsOf k k from (e_s_EndsOf k k).1] <;> rfl
noncomputable def sp_s_EndsOf (k : Nat) : Spec := .imm yRoom1 fun (a0 : TRoom) => .body (s_EndsOf k a0) (outV [(.slice 3 (.int .i64))] [.o])
noncomputable def c_slices_Index_int_int (k : Nat) : Cfg := { eqs := [], tab := [(3, (.int .i64)), (24, (.slice 3 (.int .i64)))], spec := [], mspec := [], inl := [(101, Try.f101)], keep := [(10100001002, [0, 1, 7, 8])], join := [], hold := [], ptrs := [], maps := [], fuel := k }
noncomputable def fin_slices_Index_int_int : VV → Ms → Option Int := finV [(.int .i64)] []
noncomputable def V0_slices_Index_int_int (k n : Nat) (a0 : List Int) (a1 : Int) (v1 : Int) : Option Int := lpN (c_slices_Index_int_int k) fin_slices_Index_int_int n true 10100001002 (cd [1, 0, 1, 0, 0] (bo Try.f101)) [.b 0, .s (cd [1, 1] (bo Try.f101)), .fn Try.f101] ⟨⟨(mkT 19 0 [(0, one (.slc 3 (.int .i64) a0)), (1, one (.int .i64 a1)), (7, one (.int .i64 (a0.length : Int))), (8, one (.int .i64 v1))]), []⟩, 10100001000, 1, [(0, (mkT 0 0 []))]⟩
theorem t0_slices_Index_int_int (k n : Nat) (a0 : List Int) (a1 : Int) (v1 : Int) : V0_slices_Index_int_int k (n + 1) a0 a1 v1 = b0_slices_Index_int_int k (V0_slices_Index_int_int k n) a0 a1 v1 := by kernel_rfl
theorem e_slices_Index_int_int (k : Nat) : ∀ n : Nat, V0_slices_Index_int_int k n = l0_slices_Index_int_int k n
  | 0 => (by funext a0 a1 v1; rfl)
  | n + 1 => by
    obtain h0 := e_slices_Index_int_int k n
    exact (by funext a0 a1 v1; rw [t0_slices_Index_int_int, h0] <;> rfl)
theorem u_slices_Index_int_int (k : Nat) (a0 : List Int) (a1 : Int) : runX (c_slices_Index_int_int k) fin_slices_Index_int_int k 101 [argV (.slice 3 (.int .i64)) a0, argV (.int .i64) a1] ms0 = g_slices_Index_int_int k (V0_slices_Index_int_int k k) a0 a1 := by kernel_rfl
theorem r_slices_Index_int_int (k : Nat) (a0 : List Int) (a1 : Int) : runX (c_slices_Index_int_int k) fin_slices_Index_int_int k 101 [argV (.slice 3 (.int .i64)) a0, argV (.int .i64) a1] ms0 = slices_Index_int_int k a0 a1 := by rw [u_slices_Index_int_int, show V0_slices_Index_int_int k k = l0_slices_Index_int_int k k from (e_slices_Index_int_int k k)] <;> rfl
noncomputable def sp_slices_Index_int_int (k : Nat) : Spec := .imm (.slice 3 (.int .i64)) fun (a0 : List Int) => .imm (.int .i64) fun (a1 : Int) => .body (slices_Index_int_int k a0 a1) (outV [(.int .i64)] [])
noncomputable def c_slices_Contains_int_int (k : Nat) : Cfg := { eqs := [], tab := [], spec := [(101, sp_slices_Index_int_int k)], mspec := [], inl := [(86, Try.f86)], keep := [], join := [], hold := [], ptrs := [], maps := [], fuel := k }
noncomputable def fin_slices_Contains_int_int : VV → Ms → Option Bool := finV [.bool] []
theorem r_slices_Contains_int_int (k : Nat) (a0 : List Int) (a1 : Int) : runX (c_slices_Contains_int_int k) fin_slices_Contains_int_int k 86 [argV (.slice 3 (.int .i64)) a0, argV (.int .i64) a1] ms0 = slices_Contains_int_int k a0 a1 := by kernel_rfl
noncomputable def sp_slices_Contains_int_int (k : Nat) : Spec := .imm (.slice 3 (.int .i64)) fun (a0 : List Int) => .imm (.int .i64) fun (a1 : Int) => .body (slices_Contains_int_int k a0 a1) (outV [.bool] [])
noncomputable def c_i_EndsOf (k : Nat) : Cfg := { eqs := [], tab := [(3, (.int .i64)), (24, (.slice 3 (.int .i64))), (26, yEvent), (29, (.slice 26 yEvent)), (45, yRoom1)], spec := [(86, sp_slices_Contains_int_int k)], mspec := [(81, sp_slices_Sort_int_int k)], inl := [(50, Try.f50), (82, Try.f82), (84, Try.f84), (85, Try.f85), (100, Try.f100)], keep := [(5000001003, [1, 3, 8, 9, 10]), (8200002004, [0, 3]), (8200002009, [0, 3, 4, 5]), (10000003002, [0, 1, 7, 8])], join := [], hold := [(5000001003, [(3, [0], 3, (.int .i64), false, false)])], ptrs := [], maps := [], fuel := k }
noncomputable def fin_i_EndsOf : VV → Ms → Option (List Int) := finV [(.slice 3 (.int .i64))] [.o]
noncomputable def V3_i_EndsOf (k n : Nat) (v5 : Int) (v4 : Int) (v6 : Int) (xs7 : List Int) (a0 : TRoom) (v1 : Int) : Option (List Int) := lpN (c_i_EndsOf k) fin_i_EndsOf n true 8200002009 (cd [1, 1, 0, 1, 0, 0, 1, 0, 0, 1, 0, 1, 0, 1, 0, 0] (bo Try.f82)) [.b 2, .s (cd [1, 1, 0, 1, 0, 0, 1, 0, 0, 1, 0, 1, 1] (bo Try.f82)), .b 1, .s (cd [1, 1, 0, 1, 0, 0, 1, 1] (bo Try.f82)), .l 8200002004 (cd [1, 1, 0, 1, 0, 0] (bo Try.f82)), .b 0, .s (cd [1, 1, 1] (bo Try.f82)), .fn Try.f82, .op (rg (cd [1, 1, 1, 1, 0] (bo Try.f50))) ((rg (cd [1, 1, 1, 1, 0] (bo Try.f50))).drop 2) 2 (some 29), .s (cd [1, 1, 1, 1, 1] (bo Try.f50)), .fn Try.f50] ⟨⟨(mkT 61 0 [(0, one (.row 9000000 none none)), (3, one (.int .i64 v5)), (4, one (.row 9000000 (some v4.toNat) none)), (5, one (.int .i64 v6))]), [(9000000, .row 3 (.int .i64) xs7 true), (9000001, .box [.slc 26 yEvent a0.1, .slc 53 (.slice 91 yItem) a0.2.1, .slc 4 .bool a0.2.2.1])]⟩, 8200002000, 2, [(5000001000, (mkT 30 0 [(1, one (.ptr 9000001 0)), (3, one (.row 9000000 none none)), (8, one (.slc 26 yEvent a0.1)), (9, one (.int .i64 (a0.1.length : Int))), (10, one (.int .i64 v1)), (11, one (.bool false)), (26, one (.row 9000000 none none)), (27, .tup []), (28, one (.row 9000000 none none))])), (0, (mkT 0 0 []))]⟩
noncomputable def V2_i_EndsOf (k n : Nat) (v4 : Int) (r2 : Unit × List Int × Unit) (a0 : TRoom) (v1 : Int) : Option (List Int) := lpN (c_i_EndsOf k) fin_i_EndsOf n true 8200002004 (cd [1, 1, 0, 1, 0, 0] (bo Try.f82)) [.b 0, .s (cd [1, 1, 1] (bo Try.f82)), .fn Try.f82, .op (rg (cd [1, 1, 1, 1, 0] (bo Try.f50))) ((rg (cd [1, 1, 1, 1, 0] (bo Try.f50))).drop 2) 2 (some 29), .s (cd [1, 1, 1, 1, 1] (bo Try.f50)), .fn Try.f50] ⟨⟨(mkT 61 0 [(0, one (.row 9000000 none none)), (3, one (.int .i64 v4))]), [(9000000, .row 3 (.int .i64) r2.2.1 true), (9000001, .box [.slc 26 yEvent a0.1, .slc 53 (.slice 91 yItem) a0.2.1, .slc 4 .bool a0.2.2.1])]⟩, 8200002000, 2, [(5000001000, (mkT 30 0 [(1, one (.ptr 9000001 0)), (3, one (.row 9000000 none none)), (8, one (.slc 26 yEvent a0.1)), (9, one (.int .i64 (a0.1.length : Int))), (10, one (.int .i64 v1)), (11, one (.bool false)), (26, one (.row 9000000 none none)), (27, .tup []), (28, one (.row 9000000 none none))])), (0, (mkT 0 0 []))]⟩
noncomputable def V0_i_EndsOf (k n : Nat) (a0 : TRoom) (v1 : Int) (xs2 : List Int) : Option (List Int) := lpN (c_i_EndsOf k) fin_i_EndsOf n true 5000001003 (cd [1, 1, 0, 1, 0, 0] (bo Try.f50)) [.b 0, .s (cd [1, 1, 1] (bo Try.f50)), .fn Try.f50] ⟨⟨(mkT 30 0 [(1, one (.ptr 9000000 0)), (3, one (.row 9000001 none none)), (8, one (.slc 26 yEvent a0.1)), (9, one (.int .i64 (a0.1.length : Int))), (10, one (.int .i64 v1))]), [(9000000, .box [.slc 26 yEvent a0.1, .slc 53 (.slice 91 yItem) a0.2.1, .slc 4 .bool a0.2.2.1]), (9000001, .row 3 (.int .i64) xs2 true)]⟩, 5000001000, 1, [(0, (mkT 0 0 []))]⟩
noncomputable def V1_i_EndsOf (k n : Nat) (a0 : TRoom) (v3 : Int) (v1 : Int) (xs2 : List Int) : Option (List Int) := lpN (c_i_EndsOf k) fin_i_EndsOf n true 10000003002 (cd [1, 0, 1, 0, 0] (bo Try.f100)) [.b 0, .s (cd [1, 1] (bo Try.f100)), .fn Try.f100, .op (rg (cd [1, 0] (bo Try.f84))) ((rg (cd [1, 0] (bo Try.f84))).drop 3) 3 (some 7), .s (cd [1, 1] (bo Try.f84)), .fn Try.f84, .op (rg (cd [1, 1, 0, 1, 0, 0, 1, 1, 0, 0, 1, 0] (bo Try.f50))) ((rg (cd [1, 1, 0, 1, 0, 0, 1, 1, 0, 0, 1, 0] (bo Try.f50))).drop 4) 4 (some 17), .s (cd [1, 1, 0, 1, 0, 0, 1, 1, 0, 0, 1, 1] (bo Try.f50)), .b 1, .s (cd [1, 1, 0, 1, 0, 0, 1, 1, 1] (bo Try.f50)), .l 5000001003 (cd [1, 1, 0, 1, 0, 0] (bo Try.f50)), .b 0, .s (cd [1, 1, 1] (bo Try.f50)), .fn Try.f50] ⟨⟨(mkT 19 0 [(0, one (.slc 26 yEvent a0.1)), (1, one (.fn 85 [9000000])), (7, one (.int .i64 (a0.1.length : Int))), (8, one (.int .i64 v3))]), [(9000000, .box [.int .i64 (rd dTEvent a0.1 v1.toNat).1, .int .i64 (rd dTEvent a0.1 v1.toNat).2.1, .int .i64 (rd dTEvent a0.1 v1.toNat).2.2.1, .int .i64 (rd dTEvent a0.1 v1.toNat).2.2.2.1, .int .i64 (rd dTEvent a0.1 v1.toNat).2.2.2.2.1, .slc 3 (.int .i64) (rd dTEvent a0.1 v1.toNat).2.2.2.2.2.1, .str (rd dTEvent a0.1 v1.toNat).2.2.2.2.2.2.1, .slc 3 (.int .i64) (rd dTEvent a0.1 v1.toNat).2.2.2.2.2.2.2.1, .int .i64 (rd dTEvent a0.1 v1.toNat).2.2.2.2.2.2.2.2.1]), (9000001, .box [.slc 26 yEvent a0.1, .slc 53 (.slice 91 yItem) a0.2.1, .slc 4 .bool a0.2.2.1]), (9000002, .row 3 (.int .i64) xs2 true)]⟩, 10000003000, 3, [(8400002000, (mkT 9 0 [(0, one (.slc 26 yEvent a0.1)), (1, one (.fn 85 [9000000])), (4, one (.bool false)), (5, one (.slc 26 yEvent a0.1)), (6, one (.fn 85 [9000000]))])), (5000001000, (mkT 30 0 [(1, one (.ptr 9000001 0)), (3, one (.row 9000002 none none)), (5, one (.ptr 9000000 0)), (8, one (.slc 26 yEvent a0.1)), (9, one (.int .i64 (a0.1.length : Int))), (10, one (.int .i64 v1)), (11, one (.bool true)), (12, one (.iptr yEvent (rd dTEvent a0.1 v1.toNat) 0)), (13, .v ⟨true, [.int .i64 (rd dTEvent a0.1 v1.toNat).1, .int .i64 (rd dTEvent a0.1 v1.toNat).2.1, .int .i64 (rd dTEvent a0.1 v1.toNat).2.2.1, .int .i64 (rd dTEvent a0.1 v1.toNat).2.2.2.1, .int .i64 (rd dTEvent a0.1 v1.toNat).2.2.2.2.1, .slc 3 (.int .i64) (rd dTEvent a0.1 v1.toNat).2.2.2.2.2.1, .str (rd dTEvent a0.1 v1.toNat).2.2.2.2.2.2.1, .slc 3 (.int .i64) (rd dTEvent a0.1 v1.toNat).2.2.2.2.2.2.2.1, .int .i64 (rd dTEvent a0.1 v1.toNat).2.2.2.2.2.2.2.2.1]⟩), (14, one (.ptr 9000001 0)), (15, one (.slc 26 yEvent a0.1)), (16, one (.fn 85 [9000000]))])), (0, (mkT 0 0 []))]⟩
theorem t3_i_EndsOf (k n : Nat) (v5 : Int) (v4 : Int) (v6 : Int) (xs7 : List Int) (a0 : TRoom) (v1 : Int) : V3_i_EndsOf k (n + 1) v5 v4 v6 xs7 a0 v1 = b3_i_EndsOf k (V3_i_EndsOf k n) v5 v4 v6 xs7 a0 v1 := by kernel_rfl
theorem t2_i_EndsOf (k n : Nat) (v4 : Int) (r2 : Unit × List Int × Unit) (a0 : TRoom) (v1 : Int) : V2_i_EndsOf k (n + 1) v4 r2 a0 v1 = b2_i_EndsOf k (V3_i_EndsOf k n) (V2_i_EndsOf k n) v4 r2 a0 v1 := by kernel_rfl
theorem t0_i_EndsOf (k n : Nat) (a0 : TRoom) (v1 : Int) (xs2 : List Int) : V0_i_EndsOf k (n + 1) a0 v1 xs2 = b0_i_EndsOf k (V1_i_EndsOf k n) (V2_i_EndsOf k n) a0 v1 xs2 := by kernel_rfl
theorem t1_i_EndsOf (k n : Nat) (a0 : TRoom) (v3 : Int) (v1 : Int) (xs2 : List Int) : V1_i_EndsOf k (n + 1) a0 v3 v1 xs2 = b1_i_EndsOf k (V0_i_EndsOf k n) (V1_i_EndsOf k n) a0 v3 v1 xs2 := by kernel_rfl
theorem e_i_EndsOf (k : Nat) : ∀ n : Nat, V3_i_EndsOf k n = l3_i_EndsOf k n ∧ V2_i_EndsOf k n = l2_i_EndsOf k n ∧ V0_i_EndsOf k n = l0_i_EndsOf k n ∧ V1_i_EndsOf k n = l1_i_EndsOf k n
  | 0 => ⟨(by funext v5 v4 v6 xs7 a0 v1; rfl), (by funext v4 r2 a0 v1; rfl), (by funext a0 v1 xs2; rfl), (by funext a0 v3 v1 xs2; rfl)⟩
  | n + 1 => by
    obtain ⟨h3, h2, h0, h1⟩ := e_i_EndsOf k n
    exact ⟨(by funext v5 v4 v6 xs7 a0 v1; rw [t3_i_EndsOf, h3] <;> rfl), (by funext v4 r2 a0 v1; rw [t2_i_EndsOf, h3, h2] <;> rfl), (by funext a0 v1 xs2; rw [t0_i_EndsOf, h1, h2] <;> rfl), (by funext a0 v3 v1 xs2; rw [t1_i_EndsOf, h0, h1] <;> rfl)⟩
theorem u_i_EndsOf (k : Nat) (a0 : TRoom) : runX (c_i_EndsOf k) fin_i_EndsOf k 50 [argV yRoom1 a0] ms0 = g_i_EndsOf k (V0_i_EndsOf k k) a0 := by kernel_rfl
theorem r_i_EndsOf (k : Nat) (a0 : TRoom) : runX (c_i_EndsOf k) fin_i_EndsOf k 50 [argV yRoom1 a0] ms0 = i_EndsOf k a0 := by rw [u_i_EndsOf, show V0_i_EndsOf k k = l0_i_EndsOf k k from (e_i_EndsOf k k).2.2.1] <;> rfl
noncomputable def sp_i_EndsOf (k : Nat) : Spec := .imm yRoom1 fun (a0 : TRoom) => .body (i_EndsOf k a0) (outV [(.slice 3 (.int .i64))] [.o])
noncomputable def c_l_FnExactEndsOf (k : Nat) : Cfg := { eqs := [], tab := [(29, (.slice 26 yEvent)), (37, (.slice 4 .bool)), (39, yRoom), (43, (.slice 53 (.slice 91 yItem))), (45, yRoom1)], spec := [(20, sp_l_szRoom k), (22, sp_l_toRoom k), (25, sp_l_eqRoom k), (40, sp_l_eqIntS k), (42, sp_l_heldIntS k), (49, sp_s_EndsOf k), (50, sp_i_EndsOf k)], mspec := [(17, sp_l_markEventS k), (35, sp_l_markItemSS k), (41, sp_l_markIntS k), (66, sp_l_markBoolS k)], inl := [(8, Try.f8), (26, Try.f26)], keep := [], join := [], hold := [], ptrs := [], maps := [], fuel := k }
noncomputable def fin_l_FnExactEndsOf : VV → Ms → Option Bool := finV [.bool] []
theorem r_l_FnExactEndsOf (k : Nat) (a0 : TRoom) : runX (c_l_FnExactEndsOf k) fin_l_FnExactEndsOf k 8 [argV yRoom a0] ms0 = l_FnExactEndsOf k a0 := by kernel_rfl
noncomputable def sp_l_FnExactEndsOf (k : Nat) : Spec := .imm yRoom fun (a0 : TRoom) => .body (l_FnExactEndsOf k a0) (outV [.bool] [])
noncomputable def c_s_l12Has (k : Nat) : Cfg := { eqs := [], tab := [(3, (.int .i64)), (26, yEvent), (29, (.slice 26 yEvent)), (45, yRoom1)], spec := [], mspec := [], inl := [(102, Try.f102)], keep := [(10200001002, [1, 2, 5])], join := [], hold := [], ptrs := [], maps := [], fuel := k }
noncomputable def fin_s_l12Has : VV → Ms → Option Int := finV [(.int .i64)] []
noncomputable def V0_s_l12Has (k n : Nat) (a1 : Int) (v1 : Int) (a0 : TRoom) : Option Int := lpN (c_s_l12Has k) fin_s_l12Has n true 10200001002 (cd [1, 0, 1, 0, 0] (bo Try.f102)) [.b 0, .s (cd [1, 1] (bo Try.f102)), .fn Try.f102] ⟨⟨(mkT 22 0 [(1, one (.int .i64 a1)), (2, one (.ptr 9000000 0)), (5, one (.int .i64 v1))]), [(9000000, .box [.slc 26 yEvent a0.1, .slc 53 (.slice 91 yItem) a0.2.1, .slc 4 .bool a0.2.2.1])]⟩, 10200001000, 1, [(0, (mkT 0 0 []))]⟩
theorem t0_s_l12Has (k n : Nat) (a1 : Int) (v1 : Int) (a0 : TRoom) : V0_s_l12Has k (n + 1) a1 v1 a0 = b0_s_l12Has k (V0_s_l12Has k n) a1 v1 a0 := by kernel_rfl
theorem e_s_l12Has (k : Nat) : ∀ n : Nat, V0_s_l12Has k n = l0_s_l12Has k n
  | 0 => (by funext a1 v1 a0; rfl)
  | n + 1 => by
    obtain h0 := e_s_l12Has k n
    exact (by funext a1 v1 a0; rw [t0_s_l12Has, h0] <;> rfl)
theorem u_s_l12Has (k : Nat) (a0 : TRoom) (a1 : Int) : runX (c_s_l12Has k) fin_s_l12Has k 102 [argV yRoom1 a0, argV (.int .i64) a1] ms0 = g_s_l12Has k (V0_s_l12Has k k) a0 a1 := by kernel_rfl
theorem r_s_l12Has (k : Nat) (a0 : TRoom) (a1 : Int) : runX (c_s_l12Has k) fin_s_l12Has k 102 [argV yRoom1 a0, argV (.int .i64) a1] ms0 = s_l12Has k a0 a1 := by rw [u_s_l12Has, show V0_s_l12Has k k = l0_s_l12Has k k from (e_s_l12Has k k)] <;> rfl
noncomputable def sp_s_l12Has (k : Nat) : Spec := .imm yRoom1 fun (a0 : TRoom) => .imm (.int .i64) fun (a1 : Int) => .body (s_l12Has k a0 a1) (outV [(.int .i64)] [])
noncomputable def c_s_DepthOf (k : Nat) : Cfg := { eqs := [], tab := [(3, (.int .i64)), (24, (.slice 3 (.int .i64))), (26, yEvent), (29, (.slice 26 yEvent)), (45, yRoom1)], spec := [(102, sp_s_l12Has k)], mspec := [], inl := [(87, Try.f87)], keep := [(8700001003, [1, 2, 5, 6])], join := [], hold := [], ptrs := [], maps := [], fuel := k }
noncomputable def fin_s_DepthOf : VV → Ms → Option Int := finV [(.int .i64)] []
noncomputable def V0_s_DepthOf (k n : Nat) (a1 : List Int) (v1 : Int) (v2 : Int) (a0 : TRoom) : Option Int := lpN (c_s_DepthOf k) fin_s_DepthOf n true 8700001003 (cd [1, 1, 0, 1, 0, 0] (bo Try.f87)) [.b 0, .s (cd [1, 1, 1] (bo Try.f87)), .fn Try.f87] ⟨⟨(mkT 42 0 [(1, one (.slc 3 (.int .i64) a1)), (2, one (.ptr 9000000 0)), (5, one (.int .i64 v1)), (6, one (.int .i64 v2))]), [(9000000, .box [.slc 26 yEvent a0.1, .slc 53 (.slice 91 yItem) a0.2.1, .slc 4 .bool a0.2.2.1])]⟩, 8700001000, 1, [(0, (mkT 0 0 []))]⟩
theorem t0_s_DepthOf (k n : Nat) (a1 : List Int) (v1 : Int) (v2 : Int) (a0 : TRoom) : V0_s_DepthOf k (n + 1) a1 v1 v2 a0 = b0_s_DepthOf k (V0_s_DepthOf k n) a1 v1 v2 a0 := by kernel_rfl
theorem e_s_DepthOf (k : Nat) : ∀ n : Nat, V0_s_DepthOf k n = l0_s_DepthOf k n
  | 0 => (by funext a1 v1 v2 a0; rfl)
  | n + 1 => by
    obtain h0 := e_s_DepthOf k n
    exact (by funext a1 v1 v2 a0; rw [t0_s_DepthOf, h0] <;> rfl)
theorem u_s_DepthOf (k : Nat) (a0 : TRoom) (a1 : List Int) : runX (c_s_DepthOf k) fin_s_DepthOf k 87 [argV yRoom1 a0, argV (.slice 3 (.int .i64)) a1] ms0 = g_s_DepthOf k (V0_s_DepthOf k k) a0 a1 := by kernel_rfl
theorem r_s_DepthOf (k : Nat) (a0 : TRoom) (a1 : List Int) : runX (c_s_DepthOf k) fin_s_DepthOf k 87 [argV yRoom1 a0, argV (.slice 3 (.int .i64)) a1] ms0 = s_DepthOf k a0 a1 := by rw [u_s_DepthOf, show V0_s_DepthOf k k = l0_s_DepthOf k k from (e_s_DepthOf k k)] <;> rfl
noncomputable def sp_s_DepthOf (k : Nat) : Spec := .imm yRoom1 fun (a0 : TRoom) => .imm (.slice 3 (.int .i64)) fun (a1 : List Int) => .body (s_DepthOf k a0 a1) (outV [(.int .i64)] [])
noncomputable def c_s_Draft (k : Nat) : Cfg := { eqs := [], tab := [(3, (.int .i64)), (24, (.slice 3 (.int .i64))), (26, yEvent), (45, yRoom1)], spec := [(49, sp_s_EndsOf k), (59, sp_s_l09Copy k), (75, sp_s_l01In k), (87, sp_s_DepthOf k)], mspec := [], inl := [(51, Try.f51)], keep := [], join := [], hold := [], ptrs := [], maps := [], fuel := k }
noncomputable def fin_s_Draft : VV → Ms → Option TEvent := finV [yEvent] [.o, .o]
theorem r_s_Draft (k : Nat) (a0 : TRoom) (a1 : Int) (a2 : TEvent) : runX (c_s_Draft k) fin_s_Draft k 51 [argV yRoom1 a0, argV (.int .i64) a1, argV yEvent a2] ms0 = s_Draft k a0 a1 a2 := by kernel_rfl
noncomputable def sp_s_Draft (k : Nat) : Spec := .imm yRoom1 fun (a0 : TRoom) => .imm (.int .i64) fun (a1 : Int) => .imm yEvent fun (a2 : TEvent) => .body (s_Draft k a0 a1 a2) (outV [yEvent] [.o, .o])
noncomputable def c_i_DepthOf (k : Nat) : Cfg := { eqs := [], tab := [(3, (.int .i64)), (24, (.slice 3 (.int .i64))), (26, yEvent), (29, (.slice 26 yEvent)), (45, yRoom1)], spec := [(14, sp_i_Known k)], mspec := [], inl := [(88, Try.f88)], keep := [(8800001003, [2, 5, 10, 11, 12])], join := [], hold := [], ptrs := [], maps := [], fuel := k }
noncomputable def fin_i_DepthOf : VV → Ms → Option Int := finV [(.int .i64)] []
noncomputable def V0_i_DepthOf (k n : Nat) (v1 : Int) (a1 : List Int) (v2 : Int) (a0 : TRoom) : Option Int := lpN (c_i_DepthOf k) fin_i_DepthOf n true 8800001003 (cd [1, 1, 0, 1, 0, 0] (bo Try.f88)) [.b 0, .s (cd [1, 1, 1] (bo Try.f88)), .fn Try.f88] ⟨⟨(mkT 32 0 [(2, one (.ptr 9000000 0)), (5, one (.int .i64 v1)), (10, one (.slc 3 (.int .i64) a1)), (11, one (.int .i64 (a1.length : Int))), (12, one (.int .i64 v2))]), [(9000000, .box [.slc 26 yEvent a0.1, .slc 53 (.slice 91 yItem) a0.2.1, .slc 4 .bool a0.2.2.1])]⟩, 8800001000, 1, [(0, (mkT 0 0 []))]⟩
theorem t0_i_DepthOf (k n : Nat) (v1 : Int) (a1 : List Int) (v2 : Int) (a0 : TRoom) : V0_i_DepthOf k (n + 1) v1 a1 v2 a0 = b0_i_DepthOf k (V0_i_DepthOf k n) v1 a1 v2 a0 := by kernel_rfl
theorem e_i_DepthOf (k : Nat) : ∀ n : Nat, V0_i_DepthOf k n = l0_i_DepthOf k n
  | 0 => (by funext v1 a1 v2 a0; rfl)
  | n + 1 => by
    obtain h0 := e_i_DepthOf k n
    exact (by funext v1 a1 v2 a0; rw [t0_i_DepthOf, h0] <;> rfl)
theorem u_i_DepthOf (k : Nat) (a0 : TRoom) (a1 : List Int) : runX (c_i_DepthOf k) fin_i_DepthOf k 88 [argV yRoom1 a0, argV (.slice 3 (.int .i64)) a1] ms0 = g_i_DepthOf k (V0_i_DepthOf k k) a0 a1 := by kernel_rfl
theorem r_i_DepthOf (k : Nat) (a0 : TRoom) (a1 : List Int) : runX (c_i_DepthOf k) fin_i_DepthOf k 88 [argV yRoom1 a0, argV (.slice 3 (.int .i64)) a1] ms0 = i_DepthOf k a0 a1 := by rw [u_i_DepthOf, show V0_i_DepthOf k k = l0_i_DepthOf k k from (e_i_DepthOf k k)] <;> rfl
noncomputable def sp_i_DepthOf (k : Nat) : Spec := .imm yRoom1 fun (a0 : TRoom) => .imm (.slice 3 (.int .i64)) fun (a1 : List Int) => .body (i_DepthOf k a0 a1) (outV [(.int .i64)] [])
noncomputable def c_i_Draft (k : Nat) : Cfg := { eqs := [], tab := [(3, (.int .i64)), (24, (.slice 3 (.int .i64))), (26, yEvent), (45, yRoom1)], spec := [(50, sp_i_EndsOf k), (60, sp_i_copyEvent k), (79, sp_i_within k), (88, sp_i_DepthOf k)], mspec := [], inl := [(52, Try.f52)], keep := [], join := [], hold := [], ptrs := [], maps := [], fuel := k }
noncomputable def fin_i_Draft : VV → Ms → Option TEvent := finV [yEvent] [.o, .o]
theorem r_i_Draft (k : Nat) (a0 : TRoom) (a1 : Int) (a2 : TEvent) : runX (c_i_Draft k) fin_i_Draft k 52 [argV yRoom1 a0, argV (.int .i64) a1, argV yEvent a2] ms0 = i_Draft k a0 a1 a2 := by kernel_rfl
noncomputable def sp_i_Draft (k : Nat) : Spec := .imm yRoom1 fun (a0 : TRoom) => .imm (.int .i64) fun (a1 : Int) => .imm yEvent fun (a2 : TEvent) => .body (i_Draft k a0 a1 a2) (outV [yEvent] [.o, .o])
noncomputable def c_l_FnExactDraft (k : Nat) : Cfg := { eqs := [], tab := [(24, (.slice 3 (.int .i64))), (26, yEvent), (29, (.slice 26 yEvent)), (37, (.slice 4 .bool)), (39, yRoom), (43, (.slice 53 (.slice 91 yItem))), (45, yRoom1), (65, yEvent)], spec := [(15, sp_l_eqEvent k), (19, sp_l_heldEvent k), (20, sp_l_szRoom k), (22, sp_l_toRoom k), (25, sp_l_eqRoom k), (44, sp_l_szEvent k), (47, sp_l_toEvent k), (51, sp_s_Draft k), (52, sp_i_Draft k)], mspec := [(17, sp_l_markEventS k), (35, sp_l_markItemSS k), (41, sp_l_markIntS k), (66, sp_l_markBoolS k)], inl := [(9, Try.f9), (18, Try.f18), (26, Try.f26)], keep := [], join := [], hold := [], ptrs := [], maps := [], fuel := k }
noncomputable def fin_l_FnExactDraft : VV → Ms → Option Bool := finV [.bool] []
theorem r_l_FnExactDraft (k : Nat) (a0 : TRoom) (a1 : Int) (a2 : TEvent) : runX (c_l_FnExactDraft k) fin_l_FnExactDraft k 9 [argV yRoom a0, argV (.int .i64) a1, argV yEvent a2] ms0 = l_FnExactDraft k a0 a1 a2 := by kernel_rfl
noncomputable def sp_l_FnExactDraft (k : Nat) : Spec := .imm yRoom fun (a0 : TRoom) => .imm (.int .i64) fun (a1 : Int) => .imm yEvent fun (a2 : TEvent) => .body (l_FnExactDraft k a0 a1 a2) (outV [.bool] [])
end Go.Vm
