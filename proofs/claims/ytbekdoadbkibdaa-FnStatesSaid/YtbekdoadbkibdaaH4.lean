/- The machine computes them. -/
import Derived.Test.YtbekdoadbkibdaaG4
import Derived.Test.YtbekdoadbkibdaaWc
import Derived.Test.YtbekdoadbkibdaaProg
import Derived.KernelRfl
set_option linter.unusedVariables false
namespace Go.Vm
open Go Go.Proofs
abbrev yEvent : Ty := (.fld (.int .i64) (.fld (.int .i64) (.fld (.int .i64) (.fld (.int .i64) (.fld (.int .i64) (.fld (.slice 3 (.int .i64)) (.fld .str (.fld (.slice 3 (.int .i64)) (.fld (.int .i64) .nil)))))))))
abbrev yItem : Ty := (.fld (.int .i64) (.fld (.int .i64) .nil))
abbrev yRoom : Ty := (.fld (.slice 34 yEvent) (.fld (.slice 30 (.slice 52 yItem)) (.fld (.slice 4 .bool) .nil)))
abbrev yL01Cur : Ty := (.fld (.slice 5 (.int .u8)) (.fld (.int .i64) (.fld (.int .i64) .nil)))
noncomputable def c_l_big (k : Nat) : Cfg := { eqs := [], tab := [(22, (.slice 5 (.int .u8)))], spec := [], mspec := [], inl := [(8, Try.f8)], keep := [], join := [], hold := [], ptrs := [], maps := [], fuel := k }
noncomputable def fin_l_big : VV → Ms → Option Bool := finV [.bool] []
theorem r_l_big (k : Nat) (a0 : List Int) : runX (c_l_big k) fin_l_big k 8 [argV (.slice 5 (.int .u8)) a0] ms0 = l_big k a0 := by kernel_rfl
noncomputable def sp_l_big (k : Nat) : Spec := .imm (.slice 5 (.int .u8)) fun (a0 : List Int) => .body (l_big k a0) (outV [.bool] [])
noncomputable def c_s_l10Find (k : Nat) : Cfg := { eqs := [], tab := [(3, (.int .i64)), (24, (.slice 34 yEvent)), (34, yEvent)], spec := [], mspec := [], inl := [(42, Try.f42)], keep := [(4200001002, [0, 1, 4, 6])], join := [], hold := [], ptrs := [], maps := [], fuel := k }
noncomputable def fin_s_l10Find : VV → Ms → Option (TEvent × Bool) := finV [yEvent, .bool] [false, false]
noncomputable def V0_s_l10Find (k n : Nat) (a0 : List TEvent) (a1 : Int) (v1 : Int) : Option (TEvent × Bool) := lpN (c_s_l10Find k) fin_s_l10Find n true 4200001002 (cd [1, 0, 1, 0, 0] (bo Try.f42)) [.b 0, .s (cd [1, 1] (bo Try.f42)), .fn Try.f42] ⟨⟨(mkT 25 0 [(0, one (.slc 34 yEvent a0)), (1, one (.int .i64 a1)), (4, one (.ptr 9000000 0)), (6, one (.int .i64 v1))]), [(9000000, .box [.int .i64 0, .int .i64 0, .int .i64 0, .int .i64 0, .int .i64 0, .nilS, .str ByteArray.empty, .nilS, .int .i64 0])]⟩, 4200001000, 1, [(0, (mkT 0 0 []))]⟩
theorem t0_s_l10Find (k n : Nat) (a0 : List TEvent) (a1 : Int) (v1 : Int) : V0_s_l10Find k (n + 1) a0 a1 v1 = b0_s_l10Find k (V0_s_l10Find k n) a0 a1 v1 := by kernel_rfl
theorem e_s_l10Find (k : Nat) : ∀ n : Nat, V0_s_l10Find k n = l0_s_l10Find k n
  | 0 => (by funext a0 a1 v1; rfl)
  | n + 1 => by
    obtain h0 := e_s_l10Find k n
    exact (by funext a0 a1 v1; rw [t0_s_l10Find, h0] <;> rfl)
theorem u_s_l10Find (k : Nat) (a0 : List TEvent) (a1 : Int) : runX (c_s_l10Find k) fin_s_l10Find k 42 [argV (.slice 34 yEvent) a0, argV (.int .i64) a1] ms0 = g_s_l10Find k (V0_s_l10Find k k) a0 a1 := by kernel_rfl
theorem r_s_l10Find (k : Nat) (a0 : List TEvent) (a1 : Int) : runX (c_s_l10Find k) fin_s_l10Find k 42 [argV (.slice 34 yEvent) a0, argV (.int .i64) a1] ms0 = s_l10Find k a0 a1 := by rw [u_s_l10Find, show V0_s_l10Find k k = l0_s_l10Find k k from (e_s_l10Find k k)] <;> rfl
noncomputable def sp_s_l10Find (k : Nat) : Spec := .imm (.slice 34 yEvent) fun (a0 : List TEvent) => .imm (.int .i64) fun (a1 : Int) => .body (s_l10Find k a0 a1) (outV [yEvent, .bool] [false, false])
noncomputable def c_s_At (k : Nat) : Cfg := { eqs := [], tab := [(3, (.int .i64)), (30, (.slice 52 yItem)), (52, yItem)], spec := [], mspec := [], inl := [(56, Try.f56)], keep := [(5600001002, [0, 1, 5])], join := [], hold := [], ptrs := [], maps := [], fuel := k }
noncomputable def fin_s_At : VV → Ms → Option Int := finV [(.int .i64)] []
noncomputable def V0_s_At (k n : Nat) (a0 : List TItem) (a1 : Int) (v1 : Int) : Option Int := lpN (c_s_At k) fin_s_At n true 5600001002 (cd [1, 0, 1, 0, 0] (bo Try.f56)) [.b 0, .s (cd [1, 1] (bo Try.f56)), .fn Try.f56] ⟨⟨(mkT 24 0 [(0, one (.slc 52 yItem a0)), (1, one (.int .i64 a1)), (5, one (.int .i64 v1))]), []⟩, 5600001000, 1, [(0, (mkT 0 0 []))]⟩
theorem t0_s_At (k n : Nat) (a0 : List TItem) (a1 : Int) (v1 : Int) : V0_s_At k (n + 1) a0 a1 v1 = b0_s_At k (V0_s_At k n) a0 a1 v1 := by kernel_rfl
theorem e_s_At (k : Nat) : ∀ n : Nat, V0_s_At k n = l0_s_At k n
  | 0 => (by funext a0 a1 v1; rfl)
  | n + 1 => by
    obtain h0 := e_s_At k n
    exact (by funext a0 a1 v1; rw [t0_s_At, h0] <;> rfl)
theorem u_s_At (k : Nat) (a0 : List TItem) (a1 : Int) : runX (c_s_At k) fin_s_At k 56 [argV (.slice 52 yItem) a0, argV (.int .i64) a1] ms0 = g_s_At k (V0_s_At k k) a0 a1 := by kernel_rfl
theorem r_s_At (k : Nat) (a0 : List TItem) (a1 : Int) : runX (c_s_At k) fin_s_At k 56 [argV (.slice 52 yItem) a0, argV (.int .i64) a1] ms0 = s_At k a0 a1 := by rw [u_s_At, show V0_s_At k k = l0_s_At k k from (e_s_At k k)] <;> rfl
noncomputable def sp_s_At (k : Nat) : Spec := .imm (.slice 52 yItem) fun (a0 : List TItem) => .imm (.int .i64) fun (a1 : Int) => .body (s_At k a0 a1) (outV [(.int .i64)] [])
noncomputable def c_s_l01In (k : Nat) : Cfg := { eqs := [], tab := [], spec := [], mspec := [], inl := [(62, Try.f62)], keep := [], join := [], hold := [], ptrs := [], maps := [], fuel := k }
noncomputable def fin_s_l01In : VV → Ms → Option Bool := finV [.bool] []
theorem r_s_l01In (k : Nat) (a0 : Int) (a1 : Int) (a2 : Int) : runX (c_s_l01In k) fin_s_l01In k 62 [argV (.int .i64) a0, argV (.int .i64) a1, argV (.int .i64) a2] ms0 = s_l01In k a0 a1 a2 := by kernel_rfl
noncomputable def sp_s_l01In (k : Nat) : Spec := .imm (.int .i64) fun (a0 : Int) => .imm (.int .i64) fun (a1 : Int) => .imm (.int .i64) fun (a2 : Int) => .body (s_l01In k a0 a1 a2) (outV [.bool] [])
noncomputable def c_s_LevelOf (k : Nat) : Cfg := { eqs := [], tab := [(3, (.int .i64)), (32, (.slice 3 (.int .i64))), (34, yEvent)], spec := [(42, sp_s_l10Find k), (56, sp_s_At k), (62, sp_s_l01In k)], mspec := [], inl := [(23, Try.f23)], keep := [], join := [], hold := [], ptrs := [], maps := [], fuel := k }
noncomputable def fin_s_LevelOf : VV → Ms → Option Int := finV [(.int .i64)] []
theorem r_s_LevelOf (k : Nat) (a0 : List TEvent) (a1 : List TItem) (a2 : Int) : runX (c_s_LevelOf k) fin_s_LevelOf k 23 [argV (.slice 34 yEvent) a0, argV (.slice 52 yItem) a1, argV (.int .i64) a2] ms0 = s_LevelOf k a0 a1 a2 := by kernel_rfl
noncomputable def sp_s_LevelOf (k : Nat) : Spec := .imm (.slice 34 yEvent) fun (a0 : List TEvent) => .imm (.slice 52 yItem) fun (a1 : List TItem) => .imm (.int .i64) fun (a2 : Int) => .body (s_LevelOf k a0 a1 a2) (outV [(.int .i64)] [])
noncomputable def c_s_l09Levels (k : Nat) : Cfg := { eqs := [], tab := [(3, (.int .i64)), (32, (.slice 3 (.int .i64)))], spec := [(62, sp_s_l01In k)], mspec := [], inl := [(95, Try.f95)], keep := [(9500001002, [0, 3])], join := [], hold := [], ptrs := [], maps := [], fuel := k }
noncomputable def fin_s_l09Levels : VV → Ms → Option Bool := finV [.bool] []
noncomputable def V0_s_l09Levels (k n : Nat) (a0 : List Int) (v1 : Int) : Option Bool := lpN (c_s_l09Levels k) fin_s_l09Levels n true 9500001002 (cd [1, 0, 1, 0, 0] (bo Try.f95)) [.b 0, .s (cd [1, 1] (bo Try.f95)), .fn Try.f95] ⟨⟨(mkT 19 0 [(0, one (.slc 3 (.int .i64) a0)), (3, one (.int .i64 v1))]), []⟩, 9500001000, 1, [(0, (mkT 0 0 []))]⟩
theorem t0_s_l09Levels (k n : Nat) (a0 : List Int) (v1 : Int) : V0_s_l09Levels k (n + 1) a0 v1 = b0_s_l09Levels k (V0_s_l09Levels k n) a0 v1 := by kernel_rfl
theorem e_s_l09Levels (k : Nat) : ∀ n : Nat, V0_s_l09Levels k n = l0_s_l09Levels k n
  | 0 => (by funext a0 v1; rfl)
  | n + 1 => by
    obtain h0 := e_s_l09Levels k n
    exact (by funext a0 v1; rw [t0_s_l09Levels, h0] <;> rfl)
theorem u_s_l09Levels (k : Nat) (a0 : List Int) : runX (c_s_l09Levels k) fin_s_l09Levels k 95 [argV (.slice 3 (.int .i64)) a0] ms0 = g_s_l09Levels k (V0_s_l09Levels k k) a0 := by kernel_rfl
theorem r_s_l09Levels (k : Nat) (a0 : List Int) : runX (c_s_l09Levels k) fin_s_l09Levels k 95 [argV (.slice 3 (.int .i64)) a0] ms0 = s_l09Levels k a0 := by rw [u_s_l09Levels, show V0_s_l09Levels k k = l0_s_l09Levels k k from (e_s_l09Levels k k)] <;> rfl
noncomputable def sp_s_l09Levels (k : Nat) : Spec := .imm (.slice 3 (.int .i64)) fun (a0 : List Int) => .body (s_l09Levels k a0) (outV [.bool] [])
noncomputable def c_s_l09Body (k : Nat) : Cfg := { eqs := [], tab := [(3, (.int .i64)), (9, .str), (32, (.slice 3 (.int .i64))), (34, yEvent)], spec := [(62, sp_s_l01In k), (95, sp_s_l09Levels k)], mspec := [], inl := [(84, Try.f84)], keep := [], join := [], hold := [], ptrs := [], maps := [], fuel := k }
noncomputable def fin_s_l09Body : VV → Ms → Option Bool := finV [.bool] []
theorem r_s_l09Body (k : Nat) (a0 : TEvent) : runX (c_s_l09Body k) fin_s_l09Body k 84 [argV yEvent a0] ms0 = s_l09Body k a0 := by kernel_rfl
noncomputable def sp_s_l09Body (k : Nat) : Spec := .imm yEvent fun (a0 : TEvent) => .body (s_l09Body k a0) (outV [.bool] [])
noncomputable def c_s_EventOk (k : Nat) : Cfg := { eqs := [], tab := [(3, (.int .i64)), (4, .bool), (32, (.slice 3 (.int .i64))), (34, yEvent)], spec := [(62, sp_s_l01In k), (84, sp_s_l09Body k)], mspec := [], inl := [(55, Try.f55)], keep := [(5500001004, [1, 3])], join := [], hold := [], ptrs := [], maps := [], fuel := k }
noncomputable def fin_s_EventOk : VV → Ms → Option Bool := finV [.bool] []
noncomputable def V0_s_EventOk (k n : Nat) (v1 : Int) (a0 : TEvent) : Option Bool := lpN (c_s_EventOk k) fin_s_EventOk n true 5500001004 (cd [1, 1, 0, 1, 0, 0] (bo Try.f55)) [.b 0, .s (cd [1, 1, 1] (bo Try.f55)), .fn Try.f55] ⟨⟨(mkT 77 0 [(1, one (.ptr 9000000 0)), (3, one (.int .i64 v1))]), [(9000000, .box [.int .i64 a0.1, .int .i64 a0.2.1, .int .i64 a0.2.2.1, .int .i64 a0.2.2.2.1, .int .i64 a0.2.2.2.2.1, .slc 3 (.int .i64) a0.2.2.2.2.2.1, .str a0.2.2.2.2.2.2.1, .slc 3 (.int .i64) a0.2.2.2.2.2.2.2.1, .int .i64 a0.2.2.2.2.2.2.2.2.1])]⟩, 5500001000, 1, [(0, (mkT 0 0 []))]⟩
theorem t0_s_EventOk (k n : Nat) (v1 : Int) (a0 : TEvent) : V0_s_EventOk k (n + 1) v1 a0 = b0_s_EventOk k (V0_s_EventOk k n) v1 a0 := by kernel_rfl
theorem e_s_EventOk (k : Nat) : ∀ n : Nat, V0_s_EventOk k n = l0_s_EventOk k n
  | 0 => (by funext v1 a0; rfl)
  | n + 1 => by
    obtain h0 := e_s_EventOk k n
    exact (by funext v1 a0; rw [t0_s_EventOk, h0] <;> rfl)
theorem u_s_EventOk (k : Nat) (a0 : TEvent) : runX (c_s_EventOk k) fin_s_EventOk k 55 [argV yEvent a0] ms0 = g_s_EventOk k (V0_s_EventOk k k) a0 := by kernel_rfl
theorem r_s_EventOk (k : Nat) (a0 : TEvent) : runX (c_s_EventOk k) fin_s_EventOk k 55 [argV yEvent a0] ms0 = s_EventOk k a0 := by rw [u_s_EventOk, show V0_s_EventOk k k = l0_s_EventOk k k from (e_s_EventOk k k)] <;> rfl
noncomputable def sp_s_EventOk (k : Nat) : Spec := .imm yEvent fun (a0 : TEvent) => .body (s_EventOk k a0) (outV [.bool] [])
noncomputable def c_s_MemberOf (k : Nat) : Cfg := { eqs := [], tab := [(3, (.int .i64)), (34, yEvent)], spec := [(42, sp_s_l10Find k), (56, sp_s_At k), (62, sp_s_l01In k)], mspec := [], inl := [(59, Try.f59)], keep := [], join := [], hold := [], ptrs := [], maps := [], fuel := k }
noncomputable def fin_s_MemberOf : VV → Ms → Option Int := finV [(.int .i64)] []
theorem r_s_MemberOf (k : Nat) (a0 : List TEvent) (a1 : List TItem) (a2 : Int) : runX (c_s_MemberOf k) fin_s_MemberOf k 59 [argV (.slice 34 yEvent) a0, argV (.slice 52 yItem) a1, argV (.int .i64) a2] ms0 = s_MemberOf k a0 a1 a2 := by kernel_rfl
noncomputable def sp_s_MemberOf (k : Nat) : Spec := .imm (.slice 34 yEvent) fun (a0 : List TEvent) => .imm (.slice 52 yItem) fun (a1 : List TItem) => .imm (.int .i64) fun (a2 : Int) => .body (s_MemberOf k a0 a1 a2) (outV [(.int .i64)] [])
noncomputable def c_s_l10Empty (k : Nat) : Cfg := { eqs := [], tab := [(3, (.int .i64)), (30, (.slice 52 yItem)), (52, yItem)], spec := [], mspec := [], inl := [(96, Try.f96)], keep := [(9600001002, [0, 3])], join := [], hold := [], ptrs := [], maps := [], fuel := k }
noncomputable def fin_s_l10Empty : VV → Ms → Option Bool := finV [.bool] []
noncomputable def V0_s_l10Empty (k n : Nat) (a0 : List TItem) (v1 : Int) : Option Bool := lpN (c_s_l10Empty k) fin_s_l10Empty n true 9600001002 (cd [1, 0, 1, 0, 0] (bo Try.f96)) [.b 0, .s (cd [1, 1] (bo Try.f96)), .fn Try.f96] ⟨⟨(mkT 16 0 [(0, one (.slc 52 yItem a0)), (3, one (.int .i64 v1))]), []⟩, 9600001000, 1, [(0, (mkT 0 0 []))]⟩
theorem t0_s_l10Empty (k n : Nat) (a0 : List TItem) (v1 : Int) : V0_s_l10Empty k (n + 1) a0 v1 = b0_s_l10Empty k (V0_s_l10Empty k n) a0 v1 := by kernel_rfl
theorem e_s_l10Empty (k : Nat) : ∀ n : Nat, V0_s_l10Empty k n = l0_s_l10Empty k n
  | 0 => (by funext a0 v1; rfl)
  | n + 1 => by
    obtain h0 := e_s_l10Empty k n
    exact (by funext a0 v1; rw [t0_s_l10Empty, h0] <;> rfl)
theorem u_s_l10Empty (k : Nat) (a0 : List TItem) : runX (c_s_l10Empty k) fin_s_l10Empty k 96 [argV (.slice 52 yItem) a0] ms0 = g_s_l10Empty k (V0_s_l10Empty k k) a0 := by kernel_rfl
theorem r_s_l10Empty (k : Nat) (a0 : List TItem) : runX (c_s_l10Empty k) fin_s_l10Empty k 96 [argV (.slice 52 yItem) a0] ms0 = s_l10Empty k a0 := by rw [u_s_l10Empty, show V0_s_l10Empty k k = l0_s_l10Empty k k from (e_s_l10Empty k k)] <;> rfl
noncomputable def sp_s_l10Empty (k : Nat) : Spec := .imm (.slice 52 yItem) fun (a0 : List TItem) => .body (s_l10Empty k a0) (outV [.bool] [])
noncomputable def c_s_l10Self (k : Nat) : Cfg := { eqs := [], tab := [(3, (.int .i64)), (34, yEvent)], spec := [(42, sp_s_l10Find k), (56, sp_s_At k), (59, sp_s_MemberOf k), (96, sp_s_l10Empty k)], mspec := [], inl := [(85, Try.f85)], keep := [], join := [], hold := [], ptrs := [], maps := [], fuel := k }
noncomputable def fin_s_l10Self : VV → Ms → Option Bool := finV [.bool] []
theorem r_s_l10Self (k : Nat) (a0 : List TEvent) (a1 : List TItem) (a2 : TEvent) : runX (c_s_l10Self k) fin_s_l10Self k 85 [argV (.slice 34 yEvent) a0, argV (.slice 52 yItem) a1, argV yEvent a2] ms0 = s_l10Self k a0 a1 a2 := by kernel_rfl
noncomputable def sp_s_l10Self (k : Nat) : Spec := .imm (.slice 34 yEvent) fun (a0 : List TEvent) => .imm (.slice 52 yItem) fun (a1 : List TItem) => .imm yEvent fun (a2 : TEvent) => .body (s_l10Self k a0 a1 a2) (outV [.bool] [])
noncomputable def c_s_l10Member (k : Nat) : Cfg := { eqs := [], tab := [(3, (.int .i64)), (34, yEvent)], spec := [(23, sp_s_LevelOf k), (59, sp_s_MemberOf k), (85, sp_s_l10Self k)], mspec := [], inl := [(57, Try.f57)], keep := [], join := [], hold := [], ptrs := [], maps := [], fuel := k }
noncomputable def fin_s_l10Member : VV → Ms → Option Bool := finV [.bool] []
theorem r_s_l10Member (k : Nat) (a0 : List TEvent) (a1 : List TItem) (a2 : TEvent) : runX (c_s_l10Member k) fin_s_l10Member k 57 [argV (.slice 34 yEvent) a0, argV (.slice 52 yItem) a1, argV yEvent a2] ms0 = s_l10Member k a0 a1 a2 := by kernel_rfl
noncomputable def sp_s_l10Member (k : Nat) : Spec := .imm (.slice 34 yEvent) fun (a0 : List TEvent) => .imm (.slice 52 yItem) fun (a1 : List TItem) => .imm yEvent fun (a2 : TEvent) => .body (s_l10Member k a0 a1 a2) (outV [.bool] [])
noncomputable def c_s_l10Power (k : Nat) : Cfg := { eqs := [], tab := [(3, (.int .i64)), (32, (.slice 3 (.int .i64))), (34, yEvent)], spec := [(23, sp_s_LevelOf k), (59, sp_s_MemberOf k)], mspec := [], inl := [(58, Try.f58)], keep := [(5800001005, [0, 1, 5, 7, 8])], join := [], hold := [], ptrs := [], maps := [], fuel := k }
noncomputable def fin_s_l10Power : VV → Ms → Option Bool := finV [.bool] []
noncomputable def V0_s_l10Power (k n : Nat) (a0 : List TEvent) (a1 : List TItem) (r1 : Int) (v1 : Int) (a2 : TEvent) : Option Bool := lpN (c_s_l10Power k) fin_s_l10Power n true 5800001005 (cd [1, 1, 1, 0, 1, 0, 0] (bo Try.f58)) [.b 0, .s (cd [1, 1, 1, 1] (bo Try.f58)), .fn Try.f58] ⟨⟨(mkT 57 0 [(0, one (.slc 34 yEvent a0)), (1, one (.slc 52 yItem a1)), (5, one (.ptr 9000000 0)), (7, one (.int .i64 r1)), (8, one (.int .i64 v1))]), [(9000000, .box [.int .i64 a2.1, .int .i64 a2.2.1, .int .i64 a2.2.2.1, .int .i64 a2.2.2.2.1, .int .i64 a2.2.2.2.2.1, .slc 3 (.int .i64) a2.2.2.2.2.2.1, .str a2.2.2.2.2.2.2.1, .slc 3 (.int .i64) a2.2.2.2.2.2.2.2.1, .int .i64 a2.2.2.2.2.2.2.2.2.1])]⟩, 5800001000, 1, [(0, (mkT 0 0 []))]⟩
theorem t0_s_l10Power (k n : Nat) (a0 : List TEvent) (a1 : List TItem) (r1 : Int) (v1 : Int) (a2 : TEvent) : V0_s_l10Power k (n + 1) a0 a1 r1 v1 a2 = b0_s_l10Power k (V0_s_l10Power k n) a0 a1 r1 v1 a2 := by kernel_rfl
theorem e_s_l10Power (k : Nat) : ∀ n : Nat, V0_s_l10Power k n = l0_s_l10Power k n
  | 0 => (by funext a0 a1 r1 v1 a2; rfl)
  | n + 1 => by
    obtain h0 := e_s_l10Power k n
    exact (by funext a0 a1 r1 v1 a2; rw [t0_s_l10Power, h0] <;> rfl)
theorem u_s_l10Power (k : Nat) (a0 : List TEvent) (a1 : List TItem) (a2 : TEvent) : runX (c_s_l10Power k) fin_s_l10Power k 58 [argV (.slice 34 yEvent) a0, argV (.slice 52 yItem) a1, argV yEvent a2] ms0 = g_s_l10Power k (V0_s_l10Power k k) a0 a1 a2 := by kernel_rfl
theorem r_s_l10Power (k : Nat) (a0 : List TEvent) (a1 : List TItem) (a2 : TEvent) : runX (c_s_l10Power k) fin_s_l10Power k 58 [argV (.slice 34 yEvent) a0, argV (.slice 52 yItem) a1, argV yEvent a2] ms0 = s_l10Power k a0 a1 a2 := by rw [u_s_l10Power, show V0_s_l10Power k k = l0_s_l10Power k k from (e_s_l10Power k k)] <;> rfl
noncomputable def sp_s_l10Power (k : Nat) : Spec := .imm (.slice 34 yEvent) fun (a0 : List TEvent) => .imm (.slice 52 yItem) fun (a1 : List TItem) => .imm yEvent fun (a2 : TEvent) => .body (s_l10Power k a0 a1 a2) (outV [.bool] [])
noncomputable def c_s_Allowed (k : Nat) : Cfg := { eqs := [], tab := [(3, (.int .i64)), (30, (.slice 52 yItem)), (34, yEvent)], spec := [(23, sp_s_LevelOf k), (42, sp_s_l10Find k), (55, sp_s_EventOk k), (56, sp_s_At k), (57, sp_s_l10Member k), (58, sp_s_l10Power k), (59, sp_s_MemberOf k)], mspec := [], inl := [(20, Try.f20)], keep := [], join := [], hold := [], ptrs := [], maps := [], fuel := k }
noncomputable def fin_s_Allowed : VV → Ms → Option Bool := finV [.bool] []
theorem r_s_Allowed (k : Nat) (a0 : List TEvent) (a1 : List TItem) (a2 : TEvent) : runX (c_s_Allowed k) fin_s_Allowed k 20 [argV (.slice 34 yEvent) a0, argV (.slice 52 yItem) a1, argV yEvent a2] ms0 = s_Allowed k a0 a1 a2 := by kernel_rfl
noncomputable def sp_s_Allowed (k : Nat) : Spec := .imm (.slice 34 yEvent) fun (a0 : List TEvent) => .imm (.slice 52 yItem) fun (a1 : List TItem) => .imm yEvent fun (a2 : TEvent) => .body (s_Allowed k a0 a1 a2) (outV [.bool] [])
noncomputable def c_s_l12Has (k : Nat) : Cfg := { eqs := [], tab := [(3, (.int .i64)), (24, (.slice 34 yEvent)), (28, yRoom), (34, yEvent)], spec := [], mspec := [], inl := [(70, Try.f70)], keep := [(7000001002, [1, 2, 5])], join := [], hold := [], ptrs := [], maps := [], fuel := k }
noncomputable def fin_s_l12Has : VV → Ms → Option Int := finV [(.int .i64)] []
noncomputable def V0_s_l12Has (k n : Nat) (a1 : Int) (v1 : Int) (a0 : TRoom) : Option Int := lpN (c_s_l12Has k) fin_s_l12Has n true 7000001002 (cd [1, 0, 1, 0, 0] (bo Try.f70)) [.b 0, .s (cd [1, 1] (bo Try.f70)), .fn Try.f70] ⟨⟨(mkT 22 0 [(1, one (.int .i64 a1)), (2, one (.ptr 9000000 0)), (5, one (.int .i64 v1))]), [(9000000, .box [.slc 34 yEvent a0.1, .slc 30 (.slice 52 yItem) a0.2.1, .slc 4 .bool a0.2.2.1])]⟩, 7000001000, 1, [(0, (mkT 0 0 []))]⟩
theorem t0_s_l12Has (k n : Nat) (a1 : Int) (v1 : Int) (a0 : TRoom) : V0_s_l12Has k (n + 1) a1 v1 a0 = b0_s_l12Has k (V0_s_l12Has k n) a1 v1 a0 := by kernel_rfl
theorem e_s_l12Has (k : Nat) : ∀ n : Nat, V0_s_l12Has k n = l0_s_l12Has k n
  | 0 => (by funext a1 v1 a0; rfl)
  | n + 1 => by
    obtain h0 := e_s_l12Has k n
    exact (by funext a1 v1 a0; rw [t0_s_l12Has, h0] <;> rfl)
theorem u_s_l12Has (k : Nat) (a0 : TRoom) (a1 : Int) : runX (c_s_l12Has k) fin_s_l12Has k 70 [argV yRoom a0, argV (.int .i64) a1] ms0 = g_s_l12Has k (V0_s_l12Has k k) a0 a1 := by kernel_rfl
theorem r_s_l12Has (k : Nat) (a0 : TRoom) (a1 : Int) : runX (c_s_l12Has k) fin_s_l12Has k 70 [argV yRoom a0, argV (.int .i64) a1] ms0 = s_l12Has k a0 a1 := by rw [u_s_l12Has, show V0_s_l12Has k k = l0_s_l12Has k k from (e_s_l12Has k k)] <;> rfl
noncomputable def sp_s_l12Has (k : Nat) : Spec := .imm yRoom fun (a0 : TRoom) => .imm (.int .i64) fun (a1 : Int) => .body (s_l12Has k a0 a1) (outV [(.int .i64)] [])
noncomputable def c_s_l11Add (k : Nat) : Cfg := { eqs := [], tab := [(3, (.int .i64)), (32, (.slice 3 (.int .i64)))], spec := [], mspec := [], inl := [(43, Try.f43)], keep := [(4300001004, [0, 1, 5, 6, 7])], join := [], hold := [], ptrs := [], maps := [], fuel := k }
noncomputable def fin_s_l11Add : VV → Ms → Option (List Int) := finV [(.slice 3 (.int .i64))] [true]
noncomputable def V0_s_l11Add (k n : Nat) (a0 : List Int) (a1 : Int) (v1 : Bool) (v2 : Int) (xs3 : List Int) : Option (List Int) := lpN (c_s_l11Add k) fin_s_l11Add n true 4300001004 (cd [1, 1, 1, 0, 1, 0, 0] (bo Try.f43)) [.b 0, .s (cd [1, 1, 1, 1] (bo Try.f43)), .fn Try.f43] ⟨⟨(mkT 49 0 [(0, one (.slc 3 (.int .i64) a0)), (1, one (.int .i64 a1)), (5, one (.row 9000000 none none)), (6, one (.bool v1)), (7, one (.int .i64 v2))]), [(9000000, .row 3 (.int .i64) xs3 true)]⟩, 4300001000, 1, [(0, (mkT 0 0 []))]⟩
theorem t0_s_l11Add (k n : Nat) (a0 : List Int) (a1 : Int) (v1 : Bool) (v2 : Int) (xs3 : List Int) : V0_s_l11Add k (n + 1) a0 a1 v1 v2 xs3 = b0_s_l11Add k (V0_s_l11Add k n) a0 a1 v1 v2 xs3 := by kernel_rfl
theorem e_s_l11Add (k : Nat) : ∀ n : Nat, V0_s_l11Add k n = l0_s_l11Add k n
  | 0 => (by funext a0 a1 v1 v2 xs3; rfl)
  | n + 1 => by
    obtain h0 := e_s_l11Add k n
    exact (by funext a0 a1 v1 v2 xs3; rw [t0_s_l11Add, h0] <;> rfl)
theorem u_s_l11Add (k : Nat) (a0 : List Int) (a1 : Int) : runX (c_s_l11Add k) fin_s_l11Add k 43 [argV (.slice 3 (.int .i64)) a0, argV (.int .i64) a1] ms0 = g_s_l11Add k (V0_s_l11Add k k) a0 a1 := by kernel_rfl
theorem r_s_l11Add (k : Nat) (a0 : List Int) (a1 : Int) : runX (c_s_l11Add k) fin_s_l11Add k 43 [argV (.slice 3 (.int .i64)) a0, argV (.int .i64) a1] ms0 = s_l11Add k a0 a1 := by rw [u_s_l11Add, show V0_s_l11Add k k = l0_s_l11Add k k from (e_s_l11Add k k)] <;> rfl
noncomputable def sp_s_l11Add (k : Nat) : Spec := .imm (.slice 3 (.int .i64)) fun (a0 : List Int) => .imm (.int .i64) fun (a1 : Int) => .body (s_l11Add k a0 a1) (outV [(.slice 3 (.int .i64))] [true])
noncomputable def c_s_l05In (k : Nat) : Cfg := { eqs := [], tab := [(3, (.int .i64)), (32, (.slice 3 (.int .i64)))], spec := [], mspec := [], inl := [(45, Try.f45)], keep := [(4500001002, [0, 1, 5])], join := [], hold := [], ptrs := [], maps := [], fuel := k }
noncomputable def fin_s_l05In : VV → Ms → Option Bool := finV [.bool] []
noncomputable def V0_s_l05In (k n : Nat) (a0 : List Int) (a1 : Int) (v1 : Int) : Option Bool := lpN (c_s_l05In k) fin_s_l05In n true 4500001002 (cd [1, 0, 1, 0, 0] (bo Try.f45)) [.b 0, .s (cd [1, 1] (bo Try.f45)), .fn Try.f45] ⟨⟨(mkT 18 0 [(0, one (.slc 3 (.int .i64) a0)), (1, one (.int .i64 a1)), (5, one (.int .i64 v1))]), []⟩, 4500001000, 1, [(0, (mkT 0 0 []))]⟩
theorem t0_s_l05In (k n : Nat) (a0 : List Int) (a1 : Int) (v1 : Int) : V0_s_l05In k (n + 1) a0 a1 v1 = b0_s_l05In k (V0_s_l05In k n) a0 a1 v1 := by kernel_rfl
theorem e_s_l05In (k : Nat) : ∀ n : Nat, V0_s_l05In k n = l0_s_l05In k n
  | 0 => (by funext a0 a1 v1; rfl)
  | n + 1 => by
    obtain h0 := e_s_l05In k n
    exact (by funext a0 a1 v1; rw [t0_s_l05In, h0] <;> rfl)
theorem u_s_l05In (k : Nat) (a0 : List Int) (a1 : Int) : runX (c_s_l05In k) fin_s_l05In k 45 [argV (.slice 3 (.int .i64)) a0, argV (.int .i64) a1] ms0 = g_s_l05In k (V0_s_l05In k k) a0 a1 := by kernel_rfl
theorem r_s_l05In (k : Nat) (a0 : List Int) (a1 : Int) : runX (c_s_l05In k) fin_s_l05In k 45 [argV (.slice 3 (.int .i64)) a0, argV (.int .i64) a1] ms0 = s_l05In k a0 a1 := by rw [u_s_l05In, show V0_s_l05In k k = l0_s_l05In k k from (e_s_l05In k k)] <;> rfl
noncomputable def sp_s_l05In (k : Nat) : Spec := .imm (.slice 3 (.int .i64)) fun (a0 : List Int) => .imm (.int .i64) fun (a1 : Int) => .body (s_l05In k a0 a1) (outV [.bool] [])
noncomputable def c_s_l11Behind (k : Nat) : Cfg := { eqs := [], tab := [(3, (.int .i64)), (32, (.slice 3 (.int .i64))), (34, yEvent)], spec := [(42, sp_s_l10Find k), (45, sp_s_l05In k)], mspec := [], inl := [(44, Try.f44)], keep := [(4400001003, [0, 5, 6]), (4400001007, [0, 5, 6, 7, 9])], join := [], hold := [(4400001003, [(6, [0], 3, (.int .i64), false, true)]), (4400001007, [(6, [0], 3, (.int .i64), false, true)])], ptrs := [], maps := [], fuel := k }
noncomputable def fin_s_l11Behind : VV → Ms → Option (List Int) := finV [(.slice 3 (.int .i64))] [true]
noncomputable def V0_s_l11Behind (k n : Nat) (a0 : List TEvent) (u1 : Nat) (xs2 : List Int) (xs3 : List Int) : Option (List Int) := lpN (c_s_l11Behind k) fin_s_l11Behind n true 4400001003 (cd [1, 1, 1, 0, 0, 0] (bo Try.f44)) [.b 0, .s (cd [1, 1, 1, 1] (bo Try.f44)), .fn Try.f44] ⟨⟨(mkT 73 0 [(0, one (.slc 34 yEvent a0)), (5, one (.row 9000000 none none)), (6, one (.row 9000001 (some u1) none))]), [(9000000, .row 3 (.int .i64) xs2 true), (9000001, .row 3 (.int .i64) xs3 true)]⟩, 4400001000, 1, [(0, (mkT 0 0 []))]⟩
noncomputable def V1_s_l11Behind (k n : Nat) (a0 : List TEvent) (u4 : Nat) (v5 : Int) (xs6 : List Int) (xs7 : List Int) (r1 : TEvent × Bool) : Option (List Int) := lpN (c_s_l11Behind k) fin_s_l11Behind n true 4400001007 (cd [1, 1, 1, 0, 0, 0, 1, 0, 1, 1, 1, 0, 0] (bo Try.f44)) [.b 2, .b 1, .l 4400001003 (cd [1, 1, 1, 0, 0, 0] (bo Try.f44)), .b 0, .s (cd [1, 1, 1, 1] (bo Try.f44)), .fn Try.f44] ⟨⟨(mkT 73 0 [(0, one (.slc 34 yEvent a0)), (5, one (.row 9000000 none none)), (6, one (.row 9000001 (some u4) none)), (7, one (.ptr 9000002 0)), (9, one (.int .i64 v5))]), [(9000000, .row 3 (.int .i64) xs6 true), (9000001, .row 3 (.int .i64) xs7 true), (9000002, .box [.int .i64 r1.1.1, .int .i64 r1.1.2.1, .int .i64 r1.1.2.2.1, .int .i64 r1.1.2.2.2.1, .int .i64 r1.1.2.2.2.2.1, .slc 3 (.int .i64) r1.1.2.2.2.2.2.1, .str r1.1.2.2.2.2.2.2.1, .slc 3 (.int .i64) r1.1.2.2.2.2.2.2.2.1, .int .i64 r1.1.2.2.2.2.2.2.2.2.1])]⟩, 4400001000, 1, [(0, (mkT 0 0 []))]⟩
theorem t0_s_l11Behind (k n : Nat) (a0 : List TEvent) (u1 : Nat) (xs2 : List Int) (xs3 : List Int) : V0_s_l11Behind k (n + 1) a0 u1 xs2 xs3 = b0_s_l11Behind k (V1_s_l11Behind k n) a0 u1 xs2 xs3 := by kernel_rfl
theorem t1_s_l11Behind (k n : Nat) (a0 : List TEvent) (u4 : Nat) (v5 : Int) (xs6 : List Int) (xs7 : List Int) (r1 : TEvent × Bool) : V1_s_l11Behind k (n + 1) a0 u4 v5 xs6 xs7 r1 = b1_s_l11Behind k (V1_s_l11Behind k n) (V0_s_l11Behind k n) a0 u4 v5 xs6 xs7 r1 := by kernel_rfl
theorem e_s_l11Behind (k : Nat) : ∀ n : Nat, V0_s_l11Behind k n = l0_s_l11Behind k n ∧ V1_s_l11Behind k n = l1_s_l11Behind k n
  | 0 => ⟨(by funext a0 u1 xs2 xs3; rfl), (by funext a0 u4 v5 xs6 xs7 r1; rfl)⟩
  | n + 1 => by
    obtain ⟨h0, h1⟩ := e_s_l11Behind k n
    exact ⟨(by funext a0 u1 xs2 xs3; rw [t0_s_l11Behind, h1] <;> rfl), (by funext a0 u4 v5 xs6 xs7 r1; rw [t1_s_l11Behind, h1, h0] <;> rfl)⟩
theorem u_s_l11Behind (k : Nat) (a0 : List TEvent) (a1 : Int) : runX (c_s_l11Behind k) fin_s_l11Behind k 44 [argV (.slice 34 yEvent) a0, argV (.int .i64) a1] ms0 = g_s_l11Behind k (V0_s_l11Behind k k) a0 a1 := by kernel_rfl
theorem r_s_l11Behind (k : Nat) (a0 : List TEvent) (a1 : Int) : runX (c_s_l11Behind k) fin_s_l11Behind k 44 [argV (.slice 34 yEvent) a0, argV (.int .i64) a1] ms0 = s_l11Behind k a0 a1 := by rw [u_s_l11Behind, show V0_s_l11Behind k k = l0_s_l11Behind k k from (e_s_l11Behind k k).1] <;> rfl
noncomputable def sp_s_l11Behind (k : Nat) : Spec := .imm (.slice 34 yEvent) fun (a0 : List TEvent) => .imm (.int .i64) fun (a1 : Int) => .body (s_l11Behind k a0 a1) (outV [(.slice 3 (.int .i64))] [true])
noncomputable def c_s_l11Ready (k : Nat) : Cfg := { eqs := [], tab := [(3, (.int .i64)), (32, (.slice 3 (.int .i64)))], spec := [(45, sp_s_l05In k)], mspec := [], inl := [(46, Try.f46)], keep := [(4600001002, [0, 1, 2, 7])], join := [], hold := [], ptrs := [], maps := [], fuel := k }
noncomputable def fin_s_l11Ready : VV → Ms → Option Bool := finV [.bool] []
noncomputable def V0_s_l11Ready (k n : Nat) (a0 : List Int) (a1 : List Int) (a2 : List Int) (v1 : Int) : Option Bool := lpN (c_s_l11Ready k) fin_s_l11Ready n true 4600001002 (cd [1, 0, 1, 0, 0] (bo Try.f46)) [.b 0, .s (cd [1, 1] (bo Try.f46)), .fn Try.f46] ⟨⟨(mkT 29 0 [(0, one (.slc 3 (.int .i64) a0)), (1, one (.slc 3 (.int .i64) a1)), (2, one (.slc 3 (.int .i64) a2)), (7, one (.int .i64 v1))]), []⟩, 4600001000, 1, [(0, (mkT 0 0 []))]⟩
theorem t0_s_l11Ready (k n : Nat) (a0 : List Int) (a1 : List Int) (a2 : List Int) (v1 : Int) : V0_s_l11Ready k (n + 1) a0 a1 a2 v1 = b0_s_l11Ready k (V0_s_l11Ready k n) a0 a1 a2 v1 := by kernel_rfl
theorem e_s_l11Ready (k : Nat) : ∀ n : Nat, V0_s_l11Ready k n = l0_s_l11Ready k n
  | 0 => (by funext a0 a1 a2 v1; rfl)
  | n + 1 => by
    obtain h0 := e_s_l11Ready k n
    exact (by funext a0 a1 a2 v1; rw [t0_s_l11Ready, h0] <;> rfl)
theorem u_s_l11Ready (k : Nat) (a0 : List Int) (a1 : List Int) (a2 : List Int) : runX (c_s_l11Ready k) fin_s_l11Ready k 46 [argV (.slice 3 (.int .i64)) a0, argV (.slice 3 (.int .i64)) a1, argV (.slice 3 (.int .i64)) a2] ms0 = g_s_l11Ready k (V0_s_l11Ready k k) a0 a1 a2 := by kernel_rfl
theorem r_s_l11Ready (k : Nat) (a0 : List Int) (a1 : List Int) (a2 : List Int) : runX (c_s_l11Ready k) fin_s_l11Ready k 46 [argV (.slice 3 (.int .i64)) a0, argV (.slice 3 (.int .i64)) a1, argV (.slice 3 (.int .i64)) a2] ms0 = s_l11Ready k a0 a1 a2 := by rw [u_s_l11Ready, show V0_s_l11Ready k k = l0_s_l11Ready k k from (e_s_l11Ready k k)] <;> rfl
noncomputable def sp_s_l11Ready (k : Nat) : Spec := .imm (.slice 3 (.int .i64)) fun (a0 : List Int) => .imm (.slice 3 (.int .i64)) fun (a1 : List Int) => .imm (.slice 3 (.int .i64)) fun (a2 : List Int) => .body (s_l11Ready k a0 a1 a2) (outV [.bool] [])
noncomputable def c_s_l11Heavy (k : Nat) : Cfg := { eqs := [], tab := [(3, (.int .i64)), (34, yEvent)], spec := [], mspec := [], inl := [(75, Try.f75)], keep := [], join := [], hold := [], ptrs := [], maps := [], fuel := k }
noncomputable def fin_s_l11Heavy : VV → Ms → Option Bool := finV [.bool] []
theorem r_s_l11Heavy (k : Nat) (a0 : TEvent) : runX (c_s_l11Heavy k) fin_s_l11Heavy k 75 [argV yEvent a0] ms0 = s_l11Heavy k a0 := by kernel_rfl
noncomputable def sp_s_l11Heavy (k : Nat) : Spec := .imm yEvent fun (a0 : TEvent) => .body (s_l11Heavy k a0) (outV [.bool] [])
noncomputable def c_s_Heavier (k : Nat) : Cfg := { eqs := [], tab := [(3, (.int .i64)), (4, .bool), (34, yEvent)], spec := [(23, sp_s_LevelOf k), (75, sp_s_l11Heavy k)], mspec := [], inl := [(47, Try.f47)], keep := [], join := [], hold := [], ptrs := [], maps := [], fuel := k }
noncomputable def fin_s_Heavier : VV → Ms → Option Bool := finV [.bool] []
theorem r_s_Heavier (k : Nat) (a0 : List TEvent) (a1 : List TItem) (a2 : TEvent) (a3 : TEvent) : runX (c_s_Heavier k) fin_s_Heavier k 47 [argV (.slice 34 yEvent) a0, argV (.slice 52 yItem) a1, argV yEvent a2, argV yEvent a3] ms0 = s_Heavier k a0 a1 a2 a3 := by kernel_rfl
noncomputable def sp_s_Heavier (k : Nat) : Spec := .imm (.slice 34 yEvent) fun (a0 : List TEvent) => .imm (.slice 52 yItem) fun (a1 : List TItem) => .imm yEvent fun (a2 : TEvent) => .imm yEvent fun (a3 : TEvent) => .body (s_Heavier k a0 a1 a2 a3) (outV [.bool] [])
noncomputable def c_s_Order (k : Nat) : Cfg := { eqs := [], tab := [(3, (.int .i64)), (32, (.slice 3 (.int .i64))), (34, yEvent), (66, (.slice 32 (.slice 3 (.int .i64))))], spec := [(42, sp_s_l10Find k), (43, sp_s_l11Add k), (44, sp_s_l11Behind k), (45, sp_s_l05In k), (46, sp_s_l11Ready k), (47, sp_s_Heavier k)], mspec := [], inl := [(13, Try.f13)], keep := [(1300001003, [0, 1, 2, 7, 8]), (1300001010, [0, 1, 7, 11, 12]), (1300001014, [0, 1, 7, 11, 13]), (1300001018, [0, 1, 7, 11, 13, 14, 15, 16])], join := [], hold := [], ptrs := [], maps := [], fuel := k }
noncomputable def fin_s_Order : VV → Ms → Option (List Int) := finV [(.slice 3 (.int .i64))] [true]
noncomputable def V2_s_Order (k n : Nat) (a0 : List TEvent) (a1 : List TItem) (xs2 : List Int) (xs4 : List (List Int)) (xs5 : List Int) : Option (List Int) := lpN (c_s_Order k) fin_s_Order n true 1300001014 (cd [1, 1, 1, 1, 1, 1, 0, 0, 0] (bo Try.f13)) [.b 4, .s (cd [1, 1, 1, 1, 1, 1, 1] (bo Try.f13)), .fn Try.f13] ⟨⟨(mkT 115 0 [(0, one (.slc 34 yEvent a0)), (1, one (.slc 52 yItem a1)), (7, one (.row 9000000 none none)), (11, one (.row 9000001 none none)), (13, one (.row 9000002 none none))]), [(9000000, .row 3 (.int .i64) xs2 true), (9000001, .row 32 (.slice 3 (.int .i64)) xs4 true), (9000002, .row 3 (.int .i64) xs5 true)]⟩, 1300001000, 1, [(0, (mkT 0 0 []))]⟩
noncomputable def V3_s_Order (k n : Nat) (a0 : List TEvent) (a1 : List TItem) (v6 : Int) (xs2 : List Int) (xs4 : List (List Int)) (xs5 : List Int) : Option (List Int) := lpN (c_s_Order k) fin_s_Order n true 1300001018 (cd [1, 1, 1, 1, 1, 1, 0, 0, 0, 1, 0, 1, 1, 0, 1, 0, 0] (bo Try.f13)) [.b 6, .s (cd [1, 1, 1, 1, 1, 1, 0, 0, 0, 1, 0, 1, 1, 1] (bo Try.f13)), .b 5, .l 1300001014 (cd [1, 1, 1, 1, 1, 1, 0, 0, 0] (bo Try.f13)), .b 4, .s (cd [1, 1, 1, 1, 1, 1, 1] (bo Try.f13)), .fn Try.f13] ⟨⟨(mkT 115 0 [(0, one (.slc 34 yEvent a0)), (1, one (.slc 52 yItem a1)), (7, one (.row 9000000 none none)), (11, one (.row 9000001 none none)), (13, one (.row 9000002 none none)), (14, one (.ptr 9000003 0)), (15, one (.bool false)), (16, one (.int .i64 v6))]), [(9000000, .row 3 (.int .i64) xs2 true), (9000001, .row 32 (.slice 3 (.int .i64)) xs4 true), (9000002, .row 3 (.int .i64) xs5 true), (9000003, .box [.int .i64 0, .int .i64 0, .int .i64 0, .int .i64 0, .int .i64 0, .nilS, .str ByteArray.empty, .nilS, .int .i64 0])]⟩, 1300001000, 1, [(0, (mkT 0 0 []))]⟩
noncomputable def V4_s_Order (k n : Nat) (a0 : List TEvent) (a1 : List TItem) (v7 : Int) (xs2 : List Int) (xs4 : List (List Int)) (xs5 : List Int) (v8 : Int) (v9 : Int) (v10 : Int) (v11 : Int) (v12 : Int) (v13 : List Int) (v14 : ByteArray) (v15 : List Int) (v16 : Int) : Option (List Int) := lpN (c_s_Order k) fin_s_Order n true 1300001018 (cd [1, 1, 1, 1, 1, 1, 0, 0, 0, 1, 0, 1, 1, 0, 1, 0, 0] (bo Try.f13)) [.b 6, .s (cd [1, 1, 1, 1, 1, 1, 0, 0, 0, 1, 0, 1, 1, 1] (bo Try.f13)), .b 5, .l 1300001014 (cd [1, 1, 1, 1, 1, 1, 0, 0, 0] (bo Try.f13)), .b 4, .s (cd [1, 1, 1, 1, 1, 1, 1] (bo Try.f13)), .fn Try.f13] ⟨⟨(mkT 115 0 [(0, one (.slc 34 yEvent a0)), (1, one (.slc 52 yItem a1)), (7, one (.row 9000000 none none)), (11, one (.row 9000001 none none)), (13, one (.row 9000002 none none)), (14, one (.ptr 9000003 0)), (15, one (.bool true)), (16, one (.int .i64 v7))]), [(9000000, .row 3 (.int .i64) xs2 true), (9000001, .row 32 (.slice 3 (.int .i64)) xs4 true), (9000002, .row 3 (.int .i64) xs5 true), (9000003, .box [.int .i64 v8, .int .i64 v9, .int .i64 v10, .int .i64 v11, .int .i64 v12, .slc 3 (.int .i64) v13, .str v14, .slc 3 (.int .i64) v15, .int .i64 v16])]⟩, 1300001000, 1, [(0, (mkT 0 0 []))]⟩
noncomputable def V1_s_Order (k n : Nat) (a0 : List TEvent) (a1 : List TItem) (v3 : Int) (xs2 : List Int) (xs4 : List (List Int)) : Option (List Int) := lpN (c_s_Order k) fin_s_Order n true 1300001010 (cd [1, 1, 1, 1, 0, 1, 0, 0] (bo Try.f13)) [.b 2, .s (cd [1, 1, 1, 1, 1] (bo Try.f13)), .fn Try.f13] ⟨⟨(mkT 115 0 [(0, one (.slc 34 yEvent a0)), (1, one (.slc 52 yItem a1)), (7, one (.row 9000000 none none)), (11, one (.row 9000001 none none)), (12, one (.int .i64 v3))]), [(9000000, .row 3 (.int .i64) xs2 true), (9000001, .row 32 (.slice 3 (.int .i64)) xs4 true)]⟩, 1300001000, 1, [(0, (mkT 0 0 []))]⟩
noncomputable def V0_s_Order (k n : Nat) (a0 : List TEvent) (a1 : List TItem) (a2 : List Int) (v1 : Int) (xs2 : List Int) : Option (List Int) := lpN (c_s_Order k) fin_s_Order n true 1300001003 (cd [1, 1, 0, 1, 0, 0] (bo Try.f13)) [.b 0, .s (cd [1, 1, 1] (bo Try.f13)), .fn Try.f13] ⟨⟨(mkT 115 0 [(0, one (.slc 34 yEvent a0)), (1, one (.slc 52 yItem a1)), (2, one (.slc 3 (.int .i64) a2)), (7, one (.row 9000000 none none)), (8, one (.int .i64 v1))]), [(9000000, .row 3 (.int .i64) xs2 true)]⟩, 1300001000, 1, [(0, (mkT 0 0 []))]⟩
theorem t2_s_Order (k n : Nat) (a0 : List TEvent) (a1 : List TItem) (xs2 : List Int) (xs4 : List (List Int)) (xs5 : List Int) : V2_s_Order k (n + 1) a0 a1 xs2 xs4 xs5 = b2_s_Order k (V3_s_Order k n) a0 a1 xs2 xs4 xs5 := by kernel_rfl
theorem t3_s_Order (k n : Nat) (a0 : List TEvent) (a1 : List TItem) (v6 : Int) (xs2 : List Int) (xs4 : List (List Int)) (xs5 : List Int) : V3_s_Order k (n + 1) a0 a1 v6 xs2 xs4 xs5 = b3_s_Order k (V3_s_Order k n) (V4_s_Order k n) a0 a1 v6 xs2 xs4 xs5 := by kernel_rfl
theorem t4_s_Order (k n : Nat) (a0 : List TEvent) (a1 : List TItem) (v7 : Int) (xs2 : List Int) (xs4 : List (List Int)) (xs5 : List Int) (v8 : Int) (v9 : Int) (v10 : Int) (v11 : Int) (v12 : Int) (v13 : List Int) (v14 : ByteArray) (v15 : List Int) (v16 : Int) : V4_s_Order k (n + 1) a0 a1 v7 xs2 xs4 xs5 v8 v9 v10 v11 v12 v13 v14 v15 v16 = b4_s_Order k (V4_s_Order k n) (V2_s_Order k n) a0 a1 v7 xs2 xs4 xs5 v8 v9 v10 v11 v12 v13 v14 v15 v16 := by kernel_rfl
theorem t1_s_Order (k n : Nat) (a0 : List TEvent) (a1 : List TItem) (v3 : Int) (xs2 : List Int) (xs4 : List (List Int)) : V1_s_Order k (n + 1) a0 a1 v3 xs2 xs4 = b1_s_Order k (V1_s_Order k n) (V2_s_Order k n) a0 a1 v3 xs2 xs4 := by kernel_rfl
theorem t0_s_Order (k n : Nat) (a0 : List TEvent) (a1 : List TItem) (a2 : List Int) (v1 : Int) (xs2 : List Int) : V0_s_Order k (n + 1) a0 a1 a2 v1 xs2 = b0_s_Order k (V0_s_Order k n) (V1_s_Order k n) a0 a1 a2 v1 xs2 := by kernel_rfl
theorem e_s_Order (k : Nat) : ∀ n : Nat, V2_s_Order k n = l2_s_Order k n ∧ V3_s_Order k n = l3_s_Order k n ∧ V4_s_Order k n = l4_s_Order k n ∧ V1_s_Order k n = l1_s_Order k n ∧ V0_s_Order k n = l0_s_Order k n
  | 0 => ⟨(by funext a0 a1 xs2 xs4 xs5; rfl), (by funext a0 a1 v6 xs2 xs4 xs5; rfl), (by funext a0 a1 v7 xs2 xs4 xs5 v8 v9 v10 v11 v12 v13 v14 v15 v16; rfl), (by funext a0 a1 v3 xs2 xs4; rfl), (by funext a0 a1 a2 v1 xs2; rfl)⟩
  | n + 1 => by
    obtain ⟨h2, h3, h4, h1, h0⟩ := e_s_Order k n
    exact ⟨(by funext a0 a1 xs2 xs4 xs5; rw [t2_s_Order, h3] <;> rfl), (by funext a0 a1 v6 xs2 xs4 xs5; rw [t3_s_Order, h3, h4] <;> rfl), (by funext a0 a1 v7 xs2 xs4 xs5 v8 v9 v10 v11 v12 v13 v14 v15 v16; rw [t4_s_Order, h4, h2] <;> rfl), (by funext a0 a1 v3 xs2 xs4; rw [t1_s_Order, h1, h2] <;> rfl), (by funext a0 a1 a2 v1 xs2; rw [t0_s_Order, h0, h1] <;> rfl)⟩
theorem u_s_Order (k : Nat) (a0 : List TEvent) (a1 : List TItem) (a2 : List Int) : runX (c_s_Order k) fin_s_Order k 13 [argV (.slice 34 yEvent) a0, argV (.slice 52 yItem) a1, argV (.slice 3 (.int .i64)) a2] ms0 = g_s_Order k (V0_s_Order k k) a0 a1 a2 := by kernel_rfl
theorem r_s_Order (k : Nat) (a0 : List TEvent) (a1 : List TItem) (a2 : List Int) : runX (c_s_Order k) fin_s_Order k 13 [argV (.slice 34 yEvent) a0, argV (.slice 52 yItem) a1, argV (.slice 3 (.int .i64)) a2] ms0 = s_Order k a0 a1 a2 := by rw [u_s_Order, show V0_s_Order k k = l0_s_Order k k from (e_s_Order k k).2.2.2.2] <;> rfl
noncomputable def sp_s_Order (k : Nat) : Spec := .imm (.slice 34 yEvent) fun (a0 : List TEvent) => .imm (.slice 52 yItem) fun (a1 : List TItem) => .imm (.slice 3 (.int .i64)) fun (a2 : List Int) => .body (s_Order k a0 a1 a2) (outV [(.slice 3 (.int .i64))] [true])
noncomputable def c_s_l10Key (k : Nat) : Cfg := { eqs := [], tab := [], spec := [(62, sp_s_l01In k)], mspec := [], inl := [(66, Try.f66)], keep := [], join := [], hold := [], ptrs := [], maps := [], fuel := k }
noncomputable def fin_s_l10Key : VV → Ms → Option Bool := finV [.bool] []
theorem r_s_l10Key (k : Nat) (a0 : Int) : runX (c_s_l10Key k) fin_s_l10Key k 66 [argV (.int .i64) a0] ms0 = s_l10Key k a0 := by kernel_rfl
noncomputable def sp_s_l10Key (k : Nat) : Spec := .imm (.int .i64) fun (a0 : Int) => .body (s_l10Key k a0) (outV [.bool] [])
noncomputable def c_s_StateOk (k : Nat) : Cfg := { eqs := [], tab := [(3, (.int .i64)), (30, (.slice 52 yItem)), (52, yItem)], spec := [(62, sp_s_l01In k), (66, sp_s_l10Key k)], mspec := [], inl := [(29, Try.f29)], keep := [(2900001004, [0, 3])], join := [], hold := [], ptrs := [], maps := [], fuel := k }
noncomputable def fin_s_StateOk : VV → Ms → Option Bool := finV [.bool] []
noncomputable def V0_s_StateOk (k n : Nat) (a0 : List TItem) (v1 : Int) : Option Bool := lpN (c_s_StateOk k) fin_s_StateOk n true 2900001004 (cd [1, 1, 0, 1, 0, 0] (bo Try.f29)) [.b 0, .s (cd [1, 1, 1] (bo Try.f29)), .fn Try.f29] ⟨⟨(mkT 47 0 [(0, one (.slc 52 yItem a0)), (3, one (.int .i64 v1))]), []⟩, 2900001000, 1, [(0, (mkT 0 0 []))]⟩
theorem t0_s_StateOk (k n : Nat) (a0 : List TItem) (v1 : Int) : V0_s_StateOk k (n + 1) a0 v1 = b0_s_StateOk k (V0_s_StateOk k n) a0 v1 := by kernel_rfl
theorem e_s_StateOk (k : Nat) : ∀ n : Nat, V0_s_StateOk k n = l0_s_StateOk k n
  | 0 => (by funext a0 v1; rfl)
  | n + 1 => by
    obtain h0 := e_s_StateOk k n
    exact (by funext a0 v1; rw [t0_s_StateOk, h0] <;> rfl)
theorem u_s_StateOk (k : Nat) (a0 : List TItem) : runX (c_s_StateOk k) fin_s_StateOk k 29 [argV (.slice 52 yItem) a0] ms0 = g_s_StateOk k (V0_s_StateOk k k) a0 := by kernel_rfl
theorem r_s_StateOk (k : Nat) (a0 : List TItem) : runX (c_s_StateOk k) fin_s_StateOk k 29 [argV (.slice 52 yItem) a0] ms0 = s_StateOk k a0 := by rw [u_s_StateOk, show V0_s_StateOk k k = l0_s_StateOk k k from (e_s_StateOk k k)] <;> rfl
noncomputable def sp_s_StateOk (k : Nat) : Spec := .imm (.slice 52 yItem) fun (a0 : List TItem) => .body (s_StateOk k a0) (outV [.bool] [])
noncomputable def c_s_Put (k : Nat) : Cfg := { eqs := [], tab := [(3, (.int .i64)), (30, (.slice 52 yItem)), (52, yItem)], spec := [(29, sp_s_StateOk k)], mspec := [], inl := [(27, Try.f27)], keep := [(2700001003, [0, 1, 2, 7, 8]), (2700001009, [0, 1, 7, 9])], join := [], hold := [], ptrs := [], maps := [], fuel := k }
noncomputable def fin_s_Put : VV → Ms → Option (List TItem) := finV [(.slice 52 yItem)] [true]
noncomputable def V1_s_Put (k n : Nat) (a0 : List TItem) (a1 : Int) (v3 : Int) (xs4 : List TItem) : Option (List TItem) := lpN (c_s_Put k) fin_s_Put n true 2700001009 (cd [1, 1, 1, 1, 0, 1, 0, 0] (bo Try.f27)) [.b 2, .s (cd [1, 1, 1, 1, 1] (bo Try.f27)), .fn Try.f27] ⟨⟨(mkT 69 0 [(0, one (.slc 52 yItem a0)), (1, one (.int .i64 a1)), (7, one (.row 9000000 none none)), (9, one (.int .i64 v3))]), [(9000000, .row 52 yItem xs4 true)]⟩, 2700001000, 1, [(0, (mkT 0 0 []))]⟩
noncomputable def V0_s_Put (k n : Nat) (a0 : List TItem) (a1 : Int) (a2 : Int) (v1 : Int) (xs2 : List TItem) : Option (List TItem) := lpN (c_s_Put k) fin_s_Put n true 2700001003 (cd [1, 1, 0, 1, 0, 0] (bo Try.f27)) [.b 0, .s (cd [1, 1, 1] (bo Try.f27)), .fn Try.f27] ⟨⟨(mkT 69 0 [(0, one (.slc 52 yItem a0)), (1, one (.int .i64 a1)), (2, one (.int .i64 a2)), (7, one (.row 9000000 none none)), (8, one (.int .i64 v1))]), [(9000000, .row 52 yItem xs2 true)]⟩, 2700001000, 1, [(0, (mkT 0 0 []))]⟩
theorem t1_s_Put (k n : Nat) (a0 : List TItem) (a1 : Int) (v3 : Int) (xs4 : List TItem) : V1_s_Put k (n + 1) a0 a1 v3 xs4 = b1_s_Put k (V1_s_Put k n) a0 a1 v3 xs4 := by kernel_rfl
theorem t0_s_Put (k n : Nat) (a0 : List TItem) (a1 : Int) (a2 : Int) (v1 : Int) (xs2 : List TItem) : V0_s_Put k (n + 1) a0 a1 a2 v1 xs2 = b0_s_Put k (V0_s_Put k n) (V1_s_Put k n) a0 a1 a2 v1 xs2 := by kernel_rfl
theorem e_s_Put (k : Nat) : ∀ n : Nat, V1_s_Put k n = l1_s_Put k n ∧ V0_s_Put k n = l0_s_Put k n
  | 0 => ⟨(by funext a0 a1 v3 xs4; rfl), (by funext a0 a1 a2 v1 xs2; rfl)⟩
  | n + 1 => by
    obtain ⟨h1, h0⟩ := e_s_Put k n
    exact ⟨(by funext a0 a1 v3 xs4; rw [t1_s_Put, h1] <;> rfl), (by funext a0 a1 a2 v1 xs2; rw [t0_s_Put, h0, h1] <;> rfl)⟩
theorem u_s_Put (k : Nat) (a0 : List TItem) (a1 : Int) (a2 : Int) : runX (c_s_Put k) fin_s_Put k 27 [argV (.slice 52 yItem) a0, argV (.int .i64) a1, argV (.int .i64) a2] ms0 = g_s_Put k (V0_s_Put k k) a0 a1 a2 := by kernel_rfl
theorem r_s_Put (k : Nat) (a0 : List TItem) (a1 : Int) (a2 : Int) : runX (c_s_Put k) fin_s_Put k 27 [argV (.slice 52 yItem) a0, argV (.int .i64) a1, argV (.int .i64) a2] ms0 = s_Put k a0 a1 a2 := by rw [u_s_Put, show V0_s_Put k k = l0_s_Put k k from (e_s_Put k k).2] <;> rfl
noncomputable def sp_s_Put (k : Nat) : Spec := .imm (.slice 52 yItem) fun (a0 : List TItem) => .imm (.int .i64) fun (a1 : Int) => .imm (.int .i64) fun (a2 : Int) => .body (s_Put k a0 a1 a2) (outV [(.slice 52 yItem)] [true])
noncomputable def c_s_KeyOf (k : Nat) : Cfg := { eqs := [], tab := [(3, (.int .i64)), (34, yEvent)], spec := [(62, sp_s_l01In k)], mspec := [], inl := [(89, Try.f89)], keep := [], join := [], hold := [], ptrs := [], maps := [], fuel := k }
noncomputable def fin_s_KeyOf : VV → Ms → Option Int := finV [(.int .i64)] []
theorem r_s_KeyOf (k : Nat) (a0 : TEvent) : runX (c_s_KeyOf k) fin_s_KeyOf k 89 [argV yEvent a0] ms0 = s_KeyOf k a0 := by kernel_rfl
noncomputable def sp_s_KeyOf (k : Nat) : Spec := .imm yEvent fun (a0 : TEvent) => .body (s_KeyOf k a0) (outV [(.int .i64)] [])
noncomputable def c_s_l11Keys (k : Nat) : Cfg := { eqs := [], tab := [(3, (.int .i64)), (25, (.slice 30 (.slice 52 yItem))), (30, (.slice 52 yItem)), (32, (.slice 3 (.int .i64))), (52, yItem)], spec := [], mspec := [], inl := [(98, Try.f98)], keep := [(9800001003, [0, 3, 4]), (9800001007, [0, 3, 4, 5, 6]), (9800001010, [0, 3, 4, 5, 6, 7])], join := [], hold := [], ptrs := [], maps := [], fuel := k }
noncomputable def fin_s_l11Keys : VV → Ms → Option (List Int) := finV [(.slice 3 (.int .i64))] [true]
noncomputable def V0_s_l11Keys (k n : Nat) (a0 : List (List TItem)) (v1 : Int) (xs2 : List Int) : Option (List Int) := lpN (c_s_l11Keys k) fin_s_l11Keys n true 9800001003 (cd [1, 1, 0, 1, 0, 0] (bo Try.f98)) [.b 0, .s (cd [1, 1, 1] (bo Try.f98)), .fn Try.f98] ⟨⟨(mkT 47 0 [(0, one (.slc 30 (.slice 52 yItem) a0)), (3, one (.row 9000000 none none)), (4, one (.int .i64 v1))]), [(9000000, .row 3 (.int .i64) xs2 true)]⟩, 9800001000, 1, [(0, (mkT 0 0 []))]⟩
noncomputable def V1_s_l11Keys (k n : Nat) (a0 : List (List TItem)) (v1 : Int) (v3 : Bool) (v4 : Int) (xs2 : List Int) : Option (List Int) := lpN (c_s_l11Keys k) fin_s_l11Keys n true 9800001007 (cd [1, 1, 0, 1, 0, 0, 1, 0, 0, 1, 0, 1, 0, 0] (bo Try.f98)) [.b 2, .s (cd [1, 1, 0, 1, 0, 0, 1, 0, 0, 1, 1] (bo Try.f98)), .b 1, .s (cd [1, 1, 0, 1, 0, 0, 1, 1] (bo Try.f98)), .l 9800001003 (cd [1, 1, 0, 1, 0, 0] (bo Try.f98)), .b 0, .s (cd [1, 1, 1] (bo Try.f98)), .fn Try.f98] ⟨⟨(mkT 47 0 [(0, one (.slc 30 (.slice 52 yItem) a0)), (3, one (.row 9000000 none none)), (4, one (.int .i64 v1)), (5, one (.bool v3)), (6, one (.int .i64 v4))]), [(9000000, .row 3 (.int .i64) xs2 true)]⟩, 9800001000, 1, [(0, (mkT 0 0 []))]⟩
noncomputable def V2_s_l11Keys (k n : Nat) (a0 : List (List TItem)) (v1 : Int) (v5 : Bool) (v4 : Int) (v6 : Int) (xs2 : List Int) : Option (List Int) := lpN (c_s_l11Keys k) fin_s_l11Keys n true 9800001010 (cd [1, 1, 0, 1, 0, 0, 1, 0, 0, 1, 0, 1, 0, 0, 1, 0, 0, 1, 0, 0] (bo Try.f98)) [.b 4, .b 3, .s (cd [1, 1, 0, 1, 0, 0, 1, 0, 0, 1, 0, 1, 0, 0, 1, 1] (bo Try.f98)), .l 9800001007 (cd [1, 1, 0, 1, 0, 0, 1, 0, 0, 1, 0, 1, 0, 0] (bo Try.f98)), .b 2, .s (cd [1, 1, 0, 1, 0, 0, 1, 0, 0, 1, 1] (bo Try.f98)), .b 1, .s (cd [1, 1, 0, 1, 0, 0, 1, 1] (bo Try.f98)), .l 9800001003 (cd [1, 1, 0, 1, 0, 0] (bo Try.f98)), .b 0, .s (cd [1, 1, 1] (bo Try.f98)), .fn Try.f98] ⟨⟨(mkT 47 0 [(0, one (.slc 30 (.slice 52 yItem) a0)), (3, one (.row 9000000 none none)), (4, one (.int .i64 v1)), (5, one (.bool v5)), (6, one (.int .i64 v4)), (7, one (.int .i64 v6))]), [(9000000, .row 3 (.int .i64) xs2 true)]⟩, 9800001000, 1, [(0, (mkT 0 0 []))]⟩
theorem t0_s_l11Keys (k n : Nat) (a0 : List (List TItem)) (v1 : Int) (xs2 : List Int) : V0_s_l11Keys k (n + 1) a0 v1 xs2 = b0_s_l11Keys k (V1_s_l11Keys k n) a0 v1 xs2 := by kernel_rfl
theorem t1_s_l11Keys (k n : Nat) (a0 : List (List TItem)) (v1 : Int) (v3 : Bool) (v4 : Int) (xs2 : List Int) : V1_s_l11Keys k (n + 1) a0 v1 v3 v4 xs2 = b1_s_l11Keys k (V2_s_l11Keys k n) (V0_s_l11Keys k n) a0 v1 v3 v4 xs2 := by kernel_rfl
theorem t2_s_l11Keys (k n : Nat) (a0 : List (List TItem)) (v1 : Int) (v5 : Bool) (v4 : Int) (v6 : Int) (xs2 : List Int) : V2_s_l11Keys k (n + 1) a0 v1 v5 v4 v6 xs2 = b2_s_l11Keys k (V2_s_l11Keys k n) (V1_s_l11Keys k n) a0 v1 v5 v4 v6 xs2 := by kernel_rfl
theorem e_s_l11Keys (k : Nat) : ∀ n : Nat, V0_s_l11Keys k n = l0_s_l11Keys k n ∧ V1_s_l11Keys k n = l1_s_l11Keys k n ∧ V2_s_l11Keys k n = l2_s_l11Keys k n
  | 0 => ⟨(by funext a0 v1 xs2; rfl), (by funext a0 v1 v3 v4 xs2; rfl), (by funext a0 v1 v5 v4 v6 xs2; rfl)⟩
  | n + 1 => by
    obtain ⟨h0, h1, h2⟩ := e_s_l11Keys k n
    exact ⟨(by funext a0 v1 xs2; rw [t0_s_l11Keys, h1] <;> rfl), (by funext a0 v1 v3 v4 xs2; rw [t1_s_l11Keys, h2, h0] <;> rfl), (by funext a0 v1 v5 v4 v6 xs2; rw [t2_s_l11Keys, h2, h1] <;> rfl)⟩
theorem u_s_l11Keys (k : Nat) (a0 : List (List TItem)) : runX (c_s_l11Keys k) fin_s_l11Keys k 98 [argV (.slice 30 (.slice 52 yItem)) a0] ms0 = g_s_l11Keys k (V0_s_l11Keys k k) a0 := by kernel_rfl
theorem r_s_l11Keys (k : Nat) (a0 : List (List TItem)) : runX (c_s_l11Keys k) fin_s_l11Keys k 98 [argV (.slice 30 (.slice 52 yItem)) a0] ms0 = s_l11Keys k a0 := by rw [u_s_l11Keys, show V0_s_l11Keys k k = l0_s_l11Keys k k from (e_s_l11Keys k k).1] <;> rfl
noncomputable def sp_s_l11Keys (k : Nat) : Spec := .imm (.slice 30 (.slice 52 yItem)) fun (a0 : List (List TItem)) => .body (s_l11Keys k a0) (outV [(.slice 3 (.int .i64))] [true])
noncomputable def c_s_l11Alike (k : Nat) : Cfg := { eqs := [], tab := [(25, (.slice 30 (.slice 52 yItem))), (30, (.slice 52 yItem))], spec := [(56, sp_s_At k)], mspec := [], inl := [(99, Try.f99)], keep := [(9900001002, [0, 1, 5])], join := [], hold := [], ptrs := [], maps := [], fuel := k }
noncomputable def fin_s_l11Alike : VV → Ms → Option Bool := finV [.bool] []
noncomputable def V0_s_l11Alike (k n : Nat) (a0 : List (List TItem)) (a1 : Int) (v1 : Int) : Option Bool := lpN (c_s_l11Alike k) fin_s_l11Alike n true 9900001002 (cd [1, 0, 1, 0, 0] (bo Try.f99)) [.b 0, .s (cd [1, 1] (bo Try.f99)), .fn Try.f99] ⟨⟨(mkT 24 0 [(0, one (.slc 30 (.slice 52 yItem) a0)), (1, one (.int .i64 a1)), (5, one (.int .i64 v1))]), []⟩, 9900001000, 1, [(0, (mkT 0 0 []))]⟩
theorem t0_s_l11Alike (k n : Nat) (a0 : List (List TItem)) (a1 : Int) (v1 : Int) : V0_s_l11Alike k (n + 1) a0 a1 v1 = b0_s_l11Alike k (V0_s_l11Alike k n) a0 a1 v1 := by kernel_rfl
theorem e_s_l11Alike (k : Nat) : ∀ n : Nat, V0_s_l11Alike k n = l0_s_l11Alike k n
  | 0 => (by funext a0 a1 v1; rfl)
  | n + 1 => by
    obtain h0 := e_s_l11Alike k n
    exact (by funext a0 a1 v1; rw [t0_s_l11Alike, h0] <;> rfl)
theorem u_s_l11Alike (k : Nat) (a0 : List (List TItem)) (a1 : Int) : runX (c_s_l11Alike k) fin_s_l11Alike k 99 [argV (.slice 30 (.slice 52 yItem)) a0, argV (.int .i64) a1] ms0 = g_s_l11Alike k (V0_s_l11Alike k k) a0 a1 := by kernel_rfl
theorem r_s_l11Alike (k : Nat) (a0 : List (List TItem)) (a1 : Int) : runX (c_s_l11Alike k) fin_s_l11Alike k 99 [argV (.slice 30 (.slice 52 yItem)) a0, argV (.int .i64) a1] ms0 = s_l11Alike k a0 a1 := by rw [u_s_l11Alike, show V0_s_l11Alike k k = l0_s_l11Alike k k from (e_s_l11Alike k k)] <;> rfl
noncomputable def sp_s_l11Alike (k : Nat) : Spec := .imm (.slice 30 (.slice 52 yItem)) fun (a0 : List (List TItem)) => .imm (.int .i64) fun (a1 : Int) => .body (s_l11Alike k a0 a1) (outV [.bool] [])
noncomputable def c_s_Agreed (k : Nat) : Cfg := { eqs := [], tab := [(3, (.int .i64)), (25, (.slice 30 (.slice 52 yItem))), (30, (.slice 52 yItem)), (32, (.slice 3 (.int .i64))), (52, yItem)], spec := [(56, sp_s_At k), (98, sp_s_l11Keys k), (99, sp_s_l11Alike k)], mspec := [], inl := [(90, Try.f90)], keep := [(9000001004, [0, 3, 4, 5])], join := [], hold := [], ptrs := [], maps := [], fuel := k }
noncomputable def fin_s_Agreed : VV → Ms → Option (List TItem) := finV [(.slice 52 yItem)] [true]
noncomputable def V0_s_Agreed (k n : Nat) (a0 : List (List TItem)) (v1 : Int) (xs2 : List TItem) (r1 : List Int) : Option (List TItem) := lpN (c_s_Agreed k) fin_s_Agreed n true 9000001004 (cd [1, 1, 1, 0, 1, 0, 0] (bo Try.f90)) [.b 0, .s (cd [1, 1, 1, 1] (bo Try.f90)), .fn Try.f90] ⟨⟨(mkT 38 0 [(0, one (.slc 30 (.slice 52 yItem) a0)), (3, one (.row 9000000 none none)), (4, one (.row 9000001 none none)), (5, one (.int .i64 v1))]), [(9000000, .row 52 yItem xs2 true), (9000001, .row 3 (.int .i64) r1 true)]⟩, 9000001000, 1, [(0, (mkT 0 0 []))]⟩
theorem t0_s_Agreed (k n : Nat) (a0 : List (List TItem)) (v1 : Int) (xs2 : List TItem) (r1 : List Int) : V0_s_Agreed k (n + 1) a0 v1 xs2 r1 = b0_s_Agreed k (V0_s_Agreed k n) a0 v1 xs2 r1 := by kernel_rfl
theorem e_s_Agreed (k : Nat) : ∀ n : Nat, V0_s_Agreed k n = l0_s_Agreed k n
  | 0 => (by funext a0 v1 xs2 r1; rfl)
  | n + 1 => by
    obtain h0 := e_s_Agreed k n
    exact (by funext a0 v1 xs2 r1; rw [t0_s_Agreed, h0] <;> rfl)
theorem u_s_Agreed (k : Nat) (a0 : List (List TItem)) : runX (c_s_Agreed k) fin_s_Agreed k 90 [argV (.slice 30 (.slice 52 yItem)) a0] ms0 = g_s_Agreed k (V0_s_Agreed k k) a0 := by kernel_rfl
theorem r_s_Agreed (k : Nat) (a0 : List (List TItem)) : runX (c_s_Agreed k) fin_s_Agreed k 90 [argV (.slice 30 (.slice 52 yItem)) a0] ms0 = s_Agreed k a0 := by rw [u_s_Agreed, show V0_s_Agreed k k = l0_s_Agreed k k from (e_s_Agreed k k)] <;> rfl
noncomputable def sp_s_Agreed (k : Nat) : Spec := .imm (.slice 30 (.slice 52 yItem)) fun (a0 : List (List TItem)) => .body (s_Agreed k a0) (outV [(.slice 52 yItem)] [true])
noncomputable def c_s_Clash (k : Nat) : Cfg := { eqs := [], tab := [(3, (.int .i64)), (32, (.slice 3 (.int .i64)))], spec := [(98, sp_s_l11Keys k), (99, sp_s_l11Alike k)], mspec := [], inl := [(91, Try.f91)], keep := [(9100001004, [0, 3, 4, 5])], join := [], hold := [], ptrs := [], maps := [], fuel := k }
noncomputable def fin_s_Clash : VV → Ms → Option (List Int) := finV [(.slice 3 (.int .i64))] [true]
noncomputable def V0_s_Clash (k n : Nat) (a0 : List (List TItem)) (v1 : Int) (xs2 : List Int) (r1 : List Int) : Option (List Int) := lpN (c_s_Clash k) fin_s_Clash n true 9100001004 (cd [1, 1, 1, 0, 1, 0, 0] (bo Try.f91)) [.b 0, .s (cd [1, 1, 1, 1] (bo Try.f91)), .fn Try.f91] ⟨⟨(mkT 30 0 [(0, one (.slc 30 (.slice 52 yItem) a0)), (3, one (.row 9000000 none none)), (4, one (.row 9000001 none none)), (5, one (.int .i64 v1))]), [(9000000, .row 3 (.int .i64) xs2 true), (9000001, .row 3 (.int .i64) r1 true)]⟩, 9100001000, 1, [(0, (mkT 0 0 []))]⟩
theorem t0_s_Clash (k n : Nat) (a0 : List (List TItem)) (v1 : Int) (xs2 : List Int) (r1 : List Int) : V0_s_Clash k (n + 1) a0 v1 xs2 r1 = b0_s_Clash k (V0_s_Clash k n) a0 v1 xs2 r1 := by kernel_rfl
theorem e_s_Clash (k : Nat) : ∀ n : Nat, V0_s_Clash k n = l0_s_Clash k n
  | 0 => (by funext a0 v1 xs2 r1; rfl)
  | n + 1 => by
    obtain h0 := e_s_Clash k n
    exact (by funext a0 v1 xs2 r1; rw [t0_s_Clash, h0] <;> rfl)
theorem u_s_Clash (k : Nat) (a0 : List (List TItem)) : runX (c_s_Clash k) fin_s_Clash k 91 [argV (.slice 30 (.slice 52 yItem)) a0] ms0 = g_s_Clash k (V0_s_Clash k k) a0 := by kernel_rfl
theorem r_s_Clash (k : Nat) (a0 : List (List TItem)) : runX (c_s_Clash k) fin_s_Clash k 91 [argV (.slice 30 (.slice 52 yItem)) a0] ms0 = s_Clash k a0 := by rw [u_s_Clash, show V0_s_Clash k k = l0_s_Clash k k from (e_s_Clash k k)] <;> rfl
noncomputable def sp_s_Clash (k : Nat) : Spec := .imm (.slice 30 (.slice 52 yItem)) fun (a0 : List (List TItem)) => .body (s_Clash k a0) (outV [(.slice 3 (.int .i64))] [true])
noncomputable def c_s_Resolve (k : Nat) : Cfg := { eqs := [], tab := [(3, (.int .i64)), (25, (.slice 30 (.slice 52 yItem))), (30, (.slice 52 yItem)), (32, (.slice 3 (.int .i64))), (34, yEvent)], spec := [(13, sp_s_Order k), (20, sp_s_Allowed k), (27, sp_s_Put k), (42, sp_s_l10Find k), (56, sp_s_At k), (89, sp_s_KeyOf k), (90, sp_s_Agreed k), (91, sp_s_Clash k)], mspec := [], inl := [(71, Try.f71)], keep := [(7100001009, [0, 1, 5, 6, 7, 8]), (7100001012, [0, 1, 5, 6, 7, 8, 9]), (7100001019, [0, 5, 11, 12])], join := [], hold := [], ptrs := [], maps := [], fuel := k }
noncomputable def fin_s_Resolve : VV → Ms → Option (List TItem) := finV [(.slice 52 yItem)] [true]
noncomputable def V2_s_Resolve (k n : Nat) (a0 : List TEvent) (v5 : Int) (r1 : List TItem) (r5 : List Int) : Option (List TItem) := lpN (c_s_Resolve k) fin_s_Resolve n true 7100001019 (cd [1, 1, 1, 1, 1, 1, 1, 1, 0, 1, 0, 0] (bo Try.f71)) [.b 4, .s (cd [1, 1, 1, 1, 1, 1, 1, 1, 1] (bo Try.f71)), .fn Try.f71] ⟨⟨(mkT 95 0 [(0, one (.slc 34 yEvent a0)), (5, one (.row 9000000 none none)), (11, one (.row 9000001 none none)), (12, one (.int .i64 v5))]), [(9000000, .row 52 yItem r1 true), (9000001, .row 3 (.int .i64) r5 true)]⟩, 7100001000, 1, [(0, (mkT 0 0 []))]⟩
noncomputable def V0_s_Resolve (k n : Nat) (a0 : List TEvent) (a1 : List (List TItem)) (v1 : Int) (r1 : List TItem) (r2 : List Int) (xs2 : List Int) : Option (List TItem) := lpN (c_s_Resolve k) fin_s_Resolve n true 7100001009 (cd [1, 1, 1, 1, 1, 1, 0, 1, 0, 0] (bo Try.f71)) [.b 0, .s (cd [1, 1, 1, 1, 1, 1, 1] (bo Try.f71)), .fn Try.f71] ⟨⟨(mkT 95 0 [(0, one (.slc 34 yEvent a0)), (1, one (.slc 30 (.slice 52 yItem) a1)), (5, one (.row 9000000 none none)), (6, one (.row 9000001 none none)), (7, one (.row 9000002 none none)), (8, one (.int .i64 v1))]), [(9000000, .row 52 yItem r1 true), (9000001, .row 3 (.int .i64) r2 true), (9000002, .row 3 (.int .i64) xs2 true)]⟩, 7100001000, 1, [(0, (mkT 0 0 []))]⟩
noncomputable def V1_s_Resolve (k n : Nat) (a0 : List TEvent) (a1 : List (List TItem)) (v1 : Int) (v3 : Int) (r1 : List TItem) (r2 : List Int) (xs4 : List Int) : Option (List TItem) := lpN (c_s_Resolve k) fin_s_Resolve n true 7100001012 (cd [1, 1, 1, 1, 1, 1, 0, 1, 0, 0, 1, 0, 0, 1, 0, 0] (bo Try.f71)) [.b 2, .b 1, .s (cd [1, 1, 1, 1, 1, 1, 0, 1, 0, 0, 1, 1] (bo Try.f71)), .l 7100001009 (cd [1, 1, 1, 1, 1, 1, 0, 1, 0, 0] (bo Try.f71)), .b 0, .s (cd [1, 1, 1, 1, 1, 1, 1] (bo Try.f71)), .fn Try.f71] ⟨⟨(mkT 95 0 [(0, one (.slc 34 yEvent a0)), (1, one (.slc 30 (.slice 52 yItem) a1)), (5, one (.row 9000000 none none)), (6, one (.row 9000001 none none)), (7, one (.row 9000002 none none)), (8, one (.int .i64 v1)), (9, one (.int .i64 v3))]), [(9000000, .row 52 yItem r1 true), (9000001, .row 3 (.int .i64) r2 true), (9000002, .row 3 (.int .i64) xs4 true)]⟩, 7100001000, 1, [(0, (mkT 0 0 []))]⟩
theorem t2_s_Resolve (k n : Nat) (a0 : List TEvent) (v5 : Int) (r1 : List TItem) (r5 : List Int) : V2_s_Resolve k (n + 1) a0 v5 r1 r5 = b2_s_Resolve k (V2_s_Resolve k n) a0 v5 r1 r5 := by kernel_rfl
theorem t0_s_Resolve (k n : Nat) (a0 : List TEvent) (a1 : List (List TItem)) (v1 : Int) (r1 : List TItem) (r2 : List Int) (xs2 : List Int) : V0_s_Resolve k (n + 1) a0 a1 v1 r1 r2 xs2 = b0_s_Resolve k (V1_s_Resolve k n) (V2_s_Resolve k n) a0 a1 v1 r1 r2 xs2 := by kernel_rfl
theorem t1_s_Resolve (k n : Nat) (a0 : List TEvent) (a1 : List (List TItem)) (v1 : Int) (v3 : Int) (r1 : List TItem) (r2 : List Int) (xs4 : List Int) : V1_s_Resolve k (n + 1) a0 a1 v1 v3 r1 r2 xs4 = b1_s_Resolve k (V1_s_Resolve k n) (V0_s_Resolve k n) a0 a1 v1 v3 r1 r2 xs4 := by kernel_rfl
theorem e_s_Resolve (k : Nat) : ∀ n : Nat, V2_s_Resolve k n = l2_s_Resolve k n ∧ V0_s_Resolve k n = l0_s_Resolve k n ∧ V1_s_Resolve k n = l1_s_Resolve k n
  | 0 => ⟨(by funext a0 v5 r1 r5; rfl), (by funext a0 a1 v1 r1 r2 xs2; rfl), (by funext a0 a1 v1 v3 r1 r2 xs4; rfl)⟩
  | n + 1 => by
    obtain ⟨h2, h0, h1⟩ := e_s_Resolve k n
    exact ⟨(by funext a0 v5 r1 r5; rw [t2_s_Resolve, h2] <;> rfl), (by funext a0 a1 v1 r1 r2 xs2; rw [t0_s_Resolve, h1, h2] <;> rfl), (by funext a0 a1 v1 v3 r1 r2 xs4; rw [t1_s_Resolve, h1, h0] <;> rfl)⟩
theorem u_s_Resolve (k : Nat) (a0 : List TEvent) (a1 : List (List TItem)) : runX (c_s_Resolve k) fin_s_Resolve k 71 [argV (.slice 34 yEvent) a0, argV (.slice 30 (.slice 52 yItem)) a1] ms0 = g_s_Resolve k (V0_s_Resolve k k) a0 a1 := by kernel_rfl
theorem r_s_Resolve (k : Nat) (a0 : List TEvent) (a1 : List (List TItem)) : runX (c_s_Resolve k) fin_s_Resolve k 71 [argV (.slice 34 yEvent) a0, argV (.slice 30 (.slice 52 yItem)) a1] ms0 = s_Resolve k a0 a1 := by rw [u_s_Resolve, show V0_s_Resolve k k = l0_s_Resolve k k from (e_s_Resolve k k).2.1] <;> rfl
noncomputable def sp_s_Resolve (k : Nat) : Spec := .imm (.slice 34 yEvent) fun (a0 : List TEvent) => .imm (.slice 30 (.slice 52 yItem)) fun (a1 : List (List TItem)) => .body (s_Resolve k a0 a1) (outV [(.slice 52 yItem)] [true])
noncomputable def c_s_l12Before (k : Nat) : Cfg := { eqs := [], tab := [(3, (.int .i64)), (24, (.slice 34 yEvent)), (25, (.slice 30 (.slice 52 yItem))), (28, yRoom), (30, (.slice 52 yItem)), (32, (.slice 3 (.int .i64)))], spec := [(70, sp_s_l12Has k), (71, sp_s_Resolve k)], mspec := [], inl := [(33, Try.f33)], keep := [(3300001003, [1, 2, 6, 7])], join := [], hold := [], ptrs := [], maps := [], fuel := k }
noncomputable def fin_s_l12Before : VV → Ms → Option (List TItem × Bool) := finV [(.slice 52 yItem), .bool] [true]
noncomputable def V0_s_l12Before (k n : Nat) (a1 : List Int) (v1 : Int) (a0 : TRoom) (xs2 : List (List TItem)) : Option (List TItem × Bool) := lpN (c_s_l12Before k) fin_s_l12Before n true 3300001003 (cd [1, 1, 0, 1, 0, 0] (bo Try.f33)) [.b 0, .s (cd [1, 1, 1] (bo Try.f33)), .fn Try.f33] ⟨⟨(mkT 44 0 [(1, one (.slc 3 (.int .i64) a1)), (2, one (.ptr 9000000 0)), (6, one (.row 9000001 none none)), (7, one (.int .i64 v1))]), [(9000000, .box [.slc 34 yEvent a0.1, .slc 30 (.slice 52 yItem) a0.2.1, .slc 4 .bool a0.2.2.1]), (9000001, .row 30 (.slice 52 yItem) xs2 true)]⟩, 3300001000, 1, [(0, (mkT 0 0 []))]⟩
theorem t0_s_l12Before (k n : Nat) (a1 : List Int) (v1 : Int) (a0 : TRoom) (xs2 : List (List TItem)) : V0_s_l12Before k (n + 1) a1 v1 a0 xs2 = b0_s_l12Before k (V0_s_l12Before k n) a1 v1 a0 xs2 := by kernel_rfl
theorem e_s_l12Before (k : Nat) : ∀ n : Nat, V0_s_l12Before k n = l0_s_l12Before k n
  | 0 => (by funext a1 v1 a0 xs2; rfl)
  | n + 1 => by
    obtain h0 := e_s_l12Before k n
    exact (by funext a1 v1 a0 xs2; rw [t0_s_l12Before, h0] <;> rfl)
theorem u_s_l12Before (k : Nat) (a0 : TRoom) (a1 : List Int) : runX (c_s_l12Before k) fin_s_l12Before k 33 [argV yRoom a0, argV (.slice 3 (.int .i64)) a1] ms0 = g_s_l12Before k (V0_s_l12Before k k) a0 a1 := by kernel_rfl
theorem r_s_l12Before (k : Nat) (a0 : TRoom) (a1 : List Int) : runX (c_s_l12Before k) fin_s_l12Before k 33 [argV yRoom a0, argV (.slice 3 (.int .i64)) a1] ms0 = s_l12Before k a0 a1 := by rw [u_s_l12Before, show V0_s_l12Before k k = l0_s_l12Before k k from (e_s_l12Before k k)] <;> rfl
noncomputable def sp_s_l12Before (k : Nat) : Spec := .imm yRoom fun (a0 : TRoom) => .imm (.slice 3 (.int .i64)) fun (a1 : List Int) => .body (s_l12Before k a0 a1) (outV [(.slice 52 yItem), .bool] [true])
noncomputable def c_s_EndsOf (k : Nat) : Cfg := { eqs := [], tab := [(3, (.int .i64)), (24, (.slice 34 yEvent)), (28, yRoom), (32, (.slice 3 (.int .i64))), (34, yEvent)], spec := [(43, sp_s_l11Add k), (45, sp_s_l05In k)], mspec := [], inl := [(34, Try.f34)], keep := [(3400001003, [1, 3, 4]), (3400001007, [1, 3, 4, 5, 6])], join := [], hold := [], ptrs := [], maps := [], fuel := k }
noncomputable def fin_s_EndsOf : VV → Ms → Option (List Int) := finV [(.slice 3 (.int .i64))] [true]
noncomputable def V0_s_EndsOf (k n : Nat) (v1 : Int) (a0 : TRoom) (xs2 : List Int) : Option (List Int) := lpN (c_s_EndsOf k) fin_s_EndsOf n true 3400001003 (cd [1, 1, 0, 1, 0, 0] (bo Try.f34)) [.b 0, .s (cd [1, 1, 1] (bo Try.f34)), .fn Try.f34] ⟨⟨(mkT 49 0 [(1, one (.ptr 9000000 0)), (3, one (.row 9000001 none none)), (4, one (.int .i64 v1))]), [(9000000, .box [.slc 34 yEvent a0.1, .slc 30 (.slice 52 yItem) a0.2.1, .slc 4 .bool a0.2.2.1]), (9000001, .row 3 (.int .i64) xs2 true)]⟩, 3400001000, 1, [(0, (mkT 0 0 []))]⟩
noncomputable def V1_s_EndsOf (k n : Nat) (v1 : Int) (v3 : Bool) (v4 : Int) (a0 : TRoom) (xs2 : List Int) : Option (List Int) := lpN (c_s_EndsOf k) fin_s_EndsOf n true 3400001007 (cd [1, 1, 0, 1, 0, 0, 1, 0, 0, 1, 0, 1, 0, 0] (bo Try.f34)) [.b 2, .s (cd [1, 1, 0, 1, 0, 0, 1, 0, 0, 1, 1] (bo Try.f34)), .b 1, .s (cd [1, 1, 0, 1, 0, 0, 1, 1] (bo Try.f34)), .l 3400001003 (cd [1, 1, 0, 1, 0, 0] (bo Try.f34)), .b 0, .s (cd [1, 1, 1] (bo Try.f34)), .fn Try.f34] ⟨⟨(mkT 49 0 [(1, one (.ptr 9000000 0)), (3, one (.row 9000001 none none)), (4, one (.int .i64 v1)), (5, one (.bool v3)), (6, one (.int .i64 v4))]), [(9000000, .box [.slc 34 yEvent a0.1, .slc 30 (.slice 52 yItem) a0.2.1, .slc 4 .bool a0.2.2.1]), (9000001, .row 3 (.int .i64) xs2 true)]⟩, 3400001000, 1, [(0, (mkT 0 0 []))]⟩
theorem t0_s_EndsOf (k n : Nat) (v1 : Int) (a0 : TRoom) (xs2 : List Int) : V0_s_EndsOf k (n + 1) v1 a0 xs2 = b0_s_EndsOf k (V1_s_EndsOf k n) v1 a0 xs2 := by kernel_rfl
theorem t1_s_EndsOf (k n : Nat) (v1 : Int) (v3 : Bool) (v4 : Int) (a0 : TRoom) (xs2 : List Int) : V1_s_EndsOf k (n + 1) v1 v3 v4 a0 xs2 = b1_s_EndsOf k (V1_s_EndsOf k n) (V0_s_EndsOf k n) v1 v3 v4 a0 xs2 := by kernel_rfl
theorem e_s_EndsOf (k : Nat) : ∀ n : Nat, V0_s_EndsOf k n = l0_s_EndsOf k n ∧ V1_s_EndsOf k n = l1_s_EndsOf k n
  | 0 => ⟨(by funext v1 a0 xs2; rfl), (by funext v1 v3 v4 a0 xs2; rfl)⟩
  | n + 1 => by
    obtain ⟨h0, h1⟩ := e_s_EndsOf k n
    exact ⟨(by funext v1 a0 xs2; rw [t0_s_EndsOf, h1] <;> rfl), (by funext v1 v3 v4 a0 xs2; rw [t1_s_EndsOf, h1, h0] <;> rfl)⟩
theorem u_s_EndsOf (k : Nat) (a0 : TRoom) : runX (c_s_EndsOf k) fin_s_EndsOf k 34 [argV yRoom a0] ms0 = g_s_EndsOf k (V0_s_EndsOf k k) a0 := by kernel_rfl
theorem r_s_EndsOf (k : Nat) (a0 : TRoom) : runX (c_s_EndsOf k) fin_s_EndsOf k 34 [argV yRoom a0] ms0 = s_EndsOf k a0 := by rw [u_s_EndsOf, show V0_s_EndsOf k k = l0_s_EndsOf k k from (e_s_EndsOf k k).1] <;> rfl
noncomputable def sp_s_EndsOf (k : Nat) : Spec := .imm yRoom fun (a0 : TRoom) => .body (s_EndsOf k a0) (outV [(.slice 3 (.int .i64))] [true])
noncomputable def c_s_l01Byte (k : Nat) : Cfg := { eqs := [], tab := [(3, (.int .i64)), (5, (.int .u8)), (22, (.slice 5 (.int .u8))), (83, yL01Cur)], spec := [], mspec := [], inl := [(93, Try.f93)], keep := [], join := [], hold := [], ptrs := [], maps := [], fuel := k }
noncomputable def fin_s_l01Byte : VV → Ms → Option (Int × TL01Cur × Unit) := finM [(.int .i64)] [] [.box yL01Cur]
theorem r_s_l01Byte (k : Nat) (a0 : TL01Cur) : runX (c_s_l01Byte k) fin_s_l01Byte k 93 (pArgsV 1 [.box yL01Cur] (a0, ())) (ms1 [.box yL01Cur] (a0, ())) = s_l01Byte k a0 := by kernel_rfl
noncomputable def sp_s_l01Byte (k : Nat) : MSpec := .box yL01Cur fun (a0 : TL01Cur) => .body (s_l01Byte k a0) (fun r => outV [(.int .i64)] [] r.1) (fun r => poV [.box yL01Cur] r.2)
noncomputable def c_s_l01Below (k : Nat) : Cfg := { eqs := [], tab := [], spec := [], mspec := [(93, sp_s_l01Byte k)], inl := [(78, Try.f78)], keep := [], join := [], hold := [], ptrs := [], maps := [], fuel := k }
noncomputable def fin_s_l01Below : VV → Ms → Option (Int × TL01Cur × Unit) := finM [(.int .i64)] [] [.box yL01Cur, .imm (.int .i64)]
theorem r_s_l01Below (k : Nat) (a0 : TL01Cur) (a1 : Int) : runX (c_s_l01Below k) fin_s_l01Below k 78 (pArgsV 1 [.box yL01Cur, .imm (.int .i64)] (a0, a1, ())) (ms1 [.box yL01Cur, .imm (.int .i64)] (a0, a1, ())) = s_l01Below k a0 a1 := by kernel_rfl
noncomputable def sp_s_l01Below (k : Nat) : MSpec := .box yL01Cur fun (a0 : TL01Cur) => .imm (.int .i64) fun (a1 : Int) => .body (s_l01Below k a0 a1) (fun r => outV [(.int .i64)] [] r.1) (fun r => poV [.box yL01Cur, .imm (.int .i64)] r.2)
noncomputable def c_s_l01PickInt (k : Nat) : Cfg := { eqs := [], tab := [(3, (.int .i64)), (32, (.slice 3 (.int .i64)))], spec := [], mspec := [(78, sp_s_l01Below k)], inl := [(64, Try.f64)], keep := [], join := [], hold := [], ptrs := [], maps := [], fuel := k }
noncomputable def fin_s_l01PickInt : VV → Ms → Option (Int × TL01Cur × Unit) := finM [(.int .i64)] [] [.box yL01Cur, .imm (.slice 3 (.int .i64))]
theorem r_s_l01PickInt (k : Nat) (a0 : TL01Cur) (a1 : List Int) : runX (c_s_l01PickInt k) fin_s_l01PickInt k 64 (pArgsV 1 [.box yL01Cur, .imm (.slice 3 (.int .i64))] (a0, a1, ())) (ms1 [.box yL01Cur, .imm (.slice 3 (.int .i64))] (a0, a1, ())) = s_l01PickInt k a0 a1 := by kernel_rfl
noncomputable def sp_s_l01PickInt (k : Nat) : MSpec := .box yL01Cur fun (a0 : TL01Cur) => .imm (.slice 3 (.int .i64)) fun (a1 : List Int) => .body (s_l01PickInt k a0 a1) (fun r => outV [(.int .i64)] [] r.1) (fun r => poV [.box yL01Cur, .imm (.slice 3 (.int .i64))] r.2)
noncomputable def c_s_l01Once (k : Nat) : Cfg := { eqs := [], tab := [], spec := [], mspec := [(78, sp_s_l01Below k)], inl := [(77, Try.f77)], keep := [], join := [], hold := [], ptrs := [], maps := [], fuel := k }
noncomputable def fin_s_l01Once : VV → Ms → Option (Bool × TL01Cur × Unit) := finM [.bool] [] [.box yL01Cur, .imm (.int .i64)]
theorem r_s_l01Once (k : Nat) (a0 : TL01Cur) (a1 : Int) : runX (c_s_l01Once k) fin_s_l01Once k 77 (pArgsV 1 [.box yL01Cur, .imm (.int .i64)] (a0, a1, ())) (ms1 [.box yL01Cur, .imm (.int .i64)] (a0, a1, ())) = s_l01Once k a0 a1 := by kernel_rfl
noncomputable def sp_s_l01Once (k : Nat) : MSpec := .box yL01Cur fun (a0 : TL01Cur) => .imm (.int .i64) fun (a1 : Int) => .body (s_l01Once k a0 a1) (fun r => outV [.bool] [] r.1) (fun r => poV [.box yL01Cur, .imm (.int .i64)] r.2)
noncomputable def c_s_l01Pick (k : Nat) : Cfg := { eqs := [], tab := [(9, .str), (100, (.slice 9 .str))], spec := [], mspec := [(78, sp_s_l01Below k)], inl := [(92, Try.f92)], keep := [], join := [], hold := [], ptrs := [], maps := [], fuel := k }
noncomputable def fin_s_l01Pick : VV → Ms → Option (ByteArray × TL01Cur × Unit) := finM [.str] [] [.box yL01Cur, .imm (.slice 9 .str)]
theorem r_s_l01Pick (k : Nat) (a0 : TL01Cur) (a1 : List ByteArray) : runX (c_s_l01Pick k) fin_s_l01Pick k 92 (pArgsV 1 [.box yL01Cur, .imm (.slice 9 .str)] (a0, a1, ())) (ms1 [.box yL01Cur, .imm (.slice 9 .str)] (a0, a1, ())) = s_l01Pick k a0 a1 := by kernel_rfl
noncomputable def sp_s_l01Pick (k : Nat) : MSpec := .box yL01Cur fun (a0 : TL01Cur) => .imm (.slice 9 .str) fun (a1 : List ByteArray) => .body (s_l01Pick k a0 a1) (fun r => outV [.str] [] r.1) (fun r => poV [.box yL01Cur, .imm (.slice 9 .str)] r.2)
noncomputable def c_s_l09Bodied (k : Nat) : Cfg := { eqs := [], tab := [(3, (.int .i64)), (9, .str), (32, (.slice 3 (.int .i64))), (34, yEvent), (100, (.slice 9 .str))], spec := [], mspec := [(64, sp_s_l01PickInt k), (77, sp_s_l01Once k), (78, sp_s_l01Below k), (92, sp_s_l01Pick k)], inl := [(76, Try.f76)], keep := [(7600001012, [0, 2, 3, 4])], join := [], hold := [(7600001012, [(3, [0, 5], 3, (.int .i64), false, false)])], ptrs := [], maps := [], fuel := k }
noncomputable def fin_s_l09Bodied : VV → Ms → Option (TEvent × TL01Cur × Unit) := finM [yEvent] [true, true] [.box yL01Cur]
noncomputable def V0_s_l09Bodied (k n : Nat) (v1 : Int) (v2 : List Int) (v3 : Int) (v4 : Int) (r1 : Int × TL01Cur × Unit) (r2 : Int × TL01Cur × Unit) (xs5 : List Int) : Option (TEvent × TL01Cur × Unit) := lpN (c_s_l09Bodied k) fin_s_l09Bodied n true 7600001012 (cd [1, 1, 0, 1, 0, 1, 1, 1, 0, 0, 1, 0, 0] (bo Try.f76)) [.b 1, .s (cd [1, 1, 0, 1, 0, 1, 1, 1, 0, 1] (bo Try.f76)), .b 0, .s (cd [1, 1, 1] (bo Try.f76)), .fn Try.f76] ⟨⟨(mkT 67 0 [(0, one (.ptr 9000000 0)), (2, one (.ptr 9000001 0)), (3, one (.ptr 9000002 0)), (4, one (.int .i64 v1))]), [(9000000, .box [.slc 5 (.int .u8) v2, .int .i64 v3, .int .i64 v4]), (9000001, .box [.int .i64 0, .int .i64 0, .int .i64 0, .int .i64 0, .int .i64 0, .nilS, .str ByteArray.empty, .nilS, .int .i64 0]), (9000002, .box [.int .i64 0, .int .i64 r1.1, .int .i64 (w64 (1 + r2.1)), .int .i64 0, .int .i64 0, .row 9000003 none none, .str ByteArray.empty, .nilS, .int .i64 0]), (9000003, .row 3 (.int .i64) xs5 true)]⟩, 7600001000, 1, [(0, (mkT 1 0 [(0, one (.ptr 9000000 0))]))]⟩
theorem t0_s_l09Bodied (k n : Nat) (v1 : Int) (v2 : List Int) (v3 : Int) (v4 : Int) (r1 : Int × TL01Cur × Unit) (r2 : Int × TL01Cur × Unit) (xs5 : List Int) : V0_s_l09Bodied k (n + 1) v1 v2 v3 v4 r1 r2 xs5 = b0_s_l09Bodied k (V0_s_l09Bodied k n) v1 v2 v3 v4 r1 r2 xs5 := by kernel_rfl
theorem e_s_l09Bodied (k : Nat) : ∀ n : Nat, V0_s_l09Bodied k n = l0_s_l09Bodied k n
  | 0 => (by funext v1 v2 v3 v4 r1 r2 xs5; rfl)
  | n + 1 => by
    obtain h0 := e_s_l09Bodied k n
    exact (by funext v1 v2 v3 v4 r1 r2 xs5; rw [t0_s_l09Bodied, h0] <;> rfl)
theorem u_s_l09Bodied (k : Nat) (a0 : TL01Cur) : runX (c_s_l09Bodied k) fin_s_l09Bodied k 76 (pArgsV 1 [.box yL01Cur] (a0, ())) (ms1 [.box yL01Cur] (a0, ())) = g_s_l09Bodied k (V0_s_l09Bodied k k) a0 := by kernel_rfl
theorem r_s_l09Bodied (k : Nat) (a0 : TL01Cur) : runX (c_s_l09Bodied k) fin_s_l09Bodied k 76 (pArgsV 1 [.box yL01Cur] (a0, ())) (ms1 [.box yL01Cur] (a0, ())) = s_l09Bodied k a0 := by rw [u_s_l09Bodied, show V0_s_l09Bodied k k = l0_s_l09Bodied k k from (e_s_l09Bodied k k)] <;> rfl
noncomputable def sp_s_l09Bodied (k : Nat) : MSpec := .box yL01Cur fun (a0 : TL01Cur) => .body (s_l09Bodied k a0) (fun r => outV [yEvent] [true, true] r.1) (fun r => poV [.box yL01Cur] r.2)
noncomputable def c_s_DepthOf (k : Nat) : Cfg := { eqs := [], tab := [(3, (.int .i64)), (24, (.slice 34 yEvent)), (28, yRoom), (32, (.slice 3 (.int .i64))), (34, yEvent)], spec := [(70, sp_s_l12Has k)], mspec := [], inl := [(79, Try.f79)], keep := [(7900001003, [1, 2, 5, 6])], join := [], hold := [], ptrs := [], maps := [], fuel := k }
noncomputable def fin_s_DepthOf : VV → Ms → Option Int := finV [(.int .i64)] []
noncomputable def V0_s_DepthOf (k n : Nat) (a1 : List Int) (v1 : Int) (v2 : Int) (a0 : TRoom) : Option Int := lpN (c_s_DepthOf k) fin_s_DepthOf n true 7900001003 (cd [1, 1, 0, 1, 0, 0] (bo Try.f79)) [.b 0, .s (cd [1, 1, 1] (bo Try.f79)), .fn Try.f79] ⟨⟨(mkT 42 0 [(1, one (.slc 3 (.int .i64) a1)), (2, one (.ptr 9000000 0)), (5, one (.int .i64 v1)), (6, one (.int .i64 v2))]), [(9000000, .box [.slc 34 yEvent a0.1, .slc 30 (.slice 52 yItem) a0.2.1, .slc 4 .bool a0.2.2.1])]⟩, 7900001000, 1, [(0, (mkT 0 0 []))]⟩
theorem t0_s_DepthOf (k n : Nat) (a1 : List Int) (v1 : Int) (v2 : Int) (a0 : TRoom) : V0_s_DepthOf k (n + 1) a1 v1 v2 a0 = b0_s_DepthOf k (V0_s_DepthOf k n) a1 v1 v2 a0 := by kernel_rfl
theorem e_s_DepthOf (k : Nat) : ∀ n : Nat, V0_s_DepthOf k n = l0_s_DepthOf k n
  | 0 => (by funext a1 v1 v2 a0; rfl)
  | n + 1 => by
    obtain h0 := e_s_DepthOf k n
    exact (by funext a1 v1 v2 a0; rw [t0_s_DepthOf, h0] <;> rfl)
theorem u_s_DepthOf (k : Nat) (a0 : TRoom) (a1 : List Int) : runX (c_s_DepthOf k) fin_s_DepthOf k 79 [argV yRoom a0, argV (.slice 3 (.int .i64)) a1] ms0 = g_s_DepthOf k (V0_s_DepthOf k k) a0 a1 := by kernel_rfl
theorem r_s_DepthOf (k : Nat) (a0 : TRoom) (a1 : List Int) : runX (c_s_DepthOf k) fin_s_DepthOf k 79 [argV yRoom a0, argV (.slice 3 (.int .i64)) a1] ms0 = s_DepthOf k a0 a1 := by rw [u_s_DepthOf, show V0_s_DepthOf k k = l0_s_DepthOf k k from (e_s_DepthOf k k)] <;> rfl
noncomputable def sp_s_DepthOf (k : Nat) : Spec := .imm yRoom fun (a0 : TRoom) => .imm (.slice 3 (.int .i64)) fun (a1 : List Int) => .body (s_DepthOf k a0 a1) (outV [(.int .i64)] [])
noncomputable def c_s_l12Next (k : Nat) : Cfg := { eqs := [], tab := [(3, (.int .i64)), (24, (.slice 34 yEvent)), (28, yRoom), (32, (.slice 3 (.int .i64))), (34, yEvent)], spec := [(20, sp_s_Allowed k), (33, sp_s_l12Before k), (34, sp_s_EndsOf k), (79, sp_s_DepthOf k)], mspec := [(76, sp_s_l09Bodied k), (77, sp_s_l01Once k), (78, sp_s_l01Below k)], inl := [(50, Try.f50)], keep := [(5000001008, [0, 2, 4, 6, 7, 8, 9, 10]), (5000001018, [0, 2, 4, 6, 7, 11, 13])], join := [], hold := [], ptrs := [], maps := [], fuel := k }
noncomputable def fin_s_l12Next : VV → Ms → Option (TEvent × TL01Cur × Unit) := finM [yEvent] [true, true] [.box yL01Cur, .imm yRoom, .imm (.int .i64)]
noncomputable def V1_s_l12Next (k n : Nat) (a2 : Int) (v6 : Int) (v7 : List Int) (v8 : Int) (v9 : Int) (a1 : TRoom) (v10 : Int) (v11 : Int) (v12 : Int) (v13 : Int) (v14 : ByteArray) (r6 : Int) (xs15 : List TItem) (xs16 : List Int) (xs17 : List Int) : Option (TEvent × TL01Cur × Unit) := lpN (c_s_l12Next k) fin_s_l12Next n true 5000001018 (cd [1, 1, 1, 1, 1, 1, 1, 1, 1, 1, 1, 0, 1, 0, 0] (bo Try.f50)) [.b 2, .s (cd [1, 1, 1, 1, 1, 1, 1, 1, 1, 1, 1, 1] (bo Try.f50)), .fn Try.f50] ⟨⟨(mkT 130 0 [(0, one (.ptr 9000000 0)), (2, one (.int .i64 a2)), (4, one (.ptr 9000001 0)), (6, one (.ptr 9000002 0)), (7, one (.ptr 9000003 0)), (11, one (.row 9000004 none none)), (13, one (.int .i64 v6))]), [(9000000, .box [.slc 5 (.int .u8) v7, .int .i64 v8, .int .i64 v9]), (9000001, .box [.slc 34 yEvent a1.1, .slc 30 (.slice 52 yItem) a1.2.1, .slc 4 .bool a1.2.2.1]), (9000002, .box [.int .i64 0, .int .i64 0, .int .i64 0, .int .i64 0, .int .i64 0, .nilS, .str ByteArray.empty, .nilS, .int .i64 0]), (9000003, .box [.int .i64 a2, .int .i64 v10, .int .i64 v11, .int .i64 v12, .int .i64 v13, .row 9000005 none none, .str v14, .row 9000006 none none, .int .i64 r6]), (9000004, .row 52 yItem xs15 true), (9000005, .row 3 (.int .i64) xs16 true), (9000006, .row 3 (.int .i64) xs17 true)]⟩, 5000001000, 1, [(0, (mkT 3 0 [(0, one (.ptr 9000000 0))]))]⟩
noncomputable def V0_s_l12Next (k n : Nat) (a2 : Int) (v1 : Int) (v2 : List Int) (v3 : Int) (v4 : Int) (a1 : TRoom) (r1 : TEvent × TL01Cur × Unit) (r2 : List Int) (xs5 : List Int) : Option (TEvent × TL01Cur × Unit) := lpN (c_s_l12Next k) fin_s_l12Next n true 5000001008 (cd [1, 1, 1, 1, 1, 1, 0, 1, 0, 0] (bo Try.f50)) [.b 0, .s (cd [1, 1, 1, 1, 1, 1, 1] (bo Try.f50)), .fn Try.f50] ⟨⟨(mkT 130 0 [(0, one (.ptr 9000000 0)), (2, one (.int .i64 a2)), (4, one (.ptr 9000001 0)), (6, one (.ptr 9000002 0)), (7, one (.ptr 9000003 0)), (8, one (.row 9000004 none none)), (9, one (.row 9000005 none none)), (10, one (.int .i64 v1))]), [(9000000, .box [.slc 5 (.int .u8) v2, .int .i64 v3, .int .i64 v4]), (9000001, .box [.slc 34 yEvent a1.1, .slc 30 (.slice 52 yItem) a1.2.1, .slc 4 .bool a1.2.2.1]), (9000002, .box [.int .i64 0, .int .i64 0, .int .i64 0, .int .i64 0, .int .i64 0, .nilS, .str ByteArray.empty, .nilS, .int .i64 0]), (9000003, .box [.int .i64 a2, .int .i64 r1.1.2.1, .int .i64 r1.1.2.2.1, .int .i64 r1.1.2.2.2.1, .int .i64 r1.1.2.2.2.2.1, .row 9000006 none none, .str r1.1.2.2.2.2.2.2.1, .row 9000007 none none, .int .i64 r1.1.2.2.2.2.2.2.2.2.1]), (9000004, .row 3 (.int .i64) r2 true), (9000005, .row 3 (.int .i64) xs5 true), (9000006, .row 3 (.int .i64) r1.1.2.2.2.2.2.1 true), (9000007, .row 3 (.int .i64) r1.1.2.2.2.2.2.2.2.1 true)]⟩, 5000001000, 1, [(0, (mkT 3 0 [(0, one (.ptr 9000000 0))]))]⟩
theorem t1_s_l12Next (k n : Nat) (a2 : Int) (v6 : Int) (v7 : List Int) (v8 : Int) (v9 : Int) (a1 : TRoom) (v10 : Int) (v11 : Int) (v12 : Int) (v13 : Int) (v14 : ByteArray) (r6 : Int) (xs15 : List TItem) (xs16 : List Int) (xs17 : List Int) : V1_s_l12Next k (n + 1) a2 v6 v7 v8 v9 a1 v10 v11 v12 v13 v14 r6 xs15 xs16 xs17 = b1_s_l12Next k (V1_s_l12Next k n) a2 v6 v7 v8 v9 a1 v10 v11 v12 v13 v14 r6 xs15 xs16 xs17 := by kernel_rfl
theorem t0_s_l12Next (k n : Nat) (a2 : Int) (v1 : Int) (v2 : List Int) (v3 : Int) (v4 : Int) (a1 : TRoom) (r1 : TEvent × TL01Cur × Unit) (r2 : List Int) (xs5 : List Int) : V0_s_l12Next k (n + 1) a2 v1 v2 v3 v4 a1 r1 r2 xs5 = b0_s_l12Next k (V0_s_l12Next k n) (V1_s_l12Next k n) a2 v1 v2 v3 v4 a1 r1 r2 xs5 := by kernel_rfl
theorem e_s_l12Next (k : Nat) : ∀ n : Nat, V1_s_l12Next k n = l1_s_l12Next k n ∧ V0_s_l12Next k n = l0_s_l12Next k n
  | 0 => ⟨(by funext a2 v6 v7 v8 v9 a1 v10 v11 v12 v13 v14 r6 xs15 xs16 xs17; rfl), (by funext a2 v1 v2 v3 v4 a1 r1 r2 xs5; rfl)⟩
  | n + 1 => by
    obtain ⟨h1, h0⟩ := e_s_l12Next k n
    exact ⟨(by funext a2 v6 v7 v8 v9 a1 v10 v11 v12 v13 v14 r6 xs15 xs16 xs17; rw [t1_s_l12Next, h1] <;> rfl), (by funext a2 v1 v2 v3 v4 a1 r1 r2 xs5; rw [t0_s_l12Next, h0, h1] <;> rfl)⟩
theorem u_s_l12Next (k : Nat) (a0 : TL01Cur) (a1 : TRoom) (a2 : Int) : runX (c_s_l12Next k) fin_s_l12Next k 50 (pArgsV 1 [.box yL01Cur, .imm yRoom, .imm (.int .i64)] (a0, a1, a2, ())) (ms1 [.box yL01Cur, .imm yRoom, .imm (.int .i64)] (a0, a1, a2, ())) = g_s_l12Next k (V0_s_l12Next k k) a0 a1 a2 := by kernel_rfl
theorem r_s_l12Next (k : Nat) (a0 : TL01Cur) (a1 : TRoom) (a2 : Int) : runX (c_s_l12Next k) fin_s_l12Next k 50 (pArgsV 1 [.box yL01Cur, .imm yRoom, .imm (.int .i64)] (a0, a1, a2, ())) (ms1 [.box yL01Cur, .imm yRoom, .imm (.int .i64)] (a0, a1, a2, ())) = s_l12Next k a0 a1 a2 := by rw [u_s_l12Next, show V0_s_l12Next k k = l0_s_l12Next k k from (e_s_l12Next k k).2] <;> rfl
noncomputable def sp_s_l12Next (k : Nat) : MSpec := .box yL01Cur fun (a0 : TL01Cur) => .imm yRoom fun (a1 : TRoom) => .imm (.int .i64) fun (a2 : Int) => .body (s_l12Next k a0 a1 a2) (fun r => outV [yEvent] [true, true] r.1) (fun r => poV [.box yL01Cur, .imm yRoom, .imm (.int .i64)] r.2)
noncomputable def c_s_l12Size (k : Nat) : Cfg := { eqs := [], tab := [(22, (.slice 5 (.int .u8)))], spec := [], mspec := [], inl := [(67, Try.f67)], keep := [], join := [], hold := [], ptrs := [], maps := [], fuel := k }
noncomputable def fin_s_l12Size : VV → Ms → Option Int := finV [(.int .i64)] []
theorem r_s_l12Size (k : Nat) (a0 : List Int) : runX (c_s_l12Size k) fin_s_l12Size k 67 [argV (.slice 5 (.int .u8)) a0] ms0 = s_l12Size k a0 := by kernel_rfl
noncomputable def sp_s_l12Size (k : Nat) : Spec := .imm (.slice 5 (.int .u8)) fun (a0 : List Int) => .body (s_l12Size k a0) (outV [(.int .i64)] [])
noncomputable def c_s_l12Add (k : Nat) : Cfg := { eqs := [], tab := [(3, (.int .i64)), (24, (.slice 34 yEvent)), (25, (.slice 30 (.slice 52 yItem))), (26, (.slice 4 .bool)), (28, yRoom), (32, (.slice 3 (.int .i64))), (34, yEvent)], spec := [(20, sp_s_Allowed k), (27, sp_s_Put k), (33, sp_s_l12Before k), (55, sp_s_EventOk k), (70, sp_s_l12Has k), (79, sp_s_DepthOf k), (89, sp_s_KeyOf k)], mspec := [], inl := [(68, Try.f68)], keep := [], join := [], hold := [], ptrs := [], maps := [], fuel := k }
noncomputable def fin_s_l12Add : VV → Ms → Option (TRoom × Bool) := finV [yRoom, .bool] [true, true, true]
theorem r_s_l12Add (k : Nat) (a0 : TRoom) (a1 : TEvent) : runX (c_s_l12Add k) fin_s_l12Add k 68 [argV yRoom a0, argV yEvent a1] ms0 = s_l12Add k a0 a1 := by kernel_rfl
noncomputable def sp_s_l12Add (k : Nat) : Spec := .imm yRoom fun (a0 : TRoom) => .imm yEvent fun (a1 : TEvent) => .body (s_l12Add k a0 a1) (outV [yRoom, .bool] [true, true, true])
noncomputable def c_s_l09Copy (k : Nat) : Cfg := { eqs := [], tab := [(32, (.slice 3 (.int .i64))), (34, yEvent)], spec := [], mspec := [], inl := [(48, Try.f48)], keep := [], join := [], hold := [], ptrs := [], maps := [], fuel := k }
noncomputable def fin_s_l09Copy : VV → Ms → Option TEvent := finV [yEvent] [true, true]
theorem r_s_l09Copy (k : Nat) (a0 : TEvent) : runX (c_s_l09Copy k) fin_s_l09Copy k 48 [argV yEvent a0] ms0 = s_l09Copy k a0 := by kernel_rfl
noncomputable def sp_s_l09Copy (k : Nat) : Spec := .imm yEvent fun (a0 : TEvent) => .body (s_l09Copy k a0) (outV [yEvent] [true, true])
noncomputable def c_s_l09CopyList (k : Nat) : Cfg := { eqs := [], tab := [(24, (.slice 34 yEvent)), (34, yEvent)], spec := [(48, sp_s_l09Copy k)], mspec := [], inl := [(86, Try.f86)], keep := [(8600001003, [0, 3, 4])], join := [], hold := [], ptrs := [], maps := [], fuel := k }
noncomputable def fin_s_l09CopyList : VV → Ms → Option (List TEvent) := finV [(.slice 34 yEvent)] [true]
noncomputable def V0_s_l09CopyList (k n : Nat) (a0 : List TEvent) (v1 : Int) (xs2 : List TEvent) : Option (List TEvent) := lpN (c_s_l09CopyList k) fin_s_l09CopyList n true 8600001003 (cd [1, 1, 0, 1, 0, 0] (bo Try.f86)) [.b 0, .s (cd [1, 1, 1] (bo Try.f86)), .fn Try.f86] ⟨⟨(mkT 21 0 [(0, one (.slc 34 yEvent a0)), (3, one (.row 9000000 none none)), (4, one (.int .i64 v1))]), [(9000000, .row 34 yEvent xs2 true)]⟩, 8600001000, 1, [(0, (mkT 0 0 []))]⟩
theorem t0_s_l09CopyList (k n : Nat) (a0 : List TEvent) (v1 : Int) (xs2 : List TEvent) : V0_s_l09CopyList k (n + 1) a0 v1 xs2 = b0_s_l09CopyList k (V0_s_l09CopyList k n) a0 v1 xs2 := by kernel_rfl
theorem e_s_l09CopyList (k : Nat) : ∀ n : Nat, V0_s_l09CopyList k n = l0_s_l09CopyList k n
  | 0 => (by funext a0 v1 xs2; rfl)
  | n + 1 => by
    obtain h0 := e_s_l09CopyList k n
    exact (by funext a0 v1 xs2; rw [t0_s_l09CopyList, h0] <;> rfl)
theorem u_s_l09CopyList (k : Nat) (a0 : List TEvent) : runX (c_s_l09CopyList k) fin_s_l09CopyList k 86 [argV (.slice 34 yEvent) a0] ms0 = g_s_l09CopyList k (V0_s_l09CopyList k k) a0 := by kernel_rfl
theorem r_s_l09CopyList (k : Nat) (a0 : List TEvent) : runX (c_s_l09CopyList k) fin_s_l09CopyList k 86 [argV (.slice 34 yEvent) a0] ms0 = s_l09CopyList k a0 := by rw [u_s_l09CopyList, show V0_s_l09CopyList k k = l0_s_l09CopyList k k from (e_s_l09CopyList k k)] <;> rfl
noncomputable def sp_s_l09CopyList (k : Nat) : Spec := .imm (.slice 34 yEvent) fun (a0 : List TEvent) => .body (s_l09CopyList k a0) (outV [(.slice 34 yEvent)] [true])
noncomputable def c_s_l12Copy (k : Nat) : Cfg := { eqs := [], tab := [(24, (.slice 34 yEvent)), (25, (.slice 30 (.slice 52 yItem))), (26, (.slice 4 .bool)), (28, yRoom), (30, (.slice 52 yItem))], spec := [(86, sp_s_l09CopyList k)], mspec := [], inl := [(69, Try.f69)], keep := [(6900001003, [1, 2, 3, 4])], join := [], hold := [(6900001003, [(3, [0, 1], 30, (.slice 52 yItem), false, false)])], ptrs := [], maps := [], fuel := k }
noncomputable def fin_s_l12Copy : VV → Ms → Option TRoom := finV [yRoom] [true, true, true]
noncomputable def V0_s_l12Copy (k n : Nat) (v1 : Int) (a0 : TRoom) (r1 : List TEvent) (xs2 : List (List TItem)) : Option TRoom := lpN (c_s_l12Copy k) fin_s_l12Copy n true 6900001003 (cd [1, 1, 0, 1, 0, 0] (bo Try.f69)) [.b 0, .s (cd [1, 1, 1] (bo Try.f69)), .fn Try.f69] ⟨⟨(mkT 33 0 [(1, one (.ptr 9000000 0)), (2, one (.ptr 9000001 0)), (3, one (.ptr 9000002 0)), (4, one (.int .i64 v1))]), [(9000000, .box [.slc 34 yEvent a0.1, .slc 30 (.slice 52 yItem) a0.2.1, .slc 4 .bool a0.2.2.1]), (9000001, .box [.nilS, .nilS, .nilS]), (9000002, .box [.row 9000003 none none, .row 9000004 none none, .row 9000005 none none]), (9000003, .row 34 yEvent r1 true), (9000004, .row 30 (.slice 52 yItem) xs2 true), (9000005, .row 4 .bool (([] : List Bool) ++ a0.2.2.1) true)]⟩, 6900001000, 1, [(0, (mkT 0 0 []))]⟩
theorem t0_s_l12Copy (k n : Nat) (v1 : Int) (a0 : TRoom) (r1 : List TEvent) (xs2 : List (List TItem)) : V0_s_l12Copy k (n + 1) v1 a0 r1 xs2 = b0_s_l12Copy k (V0_s_l12Copy k n) v1 a0 r1 xs2 := by kernel_rfl
theorem e_s_l12Copy (k : Nat) : ∀ n : Nat, V0_s_l12Copy k n = l0_s_l12Copy k n
  | 0 => (by funext v1 a0 r1 xs2; rfl)
  | n + 1 => by
    obtain h0 := e_s_l12Copy k n
    exact (by funext v1 a0 r1 xs2; rw [t0_s_l12Copy, h0] <;> rfl)
theorem u_s_l12Copy (k : Nat) (a0 : TRoom) : runX (c_s_l12Copy k) fin_s_l12Copy k 69 [argV yRoom a0] ms0 = g_s_l12Copy k (V0_s_l12Copy k k) a0 := by kernel_rfl
theorem r_s_l12Copy (k : Nat) (a0 : TRoom) : runX (c_s_l12Copy k) fin_s_l12Copy k 69 [argV yRoom a0] ms0 = s_l12Copy k a0 := by rw [u_s_l12Copy, show V0_s_l12Copy k k = l0_s_l12Copy k k from (e_s_l12Copy k k)] <;> rfl
noncomputable def sp_s_l12Copy (k : Nat) : Spec := .imm yRoom fun (a0 : TRoom) => .body (s_l12Copy k a0) (outV [yRoom] [true, true, true])
noncomputable def c_s_l12Room (k : Nat) : Cfg := { eqs := [], tab := [(28, yRoom)], spec := [(67, sp_s_l12Size k), (68, sp_s_l12Add k), (69, sp_s_l12Copy k)], mspec := [(50, sp_s_l12Next k)], inl := [(31, Try.f31)], keep := [(3100001003, [0, 1, 4, 5, 6])], join := [], hold := [(3100001003, [(5, [0, 0], 34, yEvent, true, false), (5, [0, 1], 30, (.slice 52 yItem), true, false), (5, [0, 2], 4, .bool, true, false)])], ptrs := [], maps := [], fuel := k }
noncomputable def fin_s_l12Room : VV → Ms → Option (TRoom × TL01Cur × Unit) := finM [yRoom] [true, true, true] [.box yL01Cur, .imm (.slice 5 (.int .u8))]
noncomputable def V0_s_l12Room (k n : Nat) (a1 : List Int) (v1 : Int) (v2 : List Int) (v3 : Int) (v4 : Int) (xs5 : List TEvent) (xs6 : List (List TItem)) (xs7 : List Bool) : Option (TRoom × TL01Cur × Unit) := lpN (c_s_l12Room k) fin_s_l12Room n true 3100001003 (cd [1, 1, 0, 1, 0, 0] (bo Try.f31)) [.b 0, .s (cd [1, 1, 1] (bo Try.f31)), .fn Try.f31] ⟨⟨(mkT 30 0 [(0, one (.ptr 9000000 0)), (1, one (.slc 5 (.int .u8) a1)), (4, one (.ptr 9000001 0)), (5, one (.ptr 9000002 0)), (6, one (.int .i64 v1))]), [(9000000, .box [.slc 5 (.int .u8) v2, .int .i64 v3, .int .i64 v4]), (9000001, .box [.nilS, .nilS, .nilS]), (9000002, .box [.row 9000003 none none, .row 9000004 none none, .row 9000005 none none]), (9000003, .row 34 yEvent xs5 false), (9000004, .row 30 (.slice 52 yItem) xs6 false), (9000005, .row 4 .bool xs7 false)]⟩, 3100001000, 1, [(0, (mkT 2 0 [(0, one (.ptr 9000000 0))]))]⟩
theorem t0_s_l12Room (k n : Nat) (a1 : List Int) (v1 : Int) (v2 : List Int) (v3 : Int) (v4 : Int) (xs5 : List TEvent) (xs6 : List (List TItem)) (xs7 : List Bool) : V0_s_l12Room k (n + 1) a1 v1 v2 v3 v4 xs5 xs6 xs7 = b0_s_l12Room k (V0_s_l12Room k n) a1 v1 v2 v3 v4 xs5 xs6 xs7 := by kernel_rfl
theorem e_s_l12Room (k : Nat) : ∀ n : Nat, V0_s_l12Room k n = l0_s_l12Room k n
  | 0 => (by funext a1 v1 v2 v3 v4 xs5 xs6 xs7; rfl)
  | n + 1 => by
    obtain h0 := e_s_l12Room k n
    exact (by funext a1 v1 v2 v3 v4 xs5 xs6 xs7; rw [t0_s_l12Room, h0] <;> rfl)
theorem u_s_l12Room (k : Nat) (a0 : TL01Cur) (a1 : List Int) : runX (c_s_l12Room k) fin_s_l12Room k 31 (pArgsV 1 [.box yL01Cur, .imm (.slice 5 (.int .u8))] (a0, a1, ())) (ms1 [.box yL01Cur, .imm (.slice 5 (.int .u8))] (a0, a1, ())) = g_s_l12Room k (V0_s_l12Room k k) a0 a1 := by kernel_rfl
theorem r_s_l12Room (k : Nat) (a0 : TL01Cur) (a1 : List Int) : runX (c_s_l12Room k) fin_s_l12Room k 31 (pArgsV 1 [.box yL01Cur, .imm (.slice 5 (.int .u8))] (a0, a1, ())) (ms1 [.box yL01Cur, .imm (.slice 5 (.int .u8))] (a0, a1, ())) = s_l12Room k a0 a1 := by rw [u_s_l12Room, show V0_s_l12Room k k = l0_s_l12Room k k from (e_s_l12Room k k)] <;> rfl
noncomputable def sp_s_l12Room (k : Nat) : MSpec := .box yL01Cur fun (a0 : TL01Cur) => .imm (.slice 5 (.int .u8)) fun (a1 : List Int) => .body (s_l12Room k a0 a1) (fun r => outV [yRoom] [true, true, true] r.1) (fun r => poV [.box yL01Cur, .imm (.slice 5 (.int .u8))] r.2)
noncomputable def c_s_l10Pair (k : Nat) : Cfg := { eqs := [], tab := [(3, (.int .i64)), (24, (.slice 34 yEvent)), (25, (.slice 30 (.slice 52 yItem))), (28, yRoom), (30, (.slice 52 yItem)), (32, (.slice 3 (.int .i64))), (52, yItem)], spec := [(86, sp_s_l09CopyList k)], mspec := [(31, sp_s_l12Room k), (64, sp_s_l01PickInt k), (78, sp_s_l01Below k)], inl := [(63, Try.f63)], keep := [], join := [], hold := [], ptrs := [], maps := [], fuel := k }
noncomputable def fin_s_l10Pair : VV → Ms → Option ((List TEvent × List TItem) × TL01Cur × Unit) := finM [(.slice 34 yEvent), (.slice 52 yItem)] [true, true] [.box yL01Cur, .imm (.slice 5 (.int .u8))]
theorem r_s_l10Pair (k : Nat) (a0 : TL01Cur) (a1 : List Int) : runX (c_s_l10Pair k) fin_s_l10Pair k 63 (pArgsV 1 [.box yL01Cur, .imm (.slice 5 (.int .u8))] (a0, a1, ())) (ms1 [.box yL01Cur, .imm (.slice 5 (.int .u8))] (a0, a1, ())) = s_l10Pair k a0 a1 := by kernel_rfl
noncomputable def sp_s_l10Pair (k : Nat) : MSpec := .box yL01Cur fun (a0 : TL01Cur) => .imm (.slice 5 (.int .u8)) fun (a1 : List Int) => .body (s_l10Pair k a0 a1) (fun r => outV [(.slice 34 yEvent), (.slice 52 yItem)] [true, true] r.1) (fun r => poV [.box yL01Cur, .imm (.slice 5 (.int .u8))] r.2)
noncomputable def c_s_DrawPut (k : Nat) : Cfg := { eqs := [], tab := [(3, (.int .i64)), (5, (.int .u8)), (22, (.slice 5 (.int .u8))), (32, (.slice 3 (.int .i64))), (83, yL01Cur)], spec := [], mspec := [(63, sp_s_l10Pair k), (64, sp_s_l01PickInt k)], inl := [(24, Try.f24), (32, Try.f32)], keep := [(3200002003, [0, 3, 4])], join := [], hold := [], ptrs := [], maps := [], fuel := k }
noncomputable def fin_s_DrawPut : VV → Ms → Option (List TItem × Int × Int) := finV [(.slice 52 yItem), (.int .i64), (.int .i64)] [true]
noncomputable def V0_s_DrawPut (k n : Nat) (a0 : List Int) (v1 : Int) (v2 : Int) : Option (List TItem × Int × Int) := lpN (c_s_DrawPut k) fin_s_DrawPut n true 3200002003 (cd [1, 1, 0, 1, 0, 0] (bo Try.f32)) [.b 0, .s (cd [1, 1, 1] (bo Try.f32)), .fn Try.f32, .op (rg (cd [1, 0] (bo Try.f24))) ((rg (cd [1, 0] (bo Try.f24))).drop 2) 2 (some 9), .s (cd [1, 1] (bo Try.f24)), .fn Try.f24] ⟨⟨(mkT 32 0 [(0, one (.slc 5 (.int .u8) a0)), (3, one (.int .i64 v1)), (4, one (.int .i64 v2))]), []⟩, 3200002000, 2, [(2400001000, (mkT 23 0 [(0, one (.slc 5 (.int .u8) a0)), (2, one (.nilS)), (3, one (.int .i64 0)), (4, one (.int .i64 0)), (8, one (.slc 5 (.int .u8) a0))])), (0, (mkT 0 0 []))]⟩
theorem t0_s_DrawPut (k n : Nat) (a0 : List Int) (v1 : Int) (v2 : Int) : V0_s_DrawPut k (n + 1) a0 v1 v2 = b0_s_DrawPut k (V0_s_DrawPut k n) a0 v1 v2 := by kernel_rfl
theorem e_s_DrawPut (k : Nat) : ∀ n : Nat, V0_s_DrawPut k n = l0_s_DrawPut k n
  | 0 => (by funext a0 v1 v2; rfl)
  | n + 1 => by
    obtain h0 := e_s_DrawPut k n
    exact (by funext a0 v1 v2; rw [t0_s_DrawPut, h0] <;> rfl)
theorem u_s_DrawPut (k : Nat) (a0 : List Int) : runX (c_s_DrawPut k) fin_s_DrawPut k 24 [argV (.slice 5 (.int .u8)) a0] ms0 = g_s_DrawPut k (V0_s_DrawPut k k) a0 := by kernel_rfl
theorem r_s_DrawPut (k : Nat) (a0 : List Int) : runX (c_s_DrawPut k) fin_s_DrawPut k 24 [argV (.slice 5 (.int .u8)) a0] ms0 = s_DrawPut k a0 := by rw [u_s_DrawPut, show V0_s_DrawPut k k = l0_s_DrawPut k k from (e_s_DrawPut k k)] <;> rfl
noncomputable def sp_s_DrawPut (k : Nat) : Spec := .imm (.slice 5 (.int .u8)) fun (a0 : List Int) => .body (s_DrawPut k a0) (outV [(.slice 52 yItem), (.int .i64), (.int .i64)] [true])
noncomputable def c_i_within (k : Nat) : Cfg := { eqs := [], tab := [], spec := [], mspec := [], inl := [(60, Try.f60)], keep := [], join := [], hold := [], ptrs := [], maps := [], fuel := k }
noncomputable def fin_i_within : VV → Ms → Option Bool := finV [.bool] []
theorem r_i_within (k : Nat) (a0 : Int) (a1 : Int) (a2 : Int) : runX (c_i_within k) fin_i_within k 60 [argV (.int .i64) a0, argV (.int .i64) a1, argV (.int .i64) a2] ms0 = i_within k a0 a1 a2 := by kernel_rfl
noncomputable def sp_i_within (k : Nat) : Spec := .imm (.int .i64) fun (a0 : Int) => .imm (.int .i64) fun (a1 : Int) => .imm (.int .i64) fun (a2 : Int) => .body (i_within k a0 a1 a2) (outV [.bool] [])
noncomputable def c_i_StateOk (k : Nat) : Cfg := { eqs := [], tab := [(3, (.int .i64)), (30, (.slice 52 yItem)), (52, yItem)], spec := [(60, sp_i_within k)], mspec := [], inl := [(28, Try.f28)], keep := [(2800001002, [0, 5, 6, 7])], join := [], hold := [], ptrs := [], maps := [], fuel := k }
noncomputable def fin_i_StateOk : VV → Ms → Option Bool := finV [.bool] []
noncomputable def V0_i_StateOk (k n : Nat) (a0 : List TItem) (v1 : Int) : Option Bool := lpN (c_i_StateOk k) fin_i_StateOk n true 2800001002 (cd [1, 0, 1, 0, 0] (bo Try.f28)) [.b 0, .s (cd [1, 1] (bo Try.f28)), .fn Try.f28] ⟨⟨(mkT 47 0 [(0, one (.slc 52 yItem a0)), (5, one (.slc 52 yItem a0)), (6, one (.int .i64 (a0.length : Int))), (7, one (.int .i64 v1))]), []⟩, 2800001000, 1, [(0, (mkT 0 0 []))]⟩
theorem t0_i_StateOk (k n : Nat) (a0 : List TItem) (v1 : Int) : V0_i_StateOk k (n + 1) a0 v1 = b0_i_StateOk k (V0_i_StateOk k n) a0 v1 := by kernel_rfl
theorem e_i_StateOk (k : Nat) : ∀ n : Nat, V0_i_StateOk k n = l0_i_StateOk k n
  | 0 => (by funext a0 v1; rfl)
  | n + 1 => by
    obtain h0 := e_i_StateOk k n
    exact (by funext a0 v1; rw [t0_i_StateOk, h0] <;> rfl)
theorem u_i_StateOk (k : Nat) (a0 : List TItem) : runX (c_i_StateOk k) fin_i_StateOk k 28 [argV (.slice 52 yItem) a0] ms0 = g_i_StateOk k (V0_i_StateOk k k) a0 := by kernel_rfl
theorem r_i_StateOk (k : Nat) (a0 : List TItem) : runX (c_i_StateOk k) fin_i_StateOk k 28 [argV (.slice 52 yItem) a0] ms0 = i_StateOk k a0 := by rw [u_i_StateOk, show V0_i_StateOk k k = l0_i_StateOk k k from (e_i_StateOk k k)] <;> rfl
noncomputable def sp_i_StateOk (k : Nat) : Spec := .imm (.slice 52 yItem) fun (a0 : List TItem) => .body (i_StateOk k a0) (outV [.bool] [])
noncomputable def sp_slices_Insert_impl_Item_impl_Item (k : Nat) : MSpec := .row 52 yItem fun (a0 : List TItem) => .imm (.int .i64) fun (a1 : Int) => .imm (.slice 52 yItem) fun (a2 : List TItem) => .body (slices_Insert_impl_Item_impl_Item k a0 a1 a2) (fun r => [(false, [.own 52 yItem r])]) (fun _ => [.gone])
noncomputable def c_i_Put (k : Nat) : Cfg := { eqs := [], tab := [(3, (.int .i64)), (30, (.slice 52 yItem)), (52, yItem)], spec := [(28, sp_i_StateOk k)], mspec := [(65, sp_slices_Insert_impl_Item_impl_Item k)], inl := [(25, Try.f25)], keep := [(2500001003, [0, 1, 2, 7, 8])], join := [], hold := [], ptrs := [], maps := [], fuel := k }
noncomputable def fin_i_Put : VV → Ms → Option (List TItem) := finV [(.slice 52 yItem)] [true]
noncomputable def V0_i_Put (k n : Nat) (a0 : List TItem) (a1 : Int) (a2 : Int) (v1 : Int) : Option (List TItem) := lpN (c_i_Put k) fin_i_Put n true 2500001003 (cd [1, 1, 1, 0, 0, 0] (bo Try.f25)) [.b 0, .s (cd [1, 1, 1, 1] (bo Try.f25)), .fn Try.f25] ⟨⟨(mkT 62 0 [(0, one (.slc 52 yItem a0)), (1, one (.int .i64 a1)), (2, one (.int .i64 a2)), (7, one (.row 9000000 none none)), (8, one (.int .i64 v1))]), [(9000000, .row 52 yItem a0 true)]⟩, 2500001000, 1, [(0, (mkT 0 0 []))]⟩
theorem t0_i_Put (k n : Nat) (a0 : List TItem) (a1 : Int) (a2 : Int) (v1 : Int) : V0_i_Put k (n + 1) a0 a1 a2 v1 = b0_i_Put k (V0_i_Put k n) a0 a1 a2 v1 := by kernel_rfl
theorem e_i_Put (k : Nat) : ∀ n : Nat, V0_i_Put k n = l0_i_Put k n
  | 0 => (by funext a0 a1 a2 v1; rfl)
  | n + 1 => by
    obtain h0 := e_i_Put k n
    exact (by funext a0 a1 a2 v1; rw [t0_i_Put, h0] <;> rfl)
theorem u_i_Put (k : Nat) (a0 : List TItem) (a1 : Int) (a2 : Int) : runX (c_i_Put k) fin_i_Put k 25 [argV (.slice 52 yItem) a0, argV (.int .i64) a1, argV (.int .i64) a2] ms0 = g_i_Put k (V0_i_Put k k) a0 a1 a2 := by kernel_rfl
theorem r_i_Put (k : Nat) (a0 : List TItem) (a1 : Int) (a2 : Int) : runX (c_i_Put k) fin_i_Put k 25 [argV (.slice 52 yItem) a0, argV (.int .i64) a1, argV (.int .i64) a2] ms0 = i_Put k a0 a1 a2 := by rw [u_i_Put, show V0_i_Put k k = l0_i_Put k k from (e_i_Put k k)] <;> rfl
noncomputable def sp_i_Put (k : Nat) : Spec := .imm (.slice 52 yItem) fun (a0 : List TItem) => .imm (.int .i64) fun (a1 : Int) => .imm (.int .i64) fun (a2 : Int) => .body (i_Put k a0 a1 a2) (outV [(.slice 52 yItem)] [true])
noncomputable def c_l_sameState (k : Nat) : Cfg := { eqs := [52], tab := [(30, (.slice 52 yItem)), (52, yItem)], spec := [], mspec := [], inl := [(26, Try.f26)], keep := [(2600001004, [0, 1, 5])], join := [], hold := [], ptrs := [], maps := [], fuel := k }
noncomputable def fin_l_sameState : VV → Ms → Option Bool := finV [.bool] []
noncomputable def V0_l_sameState (k n : Nat) (a0 : List TItem) (a1 : List TItem) (v1 : Int) : Option Bool := lpN (c_l_sameState k) fin_l_sameState n true 2600001004 (cd [1, 1, 0, 1, 0, 0] (bo Try.f26)) [.b 0, .s (cd [1, 1, 1] (bo Try.f26)), .fn Try.f26] ⟨⟨(mkT 26 0 [(0, one (.slc 52 yItem a0)), (1, one (.slc 52 yItem a1)), (5, one (.int .i64 v1))]), []⟩, 2600001000, 1, [(0, (mkT 0 0 []))]⟩
theorem t0_l_sameState (k n : Nat) (a0 : List TItem) (a1 : List TItem) (v1 : Int) : V0_l_sameState k (n + 1) a0 a1 v1 = b0_l_sameState k (V0_l_sameState k n) a0 a1 v1 := by kernel_rfl
theorem e_l_sameState (k : Nat) : ∀ n : Nat, V0_l_sameState k n = l0_l_sameState k n
  | 0 => (by funext a0 a1 v1; rfl)
  | n + 1 => by
    obtain h0 := e_l_sameState k n
    exact (by funext a0 a1 v1; rw [t0_l_sameState, h0] <;> rfl)
theorem u_l_sameState (k : Nat) (a0 : List TItem) (a1 : List TItem) : runX (c_l_sameState k) fin_l_sameState k 26 [argV (.slice 52 yItem) a0, argV (.slice 52 yItem) a1] ms0 = g_l_sameState k (V0_l_sameState k k) a0 a1 := by kernel_rfl
theorem r_l_sameState (k : Nat) (a0 : List TItem) (a1 : List TItem) : runX (c_l_sameState k) fin_l_sameState k 26 [argV (.slice 52 yItem) a0, argV (.slice 52 yItem) a1] ms0 = l_sameState k a0 a1 := by rw [u_l_sameState, show V0_l_sameState k k = l0_l_sameState k k from (e_l_sameState k k)] <;> rfl
noncomputable def sp_l_sameState (k : Nat) : Spec := .imm (.slice 52 yItem) fun (a0 : List TItem) => .imm (.slice 52 yItem) fun (a1 : List TItem) => .body (l_sameState k a0 a1) (outV [.bool] [])
noncomputable def c_i_At (k : Nat) : Cfg := { eqs := [], tab := [(3, (.int .i64)), (30, (.slice 52 yItem)), (52, yItem)], spec := [], mspec := [], inl := [(30, Try.f30)], keep := [(3000001002, [1, 7, 8, 9])], join := [], hold := [], ptrs := [], maps := [], fuel := k }
noncomputable def fin_i_At : VV → Ms → Option Int := finV [(.int .i64)] []
noncomputable def V0_i_At (k n : Nat) (a1 : Int) (a0 : List TItem) (v1 : Int) : Option Int := lpN (c_i_At k) fin_i_At n true 3000001002 (cd [1, 0, 1, 0, 0] (bo Try.f30)) [.b 0, .s (cd [1, 1] (bo Try.f30)), .fn Try.f30] ⟨⟨(mkT 20 0 [(1, one (.int .i64 a1)), (7, one (.slc 52 yItem a0)), (8, one (.int .i64 (a0.length : Int))), (9, one (.int .i64 v1))]), []⟩, 3000001000, 1, [(0, (mkT 0 0 []))]⟩
theorem t0_i_At (k n : Nat) (a1 : Int) (a0 : List TItem) (v1 : Int) : V0_i_At k (n + 1) a1 a0 v1 = b0_i_At k (V0_i_At k n) a1 a0 v1 := by kernel_rfl
theorem e_i_At (k : Nat) : ∀ n : Nat, V0_i_At k n = l0_i_At k n
  | 0 => (by funext a1 a0 v1; rfl)
  | n + 1 => by
    obtain h0 := e_i_At k n
    exact (by funext a1 a0 v1; rw [t0_i_At, h0] <;> rfl)
theorem u_i_At (k : Nat) (a0 : List TItem) (a1 : Int) : runX (c_i_At k) fin_i_At k 30 [argV (.slice 52 yItem) a0, argV (.int .i64) a1] ms0 = g_i_At k (V0_i_At k k) a0 a1 := by kernel_rfl
theorem r_i_At (k : Nat) (a0 : List TItem) (a1 : Int) : runX (c_i_At k) fin_i_At k 30 [argV (.slice 52 yItem) a0, argV (.int .i64) a1] ms0 = i_At k a0 a1 := by rw [u_i_At, show V0_i_At k k = l0_i_At k k from (e_i_At k k)] <;> rfl
noncomputable def sp_i_At (k : Nat) : Spec := .imm (.slice 52 yItem) fun (a0 : List TItem) => .imm (.int .i64) fun (a1 : Int) => .body (i_At k a0 a1) (outV [(.int .i64)] [])
noncomputable def c_l_FnStates (k : Nat) : Cfg := { eqs := [], tab := [(3, (.int .i64)), (4, .bool), (30, (.slice 52 yItem)), (52, yItem)], spec := [(8, sp_l_big k), (24, sp_s_DrawPut k), (25, sp_i_Put k), (26, sp_l_sameState k), (27, sp_s_Put k), (28, sp_i_StateOk k), (29, sp_s_StateOk k), (30, sp_i_At k)], mspec := [], inl := [(7, Try.f7)], keep := [(700001012, [3, 4, 6, 7])], join := [], hold := [], ptrs := [], maps := [], fuel := k }
noncomputable def fin_l_FnStates : VV → Ms → Option Bool := finV [.bool] []
noncomputable def V0_l_FnStates (k n : Nat) (r2 : List TItem × Int × Int) (v1 : Int) (r3 : List TItem) : Option Bool := lpN (c_l_FnStates k) fin_l_FnStates n true 700001012 (cd [1, 1, 1, 1, 1, 1, 1, 0, 1, 0, 0] (bo Try.f7)) [.b 0, .s (cd [1, 1, 1, 1, 1, 1, 1, 1] (bo Try.f7)), .fn Try.f7] ⟨⟨(mkT 81 0 [(3, one (.row 9000000 none none)), (4, one (.int .i64 r2.2.1)), (6, one (.row 9000001 none none)), (7, one (.int .i64 v1))]), [(9000000, .row 52 yItem r2.1 true), (9000001, .row 52 yItem r3 true)]⟩, 700001000, 1, [(0, (mkT 0 0 []))]⟩
theorem t0_l_FnStates (k n : Nat) (r2 : List TItem × Int × Int) (v1 : Int) (r3 : List TItem) : V0_l_FnStates k (n + 1) r2 v1 r3 = b0_l_FnStates k (V0_l_FnStates k n) r2 v1 r3 := by kernel_rfl
theorem e_l_FnStates (k : Nat) : ∀ n : Nat, V0_l_FnStates k n = l0_l_FnStates k n
  | 0 => (by funext r2 v1 r3; rfl)
  | n + 1 => by
    obtain h0 := e_l_FnStates k n
    exact (by funext r2 v1 r3; rw [t0_l_FnStates, h0] <;> rfl)
theorem u_l_FnStates (k : Nat) (a0 : List Int) : runX (c_l_FnStates k) fin_l_FnStates k 7 [argV (.slice 5 (.int .u8)) a0] ms0 = g_l_FnStates k (V0_l_FnStates k k) a0 := by kernel_rfl
theorem r_l_FnStates (k : Nat) (a0 : List Int) : runX (c_l_FnStates k) fin_l_FnStates k 7 [argV (.slice 5 (.int .u8)) a0] ms0 = l_FnStates k a0 := by rw [u_l_FnStates, show V0_l_FnStates k k = l0_l_FnStates k k from (e_l_FnStates k k)] <;> rfl
noncomputable def sp_l_FnStates (k : Nat) : Spec := .imm (.slice 5 (.int .u8)) fun (a0 : List Int) => .body (l_FnStates k a0) (outV [.bool] [])
end Go.Vm
